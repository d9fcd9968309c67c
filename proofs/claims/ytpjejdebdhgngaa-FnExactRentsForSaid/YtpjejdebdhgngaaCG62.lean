/-
  Contracts: all rankings (both programs), the worth of a choice of rooms (both programs). No condition.
-/
import Derived.Test.YtpjejdebdhgngaaCG61
import Derived.Test.YtpjejdebdhgngaaCG36
import Derived.Test.YtpjejdebdhgngaaCG4
import Derived.Test.YtpjejdebdhgngaaCK4
namespace Go.Proofs.Ytpjejdebdhgngaa.Ax
open Go Go.RowKit
set_option linter.unusedSimpArgs false

/-- Each person a room, no more. -/
def rmPre (xss : List (Bool × List Int)) (l : List Int) : Prop := l.length ≤ xss.length ∧ ∀ i, i < l.length → 0 ≤ l.getD i 0 ∧ l.getD i 0 < ((xss.getD i (true, [])).2.length : Int)

noncomputable def mRoomV : List AV → Option AV := mk (fun p => rmPre p.2.1 p.2.2.2) (fun (p : (Bool) × (List (Bool × List Int)) × (Bool) × (List Int)) => [intss p.1 p.2.1, ints p.2.2.1 p.2.2.2]) (fun p => int (awTo p.2.1 p.2.2.2 p.2.2.2.length))
theorem mRoomV_at (nl : Bool) (xss : List (Bool × List Int)) (nl' : Bool) (l : List Int) (hpre : rmPre xss l) : mRoomV [.sl nl 1 (xss.map row), .sl nl' 1 (l.map int)] = some (.v (.int .i64 (awTo xss l l.length))) :=
  mk_eq (enc := fun (p : (Bool) × (List (Bool × List Int)) × (Bool) × (List Int)) => [intss p.1 p.2.1, ints p.2.2.1 p.2.2.2]) (x := (nl, xss, nl', l)) (by rintro ⟨a0, a1, a2, a3⟩ ⟨b0, b1, b2, b3⟩ h; simp [ints, intss, int, bool, row, frac, fracs, map_int_inj, map_row_inj, frac_inj, map_frac_inj] at h; simp [h]) hpre

set_option maxHeartbeats 1000000 in
theorem roomValue_ok : FnOk Try.prog 138 mRoomV := by
  refine mk_ok fun ⟨nl, xss, nl', l⟩ ⟨hp1, hp2⟩ => ?_
  simp only at hp1 hp2
  have hG : FnsOk Try.prog [] := .nil
  refine callOk_awp (ctx_ok eqOk hG) mixed (live := [true, true, false, false, true, true, true, true, true, true, true, true]) (dt := []) Try.func138 rfl (by kernel_rfl) (by kernel_rfl) fun w0 hlens => ?_
  have hl : l.length ≤ 9223372036854775807 := (lens_ints.1 hlens.2.1).1
  clear hlens
  simp (config := {contextual := true}) [Try.f138, List.range, List.range.loop, ints, intss, int, bool, row, frac, fracs, ← List.map_take, ← List.map_drop]
  refine awp_range (live := [true, true, false, false, true, true, true, true, true, true, true, true]) (ctx_ok eqOk hG) mixed [true, false, false, false, false, true, false, false, true, true, true] (l.length) (fun k => True) (fun k => ⟨[intss nl xss, .junk, .junk, .junk, .junk, int (awTo xss l k), .junk, .junk, ints nl' l, int l.length, int k, .junk, .junk, .junk, .junk, .junk, .junk, .junk, .junk, .junk, .junk, .junk, .junk, .junk, .junk, .junk], []⟩) ?_ (by simp [sub, slotsLe, clean, keep, refsL, refs, once, place, renL, ren, List.replicate, int, bool, intss, ints, awTo]) ?_ ?_ ?_
  · exact hl
  · trivial
  · intro k h _ hw
    have hk : k < xss.length := by omega
    obtain ⟨h0, hr⟩ := hp2 k h
    rw [getD_at h] at h0
    rw [getD_at h, List.getD_eq_getElem?_getD, List.getElem?_eq_getElem hk] at hr
    simp only [Option.getD_some] at hr
    have hg : xss[k].2[l[k].toNat]? = some (ent xss k l[k]) := ent_get hk (by omega)
    have e : awTo xss l (k + 1) = IntKind.i64.wrap (awTo xss l k + ent xss k l[k]) := by rw [awTo, getD_at h, if_pos h0]
    simp (config := {contextual := true}) [List.range, List.range.loop, ints, intss, int, bool, row, frac, fracs, ← List.map_take, ← List.map_drop, h, hw, Nat.le_of_lt h, hk, hg, e, h0]
  · intro _
    simp (config := {contextual := true}) [List.range, List.range.loop, ints, intss, int, bool, row, frac, fracs, ← List.map_take, ← List.map_drop]

set_option maxHeartbeats 1000000 in
theorem l25Value_ok : FnOk Try.prog 134 mRoomV := by
  refine mk_ok fun ⟨nl, xss, nl', l⟩ ⟨hp1, hp2⟩ => ?_
  simp only at hp1 hp2
  have hG : FnsOk Try.prog [] := .nil
  refine callOk_awp (ctx_ok eqOk hG) mixed (live := [true, true, false, false, true, true, true, true, true, true, true, true]) (dt := []) Try.func134 rfl (by kernel_rfl) (by kernel_rfl) fun w0 hlens => ?_
  have hl : l.length ≤ 9223372036854775807 := (lens_ints.1 hlens.2.1).1
  clear hlens
  simp (config := {contextual := true}) [Try.f134, List.range, List.range.loop, ints, intss, int, bool, row, frac, fracs, ← List.map_take, ← List.map_drop]
  refine awp_range (live := [true, true, false, false, true, true, true, true, true, true, true, true]) (ctx_ok eqOk hG) mixed [true, false, false, false, false, true, false, false, true, true, true] (l.length) (fun k => True) (fun k => ⟨[intss nl xss, .junk, .junk, .junk, .junk, int (awTo xss l k), .junk, .junk, ints nl' l, int l.length, int k, .junk, .junk, .junk, .junk, .junk, .junk, .junk, .junk, .junk, .junk, .junk, .junk, .junk, .junk, .junk], []⟩) ?_ (by simp [sub, slotsLe, clean, keep, refsL, refs, once, place, renL, ren, List.replicate, int, bool, intss, ints, awTo]) ?_ ?_ ?_
  · exact hl
  · trivial
  · intro k h _ hw
    have hk : k < xss.length := by omega
    obtain ⟨h0, hr⟩ := hp2 k h
    rw [getD_at h] at h0
    rw [getD_at h, List.getD_eq_getElem?_getD, List.getElem?_eq_getElem hk] at hr
    simp only [Option.getD_some] at hr
    have hg : xss[k].2[l[k].toNat]? = some (ent xss k l[k]) := ent_get hk (by omega)
    have e : awTo xss l (k + 1) = IntKind.i64.wrap (awTo xss l k + ent xss k l[k]) := by rw [awTo, getD_at h, if_pos h0]
    simp (config := {contextual := true}) [List.range, List.range.loop, ints, intss, int, bool, row, frac, fracs, ← List.map_take, ← List.map_drop, h, hw, Nat.le_of_lt h, hk, hg, e, h0]
  · intro _
    simp (config := {contextual := true}) [List.range, List.range.loop, ints, intss, int, bool, row, frac, fracs, ← List.map_take, ← List.map_drop]

theorem orders_all : ∀ n, n ≤ 5 → FnOk Try.prog 120 (mOrd n)
  | 0, _ => orders_zero
  | n + 1, h => orders_succ (by omega) (orders_all n (by omega))

/-- The rankings that begin with l and have r more places, in the reference's order. -/
def l03L (m : Nat) : Nat → List Int → List (Bool × List Int)
  | 0, l => [(false, l)]
  | r + 1, l => (List.range m).flatMap fun (i : Nat) => if pos l (i : Int) < 0 then l03L m r (l ++ [(i : Int)]) else []
def l03To (m r : Nat) (l : List Int) (k : Nat) : List (Bool × List Int) := (List.range k).flatMap fun (i : Nat) => if pos l (i : Int) < 0 then l03L m r (l ++ [(i : Int)]) else []
theorem l03To_succ {m r : Nat} {l : List Int} {k : Nat} : l03To m r l (k + 1) = l03To m r l k ++ (if pos l (k : Int) < 0 then l03L m r (l ++ [(k : Int)]) else []) := by
  unfold l03To; rw [List.range_succ, List.flatMap_append]; simp
theorem l03To_all {m r : Nat} {l : List Int} : l03To m r l m = l03L m (r + 1) l := rfl
theorem l03To_le {m r : Nat} {l : List Int} : ∀ {k j : Nat}, k ≤ j → (l03To m r l k).length ≤ (l03To m r l j).length
  | k, 0, h => by rw [Nat.le_zero.1 h]; exact Nat.le_refl _
  | k, j + 1, h => by
    rcases Nat.lt_or_ge k (j + 1) with h' | h'
    · have := l03To_le (m := m) (r := r) (l := l) (show k ≤ j by omega)
      rw [l03To_succ, List.length_append]; omega
    · rw [show k = j + 1 by omega]; exact Nat.le_refl _

theorem rankings_eq : ∀ m, m ≤ 5 → 1 ≤ m → ordR m (idx m) = l03L m m []
  | 1, _, _ => by decide +kernel
  | 2, _, _ => by decide +kernel
  | 3, _, _ => by decide +kernel
  | 4, _, _ => by decide +kernel
  | 5, _, _ => by decide +kernel
  | 0, _, h => by omega
  | m + 6, h, _ => by omega

/-- What the search from the front is asked; o: the rows so far. -/
def LR (o : List (Bool × List Int)) (l : List Int) (m : Int) (r : Nat) : Prop := ((l.length + r : Nat) : Int) = m ∧ m ≤ 5 ∧ o.length + (l03L m.toNat r l).length ≤ 100000

noncomputable def mL03 (r : Nat) : List AV → Option (List Nat × AV) := mkV (fun p => LR p.1 p.2.1 p.2.2 r) (fun (p : List (Bool × List Int) × List Int × Int) => [intss false p.1, ints false p.2.1, int p.2.2]) [0, 1] (fun p => intss false (p.1 ++ l03L p.2.2.toNat r p.2.1))
theorem mL03_at (r : Nat) (o : List (Bool × List Int)) (l : List Int) (m : Int) (h : LR o l m r) : mL03 r [.sl false 1 (o.map row), .sl false 1 (l.map int), .v (.int .i64 m)] = some ([0, 1], .sl false 1 ((o ++ l03L m.toNat r l).map row)) :=
  mkV_eq (enc := fun (p : List (Bool × List Int) × List Int × Int) => [intss false p.1, ints false p.2.1, int p.2.2]) (x := (o, l, m)) (by rintro ⟨a, b, c⟩ ⟨e, f, g⟩ h; simp [intss, ints, int, map_row_inj, map_int_inj] at h; simp [h]) h

set_option maxHeartbeats 1000000 in
theorem l03All_zero : (FnMov Try.prog 118 (mL03 0)) := by
  refine mkV_ok fun ⟨o, l, m⟩ h => ?_
  simp only at h
  have hG : FnsOk Try.prog [(143, mPos)] := (.cons placeOf_ok .nil)
  refine movOk_awp (ctx_ok eqOk hG) mixed (live := [true, true, true, false, false, false, true, true, false, false, false, true, false, false, false, false, false, false, true, false, false, false, false, false, true]) (dt := []) (mv := [0,1]) Try.func118 rfl (by kernel_rfl) (by kernel_rfl) fun US w0 hlens => ?_
  simp only [List.map, List.getD_cons_zero, List.getD_cons_succ, internL, intern, setSl, List.set, List.length_nil, List.nil_append, List.length_map]
  clear hlens
  have hl : (l.length : Int) = m := h.1
  have hb := h.2.2
  simp only [l03L, List.length_cons, List.length_nil] at hb
  have hb2 : o.length + 1 ≤ 4611686018427387904 ∧ (o.length + 1) * 24 ≤ 140737488355328 := by omega
  simp (config := {contextual := true, maxSteps := 1000000}) [Try.f118, List.range, List.range.loop, ints, intss, int, bool, row, frac, fracs, ← List.map_take, ← List.map_drop, List.all, hl, l03L, hb2]
  done

set_option maxHeartbeats 2000000 in
theorem l03All_succ {r : Nat} (ih : FnMov Try.prog 118 (mL03 r)) : (FnMov Try.prog 118 (mL03 (r + 1))) := by
  refine mkV_ok fun ⟨o, l, m'⟩ h => ?_
  simp only at h
  have hG : FnsOk Try.prog [(143, mPos)] := (.cons placeOf_ok .nil)
  have hM : FnsMut Try.prog [] := .nil
  have hV : FnsMov Try.prog [(118, mL03 r)] := (.cons ih .nil)
  refine movOk_awp (ctxV_ok eqOk hG hM hV) mixed (live := [true, true, true, false, false, false, true, true, false, false, false, true, false, false, false, false, false, false, true, false, false, false, false, false, true]) (dt := []) (mv := [0,1]) Try.func118 rfl (by kernel_rfl) (by kernel_rfl) fun US w0 hlens => ?_
  simp only [List.map, List.getD_cons_zero, List.getD_cons_succ, internL, intern, setSl, List.set, List.length_nil, List.nil_append, List.length_map]
  clear hlens
  obtain ⟨m, rfl⟩ : ∃ m : Nat, m' = (m : Int) := ⟨l.length + (r + 1), h.1.symm⟩
  have hm : l.length + (r + 1) = m := by have := h.1; omega
  have hm5 : m ≤ 5 := by have := h.2.1; omega
  have hb := h.2.2
  simp only [Int.toNat_natCast] at hb
  have hl : ¬ ((l.length : Int) = (m : Int)) := by omega
  simp (config := {contextual := true, maxSteps := 1000000}) [Try.f118, List.range, List.range.loop, ints, intss, int, bool, row, frac, fracs, ← List.map_take, ← List.map_drop, List.all, hl]
  refine awp_loop_of (live := [true, true, true, false, false, false, true, true, false, false, false, true, false, false, false, false, false, false, true, false, false, false, false, false, true]) (ctxV_ok eqOk hG hM hV) mixed [true, true, true, false, false, false, false, true] (α := {k : Nat // k ≤ m}) (fun k => ⟨[.ref 0 [] 0 (o ++ l03To m r l k.1).length, .ref 1 [] 0 l.length, int m, .junk, .junk, .junk, .junk, int (k.1 : Int), .junk, .junk, .junk, .junk, .junk, .junk, .junk, .junk, .junk, .junk, .junk, .junk, .junk, .junk, .junk, .junk, .junk, .junk, .junk, .junk, .junk, .junk, .junk, .junk, .junk, .junk, .junk], [⟨true, .sl false 1 ((o ++ l03To m r l k.1).map row)⟩, ⟨true, .sl false 1 (l.map int)⟩]⟩) (fun k => m - k.1) ⟨0, by omega⟩ (by simp [sub, slotsLe, clean, keep, refsL, refs, once, place, renL, ren, List.replicate, int, bool, l03To, intss]) ?_
  rintro ⟨k, hk⟩
  simp only
  have hsucc := l03To_succ (m := m) (r := r) (l := l) (k := k)
  by_cases hkm : k = m
  · subst hkm
    simp (config := {contextual := true, maxSteps := 1000000}) [List.range, List.range.loop, ints, intss, int, bool, row, frac, fracs, ← List.map_take, ← List.map_drop, List.all, l03To_all]
    done
  have hkm2 : k < m := by omega
  have hw : IntKind.i64.wrap ((k : Int) + 1) = (k : Int) + 1 := by rw [wrapI (by omega) (by omega)]
  have hlb : l.length ≤ 4611686018427387904 ∧ l.length * 8 ≤ 140737488355328 := by omega
  have hlb2 : l.length + 1 ≤ 4611686018427387904 ∧ (l.length + 1) * 8 ≤ 140737488355328 := by omega
  by_cases hp : pos l (k : Int) < 0
  · rw [if_pos hp] at hsucc
    have hle := l03To_le (m := m) (r := r) (l := l) (k := k + 1) (j := m) (by omega)
    rw [l03To_all, hsucc, List.length_append] at hle
    have hcall := mL03_at r (o ++ l03To m r l k) (l ++ [(k : Int)]) m ⟨by simp; omega, by omega, by simp only [Int.toNat_natCast, List.length_append] at hb ⊢; omega⟩
    simp only [Int.toNat_natCast, List.append_assoc, ← hsucc, List.map_append, List.map_cons, List.map_nil, int] at hcall
    have htk : List.take (l.length + 1) (l.map int ++ [AV.v (.int .i64 k)]) = l.map int ++ [AV.v (.int .i64 k)] := List.take_of_length_le (by simp)
    have hto : List.take (o.length + (l03To m r l k).length) (o.map row ++ (l03To m r l k).map row) = o.map row ++ (l03To m r l k).map row := List.take_of_length_le (by simp)
    simp (config := {contextual := true, maxSteps := 1000000}) [List.range, List.range.loop, ints, intss, int, bool, row, frac, fracs, ← List.map_take, ← List.map_drop, List.all, hkm2, hw, mPos_at, hp, hlb, hlb2, htk, hto, hcall]
    exact ⟨⟨k + 1, by omega⟩, by simp [sub, slotsLe, clean, keep, refsL, refs, once, place, renL, ren, List.replicate, int, bool], by simp; omega⟩
  · rw [if_neg hp, List.append_nil] at hsucc
    simp (config := {contextual := true, maxSteps := 1000000}) [List.range, List.range.loop, ints, intss, int, bool, row, frac, fracs, ← List.map_take, ← List.map_drop, List.all, hkm2, hw, mPos_at, hp]
    exact ⟨⟨k + 1, by omega⟩, by simp [sub, slotsLe, clean, keep, refsL, refs, once, place, renL, ren, List.replicate, int, bool, hsucc], by simp; omega⟩

end Go.Proofs.Ytpjejdebdhgngaa.Ax
