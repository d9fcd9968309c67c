/-
  Contracts: all rankings (both programs), the worth of a choice of rooms (both programs). No condition.
-/
import Derived.Test.YtkfgmpmeipilnaaCG2
import Derived.Test.YtkfgmpmeipilnaaCG3
import Derived.Test.YtkfgmpmeipilnaaCG1
import Derived.Test.YtkfgmpmeipilnaaCK4
namespace Go.Proofs.Ytkfgmpmeipilnaa.Ax
open Go Go.RowKit
set_option linter.unusedSimpArgs false

/-- Each person a room, no more. -/
def rmPre (xss : List (Bool × List Int)) (l : List Int) : Prop := l.length ≤ xss.length ∧ ∀ i, i < l.length → 0 ≤ l.getD i 0 ∧ l.getD i 0 < ((xss.getD i (true, [])).2.length : Int)

noncomputable def mRoomV : List AV → Option AV := mk (fun p => rmPre p.2.1 p.2.2.2) (fun (p : (Bool) × (List (Bool × List Int)) × (Bool) × (List Int)) => [intss p.1 p.2.1, ints p.2.2.1 p.2.2.2]) (fun p => int (awTo p.2.1 p.2.2.2 p.2.2.2.length))
theorem mRoomV_at (nl : Bool) (xss : List (Bool × List Int)) (nl' : Bool) (l : List Int) (hpre : rmPre xss l) : mRoomV [.sl nl 1 (xss.map row), .sl nl' 1 (l.map int)] = some (.v (.int .i64 (awTo xss l l.length))) :=
  mk_eq (enc := fun (p : (Bool) × (List (Bool × List Int)) × (Bool) × (List Int)) => [intss p.1 p.2.1, ints p.2.2.1 p.2.2.2]) (x := (nl, xss, nl', l)) (by rintro ⟨a0, a1, a2, a3⟩ ⟨b0, b1, b2, b3⟩ h; simp [ints, intss, int, bool, row, frac, fracs, map_int_inj, map_row_inj, frac_inj, map_frac_inj] at h; simp [h]) hpre

theorem orders_all : ∀ n, n ≤ 5 → FnOk Try.prog 118 (mOrd n)
  | 0, _ => orders_zero
  | n + 1, h => orders_succ (by omega) (orders_all n (by omega))

/-- The rankings that begin with l and have r more places, in the reference's order. -/
def l03L (m : Nat) : Nat → List Int → List (Bool × List Int)
  | 0, l => [(false, l)]
  | r + 1, l => (List.range m).flatMap fun (i : Nat) => if pos l (i : Int) < 0 then l03L m r (l ++ [(i : Int)]) else []
def l03To (m r : Nat) (l : List Int) (k : Nat) : List (Bool × List Int) := (List.range k).flatMap fun (i : Nat) => if pos l (i : Int) < 0 then l03L m r (l ++ [(i : Int)]) else []
theorem l03To_succ {m r : Nat} {l : List Int} {k : Nat} : l03To m r l (k + 1) = l03To m r l k ++ (if pos l (k : Int) < 0 then l03L m r (l ++ [(k : Int)]) else []) := by
  unfold l03To; rw [List.range_succ, List.flatMap_append]; simp
theorem l03To_all {m r : Nat} {l : List Int} : l03To m r l m = l03L m (r + 1) l := rfl
theorem l03To_le {m r : Nat} {l : List Int} : ∀ {k j : Nat}, k ≤ j → (l03To m r l k).length ≤ (l03To m r l j).length
  | k, 0, h => by rw [Nat.le_zero.1 h]; exact Nat.le_refl _
  | k, j + 1, h => by
    rcases Nat.lt_or_ge k (j + 1) with h' | h'
    · have := l03To_le (m := m) (r := r) (l := l) (show k ≤ j by omega)
      rw [l03To_succ, List.length_append]; omega
    · rw [show k = j + 1 by omega]; exact Nat.le_refl _

theorem rankings_eq : ∀ m, m ≤ 5 → 1 ≤ m → ordR m (idx m) = l03L m m []
  | 1, _, _ => by decide +kernel
  | 2, _, _ => by decide +kernel
  | 3, _, _ => by decide +kernel
  | 4, _, _ => by decide +kernel
  | 5, _, _ => by decide +kernel
  | 0, _, h => by omega
  | m + 6, h, _ => by omega

/-- What the search from the front is asked; o: the rows so far. -/
def LR (o : List (Bool × List Int)) (l : List Int) (m : Int) (r : Nat) : Prop := ((l.length + r : Nat) : Int) = m ∧ m ≤ 5 ∧ o.length + (l03L m.toNat r l).length ≤ 100000

noncomputable def mL03 (r : Nat) : List AV → Option (List Nat × AV) := mkV (fun p => LR p.1 p.2.1 p.2.2 r) (fun (p : List (Bool × List Int) × List Int × Int) => [intss false p.1, ints false p.2.1, int p.2.2]) [0, 1] (fun p => intss false (p.1 ++ l03L p.2.2.toNat r p.2.1))
theorem mL03_at (r : Nat) (o : List (Bool × List Int)) (l : List Int) (m : Int) (h : LR o l m r) : mL03 r [.sl false 1 (o.map row), .sl false 1 (l.map int), .v (.int .i64 m)] = some ([0, 1], .sl false 1 ((o ++ l03L m.toNat r l).map row)) :=
  mkV_eq (enc := fun (p : List (Bool × List Int) × List Int × Int) => [intss false p.1, ints false p.2.1, int p.2.2]) (x := (o, l, m)) (by rintro ⟨a, b, c⟩ ⟨e, f, g⟩ h; simp [intss, ints, int, map_row_inj, map_int_inj] at h; simp [h]) h

set_option maxHeartbeats 1000000 in
theorem l03All_zero : (FnMov Try.prog 117 (mL03 0)) := by
  refine mkV_ok fun ⟨o, l, m⟩ h => ?_
  simp only at h
  have hG : FnsOk Try.prog [(129, mPos)] := (.cons placeOf_ok .nil)
  refine movOk_awp (ctx_ok eqOk hG) mixed (live := [true, true, true, false, false, false, true, true, false, false, false, true, false, false, false, false, false, false, true, false, false, false, false, false, true]) (dt := []) (mv := [0,1]) Try.func117 rfl (by kernel_rfl) (by kernel_rfl) fun US w0 hlens => ?_
  simp only [List.map, List.getD_cons_zero, List.getD_cons_succ, internL, intern, setSl, List.set, List.length_nil, List.nil_append, List.length_map]
  clear hlens
  have hl : (l.length : Int) = m := h.1
  have hb := h.2.2
  simp only [l03L, List.length_cons, List.length_nil] at hb
  have hb2 : o.length + 1 ≤ 4611686018427387904 ∧ (o.length + 1) * 24 ≤ 140737488355328 := by omega
  simp (config := {contextual := true, maxSteps := 1000000}) [Try.f117, List.range, List.range.loop, ints, intss, int, bool, row, frac, fracs, ← List.map_take, ← List.map_drop, List.all, hl, l03L, hb2]
  done

set_option maxHeartbeats 2000000 in
theorem l03All_succ {r : Nat} (ih : FnMov Try.prog 117 (mL03 r)) : (FnMov Try.prog 117 (mL03 (r + 1))) := by
  refine mkV_ok fun ⟨o, l, m'⟩ h => ?_
  simp only at h
  have hG : FnsOk Try.prog [(129, mPos)] := (.cons placeOf_ok .nil)
  have hM : FnsMut Try.prog [] := .nil
  have hV : FnsMov Try.prog [(117, mL03 r)] := (.cons ih .nil)
  refine movOk_awp (ctxV_ok eqOk hG hM hV) mixed (live := [true, true, true, false, false, false, true, true, false, false, false, true, false, false, false, false, false, false, true, false, false, false, false, false, true]) (dt := []) (mv := [0,1]) Try.func117 rfl (by kernel_rfl) (by kernel_rfl) fun US w0 hlens => ?_
  simp only [List.map, List.getD_cons_zero, List.getD_cons_succ, internL, intern, setSl, List.set, List.length_nil, List.nil_append, List.length_map]
  clear hlens
  obtain ⟨m, rfl⟩ : ∃ m : Nat, m' = (m : Int) := ⟨l.length + (r + 1), h.1.symm⟩
  have hm : l.length + (r + 1) = m := by have := h.1; omega
  have hm5 : m ≤ 5 := by have := h.2.1; omega
  have hb := h.2.2
  simp only [Int.toNat_natCast] at hb
  have hl : ¬ ((l.length : Int) = (m : Int)) := by omega
  simp (config := {contextual := true, maxSteps := 1000000}) [Try.f117, List.range, List.range.loop, ints, intss, int, bool, row, frac, fracs, ← List.map_take, ← List.map_drop, List.all, hl]
  refine awp_loop_of (live := [true, true, true, false, false, false, true, true, false, false, false, true, false, false, false, false, false, false, true, false, false, false, false, false, true]) (ctxV_ok eqOk hG hM hV) mixed [true, true, true, false, false, false, false, true] (α := {k : Nat // k ≤ m}) (fun k => ⟨[.ref 0 [] 0 (o ++ l03To m r l k.1).length, .ref 1 [] 0 l.length, int m, .junk, .junk, .junk, .junk, int (k.1 : Int), .junk, .junk, .junk, .junk, .junk, .junk, .junk, .junk, .junk, .junk, .junk, .junk, .junk, .junk, .junk, .junk, .junk, .junk, .junk, .junk, .junk, .junk, .junk, .junk, .junk, .junk, .junk], [⟨true, .sl false 1 ((o ++ l03To m r l k.1).map row)⟩, ⟨true, .sl false 1 (l.map int)⟩]⟩) (fun k => m - k.1) ⟨0, by omega⟩ (by simp [sub, slotsLe, clean, keep, refsL, refs, once, place, renL, ren, List.replicate, int, bool, l03To, intss]) ?_
  rintro ⟨k, hk⟩
  simp only
  have hsucc := l03To_succ (m := m) (r := r) (l := l) (k := k)
  by_cases hkm : k = m
  · subst hkm
    simp (config := {contextual := true, maxSteps := 1000000}) [List.range, List.range.loop, ints, intss, int, bool, row, frac, fracs, ← List.map_take, ← List.map_drop, List.all, l03To_all]
    done
  have hkm2 : k < m := by omega
  have hw : IntKind.i64.wrap ((k : Int) + 1) = (k : Int) + 1 := by rw [wrapI (by omega) (by omega)]
  have hlb : l.length ≤ 4611686018427387904 ∧ l.length * 8 ≤ 140737488355328 := by omega
  have hlb2 : l.length + 1 ≤ 4611686018427387904 ∧ (l.length + 1) * 8 ≤ 140737488355328 := by omega
  by_cases hp : pos l (k : Int) < 0
  · rw [if_pos hp] at hsucc
    have hle := l03To_le (m := m) (r := r) (l := l) (k := k + 1) (j := m) (by omega)
    rw [l03To_all, hsucc, List.length_append] at hle
    have hcall := mL03_at r (o ++ l03To m r l k) (l ++ [(k : Int)]) m ⟨by simp; omega, by omega, by simp only [Int.toNat_natCast, List.length_append] at hb ⊢; omega⟩
    simp only [Int.toNat_natCast, List.append_assoc, ← hsucc, List.map_append, List.map_cons, List.map_nil, int] at hcall
    have htk : List.take (l.length + 1) (l.map int ++ [AV.v (.int .i64 k)]) = l.map int ++ [AV.v (.int .i64 k)] := List.take_of_length_le (by simp)
    have hto : List.take (o.length + (l03To m r l k).length) (o.map row ++ (l03To m r l k).map row) = o.map row ++ (l03To m r l k).map row := List.take_of_length_le (by simp)
    simp (config := {contextual := true, maxSteps := 1000000}) [List.range, List.range.loop, ints, intss, int, bool, row, frac, fracs, ← List.map_take, ← List.map_drop, List.all, hkm2, hw, mPos_at, hp, hlb, hlb2, htk, hto, hcall]
    exact ⟨⟨k + 1, by omega⟩, by simp [sub, slotsLe, clean, keep, refsL, refs, once, place, renL, ren, List.replicate, int, bool], by simp; omega⟩
  · rw [if_neg hp, List.append_nil] at hsucc
    simp (config := {contextual := true, maxSteps := 1000000}) [List.range, List.range.loop, ints, intss, int, bool, row, frac, fracs, ← List.map_take, ← List.map_drop, List.all, hkm2, hw, mPos_at, hp]
    exact ⟨⟨k + 1, by omega⟩, by simp [sub, slotsLe, clean, keep, refsL, refs, once, place, renL, ren, List.replicate, int, bool, hsucc], by simp; omega⟩

end Go.Proofs.Ytkfgmpmeipilnaa.Ax

/-
  Contracts: all rankings, the best choice of rooms (both programs). No condition.
-/
namespace Go.Proofs.Ytkfgmpmeipilnaa.Ax
open Go Go.RowKit
set_option linter.unusedSimpArgs false

/-- All rankings of m, when m is in its range. -/
def allRk (m : Int) : List (Bool × List Int) := if inR 1 5 m = true then l03L m.toNat m.toNat [] else []

noncomputable def mOrdA : List AV → Option AV := mk (fun p => 1 ≤ p.length ∧ p.length ≤ 5) (fun p => [ints false p]) (fun p => .sl false 1 ((ordR p.length p).map row))
theorem mOrdA_at (l : List Int) (h : 1 ≤ l.length ∧ l.length ≤ 5) : mOrdA [.sl false 1 (l.map int)] = some (.sl false 1 ((ordR l.length l).map row)) :=
  mk_eq (enc := fun (p : List Int) => [ints false p]) (x := l) (by intro a b h; simp [ints, map_int_inj] at h; rw [h]) h
theorem ordersA_ok : FnOk Try.prog 118 mOrdA := by
  refine mk_ok fun l h => ?_
  exact orders_all l.length h.2 _ _ (mOrd_at l.length false l ⟨rfl, h.2, fun h => by simp at h⟩)

noncomputable def mL03S : List AV → Option (List Nat × AV) := mkV (fun m => 0 ≤ m ∧ m ≤ 5) (fun (m : Int) => [intss false [], ints false [], int m]) [0, 1] (fun m => intss false (l03L m.toNat m.toNat []))
theorem mL03S_at (m : Int) (h : 0 ≤ m ∧ m ≤ 5) : mL03S [.sl false 1 [], .sl false 1 [], .v (.int .i64 m)] = some ([0, 1], .sl false 1 ((l03L m.toNat m.toNat []).map row)) :=
  mkV_eq (enc := fun (m : Int) => [intss false [], ints false [], int m]) (x := m) (by intro a b h; simp [int] at h; rw [h]) h

theorem l03All_all : ∀ r, FnMov Try.prog 117 (mL03 r)
  | 0 => l03All_zero
  | r + 1 => l03All_succ (l03All_all r)

def rkB (m : Nat) : Bool := decide ((l03L m m []).length ≤ 120) && decide ((l03L m m []).length ≠ 0) && (l03L m m []).all fun r => !r.1 && rankB m r.2
theorem rkB_at : ∀ m, 1 ≤ m → m ≤ 5 → rkB m = true
  | 1, _, _ => by decide +kernel
  | 2, _, _ => by decide +kernel
  | 3, _, _ => by decide +kernel
  | 4, _, _ => by decide +kernel
  | 5, _, _ => by decide +kernel
  | 0, h, _ => by omega
  | m + 6, _, h => by omega

theorem l03L_facts {m : Nat} (h1 : 1 ≤ m) (h5 : m ≤ 5) : (l03L m m []).length ≤ 120 ∧ (l03L m m []).length ≠ 0 ∧ ∀ r ∈ l03L m m [], r.1 = false ∧ rankB m r.2 = true := by
  have := rkB_at m h1 h5
  simp only [rkB, Bool.and_eq_true, decide_eq_true_eq, List.all_eq_true, Bool.not_eq_true'] at this
  exact ⟨this.1.1, this.1.2, this.2⟩

theorem l03AllS_ok : FnMov Try.prog 117 mL03S := by
  refine mkV_ok fun m h => ?_
  have hl : (l03L m.toNat m.toNat []).length ≤ 100000 := by
    rcases Int.lt_or_le 0 m with h0 | h0
    · have := (l03L_facts (m := m.toNat) (by omega) (by omega)).1; omega
    · rw [show m.toNat = 0 by omega]; simp [l03L]
  exact l03All_all m.toNat _ _ _ (mL03_at m.toNat [] [] m ⟨by simp; omega, h.2, by simpa using hl⟩)

noncomputable def mAllRk : List AV → Option AV := mk (fun _ => True) (fun (p : (Int)) => [int p]) (fun p => .sl (!inR 1 5 p) 1 ((allRk p).map row))
theorem mAllRk_at (m : Int) : mAllRk [.v (.int .i64 m)] = some (.sl (!inR 1 5 m) 1 ((allRk m).map row)) :=
  mk_eq (enc := fun (p : (Int)) => [int p]) (x := (m)) (by rintro a0 b0 h; simp [ints, intss, int, bool, row, frac, fracs, map_int_inj, map_row_inj, frac_inj, map_frac_inj] at h; simp [h]) trivial

theorem implAllRankings_ok : FnOk Try.prog 69 mAllRk := by
  refine mk_ok fun m _ => ?_
  have hG : FnsOk Try.prog [(61, mWithin), (119, mIdx), (118, mOrdA)] := (.cons within_ok (.cons indices_ok (.cons ordersA_ok .nil)))
  refine callOk_awp (ctx_ok eqOk hG) mixed (live := [true, false, true, false, false, true]) (dt := []) Try.func69 rfl (by kernel_rfl) (by kernel_rfl) fun w0 hlens => ?_
  clear hlens
  cases h : inR 1 5 m with
  | false => simp (config := {contextual := true}) [Try.f69, List.range, List.range.loop, ints, intss, int, bool, row, frac, fracs, ← List.map_take, ← List.map_drop, mWithin_in, h, allRk]
  | true =>
    have h2 : 1 ≤ m ∧ m ≤ 5 := by simpa [inR] using h
    obtain ⟨n, rfl⟩ : ∃ n : Nat, m = (n : Int) := ⟨m.toNat, by omega⟩
    have hi := mIdx_at n (by omega)
    have ho := mOrdA_at (idx n) (by rw [idx_len]; omega)
    rw [idx_len, rankings_eq n (by omega) (by omega)] at ho
    have htk : List.take n ((idx n).map int) = (idx n).map int := List.take_of_length_le (by simp [idx_len])
    simp (config := {contextual := true}) [Try.f69, List.range, List.range.loop, ints, intss, int, bool, row, frac, fracs, ← List.map_take, ← List.map_drop, mWithin_in, h, allRk, hi, ho, idx_len, htk]

theorem specAllRankings_ok : FnOk Try.prog 67 mAllRk := by
  refine mk_ok fun m _ => ?_
  have hG : FnsOk Try.prog [(56, mWithin)] := (.cons l01In_ok .nil)
  have hM : FnsMut Try.prog [] := .nil
  have hV : FnsMov Try.prog [(117, mL03S)] := (.cons l03AllS_ok .nil)
  refine callOk_awp (ctxV_ok eqOk hG hM hV) mixed (live := [true, false, true, false, false, true]) (dt := []) Try.func67 rfl (by kernel_rfl) (by kernel_rfl) fun w0 hlens => ?_
  clear hlens
  cases h : inR 1 5 m with
  | false => simp (config := {contextual := true}) [Try.f67, List.range, List.range.loop, ints, intss, int, bool, row, frac, fracs, ← List.map_take, ← List.map_drop, List.all, mWithin_in, h, allRk]
  | true =>
    have h2 : 1 ≤ m ∧ m ≤ 5 := by simpa [inR] using h
    have ho := mL03S_at m (by omega)
    simp (config := {contextual := true}) [Try.f67, List.range, List.range.loop, ints, intss, int, bool, row, frac, fracs, ← List.map_take, ← List.map_drop, List.all, mWithin_in, h, allRk, ho]

/-- The place of the first best so far and how many are as good. -/
def bstep (W : Nat → Int) (k : Nat) : Option (Nat × Int) → Option (Nat × Int)
  | none => some (k, 1)
  | some (i, n) => if W i < W k then some (k, 1) else if W k = W i then some (i, n + 1) else some (i, n)
def bstTo (W : Nat → Int) : Nat → Option (Nat × Int)
  | 0 => none
  | k + 1 => bstep W k (bstTo W k)
theorem bstTo_succ {W : Nat → Int} {k : Nat} : bstTo W (k + 1) = bstep W k (bstTo W k) := rfl
theorem bstTo_facts {W : Nat → Int} : ∀ {k : Nat}, (k = 0 ∧ bstTo W k = none) ∨ ∃ i n, bstTo W k = some (i, n) ∧ 0 ≤ n ∧ n ≤ k ∧ i < k
  | 0 => .inl ⟨rfl, rfl⟩
  | k + 1 => by
    right
    rcases bstTo_facts (W := W) (k := k) with ⟨_, h0⟩ | ⟨b, n, h0, h1, h2, h3⟩
    · simp only [bstTo, bstep, h0]; exact ⟨_, _, rfl, by omega, by omega, by omega⟩
    · simp only [bstTo, bstep, h0]
      split
      · exact ⟨_, _, rfl, by omega, by omega, by omega⟩
      · split
        · exact ⟨_, _, rfl, by omega, by omega, by omega⟩
        · exact ⟨_, _, rfl, by omega, by omega, by omega⟩

/-- The k-th ranking; what it is worth. -/
def nth (L : List (Bool × List Int)) (k : Nat) : List Int := (L.getD k (true, [])).2
theorem nth_at {L : List (Bool × List Int)} {k : Nat} (h : k < L.length) : nth L k = L[k].2 := by simp [nth, List.getD_eq_getElem?_getD, h]
def wR (xss : List (Bool × List Int)) (l : List Int) : Int := awTo xss l l.length
def wK (xss L : List (Bool × List Int)) (k : Nat) : Int := wR xss (nth L k)
/-- The first best choice of rooms and how many are as good. -/
def brOf (L : List (Bool × List Int)) : Option (Nat × Int) → List Int × Int
  | none => ([], 0)
  | some (i, n) => (nth L i, n)
def bR (xss : List (Bool × List Int)) : List Int × Int := if rentB xss = true then brOf (allRk xss.length) (bstTo (wK xss (allRk xss.length)) (allRk xss.length).length) else ([], 0)

theorem rent_rm {xss : List (Bool × List Int)} (h : rentB xss = true) {l : List Int} (hl : rankB xss.length l = true) : rmPre xss l := by
  obtain ⟨h1, h2, h3⟩ := rent_facts h
  have hlen := rank_len hl
  refine ⟨by omega, fun i hi => ?_⟩
  have hr := (h3 i (by omega)).1
  have := rank_in hl hi
  rw [getD_at hi, List.getD_eq_getElem?_getD, List.getElem?_eq_getElem (by omega)]
  simp only [Option.getD_some]; omega

noncomputable def mBestRms : List AV → Option AV := mk (fun _ => True) (fun (p : (Bool) × (List (Bool × List Int))) => [intss p.1 p.2]) (fun p => .tup [.sl (!rentB p.2) 1 ((bR p.2).1.map int), .v (.int .i64 (bR p.2).2)])
theorem mBestRms_at (nl : Bool) (xss : List (Bool × List Int)) : mBestRms [.sl nl 1 (xss.map row)] = some (.tup [.sl (!rentB xss) 1 ((bR xss).1.map int), .v (.int .i64 (bR xss).2)]) :=
  mk_eq (enc := fun (p : (Bool) × (List (Bool × List Int))) => [intss p.1 p.2]) (x := (nl, xss)) (by rintro ⟨a0, a1⟩ ⟨b0, b1⟩ h; simp [ints, intss, int, bool, row, frac, fracs, map_int_inj, map_row_inj, frac_inj, map_frac_inj] at h; simp [h]) trivial
noncomputable def mL25Best : List AV → Option AV := mk (fun p => rentB p.2 = true) (fun (p : (Bool) × (List (Bool × List Int))) => [intss p.1 p.2]) (fun p => .tup [.sl (!rentB p.2) 1 ((bR p.2).1.map int), .v (.int .i64 (bR p.2).2)])
theorem mL25Best_at (nl : Bool) (xss : List (Bool × List Int)) (hpre : rentB xss = true) : mL25Best [.sl nl 1 (xss.map row)] = some (.tup [.sl (!rentB xss) 1 ((bR xss).1.map int), .v (.int .i64 (bR xss).2)]) :=
  mk_eq (enc := fun (p : (Bool) × (List (Bool × List Int))) => [intss p.1 p.2]) (x := (nl, xss)) (by rintro ⟨a0, a1⟩ ⟨b0, b1⟩ h; simp [ints, intss, int, bool, row, frac, fracs, map_int_inj, map_row_inj, frac_inj, map_frac_inj] at h; simp [h]) hpre
noncomputable def mBestRooms : List AV → Option AV := mk (fun _ => True) (fun (p : (Bool) × (List (Bool × List Int))) => [intss p.1 p.2]) (fun p => .sl (!rentB p.2) 1 ((bR p.2).1.map int))
theorem mBestRooms_at (nl : Bool) (xss : List (Bool × List Int)) : mBestRooms [.sl nl 1 (xss.map row)] = some (.sl (!rentB xss) 1 ((bR xss).1.map int)) :=
  mk_eq (enc := fun (p : (Bool) × (List (Bool × List Int))) => [intss p.1 p.2]) (x := (nl, xss)) (by rintro ⟨a0, a1⟩ ⟨b0, b1⟩ h; simp [ints, intss, int, bool, row, frac, fracs, map_int_inj, map_row_inj, frac_inj, map_frac_inj] at h; simp [h]) trivial

def apRm (m : Nat) : Option (Nat × Int) → AV
  | none => .sl true 1 []
  | some (i, _) => .ref 0 [(i, 0)] 0 m
def apQm (m : Nat) : Option (Nat × Int) → AV
  | none => .ref 0 [] 0 0
  | some (i, _) => .ref 0 [(i, 0)] 0 m
def apR (n : Nat) : Option (Nat × Int) → AV
  | none => .ref 1 [] 0 n
  | some _ => .ref 0 [] 0 n
def apQt (L : List (Bool × List Int)) : Option (Nat × Int) → List Tok
  | none => [⟨true, .sl false 1 []⟩, ⟨true, .sl false 1 (L.map row)⟩]
  | some _ => [⟨true, .sl false 1 (L.map row)⟩]
def apN : Option (Nat × Int) → AV
  | none => int 0
  | some (_, n) => int n

theorem best_facts {xss : List (Bool × List Int)} (h1 : rentB xss = true) : (allRk xss.length).length ≤ 120 ∧ (allRk xss.length).length ≠ 0 ∧ ∀ r ∈ allRk xss.length, r.1 = false ∧ rankB xss.length r.2 = true := by
  obtain ⟨r1, r2, _⟩ := rent_facts h1
  have h : allRk xss.length = l03L xss.length xss.length [] := by
    have : inR 1 5 (xss.length : Int) = true := by simp [inR]; omega
    simp [allRk, this]
  rw [h]
  exact l03L_facts r1 (by omega)

end Go.Proofs.Ytkfgmpmeipilnaa.Ax

/-
  A table of numbers of at least 0 whose rows and columns come to the same has an exchange of numbers above 0 (up to four rows). Plain Lean, no program in sight.
-/
namespace Go.Proofs.Ytkfgmpmeipilnaa.Ax
open Go Go.RowKit
set_option linter.unusedSimpArgs false

/-- A row of four (bits) has one of the columns that are left. -/
def m1 (a v : Nat) : Bool := !(Nat.beq (Nat.land a v) 0)
def m2 (a b v : Nat) : Bool :=
  (cond (Nat.beq (Nat.land (Nat.land a v) 1) 0) false (m1 b (Nat.xor v 1))) || (cond (Nat.beq (Nat.land (Nat.land a v) 2) 0) false (m1 b (Nat.xor v 2))) ||
  (cond (Nat.beq (Nat.land (Nat.land a v) 4) 0) false (m1 b (Nat.xor v 4))) || (cond (Nat.beq (Nat.land (Nat.land a v) 8) 0) false (m1 b (Nat.xor v 8)))
def m3 (a b c v : Nat) : Bool :=
  (cond (Nat.beq (Nat.land (Nat.land a v) 1) 0) false (m2 b c (Nat.xor v 1))) || (cond (Nat.beq (Nat.land (Nat.land a v) 2) 0) false (m2 b c (Nat.xor v 2))) ||
  (cond (Nat.beq (Nat.land (Nat.land a v) 4) 0) false (m2 b c (Nat.xor v 4))) || (cond (Nat.beq (Nat.land (Nat.land a v) 8) 0) false (m2 b c (Nat.xor v 8)))
def m4 (a b c d v : Nat) : Bool :=
  (cond (Nat.beq (Nat.land (Nat.land a v) 1) 0) false (m3 b c d (Nat.xor v 1))) || (cond (Nat.beq (Nat.land (Nat.land a v) 2) 0) false (m3 b c d (Nat.xor v 2))) ||
  (cond (Nat.beq (Nat.land (Nat.land a v) 4) 0) false (m3 b c d (Nat.xor v 4))) || (cond (Nat.beq (Nat.land (Nat.land a v) 8) 0) false (m3 b c d (Nat.xor v 8)))
/-- How many bits; a bit; the columns that some of the rows have. -/
def pc (x : Nat) : Nat := Nat.land (Nat.shiftRight 0x4332322132212110 (Nat.shiftLeft x 2)) 15
def bt (v k : Nat) : Bool := Nat.beq (Nat.land (Nat.shiftRight v k) 1) 1
def nb (a b c d S : Nat) : Nat := Nat.lor (cond (bt S 0) a 0) (Nat.lor (cond (bt S 1) b 0) (Nat.lor (cond (bt S 2) c 0) (cond (bt S 3) d 0)))
def vio (a b c d : Nat) : Bool := Nat.rec false (fun S r => cond (Nat.ble (Nat.succ (pc (nb a b c d S))) (pc S)) true r) 16
def evTo (p : Nat → Bool) (n : Nat) : Bool := Nat.rec true (fun k r => cond (p k) r false) n
theorem evTo_at {p : Nat → Bool} : ∀ {n : Nat}, evTo p n = true → ∀ k, k < n → p k = true
  | 0, _, k, hk => by omega
  | n + 1, h, k, hk => by
    have h' : cond (p n) (evTo p n) false = true := h
    cases hp : p n with
    | false => rw [hp] at h'; simp at h'
    | true =>
      rw [hp] at h'
      by_cases e : k = n
      · rw [e]; exact hp
      · exact evTo_at h' k (by omega)
theorem hall4 {a b c d : Nat} (ha : a < 16) (hb : b < 16) (hc : c < 16) (hd : d < 16) : m4 a b c d 15 = true ∨ vio a b c d = true := by
  have h : evTo (fun a => evTo (fun b => evTo (fun c => evTo (fun d => m4 a b c d 15 || vio a b c d) 16) 16) 16) 16 = true := by decide +kernel
  simpa using evTo_at (evTo_at (evTo_at (evTo_at h a ha) b hb) c hc) d hd

theorem bit_and : ∀ a, a < 16 → ∀ v, v < 16 → ∀ k, k < 4 → Nat.beq (Nat.land (Nat.land a v) (2 ^ k)) 0 = false → bt a k = true ∧ bt v k = true := by decide +kernel
theorem bit_xor1 : ∀ v, v < 16 → ∀ k, k < 4 → Nat.xor v (2 ^ k) < 16 := by decide +kernel
theorem bit_xor2 : ∀ v, v < 16 → ∀ k, k < 4 → ∀ j, j < 4 → (!(bt v k) || !(bt (Nat.xor v (2 ^ k)) j) || (bt v j && !(Nat.beq j k))) = true := by decide +kernel
theorem bit_xor {v : Nat} (hv : v < 16) {k : Nat} (hk : k < 4) (h : bt v k = true) : Nat.xor v (2 ^ k) < 16 ∧ ∀ j, j < 4 → bt (Nat.xor v (2 ^ k)) j = true → bt v j = true ∧ j ≠ k := by
  refine ⟨bit_xor1 v hv k hk, fun j hj hb => ?_⟩
  have := bit_xor2 v hv k hk j hj
  rw [h, hb] at this
  simp only [Bool.not_true, Bool.false_or, Bool.and_eq_true, Bool.not_eq_true'] at this
  exact ⟨this.1, fun e => by rw [e, Nat.beq_refl] at this; exact Bool.noConfusion this.2⟩
theorem bit_one : ∀ a, a < 16 → ∀ v, v < 16 → m1 a v = true → ∃ k, k < 4 ∧ bt a k = true ∧ bt v k = true := by decide +kernel
theorem step_of {a v : Nat} (ha : a < 16) (hv : v < 16) {f : Nat → Bool} (h : ((cond (Nat.beq (Nat.land (Nat.land a v) 1) 0) false (f (Nat.xor v 1))) || (cond (Nat.beq (Nat.land (Nat.land a v) 2) 0) false (f (Nat.xor v 2))) ||
    (cond (Nat.beq (Nat.land (Nat.land a v) 4) 0) false (f (Nat.xor v 4))) || (cond (Nat.beq (Nat.land (Nat.land a v) 8) 0) false (f (Nat.xor v 8)))) = true) :
    ∃ k v', k < 4 ∧ bt a k = true ∧ bt v k = true ∧ v' < 16 ∧ (∀ j, j < 4 → bt v' j = true → bt v j = true ∧ j ≠ k) ∧ f v' = true := by
  have key : ∀ k, k < 4 → cond (Nat.beq (Nat.land (Nat.land a v) (2 ^ k)) 0) false (f (Nat.xor v (2 ^ k))) = true → ∃ k v', k < 4 ∧ bt a k = true ∧ bt v k = true ∧ v' < 16 ∧ (∀ j, j < 4 → bt v' j = true → bt v j = true ∧ j ≠ k) ∧ f v' = true := by
    intro k hk hc
    cases hb : Nat.beq (Nat.land (Nat.land a v) (2 ^ k)) 0 with
    | true => rw [hb] at hc; simp at hc
    | false =>
      rw [hb] at hc
      obtain ⟨h1, h2⟩ := bit_and a ha v hv k hk hb
      obtain ⟨h3, h4⟩ := bit_xor hv hk h2
      exact ⟨k, _, hk, h1, h2, h3, h4, hc⟩
  simp only [Bool.or_eq_true] at h
  rcases h with ((h | h) | h) | h
  · exact key 0 (by omega) h
  · exact key 1 (by omega) h
  · exact key 2 (by omega) h
  · exact key 3 (by omega) h
theorem m4_some {a b c d : Nat} (ha : a < 16) (hb : b < 16) (hc : c < 16) (hd : d < 16) (h : m4 a b c d 15 = true) :
    ∃ x y z t, (x < 4 ∧ y < 4 ∧ z < 4 ∧ t < 4) ∧ (x ≠ y ∧ x ≠ z ∧ x ≠ t ∧ y ≠ z ∧ y ≠ t ∧ z ≠ t) ∧ bt a x = true ∧ bt b y = true ∧ bt c z = true ∧ bt d t = true := by
  obtain ⟨x, v1, x4, ax, _, hv1, n1, h⟩ := step_of (f := m3 b c d) ha (by omega) h
  obtain ⟨y, v2, y4, b_y, vy, hv2, n2, h⟩ := step_of (f := m2 c d) hb hv1 h
  obtain ⟨z, v3, z4, cz, vz, hv3, n3, h⟩ := step_of (f := m1 d) hc hv2 h
  obtain ⟨t, t4, dt, vt⟩ := bit_one d hd v3 hv3 h
  have e1 := n1 y y4 vy
  have e2 := n2 z z4 vz
  have e3 := n1 z z4 e2.1
  have e4 := n3 t t4 vt
  have e5 := n2 t t4 e4.1
  have e6 := n1 t t4 e5.1
  exact ⟨x, y, z, t, ⟨x4, y4, z4, t4⟩, ⟨fun e => e1.2 e.symm, fun e => e3.2 e.symm, fun e => e6.2 e.symm, fun e => e2.2 e.symm, fun e => e5.2 e.symm, fun e => e4.2 e.symm⟩, ax, b_y, cz, dt⟩
theorem vio_some {a b c d : Nat} (h : vio a b c d = true) : ∃ S, S < 16 ∧ pc (nb a b c d S) < pc S := by
  have key : ∀ n, (Nat.rec false (fun S r => cond (Nat.ble (Nat.succ (pc (nb a b c d S))) (pc S)) true r) n : Bool) = true → ∃ S, S < n ∧ pc (nb a b c d S) < pc S := by
    intro n
    induction n with
    | zero => intro h; simp at h
    | succ n ih =>
      intro h
      cases hb : Nat.ble (Nat.succ (pc (nb a b c d n))) (pc n) with
      | true => exact ⟨n, by omega, Nat.le_of_ble_eq_true hb⟩
      | false =>
        simp only [hb, cond_false] at h
        obtain ⟨S, h1, h2⟩ := ih h
        exact ⟨S, by omega, h2⟩
  exact key 16 h

/-- Bits of what holds. -/
def msk (p : Nat → Bool) : Nat := cond (p 0) 1 0 + cond (p 1) 2 0 + cond (p 2) 4 0 + cond (p 3) 8 0
theorem msk_lt {p : Nat → Bool} : msk p < 16 := by
  unfold msk; cases p 0 <;> cases p 1 <;> cases p 2 <;> cases p 3 <;> decide
theorem msk_bt {p : Nat → Bool} {k : Nat} (hk : k < 4) : bt (msk p) k = p k := by
  have h : k = 0 ∨ k = 1 ∨ k = 2 ∨ k = 3 := by omega
  unfold msk
  generalize h0 : p 0 = a
  generalize h1 : p 1 = b
  generalize h2 : p 2 = c
  generalize h3 : p 3 = d
  rcases h with rfl | rfl | rfl | rfl
  · rw [h0]; cases a <;> cases b <;> cases c <;> cases d <;> decide
  · rw [h1]; cases a <;> cases b <;> cases c <;> cases d <;> decide
  · rw [h2]; cases a <;> cases b <;> cases c <;> cases d <;> decide
  · rw [h3]; cases a <;> cases b <;> cases c <;> cases d <;> decide
def b1 (b : Bool) : Nat := cond b 1 0
theorem pc_eq : ∀ S, S < 16 → pc S = b1 (bt S 0) + b1 (bt S 1) + b1 (bt S 2) + b1 (bt S 3) := by decide +kernel
theorem bt_lor : ∀ x, x < 16 → ∀ y, y < 16 → Nat.lor x y < 16 ∧ ∀ k, k < 4 → bt (Nat.lor x y) k = (bt x k || bt y k) := by decide +kernel
theorem bt_zero : ∀ k, k < 4 → bt 0 k = false := by decide

/-- Four numbers. -/
def su4 (f : Nat → Rat) : Rat := f 0 + f 1 + f 2 + f 3
theorem su4_le {f g : Nat → Rat} (h : ∀ i, i < 4 → f i ≤ g i) : su4 f ≤ su4 g := by
  have h0 := h 0 (by omega)
  have h1 := h 1 (by omega)
  have h2 := h 2 (by omega)
  have h3 := h 3 (by omega)
  unfold su4; grind
theorem su4_swap {f : Nat → Nat → Rat} : su4 (fun i => su4 (f i)) = su4 fun j => su4 fun i => f i j := by unfold su4; grind
theorem su4_if {b : Bool} {f : Nat → Rat} : su4 (fun i => if b = true then f i else 0) = if b = true then su4 f else 0 := by
  cases b <;> simp [su4, Rat.add_zero]
theorem su4_cnt {S : Nat} (hS : S < 16) {s : Rat} : su4 (fun i => if bt S i = true then s else 0) = (pc S : Rat) * s := by
  rw [pc_eq S hS]
  unfold b1
  show (if bt S 0 = true then s else 0) + (if bt S 1 = true then s else 0) + (if bt S 2 = true then s else 0) + (if bt S 3 = true then s else 0) = _
  cases bt S 0 <;> cases bt S 1 <;> cases bt S 2 <;> cases bt S 3 <;> simp <;> grind
theorem no_vio {A : Nat → Nat → Rat} {s : Rat} (hs : 0 < s) (h0 : ∀ i j, i < 4 → j < 4 → 0 ≤ A i j) (hr : ∀ i, i < 4 → su4 (A i) = s) (hc : ∀ j, j < 4 → su4 (fun i => A i j) = s) {S N : Nat} (hS : S < 16) (hN : N < 16)
    (hx : ∀ i j, i < 4 → j < 4 → bt S i = true → bt N j = false → A i j = 0) : ¬ pc N < pc S := by
  intro hlt
  have k1 : su4 (fun i => if bt S i = true then su4 (A i) else 0) ≤ su4 (fun i => su4 fun j => if bt N j = true then A i j else 0) := su4_le fun i hi => by
    by_cases hb : bt S i = true
    · rw [if_pos hb]
      refine su4_le fun j hj => ?_
      by_cases hn : bt N j = true
      · rw [if_pos hn]; exact Rat.le_refl
      · rw [if_neg hn, hx i j hi hj hb (by simpa using hn)]; exact Rat.le_refl
    · rw [if_neg hb]
      have : (0 : Rat) = su4 fun _ => 0 := by simp [su4, Rat.add_zero]
      refine Rat.le_trans (b := su4 fun _ => 0) (by rw [← this]; exact Rat.le_refl) ?_
      refine su4_le fun j hj => ?_
      split
      · exact h0 i j hi hj
      · exact Rat.le_refl
  rw [su4_swap] at k1
  have k2 : su4 (fun i => if bt S i = true then su4 (A i) else 0) = (pc S : Rat) * s := by
    rw [← su4_cnt hS]
    have e0 := hr 0 (by omega); have e1 := hr 1 (by omega); have e2 := hr 2 (by omega); have e3 := hr 3 (by omega)
    show (if bt S 0 = true then su4 (A 0) else 0) + (if bt S 1 = true then su4 (A 1) else 0) + (if bt S 2 = true then su4 (A 2) else 0) + (if bt S 3 = true then su4 (A 3) else 0) = _
    rw [e0, e1, e2, e3]; rfl
  have k3 : (su4 fun j => su4 fun i => if bt N j = true then A i j else 0) = (pc N : Rat) * s := by
    rw [← su4_cnt hN]
    have e0 := hc 0 (by omega); have e1 := hc 1 (by omega); have e2 := hc 2 (by omega); have e3 := hc 3 (by omega)
    have f : ∀ j, (su4 fun i => if bt N j = true then A i j else 0) = if bt N j = true then su4 (fun i => A i j) else 0 := fun j => su4_if
    rw [show (fun j => su4 fun i => if bt N j = true then A i j else 0) = fun j => if bt N j = true then su4 (fun i => A i j) else 0 from funext f]
    show (if bt N 0 = true then su4 (fun i => A i 0) else 0) + (if bt N 1 = true then su4 (fun i => A i 1) else 0) + (if bt N 2 = true then su4 (fun i => A i 2) else 0) + (if bt N 3 = true then su4 (fun i => A i 3) else 0) = _
    rw [e0, e1, e2, e3]; rfl
  rw [k2, k3] at k1
  have h1 : (pc N : Rat) + 1 ≤ (pc S : Rat) := by
    have : ((pc N + 1 : Nat) : Rat) ≤ ((pc S : Nat) : Rat) := by exact_mod_cast hlt
    simpa using this
  have h2 : ((pc N : Rat) + 1) * s ≤ (pc S : Rat) * s := Rat.mul_le_mul_of_nonneg_right h1 (Rat.le_of_lt hs)
  grind

/-- The sum of the first n. -/
def suR (f : Nat → Rat) : Nat → Rat
  | 0 => 0
  | n + 1 => suR f n + f n
theorem suR_congr {f g : Nat → Rat} : ∀ {n : Nat}, (∀ i, i < n → f i = g i) → suR f n = suR g n
  | 0, _ => rfl
  | n + 1, h => by rw [suR, suR, suR_congr fun i hi => h i (by omega), h n (by omega)]
/-- A table made one of four rows. -/
def padA (n : Nat) (s : Rat) (a : Nat → Nat → Rat) (i j : Nat) : Rat := if i < n ∧ j < n then a i j else if i = j then s else 0
theorem padA_row {n : Nat} {s : Rat} {a : Nat → Nat → Rat} (h1 : 1 ≤ n) (h4 : n ≤ 4) (hr : ∀ i, i < n → suR (a i) n = s) : ∀ i, i < 4 → su4 (padA n s a i) = s := by
  intro i hi
  have hn : n = 1 ∨ n = 2 ∨ n = 3 ∨ n = 4 := by omega
  have hi' : i = 0 ∨ i = 1 ∨ i = 2 ∨ i = 3 := by omega
  rcases hn with rfl | rfl | rfl | rfl <;> rcases hi' with rfl | rfl | rfl | rfl <;>
    first
    | (have e := hr 0 (by omega); have e1 := hr 1 (by omega); have e2 := hr 2 (by omega); have e3 := hr 3 (by omega); simp only [suR] at e e1 e2 e3; simp [su4, padA]; grind)
    | (have e := hr 0 (by omega); have e1 := hr 1 (by omega); have e2 := hr 2 (by omega); simp only [suR] at e e1 e2; simp [su4, padA]; grind)
    | (have e := hr 0 (by omega); have e1 := hr 1 (by omega); simp only [suR] at e e1; simp [su4, padA]; grind)
    | (have e := hr 0 (by omega); simp only [suR] at e; simp [su4, padA]; grind)
theorem padA_turn {n : Nat} {s : Rat} {a : Nat → Nat → Rat} {i j : Nat} : padA n s a i j = padA n s (fun i j => a j i) j i := by
  show (if i < n ∧ j < n then a i j else if i = j then s else 0) = if j < n ∧ i < n then a i j else if j = i then s else 0
  by_cases h : i < n ∧ j < n
  · rw [if_pos h, if_pos (show j < n ∧ i < n from ⟨h.2, h.1⟩)]
  · rw [if_neg h, if_neg (show ¬ (j < n ∧ i < n) from fun k => h ⟨k.2, k.1⟩)]
    by_cases e : i = j
    · rw [if_pos e, if_pos e.symm]
    · rw [if_neg e, if_neg (show ¬ j = i from fun k => e k.symm)]

theorem exch_memB : ∀ x, x < 4 → ∀ y, y < 4 → ∀ z, z < 4 → ∀ t, t < 4 → (Nat.beq x y || Nat.beq x z || Nat.beq x t || Nat.beq y z || Nat.beq y t || Nat.beq z t ||
    ((!(Nat.beq t 3 && Nat.beq z 2 && Nat.beq y 1) || decide ((false, [(x : Int)]) ∈ allRk 1)) && (!(Nat.beq t 3 && Nat.beq z 2) || decide ((false, [(x : Int), y]) ∈ allRk 2)) && (!(Nat.beq t 3) || decide ((false, [(x : Int), y, z]) ∈ allRk 3)) && decide ((false, [(x : Int), y, z, t]) ∈ allRk 4))) = true := by decide +kernel
theorem exch_mem {x : Nat} (hx : x < 4) {y : Nat} (hy : y < 4) {z : Nat} (hz : z < 4) {t : Nat} (ht : t < 4) (h : x ≠ y ∧ x ≠ z ∧ x ≠ t ∧ y ≠ z ∧ y ≠ t ∧ z ≠ t) :
    (t = 3 → z = 2 → y = 1 → (false, [(x : Int)]) ∈ allRk 1) ∧ (t = 3 → z = 2 → (false, [(x : Int), y]) ∈ allRk 2) ∧ (t = 3 → (false, [(x : Int), y, z]) ∈ allRk 3) ∧ (false, [(x : Int), y, z, t]) ∈ allRk 4 := by
  have hb := exch_memB x hx y hy z hz t ht
  have ne : ∀ {a b : Nat}, a ≠ b → Nat.beq a b = false := fun {a b} h => by
    cases e : Nat.beq a b with
    | false => rfl
    | true => exact absurd (Nat.eq_of_beq_eq_true e) h
  rw [ne h.1, ne h.2.1, ne h.2.2.1, ne h.2.2.2.1, ne h.2.2.2.2.1, ne h.2.2.2.2.2] at hb
  simp only [Bool.false_or, Bool.and_eq_true, Bool.or_eq_true, decide_eq_true_eq] at hb
  obtain ⟨⟨⟨q1, q2⟩, q3⟩, q4⟩ := hb
  refine ⟨fun e1 e2 e3 => ?_, fun e1 e2 => ?_, fun e1 => ?_, q4⟩
  · subst e1; subst e2; subst e3
    rcases q1 with q | q
    · exact absurd q (by decide)
    · exact q
  · subst e1; subst e2
    rcases q2 with q | q
    · exact absurd q (by decide)
    · exact q
  · subst e1
    rcases q3 with q | q
    · exact absurd q (by decide)
    · exact q

theorem exch_some {n : Nat} {s : Rat} {a : Nat → Nat → Rat} (h1 : 1 ≤ n) (h4 : n ≤ 4) (hs : 0 < s) (h0 : ∀ i j, i < n → j < n → 0 ≤ a i j) (hr : ∀ i, i < n → suR (a i) n = s) (hc : ∀ j, j < n → suR (fun i => a i j) n = s) :
    ∃ o ∈ allRk n, ∀ i, i < n → ∃ x : Nat, at0 o.2 i = x ∧ x < n ∧ 0 < a i x := by
  let A := padA n s a
  have hA0 : ∀ i j, i < 4 → j < 4 → 0 ≤ A i j := fun i j _ _ => by
    show 0 ≤ padA n s a i j
    unfold padA
    split
    · rename_i h; exact h0 i j h.1 h.2
    · split
      · exact Rat.le_of_lt hs
      · exact Rat.le_refl
  have hAr : ∀ i, i < 4 → su4 (A i) = s := padA_row h1 h4 hr
  have hAc : ∀ j, j < 4 → su4 (fun i => A i j) = s := fun j hj => by
    have := padA_row (a := fun i j => a j i) h1 h4 hc j hj
    rw [← this]
    congr 1
    funext i
    exact padA_turn
  let r : Nat → Nat := fun i => msk fun j => decide (0 < A i j)
  have hb : ∀ i j, j < 4 → bt (r i) j = decide (0 < A i j) := fun i j hj => msk_bt hj
  rcases hall4 (a := r 0) (b := r 1) (c := r 2) (d := r 3) msk_lt msk_lt msk_lt msk_lt with h | h
  · obtain ⟨x, y, z, t, ⟨x4, y4, z4, t4⟩, hd, bx, by', bz, bt'⟩ := m4_some msk_lt msk_lt msk_lt msk_lt h
    rw [hb 0 x x4] at bx
    rw [hb 1 y y4] at by'
    rw [hb 2 z z4] at bz
    rw [hb 3 t t4] at bt'
    simp only [decide_eq_true_eq] at bx by' bz bt'
    have diag : ∀ i j, i < 4 → n ≤ i → 0 < A i j → j = i := fun i j _ hi hp => by
      have hp' : 0 < padA n s a i j := hp
      unfold padA at hp'
      rw [if_neg (by omega)] at hp'
      by_cases e : i = j
      · exact e.symm
      · rw [if_neg e] at hp'; exact absurd hp' (by decide)
    have ins : ∀ i j, i < n → 0 < A i j → j < n ∧ 0 < a i j := fun i j hi hp => by
      have hp' : 0 < padA n s a i j := hp
      unfold padA at hp'
      by_cases hj : j < n
      · rw [if_pos ⟨hi, hj⟩] at hp'; exact ⟨hj, hp'⟩
      · rw [if_neg (by omega), if_neg (by omega)] at hp'
        exact absurd hp' (by decide)
    obtain ⟨q1, q2, q3, q4⟩ := exch_mem x4 y4 z4 t4 hd
    have hn : n = 1 ∨ n = 2 ∨ n = 3 ∨ n = 4 := by omega
    rcases hn with rfl | rfl | rfl | rfl
    · refine ⟨_, q1 (diag 3 t (by omega) (by omega) bt') (diag 2 z (by omega) (by omega) bz) (diag 1 y (by omega) (by omega) by'), fun i hi => ?_⟩
      obtain rfl : i = 0 := by omega
      exact ⟨x, rfl, ins 0 x (by omega) bx⟩
    · refine ⟨_, q2 (diag 3 t (by omega) (by omega) bt') (diag 2 z (by omega) (by omega) bz), fun i hi => ?_⟩
      have hi' : i = 0 ∨ i = 1 := by omega
      rcases hi' with rfl | rfl
      · exact ⟨x, rfl, ins 0 x (by omega) bx⟩
      · exact ⟨y, rfl, ins 1 y (by omega) by'⟩
    · refine ⟨_, q3 (diag 3 t (by omega) (by omega) bt'), fun i hi => ?_⟩
      have hi' : i = 0 ∨ i = 1 ∨ i = 2 := by omega
      rcases hi' with rfl | rfl | rfl
      · exact ⟨x, rfl, ins 0 x (by omega) bx⟩
      · exact ⟨y, rfl, ins 1 y (by omega) by'⟩
      · exact ⟨z, rfl, ins 2 z (by omega) bz⟩
    · refine ⟨_, q4, fun i hi => ?_⟩
      have hi' : i = 0 ∨ i = 1 ∨ i = 2 ∨ i = 3 := by omega
      rcases hi' with rfl | rfl | rfl | rfl
      · exact ⟨x, rfl, ins 0 x (by omega) bx⟩
      · exact ⟨y, rfl, ins 1 y (by omega) by'⟩
      · exact ⟨z, rfl, ins 2 z (by omega) bz⟩
      · exact ⟨t, rfl, ins 3 t (by omega) bt'⟩
  · exfalso
    obtain ⟨S, hS, hv⟩ := vio_some h
    have hcnd : ∀ (b : Bool) (v : Nat), v < 16 → cond b v 0 < 16 := fun b v hv => by cases b <;> simp [hv]
    obtain ⟨l3, g3⟩ := bt_lor (cond (bt S 2) (r 2) 0) (hcnd _ _ msk_lt) (cond (bt S 3) (r 3) 0) (hcnd _ _ msk_lt)
    obtain ⟨l2, g2⟩ := bt_lor (cond (bt S 1) (r 1) 0) (hcnd _ _ msk_lt) _ l3
    obtain ⟨l1, g1⟩ := bt_lor (cond (bt S 0) (r 0) 0) (hcnd _ _ msk_lt) _ l2
    refine no_vio hs hA0 hAr hAc hS l1 (fun i j hi hj hSi hN => ?_) hv
    rw [g1 j hj, g2 j hj, g3 j hj] at hN
    simp only [Bool.or_eq_false_iff] at hN
    have hz : bt (r i) j = false := by
      have hi' : i = 0 ∨ i = 1 ∨ i = 2 ∨ i = 3 := by omega
      rcases hi' with rfl | rfl | rfl | rfl
      · have := hN.1; rw [hSi] at this; exact this
      · have := hN.2.1; rw [hSi] at this; exact this
      · have := hN.2.2.1; rw [hSi] at this; exact this
      · have := hN.2.2.2; rw [hSi] at this; exact this
    rw [hb i j hj] at hz
    simp only [decide_eq_false_iff_not] at hz
    exact Rat.le_antisymm (Rat.not_lt.1 hz) (hA0 i j hi hj)

end Go.Proofs.Ytkfgmpmeipilnaa.Ax
