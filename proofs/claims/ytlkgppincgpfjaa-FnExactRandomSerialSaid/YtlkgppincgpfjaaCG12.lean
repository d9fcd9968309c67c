/-
  Contracts: all rankings (both programs), the worth of a choice of rooms (both programs). No condition.
-/
import Derived.Test.YtlkgppincgpfjaaCG7
import Derived.Test.YtlkgppincgpfjaaCG11
import Derived.Test.YtlkgppincgpfjaaCG4
import Derived.Test.YtlkgppincgpfjaaCK4
import Derived.Test.YtlkgppincgpfjaaCG10
namespace Go.Proofs.Ytlkgppincgpfjaa.Ax
open Go Go.RowKit
set_option linter.unusedSimpArgs false

/-- Each person a room, no more. -/
def rmPre (xss : List (Bool × List Int)) (l : List Int) : Prop := l.length ≤ xss.length ∧ ∀ i, i < l.length → 0 ≤ l.getD i 0 ∧ l.getD i 0 < ((xss.getD i (true, [])).2.length : Int)

noncomputable def mRoomV : List AV → Option AV := mk (fun p => rmPre p.2.1 p.2.2.2) (fun (p : (Bool) × (List (Bool × List Int)) × (Bool) × (List Int)) => [intss p.1 p.2.1, ints p.2.2.1 p.2.2.2]) (fun p => int (awTo p.2.1 p.2.2.2 p.2.2.2.length))
theorem mRoomV_at (nl : Bool) (xss : List (Bool × List Int)) (nl' : Bool) (l : List Int) (hpre : rmPre xss l) : mRoomV [.sl nl 1 (xss.map row), .sl nl' 1 (l.map int)] = some (.v (.int .i64 (awTo xss l l.length))) :=
  mk_eq (enc := fun (p : (Bool) × (List (Bool × List Int)) × (Bool) × (List Int)) => [intss p.1 p.2.1, ints p.2.2.1 p.2.2.2]) (x := (nl, xss, nl', l)) (by rintro ⟨a0, a1, a2, a3⟩ ⟨b0, b1, b2, b3⟩ h; simp [ints, intss, int, bool, row, frac, fracs, map_int_inj, map_row_inj, frac_inj, map_frac_inj] at h; simp [h]) hpre

theorem orders_all : ∀ n, n ≤ 5 → FnOk Try.prog 52 (mOrd n)
  | 0, _ => orders_zero
  | n + 1, h => orders_succ (by omega) (orders_all n (by omega))

/-- The rankings that begin with l and have r more places, in the reference's order. -/
def l03L (m : Nat) : Nat → List Int → List (Bool × List Int)
  | 0, l => [(false, l)]
  | r + 1, l => (List.range m).flatMap fun (i : Nat) => if pos l (i : Int) < 0 then l03L m r (l ++ [(i : Int)]) else []
def l03To (m r : Nat) (l : List Int) (k : Nat) : List (Bool × List Int) := (List.range k).flatMap fun (i : Nat) => if pos l (i : Int) < 0 then l03L m r (l ++ [(i : Int)]) else []
theorem l03To_succ {m r : Nat} {l : List Int} {k : Nat} : l03To m r l (k + 1) = l03To m r l k ++ (if pos l (k : Int) < 0 then l03L m r (l ++ [(k : Int)]) else []) := by
  unfold l03To; rw [List.range_succ, List.flatMap_append]; simp
theorem l03To_all {m r : Nat} {l : List Int} : l03To m r l m = l03L m (r + 1) l := rfl
theorem l03To_le {m r : Nat} {l : List Int} : ∀ {k j : Nat}, k ≤ j → (l03To m r l k).length ≤ (l03To m r l j).length
  | k, 0, h => by rw [Nat.le_zero.1 h]; exact Nat.le_refl _
  | k, j + 1, h => by
    rcases Nat.lt_or_ge k (j + 1) with h' | h'
    · have := l03To_le (m := m) (r := r) (l := l) (show k ≤ j by omega)
      rw [l03To_succ, List.length_append]; omega
    · rw [show k = j + 1 by omega]; exact Nat.le_refl _

theorem rankings_eq : ∀ m, m ≤ 5 → 1 ≤ m → ordR m (idx m) = l03L m m []
  | 1, _, _ => by decide +kernel
  | 2, _, _ => by decide +kernel
  | 3, _, _ => by decide +kernel
  | 4, _, _ => by decide +kernel
  | 5, _, _ => by decide +kernel
  | 0, _, h => by omega
  | m + 6, h, _ => by omega

/-- What the search from the front is asked; o: the rows so far. -/
def LR (o : List (Bool × List Int)) (l : List Int) (m : Int) (r : Nat) : Prop := ((l.length + r : Nat) : Int) = m ∧ m ≤ 5 ∧ o.length + (l03L m.toNat r l).length ≤ 100000

noncomputable def mL03 (r : Nat) : List AV → Option (List Nat × AV) := mkV (fun p => LR p.1 p.2.1 p.2.2 r) (fun (p : List (Bool × List Int) × List Int × Int) => [intss false p.1, ints false p.2.1, int p.2.2]) [0, 1] (fun p => intss false (p.1 ++ l03L p.2.2.toNat r p.2.1))
theorem mL03_at (r : Nat) (o : List (Bool × List Int)) (l : List Int) (m : Int) (h : LR o l m r) : mL03 r [.sl false 1 (o.map row), .sl false 1 (l.map int), .v (.int .i64 m)] = some ([0, 1], .sl false 1 ((o ++ l03L m.toNat r l).map row)) :=
  mkV_eq (enc := fun (p : List (Bool × List Int) × List Int × Int) => [intss false p.1, ints false p.2.1, int p.2.2]) (x := (o, l, m)) (by rintro ⟨a, b, c⟩ ⟨e, f, g⟩ h; simp [intss, ints, int, map_row_inj, map_int_inj] at h; simp [h]) h

set_option maxHeartbeats 1000000 in
theorem l03All_zero : (FnMov Try.prog 43 (mL03 0)) := by
  refine mkV_ok fun ⟨o, l, m⟩ h => ?_
  simp only at h
  have hG : FnsOk Try.prog [(64, mPos)] := (.cons placeOf_ok .nil)
  refine movOk_awp (ctx_ok eqOk hG) mixed (live := [true, true, true, false, false, false, true, true, false, false, false, true, false, false, false, false, false, false, true, false, false, false, false, false, true]) (dt := []) (mv := [0,1]) Try.func43 rfl (by kernel_rfl) (by kernel_rfl) fun US w0 hlens => ?_
  simp only [List.map, List.getD_cons_zero, List.getD_cons_succ, internL, intern, setSl, List.set, List.length_nil, List.nil_append, List.length_map]
  clear hlens
  have hl : (l.length : Int) = m := h.1
  have hb := h.2.2
  simp only [l03L, List.length_cons, List.length_nil] at hb
  have hb2 : o.length + 1 ≤ 4611686018427387904 ∧ (o.length + 1) * 24 ≤ 140737488355328 := by omega
  simp (config := {contextual := true, maxSteps := 1000000}) [Try.f43, List.range, List.range.loop, ints, intss, int, bool, row, frac, fracs, ← List.map_take, ← List.map_drop, List.all, hl, l03L, hb2]
  done

set_option maxHeartbeats 2000000 in
theorem l03All_succ {r : Nat} (ih : FnMov Try.prog 43 (mL03 r)) : (FnMov Try.prog 43 (mL03 (r + 1))) := by
  refine mkV_ok fun ⟨o, l, m'⟩ h => ?_
  simp only at h
  have hG : FnsOk Try.prog [(64, mPos)] := (.cons placeOf_ok .nil)
  have hM : FnsMut Try.prog [] := .nil
  have hV : FnsMov Try.prog [(43, mL03 r)] := (.cons ih .nil)
  refine movOk_awp (ctxV_ok eqOk hG hM hV) mixed (live := [true, true, true, false, false, false, true, true, false, false, false, true, false, false, false, false, false, false, true, false, false, false, false, false, true]) (dt := []) (mv := [0,1]) Try.func43 rfl (by kernel_rfl) (by kernel_rfl) fun US w0 hlens => ?_
  simp only [List.map, List.getD_cons_zero, List.getD_cons_succ, internL, intern, setSl, List.set, List.length_nil, List.nil_append, List.length_map]
  clear hlens
  obtain ⟨m, rfl⟩ : ∃ m : Nat, m' = (m : Int) := ⟨l.length + (r + 1), h.1.symm⟩
  have hm : l.length + (r + 1) = m := by have := h.1; omega
  have hm5 : m ≤ 5 := by have := h.2.1; omega
  have hb := h.2.2
  simp only [Int.toNat_natCast] at hb
  have hl : ¬ ((l.length : Int) = (m : Int)) := by omega
  simp (config := {contextual := true, maxSteps := 1000000}) [Try.f43, List.range, List.range.loop, ints, intss, int, bool, row, frac, fracs, ← List.map_take, ← List.map_drop, List.all, hl]
  refine awp_loop_of (live := [true, true, true, false, false, false, true, true, false, false, false, true, false, false, false, false, false, false, true, false, false, false, false, false, true]) (ctxV_ok eqOk hG hM hV) mixed [true, true, true, false, false, false, false, true] (α := {k : Nat // k ≤ m}) (fun k => ⟨[.ref 0 [] 0 (o ++ l03To m r l k.1).length, .ref 1 [] 0 l.length, int m, .junk, .junk, .junk, .junk, int (k.1 : Int), .junk, .junk, .junk, .junk, .junk, .junk, .junk, .junk, .junk, .junk, .junk, .junk, .junk, .junk, .junk, .junk, .junk, .junk, .junk, .junk, .junk, .junk, .junk, .junk, .junk, .junk, .junk], [⟨true, .sl false 1 ((o ++ l03To m r l k.1).map row)⟩, ⟨true, .sl false 1 (l.map int)⟩]⟩) (fun k => m - k.1) ⟨0, by omega⟩ (by simp [sub, slotsLe, clean, keep, refsL, refs, once, place, renL, ren, List.replicate, int, bool, l03To, intss]) ?_
  rintro ⟨k, hk⟩
  simp only
  have hsucc := l03To_succ (m := m) (r := r) (l := l) (k := k)
  by_cases hkm : k = m
  · subst hkm
    simp (config := {contextual := true, maxSteps := 1000000}) [List.range, List.range.loop, ints, intss, int, bool, row, frac, fracs, ← List.map_take, ← List.map_drop, List.all, l03To_all]
    done
  have hkm2 : k < m := by omega
  have hw : IntKind.i64.wrap ((k : Int) + 1) = (k : Int) + 1 := by rw [wrapI (by omega) (by omega)]
  have hlb : l.length ≤ 4611686018427387904 ∧ l.length * 8 ≤ 140737488355328 := by omega
  have hlb2 : l.length + 1 ≤ 4611686018427387904 ∧ (l.length + 1) * 8 ≤ 140737488355328 := by omega
  by_cases hp : pos l (k : Int) < 0
  · rw [if_pos hp] at hsucc
    have hle := l03To_le (m := m) (r := r) (l := l) (k := k + 1) (j := m) (by omega)
    rw [l03To_all, hsucc, List.length_append] at hle
    have hcall := mL03_at r (o ++ l03To m r l k) (l ++ [(k : Int)]) m ⟨by simp; omega, by omega, by simp only [Int.toNat_natCast, List.length_append] at hb ⊢; omega⟩
    simp only [Int.toNat_natCast, List.append_assoc, ← hsucc, List.map_append, List.map_cons, List.map_nil, int] at hcall
    have htk : List.take (l.length + 1) (l.map int ++ [AV.v (.int .i64 k)]) = l.map int ++ [AV.v (.int .i64 k)] := List.take_of_length_le (by simp)
    have hto : List.take (o.length + (l03To m r l k).length) (o.map row ++ (l03To m r l k).map row) = o.map row ++ (l03To m r l k).map row := List.take_of_length_le (by simp)
    simp (config := {contextual := true, maxSteps := 1000000}) [List.range, List.range.loop, ints, intss, int, bool, row, frac, fracs, ← List.map_take, ← List.map_drop, List.all, hkm2, hw, mPos_at, hp, hlb, hlb2, htk, hto, hcall]
    exact ⟨⟨k + 1, by omega⟩, by simp [sub, slotsLe, clean, keep, refsL, refs, once, place, renL, ren, List.replicate, int, bool], by simp; omega⟩
  · rw [if_neg hp, List.append_nil] at hsucc
    simp (config := {contextual := true, maxSteps := 1000000}) [List.range, List.range.loop, ints, intss, int, bool, row, frac, fracs, ← List.map_take, ← List.map_drop, List.all, hkm2, hw, mPos_at, hp]
    exact ⟨⟨k + 1, by omega⟩, by simp [sub, slotsLe, clean, keep, refsL, refs, once, place, renL, ren, List.replicate, int, bool, hsucc], by simp; omega⟩

end Go.Proofs.Ytlkgppincgpfjaa.Ax

/-
  Contracts: all rankings, the best choice of rooms (both programs). No condition.
-/
namespace Go.Proofs.Ytlkgppincgpfjaa.Ax
open Go Go.RowKit
set_option linter.unusedSimpArgs false

/-- All rankings of m, when m is in its range. -/
def allRk (m : Int) : List (Bool × List Int) := if inR 1 5 m = true then l03L m.toNat m.toNat [] else []

noncomputable def mOrdA : List AV → Option AV := mk (fun p => 1 ≤ p.length ∧ p.length ≤ 5) (fun p => [ints false p]) (fun p => .sl false 1 ((ordR p.length p).map row))
theorem mOrdA_at (l : List Int) (h : 1 ≤ l.length ∧ l.length ≤ 5) : mOrdA [.sl false 1 (l.map int)] = some (.sl false 1 ((ordR l.length l).map row)) :=
  mk_eq (enc := fun (p : List Int) => [ints false p]) (x := l) (by intro a b h; simp [ints, map_int_inj] at h; rw [h]) h
theorem ordersA_ok : FnOk Try.prog 52 mOrdA := by
  refine mk_ok fun l h => ?_
  exact orders_all l.length h.2 _ _ (mOrd_at l.length false l ⟨rfl, h.2, fun h => by simp at h⟩)

noncomputable def mL03S : List AV → Option (List Nat × AV) := mkV (fun m => 0 ≤ m ∧ m ≤ 5) (fun (m : Int) => [intss false [], ints false [], int m]) [0, 1] (fun m => intss false (l03L m.toNat m.toNat []))
theorem mL03S_at (m : Int) (h : 0 ≤ m ∧ m ≤ 5) : mL03S [.sl false 1 [], .sl false 1 [], .v (.int .i64 m)] = some ([0, 1], .sl false 1 ((l03L m.toNat m.toNat []).map row)) :=
  mkV_eq (enc := fun (m : Int) => [intss false [], ints false [], int m]) (x := m) (by intro a b h; simp [int] at h; rw [h]) h

theorem l03All_all : ∀ r, FnMov Try.prog 43 (mL03 r)
  | 0 => l03All_zero
  | r + 1 => l03All_succ (l03All_all r)

def rkB (m : Nat) : Bool := decide ((l03L m m []).length ≤ 120) && decide ((l03L m m []).length ≠ 0) && (l03L m m []).all fun r => !r.1 && rankB m r.2
theorem rkB_at : ∀ m, 1 ≤ m → m ≤ 5 → rkB m = true
  | 1, _, _ => by decide +kernel
  | 2, _, _ => by decide +kernel
  | 3, _, _ => by decide +kernel
  | 4, _, _ => by decide +kernel
  | 5, _, _ => by decide +kernel
  | 0, h, _ => by omega
  | m + 6, _, h => by omega

theorem l03L_facts {m : Nat} (h1 : 1 ≤ m) (h5 : m ≤ 5) : (l03L m m []).length ≤ 120 ∧ (l03L m m []).length ≠ 0 ∧ ∀ r ∈ l03L m m [], r.1 = false ∧ rankB m r.2 = true := by
  have := rkB_at m h1 h5
  simp only [rkB, Bool.and_eq_true, decide_eq_true_eq, List.all_eq_true, Bool.not_eq_true'] at this
  exact ⟨this.1.1, this.1.2, this.2⟩

theorem l03AllS_ok : FnMov Try.prog 43 mL03S := by
  refine mkV_ok fun m h => ?_
  have hl : (l03L m.toNat m.toNat []).length ≤ 100000 := by
    rcases Int.lt_or_le 0 m with h0 | h0
    · have := (l03L_facts (m := m.toNat) (by omega) (by omega)).1; omega
    · rw [show m.toNat = 0 by omega]; simp [l03L]
  exact l03All_all m.toNat _ _ _ (mL03_at m.toNat [] [] m ⟨by simp; omega, h.2, by simpa using hl⟩)

noncomputable def mAllRk : List AV → Option AV := mk (fun _ => True) (fun (p : (Int)) => [int p]) (fun p => .sl (!inR 1 5 p) 1 ((allRk p).map row))
theorem mAllRk_at (m : Int) : mAllRk [.v (.int .i64 m)] = some (.sl (!inR 1 5 m) 1 ((allRk m).map row)) :=
  mk_eq (enc := fun (p : (Int)) => [int p]) (x := (m)) (by rintro a0 b0 h; simp [ints, intss, int, bool, row, frac, fracs, map_int_inj, map_row_inj, frac_inj, map_frac_inj] at h; simp [h]) trivial

theorem implAllRankings_ok : FnOk Try.prog 26 mAllRk := by
  refine mk_ok fun m _ => ?_
  have hG : FnsOk Try.prog [(50, mWithin), (36, mIdx), (52, mOrdA)] := (.cons within_ok (.cons indices_ok (.cons ordersA_ok .nil)))
  refine callOk_awp (ctx_ok eqOk hG) mixed (live := [true, false, true, false, false, true]) (dt := []) Try.func26 rfl (by kernel_rfl) (by kernel_rfl) fun w0 hlens => ?_
  clear hlens
  cases h : inR 1 5 m with
  | false => simp (config := {contextual := true}) [Try.f26, List.range, List.range.loop, ints, intss, int, bool, row, frac, fracs, ← List.map_take, ← List.map_drop, mWithin_in, h, allRk]
  | true =>
    have h2 : 1 ≤ m ∧ m ≤ 5 := by simpa [inR] using h
    obtain ⟨n, rfl⟩ : ∃ n : Nat, m = (n : Int) := ⟨m.toNat, by omega⟩
    have hi := mIdx_at n (by omega)
    have ho := mOrdA_at (idx n) (by rw [idx_len]; omega)
    rw [idx_len, rankings_eq n (by omega) (by omega)] at ho
    have htk : List.take n ((idx n).map int) = (idx n).map int := List.take_of_length_le (by simp [idx_len])
    simp (config := {contextual := true}) [Try.f26, List.range, List.range.loop, ints, intss, int, bool, row, frac, fracs, ← List.map_take, ← List.map_drop, mWithin_in, h, allRk, hi, ho, idx_len, htk]

theorem specAllRankings_ok : FnOk Try.prog 21 mAllRk := by
  refine mk_ok fun m _ => ?_
  have hG : FnsOk Try.prog [(41, mWithin)] := (.cons l01In_ok .nil)
  have hM : FnsMut Try.prog [] := .nil
  have hV : FnsMov Try.prog [(43, mL03S)] := (.cons l03AllS_ok .nil)
  refine callOk_awp (ctxV_ok eqOk hG hM hV) mixed (live := [true, false, true, false, false, true]) (dt := []) Try.func21 rfl (by kernel_rfl) (by kernel_rfl) fun w0 hlens => ?_
  clear hlens
  cases h : inR 1 5 m with
  | false => simp (config := {contextual := true}) [Try.f21, List.range, List.range.loop, ints, intss, int, bool, row, frac, fracs, ← List.map_take, ← List.map_drop, List.all, mWithin_in, h, allRk]
  | true =>
    have h2 : 1 ≤ m ∧ m ≤ 5 := by simpa [inR] using h
    have ho := mL03S_at m (by omega)
    simp (config := {contextual := true}) [Try.f21, List.range, List.range.loop, ints, intss, int, bool, row, frac, fracs, ← List.map_take, ← List.map_drop, List.all, mWithin_in, h, allRk, ho]

/-- The place of the first best so far and how many are as good. -/
def bstep (W : Nat → Int) (k : Nat) : Option (Nat × Int) → Option (Nat × Int)
  | none => some (k, 1)
  | some (i, n) => if W i < W k then some (k, 1) else if W k = W i then some (i, n + 1) else some (i, n)
def bstTo (W : Nat → Int) : Nat → Option (Nat × Int)
  | 0 => none
  | k + 1 => bstep W k (bstTo W k)
theorem bstTo_succ {W : Nat → Int} {k : Nat} : bstTo W (k + 1) = bstep W k (bstTo W k) := rfl
theorem bstTo_facts {W : Nat → Int} : ∀ {k : Nat}, (k = 0 ∧ bstTo W k = none) ∨ ∃ i n, bstTo W k = some (i, n) ∧ 0 ≤ n ∧ n ≤ k ∧ i < k
  | 0 => .inl ⟨rfl, rfl⟩
  | k + 1 => by
    right
    rcases bstTo_facts (W := W) (k := k) with ⟨_, h0⟩ | ⟨b, n, h0, h1, h2, h3⟩
    · simp only [bstTo, bstep, h0]; exact ⟨_, _, rfl, by omega, by omega, by omega⟩
    · simp only [bstTo, bstep, h0]
      split
      · exact ⟨_, _, rfl, by omega, by omega, by omega⟩
      · split
        · exact ⟨_, _, rfl, by omega, by omega, by omega⟩
        · exact ⟨_, _, rfl, by omega, by omega, by omega⟩

/-- The k-th ranking; what it is worth. -/
def nth (L : List (Bool × List Int)) (k : Nat) : List Int := (L.getD k (true, [])).2
theorem nth_at {L : List (Bool × List Int)} {k : Nat} (h : k < L.length) : nth L k = L[k].2 := by simp [nth, List.getD_eq_getElem?_getD, h]
def wR (xss : List (Bool × List Int)) (l : List Int) : Int := awTo xss l l.length
def wK (xss L : List (Bool × List Int)) (k : Nat) : Int := wR xss (nth L k)
/-- The first best choice of rooms and how many are as good. -/
def brOf (L : List (Bool × List Int)) : Option (Nat × Int) → List Int × Int
  | none => ([], 0)
  | some (i, n) => (nth L i, n)
def bR (xss : List (Bool × List Int)) : List Int × Int := if rentB xss = true then brOf (allRk xss.length) (bstTo (wK xss (allRk xss.length)) (allRk xss.length).length) else ([], 0)

theorem rent_rm {xss : List (Bool × List Int)} (h : rentB xss = true) {l : List Int} (hl : rankB xss.length l = true) : rmPre xss l := by
  obtain ⟨h1, h2, h3⟩ := rent_facts h
  have hlen := rank_len hl
  refine ⟨by omega, fun i hi => ?_⟩
  have hr := (h3 i (by omega)).1
  have := rank_in hl hi
  rw [getD_at hi, List.getD_eq_getElem?_getD, List.getElem?_eq_getElem (by omega)]
  simp only [Option.getD_some]; omega

noncomputable def mBestRms : List AV → Option AV := mk (fun _ => True) (fun (p : (Bool) × (List (Bool × List Int))) => [intss p.1 p.2]) (fun p => .tup [.sl (!rentB p.2) 1 ((bR p.2).1.map int), .v (.int .i64 (bR p.2).2)])
theorem mBestRms_at (nl : Bool) (xss : List (Bool × List Int)) : mBestRms [.sl nl 1 (xss.map row)] = some (.tup [.sl (!rentB xss) 1 ((bR xss).1.map int), .v (.int .i64 (bR xss).2)]) :=
  mk_eq (enc := fun (p : (Bool) × (List (Bool × List Int))) => [intss p.1 p.2]) (x := (nl, xss)) (by rintro ⟨a0, a1⟩ ⟨b0, b1⟩ h; simp [ints, intss, int, bool, row, frac, fracs, map_int_inj, map_row_inj, frac_inj, map_frac_inj] at h; simp [h]) trivial
noncomputable def mL25Best : List AV → Option AV := mk (fun p => rentB p.2 = true) (fun (p : (Bool) × (List (Bool × List Int))) => [intss p.1 p.2]) (fun p => .tup [.sl (!rentB p.2) 1 ((bR p.2).1.map int), .v (.int .i64 (bR p.2).2)])
theorem mL25Best_at (nl : Bool) (xss : List (Bool × List Int)) (hpre : rentB xss = true) : mL25Best [.sl nl 1 (xss.map row)] = some (.tup [.sl (!rentB xss) 1 ((bR xss).1.map int), .v (.int .i64 (bR xss).2)]) :=
  mk_eq (enc := fun (p : (Bool) × (List (Bool × List Int))) => [intss p.1 p.2]) (x := (nl, xss)) (by rintro ⟨a0, a1⟩ ⟨b0, b1⟩ h; simp [ints, intss, int, bool, row, frac, fracs, map_int_inj, map_row_inj, frac_inj, map_frac_inj] at h; simp [h]) hpre
noncomputable def mBestRooms : List AV → Option AV := mk (fun _ => True) (fun (p : (Bool) × (List (Bool × List Int))) => [intss p.1 p.2]) (fun p => .sl (!rentB p.2) 1 ((bR p.2).1.map int))
theorem mBestRooms_at (nl : Bool) (xss : List (Bool × List Int)) : mBestRooms [.sl nl 1 (xss.map row)] = some (.sl (!rentB xss) 1 ((bR xss).1.map int)) :=
  mk_eq (enc := fun (p : (Bool) × (List (Bool × List Int))) => [intss p.1 p.2]) (x := (nl, xss)) (by rintro ⟨a0, a1⟩ ⟨b0, b1⟩ h; simp [ints, intss, int, bool, row, frac, fracs, map_int_inj, map_row_inj, frac_inj, map_frac_inj] at h; simp [h]) trivial

def apRm (m : Nat) : Option (Nat × Int) → AV
  | none => .sl true 1 []
  | some (i, _) => .ref 0 [(i, 0)] 0 m
def apQm (m : Nat) : Option (Nat × Int) → AV
  | none => .ref 0 [] 0 0
  | some (i, _) => .ref 0 [(i, 0)] 0 m
def apR (n : Nat) : Option (Nat × Int) → AV
  | none => .ref 1 [] 0 n
  | some _ => .ref 0 [] 0 n
def apQt (L : List (Bool × List Int)) : Option (Nat × Int) → List Tok
  | none => [⟨true, .sl false 1 []⟩, ⟨true, .sl false 1 (L.map row)⟩]
  | some _ => [⟨true, .sl false 1 (L.map row)⟩]
def apN : Option (Nat × Int) → AV
  | none => int 0
  | some (_, n) => int n

theorem best_facts {xss : List (Bool × List Int)} (h1 : rentB xss = true) : (allRk xss.length).length ≤ 120 ∧ (allRk xss.length).length ≠ 0 ∧ ∀ r ∈ allRk xss.length, r.1 = false ∧ rankB xss.length r.2 = true := by
  obtain ⟨r1, r2, _⟩ := rent_facts h1
  have h : allRk xss.length = l03L xss.length xss.length [] := by
    have : inR 1 5 (xss.length : Int) = true := by simp [inR]; omega
    simp [allRk, this]
  rw [h]
  exact l03L_facts r1 (by omega)

end Go.Proofs.Ytlkgppincgpfjaa.Ax

/-
  A list of tickets that may still be nil. No condition.
-/
namespace Go.Proofs.Ytlkgppincgpfjaa.Ax
open Go Go.RowKit

def tkA (t : Nat) : List Tk → AV
  | [] => .sl true 1 []
  | _ :: l => .ref t [] 0 (l.length + 1)
def tkT : List Tk → List Tok
  | [] => []
  | x :: l => [⟨true, .sl false 3 ((x :: l).map tick)⟩]
def tkI (t : Nat) : List Tk → Nat
  | [] => t
  | _ :: _ => t + 1
theorem tkI_ne {t : Nat} {L : List Tk} (h : L ≠ []) : tkI t L = t + 1 := by cases L with | nil => exact (h rfl).elim | cons _ _ => rfl
theorem tkA_ne {t : Nat} {L : List Tk} (h : L ≠ []) : tkA t L = .ref t [] 0 L.length := by cases L with | nil => exact (h rfl).elim | cons _ _ => rfl
theorem tkT_ne {L : List Tk} (h : L ≠ []) : tkT L = [⟨true, .sl false 3 (L.map tick)⟩] := by cases L with | nil => exact (h rfl).elim | cons _ _ => rfl

end Go.Proofs.Ytlkgppincgpfjaa.Ax

/-
  Contracts: RandomSerial (both programs). No condition.
-/
namespace Go.Proofs.Ytlkgppincgpfjaa.Ax
open Go Go.RowKit
set_option linter.unusedSimpArgs false

/-- The tickets of so many orders. -/
def rsK (xss : List (Bool × List Int)) (L : Nat) (os : List (Bool × List Int)) : List Tk := os.map fun o => ((1, (L : Int)), false, (scT xss o.2 o.2.length).2)
def rserA (xss : List (Bool × List Int)) : Bool := housesB xss && decide (xss.length ≠ 5)
def rserK (xss : List (Bool × List Int)) : List Tk := rsK xss (allRk xss.length).length (allRk xss.length)
def rserB (xss : List (Bool × List Int)) : Bool := rserA xss && mixB (rserK xss) xss.length
def rserT (xss : List (Bool × List Int)) : List (Bool × List (Int × Int)) := if rserA xss = true then mixT (rserK xss) xss.length else []
noncomputable def mRser : List AV → Option AV := mk (fun _ => True) (fun (p : (Bool) × (List (Bool × List Int))) => [intss p.1 p.2]) (fun p => .tup [.sl (!rserB p.2) 1 ((rserT p.2).map frow), .v (.bool (rserB p.2))])
theorem mRser_at (nl : Bool) (xss : List (Bool × List Int)) : mRser [.sl nl 1 (xss.map row)] = some (.tup [.sl (!rserB xss) 1 ((rserT xss).map frow), .v (.bool (rserB xss))]) :=
  mk_eq (enc := fun (p : (Bool) × (List (Bool × List Int))) => [intss p.1 p.2]) (x := (nl, xss)) (by rintro ⟨a0, a1⟩ ⟨b0, b1⟩ h; simp [ints, intss, int, bool, row, frac, fracs, map_int_inj, map_row_inj, frac_inj, map_frac_inj] at h; simp [h]) trivial

theorem allRk_facts {n : Nat} (h1 : 1 ≤ n) (h4 : n ≤ 4) : (1 ≤ (allRk n).length ∧ (allRk n).length ≤ 24) ∧ redF 1 (allRk n).length = ((1, ((allRk n).length : Int)), true) ∧ ∀ o ∈ allRk n, o.1 = false ∧ rankB n o.2 = true ∧ o.2.length = n := by
  have h : n = 1 ∨ n = 2 ∨ n = 3 ∨ n = 4 := by omega
  rcases h with rfl | rfl | rfl | rfl <;> decide +kernel

theorem rsK_len {xss : List (Bool × List Int)} {L : Nat} {os : List (Bool × List Int)} : (rsK xss L os).length = os.length := by simp [rsK]
theorem rsK_succ {xss : List (Bool × List Int)} {L k : Nat} {os : List (Bool × List Int)} (h : k < os.length) : (rsK xss L (os.take k)).map tick ++ [.agg [.v (.int .i64 1), .v (.int .i64 L), .sl false 1 ((scT xss os[k].2 os[k].2.length).2.map int)]] = (rsK xss L (os.take (k + 1))).map tick := by
  rw [List.take_succ_eq_append_getElem h]
  simp only [rsK, List.map_append, List.map_cons, List.map_nil, tick]

set_option maxRecDepth 16000 in
set_option maxHeartbeats 4000000 in
theorem specRser_ok : FnOk Try.prog 6 mRser := by
  refine mk_ok fun ⟨nl, xss⟩ _ => ?_
  simp only
  have hB : rserA xss = true → rserB xss = mixB (rserK xss) xss.length ∧ rserT xss = mixT (rserK xss) xss.length := fun h => by simp [rserB, rserT, h]
  have hN : rserA xss = false → rserB xss = false ∧ rserT xss = [] := fun h => by simp [rserB, rserT, h]
  generalize rserB xss = gb at *
  generalize rserT xss = gt at *
  have hG : FnsOk Try.prog [(20, mHouses), (21, mAllRk), (22, mSer), (23, mMix)] := (.cons specHouses_ok (.cons specAllRankings_ok (.cons specSerial_ok (.cons specMix_ok .nil))))
  refine callOk_awp (ctx_ok eqOk hG) mixed (live := [true, false, true, true, true, true, true, true, false, true, false, false, false, false, false, false, false, false, true, false, false, false, false, false, false, true, true, true, true]) (dt := [(10, ⟨[], [0, 0, 0, 0, 1, 0, 1, 1], []⟩)]) Try.func6 rfl (by kernel_rfl) (by kernel_rfl) fun w0 hlens => ?_
  clear hlens
  cases hh : housesB xss with
  | false =>
    obtain ⟨rfl, rfl⟩ := hN (by simp [rserA, hh])
    simp (config := {contextual := true}) [Try.f6, List.range, List.range.loop, ints, intss, int, bool, row, frac, fracs, ← List.map_take, ← List.map_drop, mHouses_at, hh]
  | true =>
  by_cases h5 : xss.length = 5
  · obtain ⟨rfl, rfl⟩ := hN (by simp [rserA, h5])
    simp (config := {contextual := true}) [Try.f6, List.range, List.range.loop, ints, intss, int, bool, row, frac, fracs, ← List.map_take, ← List.map_drop, mHouses_at, hh, h5]
  obtain ⟨rfl, rfl⟩ := hB (by simp [rserA, h5, hh])
  have h := hs_of hh h5
  have hn4 := h.n4
  have hn1 := h.n1
  obtain ⟨⟨hf1, hf2⟩, hf3, hf4⟩ := allRk_facts hn1 hn4
  have hin : inR 1 5 (xss.length : Int) = true := by simp [inR]; omega
  have h5' : ¬ (xss.length : Int) = 5 := by omega
  have hK : rserK xss = rsK xss (allRk xss.length).length (allRk xss.length) := rfl
  have hz : ∀ L, rsK xss L [] = [] := fun _ => rfl
  have hz2 : (allRk (xss.length : Int)).length ≠ 0 := by omega
  generalize hos : allRk (xss.length : Int) = os at *
  simp (config := {contextual := true}) [Try.f6, List.range, List.range.loop, ints, intss, int, bool, row, frac, fracs, ← List.map_take, ← List.map_drop, mHouses_at, mAllRk_at, hh, h5', hin, hos]
  refine awp_range (live := [true, false, true, true, true, true, true, true, false, true, false, false, false, false, false, false, false, false, true, false, false, false, false, false, false, true, true, true, true]) (ctx_ok eqOk hG) mixed [true, false, false, false, true, false, true, true, false, false, false, false, false, false, false, false, false, false, false, false, false, false, false, false, false, true, true, true] (os.length) (fun k => True) (fun k => ⟨[intss nl xss, .junk, .junk, .junk, int xss.length, .junk, .ptr 0 [] 0 0, .ref 1 [] 0 k, .junk, .junk, .junk, .junk, .junk, .junk, .junk, .junk, .junk, .junk, .junk, .junk, .junk, .junk, .junk, .junk, .junk, .ref 2 [] 0 os.length, int os.length, int k, .junk, .junk, .junk, .junk, .junk, .junk, .junk, .junk, .junk, .junk, .junk, .junk, .junk, .junk, .junk, .junk, .junk], [⟨true, .sl false 2 [frac (1, (os.length : Int))]⟩, ⟨true, .sl false 3 ((rsK xss os.length (os.take k)).map tick)⟩, ⟨true, .sl false 1 (os.map row)⟩]⟩) ?_ (by simp [sub, slotsLe, clean, keep, refsL, refs, once, place, renL, ren, List.replicate, int, bool, hz, intss, frac]) ?_ ?_ ?_
  · omega
  · trivial
  · intro k hk _ hwk
    obtain ⟨o1, o2, o3⟩ := hf4 _ (List.getElem_mem hk)
    have hs := rsK_succ (xss := xss) (L := os.length) hk
    have hser := fun nl' => mSer_at nl xss nl' os[k].2 ⟨hh, h5, by simpa using o2⟩
    have hl := rsK_len (xss := xss) (L := os.length) (os := os.take k)
    have hl2 := rsK_len (xss := xss) (L := os.length) (os := os.take (k + 1))
    rw [List.length_take] at hl hl2
    rw [Nat.min_eq_left (by omega)] at hl hl2
    generalize rsK xss os.length (os.take k) = T at *
    generalize rsK xss os.length (os.take (k + 1)) = T' at *
    have q : k + 1 ≤ 4611686018427387904 ∧ (k + 1) * 40 ≤ 140737488355328 := by omega
    simp (config := {contextual := true}) [List.range, List.range.loop, ints, intss, int, bool, row, frac, fracs, ← List.map_take, ← List.map_drop, hk, hwk, hser, frac, row, hs, hl, hl2, q, o1]
    done
  · intro _
    have hm := mMix_at false (rserK xss) xss.length
    rw [hK] at hm ⊢
    have hl := rsK_len (xss := xss) (L := os.length) (os := os)
    rw [List.take_length]
    generalize rsK xss os.length os = T at *
    have htk : List.take os.length T = T := List.take_of_length_le (by omega)
    simp (config := {contextual := true}) [List.range, List.range.loop, ints, intss, int, bool, row, frac, fracs, ← List.map_take, ← List.map_drop, hm, htk, hl]
    done

set_option maxRecDepth 16000 in
set_option maxHeartbeats 4000000 in
theorem implRser_ok : FnOk Try.prog 8 mRser := by
  refine mk_ok fun ⟨nl, xss⟩ _ => ?_
  simp only
  have hB : rserA xss = true → rserB xss = mixB (rserK xss) xss.length ∧ rserT xss = mixT (rserK xss) xss.length := fun h => by simp [rserB, rserT, h]
  have hN : rserA xss = false → rserB xss = false ∧ rserT xss = [] := fun h => by simp [rserB, rserT, h]
  generalize rserB xss = gb at *
  generalize rserT xss = gt at *
  have hG : FnsOk Try.prog [(25, mHouses), (26, mAllRk), (27, mRed), (28, mSer), (29, mMix)] := (.cons implHouses_ok (.cons implAllRankings_ok (.cons reduced_ok (.cons implSerial_ok (.cons implMix_ok .nil)))))
  refine callOk_awp (ctx_ok eqOk hG) mixed (live := [true, false, true, true, true, true, false, true, false, true, false, false, false, false, false, false, false, true, false, false, false, false, false, false, false, false, false, true, true, true, true]) (dt := [(9, ⟨[], [0, 0, 0, 0, 1, 0, 1, 1], []⟩)]) Try.func8 rfl (by kernel_rfl) (by kernel_rfl) fun w0 hlens => ?_
  clear hlens
  cases hh : housesB xss with
  | false =>
    obtain ⟨rfl, rfl⟩ := hN (by simp [rserA, hh])
    simp (config := {contextual := true}) [Try.f8, List.range, List.range.loop, ints, intss, int, bool, row, frac, fracs, ← List.map_take, ← List.map_drop, mHouses_at, hh]
  | true =>
  by_cases h5 : xss.length = 5
  · obtain ⟨rfl, rfl⟩ := hN (by simp [rserA, h5])
    simp (config := {contextual := true}) [Try.f8, List.range, List.range.loop, ints, intss, int, bool, row, frac, fracs, ← List.map_take, ← List.map_drop, mHouses_at, hh, h5]
  obtain ⟨rfl, rfl⟩ := hB (by simp [rserA, h5, hh])
  have h := hs_of hh h5
  have hn4 := h.n4
  have hn1 := h.n1
  obtain ⟨⟨hf1, hf2⟩, hf3, hf4⟩ := allRk_facts hn1 hn4
  have hin : inR 1 5 (xss.length : Int) = true := by simp [inR]; omega
  have h5' : ¬ (xss.length : Int) = 5 := by omega
  have hK : rserK xss = rsK xss (allRk xss.length).length (allRk xss.length) := rfl
  have hz : ∀ L, rsK xss L [] = [] := fun _ => rfl
  have ww1 : IntKind.i64.wrap 1 = 1 := by decide
  have hrd := mRed_at 1 ((allRk xss.length).length : Int) (by omega)
  rw [hf3] at hrd
  generalize hos : allRk (xss.length : Int) = os at *
  simp (config := {contextual := true}) [Try.f8, List.range, List.range.loop, ints, intss, int, bool, row, frac, fracs, ← List.map_take, ← List.map_drop, mHouses_at, mAllRk_at, hh, h5', hin, hos, hrd]
  refine awp_range (live := [true, false, true, true, true, true, false, true, false, true, false, false, false, false, false, false, false, true, false, false, false, false, false, false, false, false, false, true, true, true, true]) (ctx_ok eqOk hG) mixed [true, false, false, false, false, true, false, true, false, false, false, false, false, false, false, false, false, false, false, false, false, false, false, false, false, false, false, true, true, true] (os.length) (fun k => True) (fun k => ⟨[intss nl xss, .junk, .junk, .junk, .junk, .ptr 0 [] 0 0, .junk, tkA 1 (rsK xss os.length (os.take k)), .junk, .junk, .junk, .junk, .junk, .junk, .junk, .junk, .junk, .junk, .junk, .junk, .junk, .junk, .junk, .junk, .junk, .junk, .junk, .ref (tkI 1 (rsK xss os.length (os.take k))) [] 0 os.length, int os.length, int k, .junk, .junk, .junk, .junk, .junk, .junk, .junk, .junk, .junk, .junk, .junk, .junk, .junk, .junk, .junk, .junk, .junk, .junk], [⟨true, .sl false 2 [frac (1, (os.length : Int))]⟩] ++ tkT (rsK xss os.length (os.take k)) ++ [⟨true, .sl false 1 (os.map row)⟩]⟩) ?_ (by simp [sub, slotsLe, clean, keep, refsL, refs, once, place, renL, ren, List.replicate, int, bool, hz, intss, frac, tkA, tkT, tkI]) ?_ ?_ ?_
  · omega
  · trivial
  · intro k hk _ hwk
    obtain ⟨o1, o2, o3⟩ := hf4 _ (List.getElem_mem hk)
    have hs := rsK_succ (xss := xss) (L := os.length) hk
    have hser := fun nl' => mSer_at nl xss nl' os[k].2 ⟨hh, h5, by simpa using o2⟩
    have hl := rsK_len (xss := xss) (L := os.length) (os := os.take k)
    have hl2 := rsK_len (xss := xss) (L := os.length) (os := os.take (k + 1))
    rw [List.length_take] at hl hl2
    rw [Nat.min_eq_left (by omega)] at hl hl2
    generalize rsK xss os.length (os.take k) = T at *
    generalize rsK xss os.length (os.take (k + 1)) = T' at *
    have hT' : T' ≠ [] := fun e => by rw [e] at hl2; simp at hl2
    rw [tkA_ne hT', tkT_ne hT', tkI_ne hT', ← hs, hl2]
    have q : k + 1 ≤ 4611686018427387904 ∧ (k + 1) * 40 ≤ 140737488355328 := by omega
    cases T with
    | nil =>
      obtain rfl : 0 = k := hl
      simp (config := {contextual := true}) [List.range, List.range.loop, ints, intss, int, bool, row, frac, fracs, ← List.map_take, ← List.map_drop, hk, hwk, hser, frac, row, q, o1, tkA, tkT, tkI, ww1]
      done
    | cons t T =>
      have hT0 : t :: T ≠ [] := by simp
      rw [tkA_ne hT0, tkT_ne hT0, tkI_ne hT0, hl]
      generalize t :: T = T0 at *
      simp (config := {contextual := true}) [List.range, List.range.loop, ints, intss, int, bool, row, frac, fracs, ← List.map_take, ← List.map_drop, hk, hwk, hser, frac, row, hl, hl2, q, o1]
      done
  · intro _
    have hm := mMix_at false (rserK xss) xss.length
    rw [hK] at hm ⊢
    have hl := rsK_len (xss := xss) (L := os.length) (os := os)
    rw [List.take_length]
    generalize rsK xss os.length os = T at *
    have htk : List.take os.length T = T := List.take_of_length_le (by omega)
    have hT0 : T ≠ [] := fun e => by rw [e] at hl; simp at hl; omega
    rw [tkA_ne hT0, tkT_ne hT0, tkI_ne hT0, hl]
    simp (config := {contextual := true}) [List.range, List.range.loop, ints, intss, int, bool, row, frac, fracs, ← List.map_take, ← List.map_drop, hm, htk, hl]
    done

end Go.Proofs.Ytlkgppincgpfjaa.Ax
