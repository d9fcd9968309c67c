/-
  Contracts: CutAndChoose (both programs). No condition.
-/
import Derived.Test.YtblnpjppckfmfaaDoorCG6
import Derived.Test.YtblnpjppckfmfaaDoorCB2
import Derived.Test.YtblnpjppckfmfaaDoorCG1
import Derived.Test.YtblnpjppckfmfaaDoorCB1
import Derived.Test.YtblnpjppckfmfaaDoorCG3
import Derived.Test.YtblnpjppckfmfaaDoorCG2
namespace Go.Proofs.YtblnpjppckfmfaaDoor.Ax
open Go Go.RowKit
set_option linter.unusedSimpArgs false

def mBoolInt : List AV → Option AV
  | [.v (.bool b)] => some (.v (.int .i64 (if b then 1 else 0)))
  | _ => none
theorem mBoolInt_at {b : Bool} : mBoolInt [.v (.bool b)] = some (.v (.int .i64 (if b then 1 else 0))) := rfl
theorem tkd {l : List Int} {c : Nat} : List.take (l.length - c) (List.drop c l) = List.drop c l := List.take_of_length_le (by simp)

/-- The lesser of the two parts at a cut. -/
def lessr (r : List Int) (c : Nat) : Int := min (sumW (r.take c)) (sumW (r.drop c))
/-- The first best cut among the first m. -/
def bestTo (r : List Int) : Nat → Nat
  | 0 => 0
  | m + 1 => if lessr r (bestTo r m) < lessr r m then m else bestTo r m
theorem bestTo_le {r : List Int} : ∀ {m : Nat}, bestTo r (m + 1) ≤ m
  | 0 => by simp [bestTo]
  | m + 1 => by rw [bestTo]; split; exact Nat.le_refl _; exact Nat.le_trans bestTo_le (Nat.le_succ m)
def cutP (r0 r1 : List Int) (i : Nat) : Int :=
  let c := bestTo r0 (r0.length + 1)
  let f : Int := if sumW (r1.drop c) < sumW (r1.take c) then 1 else 0
  if i < c then f else 1 - f
def cutList (r0 r1 : List Int) : List Int := (List.range r0.length).map (cutP r0 r1)
theorem cutList_len {r0 r1 : List Int} : (cutList r0 r1).length = r0.length := by simp [cutList]
def cutL (xss : List (Bool × List Int)) : Bool × List Int := match xss with
  | [r0, r1] => if rectB xss 3 10 100 = true then (false, cutList r0.2 r1.2) else (true, [])
  | _ => (true, [])
theorem cutL_len {xss : List (Bool × List Int)} : (cutL xss).2.length ≤ 2 ^ 40 := by
  unfold cutL
  split
  · split
    · rename_i h
      have := rect_len h
      simp [wid, cutList] at this ⊢; omega
    · simp
  · simp

noncomputable def mCut : List AV → Option AV := mk (fun _ => True) (fun (p : (Bool) × (List (Bool × List Int))) => [intss p.1 p.2]) (fun p => .sl (cutL p.2).1 1 ((cutL p.2).2.map int))
theorem mCut_at (nl : Bool) (xss : List (Bool × List Int)) : mCut [.sl nl 1 (xss.map row)] = some (.sl (cutL xss).1 1 ((cutL xss).2.map int)) :=
  mk_eq (enc := fun (p : (Bool) × (List (Bool × List Int))) => [intss p.1 p.2]) (x := (nl, xss)) (by rintro ⟨a0, a1⟩ ⟨b0, b1⟩ h; simp [ints, intss, int, bool, row, frac, fracs, map_int_inj, map_row_inj, frac_inj, map_frac_inj] at h; simp [h]) trivial

noncomputable def mLess : List AV → Option AV := mk (fun (p : Nat × Bool × List (Bool × List Int)) => ∃ r rs, p.2.2 = r :: rs ∧ p.1 ≤ r.2.length) (fun p => [int p.1, .fp (intss p.2.1 p.2.2) 0]) (fun p => int (lessr (p.2.2.headD (true, [])).2 p.1))
theorem mLess_at (c : Nat) (nl : Bool) (r : Bool × List Int) (rs : List (Bool × List Int)) (h : c ≤ r.2.length) : mLess [.v (.int .i64 c), .fp (.sl nl 1 (row r :: rs.map row)) 0] = some (.v (.int .i64 (lessr r.2 c))) :=
  mk_eq (enc := fun (p : Nat × Bool × List (Bool × List Int)) => [int p.1, .fp (intss p.2.1 p.2.2) 0]) (x := (c, nl, r :: rs)) (by
    rintro ⟨a, b, e⟩ ⟨a', b', e'⟩ h
    simp [int, intss, map_row_inj] at h
    obtain ⟨h1, _, h2⟩ := h
    have : a = a' := by omega
    simp [this, h2]) ⟨r, rs, rfl, h⟩

/-- The list whose first k pieces are given. -/
def cutF (r0 r1 : List Int) (k : Nat) : List AV := filled (fun i => int (cutP r0 r1 i)) (int 0) (List.range r0.length) k
theorem cutF_len {r0 r1 : List Int} {k : Nat} (h : k ≤ r0.length) : (cutF r0 r1 k).length = r0.length := by unfold cutF; rw [filled_len (by simpa using h)]; simp
theorem cutF_zero {r0 r1 : List Int} : cutF r0 r1 0 = List.replicate r0.length (.v (.int .i64 0)) := by simp [cutF, filled_zero, int]
theorem cutF_all {r0 r1 : List Int} : cutF r0 r1 r0.length = (cutList r0 r1).map int := by
  have := filled_all (f := fun i => int (cutP r0 r1 i)) (z := int 0) (xs := List.range r0.length)
  rw [List.length_range] at this
  rw [cutF, this]; simp [cutList]
theorem cutF_at {r0 r1 : List Int} {k : Nat} (h : k < r0.length) (hh : k < (cutF r0 r1 k).length) : (cutF r0 r1 k)[k] = .v (.int .i64 0) := filled_get' (by simpa using h) hh
theorem cutF_set {r0 r1 : List Int} {k : Nat} (h : k < r0.length) : (cutF r0 r1 k).set k (.v (.int .i64 (cutP r0 r1 k))) = cutF r0 r1 (k + 1) := by
  have := filled_set (f := fun i => int (cutP r0 r1 i)) (z := int 0) (xs := List.range r0.length) (k := k) (by simpa using h)
  simpa [cutF, int] using this

theorem cutL_no {xss : List (Bool × List Int)} (h : rectB xss 3 10 100 = false ∨ ¬ xss.length = 2) : cutL xss = (true, []) := by
  match xss, h with
  | [], _ => rfl
  | [a], _ => rfl
  | [a, b], h => simp at h; simp [cutL, h]
  | a :: b :: c :: l, _ => rfl

/-- The first k pieces, given. -/
def cutA (r0 r1 : List Int) (k : Nat) : List Int := (List.range k).map (cutP r0 r1)
theorem cutA_len {r0 r1 : List Int} {k : Nat} : (cutA r0 r1 k).length = k := by simp [cutA]
theorem cutA_zero {r0 r1 : List Int} : cutA r0 r1 0 = [] := by simp [cutA]
theorem cutA_succ {r0 r1 : List Int} {k : Nat} : (cutA r0 r1 k).map int ++ [.v (.int .i64 (cutP r0 r1 k))] = (cutA r0 r1 (k + 1)).map int := by simp [cutA, List.range_succ, int]
theorem cutA_all {r0 r1 : List Int} : cutA r0 r1 r0.length = cutList r0 r1 := rfl

end Go.Proofs.YtblnpjppckfmfaaDoor.Ax

/-
  Contracts: marks on lists of fractions, FirstShares (both programs). No condition.
-/
namespace Go.Proofs.YtblnpjppckfmfaaDoor.Ax
open Go Go.RowKit
set_option linter.unusedSimpArgs false

/-- The marks from k on, for so many fractions. -/
def mkdF (k : Int) (n : Nat) : List (Int × Int) := (List.range n).map fun (i : Nat) => (k + 2 * (i : Int), k + 2 * (i : Int) + 1)
theorem mkdF_len {k : Int} {n : Nat} : (mkdF k n).length = n := by simp [mkdF]
theorem mkdF_take {k : Int} {n : Nat} : (mkdF k n).take n = mkdF k n := List.take_of_length_le (by simp [mkdF_len])
theorem mkdF_at {k : Int} {n i : Nat} (h : i < (mkdF k n).length) : (mkdF k n)[i] = (k + 2 * (i : Int), k + 2 * (i : Int) + 1) := by simp [mkdF]
def mkFTo (k : Int) (xs : List (Int × Int)) (i : Nat) : List (Int × Int) := mkdF k i ++ xs.drop i
theorem mkFTo_len {k : Int} {xs : List (Int × Int)} {i : Nat} (h : i ≤ xs.length) : (mkFTo k xs i).length = xs.length := by simp [mkFTo, mkdF_len]; omega
theorem mkFTo_zero {k : Int} {xs : List (Int × Int)} : mkFTo k xs 0 = xs := by simp [mkFTo, mkdF]
theorem mkFTo_all {k : Int} {xs : List (Int × Int)} : mkFTo k xs xs.length = mkdF k xs.length := by simp [mkFTo]
theorem mkFTo_set {k : Int} {xs : List (Int × Int)} {i : Nat} (h : i < xs.length) : ((mkFTo k xs i).map frac).set i (.agg [.v (.int .i64 (k + 2 * (i : Int))), .v (.int .i64 (k + 2 * (i : Int) + 1))]) = (mkFTo k xs (i + 1)).map frac := by
  have : (AV.agg [.v (.int .i64 (k + 2 * (i : Int))), .v (.int .i64 (k + 2 * (i : Int) + 1))]) = frac (k + 2 * (i : Int), k + 2 * (i : Int) + 1) := rfl
  rw [this, ← List.map_set]
  congr 1
  unfold mkFTo
  rw [List.set_append, if_neg (by simp [mkdF_len]), mkdF_len, Nat.sub_self, drop_get h, List.set_cons_zero]
  simp [mkdF, List.range_succ]

noncomputable def mMarkF : List AV → Option (Nat × AV × AV) := mkM (fun (p : Bool × List (Int × Int) × Int) => 0 ≤ p.2.2 ∧ p.2.2 + 2 * p.2.1.length ≤ 2 ^ 62) (fun p => [fracs p.1 p.2.1, int p.2.2]) (fun p => (0, int (p.2.2 + 2 * p.2.1.length), fracs p.1 (mkdF p.2.2 p.2.1.length)))
theorem mMarkF_at (nl : Bool) (xs : List (Int × Int)) (k : Int) (h : 0 ≤ k ∧ k + 2 * xs.length ≤ 2 ^ 62) : mMarkF [.sl nl 2 (xs.map frac), .v (.int .i64 k)] = some (0, .v (.int .i64 (k + 2 * xs.length)), .sl nl 2 ((mkdF k xs.length).map frac)) :=
  mkM_eq (enc := fun (p : Bool × List (Int × Int) × Int) => [fracs p.1 p.2.1, int p.2.2]) (x := (nl, xs, k)) (by rintro ⟨a, b, c⟩ ⟨d, e, f⟩ h; simp [fracs, int, map_frac_inj] at h; simp [h]) h

noncomputable def mHeldF : List AV → Option AV := mk (fun (p : Bool × Nat × Int) => 0 ≤ p.2.2 ∧ p.2.2 + 2 * p.2.1 ≤ 2 ^ 62) (fun p => [fracs p.1 (mkdF p.2.2 p.2.1), int p.2.2]) (fun p => int (p.2.2 + 2 * p.2.1))
theorem mHeldF_at (nl : Bool) (n : Nat) (k : Int) (h : 0 ≤ k ∧ k + 2 * n ≤ 2 ^ 62) : mHeldF [.sl nl 2 ((mkdF k n).map frac), .v (.int .i64 k)] = some (.v (.int .i64 (k + 2 * n))) :=
  mk_eq (enc := fun (p : Bool × Nat × Int) => [fracs p.1 (mkdF p.2.2 p.2.1), int p.2.2]) (x := (nl, n, k)) (by
    rintro ⟨a, b, c⟩ ⟨d, e, f⟩ h
    simp [fracs, int, map_frac_inj] at h
    obtain ⟨⟨_, h1⟩, h2⟩ := h
    have := congrArg List.length h1
    simp [mkdF_len] at this
    simp [h2, this]) h

/-- A list that is nil until something is put into it. -/
def apA : Nat → AV
  | 0 => .sl true 1 []
  | k + 1 => .ref 0 [] 0 (k + 1)
def apT (sz : Nat) (l : List AV) : Nat → List Tok
  | 0 => []
  | _ + 1 => [⟨true, .sl false sz l⟩]

/-- Heir 0's first share of thing x. -/
def fshare (r0 r1 : List Int) (x : Nat) : Int × Int := (if at0 r1 x ≤ at0 r0 x then 1 else 0, 1)
def fsA (r0 r1 : List Int) (k : Nat) : List (Int × Int) := (List.range k).map (fshare r0 r1)
theorem fsA_len {r0 r1 : List Int} {k : Nat} : (fsA r0 r1 k).length = k := by simp [fsA]
theorem fsA_zero {r0 r1 : List Int} : fsA r0 r1 0 = [] := by simp [fsA]
theorem fsA_succ {r0 r1 : List Int} {k : Nat} : (fsA r0 r1 k).map frac ++ [.agg [.v (.int .i64 (if at0 r1 k ≤ at0 r0 k then 1 else 0)), .v (.int .i64 1)]] = (fsA r0 r1 (k + 1)).map frac := by simp [fsA, List.range_succ, frac, fshare]
def firstL (xss : List (Bool × List Int)) : List (Int × Int) := match xss with
  | [r0, r1] => if pointsB xss = true then fsA r0.2 r1.2 r0.2.length else []
  | _ => []
theorem firstL_len {xss : List (Bool × List Int)} : (firstL xss).length ≤ 2 ^ 40 := by
  unfold firstL
  split
  · split
    · rename_i h
      have := rect_len (points_facts h).2
      simp [wid, fsA_len] at this ⊢; omega
    · simp
  · simp
theorem firstL_no {xss : List (Bool × List Int)} (h : pointsB xss = false) : firstL xss = [] := by
  unfold firstL; split <;> simp [h]

noncomputable def mFirst : List AV → Option AV := mk (fun _ => True) (fun (p : (Bool) × (List (Bool × List Int))) => [intss p.1 p.2]) (fun p => .sl (!pointsB p.2) 2 ((firstL p.2).map frac))
theorem mFirst_at (nl : Bool) (xss : List (Bool × List Int)) : mFirst [.sl nl 1 (xss.map row)] = some (.sl (!pointsB xss) 2 ((firstL xss).map frac)) :=
  mk_eq (enc := fun (p : (Bool) × (List (Bool × List Int))) => [intss p.1 p.2]) (x := (nl, xss)) (by rintro ⟨a0, a1⟩ ⟨b0, b1⟩ h; simp [ints, intss, int, bool, row, frac, fracs, map_int_inj, map_row_inj, frac_inj, map_frac_inj] at h; simp [h]) trivial

/-- A nil slice is a nil slice of whatever. -/
theorem callOk_nil {P : Program} {f : FuncId} {args : List AV} {a b : Nat} (h : CallOk P f args (.sl true a [])) : CallOk P f args (.sl true b []) := by
  refine ⟨h.1, fun w F vals hF hv => (h.2 w F vals hF hv).mono fun e w' he => ?_⟩
  obtain ⟨y, S, h1, h2, h3, h4⟩ := he
  refine ⟨y, S, h1, h2, h3, ?_⟩
  obtain ⟨a1, l, c, hy, k1, k2, k3, k4⟩ := Excl.of_own h4
  refine Excl.own (S := S) ⟨a1, l, c, hy, k1, k2, k3, ?_⟩
  rcases k4 with k4 | ⟨_, _, _, _, _, k4, _⟩
  · exact .inl k4
  · simp at k4

noncomputable def mL28 : List AV → Option AV := mk (fun (p : Bool × (Bool × List Int) × (Bool × List Int) × Nat) => p.2.2.2 < p.2.1.2.length ∧ p.2.2.2 < p.2.2.1.2.length) (fun p => [intss p.1 [p.2.1, p.2.2.1], int p.2.2.2]) (fun p => bool (decide (at0 p.2.2.1.2 p.2.2.2 ≤ at0 p.2.1.2 p.2.2.2)))
theorem mL28_at (nl : Bool) (r0 r1 : Bool × List Int) (k : Nat) (h : k < r0.2.length ∧ k < r1.2.length) : mL28 [.sl nl 1 [.sl r0.1 1 (r0.2.map int), .sl r1.1 1 (r1.2.map int)], .v (.int .i64 k)] = some (.v (.bool (decide (at0 r1.2 k ≤ at0 r0.2 k)))) :=
  mk_eq (enc := fun (p : Bool × (Bool × List Int) × (Bool × List Int) × Nat) => [intss p.1 [p.2.1, p.2.2.1], int p.2.2.2]) (x := (nl, r0, r1, k)) (by
    rintro ⟨a, b, c, d⟩ ⟨a', b', c', d'⟩ h
    simp [intss, int, row_inj] at h
    have : d = d' := by omega
    simp [h, this]) h
end Go.Proofs.YtblnpjppckfmfaaDoor.Ax

/-
  A nil slice among a function's results is a nil slice of whatever. No condition.
-/
namespace Go.Proofs.YtblnpjppckfmfaaDoor.Ax
open Go Go.RowKit

theorem Own.nil {w : World} {F S : Nat → Prop} {a b : Nat} {y : Value} (h : Own w true F S (.sl true a []) y) : Own w true F S (.sl true b []) y := by
  obtain ⟨a1, l, c, hy, k1, k2, k3, k4⟩ := Excl.of_own h
  refine Excl.own ⟨a1, l, c, hy, k1, k2, k3, ?_⟩
  rcases k4 with k4 | ⟨_, _, _, _, _, k4, _⟩
  · exact .inl k4
  · simp at k4
/-- A nil slice beside others is a nil slice of whatever. -/
theorem callOk_nil1 {P : Program} {f : FuncId} {args vs : List AV} {a b : Nat} (h : CallOk P f args (.tup (.sl true a [] :: vs))) : CallOk P f args (.tup (.sl true b [] :: vs)) := by
  refine ⟨h.1, fun w F vals hF hv => (h.2 w F vals hF hv).mono fun e w' he => ?_⟩
  obtain ⟨y, S, h1, h2, h3, h4⟩ := he
  refine ⟨y, S, h1, h2, h3, ?_⟩
  simp only [Own] at h4 ⊢
  obtain ⟨ys, rfl, h4⟩ := h4
  refine ⟨ys, rfl, ?_⟩
  simp only [OwnL] at h4 ⊢
  obtain ⟨y, ys', S1, S2, k1, k2, k3, k4, k5, k6⟩ := h4
  exact ⟨y, ys', S1, S2, k1, k2, k3, k4, Own.nil k5, k6⟩

end Go.Proofs.YtblnpjppckfmfaaDoor.Ax

/-
  Contracts: GainsOf (both programs). No condition.
-/
namespace Go.Proofs.YtblnpjppckfmfaaDoor.Ax
open Go Go.RowKit
set_option linter.unusedSimpArgs false


noncomputable def mGain1 : List AV → Option AV := mk (fun p => fracOk (p.2.1, p.2.2) = true) (fun (p : (Int) × (Int) × (Int)) => [int p.1, frac (p.2.1, p.2.2)]) (fun p => .tup [.agg [.v (.int .i64 (subF (p.1, 1) (p.2.1, p.2.2)).1.1), .v (.int .i64 (subF (p.1, 1) (p.2.1, p.2.2)).1.2)], .v (.bool (subF (p.1, 1) (p.2.1, p.2.2)).2)])
theorem mGain1_at (x : Int) (c : Int) (d : Int) (hpre : fracOk (c, d) = true) : mGain1 [.v (.int .i64 x), .agg [.v (.int .i64 c), .v (.int .i64 d)]] = some (.tup [.agg [.v (.int .i64 (subF (x, 1) (c, d)).1.1), .v (.int .i64 (subF (x, 1) (c, d)).1.2)], .v (.bool (subF (x, 1) (c, d)).2)]) :=
  mk_eq (enc := fun (p : (Int) × (Int) × (Int)) => [int p.1, frac (p.2.1, p.2.2)]) (x := (x, c, d)) (by rintro ⟨a0, a1, a2⟩ ⟨b0, b1, b2⟩ h; simp [ints, intss, int, bool, row, frac, fracs, map_int_inj, map_row_inj, frac_inj, map_frac_inj] at h; simp [h]) hpre
/-- One row, of the call's own. -/
def tk1 (sz : Nat) (l : List AV) : List Tok := [⟨true, .sl false sz l⟩]

/-- What person i gains. -/
def gainF (xss : List (Bool × List Int)) (l : List Int) (fs : List (Int × Int)) (i : Nat) : (Int × Int) × Bool := subF (ent xss i (l.getD i 0), 1) (fs.getD (l.getD i 0).toNat (0, 0))
def gainA (xss : List (Bool × List Int)) (l : List Int) (fs : List (Int × Int)) (k : Nat) : List (Int × Int) := (List.range k).map fun i => (gainF xss l fs i).1
def gainOk (xss : List (Bool × List Int)) (l : List Int) (fs : List (Int × Int)) (i : Nat) : Bool := (gainF xss l fs i).2
def gainsB (xss : List (Bool × List Int)) (l : List Int) (fs : List (Int × Int)) : Bool := rentsB xss l fs && allR l.length (gainOk xss l fs)
def gainsL (xss : List (Bool × List Int)) (l : List Int) (fs : List (Int × Int)) : List (Int × Int) := if gainsB xss l fs then gainA xss l fs l.length else []
theorem gainA_len {xss : List (Bool × List Int)} {l : List Int} {fs : List (Int × Int)} {k : Nat} : (gainA xss l fs k).length = k := by simp [gainA]
theorem gainA_succ {xss : List (Bool × List Int)} {l : List Int} {fs : List (Int × Int)} {k : Nat} : (gainA xss l fs k).map frac ++ [.agg [.v (.int .i64 (gainF xss l fs k).1.1), .v (.int .i64 (gainF xss l fs k).1.2)]] = (gainA xss l fs (k + 1)).map frac := by
  simp [gainA, List.range_succ, frac]

noncomputable def mGains : List AV → Option AV := mk (fun _ => True) (fun (p : (Bool) × (List (Bool × List Int)) × (Bool) × (List Int) × (Bool) × (List (Int × Int))) => [intss p.1 p.2.1, ints p.2.2.1 p.2.2.2.1, fracs p.2.2.2.2.1 p.2.2.2.2.2]) (fun p => .tup [.sl (!gainsB p.2.1 p.2.2.2.1 p.2.2.2.2.2) 2 ((gainsL p.2.1 p.2.2.2.1 p.2.2.2.2.2).map frac), .v (.bool (gainsB p.2.1 p.2.2.2.1 p.2.2.2.2.2))])
theorem mGains_at (nl : Bool) (xss : List (Bool × List Int)) (nl1 : Bool) (l : List Int) (nl2 : Bool) (fs : List (Int × Int)) : mGains [.sl nl 1 (xss.map row), .sl nl1 1 (l.map int), .sl nl2 2 (fs.map frac)] = some (.tup [.sl (!gainsB xss l fs) 2 ((gainsL xss l fs).map frac), .v (.bool (gainsB xss l fs))]) :=
  mk_eq (enc := fun (p : (Bool) × (List (Bool × List Int)) × (Bool) × (List Int) × (Bool) × (List (Int × Int))) => [intss p.1 p.2.1, ints p.2.2.1 p.2.2.2.1, fracs p.2.2.2.2.1 p.2.2.2.2.2]) (x := (nl, xss, nl1, l, nl2, fs)) (by rintro ⟨a0, a1, a2, a3, a4, a5⟩ ⟨b0, b1, b2, b3, b4, b5⟩ h; simp [ints, intss, int, bool, row, frac, fracs, map_int_inj, map_row_inj, frac_inj, map_frac_inj] at h; simp [h]) trivial

end Go.Proofs.YtblnpjppckfmfaaDoor.Ax

/-
  Contract: FractionOf behind a divisor above 0 (the reference). No condition.
-/
namespace Go.Proofs.YtblnpjppckfmfaaDoor.Ax
open Go Go.RowKit
set_option linter.unusedSimpArgs false

noncomputable def mFOf : List AV → Option AV := mk (fun p => -1000000000000000000 ≤ p.1 ∧ p.1 ≤ 1000000000000000000 ∧ 1 ≤ p.2 ∧ p.2 ≤ 1000000000000000000) (fun (p : (Int) × (Int)) => [int p.1, int p.2]) (fun p => .tup [.agg [.v (.int .i64 (mkF p.1 p.2).1.1), .v (.int .i64 (mkF p.1 p.2).1.2)], .v (.bool (mkF p.1 p.2).2)])
theorem mFOf_at (t : Int) (b : Int) (hpre : -1000000000000000000 ≤ t ∧ t ≤ 1000000000000000000 ∧ 1 ≤ b ∧ b ≤ 1000000000000000000) : mFOf [.v (.int .i64 t), .v (.int .i64 b)] = some (.tup [.agg [.v (.int .i64 (mkF t b).1.1), .v (.int .i64 (mkF t b).1.2)], .v (.bool (mkF t b).2)]) :=
  mk_eq (enc := fun (p : (Int) × (Int)) => [int p.1, int p.2]) (x := (t, b)) (by rintro ⟨a0, a1⟩ ⟨b0, b1⟩ h; simp [ints, intss, int, bool, row, frac, fracs, map_int_inj, map_row_inj, frac_inj, map_frac_inj] at h; simp [h]) hpre
set_option maxHeartbeats 1000000 in
theorem fractionOf_ok : FnOk Tryd.prog 42 mFOf := by
  refine mk_ok fun ⟨t, b⟩ ⟨h1, h2, h3, h4⟩ => ?_
  simp only at h1 h2 h3 h4
  obtain ⟨g1, g2⟩ := gcd_bd (x := t) (show b ≠ 0 by omega)
  have hg := mGcd_at 0 (max t (-t)) b (by omega) (by omega) (by omega) (by omega)
  rw [gcd_abs] at hg
  have wn : IntKind.i64.wrap (-t) = -t := wrapI (by omega) (by omega)
  have i1 : inR (-1000000000000000000) 1000000000000000000 t = true := by simp [inR]; omega
  have i2 : inR (-1000000000000000000) 1000000000000000000 b = true := by simp [inR]; omega
  have i3 : ¬ b = 0 := by omega
  have i4 : ¬ b < 0 := by omega
  have hG : FnsOk Tryd.prog [(40, mWithin), (62, (mGcd 0)), (63, mFracOk)] := (.cons l01In_ok (.cons l02Gcd_ok (.cons specFractionOk_ok .nil)))
  refine callOk_awp (ctx_ok eqOk hG) mixed (live := [true, true, false, false, true, true, true, true, false, false, false, false, false, false, false, false, false, false, false, true, false, false, true, false, false, false, false, false, false, false, false, false, false, false, false, false, false, false, false, false, false, false, true]) (dt := [(7, ⟨[], [0, 0, 0, 0, 0, 0, 0, 1], []⟩)]) Tryd.func42 rfl (by kernel_rfl) (by kernel_rfl) fun w0 hlens => ?_
  unfold mkF
  have w1 : IntKind.i64.wrap (t.tdiv (Int.gcd t b)) = t.tdiv (Int.gcd t b) := by have := tdiv_bd (x := t) (y := Int.gcd t b) (m := 4611686018427387904) (by omega) (by omega); exact wrapI (by omega) (by omega)
  have w2 : IntKind.i64.wrap (b.tdiv (Int.gcd t b)) = b.tdiv (Int.gcd t b) := by have := tdiv_bd (x := b) (y := Int.gcd t b) (m := 4611686018427387904) (by omega) (by omega); exact wrapI (by omega) (by omega)
  generalize (Int.gcd t b : Int) = g at *
  have hne' : ¬ g = 0 := by omega
  generalize hp1 : t.tdiv g = p at *
  generalize hq1 : b.tdiv g = q at *
  cases hf : fracOk (p, q) <;> simp (config := {contextual := true}) [Tryd.f42, List.range, List.range.loop, ints, intss, int, bool, row, frac, fracs, ← List.map_take, ← List.map_drop, mWithin_in, i1, i2, i3, i4, hg, wn, hne', hp1, hq1, w1, w2, mFracOk_at, hf]


end Go.Proofs.YtblnpjppckfmfaaDoor.Ax

/-
  Contracts: FractionOf behind a divisor above 0 (the reference), RentsFor (both programs). No condition.
-/
namespace Go.Proofs.YtblnpjppckfmfaaDoor.Ax
open Go Go.RowKit
set_option linter.unusedSimpArgs false

theorem sumW_bd {xs : List Int} {m : Int} (hm : 0 ≤ m ∧ m ≤ 1000000) (hl : xs.length ≤ 1000) (h : ∀ x ∈ xs, 0 ≤ x ∧ x ≤ m) : ∀ k, k ≤ xs.length → 0 ≤ sumW (xs.take k) ∧ sumW (xs.take k) ≤ m * k
  | 0, _ => by simp [sumW]
  | k + 1, hk => by
    obtain ⟨h1, h2⟩ := sumW_bd hm hl h k (by omega)
    have h3 := h xs[k] (List.getElem_mem _)
    have h4 : m * (k : Int) ≤ 1000000 * 1000 := Int.mul_le_mul hm.2 (by omega) (by omega) (by omega)
    rw [sumW_succ (by omega), wrapI (by omega) (by omega)]
    push_cast
    rw [Int.mul_add]
    omega

/-- The raises; a room's rent. -/
def raiL (xss : List (Bool × List Int)) : List Int := (lrF (vR xss) (oR (bR xss).1) xss.length).getD []
theorem rai_facts {xss : List (Bool × List Int)} (h : rentB xss = true) : lrF (vR xss) (oR (bR xss).1) xss.length = some (raiL xss) ∧ (raiL xss).length = xss.length ∧ ∀ x ∈ raiL xss, 0 ≤ x ∧ x ≤ 4000 := by
  obtain ⟨r, h1, h2, h3⟩ := lrF_some (rent_ex h)
  have e : raiL xss = r := by unfold raiL; rw [h1]; rfl
  rw [e]
  refine ⟨h1, h2, fun x hx => ?_⟩
  obtain ⟨i, hi, rfl⟩ := List.getElem_of_mem hx
  have := h3 i (by omega)
  rw [at0_eq hi] at this
  exact this
def rntF (xss : List (Bool × List Int)) (total x : Int) : Int × Int := (mkF (x * xss.length + total - sumW (raiL xss)) xss.length).1
def rentFB (xss : List (Bool × List Int)) (total : Int) : Bool := rentB xss && inR 0 10000 total
def rntTo (xss : List (Bool × List Int)) (total : Int) (k : Nat) : List (Int × Int) := ((raiL xss).take k).map (rntF xss total)
def rentFL (xss : List (Bool × List Int)) (total : Int) : List (Int × Int) := if rentFB xss total = true then rntTo xss total xss.length else []
theorem rntTo_len {xss : List (Bool × List Int)} (h : rentB xss = true) {total : Int} {k : Nat} (hk : k ≤ xss.length) : (rntTo xss total k).length = k := by
  have := (rai_facts h).2.1
  simp [rntTo]; omega
theorem rntTo_succ {xss : List (Bool × List Int)} {total : Int} {k : Nat} (hk : k < (raiL xss).length) : (rntTo xss total k).map frac ++ [.agg [.v (.int .i64 (rntF xss total (raiL xss)[k]).1), .v (.int .i64 (rntF xss total (raiL xss)[k]).2)]] = (rntTo xss total (k + 1)).map frac := by
  unfold rntTo
  rw [List.take_succ_eq_append_getElem hk]
  simp only [List.map_append, List.map_cons, List.map_nil]
  rfl
theorem rentFL_len {xss : List (Bool × List Int)} {total : Int} : (rentFL xss total).length ≤ 4 := by
  unfold rentFL
  split
  · rename_i h
    simp only [rentFB, Bool.and_eq_true] at h
    rw [rntTo_len h.1 (Nat.le_refl _)]
    exact (rent_facts h.1).2.1
  · simp

noncomputable def mRentsF : List AV → Option AV := mk (fun _ => True) (fun (p : (Bool) × (List (Bool × List Int)) × (Int)) => [intss p.1 p.2.1, int p.2.2]) (fun p => .tup [.sl (!rentFB p.2.1 p.2.2) 2 ((rentFL p.2.1 p.2.2).map frac), .v (.bool (rentFB p.2.1 p.2.2))])
theorem mRentsF_at (nl : Bool) (xss : List (Bool × List Int)) (total : Int) : mRentsF [.sl nl 1 (xss.map row), .v (.int .i64 total)] = some (.tup [.sl (!rentFB xss total) 2 ((rentFL xss total).map frac), .v (.bool (rentFB xss total))]) :=
  mk_eq (enc := fun (p : (Bool) × (List (Bool × List Int)) × (Int)) => [intss p.1 p.2.1, int p.2.2]) (x := (nl, xss, total)) (by rintro ⟨a0, a1, a2⟩ ⟨b0, b1, b2⟩ h; simp [ints, intss, int, bool, row, frac, fracs, map_int_inj, map_row_inj, frac_inj, map_frac_inj] at h; simp [h]) trivial

def fnP : Nat → AV
  | 0 => .sl true 1 []
  | k + 1 => .ref 1 [] 0 (k + 1)
def fnQ (l l' : List AV) : Nat → List Tok
  | 0 => [⟨true, .sl false 1 l⟩]
  | _ + 1 => [⟨true, .sl false 1 l⟩, ⟨true, .sl false 2 l'⟩]
def fsQ (l l' : List AV) : List Tok := [⟨true, .sl false 1 l⟩, ⟨true, .sl false 2 l'⟩]

set_option maxRecDepth 8000 in
set_option maxHeartbeats 4000000 in
theorem implRentsF_ok : FnOk Tryd.prog 30 mRentsF := by
  refine mk_ok fun ⟨nl, xss, total⟩ _ => ?_
  have hG : FnsOk Tryd.prog [(47, mRent), (48, mWithin), (32, mBestRooms), (49, mLR), (51, mSum), (50, mRed)] := (.cons implRentOk_ok (.cons within_ok (.cons implBestRooms_ok (.cons implLeast_ok (.cons sumOf_ok (.cons reduced_ok .nil))))))
  cases h1 : rentFB xss total with
  | false =>
    simp only [rentFL, h1, Bool.not_false, Bool.false_eq_true, if_false, List.map_nil]
    refine callOk_nil1 (a := 1) ?_
    refine callOk_awp (ctx_ok eqOk hG) mixed (live := [true, true, false, false, true, true, true, true, true, true, false, true, true, false, false, false, false, false, false, false, false, true, false, false, false, false, false, false, false, false, true, false, false, true, true, true, true]) (dt := []) Tryd.func30 rfl (by kernel_rfl) (by kernel_rfl) fun w0 hlens => ?_
    cases h2 : rentB xss with
    | false => simp (config := {contextual := true}) [Tryd.f30, List.range, List.range.loop, ints, intss, int, bool, row, frac, fracs, ← List.map_take, ← List.map_drop, mRent_at, h2]
    | true =>
      have h3 : inR 0 10000 total = false := by simpa [rentFB, h2] using h1
      simp (config := {contextual := true}) [Tryd.f30, List.range, List.range.loop, ints, intss, int, bool, row, frac, fracs, ← List.map_take, ← List.map_drop, mRent_at, mWithin_in, h2, h3]
  | true =>
    have h1' := h1
    simp only [rentFB, Bool.and_eq_true] at h1'
    obtain ⟨h2, h3⟩ := h1'
    have ht : 0 ≤ total ∧ total ≤ 10000 := by simpa [inR] using h3
    obtain ⟨n1, n4, _⟩ := rent_facts h2
    obtain ⟨q1, q2, q3⟩ := rai_facts h2
    have hfl : rentFL xss total = rntTo xss total xss.length := by unfold rentFL; rw [if_pos h1]
    obtain ⟨⟨r, hr, hb⟩, _⟩ := bR_max h2
    have hrk : rankB xss.length (bR xss).1 = true := by rw [hb]; exact ((best_facts h2).2.2 r hr).2
    have hlr := mLR_at nl xss false (bR xss).1 ⟨h2, hrk⟩
    rw [q1] at hlr
    have hbr := mBestRooms_at nl xss
    rw [h2] at hbr
    simp only [Bool.not_true] at hbr
    have hsb := sumW_bd (m := 4000) (by omega) (by omega) q3 (raiL xss).length (Nat.le_refl _)
    rw [List.take_length] at hsb
    have hsm := mSum_at false (raiL xss)
    simp only [hfl, h1, Bool.not_true]
    refine callOk_awp (ctx_ok eqOk hG) mixed (live := [true, true, false, false, true, true, true, true, true, true, false, true, true, false, false, false, false, false, false, false, false, true, false, false, false, false, false, false, false, false, true, false, false, true, true, true, true]) (dt := []) Tryd.func30 rfl (by kernel_rfl) (by kernel_rfl) fun w0 hlens => ?_
    clear hlens
    simp (config := {contextual := true}) [Tryd.f30, List.range, List.range.loop, ints, intss, int, bool, row, frac, fracs, ← List.map_take, ← List.map_drop, mRent_at, mWithin_in, h2, h3, hbr, hlr, lrA]
    refine awp_range (live := [true, true, false, false, true, true, true, true, true, true, false, true, true, false, false, false, false, false, false, false, false, true, false, false, false, false, false, false, false, false, true, false, false, true, true, true, true]) (ctx_ok eqOk hG) mixed [false, true, false, false, false, false, true, false, true, true, false, false, false, false, false, false, false, false, false, false, false, false, false, false, false, false, false, false, false, false, false, false, false, true, true, true] (xss.length) (fun k => True) (fun k => ⟨[.junk, int total, .junk, .junk, .junk, .junk, .ref 0 [] 0 xss.length, .junk, int xss.length, fnP k, .junk, .junk, .junk, .junk, .junk, .junk, .junk, .junk, .junk, .junk, .junk, .junk, .junk, .junk, .junk, .junk, .junk, .junk, .junk, .junk, .junk, .junk, .junk, .ref 0 [] 0 xss.length, int xss.length, int k, .junk, .junk, .junk, .junk, .junk, .junk, .junk, .junk, .junk, .junk, .junk, .junk, .junk, .junk, .junk, .junk, .junk, .junk, .junk, .junk, .junk, .junk], fnQ ((raiL xss).map int) ((rntTo xss total k).map frac) k⟩) ?_ (by simp [sub, slotsLe, clean, keep, refsL, refs, once, place, renL, ren, List.replicate, int, bool, q2, fnP, fnQ, fsQ, rntTo]) ?_ ?_ ?_
    · omega
    · trivial
    · intro k hk _ hwk
      have hkl : k < (raiL xss).length := by omega
      have hx := q3 _ (List.getElem_mem hkl)
      have hsucc := rntTo_succ (total := total) hkl
      have hlen := rntTo_len h2 (total := total) (k := k) (by omega)
      have htk : (raiL xss).take xss.length = raiL xss := List.take_of_length_le (by omega)
      have hef : rntF xss total (raiL xss)[k] = (mkF ((raiL xss)[k] * xss.length + total - sumW (raiL xss)) xss.length).1 := rfl
      rw [hef] at hsucc
      have hm1 : 0 ≤ (raiL xss)[k] * (xss.length : Int) ∧ (raiL xss)[k] * (xss.length : Int) ≤ 4000 * 4 := ⟨Int.mul_nonneg hx.1 (by omega), Int.mul_le_mul hx.2 (by omega) (by omega) (by omega)⟩
      have hcm : (xss.length : Int) * (raiL xss)[k] = (raiL xss)[k] * (xss.length : Int) := Int.mul_comm _ _
      have hss : sumW (raiL xss) ≤ 16000 := by have := hsb.2; rw [q2] at this; omega
      generalize hz : sumW (raiL xss) = sm at *
      generalize hy : (raiL xss)[k] * (xss.length : Int) = y at *
      have w1 : IntKind.i64.wrap y = y := wrapI (by omega) (by omega)
      have w2 : IntKind.i64.wrap (y + total) = y + total := wrapI (by omega) (by omega)
      have w3 : IntKind.i64.wrap (y + total - sm) = y + total - sm := wrapI (by omega) (by omega)
      have w4 : IntKind.i64.wrap (total - sm) = total - sm := wrapI (by omega) (by omega)
      have w5 : IntKind.i64.wrap (total - sm + y) = y + total - sm := by rw [wrapI (by omega) (by omega)]; omega
      have hr1 := mRed_at (y + total - sm) xss.length ⟨by omega, by omega, by omega, by omega, by omega⟩
      have hre : redF (y + total - sm) xss.length = mkF (y + total - sm) xss.length := by unfold redF; rw [if_neg (by omega)]
      rw [hre] at hr1
      have hr2 := mFOf_at (y + total - sm) xss.length ⟨by omega, by omega, by omega, by omega⟩
      have hb8 : (k + 1) * 16 ≤ 140737488355328 ∧ k + 1 ≤ 4611686018427387904 := by omega
      have hne : xss ≠ [] := fun e => by rw [e] at n1; simp at n1
      have hkn : ¬ xss.length ≤ k := by omega
      cases k with
      | zero =>
        have hz0 : rntTo xss total 0 = [] := by simp [rntTo]
        simp [hz0] at hsucc hwk
        simp (config := {contextual := true}) [List.range, List.range.loop, ints, intss, int, bool, row, frac, fracs, ← List.map_take, ← List.map_drop, fnP, fnQ, fsQ, q2, htk, hkl, hsm, hz, hy, hcm, w1, w2, w3, w4, w5, hr1, hr2, hwk, hb8, hz0, ← hsucc, hne, hk]
        done
      | succ k =>
        simp at hwk
        simp (config := {contextual := true}) [List.range, List.range.loop, ints, intss, int, bool, row, frac, fracs, ← List.map_take, ← List.map_drop, fnP, fnQ, fsQ, q2, htk, hkl, hsm, hz, hy, hcm, w1, w2, w3, w4, w5, hr1, hr2, hwk, hb8, hlen, hsucc, hk, hkn]
        done
    · intro _
      have hlen := rntTo_len h2 (total := total) (k := xss.length) (Nat.le_refl _)
      obtain ⟨m, hm⟩ : ∃ m, xss.length = m + 1 := ⟨xss.length - 1, by omega⟩
      rw [hm] at hlen ⊢
      simp (config := {contextual := true}) [List.range, List.range.loop, ints, intss, int, bool, row, frac, fracs, ← List.map_take, ← List.map_drop, fnP, fnQ, fsQ, hlen]
      done

set_option maxRecDepth 8000 in
set_option maxHeartbeats 4000000 in
theorem specRentsF_ok : FnOk Tryd.prog 25 mRentsF := by
  refine mk_ok fun ⟨nl, xss, total⟩ _ => ?_
  have hG : FnsOk Tryd.prog [(39, mRent), (40, mWithin), (27, mBestRooms), (41, mLR), (43, mSum), (42, mFOf)] := (.cons specRentOk_ok (.cons l01In_ok (.cons specBestRooms_ok (.cons specLeast_ok (.cons l13Sum_ok (.cons fractionOf_ok .nil))))))
  cases h1 : rentFB xss total with
  | false =>
    simp only [rentFL, h1, Bool.not_false, Bool.false_eq_true, if_false, List.map_nil]
    refine callOk_nil1 (a := 1) ?_
    refine callOk_awp (ctx_ok eqOk hG) mixed (live := [true, true, false, false, true, true, true, false, true, true, false, true, true, false, false, false, false, false, false, false, false, true, false, false, false, false, false, false, false, false, false, false, true, true, true, true]) (dt := []) Tryd.func25 rfl (by kernel_rfl) (by kernel_rfl) fun w0 hlens => ?_
    cases h2 : rentB xss with
    | false => simp (config := {contextual := true}) [Tryd.f25, List.range, List.range.loop, ints, intss, int, bool, row, frac, fracs, ← List.map_take, ← List.map_drop, mRent_at, h2]
    | true =>
      have h3 : inR 0 10000 total = false := by simpa [rentFB, h2] using h1
      simp (config := {contextual := true}) [Tryd.f25, List.range, List.range.loop, ints, intss, int, bool, row, frac, fracs, ← List.map_take, ← List.map_drop, mRent_at, mWithin_in, h2, h3]
  | true =>
    have h1' := h1
    simp only [rentFB, Bool.and_eq_true] at h1'
    obtain ⟨h2, h3⟩ := h1'
    have ht : 0 ≤ total ∧ total ≤ 10000 := by simpa [inR] using h3
    obtain ⟨n1, n4, _⟩ := rent_facts h2
    obtain ⟨q1, q2, q3⟩ := rai_facts h2
    have hfl : rentFL xss total = rntTo xss total xss.length := by unfold rentFL; rw [if_pos h1]
    obtain ⟨⟨r, hr, hb⟩, _⟩ := bR_max h2
    have hrk : rankB xss.length (bR xss).1 = true := by rw [hb]; exact ((best_facts h2).2.2 r hr).2
    have hlr := mLR_at nl xss false (bR xss).1 ⟨h2, hrk⟩
    rw [q1] at hlr
    have hbr := mBestRooms_at nl xss
    rw [h2] at hbr
    simp only [Bool.not_true] at hbr
    have hsb := sumW_bd (m := 4000) (by omega) (by omega) q3 (raiL xss).length (Nat.le_refl _)
    rw [List.take_length] at hsb
    have hsm := mSum_at false (raiL xss)
    simp only [hfl, h1, Bool.not_true]
    refine callOk_awp (ctx_ok eqOk hG) mixed (live := [true, true, false, false, true, true, true, false, true, true, false, true, true, false, false, false, false, false, false, false, false, true, false, false, false, false, false, false, false, false, false, false, true, true, true, true]) (dt := []) Tryd.func25 rfl (by kernel_rfl) (by kernel_rfl) fun w0 hlens => ?_
    clear hlens
    simp (config := {contextual := true}) [Tryd.f25, List.range, List.range.loop, ints, intss, int, bool, row, frac, fracs, ← List.map_take, ← List.map_drop, mRent_at, mWithin_in, h2, h3, hbr, hlr, lrA]
    refine awp_range (live := [true, true, false, false, true, true, true, false, true, true, false, true, true, false, false, false, false, false, false, false, false, true, false, false, false, false, false, false, false, false, false, false, true, true, true, true]) (ctx_ok eqOk hG) mixed [false, true, false, false, false, false, true, false, true, true, false, false, false, false, false, false, false, false, false, false, false, false, false, false, false, false, false, false, false, false, false, false, true, true, true] (xss.length) (fun k => True) (fun k => ⟨[.junk, int total, .junk, .junk, .junk, .junk, .ref 0 [] 0 xss.length, .junk, int xss.length, .ref 1 [] 0 k, .junk, .junk, .junk, .junk, .junk, .junk, .junk, .junk, .junk, .junk, .junk, .junk, .junk, .junk, .junk, .junk, .junk, .junk, .junk, .junk, .junk, .junk, .ref 0 [] 0 xss.length, int xss.length, int k, .junk, .junk, .junk, .junk, .junk, .junk, .junk, .junk, .junk, .junk, .junk, .junk, .junk, .junk, .junk, .junk, .junk, .junk, .junk, .junk, .junk, .junk], fsQ ((raiL xss).map int) ((rntTo xss total k).map frac)⟩) ?_ (by simp [sub, slotsLe, clean, keep, refsL, refs, once, place, renL, ren, List.replicate, int, bool, q2, fnP, fnQ, fsQ, rntTo]) ?_ ?_ ?_
    · omega
    · trivial
    · intro k hk _ hwk
      have hkl : k < (raiL xss).length := by omega
      have hx := q3 _ (List.getElem_mem hkl)
      have hsucc := rntTo_succ (total := total) hkl
      have hlen := rntTo_len h2 (total := total) (k := k) (by omega)
      have htk : (raiL xss).take xss.length = raiL xss := List.take_of_length_le (by omega)
      have hef : rntF xss total (raiL xss)[k] = (mkF ((raiL xss)[k] * xss.length + total - sumW (raiL xss)) xss.length).1 := rfl
      rw [hef] at hsucc
      have hm1 : 0 ≤ (raiL xss)[k] * (xss.length : Int) ∧ (raiL xss)[k] * (xss.length : Int) ≤ 4000 * 4 := ⟨Int.mul_nonneg hx.1 (by omega), Int.mul_le_mul hx.2 (by omega) (by omega) (by omega)⟩
      have hcm : (xss.length : Int) * (raiL xss)[k] = (raiL xss)[k] * (xss.length : Int) := Int.mul_comm _ _
      have hss : sumW (raiL xss) ≤ 16000 := by have := hsb.2; rw [q2] at this; omega
      generalize hz : sumW (raiL xss) = sm at *
      generalize hy : (raiL xss)[k] * (xss.length : Int) = y at *
      have w1 : IntKind.i64.wrap y = y := wrapI (by omega) (by omega)
      have w2 : IntKind.i64.wrap (y + total) = y + total := wrapI (by omega) (by omega)
      have w3 : IntKind.i64.wrap (y + total - sm) = y + total - sm := wrapI (by omega) (by omega)
      have w4 : IntKind.i64.wrap (total - sm) = total - sm := wrapI (by omega) (by omega)
      have w5 : IntKind.i64.wrap (total - sm + y) = y + total - sm := by rw [wrapI (by omega) (by omega)]; omega
      have hr1 := mRed_at (y + total - sm) xss.length ⟨by omega, by omega, by omega, by omega, by omega⟩
      have hre : redF (y + total - sm) xss.length = mkF (y + total - sm) xss.length := by unfold redF; rw [if_neg (by omega)]
      rw [hre] at hr1
      have hr2 := mFOf_at (y + total - sm) xss.length ⟨by omega, by omega, by omega, by omega⟩
      have hb8 : (k + 1) * 16 ≤ 140737488355328 ∧ k + 1 ≤ 4611686018427387904 := by omega
      have hne : xss ≠ [] := fun e => by rw [e] at n1; simp at n1
      have hkn : ¬ xss.length ≤ k := by omega
      cases k with
      | zero =>
        have hz0 : rntTo xss total 0 = [] := by simp [rntTo]
        simp [hz0] at hsucc hwk
        simp (config := {contextual := true}) [List.range, List.range.loop, ints, intss, int, bool, row, frac, fracs, ← List.map_take, ← List.map_drop, fnP, fnQ, fsQ, q2, htk, hkl, hsm, hz, hy, hcm, w1, w2, w3, w4, w5, hr1, hr2, hwk, hb8, hz0, ← hsucc, hne, hk]
        done
      | succ k =>
        simp at hwk
        simp (config := {contextual := true}) [List.range, List.range.loop, ints, intss, int, bool, row, frac, fracs, ← List.map_take, ← List.map_drop, fnP, fnQ, fsQ, q2, htk, hkl, hsm, hz, hy, hcm, w1, w2, w3, w4, w5, hr1, hr2, hwk, hb8, hlen, hsucc, hk, hkn]
        done
    · intro _
      have hlen := rntTo_len h2 (total := total) (k := xss.length) (Nat.le_refl _)
      obtain ⟨m, hm⟩ : ∃ m, xss.length = m + 1 := ⟨xss.length - 1, by omega⟩
      rw [hm] at hlen ⊢
      simp (config := {contextual := true}) [List.range, List.range.loop, ints, intss, int, bool, row, frac, fracs, ← List.map_take, ← List.map_drop, fnP, fnQ, fsQ, hlen]
      done

end Go.Proofs.YtblnpjppckfmfaaDoor.Ax
