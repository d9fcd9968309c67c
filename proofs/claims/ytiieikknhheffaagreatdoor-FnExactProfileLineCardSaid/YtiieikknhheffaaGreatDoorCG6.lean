/-
  Contracts: BestAward, BestWorth, WorthWithout (both programs). No condition.
-/
import Derived.Test.YtiieikknhheffaaGreatDoorCG5
import Derived.Test.YtiieikknhheffaaGreatDoorCB2
import Derived.Test.YtiieikknhheffaaGreatDoorCG3
namespace Go.Proofs.YtiieikknhheffaaGreatDoor.Ax
open Go Go.RowKit
set_option linter.unusedSimpArgs false

/-- The first best award in which the bidder wo gets nothing. -/
noncomputable def bestA (xss : List (Bool × List Int)) (wo : Int) : List Int := (bs xss wo xss.length []).getD []

theorem lb_nil {xss : List (Bool × List Int)} {wo : Int} (h : rectB xss 4 4 1000 = true) (hw : -1 ≤ wo) : LB xss [] wo xss.length := ⟨h, hw, by simp, okP_nil, by simp⟩
theorem bestA_eq {xss : List (Bool × List Int)} {wo : Int} (h : rectB xss 4 4 1000 = true) (hw : -1 ≤ wo) : bestO (wAw xss) (okP wo) (allL (-1) ((wid xss : Int) - 1) xss.length) = some (bestA xss wo) := by
  have h1 := bs_eq (lb_nil h hw)
  obtain ⟨l, hl⟩ := bs_some (xss := xss) (wo := wo) xss.length []
  have h2 : bestA xss wo = l := by unfold bestA; rw [hl]; rfl
  rw [h2, ← hl, h1]; simp
theorem bestA_mem {xss : List (Bool × List Int)} {wo : Int} (h : rectB xss 4 4 1000 = true) (hw : -1 ≤ wo) : (bestA xss wo).length = xss.length ∧ (∀ x ∈ bestA xss wo, -1 ≤ x ∧ x ≤ (wid xss : Int) - 1) ∧ okP wo (bestA xss wo) = true := by
  obtain ⟨l, hl⟩ := bs_some (xss := xss) (wo := wo) xss.length []
  have h2 : bestA xss wo = l := by unfold bestA; rw [hl]; rfl
  rw [h2]
  exact bs_mem (lb_nil h hw) hl
theorem bestA_award {xss : List (Bool × List Int)} {wo : Int} (h : rectB xss 4 4 1000 = true) (hw : -1 ≤ wo) : awardB xss (bestA xss wo) = true := by
  obtain ⟨h1, h2, h3⟩ := bestA_mem h hw
  simp only [okP, Bool.and_eq_true] at h3
  simp only [awardB, Bool.and_eq_true, decide_eq_true_eq, h, h1, h3.1, true_and, and_true]
  unfold allIn
  rw [List.all_eq_true]
  intro x hx
  simpa [inR] using h2 x hx
theorem bestA_pre {xss : List (Bool × List Int)} {wo : Int} (h : rectB xss 4 4 1000 = true) (hw : -1 ≤ wo) : (bestA xss wo).length ≤ xss.length ∧ ∀ i, i < (bestA xss wo).length → (bestA xss wo).getD i 0 < ((xss.getD i (true, [])).2.length : Int) := awW_pre (bestA_award h hw)

noncomputable def mBestS : List AV → Option (List Nat × AV) := mkV (fun p => rectB p.2.1 4 4 1000 = true ∧ -1 ≤ p.2.2) (fun (p : Bool × List (Bool × List Int) × Int) => [intss p.1 p.2.1, ints false [], int p.2.2]) [1] (fun p => ints false (bestA p.2.1 p.2.2))
theorem mBestS_at (nl : Bool) (xss : List (Bool × List Int)) (wo : Int) (h : rectB xss 4 4 1000 = true ∧ -1 ≤ wo) : mBestS [.sl nl 1 (xss.map row), .sl false 1 [], .v (.int .i64 wo)] = some ([1], .sl false 1 ((bestA xss wo).map int)) :=
  mkV_eq (enc := fun (p : Bool × List (Bool × List Int) × Int) => [intss p.1 p.2.1, ints false [], int p.2.2]) (x := (nl, xss, wo)) (by rintro ⟨a, b, c⟩ ⟨d, e, f⟩ h; simp [intss, ints, int, map_row_inj] at h; simp [h]) h

noncomputable def bA (xss : List (Bool × List Int)) : List Int := if rectB xss 4 4 1000 = true then bestA xss (-1) else []
theorem bA_yes {xss : List (Bool × List Int)} (h : rectB xss 4 4 1000 = true) : bA xss = bestA xss (-1) := if_pos h
theorem bA_no {xss : List (Bool × List Int)} (h : rectB xss 4 4 1000 = false) : bA xss = [] := if_neg (by simp [h])

noncomputable def mBestAward : List AV → Option AV := mk (fun _ => True) (fun (p : (Bool) × (List (Bool × List Int))) => [intss p.1 p.2]) (fun p => .sl (!rectB p.2 4 4 1000) 1 ((bA p.2).map int))
theorem mBestAward_at (nl : Bool) (xss : List (Bool × List Int)) : mBestAward [.sl nl 1 (xss.map row)] = some (.sl (!rectB xss 4 4 1000) 1 ((bA xss).map int)) :=
  mk_eq (enc := fun (p : (Bool) × (List (Bool × List Int))) => [intss p.1 p.2]) (x := (nl, xss)) (by rintro ⟨a0, a1⟩ ⟨b0, b1⟩ h; simp [ints, intss, int, bool, row, frac, fracs, map_int_inj, map_row_inj, frac_inj, map_frac_inj] at h; simp [h]) trivial

noncomputable def mBestWorth : List AV → Option AV := mk (fun _ => True) (fun (p : (Bool) × (List (Bool × List Int))) => [intss p.1 p.2]) (fun p => int (if rectB p.2 4 4 1000 = true then awTo p.2 (bestA p.2 (-1)) (bestA p.2 (-1)).length else -1))
theorem mBestWorth_at (nl : Bool) (xss : List (Bool × List Int)) : mBestWorth [.sl nl 1 (xss.map row)] = some (.v (.int .i64 (if rectB xss 4 4 1000 = true then awTo xss (bestA xss (-1)) (bestA xss (-1)).length else -1))) :=
  mk_eq (enc := fun (p : (Bool) × (List (Bool × List Int))) => [intss p.1 p.2]) (x := (nl, xss)) (by rintro ⟨a0, a1⟩ ⟨b0, b1⟩ h; simp [ints, intss, int, bool, row, frac, fracs, map_int_inj, map_row_inj, frac_inj, map_frac_inj] at h; simp [h]) trivial

noncomputable def wwB (xss : List (Bool × List Int)) (i : Int) : Int := if rectB xss 4 4 1000 = true ∧ 0 ≤ i ∧ i < xss.length then awTo xss (bestA xss i) (bestA xss i).length else -1

noncomputable def mWithout : List AV → Option AV := mk (fun _ => True) (fun (p : (Bool) × (List (Bool × List Int)) × (Int)) => [intss p.1 p.2.1, int p.2.2]) (fun p => int (wwB p.2.1 p.2.2))
theorem mWithout_at (nl : Bool) (xss : List (Bool × List Int)) (i : Int) : mWithout [.sl nl 1 (xss.map row), .v (.int .i64 i)] = some (.v (.int .i64 (wwB xss i))) :=
  mk_eq (enc := fun (p : (Bool) × (List (Bool × List Int)) × (Int)) => [intss p.1 p.2.1, int p.2.2]) (x := (nl, xss, i)) (by rintro ⟨a0, a1, a2⟩ ⟨b0, b1, b2⟩ h; simp [ints, intss, int, bool, row, frac, fracs, map_int_inj, map_row_inj, frac_inj, map_frac_inj] at h; simp [h]) trivial

/-- What the bidder i pays. -/
noncomputable def payI (xss : List (Bool × List Int)) (i : Nat) : Int :=
  IntKind.i64.wrap (wwB xss i - (if 0 ≤ (bestA xss (-1)).getD i 0 then IntKind.i64.wrap (awTo xss (bestA xss (-1)) (bestA xss (-1)).length - ent xss i ((bestA xss (-1)).getD i 0)) else awTo xss (bestA xss (-1)) (bestA xss (-1)).length))
noncomputable def payL (xss : List (Bool × List Int)) (k : Nat) : List Int := (List.range k).map (payI xss)
theorem payL_succ {xss : List (Bool × List Int)} {k : Nat} : payL xss (k + 1) = payL xss k ++ [payI xss k] := by simp [payL, List.range_succ]
theorem payL_len {xss : List (Bool × List Int)} {k : Nat} : (payL xss k).length = k := by simp [payL]
noncomputable def payA (xss : List (Bool × List Int)) : List Int := if rectB xss 4 4 1000 = true then payL xss xss.length else []
theorem payA_yes {xss : List (Bool × List Int)} (h : rectB xss 4 4 1000 = true) : payA xss = payL xss xss.length := if_pos h
theorem payA_no {xss : List (Bool × List Int)} (h : rectB xss 4 4 1000 = false) : payA xss = [] := if_neg (by simp [h])

noncomputable def mPayments : List AV → Option AV := mk (fun _ => True) (fun (p : (Bool) × (List (Bool × List Int))) => [intss p.1 p.2]) (fun p => .sl (!rectB p.2 4 4 1000) 1 ((payA p.2).map int))
theorem mPayments_at (nl : Bool) (xss : List (Bool × List Int)) : mPayments [.sl nl 1 (xss.map row)] = some (.sl (!rectB xss 4 4 1000) 1 ((payA xss).map int)) :=
  mk_eq (enc := fun (p : (Bool) × (List (Bool × List Int))) => [intss p.1 p.2]) (x := (nl, xss)) (by rintro ⟨a0, a1⟩ ⟨b0, b1⟩ h; simp [ints, intss, int, bool, row, frac, fracs, map_int_inj, map_row_inj, frac_inj, map_frac_inj] at h; simp [h]) trivial

def pqS (l l' : List AV) : List Tok := [⟨true, .sl false 1 l⟩, ⟨true, .sl false 1 l'⟩]
/-- The slot of what is paid so far; the rows. -/
def apP : Nat → AV
  | 0 => .sl true 1 []
  | k + 1 => .ref 1 [] 0 (k + 1)
def apQ (l l' : List AV) : Nat → List Tok
  | 0 => [⟨true, .sl false 1 l⟩]
  | _ + 1 => [⟨true, .sl false 1 l⟩, ⟨true, .sl false 1 l'⟩]

noncomputable def bAP (xss : List (Bool × List Int)) : Bool × List Int := (!rectB xss 4 4 1000, bA xss)
theorem bAP_at (nl : Bool) (xss : List (Bool × List Int)) : mBestAward [.sl nl 1 (xss.map row)] = some (.sl (bAP xss).1 1 ((bAP xss).2.map int)) := mBestAward_at nl xss
theorem bA_len {xss : List (Bool × List Int)} : (bA xss).length ≤ 4 := by
  cases h : rectB xss 4 4 1000 with
  | false => rw [bA_no h]; simp
  | true => rw [bA_yes h, (bestA_mem h (by omega)).1]; have := rect_len h; omega
theorem bAP_len {xss : List (Bool × List Int)} : (bAP xss).2.length ≤ 2 ^ 40 := by have := bA_len (xss := xss); simp only [bAP]; omega
noncomputable def payP (xss : List (Bool × List Int)) : Bool × List Int := (!rectB xss 4 4 1000, payA xss)
theorem payP_at (nl : Bool) (xss : List (Bool × List Int)) : mPayments [.sl nl 1 (xss.map row)] = some (.sl (payP xss).1 1 ((payP xss).2.map int)) := mPayments_at nl xss
theorem payA_len {xss : List (Bool × List Int)} : (payA xss).length ≤ 4 := by
  cases h : rectB xss 4 4 1000 with
  | false => rw [payA_no h]; simp
  | true => rw [payA_yes h, payL_len]; have := rect_len h; omega
theorem payP_len {xss : List (Bool × List Int)} : (payP xss).2.length ≤ 2 ^ 40 := by have := payA_len (xss := xss); simp only [payP]; omega

end Go.Proofs.YtiieikknhheffaaGreatDoor.Ax

/-
  Contracts: marks on lists of ints, and whether they stand. No condition.
-/
namespace Go.Proofs.YtiieikknhheffaaGreatDoor.Ax
open Go Go.RowKit
set_option linter.unusedSimpArgs false

/-- The marks from k on, so many. -/
def mkd (k : Int) (n : Nat) : List Int := (List.range n).map fun (i : Nat) => k + i
theorem mkd_len {k : Int} {n : Nat} : (mkd k n).length = n := by simp [mkd]
theorem mkd_take {k : Int} {n : Nat} : (mkd k n).take n = mkd k n := List.take_of_length_le (by simp [mkd_len])
theorem mkd_at {k : Int} {n i : Nat} (h : i < (mkd k n).length) : (mkd k n)[i] = k + i := by simp [mkd]
/-- A list whose first i numbers are marked. -/
def mkTo (k : Int) (xs : List Int) (i : Nat) : List Int := mkd k i ++ xs.drop i
theorem mkTo_len {k : Int} {xs : List Int} {i : Nat} (h : i ≤ xs.length) : (mkTo k xs i).length = xs.length := by simp [mkTo, mkd_len]; omega
theorem mkTo_zero {k : Int} {xs : List Int} : mkTo k xs 0 = xs := by simp [mkTo, mkd]
theorem mkTo_all {k : Int} {xs : List Int} : mkTo k xs xs.length = mkd k xs.length := by simp [mkTo]
theorem mkTo_set {k : Int} {xs : List Int} {i : Nat} (h : i < xs.length) : ((mkTo k xs i).map int).set i (.v (.int .i64 (k + i))) = (mkTo k xs (i + 1)).map int := by
  have : (AV.v (.int .i64 (k + i))) = int (k + i) := rfl
  rw [this, ← List.map_set]
  congr 1
  unfold mkTo
  rw [List.set_append, if_neg (by simp [mkd_len]), mkd_len, Nat.sub_self, drop_get h, List.set_cons_zero]
  simp [mkd, List.range_succ]

noncomputable def mMarkI : List AV → Option (Nat × AV × AV) := mkM (fun (p : Bool × List Int × Int) => 0 ≤ p.2.2 ∧ p.2.2 + p.2.1.length ≤ 2 ^ 62) (fun p => [ints p.1 p.2.1, int p.2.2]) (fun p => (0, int (p.2.2 + p.2.1.length), ints p.1 (mkd p.2.2 p.2.1.length)))
theorem mMarkI_at (nl : Bool) (xs : List Int) (k : Int) (h : 0 ≤ k ∧ k + xs.length ≤ 2 ^ 62) : mMarkI [.sl nl 1 (xs.map int), .v (.int .i64 k)] = some (0, .v (.int .i64 (k + xs.length)), .sl nl 1 ((mkd k xs.length).map int)) :=
  mkM_eq (enc := fun (p : Bool × List Int × Int) => [ints p.1 p.2.1, int p.2.2]) (x := (nl, xs, k)) (by rintro ⟨a, b, c⟩ ⟨d, e, f⟩ h; simp [ints, int, map_int_inj] at h; simp [h]) h

noncomputable def mHeldI : List AV → Option AV := mk (fun (p : Bool × Nat × Int) => 0 ≤ p.2.2 ∧ p.2.2 + p.2.1 ≤ 2 ^ 62) (fun p => [ints p.1 (mkd p.2.2 p.2.1), int p.2.2]) (fun p => int (p.2.2 + p.2.1))
theorem mHeldI_at (nl : Bool) (n : Nat) (k : Int) (h : 0 ≤ k ∧ k + n ≤ 2 ^ 62) : mHeldI [.sl nl 1 ((mkd k n).map int), .v (.int .i64 k)] = some (.v (.int .i64 (k + n))) :=
  mk_eq (enc := fun (p : Bool × Nat × Int) => [ints p.1 (mkd p.2.2 p.2.1), int p.2.2]) (x := (nl, n, k)) (by
    rintro ⟨a, b, c⟩ ⟨d, e, f⟩ h
    simp [ints, int, map_int_inj] at h
    obtain ⟨⟨_, h1⟩, h2⟩ := h
    have := congrArg List.length h1
    simp [mkd_len] at this
    simp [h2, this]) h

/-- Rows of which the first i are marked. -/
def mkRow (k : Int) (xss : List (Bool × List Int)) (j : Nat) : Bool × List Int := ((xss.getD j (true, [])).1, mkd (k + rowSum xss j) (xss.getD j (true, [])).2.length)
def mkRT (k : Int) (xss : List (Bool × List Int)) (i : Nat) : List (Bool × List Int) := (List.range xss.length).map fun j => if j < i then mkRow k xss j else xss.getD j (true, [])
def mkRS (k : Int) (xss : List (Bool × List Int)) : List (Bool × List Int) := (List.range xss.length).map (mkRow k xss)
theorem getDD {xss : List (Bool × List Int)} {i : Nat} (h : i < xss.length) : xss.getD i (true, []) = xss[i] := by simp [List.getD_eq_getElem?_getD, h]
theorem mkRT_len {k : Int} {xss : List (Bool × List Int)} {i : Nat} : (mkRT k xss i).length = xss.length := by simp [mkRT]
theorem mkRS_len {k : Int} {xss : List (Bool × List Int)} : (mkRS k xss).length = xss.length := by simp [mkRS]
theorem mkRS_take {k : Int} {xss : List (Bool × List Int)} : (mkRS k xss).take xss.length = mkRS k xss := List.take_of_length_le (by simp [mkRS_len])
theorem mkRT_zero {k : Int} {xss : List (Bool × List Int)} : mkRT k xss 0 = xss := by
  apply List.ext_getElem
  · simp [mkRT]
  · intro i h1 h2
    simp only [mkRT, List.getElem_map, List.getElem_range, Nat.not_lt_zero, if_false, getDD h2]
theorem mkRT_all {k : Int} {xss : List (Bool × List Int)} : mkRT k xss xss.length = mkRS k xss := by
  apply List.ext_getElem
  · simp [mkRT, mkRS]
  · intro i h1 h2
    have h3 : i < xss.length := by simpa [mkRS] using h2
    simp [mkRT, mkRS, h3]
theorem mkRT_at {k : Int} {xss : List (Bool × List Int)} {i : Nat} (h : i < xss.length) (h' : i < (mkRT k xss i).length) : (mkRT k xss i)[i] = xss[i] := by
  simp only [mkRT, List.getElem_map, List.getElem_range, Nat.lt_irrefl, if_false, getDD h]
theorem mkRS_at {k : Int} {xss : List (Bool × List Int)} {i : Nat} (h : i < xss.length) (h' : i < (mkRS k xss).length) : (mkRS k xss)[i] = (xss[i].1, mkd (k + rowSum xss i) xss[i].2.length) := by
  simp only [mkRS, List.getElem_map, List.getElem_range, mkRow, getDD h]
theorem mkRT_set {k : Int} {xss : List (Bool × List Int)} {i : Nat} (h : i < xss.length) : ((mkRT k xss i).map row).set i (.sl xss[i].1 1 ((mkd (k + rowSum xss i) xss[i].2.length).map int)) = (mkRT k xss (i + 1)).map row := by
  have : (AV.sl xss[i].1 1 ((mkd (k + rowSum xss i) xss[i].2.length).map int)) = row (mkRow k xss i) := by simp only [row, mkRow, getDD h]
  rw [this, ← List.map_set]
  congr 1
  apply List.ext_getElem
  · simp [mkRT]
  · intro j h1 h2
    rw [List.getElem_set]
    simp only [mkRT, List.getElem_map, List.getElem_range]
    by_cases e : i = j
    · subst e; simp
    · rw [if_neg e]
      by_cases h3 : j < i
      · rw [if_pos h3, if_pos (by omega)]
      · rw [if_neg h3, if_neg (by omega)]

theorem need_own {xss : List (Bool × List Int)} : need (own xss) = need xss := by
  unfold need rowSum own; simp [← List.map_take, Function.comp_def]

noncomputable def mMarkII : List AV → Option (Nat × AV × AV) := mkM (fun (p : Bool × List (Bool × List Int) × Int) => 0 ≤ p.2.2 ∧ p.2.2 + need p.2.1 ≤ 2 ^ 61) (fun p => [intss p.1 p.2.1, int p.2.2]) (fun p => (0, int (p.2.2 + rowSum p.2.1 p.2.1.length), intss p.1 (mkRS p.2.2 p.2.1)))
theorem mMarkII_at (nl : Bool) (xss : List (Bool × List Int)) (k : Int) (h : 0 ≤ k ∧ k + need xss ≤ 2 ^ 61) : mMarkII [.sl nl 1 (xss.map row), .v (.int .i64 k)] = some (0, .v (.int .i64 (k + rowSum xss xss.length)), .sl nl 1 ((mkRS k xss).map row)) :=
  mkM_eq (enc := fun (p : Bool × List (Bool × List Int) × Int) => [intss p.1 p.2.1, int p.2.2]) (x := (nl, xss, k)) (by rintro ⟨a, b, c⟩ ⟨d, e, f⟩ h; simp [intss, int, map_row_inj] at h; simp [h]) h

noncomputable def mHeldII : List AV → Option AV := mk (fun (p : Bool × List (Bool × List Int) × Int) => 0 ≤ p.2.2 ∧ p.2.2 + need p.2.1 ≤ 2 ^ 61) (fun p => [intss p.1 (mkRS p.2.2 p.2.1), int p.2.2]) (fun p => int (p.2.2 + ((mkRS p.2.2 p.2.1).map (·.2.length)).sum))
theorem mkRS_sum {k : Int} {xss : List (Bool × List Int)} : ((mkRS k xss).map (·.2.length)).sum = rowSum xss xss.length := by
  have : (mkRS k xss).map (·.2.length) = xss.map (·.2.length) := by
    apply List.ext_getElem
    · simp [mkRS]
    · intro i h1 h2
      have h3 : i < xss.length := by simpa using h2
      rw [List.getElem_map, List.getElem_map, mkRS_at h3]; simp [mkd_len]
  rw [this]; simp [rowSum]
theorem mHeldII_at (nl : Bool) (xss : List (Bool × List Int)) (k : Int) (h : 0 ≤ k ∧ k + need xss ≤ 2 ^ 61) : mHeldII [.sl nl 1 ((mkRS k xss).map row), .v (.int .i64 k)] = some (.v (.int .i64 (k + rowSum xss xss.length))) := by
  refine (mk_eq (enc := fun p : Bool × List (Bool × List Int) × Int => [intss p.1 (mkRS p.2.2 p.2.1), int p.2.2]) (x := (nl, xss, k)) (by
    rintro ⟨a, b, c⟩ ⟨d, e, f⟩ h
    simp [intss, int, map_row_inj] at h
    obtain ⟨⟨_, h1⟩, rfl⟩ := h
    simp only [h1]) h).trans ?_
  simp only [int, mkRS_sum]

end Go.Proofs.YtiieikknhheffaaGreatDoor.Ax

/-
  Contracts: CutAndChoose (both programs). No condition.
-/
namespace Go.Proofs.YtiieikknhheffaaGreatDoor.Ax
open Go Go.RowKit
set_option linter.unusedSimpArgs false

def mBoolInt : List AV → Option AV
  | [.v (.bool b)] => some (.v (.int .i64 (if b then 1 else 0)))
  | _ => none
theorem mBoolInt_at {b : Bool} : mBoolInt [.v (.bool b)] = some (.v (.int .i64 (if b then 1 else 0))) := rfl
theorem tkd {l : List Int} {c : Nat} : List.take (l.length - c) (List.drop c l) = List.drop c l := List.take_of_length_le (by simp)

/-- The lesser of the two parts at a cut. -/
def lessr (r : List Int) (c : Nat) : Int := min (sumW (r.take c)) (sumW (r.drop c))
/-- The first best cut among the first m. -/
def bestTo (r : List Int) : Nat → Nat
  | 0 => 0
  | m + 1 => if lessr r (bestTo r m) < lessr r m then m else bestTo r m
theorem bestTo_le {r : List Int} : ∀ {m : Nat}, bestTo r (m + 1) ≤ m
  | 0 => by simp [bestTo]
  | m + 1 => by rw [bestTo]; split; exact Nat.le_refl _; exact Nat.le_trans bestTo_le (Nat.le_succ m)
def cutP (r0 r1 : List Int) (i : Nat) : Int :=
  let c := bestTo r0 (r0.length + 1)
  let f : Int := if sumW (r1.drop c) < sumW (r1.take c) then 1 else 0
  if i < c then f else 1 - f
def cutList (r0 r1 : List Int) : List Int := (List.range r0.length).map (cutP r0 r1)
theorem cutList_len {r0 r1 : List Int} : (cutList r0 r1).length = r0.length := by simp [cutList]
def cutL (xss : List (Bool × List Int)) : Bool × List Int := match xss with
  | [r0, r1] => if rectB xss 3 10 100 = true then (false, cutList r0.2 r1.2) else (true, [])
  | _ => (true, [])
theorem cutL_len {xss : List (Bool × List Int)} : (cutL xss).2.length ≤ 2 ^ 40 := by
  unfold cutL
  split
  · split
    · rename_i h
      have := rect_len h
      simp [wid, cutList] at this ⊢; omega
    · simp
  · simp

noncomputable def mCut : List AV → Option AV := mk (fun _ => True) (fun (p : (Bool) × (List (Bool × List Int))) => [intss p.1 p.2]) (fun p => .sl (cutL p.2).1 1 ((cutL p.2).2.map int))
theorem mCut_at (nl : Bool) (xss : List (Bool × List Int)) : mCut [.sl nl 1 (xss.map row)] = some (.sl (cutL xss).1 1 ((cutL xss).2.map int)) :=
  mk_eq (enc := fun (p : (Bool) × (List (Bool × List Int))) => [intss p.1 p.2]) (x := (nl, xss)) (by rintro ⟨a0, a1⟩ ⟨b0, b1⟩ h; simp [ints, intss, int, bool, row, frac, fracs, map_int_inj, map_row_inj, frac_inj, map_frac_inj] at h; simp [h]) trivial

noncomputable def mLess : List AV → Option AV := mk (fun (p : Nat × Bool × List (Bool × List Int)) => ∃ r rs, p.2.2 = r :: rs ∧ p.1 ≤ r.2.length) (fun p => [int p.1, .fp (intss p.2.1 p.2.2) 0]) (fun p => int (lessr (p.2.2.headD (true, [])).2 p.1))
theorem mLess_at (c : Nat) (nl : Bool) (r : Bool × List Int) (rs : List (Bool × List Int)) (h : c ≤ r.2.length) : mLess [.v (.int .i64 c), .fp (.sl nl 1 (row r :: rs.map row)) 0] = some (.v (.int .i64 (lessr r.2 c))) :=
  mk_eq (enc := fun (p : Nat × Bool × List (Bool × List Int)) => [int p.1, .fp (intss p.2.1 p.2.2) 0]) (x := (c, nl, r :: rs)) (by
    rintro ⟨a, b, e⟩ ⟨a', b', e'⟩ h
    simp [int, intss, map_row_inj] at h
    obtain ⟨h1, _, h2⟩ := h
    have : a = a' := by omega
    simp [this, h2]) ⟨r, rs, rfl, h⟩

/-- The list whose first k pieces are given. -/
def cutF (r0 r1 : List Int) (k : Nat) : List AV := filled (fun i => int (cutP r0 r1 i)) (int 0) (List.range r0.length) k
theorem cutF_len {r0 r1 : List Int} {k : Nat} (h : k ≤ r0.length) : (cutF r0 r1 k).length = r0.length := by unfold cutF; rw [filled_len (by simpa using h)]; simp
theorem cutF_zero {r0 r1 : List Int} : cutF r0 r1 0 = List.replicate r0.length (.v (.int .i64 0)) := by simp [cutF, filled_zero, int]
theorem cutF_all {r0 r1 : List Int} : cutF r0 r1 r0.length = (cutList r0 r1).map int := by
  have := filled_all (f := fun i => int (cutP r0 r1 i)) (z := int 0) (xs := List.range r0.length)
  rw [List.length_range] at this
  rw [cutF, this]; simp [cutList]
theorem cutF_at {r0 r1 : List Int} {k : Nat} (h : k < r0.length) (hh : k < (cutF r0 r1 k).length) : (cutF r0 r1 k)[k] = .v (.int .i64 0) := filled_get' (by simpa using h) hh
theorem cutF_set {r0 r1 : List Int} {k : Nat} (h : k < r0.length) : (cutF r0 r1 k).set k (.v (.int .i64 (cutP r0 r1 k))) = cutF r0 r1 (k + 1) := by
  have := filled_set (f := fun i => int (cutP r0 r1 i)) (z := int 0) (xs := List.range r0.length) (k := k) (by simpa using h)
  simpa [cutF, int] using this

theorem cutL_no {xss : List (Bool × List Int)} (h : rectB xss 3 10 100 = false ∨ ¬ xss.length = 2) : cutL xss = (true, []) := by
  match xss, h with
  | [], _ => rfl
  | [a], _ => rfl
  | [a, b], h => simp at h; simp [cutL, h]
  | a :: b :: c :: l, _ => rfl

/-- The first k pieces, given. -/
def cutA (r0 r1 : List Int) (k : Nat) : List Int := (List.range k).map (cutP r0 r1)
theorem cutA_len {r0 r1 : List Int} {k : Nat} : (cutA r0 r1 k).length = k := by simp [cutA]
theorem cutA_zero {r0 r1 : List Int} : cutA r0 r1 0 = [] := by simp [cutA]
theorem cutA_succ {r0 r1 : List Int} {k : Nat} : (cutA r0 r1 k).map int ++ [.v (.int .i64 (cutP r0 r1 k))] = (cutA r0 r1 (k + 1)).map int := by simp [cutA, List.range_succ, int]
theorem cutA_all {r0 r1 : List Int} : cutA r0 r1 r0.length = cutList r0 r1 := rfl

end Go.Proofs.YtiieikknhheffaaGreatDoor.Ax

/-
  Contracts: copies of rows, GainWith, ThingPrices (both programs). No condition.
-/
namespace Go.Proofs.YtiieikknhheffaaGreatDoor.Ax
open Go Go.RowKit
set_option linter.unusedSimpArgs false

/-- No row is nil by its mark. -/
def plain (xss : List (Bool × List Int)) : Prop := ∀ r ∈ xss, r.1 = false
theorem own_plain {xss : List (Bool × List Int)} : plain (own xss) := by
  intro r hr
  simp only [own, List.mem_map] at hr
  obtain ⟨p, _, rfl⟩ := hr; rfl

/-- The slot of the rows so far; the row. -/
def apC : Nat → AV
  | 0 => .sl true 1 []
  | k + 1 => .ref 0 [] 0 (k + 1)
def apD (l : List AV) : Nat → List Tok
  | 0 => []
  | _ + 1 => [⟨true, .sl false 1 l⟩]
def apE (l : List AV) : List Tok := [⟨true, .sl false 1 l⟩]

theorem take_row {xss : List (Bool × List Int)} (hp : plain xss) {k : Nat} (h : k < xss.length) : (xss.take k).map row ++ [.sl false 1 (xss[k].2.map int)] = (xss.take (k + 1)).map row := by
  rw [List.take_succ_eq_append_getElem h, List.map_append]
  have : xss[k].1 = false := hp _ (List.getElem_mem h)
  simp [row, this]

noncomputable def mCopyR : List AV → Option AV := mk (fun p => rectB p.2 4 4 1000 = true ∧ plain p.2) (fun (p : (Bool) × (List (Bool × List Int))) => [intss p.1 p.2]) (fun p => intss false p.2)
theorem mCopyR_at (nl : Bool) (xss : List (Bool × List Int)) (hpre : rectB xss 4 4 1000 = true ∧ plain xss) : mCopyR [.sl nl 1 (xss.map row)] = some (intss false xss) :=
  mk_eq (enc := fun (p : (Bool) × (List (Bool × List Int))) => [intss p.1 p.2]) (x := (nl, xss)) (by rintro ⟨a0, a1⟩ ⟨b0, b1⟩ h; simp [ints, intss, int, bool, row, frac, fracs, map_int_inj, map_row_inj, frac_inj, map_frac_inj] at h; simp [h]) hpre

/-- With other bids of one bidder. -/
def told (xss : List (Bool × List Int)) (i : Int) (nb : Bool) (bids : List Int) : List (Bool × List Int) := xss.set i.toNat (nb, bids)
theorem told_row {xss : List (Bool × List Int)} {i : Int} {nb : Bool} {bids : List Int} : (xss.map row).set i.toNat (.sl nb 1 (bids.map int)) = (told xss i nb bids).map row := by
  unfold told; rw [List.map_set]; rfl
theorem told_len {xss : List (Bool × List Int)} {i : Int} {nb : Bool} {bids : List Int} : (told xss i nb bids).length = xss.length := by simp [told]
theorem told_wid {xss : List (Bool × List Int)} {i : Int} {nb : Bool} {bids : List Int} (h0 : 0 < xss.length) (h : bids.length = wid xss) : wid (told xss i nb bids) = wid xss := by
  cases xss with
  | nil => simp at h0
  | cons r l =>
    unfold told
    cases i.toNat with
    | zero => simpa [wid] using h
    | succ j => simp [wid]

noncomputable def gainV (xss : List (Bool × List Int)) (i : Int) (T : List (Bool × List Int)) : Int :=
  if 0 ≤ (bA T).getD i.toNat 0 then IntKind.i64.wrap (IntKind.i64.wrap (0 - (payA T).getD i.toNat 0) + ent xss i.toNat ((bA T).getD i.toNat 0)) else IntKind.i64.wrap (0 - (payA T).getD i.toNat 0)
noncomputable def gainB (xss : List (Bool × List Int)) (i : Int) (nb : Bool) (bids : List Int) : Bool := rectB xss 4 4 1000 && decide (0 ≤ i) && decide (i < xss.length) && decide (bids.length = wid xss) && rectB (told xss i nb bids) 4 4 1000
noncomputable def gainI (xss : List (Bool × List Int)) (i : Int) (nb : Bool) (bids : List Int) : Int := if gainB xss i nb bids = true then gainV xss i (told xss i nb bids) else 0

noncomputable def mGainW : List AV → Option AV := mk (fun p => plain p.2.1) (fun (p : Bool × List (Bool × List Int) × Int × Bool × List Int) => [intss p.1 p.2.1, int p.2.2.1, ints p.2.2.2.1 p.2.2.2.2]) (fun p => .tup [int (gainI p.2.1 p.2.2.1 p.2.2.2.1 p.2.2.2.2), bool (gainB p.2.1 p.2.2.1 p.2.2.2.1 p.2.2.2.2)])
theorem mGainW_at (nl : Bool) (xss : List (Bool × List Int)) (i : Int) (nb : Bool) (bids : List Int) (h : plain xss) : mGainW [.sl nl 1 (xss.map row), .v (.int .i64 i), .sl nb 1 (bids.map int)] = some (.tup [.v (.int .i64 (gainI xss i nb bids)), .v (.bool (gainB xss i nb bids))]) :=
  mk_eq (enc := fun (p : Bool × List (Bool × List Int) × Int × Bool × List Int) => [intss p.1 p.2.1, int p.2.2.1, ints p.2.2.2.1 p.2.2.2.2]) (x := (nl, xss, i, nb, bids)) (by rintro ⟨a, b, c, d, e⟩ ⟨f, g, h, i, j⟩ hh; simp [intss, ints, int, map_row_inj, map_int_inj] at hh; simp [hh]) h

/-- The prices behind the first k bidders. -/
def prTo (w : Nat) (aw pay : List Int) : Nat → List Int
  | 0 => List.replicate w 0
  | k + 1 => if 0 ≤ aw.getD k 0 then (prTo w aw pay k).set (aw.getD k 0).toNat (pay.getD k 0) else prTo w aw pay k
theorem prTo_len {w : Nat} {aw pay : List Int} : ∀ {k : Nat}, (prTo w aw pay k).length = w
  | 0 => by simp [prTo]
  | k + 1 => by simp only [prTo]; split <;> simp [prTo_len]
noncomputable def prA (xss : List (Bool × List Int)) : List Int := if rectB xss 4 4 1000 = true then prTo (wid xss) (bA xss) (payA xss) xss.length else []

noncomputable def mPrices : List AV → Option AV := mk (fun _ => True) (fun (p : (Bool) × (List (Bool × List Int))) => [intss p.1 p.2]) (fun p => .sl (!rectB p.2 4 4 1000) 1 ((prA p.2).map int))
theorem mPrices_at (nl : Bool) (xss : List (Bool × List Int)) : mPrices [.sl nl 1 (xss.map row)] = some (.sl (!rectB xss 4 4 1000) 1 ((prA xss).map int)) :=
  mk_eq (enc := fun (p : (Bool) × (List (Bool × List Int))) => [intss p.1 p.2]) (x := (nl, xss)) (by rintro ⟨a0, a1⟩ ⟨b0, b1⟩ h; simp [ints, intss, int, bool, row, frac, fracs, map_int_inj, map_row_inj, frac_inj, map_frac_inj] at h; simp [h]) trivial

noncomputable def prP (xss : List (Bool × List Int)) : Bool × List Int := (!rectB xss 4 4 1000, prA xss)
theorem prP_at (nl : Bool) (xss : List (Bool × List Int)) : mPrices [.sl nl 1 (xss.map row)] = some (.sl (prP xss).1 1 ((prP xss).2.map int)) := mPrices_at nl xss
theorem prP_len {xss : List (Bool × List Int)} : (prP xss).2.length ≤ 2 ^ 40 := by
  simp only [prP, prA]
  cases h : rectB xss 4 4 1000 with
  | false => simp
  | true => simp only [if_true, prTo_len]; have := rect_len h; omega

end Go.Proofs.YtiieikknhheffaaGreatDoor.Ax

/-
  Contracts: MarketOk, Prefers, TurnMarket, TurnMatching (both programs). No condition.
-/
namespace Go.Proofs.YtiieikknhheffaaGreatDoor.Ax
open Go Go.RowKit
set_option linter.unusedSimpArgs false

/-- A market. -/
def mkt (b : Bool) (xs : List (Bool × List Int)) (c : Bool) (ys : List (Bool × List Int)) : AV := .agg [intss b xs, intss c ys]
def marB (xs ys : List (Bool × List Int)) : Bool := inR 1 5 xs.length && decide (ys.length = xs.length) && ranksB xs.length xs && ranksB xs.length ys

theorem mkt_inj {p q : Bool × List (Bool × List Int) × Bool × List (Bool × List Int)} (h : [mkt p.1 p.2.1 p.2.2.1 p.2.2.2] = [mkt q.1 q.2.1 q.2.2.1 q.2.2.2]) : p = q := by
  obtain ⟨a, b, c, d⟩ := p
  obtain ⟨e, f, g, i⟩ := q
  simp [mkt, intss, map_row_inj] at h
  simp [h]
noncomputable def mMar : List AV → Option AV := mk (fun _ => True) (fun (p : Bool × List (Bool × List Int) × Bool × List (Bool × List Int)) => [mkt p.1 p.2.1 p.2.2.1 p.2.2.2]) (fun p => bool (marB p.2.1 p.2.2.2))
theorem mMar_at (b : Bool) (xs : List (Bool × List Int)) (c : Bool) (ys : List (Bool × List Int)) : mMar [.agg [.sl b 1 (xs.map row), .sl c 1 (ys.map row)]] = some (.v (.bool (marB xs ys))) :=
  mk_eq (enc := fun (p : Bool × List (Bool × List Int) × Bool × List (Bool × List Int)) => [mkt p.1 p.2.1 p.2.2.1 p.2.2.2]) (x := (b, xs, c, ys)) (fun x y h => by rw [mkt_inj h]) trivial

theorem implPlace_ok : FnOk Tryz.prog 193 mPos := by
  refine mk_ok fun ⟨nl, xs, v⟩ _ => ?_
  have hG : FnsOk Tryz.prog [(178, mPos)] := (.cons slicesIndex_ok .nil)
  refine callOk_awp (ctx_ok eqOk hG) mixed (live := [true, true, false, false, true]) (dt := []) Tryz.func193 rfl (by kernel_rfl) (by kernel_rfl) fun w0 hlens => ?_
  simp [Tryz.f193, List.range, List.range.loop, ints, intss, int, bool, row, frac, fracs, ← List.map_take, ← List.map_drop, mPos_at]

noncomputable def mPref : List AV → Option AV := mk (fun _ => True) (fun (p : (Bool) × (List Int) × (Int) × (Int)) => [ints p.1 p.2.1, int p.2.2.1, int p.2.2.2]) (fun p => bool (pfB p.2.1 p.2.2.1 p.2.2.2))
theorem mPref_at (nl : Bool) (l : List Int) (a : Int) (b : Int) : mPref [.sl nl 1 (l.map int), .v (.int .i64 a), .v (.int .i64 b)] = some (.v (.bool (pfB l a b))) :=
  mk_eq (enc := fun (p : (Bool) × (List Int) × (Int) × (Int)) => [ints p.1 p.2.1, int p.2.2.1, int p.2.2.2]) (x := (nl, l, a, b)) (by rintro ⟨a0, a1, a2, a3⟩ ⟨b0, b1, b2, b3⟩ h; simp [ints, intss, int, bool, row, frac, fracs, map_int_inj, map_row_inj, frac_inj, map_frac_inj] at h; simp [h]) trivial
theorem implPref_ok : FnOk Tryz.prog 166 mPref := by
  refine mk_ok fun ⟨nl, l, a, b⟩ _ => ?_
  have hG : FnsOk Tryz.prog [(193, mPos)] := (.cons implPlace_ok .nil)
  refine callOk_awp (ctx_ok eqOk hG) mixed (live := [true, true, true, false, false, false, true, true, true]) (dt := []) Tryz.func166 rfl (by kernel_rfl) (by kernel_rfl) fun w0 hlens => ?_
  clear hlens
  by_cases h1 : 0 ≤ pos l a <;> by_cases h2 : 0 ≤ pos l b <;> by_cases h3 : pos l a < pos l b <;> simp [Tryz.f166, List.range, List.range.loop, ints, intss, int, bool, row, frac, fracs, ← List.map_take, ← List.map_drop, mPos_at, pfB, h1, h2, h3]

theorem specPref_ok : FnOk Tryz.prog 180 mPref := by
  refine mk_ok fun ⟨nl, l, a, b⟩ _ => ?_
  have hG : FnsOk Tryz.prog [(200, mPos)] := (.cons placeOf_ok .nil)
  refine callOk_awp (ctx_ok eqOk hG) mixed (live := [true, true, true, false, false, false, true, true, true]) (dt := []) Tryz.func180 rfl (by kernel_rfl) (by kernel_rfl) fun w0 hlens => ?_
  clear hlens
  by_cases h1 : 0 ≤ pos l a <;> by_cases h2 : 0 ≤ pos l b <;> by_cases h3 : pos l a < pos l b <;> simp [Tryz.f180, List.range, List.range.loop, ints, intss, int, bool, row, frac, fracs, ← List.map_take, ← List.map_drop, mPos_at, pfB, h1, h2, h3]

noncomputable def mIsRk : List AV → Option AV := mk (fun _ => True) (fun (p : (Bool) × (List Int)) => [ints p.1 p.2]) (fun p => bool (rankB p.2.length p.2))
theorem mIsRk_at (nl : Bool) (l : List Int) : mIsRk [.sl nl 1 (l.map int)] = some (.v (.bool (rankB l.length l))) :=
  mk_eq (enc := fun (p : (Bool) × (List Int)) => [ints p.1 p.2]) (x := (nl, l)) (by rintro ⟨a0, a1⟩ ⟨b0, b1⟩ h; simp [ints, intss, int, bool, row, frac, fracs, map_int_inj, map_row_inj, frac_inj, map_frac_inj] at h; simp [h]) trivial
theorem isRank_ok : FnOk Tryz.prog 63 mIsRk := by
  refine mk_ok fun ⟨nl, l⟩ _ => ?_
  have hG : FnsOk Tryz.prog [(89, mRank)] := (.cons implRankingOk_ok .nil)
  refine callOk_awp (ctx_ok eqOk hG) mixed (live := [true, false, true]) (dt := []) Tryz.func63 rfl (by kernel_rfl) (by kernel_rfl) fun w0 hlens => ?_
  clear hlens
  have h := mRank_at l.length nl l
  simp [Tryz.f63, List.range, List.range.loop, ints, intss, int, bool, row, frac, fracs, ← List.map_take, ← List.map_drop, h]

noncomputable def mTurn : List AV → Option AV := mk (fun p => rankB p.2.length p.2 = true) (fun (p : (Bool) × (List Int)) => [ints p.1 p.2]) (fun p => ints false (tnT p.2 p.2.length))
theorem mTurn_at (nl : Bool) (l : List Int) (hpre : rankB l.length l = true) : mTurn [.sl nl 1 (l.map int)] = some (.sl false 1 (((tnT l l.length)).map int)) :=
  mk_eq (enc := fun (p : (Bool) × (List Int)) => [ints p.1 p.2]) (x := (nl, l)) (by rintro ⟨a0, a1⟩ ⟨b0, b1⟩ h; simp [ints, intss, int, bool, row, frac, fracs, map_int_inj, map_row_inj, frac_inj, map_frac_inj] at h; simp [h]) hpre
theorem rank_bd {l : List Int} (h : rankB l.length l = true) : l.length ≤ 5 ∧ ∀ x ∈ l, 0 ≤ x ∧ x < l.length := by
  simp only [rankB, Bool.and_eq_true, inR, decide_eq_true_eq] at h
  obtain ⟨⟨⟨h1, h2⟩, _⟩, h3⟩ := h
  refine ⟨by omega, fun x hx => ?_⟩
  obtain ⟨i, hi, rfl⟩ := List.getElem_of_mem hx
  unfold allR at h3
  rw [List.all_eq_true] at h3
  have := h3 i (by simpa using hi)
  rw [rankAt_at hi] at this
  simp only [inR, Bool.and_eq_true, decide_eq_true_eq] at this
  omega

end Go.Proofs.YtiieikknhheffaaGreatDoor.Ax
