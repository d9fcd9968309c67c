/-
  Contracts: the best award (the reference's search). No condition.
-/
import Derived.Test.YtakladjlnkojjaaDoorCG4
import Derived.Test.YtakladjlnkojjaaDoorCK4
import Derived.Test.YtakladjlnkojjaaDoorCB2
namespace Go.Proofs.YtakladjlnkojjaaDoor.Ax
open Go Go.RowKit
set_option linter.unusedSimpArgs false

/-- What the search from the front is asked. -/
def LB (xss : List (Bool × List Int)) (l : List Int) (wo : Int) (r : Nat) : Prop := rectB xss 4 4 1000 = true ∧ -1 ≤ wo ∧ l.length + r = xss.length ∧ okP wo l = true ∧ ∀ x ∈ l, -1 ≤ x ∧ x ≤ (wid xss : Int) - 1

noncomputable def bs (xss : List (Bool × List Int)) (wo : Int) (r : Nat) (l : List Int) : Option (List Int) := bestS (wAw xss) (skP wo) (-1) (wid xss + 1) r l

theorem bs_eq {xss : List (Bool × List Int)} {l : List Int} {wo : Int} {r : Nat} (h : LB xss l wo r) : bs xss wo r l = bestO (wAw xss) (okP wo) ((allL (-1) ((wid xss : Int) - 1) r).map (l ++ ·)) := by
  have := bestS_eq (W := wAw xss) (ok := okP wo) (sk := skP wo) (low := -1) (high := (wid xss : Int) - 1) (n := xss.length) (by omega) (fun l x m _ _ hs => okP_skip hs) (fun l x h _ hs => okP_keep h hs) r l h.2.2.2.1 h.2.2.1
  rw [← this]
  unfold bs
  congr 1; omega

theorem lb_pre {xss : List (Bool × List Int)} (h : rectB xss 4 4 1000 = true) {l : List Int} (hl : l.length ≤ xss.length) (hr : ∀ x ∈ l, -1 ≤ x ∧ x ≤ (wid xss : Int) - 1) : l.length ≤ xss.length ∧ ∀ i, i < l.length → l.getD i 0 < ((xss.getD i (true, [])).2.length : Int) := by
  refine ⟨hl, fun i hi => ?_⟩
  have := (hr _ (List.getElem_mem hi)).2
  have hr := (rect_row h (i := i) (by omega)).1
  rw [getD_at hi, List.getD_eq_getElem?_getD, List.getElem?_eq_getElem (by omega)]
  simp only [Option.getD_some]; omega

/-- The first number of the range is never passed over: something is found. -/
theorem bs_some {xss : List (Bool × List Int)} {wo : Int} : ∀ (r : Nat) (l : List Int), ∃ l', bs xss wo r l = some l'
  | 0, l => ⟨l, rfl⟩
  | r + 1, l => by
    obtain ⟨l1, h1⟩ := bs_some r (l ++ [-1])
    unfold bs at h1 ⊢
    simp only [bestS]
    rw [List.range_succ_eq_map, List.foldl_cons]
    have hs : skP wo l (-1 + ((0 : Nat) : Int)) = false := by simp [skP]
    rw [hs]
    simp only [Bool.false_eq_true, if_false]
    have h1' : bestS (wAw xss) (skP wo) (-1) (wid xss + 1) r (l ++ [-1 + ((0 : Nat) : Int)]) = some l1 := h1
    rw [h1']
    have key : ∀ (L : List Nat) (g : Option (List Int) → Nat → Option (List Int)) (a : List Int), (∀ a i, ∃ b, g (some a) i = some b) → ∃ b, L.foldl g (some a) = some b := by
      intro L
      induction L with
      | nil => intro g a _; exact ⟨a, rfl⟩
      | cons i L ih =>
        intro g a hg
        obtain ⟨b, hb⟩ := hg a i
        rw [List.foldl_cons, hb]; exact ih g b hg
    refine key _ _ l1 fun a i => ?_
    split
    · exact ⟨a, rfl⟩
    · cases bestS (wAw xss) (skP wo) (-1) (wid xss + 1) r (l ++ [-1 + (i : Int)]) with
      | none => exact ⟨a, rfl⟩
      | some b => simp only [comb]; split <;> exact ⟨_, rfl⟩

theorem bs_mem {xss : List (Bool × List Int)} {l : List Int} {wo : Int} {r : Nat} (h : LB xss l wo r) {l' : List Int} (hl : bs xss wo r l = some l') : l'.length = xss.length ∧ (∀ x ∈ l', -1 ≤ x ∧ x ≤ (wid xss : Int) - 1) ∧ okP wo l' = true := by
  rw [bs_eq h] at hl
  obtain ⟨h1, h2⟩ := bestO_mem hl
  obtain ⟨l2, h3, rfl⟩ := List.mem_map.1 h1
  obtain ⟨h4, h5⟩ := allL_mem h3
  refine ⟨by rw [List.length_append, h4]; exact h.2.2.1, fun x hx => ?_, h2⟩
  rcases List.mem_append.1 hx with hx | hx
  · exact h.2.2.2.2 x hx
  · exact h5 x hx

theorem LB.step {xss : List (Bool × List Int)} {l : List Int} {wo : Int} {r : Nat} (h : LB xss l wo (r + 1)) {x : Int} (hx : -1 ≤ x ∧ x ≤ (wid xss : Int) - 1) (hs : skP wo l x = false) : LB xss (l ++ [x]) wo r := by
  obtain ⟨h1, h2, h3, h4, h5⟩ := h
  refine ⟨h1, h2, by simp; omega, okP_keep h4 hs, fun y hy => ?_⟩
  rcases List.mem_append.1 hy with hy | hy
  · exact h5 y hy
  · simp at hy; subst hy; exact hx

noncomputable def mLB (r : Nat) : List AV → Option (List Nat × AV) := mkV (fun p => LB p.2.1 p.2.2.1 p.2.2.2 r) (fun (p : Bool × List (Bool × List Int) × List Int × Int) => [intss p.1 p.2.1, ints false p.2.2.1, int p.2.2.2]) [1] (fun p => ints false ((bs p.2.1 p.2.2.2 r p.2.2.1).getD []))
theorem mLB_at (r : Nat) (nl : Bool) (xss : List (Bool × List Int)) (l : List Int) (wo : Int) (h : LB xss l wo r) : mLB r [.sl nl 1 (xss.map row), .sl false 1 (l.map int), .v (.int .i64 wo)] = some ([1], .sl false 1 (((bs xss wo r l).getD []).map int)) :=
  mkV_eq (enc := fun (p : Bool × List (Bool × List Int) × List Int × Int) => [intss p.1 p.2.1, ints false p.2.2.1, int p.2.2.2]) (x := (nl, xss, l, wo)) (by rintro ⟨a, b, c, d⟩ ⟨e, f, g, h'⟩ h; simp [intss, ints, int, map_row_inj, map_int_inj] at h; simp [h]) h

/-- The best so far. -/
noncomputable def bsTo (xss : List (Bool × List Int)) (wo : Int) (r : Nat) (l : List Int) (k : Nat) : Option (List Int) :=
  (List.range k).foldl (fun o (i : Nat) => if skP wo l (-1 + (i : Int)) = true then o else comb (wAw xss) o (bs xss wo r (l ++ [-1 + (i : Int)]))) none
theorem bsTo_succ {xss : List (Bool × List Int)} {wo : Int} {r : Nat} {l : List Int} {k : Nat} : bsTo xss wo r l (k + 1) = if skP wo l (-1 + (k : Int)) = true then bsTo xss wo r l k else comb (wAw xss) (bsTo xss wo r l k) (bs xss wo r (l ++ [-1 + (k : Int)])) := by
  unfold bsTo
  rw [List.range_succ, List.foldl_append]; rfl
theorem bsTo_all {xss : List (Bool × List Int)} {wo : Int} {r : Nat} {l : List Int} : bsTo xss wo r l (wid xss + 1) = bs xss wo (r + 1) l := rfl
theorem bsTo_mem {xss : List (Bool × List Int)} {l : List Int} {wo : Int} {r : Nat} (h : LB xss l wo (r + 1)) : ∀ {k : Nat}, k ≤ wid xss + 1 → ∀ {b : List Int}, bsTo xss wo r l k = some b → b.length = xss.length ∧ ∀ x ∈ b, -1 ≤ x ∧ x ≤ (wid xss : Int) - 1
  | 0, _, b, hb => by simp [bsTo] at hb
  | k + 1, hk, b, hb => by
    rw [bsTo_succ] at hb
    split at hb
    · exact bsTo_mem h (by omega) hb
    · rename_i hs
      have hs' : skP wo l (-1 + (k : Int)) = false := by simpa using hs
      have hst := h.step (x := -1 + (k : Int)) ⟨by omega, by omega⟩ hs'
      obtain ⟨l1, h1⟩ := bs_some (xss := xss) (wo := wo) r (l ++ [-1 + (k : Int)])
      rw [h1] at hb
      have hm := bs_mem hst h1
      cases ho : bsTo xss wo r l k with
      | none => rw [ho] at hb; simp only [comb, Option.some.injEq] at hb; subst hb; exact ⟨hm.1, hm.2.1⟩
      | some a =>
        rw [ho] at hb
        simp only [comb] at hb
        split at hb
        · simp only [Option.some.injEq] at hb; subst hb; exact ⟨hm.1, hm.2.1⟩
        · simp only [Option.some.injEq] at hb; subst hb; exact bsTo_mem h (by omega) ho

end Go.Proofs.YtakladjlnkojjaaDoor.Ax

/-
  Contracts: BestAward, BestWorth, WorthWithout (both programs). No condition.
-/
namespace Go.Proofs.YtakladjlnkojjaaDoor.Ax
open Go Go.RowKit
set_option linter.unusedSimpArgs false

/-- The first best award in which the bidder wo gets nothing. -/
noncomputable def bestA (xss : List (Bool × List Int)) (wo : Int) : List Int := (bs xss wo xss.length []).getD []

theorem lb_nil {xss : List (Bool × List Int)} {wo : Int} (h : rectB xss 4 4 1000 = true) (hw : -1 ≤ wo) : LB xss [] wo xss.length := ⟨h, hw, by simp, okP_nil, by simp⟩
theorem bestA_eq {xss : List (Bool × List Int)} {wo : Int} (h : rectB xss 4 4 1000 = true) (hw : -1 ≤ wo) : bestO (wAw xss) (okP wo) (allL (-1) ((wid xss : Int) - 1) xss.length) = some (bestA xss wo) := by
  have h1 := bs_eq (lb_nil h hw)
  obtain ⟨l, hl⟩ := bs_some (xss := xss) (wo := wo) xss.length []
  have h2 : bestA xss wo = l := by unfold bestA; rw [hl]; rfl
  rw [h2, ← hl, h1]; simp
theorem bestA_mem {xss : List (Bool × List Int)} {wo : Int} (h : rectB xss 4 4 1000 = true) (hw : -1 ≤ wo) : (bestA xss wo).length = xss.length ∧ (∀ x ∈ bestA xss wo, -1 ≤ x ∧ x ≤ (wid xss : Int) - 1) ∧ okP wo (bestA xss wo) = true := by
  obtain ⟨l, hl⟩ := bs_some (xss := xss) (wo := wo) xss.length []
  have h2 : bestA xss wo = l := by unfold bestA; rw [hl]; rfl
  rw [h2]
  exact bs_mem (lb_nil h hw) hl
theorem bestA_award {xss : List (Bool × List Int)} {wo : Int} (h : rectB xss 4 4 1000 = true) (hw : -1 ≤ wo) : awardB xss (bestA xss wo) = true := by
  obtain ⟨h1, h2, h3⟩ := bestA_mem h hw
  simp only [okP, Bool.and_eq_true] at h3
  simp only [awardB, Bool.and_eq_true, decide_eq_true_eq, h, h1, h3.1, true_and, and_true]
  unfold allIn
  rw [List.all_eq_true]
  intro x hx
  simpa [inR] using h2 x hx
theorem bestA_pre {xss : List (Bool × List Int)} {wo : Int} (h : rectB xss 4 4 1000 = true) (hw : -1 ≤ wo) : (bestA xss wo).length ≤ xss.length ∧ ∀ i, i < (bestA xss wo).length → (bestA xss wo).getD i 0 < ((xss.getD i (true, [])).2.length : Int) := awW_pre (bestA_award h hw)

noncomputable def mBestS : List AV → Option (List Nat × AV) := mkV (fun p => rectB p.2.1 4 4 1000 = true ∧ -1 ≤ p.2.2) (fun (p : Bool × List (Bool × List Int) × Int) => [intss p.1 p.2.1, ints false [], int p.2.2]) [1] (fun p => ints false (bestA p.2.1 p.2.2))
theorem mBestS_at (nl : Bool) (xss : List (Bool × List Int)) (wo : Int) (h : rectB xss 4 4 1000 = true ∧ -1 ≤ wo) : mBestS [.sl nl 1 (xss.map row), .sl false 1 [], .v (.int .i64 wo)] = some ([1], .sl false 1 ((bestA xss wo).map int)) :=
  mkV_eq (enc := fun (p : Bool × List (Bool × List Int) × Int) => [intss p.1 p.2.1, ints false [], int p.2.2]) (x := (nl, xss, wo)) (by rintro ⟨a, b, c⟩ ⟨d, e, f⟩ h; simp [intss, ints, int, map_row_inj] at h; simp [h]) h

noncomputable def bA (xss : List (Bool × List Int)) : List Int := if rectB xss 4 4 1000 = true then bestA xss (-1) else []
theorem bA_yes {xss : List (Bool × List Int)} (h : rectB xss 4 4 1000 = true) : bA xss = bestA xss (-1) := if_pos h
theorem bA_no {xss : List (Bool × List Int)} (h : rectB xss 4 4 1000 = false) : bA xss = [] := if_neg (by simp [h])

noncomputable def mBestAward : List AV → Option AV := mk (fun _ => True) (fun (p : (Bool) × (List (Bool × List Int))) => [intss p.1 p.2]) (fun p => .sl (!rectB p.2 4 4 1000) 1 ((bA p.2).map int))
theorem mBestAward_at (nl : Bool) (xss : List (Bool × List Int)) : mBestAward [.sl nl 1 (xss.map row)] = some (.sl (!rectB xss 4 4 1000) 1 ((bA xss).map int)) :=
  mk_eq (enc := fun (p : (Bool) × (List (Bool × List Int))) => [intss p.1 p.2]) (x := (nl, xss)) (by rintro ⟨a0, a1⟩ ⟨b0, b1⟩ h; simp [ints, intss, int, bool, row, frac, fracs, map_int_inj, map_row_inj, frac_inj, map_frac_inj] at h; simp [h]) trivial

noncomputable def mBestWorth : List AV → Option AV := mk (fun _ => True) (fun (p : (Bool) × (List (Bool × List Int))) => [intss p.1 p.2]) (fun p => int (if rectB p.2 4 4 1000 = true then awTo p.2 (bestA p.2 (-1)) (bestA p.2 (-1)).length else -1))
theorem mBestWorth_at (nl : Bool) (xss : List (Bool × List Int)) : mBestWorth [.sl nl 1 (xss.map row)] = some (.v (.int .i64 (if rectB xss 4 4 1000 = true then awTo xss (bestA xss (-1)) (bestA xss (-1)).length else -1))) :=
  mk_eq (enc := fun (p : (Bool) × (List (Bool × List Int))) => [intss p.1 p.2]) (x := (nl, xss)) (by rintro ⟨a0, a1⟩ ⟨b0, b1⟩ h; simp [ints, intss, int, bool, row, frac, fracs, map_int_inj, map_row_inj, frac_inj, map_frac_inj] at h; simp [h]) trivial

noncomputable def wwB (xss : List (Bool × List Int)) (i : Int) : Int := if rectB xss 4 4 1000 = true ∧ 0 ≤ i ∧ i < xss.length then awTo xss (bestA xss i) (bestA xss i).length else -1

noncomputable def mWithout : List AV → Option AV := mk (fun _ => True) (fun (p : (Bool) × (List (Bool × List Int)) × (Int)) => [intss p.1 p.2.1, int p.2.2]) (fun p => int (wwB p.2.1 p.2.2))
theorem mWithout_at (nl : Bool) (xss : List (Bool × List Int)) (i : Int) : mWithout [.sl nl 1 (xss.map row), .v (.int .i64 i)] = some (.v (.int .i64 (wwB xss i))) :=
  mk_eq (enc := fun (p : (Bool) × (List (Bool × List Int)) × (Int)) => [intss p.1 p.2.1, int p.2.2]) (x := (nl, xss, i)) (by rintro ⟨a0, a1, a2⟩ ⟨b0, b1, b2⟩ h; simp [ints, intss, int, bool, row, frac, fracs, map_int_inj, map_row_inj, frac_inj, map_frac_inj] at h; simp [h]) trivial

/-- What the bidder i pays. -/
noncomputable def payI (xss : List (Bool × List Int)) (i : Nat) : Int :=
  IntKind.i64.wrap (wwB xss i - (if 0 ≤ (bestA xss (-1)).getD i 0 then IntKind.i64.wrap (awTo xss (bestA xss (-1)) (bestA xss (-1)).length - ent xss i ((bestA xss (-1)).getD i 0)) else awTo xss (bestA xss (-1)) (bestA xss (-1)).length))
noncomputable def payL (xss : List (Bool × List Int)) (k : Nat) : List Int := (List.range k).map (payI xss)
theorem payL_succ {xss : List (Bool × List Int)} {k : Nat} : payL xss (k + 1) = payL xss k ++ [payI xss k] := by simp [payL, List.range_succ]
theorem payL_len {xss : List (Bool × List Int)} {k : Nat} : (payL xss k).length = k := by simp [payL]
noncomputable def payA (xss : List (Bool × List Int)) : List Int := if rectB xss 4 4 1000 = true then payL xss xss.length else []
theorem payA_yes {xss : List (Bool × List Int)} (h : rectB xss 4 4 1000 = true) : payA xss = payL xss xss.length := if_pos h
theorem payA_no {xss : List (Bool × List Int)} (h : rectB xss 4 4 1000 = false) : payA xss = [] := if_neg (by simp [h])

noncomputable def mPayments : List AV → Option AV := mk (fun _ => True) (fun (p : (Bool) × (List (Bool × List Int))) => [intss p.1 p.2]) (fun p => .sl (!rectB p.2 4 4 1000) 1 ((payA p.2).map int))
theorem mPayments_at (nl : Bool) (xss : List (Bool × List Int)) : mPayments [.sl nl 1 (xss.map row)] = some (.sl (!rectB xss 4 4 1000) 1 ((payA xss).map int)) :=
  mk_eq (enc := fun (p : (Bool) × (List (Bool × List Int))) => [intss p.1 p.2]) (x := (nl, xss)) (by rintro ⟨a0, a1⟩ ⟨b0, b1⟩ h; simp [ints, intss, int, bool, row, frac, fracs, map_int_inj, map_row_inj, frac_inj, map_frac_inj] at h; simp [h]) trivial

def pqS (l l' : List AV) : List Tok := [⟨true, .sl false 1 l⟩, ⟨true, .sl false 1 l'⟩]
/-- The slot of what is paid so far; the rows. -/
def apP : Nat → AV
  | 0 => .sl true 1 []
  | k + 1 => .ref 1 [] 0 (k + 1)
def apQ (l l' : List AV) : Nat → List Tok
  | 0 => [⟨true, .sl false 1 l⟩]
  | _ + 1 => [⟨true, .sl false 1 l⟩, ⟨true, .sl false 1 l'⟩]

noncomputable def bAP (xss : List (Bool × List Int)) : Bool × List Int := (!rectB xss 4 4 1000, bA xss)
theorem bAP_at (nl : Bool) (xss : List (Bool × List Int)) : mBestAward [.sl nl 1 (xss.map row)] = some (.sl (bAP xss).1 1 ((bAP xss).2.map int)) := mBestAward_at nl xss
theorem bA_len {xss : List (Bool × List Int)} : (bA xss).length ≤ 4 := by
  cases h : rectB xss 4 4 1000 with
  | false => rw [bA_no h]; simp
  | true => rw [bA_yes h, (bestA_mem h (by omega)).1]; have := rect_len h; omega
theorem bAP_len {xss : List (Bool × List Int)} : (bAP xss).2.length ≤ 2 ^ 40 := by have := bA_len (xss := xss); simp only [bAP]; omega
noncomputable def payP (xss : List (Bool × List Int)) : Bool × List Int := (!rectB xss 4 4 1000, payA xss)
theorem payP_at (nl : Bool) (xss : List (Bool × List Int)) : mPayments [.sl nl 1 (xss.map row)] = some (.sl (payP xss).1 1 ((payP xss).2.map int)) := mPayments_at nl xss
theorem payA_len {xss : List (Bool × List Int)} : (payA xss).length ≤ 4 := by
  cases h : rectB xss 4 4 1000 with
  | false => rw [payA_no h]; simp
  | true => rw [payA_yes h, payL_len]; have := rect_len h; omega
theorem payP_len {xss : List (Bool × List Int)} : (payP xss).2.length ≤ 2 ^ 40 := by have := payA_len (xss := xss); simp only [payP]; omega

end Go.Proofs.YtakladjlnkojjaaDoor.Ax

/-
  Contracts: marks on lists of ints, and whether they stand. No condition.
-/
namespace Go.Proofs.YtakladjlnkojjaaDoor.Ax
open Go Go.RowKit
set_option linter.unusedSimpArgs false

/-- The marks from k on, so many. -/
def mkd (k : Int) (n : Nat) : List Int := (List.range n).map fun (i : Nat) => k + i
theorem mkd_len {k : Int} {n : Nat} : (mkd k n).length = n := by simp [mkd]
theorem mkd_take {k : Int} {n : Nat} : (mkd k n).take n = mkd k n := List.take_of_length_le (by simp [mkd_len])
theorem mkd_at {k : Int} {n i : Nat} (h : i < (mkd k n).length) : (mkd k n)[i] = k + i := by simp [mkd]
/-- A list whose first i numbers are marked. -/
def mkTo (k : Int) (xs : List Int) (i : Nat) : List Int := mkd k i ++ xs.drop i
theorem mkTo_len {k : Int} {xs : List Int} {i : Nat} (h : i ≤ xs.length) : (mkTo k xs i).length = xs.length := by simp [mkTo, mkd_len]; omega
theorem mkTo_zero {k : Int} {xs : List Int} : mkTo k xs 0 = xs := by simp [mkTo, mkd]
theorem mkTo_all {k : Int} {xs : List Int} : mkTo k xs xs.length = mkd k xs.length := by simp [mkTo]
theorem mkTo_set {k : Int} {xs : List Int} {i : Nat} (h : i < xs.length) : ((mkTo k xs i).map int).set i (.v (.int .i64 (k + i))) = (mkTo k xs (i + 1)).map int := by
  have : (AV.v (.int .i64 (k + i))) = int (k + i) := rfl
  rw [this, ← List.map_set]
  congr 1
  unfold mkTo
  rw [List.set_append, if_neg (by simp [mkd_len]), mkd_len, Nat.sub_self, drop_get h, List.set_cons_zero]
  simp [mkd, List.range_succ]

noncomputable def mMarkI : List AV → Option (Nat × AV × AV) := mkM (fun (p : Bool × List Int × Int) => 0 ≤ p.2.2 ∧ p.2.2 + p.2.1.length ≤ 2 ^ 62) (fun p => [ints p.1 p.2.1, int p.2.2]) (fun p => (0, int (p.2.2 + p.2.1.length), ints p.1 (mkd p.2.2 p.2.1.length)))
theorem mMarkI_at (nl : Bool) (xs : List Int) (k : Int) (h : 0 ≤ k ∧ k + xs.length ≤ 2 ^ 62) : mMarkI [.sl nl 1 (xs.map int), .v (.int .i64 k)] = some (0, .v (.int .i64 (k + xs.length)), .sl nl 1 ((mkd k xs.length).map int)) :=
  mkM_eq (enc := fun (p : Bool × List Int × Int) => [ints p.1 p.2.1, int p.2.2]) (x := (nl, xs, k)) (by rintro ⟨a, b, c⟩ ⟨d, e, f⟩ h; simp [ints, int, map_int_inj] at h; simp [h]) h

set_option maxHeartbeats 1000000 in
theorem markIntS_ok : FnMut Tryd.prog 20 mMarkI := by
  refine mkM_ok fun ⟨nl, xs, k⟩ ⟨hk0, hk⟩ => ?_
  simp only at hk0 hk
  have hG : FnsOk Tryd.prog [] := .nil
  refine mutOk_awp (ctx_ok eqOk hG) mixed (live := [true, true, false, false, true, true, false, false, false, true]) (dt := []) (pos := 0) rfl Tryd.func20 rfl (by kernel_rfl) (by kernel_rfl) fun US Uv w0 hlens => ?_
  simp [Tryd.f20, List.range, List.range.loop, ints, intss, int, bool, row, frac, fracs, ← List.map_take, ← List.map_drop]
  refine awp_range (live := [true, true, false, false, true, true, false, false, false, true]) (ctx_ok eqOk hG) mixed [true, true, false, false, false, true] (xs.length) (fun i => True) (fun i => ⟨[.ref 0 [] 0 xs.length, int (k + i), .junk, .junk, .junk, int i, .junk, .junk, .junk, .junk, .junk, .junk, .junk, .junk, .junk, .junk, .junk, .junk, .junk], [⟨true, .sl nl 1 ((mkTo k xs i).map int)⟩]⟩) ?_ (by simp [sub, slotsLe, clean, keep, refsL, refs, once, place, renL, ren, List.replicate, int, bool, mkTo_zero]) ?_ ?_ ?_
  · omega
  · trivial
  · intro i h _ hw
    have hl := mkTo_len (k := k) (xs := xs) (i := i) (by omega)
    have hl' := mkTo_len (k := k) (xs := xs) (i := i + 1) (by omega)
    have hs := mkTo_set (k := k) h
    have hw2 : IntKind.i64.wrap (k + i + 1) = k + i + 1 := wrapI (by omega) (by omega)
    have e : (k + (i : Int) + 1) = k + ((i : Int) + 1) := by omega
    simp (config := {contextual := true}) [List.range, List.range.loop, ints, intss, int, bool, row, frac, fracs, ← List.map_take, ← List.map_drop, List.eraseIdx, h, hw, hl, hl', hs, hw2]
    exact e
  · intro _
    have hl := mkTo_len (k := k) (xs := xs) (i := xs.length) (by omega)
    simp (config := {contextual := true}) [List.range, List.range.loop, ints, intss, int, bool, row, frac, fracs, ← List.map_take, ← List.map_drop, List.eraseIdx, hl, mkTo_all, mkd_len]

noncomputable def mHeldI : List AV → Option AV := mk (fun (p : Bool × Nat × Int) => 0 ≤ p.2.2 ∧ p.2.2 + p.2.1 ≤ 2 ^ 62) (fun p => [ints p.1 (mkd p.2.2 p.2.1), int p.2.2]) (fun p => int (p.2.2 + p.2.1))
theorem mHeldI_at (nl : Bool) (n : Nat) (k : Int) (h : 0 ≤ k ∧ k + n ≤ 2 ^ 62) : mHeldI [.sl nl 1 ((mkd k n).map int), .v (.int .i64 k)] = some (.v (.int .i64 (k + n))) :=
  mk_eq (enc := fun (p : Bool × Nat × Int) => [ints p.1 (mkd p.2.2 p.2.1), int p.2.2]) (x := (nl, n, k)) (by
    rintro ⟨a, b, c⟩ ⟨d, e, f⟩ h
    simp [ints, int, map_int_inj] at h
    obtain ⟨⟨_, h1⟩, h2⟩ := h
    have := congrArg List.length h1
    simp [mkd_len] at this
    simp [h2, this]) h

set_option maxHeartbeats 1000000 in
theorem heldIntS_ok : FnOk Tryd.prog 21 mHeldI := by
  refine mk_ok fun ⟨nl, n, k⟩ ⟨hk0, hk⟩ => ?_
  simp only at hk0 hk
  have hG : FnsOk Tryd.prog [] := .nil
  refine callOk_awp (ctx_ok eqOk hG) mixed (live := [true, true, false, false, true, true, false, false, false, true, false, false, false, false, false, false, false, true]) (dt := []) Tryd.func21 rfl (by kernel_rfl) (by kernel_rfl) fun w0 hlens => ?_
  clear hlens
  simp [Tryd.f21, List.range, List.range.loop, ints, intss, int, bool, row, frac, fracs, ← List.map_take, ← List.map_drop]
  refine awp_range (live := [true, true, false, false, true, true, false, false, false, true, false, false, false, false, false, false, false, true]) (ctx_ok eqOk hG) mixed [true, true, false, false, false, true] (n) (fun i => True) (fun i => ⟨[ints nl (mkd k n), int (k + i), .junk, .junk, .junk, int i, .junk, .junk, .junk, .junk, .junk, .junk, .junk, .junk, .junk, .junk, .junk, .junk, .junk, .junk, .junk], []⟩) ?_ (by simp [sub, slotsLe, clean, keep, refsL, refs, once, place, renL, ren, List.replicate, int, bool, ints]) ?_ ?_ ?_
  · omega
  · trivial
  · intro i h _ hw
    have hl : i < (mkd k n).length := by rw [mkd_len]; exact h
    have hw2 : IntKind.i64.wrap (k + i + 1) = k + i + 1 := wrapI (by omega) (by omega)
    have e : (k + (i : Int) + 1) = k + ((i : Int) + 1) := by omega
    simp (config := {contextual := true}) [List.range, List.range.loop, ints, intss, int, bool, row, frac, fracs, ← List.map_take, ← List.map_drop, h, hw, hl, hw2, mkd_len, mkd_at]
    exact e
  · intro _
    simp (config := {contextual := true}) [List.range, List.range.loop, ints, intss, int, bool, row, frac, fracs, ← List.map_take, ← List.map_drop, mkd_len]

/-- Rows of which the first i are marked. -/
def mkRow (k : Int) (xss : List (Bool × List Int)) (j : Nat) : Bool × List Int := ((xss.getD j (true, [])).1, mkd (k + rowSum xss j) (xss.getD j (true, [])).2.length)
def mkRT (k : Int) (xss : List (Bool × List Int)) (i : Nat) : List (Bool × List Int) := (List.range xss.length).map fun j => if j < i then mkRow k xss j else xss.getD j (true, [])
def mkRS (k : Int) (xss : List (Bool × List Int)) : List (Bool × List Int) := (List.range xss.length).map (mkRow k xss)
theorem getDD {xss : List (Bool × List Int)} {i : Nat} (h : i < xss.length) : xss.getD i (true, []) = xss[i] := by simp [List.getD_eq_getElem?_getD, h]
theorem mkRT_len {k : Int} {xss : List (Bool × List Int)} {i : Nat} : (mkRT k xss i).length = xss.length := by simp [mkRT]
theorem mkRS_len {k : Int} {xss : List (Bool × List Int)} : (mkRS k xss).length = xss.length := by simp [mkRS]
theorem mkRS_take {k : Int} {xss : List (Bool × List Int)} : (mkRS k xss).take xss.length = mkRS k xss := List.take_of_length_le (by simp [mkRS_len])
theorem mkRT_zero {k : Int} {xss : List (Bool × List Int)} : mkRT k xss 0 = xss := by
  apply List.ext_getElem
  · simp [mkRT]
  · intro i h1 h2
    simp only [mkRT, List.getElem_map, List.getElem_range, Nat.not_lt_zero, if_false, getDD h2]
theorem mkRT_all {k : Int} {xss : List (Bool × List Int)} : mkRT k xss xss.length = mkRS k xss := by
  apply List.ext_getElem
  · simp [mkRT, mkRS]
  · intro i h1 h2
    have h3 : i < xss.length := by simpa [mkRS] using h2
    simp [mkRT, mkRS, h3]
theorem mkRT_at {k : Int} {xss : List (Bool × List Int)} {i : Nat} (h : i < xss.length) (h' : i < (mkRT k xss i).length) : (mkRT k xss i)[i] = xss[i] := by
  simp only [mkRT, List.getElem_map, List.getElem_range, Nat.lt_irrefl, if_false, getDD h]
theorem mkRS_at {k : Int} {xss : List (Bool × List Int)} {i : Nat} (h : i < xss.length) (h' : i < (mkRS k xss).length) : (mkRS k xss)[i] = (xss[i].1, mkd (k + rowSum xss i) xss[i].2.length) := by
  simp only [mkRS, List.getElem_map, List.getElem_range, mkRow, getDD h]
theorem mkRT_set {k : Int} {xss : List (Bool × List Int)} {i : Nat} (h : i < xss.length) : ((mkRT k xss i).map row).set i (.sl xss[i].1 1 ((mkd (k + rowSum xss i) xss[i].2.length).map int)) = (mkRT k xss (i + 1)).map row := by
  have : (AV.sl xss[i].1 1 ((mkd (k + rowSum xss i) xss[i].2.length).map int)) = row (mkRow k xss i) := by simp only [row, mkRow, getDD h]
  rw [this, ← List.map_set]
  congr 1
  apply List.ext_getElem
  · simp [mkRT]
  · intro j h1 h2
    rw [List.getElem_set]
    simp only [mkRT, List.getElem_map, List.getElem_range]
    by_cases e : i = j
    · subst e; simp
    · rw [if_neg e]
      by_cases h3 : j < i
      · rw [if_pos h3, if_pos (by omega)]
      · rw [if_neg h3, if_neg (by omega)]

theorem need_own {xss : List (Bool × List Int)} : need (own xss) = need xss := by
  unfold need rowSum own; simp [← List.map_take, Function.comp_def]

noncomputable def mMarkII : List AV → Option (Nat × AV × AV) := mkM (fun (p : Bool × List (Bool × List Int) × Int) => 0 ≤ p.2.2 ∧ p.2.2 + need p.2.1 ≤ 2 ^ 61) (fun p => [intss p.1 p.2.1, int p.2.2]) (fun p => (0, int (p.2.2 + rowSum p.2.1 p.2.1.length), intss p.1 (mkRS p.2.2 p.2.1)))
theorem mMarkII_at (nl : Bool) (xss : List (Bool × List Int)) (k : Int) (h : 0 ≤ k ∧ k + need xss ≤ 2 ^ 61) : mMarkII [.sl nl 1 (xss.map row), .v (.int .i64 k)] = some (0, .v (.int .i64 (k + rowSum xss xss.length)), .sl nl 1 ((mkRS k xss).map row)) :=
  mkM_eq (enc := fun (p : Bool × List (Bool × List Int) × Int) => [intss p.1 p.2.1, int p.2.2]) (x := (nl, xss, k)) (by rintro ⟨a, b, c⟩ ⟨d, e, f⟩ h; simp [intss, int, map_row_inj] at h; simp [h]) h

set_option maxHeartbeats 2000000 in
theorem markIntSS_ok : FnMut Tryd.prog 24 mMarkII := by
  refine mkM_ok fun ⟨nl, xss, k⟩ ⟨hk0, hk⟩ => ?_
  simp only at hk0 hk
  simp only [need] at hk
  have hG : FnsOk Tryd.prog [] := .nil
  have hM : FnsMut Tryd.prog [(20, mMarkI)] := (.cons markIntS_ok .nil)
  refine mutOk_awp (ctxM_ok eqOk hG hM) mixed (live := [true, true, false, false, true, true, false, false, false, true]) (dt := []) (pos := 0) rfl Tryd.func24 rfl (by kernel_rfl) (by kernel_rfl) fun US Uv w0 hlens => ?_
  simp [Tryd.f24, List.range, List.range.loop, ints, intss, int, bool, row, frac, fracs, ← List.map_take, ← List.map_drop, ctxM]
  refine awp_range (live := [true, true, false, false, true, true, false, false, false, true]) (ctxM_ok eqOk hG hM) mixed [true, true, false, false, false, true] (xss.length) (fun i => True) (fun i => ⟨[.ref 0 [] 0 xss.length, int (k + rowSum xss i), .junk, .junk, .junk, int i, .junk, .junk, .junk, .junk, .junk, .junk, .junk, .junk, .junk, .junk, .junk, .junk, .junk], [⟨true, .sl nl 1 ((mkRT k xss i).map row)⟩]⟩) ?_ (by simp [sub, slotsLe, clean, keep, refsL, refs, once, place, renL, ren, List.replicate, int, bool, mkRT_zero, rowSum_zero]) ?_ ?_ ?_
  · omega
  · trivial
  · intro i h _ hw
    have hs := mkRT_set (k := k) h
    have h1 := rowSum_succ h
    have h2 := rowSum_mono (xss := xss) (show i + 1 ≤ xss.length from h)
    have hz := mMarkI_at xss[i].1 xss[i].2 (k + rowSum xss i) ⟨by omega, by omega⟩
    have e : k + (rowSum xss i : Int) + (xss[i].2.length : Int) = k + (rowSum xss (i + 1) : Int) := by omega
    simp (config := {contextual := true}) [List.range, List.range.loop, ints, intss, int, bool, row, frac, fracs, ← List.map_take, ← List.map_drop, List.eraseIdx, h, hw, mkRT_len, mkRT_at, hz, mkd_len, hs, e]
  · intro _
    simp (config := {contextual := true}) [List.range, List.range.loop, ints, intss, int, bool, row, frac, fracs, ← List.map_take, ← List.map_drop, List.eraseIdx, mkRT_len, mkRT_all, mkRS_len]

noncomputable def mHeldII : List AV → Option AV := mk (fun (p : Bool × List (Bool × List Int) × Int) => 0 ≤ p.2.2 ∧ p.2.2 + need p.2.1 ≤ 2 ^ 61) (fun p => [intss p.1 (mkRS p.2.2 p.2.1), int p.2.2]) (fun p => int (p.2.2 + ((mkRS p.2.2 p.2.1).map (·.2.length)).sum))
theorem mkRS_sum {k : Int} {xss : List (Bool × List Int)} : ((mkRS k xss).map (·.2.length)).sum = rowSum xss xss.length := by
  have : (mkRS k xss).map (·.2.length) = xss.map (·.2.length) := by
    apply List.ext_getElem
    · simp [mkRS]
    · intro i h1 h2
      have h3 : i < xss.length := by simpa using h2
      rw [List.getElem_map, List.getElem_map, mkRS_at h3]; simp [mkd_len]
  rw [this]; simp [rowSum]
theorem mHeldII_at (nl : Bool) (xss : List (Bool × List Int)) (k : Int) (h : 0 ≤ k ∧ k + need xss ≤ 2 ^ 61) : mHeldII [.sl nl 1 ((mkRS k xss).map row), .v (.int .i64 k)] = some (.v (.int .i64 (k + rowSum xss xss.length))) := by
  refine (mk_eq (enc := fun p : Bool × List (Bool × List Int) × Int => [intss p.1 (mkRS p.2.2 p.2.1), int p.2.2]) (x := (nl, xss, k)) (by
    rintro ⟨a, b, c⟩ ⟨d, e, f⟩ h
    simp [intss, int, map_row_inj] at h
    obtain ⟨⟨_, h1⟩, rfl⟩ := h
    simp only [h1]) h).trans ?_
  simp only [int, mkRS_sum]

set_option maxHeartbeats 2000000 in
theorem heldIntSS_ok : FnOk Tryd.prog 25 mHeldII := by
  refine mk_ok fun ⟨nl, xss, k⟩ ⟨hk0, hk⟩ => ?_
  simp only at hk0 hk
  simp only [need] at hk
  simp only [mkRS_sum]
  have hG : FnsOk Tryd.prog [(21, mHeldI)] := (.cons heldIntS_ok .nil)
  refine callOk_awp (ctx_ok eqOk hG) mixed (live := [true, true, false, false, true, true, false, false, false, true, false, false, false, false, false, false, false, false, false, true]) (dt := []) Tryd.func25 rfl (by kernel_rfl) (by kernel_rfl) fun w0 hlens => ?_
  clear hlens
  simp [Tryd.f25, List.range, List.range.loop, ints, intss, int, bool, row, frac, fracs, ← List.map_take, ← List.map_drop]
  refine awp_range (live := [true, true, false, false, true, true, false, false, false, true, false, false, false, false, false, false, false, false, false, true]) (ctx_ok eqOk hG) mixed [true, true, false, false, false, true] (xss.length) (fun i => True) (fun i => ⟨[intss nl (mkRS k xss), int (k + rowSum xss i), .junk, .junk, .junk, int i, .junk, .junk, .junk, .junk, .junk, .junk, .junk, .junk, .junk, .junk, .junk, .junk, .junk, .junk, .junk], []⟩) ?_ (by simp [sub, slotsLe, clean, keep, refsL, refs, once, place, renL, ren, List.replicate, int, bool, intss, rowSum_zero]) ?_ ?_ ?_
  · omega
  · trivial
  · intro i h _ hw
    have h1 := rowSum_succ h
    have h2 := rowSum_mono (xss := xss) (show i + 1 ≤ xss.length from h)
    have hz := mHeldI_at xss[i].1 xss[i].2.length (k + rowSum xss i) ⟨by omega, by omega⟩
    have e : k + (rowSum xss i : Int) + (xss[i].2.length : Int) = k + (rowSum xss (i + 1) : Int) := by omega
    have hn : ¬ (k + (rowSum xss (i + 1) : Int) < 0) := by omega
    simp (config := {contextual := true}) [List.range, List.range.loop, ints, intss, int, bool, row, frac, fracs, ← List.map_take, ← List.map_drop, h, hw, mkRS_len, mkRS_at, hz, e, hn]
  · intro _
    simp (config := {contextual := true}) [List.range, List.range.loop, ints, intss, int, bool, row, frac, fracs, ← List.map_take, ← List.map_drop, mkRS_len]

end Go.Proofs.YtakladjlnkojjaaDoor.Ax

/-
  Contracts: CutAndChoose (both programs). No condition.
-/
namespace Go.Proofs.YtakladjlnkojjaaDoor.Ax
open Go Go.RowKit
set_option linter.unusedSimpArgs false

def mBoolInt : List AV → Option AV
  | [.v (.bool b)] => some (.v (.int .i64 (if b then 1 else 0)))
  | _ => none
theorem mBoolInt_at {b : Bool} : mBoolInt [.v (.bool b)] = some (.v (.int .i64 (if b then 1 else 0))) := rfl
theorem tkd {l : List Int} {c : Nat} : List.take (l.length - c) (List.drop c l) = List.drop c l := List.take_of_length_le (by simp)

/-- The lesser of the two parts at a cut. -/
def lessr (r : List Int) (c : Nat) : Int := min (sumW (r.take c)) (sumW (r.drop c))
/-- The first best cut among the first m. -/
def bestTo (r : List Int) : Nat → Nat
  | 0 => 0
  | m + 1 => if lessr r (bestTo r m) < lessr r m then m else bestTo r m
theorem bestTo_le {r : List Int} : ∀ {m : Nat}, bestTo r (m + 1) ≤ m
  | 0 => by simp [bestTo]
  | m + 1 => by rw [bestTo]; split; exact Nat.le_refl _; exact Nat.le_trans bestTo_le (Nat.le_succ m)
def cutP (r0 r1 : List Int) (i : Nat) : Int :=
  let c := bestTo r0 (r0.length + 1)
  let f : Int := if sumW (r1.drop c) < sumW (r1.take c) then 1 else 0
  if i < c then f else 1 - f
def cutList (r0 r1 : List Int) : List Int := (List.range r0.length).map (cutP r0 r1)
theorem cutList_len {r0 r1 : List Int} : (cutList r0 r1).length = r0.length := by simp [cutList]
def cutL (xss : List (Bool × List Int)) : Bool × List Int := match xss with
  | [r0, r1] => if rectB xss 3 10 100 = true then (false, cutList r0.2 r1.2) else (true, [])
  | _ => (true, [])
theorem cutL_len {xss : List (Bool × List Int)} : (cutL xss).2.length ≤ 2 ^ 40 := by
  unfold cutL
  split
  · split
    · rename_i h
      have := rect_len h
      simp [wid, cutList] at this ⊢; omega
    · simp
  · simp

noncomputable def mCut : List AV → Option AV := mk (fun _ => True) (fun (p : (Bool) × (List (Bool × List Int))) => [intss p.1 p.2]) (fun p => .sl (cutL p.2).1 1 ((cutL p.2).2.map int))
theorem mCut_at (nl : Bool) (xss : List (Bool × List Int)) : mCut [.sl nl 1 (xss.map row)] = some (.sl (cutL xss).1 1 ((cutL xss).2.map int)) :=
  mk_eq (enc := fun (p : (Bool) × (List (Bool × List Int))) => [intss p.1 p.2]) (x := (nl, xss)) (by rintro ⟨a0, a1⟩ ⟨b0, b1⟩ h; simp [ints, intss, int, bool, row, frac, fracs, map_int_inj, map_row_inj, frac_inj, map_frac_inj] at h; simp [h]) trivial

noncomputable def mLess : List AV → Option AV := mk (fun (p : Nat × Bool × List (Bool × List Int)) => ∃ r rs, p.2.2 = r :: rs ∧ p.1 ≤ r.2.length) (fun p => [int p.1, .fp (intss p.2.1 p.2.2) 0]) (fun p => int (lessr (p.2.2.headD (true, [])).2 p.1))
theorem mLess_at (c : Nat) (nl : Bool) (r : Bool × List Int) (rs : List (Bool × List Int)) (h : c ≤ r.2.length) : mLess [.v (.int .i64 c), .fp (.sl nl 1 (row r :: rs.map row)) 0] = some (.v (.int .i64 (lessr r.2 c))) :=
  mk_eq (enc := fun (p : Nat × Bool × List (Bool × List Int)) => [int p.1, .fp (intss p.2.1 p.2.2) 0]) (x := (c, nl, r :: rs)) (by
    rintro ⟨a, b, e⟩ ⟨a', b', e'⟩ h
    simp [int, intss, map_row_inj] at h
    obtain ⟨h1, _, h2⟩ := h
    have : a = a' := by omega
    simp [this, h2]) ⟨r, rs, rfl, h⟩

/-- The list whose first k pieces are given. -/
def cutF (r0 r1 : List Int) (k : Nat) : List AV := filled (fun i => int (cutP r0 r1 i)) (int 0) (List.range r0.length) k
theorem cutF_len {r0 r1 : List Int} {k : Nat} (h : k ≤ r0.length) : (cutF r0 r1 k).length = r0.length := by unfold cutF; rw [filled_len (by simpa using h)]; simp
theorem cutF_zero {r0 r1 : List Int} : cutF r0 r1 0 = List.replicate r0.length (.v (.int .i64 0)) := by simp [cutF, filled_zero, int]
theorem cutF_all {r0 r1 : List Int} : cutF r0 r1 r0.length = (cutList r0 r1).map int := by
  have := filled_all (f := fun i => int (cutP r0 r1 i)) (z := int 0) (xs := List.range r0.length)
  rw [List.length_range] at this
  rw [cutF, this]; simp [cutList]
theorem cutF_at {r0 r1 : List Int} {k : Nat} (h : k < r0.length) (hh : k < (cutF r0 r1 k).length) : (cutF r0 r1 k)[k] = .v (.int .i64 0) := filled_get' (by simpa using h) hh
theorem cutF_set {r0 r1 : List Int} {k : Nat} (h : k < r0.length) : (cutF r0 r1 k).set k (.v (.int .i64 (cutP r0 r1 k))) = cutF r0 r1 (k + 1) := by
  have := filled_set (f := fun i => int (cutP r0 r1 i)) (z := int 0) (xs := List.range r0.length) (k := k) (by simpa using h)
  simpa [cutF, int] using this

theorem cutL_no {xss : List (Bool × List Int)} (h : rectB xss 3 10 100 = false ∨ ¬ xss.length = 2) : cutL xss = (true, []) := by
  match xss, h with
  | [], _ => rfl
  | [a], _ => rfl
  | [a, b], h => simp at h; simp [cutL, h]
  | a :: b :: c :: l, _ => rfl

/-- The first k pieces, given. -/
def cutA (r0 r1 : List Int) (k : Nat) : List Int := (List.range k).map (cutP r0 r1)
theorem cutA_len {r0 r1 : List Int} {k : Nat} : (cutA r0 r1 k).length = k := by simp [cutA]
theorem cutA_zero {r0 r1 : List Int} : cutA r0 r1 0 = [] := by simp [cutA]
theorem cutA_succ {r0 r1 : List Int} {k : Nat} : (cutA r0 r1 k).map int ++ [.v (.int .i64 (cutP r0 r1 k))] = (cutA r0 r1 (k + 1)).map int := by simp [cutA, List.range_succ, int]
theorem cutA_all {r0 r1 : List Int} : cutA r0 r1 r0.length = cutList r0 r1 := rfl

end Go.Proofs.YtakladjlnkojjaaDoor.Ax
