/-
  Contracts: the best award (the reference's search). No condition.
-/
import Derived.Test.YtlkgppincgpfjaaCG7
import Derived.Test.YtlkgppincgpfjaaCK4
import Derived.Test.YtlkgppincgpfjaaCG2
import Derived.Test.YtlkgppincgpfjaaCG1
import Derived.Test.YtlkgppincgpfjaaCG5
import Derived.Test.YtlkgppincgpfjaaCB2
namespace Go.Proofs.Ytlkgppincgpfjaa.Ax
open Go Go.RowKit
set_option linter.unusedSimpArgs false

/-- What the search from the front is asked. -/
def LB (xss : List (Bool × List Int)) (l : List Int) (wo : Int) (r : Nat) : Prop := rectB xss 4 4 1000 = true ∧ -1 ≤ wo ∧ l.length + r = xss.length ∧ okP wo l = true ∧ ∀ x ∈ l, -1 ≤ x ∧ x ≤ (wid xss : Int) - 1

noncomputable def bs (xss : List (Bool × List Int)) (wo : Int) (r : Nat) (l : List Int) : Option (List Int) := bestS (wAw xss) (skP wo) (-1) (wid xss + 1) r l

theorem bs_eq {xss : List (Bool × List Int)} {l : List Int} {wo : Int} {r : Nat} (h : LB xss l wo r) : bs xss wo r l = bestO (wAw xss) (okP wo) ((allL (-1) ((wid xss : Int) - 1) r).map (l ++ ·)) := by
  have := bestS_eq (W := wAw xss) (ok := okP wo) (sk := skP wo) (low := -1) (high := (wid xss : Int) - 1) (n := xss.length) (by omega) (fun l x m _ _ hs => okP_skip hs) (fun l x h _ hs => okP_keep h hs) r l h.2.2.2.1 h.2.2.1
  rw [← this]
  unfold bs
  congr 1; omega

theorem lb_pre {xss : List (Bool × List Int)} (h : rectB xss 4 4 1000 = true) {l : List Int} (hl : l.length ≤ xss.length) (hr : ∀ x ∈ l, -1 ≤ x ∧ x ≤ (wid xss : Int) - 1) : l.length ≤ xss.length ∧ ∀ i, i < l.length → l.getD i 0 < ((xss.getD i (true, [])).2.length : Int) := by
  refine ⟨hl, fun i hi => ?_⟩
  have := (hr _ (List.getElem_mem hi)).2
  have hr := (rect_row h (i := i) (by omega)).1
  rw [getD_at hi, List.getD_eq_getElem?_getD, List.getElem?_eq_getElem (by omega)]
  simp only [Option.getD_some]; omega

/-- The first number of the range is never passed over: something is found. -/
theorem bs_some {xss : List (Bool × List Int)} {wo : Int} : ∀ (r : Nat) (l : List Int), ∃ l', bs xss wo r l = some l'
  | 0, l => ⟨l, rfl⟩
  | r + 1, l => by
    obtain ⟨l1, h1⟩ := bs_some r (l ++ [-1])
    unfold bs at h1 ⊢
    simp only [bestS]
    rw [List.range_succ_eq_map, List.foldl_cons]
    have hs : skP wo l (-1 + ((0 : Nat) : Int)) = false := by simp [skP]
    rw [hs]
    simp only [Bool.false_eq_true, if_false]
    have h1' : bestS (wAw xss) (skP wo) (-1) (wid xss + 1) r (l ++ [-1 + ((0 : Nat) : Int)]) = some l1 := h1
    rw [h1']
    have key : ∀ (L : List Nat) (g : Option (List Int) → Nat → Option (List Int)) (a : List Int), (∀ a i, ∃ b, g (some a) i = some b) → ∃ b, L.foldl g (some a) = some b := by
      intro L
      induction L with
      | nil => intro g a _; exact ⟨a, rfl⟩
      | cons i L ih =>
        intro g a hg
        obtain ⟨b, hb⟩ := hg a i
        rw [List.foldl_cons, hb]; exact ih g b hg
    refine key _ _ l1 fun a i => ?_
    split
    · exact ⟨a, rfl⟩
    · cases bestS (wAw xss) (skP wo) (-1) (wid xss + 1) r (l ++ [-1 + (i : Int)]) with
      | none => exact ⟨a, rfl⟩
      | some b => simp only [comb]; split <;> exact ⟨_, rfl⟩

theorem bs_mem {xss : List (Bool × List Int)} {l : List Int} {wo : Int} {r : Nat} (h : LB xss l wo r) {l' : List Int} (hl : bs xss wo r l = some l') : l'.length = xss.length ∧ (∀ x ∈ l', -1 ≤ x ∧ x ≤ (wid xss : Int) - 1) ∧ okP wo l' = true := by
  rw [bs_eq h] at hl
  obtain ⟨h1, h2⟩ := bestO_mem hl
  obtain ⟨l2, h3, rfl⟩ := List.mem_map.1 h1
  obtain ⟨h4, h5⟩ := allL_mem h3
  refine ⟨by rw [List.length_append, h4]; exact h.2.2.1, fun x hx => ?_, h2⟩
  rcases List.mem_append.1 hx with hx | hx
  · exact h.2.2.2.2 x hx
  · exact h5 x hx

theorem LB.step {xss : List (Bool × List Int)} {l : List Int} {wo : Int} {r : Nat} (h : LB xss l wo (r + 1)) {x : Int} (hx : -1 ≤ x ∧ x ≤ (wid xss : Int) - 1) (hs : skP wo l x = false) : LB xss (l ++ [x]) wo r := by
  obtain ⟨h1, h2, h3, h4, h5⟩ := h
  refine ⟨h1, h2, by simp; omega, okP_keep h4 hs, fun y hy => ?_⟩
  rcases List.mem_append.1 hy with hy | hy
  · exact h5 y hy
  · simp at hy; subst hy; exact hx

noncomputable def mLB (r : Nat) : List AV → Option (List Nat × AV) := mkV (fun p => LB p.2.1 p.2.2.1 p.2.2.2 r) (fun (p : Bool × List (Bool × List Int) × List Int × Int) => [intss p.1 p.2.1, ints false p.2.2.1, int p.2.2.2]) [1] (fun p => ints false ((bs p.2.1 p.2.2.2 r p.2.2.1).getD []))
theorem mLB_at (r : Nat) (nl : Bool) (xss : List (Bool × List Int)) (l : List Int) (wo : Int) (h : LB xss l wo r) : mLB r [.sl nl 1 (xss.map row), .sl false 1 (l.map int), .v (.int .i64 wo)] = some ([1], .sl false 1 (((bs xss wo r l).getD []).map int)) :=
  mkV_eq (enc := fun (p : Bool × List (Bool × List Int) × List Int × Int) => [intss p.1 p.2.1, ints false p.2.2.1, int p.2.2.2]) (x := (nl, xss, l, wo)) (by rintro ⟨a, b, c, d⟩ ⟨e, f, g, h'⟩ h; simp [intss, ints, int, map_row_inj, map_int_inj] at h; simp [h]) h

/-- The best so far. -/
noncomputable def bsTo (xss : List (Bool × List Int)) (wo : Int) (r : Nat) (l : List Int) (k : Nat) : Option (List Int) :=
  (List.range k).foldl (fun o (i : Nat) => if skP wo l (-1 + (i : Int)) = true then o else comb (wAw xss) o (bs xss wo r (l ++ [-1 + (i : Int)]))) none
theorem bsTo_succ {xss : List (Bool × List Int)} {wo : Int} {r : Nat} {l : List Int} {k : Nat} : bsTo xss wo r l (k + 1) = if skP wo l (-1 + (k : Int)) = true then bsTo xss wo r l k else comb (wAw xss) (bsTo xss wo r l k) (bs xss wo r (l ++ [-1 + (k : Int)])) := by
  unfold bsTo
  rw [List.range_succ, List.foldl_append]; rfl
theorem bsTo_all {xss : List (Bool × List Int)} {wo : Int} {r : Nat} {l : List Int} : bsTo xss wo r l (wid xss + 1) = bs xss wo (r + 1) l := rfl
theorem bsTo_mem {xss : List (Bool × List Int)} {l : List Int} {wo : Int} {r : Nat} (h : LB xss l wo (r + 1)) : ∀ {k : Nat}, k ≤ wid xss + 1 → ∀ {b : List Int}, bsTo xss wo r l k = some b → b.length = xss.length ∧ ∀ x ∈ b, -1 ≤ x ∧ x ≤ (wid xss : Int) - 1
  | 0, _, b, hb => by simp [bsTo] at hb
  | k + 1, hk, b, hb => by
    rw [bsTo_succ] at hb
    split at hb
    · exact bsTo_mem h (by omega) hb
    · rename_i hs
      have hs' : skP wo l (-1 + (k : Int)) = false := by simpa using hs
      have hst := h.step (x := -1 + (k : Int)) ⟨by omega, by omega⟩ hs'
      obtain ⟨l1, h1⟩ := bs_some (xss := xss) (wo := wo) r (l ++ [-1 + (k : Int)])
      rw [h1] at hb
      have hm := bs_mem hst h1
      cases ho : bsTo xss wo r l k with
      | none => rw [ho] at hb; simp only [comb, Option.some.injEq] at hb; subst hb; exact ⟨hm.1, hm.2.1⟩
      | some a =>
        rw [ho] at hb
        simp only [comb] at hb
        split at hb
        · simp only [Option.some.injEq] at hb; subst hb; exact ⟨hm.1, hm.2.1⟩
        · simp only [Option.some.injEq] at hb; subst hb; exact bsTo_mem h (by omega) ho

end Go.Proofs.Ytlkgppincgpfjaa.Ax

/-
  Contracts: BestAward, BestWorth, WorthWithout (both programs). No condition.
-/
namespace Go.Proofs.Ytlkgppincgpfjaa.Ax
open Go Go.RowKit
set_option linter.unusedSimpArgs false

/-- The first best award in which the bidder wo gets nothing. -/
noncomputable def bestA (xss : List (Bool × List Int)) (wo : Int) : List Int := (bs xss wo xss.length []).getD []

theorem lb_nil {xss : List (Bool × List Int)} {wo : Int} (h : rectB xss 4 4 1000 = true) (hw : -1 ≤ wo) : LB xss [] wo xss.length := ⟨h, hw, by simp, okP_nil, by simp⟩
theorem bestA_eq {xss : List (Bool × List Int)} {wo : Int} (h : rectB xss 4 4 1000 = true) (hw : -1 ≤ wo) : bestO (wAw xss) (okP wo) (allL (-1) ((wid xss : Int) - 1) xss.length) = some (bestA xss wo) := by
  have h1 := bs_eq (lb_nil h hw)
  obtain ⟨l, hl⟩ := bs_some (xss := xss) (wo := wo) xss.length []
  have h2 : bestA xss wo = l := by unfold bestA; rw [hl]; rfl
  rw [h2, ← hl, h1]; simp
theorem bestA_mem {xss : List (Bool × List Int)} {wo : Int} (h : rectB xss 4 4 1000 = true) (hw : -1 ≤ wo) : (bestA xss wo).length = xss.length ∧ (∀ x ∈ bestA xss wo, -1 ≤ x ∧ x ≤ (wid xss : Int) - 1) ∧ okP wo (bestA xss wo) = true := by
  obtain ⟨l, hl⟩ := bs_some (xss := xss) (wo := wo) xss.length []
  have h2 : bestA xss wo = l := by unfold bestA; rw [hl]; rfl
  rw [h2]
  exact bs_mem (lb_nil h hw) hl
theorem bestA_award {xss : List (Bool × List Int)} {wo : Int} (h : rectB xss 4 4 1000 = true) (hw : -1 ≤ wo) : awardB xss (bestA xss wo) = true := by
  obtain ⟨h1, h2, h3⟩ := bestA_mem h hw
  simp only [okP, Bool.and_eq_true] at h3
  simp only [awardB, Bool.and_eq_true, decide_eq_true_eq, h, h1, h3.1, true_and, and_true]
  unfold allIn
  rw [List.all_eq_true]
  intro x hx
  simpa [inR] using h2 x hx
theorem bestA_pre {xss : List (Bool × List Int)} {wo : Int} (h : rectB xss 4 4 1000 = true) (hw : -1 ≤ wo) : (bestA xss wo).length ≤ xss.length ∧ ∀ i, i < (bestA xss wo).length → (bestA xss wo).getD i 0 < ((xss.getD i (true, [])).2.length : Int) := awW_pre (bestA_award h hw)

noncomputable def mBestS : List AV → Option (List Nat × AV) := mkV (fun p => rectB p.2.1 4 4 1000 = true ∧ -1 ≤ p.2.2) (fun (p : Bool × List (Bool × List Int) × Int) => [intss p.1 p.2.1, ints false [], int p.2.2]) [1] (fun p => ints false (bestA p.2.1 p.2.2))
theorem mBestS_at (nl : Bool) (xss : List (Bool × List Int)) (wo : Int) (h : rectB xss 4 4 1000 = true ∧ -1 ≤ wo) : mBestS [.sl nl 1 (xss.map row), .sl false 1 [], .v (.int .i64 wo)] = some ([1], .sl false 1 ((bestA xss wo).map int)) :=
  mkV_eq (enc := fun (p : Bool × List (Bool × List Int) × Int) => [intss p.1 p.2.1, ints false [], int p.2.2]) (x := (nl, xss, wo)) (by rintro ⟨a, b, c⟩ ⟨d, e, f⟩ h; simp [intss, ints, int, map_row_inj] at h; simp [h]) h

noncomputable def bA (xss : List (Bool × List Int)) : List Int := if rectB xss 4 4 1000 = true then bestA xss (-1) else []
theorem bA_yes {xss : List (Bool × List Int)} (h : rectB xss 4 4 1000 = true) : bA xss = bestA xss (-1) := if_pos h
theorem bA_no {xss : List (Bool × List Int)} (h : rectB xss 4 4 1000 = false) : bA xss = [] := if_neg (by simp [h])

noncomputable def mBestAward : List AV → Option AV := mk (fun _ => True) (fun (p : (Bool) × (List (Bool × List Int))) => [intss p.1 p.2]) (fun p => .sl (!rectB p.2 4 4 1000) 1 ((bA p.2).map int))
theorem mBestAward_at (nl : Bool) (xss : List (Bool × List Int)) : mBestAward [.sl nl 1 (xss.map row)] = some (.sl (!rectB xss 4 4 1000) 1 ((bA xss).map int)) :=
  mk_eq (enc := fun (p : (Bool) × (List (Bool × List Int))) => [intss p.1 p.2]) (x := (nl, xss)) (by rintro ⟨a0, a1⟩ ⟨b0, b1⟩ h; simp [ints, intss, int, bool, row, frac, fracs, map_int_inj, map_row_inj, frac_inj, map_frac_inj] at h; simp [h]) trivial

noncomputable def mBestWorth : List AV → Option AV := mk (fun _ => True) (fun (p : (Bool) × (List (Bool × List Int))) => [intss p.1 p.2]) (fun p => int (if rectB p.2 4 4 1000 = true then awTo p.2 (bestA p.2 (-1)) (bestA p.2 (-1)).length else -1))
theorem mBestWorth_at (nl : Bool) (xss : List (Bool × List Int)) : mBestWorth [.sl nl 1 (xss.map row)] = some (.v (.int .i64 (if rectB xss 4 4 1000 = true then awTo xss (bestA xss (-1)) (bestA xss (-1)).length else -1))) :=
  mk_eq (enc := fun (p : (Bool) × (List (Bool × List Int))) => [intss p.1 p.2]) (x := (nl, xss)) (by rintro ⟨a0, a1⟩ ⟨b0, b1⟩ h; simp [ints, intss, int, bool, row, frac, fracs, map_int_inj, map_row_inj, frac_inj, map_frac_inj] at h; simp [h]) trivial

noncomputable def wwB (xss : List (Bool × List Int)) (i : Int) : Int := if rectB xss 4 4 1000 = true ∧ 0 ≤ i ∧ i < xss.length then awTo xss (bestA xss i) (bestA xss i).length else -1

noncomputable def mWithout : List AV → Option AV := mk (fun _ => True) (fun (p : (Bool) × (List (Bool × List Int)) × (Int)) => [intss p.1 p.2.1, int p.2.2]) (fun p => int (wwB p.2.1 p.2.2))
theorem mWithout_at (nl : Bool) (xss : List (Bool × List Int)) (i : Int) : mWithout [.sl nl 1 (xss.map row), .v (.int .i64 i)] = some (.v (.int .i64 (wwB xss i))) :=
  mk_eq (enc := fun (p : (Bool) × (List (Bool × List Int)) × (Int)) => [intss p.1 p.2.1, int p.2.2]) (x := (nl, xss, i)) (by rintro ⟨a0, a1, a2⟩ ⟨b0, b1, b2⟩ h; simp [ints, intss, int, bool, row, frac, fracs, map_int_inj, map_row_inj, frac_inj, map_frac_inj] at h; simp [h]) trivial

/-- What the bidder i pays. -/
noncomputable def payI (xss : List (Bool × List Int)) (i : Nat) : Int :=
  IntKind.i64.wrap (wwB xss i - (if 0 ≤ (bestA xss (-1)).getD i 0 then IntKind.i64.wrap (awTo xss (bestA xss (-1)) (bestA xss (-1)).length - ent xss i ((bestA xss (-1)).getD i 0)) else awTo xss (bestA xss (-1)) (bestA xss (-1)).length))
noncomputable def payL (xss : List (Bool × List Int)) (k : Nat) : List Int := (List.range k).map (payI xss)
theorem payL_succ {xss : List (Bool × List Int)} {k : Nat} : payL xss (k + 1) = payL xss k ++ [payI xss k] := by simp [payL, List.range_succ]
theorem payL_len {xss : List (Bool × List Int)} {k : Nat} : (payL xss k).length = k := by simp [payL]
noncomputable def payA (xss : List (Bool × List Int)) : List Int := if rectB xss 4 4 1000 = true then payL xss xss.length else []
theorem payA_yes {xss : List (Bool × List Int)} (h : rectB xss 4 4 1000 = true) : payA xss = payL xss xss.length := if_pos h
theorem payA_no {xss : List (Bool × List Int)} (h : rectB xss 4 4 1000 = false) : payA xss = [] := if_neg (by simp [h])

noncomputable def mPayments : List AV → Option AV := mk (fun _ => True) (fun (p : (Bool) × (List (Bool × List Int))) => [intss p.1 p.2]) (fun p => .sl (!rectB p.2 4 4 1000) 1 ((payA p.2).map int))
theorem mPayments_at (nl : Bool) (xss : List (Bool × List Int)) : mPayments [.sl nl 1 (xss.map row)] = some (.sl (!rectB xss 4 4 1000) 1 ((payA xss).map int)) :=
  mk_eq (enc := fun (p : (Bool) × (List (Bool × List Int))) => [intss p.1 p.2]) (x := (nl, xss)) (by rintro ⟨a0, a1⟩ ⟨b0, b1⟩ h; simp [ints, intss, int, bool, row, frac, fracs, map_int_inj, map_row_inj, frac_inj, map_frac_inj] at h; simp [h]) trivial

def pqS (l l' : List AV) : List Tok := [⟨true, .sl false 1 l⟩, ⟨true, .sl false 1 l'⟩]
/-- The slot of what is paid so far; the rows. -/
def apP : Nat → AV
  | 0 => .sl true 1 []
  | k + 1 => .ref 1 [] 0 (k + 1)
def apQ (l l' : List AV) : Nat → List Tok
  | 0 => [⟨true, .sl false 1 l⟩]
  | _ + 1 => [⟨true, .sl false 1 l⟩, ⟨true, .sl false 1 l'⟩]

noncomputable def bAP (xss : List (Bool × List Int)) : Bool × List Int := (!rectB xss 4 4 1000, bA xss)
theorem bAP_at (nl : Bool) (xss : List (Bool × List Int)) : mBestAward [.sl nl 1 (xss.map row)] = some (.sl (bAP xss).1 1 ((bAP xss).2.map int)) := mBestAward_at nl xss
theorem bA_len {xss : List (Bool × List Int)} : (bA xss).length ≤ 4 := by
  cases h : rectB xss 4 4 1000 with
  | false => rw [bA_no h]; simp
  | true => rw [bA_yes h, (bestA_mem h (by omega)).1]; have := rect_len h; omega
theorem bAP_len {xss : List (Bool × List Int)} : (bAP xss).2.length ≤ 2 ^ 40 := by have := bA_len (xss := xss); simp only [bAP]; omega
noncomputable def payP (xss : List (Bool × List Int)) : Bool × List Int := (!rectB xss 4 4 1000, payA xss)
theorem payP_at (nl : Bool) (xss : List (Bool × List Int)) : mPayments [.sl nl 1 (xss.map row)] = some (.sl (payP xss).1 1 ((payP xss).2.map int)) := mPayments_at nl xss
theorem payA_len {xss : List (Bool × List Int)} : (payA xss).length ≤ 4 := by
  cases h : rectB xss 4 4 1000 with
  | false => rw [payA_no h]; simp
  | true => rw [payA_yes h, payL_len]; have := rect_len h; omega
theorem payP_len {xss : List (Bool × List Int)} : (payP xss).2.length ≤ 2 ^ 40 := by have := payA_len (xss := xss); simp only [payP]; omega

end Go.Proofs.Ytlkgppincgpfjaa.Ax

/-
  Contracts: copies of rows, GainWith, ThingPrices (both programs). No condition.
-/
namespace Go.Proofs.Ytlkgppincgpfjaa.Ax
open Go Go.RowKit
set_option linter.unusedSimpArgs false

/-- No row is nil by its mark. -/
def plain (xss : List (Bool × List Int)) : Prop := ∀ r ∈ xss, r.1 = false
theorem own_plain {xss : List (Bool × List Int)} : plain (own xss) := by
  intro r hr
  simp only [own, List.mem_map] at hr
  obtain ⟨p, _, rfl⟩ := hr; rfl

/-- The slot of the rows so far; the row. -/
def apC : Nat → AV
  | 0 => .sl true 1 []
  | k + 1 => .ref 0 [] 0 (k + 1)
def apD (l : List AV) : Nat → List Tok
  | 0 => []
  | _ + 1 => [⟨true, .sl false 1 l⟩]
def apE (l : List AV) : List Tok := [⟨true, .sl false 1 l⟩]

theorem take_row {xss : List (Bool × List Int)} (hp : plain xss) {k : Nat} (h : k < xss.length) : (xss.take k).map row ++ [.sl false 1 (xss[k].2.map int)] = (xss.take (k + 1)).map row := by
  rw [List.take_succ_eq_append_getElem h, List.map_append]
  have : xss[k].1 = false := hp _ (List.getElem_mem h)
  simp [row, this]

noncomputable def mCopyR : List AV → Option AV := mk (fun p => rectB p.2 4 4 1000 = true ∧ plain p.2) (fun (p : (Bool) × (List (Bool × List Int))) => [intss p.1 p.2]) (fun p => intss false p.2)
theorem mCopyR_at (nl : Bool) (xss : List (Bool × List Int)) (hpre : rectB xss 4 4 1000 = true ∧ plain xss) : mCopyR [.sl nl 1 (xss.map row)] = some (intss false xss) :=
  mk_eq (enc := fun (p : (Bool) × (List (Bool × List Int))) => [intss p.1 p.2]) (x := (nl, xss)) (by rintro ⟨a0, a1⟩ ⟨b0, b1⟩ h; simp [ints, intss, int, bool, row, frac, fracs, map_int_inj, map_row_inj, frac_inj, map_frac_inj] at h; simp [h]) hpre

/-- With other bids of one bidder. -/
def told (xss : List (Bool × List Int)) (i : Int) (nb : Bool) (bids : List Int) : List (Bool × List Int) := xss.set i.toNat (nb, bids)
theorem told_row {xss : List (Bool × List Int)} {i : Int} {nb : Bool} {bids : List Int} : (xss.map row).set i.toNat (.sl nb 1 (bids.map int)) = (told xss i nb bids).map row := by
  unfold told; rw [List.map_set]; rfl
theorem told_len {xss : List (Bool × List Int)} {i : Int} {nb : Bool} {bids : List Int} : (told xss i nb bids).length = xss.length := by simp [told]
theorem told_wid {xss : List (Bool × List Int)} {i : Int} {nb : Bool} {bids : List Int} (h0 : 0 < xss.length) (h : bids.length = wid xss) : wid (told xss i nb bids) = wid xss := by
  cases xss with
  | nil => simp at h0
  | cons r l =>
    unfold told
    cases i.toNat with
    | zero => simpa [wid] using h
    | succ j => simp [wid]

noncomputable def gainV (xss : List (Bool × List Int)) (i : Int) (T : List (Bool × List Int)) : Int :=
  if 0 ≤ (bA T).getD i.toNat 0 then IntKind.i64.wrap (IntKind.i64.wrap (0 - (payA T).getD i.toNat 0) + ent xss i.toNat ((bA T).getD i.toNat 0)) else IntKind.i64.wrap (0 - (payA T).getD i.toNat 0)
noncomputable def gainB (xss : List (Bool × List Int)) (i : Int) (nb : Bool) (bids : List Int) : Bool := rectB xss 4 4 1000 && decide (0 ≤ i) && decide (i < xss.length) && decide (bids.length = wid xss) && rectB (told xss i nb bids) 4 4 1000
noncomputable def gainI (xss : List (Bool × List Int)) (i : Int) (nb : Bool) (bids : List Int) : Int := if gainB xss i nb bids = true then gainV xss i (told xss i nb bids) else 0

noncomputable def mGainW : List AV → Option AV := mk (fun p => plain p.2.1) (fun (p : Bool × List (Bool × List Int) × Int × Bool × List Int) => [intss p.1 p.2.1, int p.2.2.1, ints p.2.2.2.1 p.2.2.2.2]) (fun p => .tup [int (gainI p.2.1 p.2.2.1 p.2.2.2.1 p.2.2.2.2), bool (gainB p.2.1 p.2.2.1 p.2.2.2.1 p.2.2.2.2)])
theorem mGainW_at (nl : Bool) (xss : List (Bool × List Int)) (i : Int) (nb : Bool) (bids : List Int) (h : plain xss) : mGainW [.sl nl 1 (xss.map row), .v (.int .i64 i), .sl nb 1 (bids.map int)] = some (.tup [.v (.int .i64 (gainI xss i nb bids)), .v (.bool (gainB xss i nb bids))]) :=
  mk_eq (enc := fun (p : Bool × List (Bool × List Int) × Int × Bool × List Int) => [intss p.1 p.2.1, int p.2.2.1, ints p.2.2.2.1 p.2.2.2.2]) (x := (nl, xss, i, nb, bids)) (by rintro ⟨a, b, c, d, e⟩ ⟨f, g, h, i, j⟩ hh; simp [intss, ints, int, map_row_inj, map_int_inj] at hh; simp [hh]) h

/-- The prices behind the first k bidders. -/
def prTo (w : Nat) (aw pay : List Int) : Nat → List Int
  | 0 => List.replicate w 0
  | k + 1 => if 0 ≤ aw.getD k 0 then (prTo w aw pay k).set (aw.getD k 0).toNat (pay.getD k 0) else prTo w aw pay k
theorem prTo_len {w : Nat} {aw pay : List Int} : ∀ {k : Nat}, (prTo w aw pay k).length = w
  | 0 => by simp [prTo]
  | k + 1 => by simp only [prTo]; split <;> simp [prTo_len]
noncomputable def prA (xss : List (Bool × List Int)) : List Int := if rectB xss 4 4 1000 = true then prTo (wid xss) (bA xss) (payA xss) xss.length else []

noncomputable def mPrices : List AV → Option AV := mk (fun _ => True) (fun (p : (Bool) × (List (Bool × List Int))) => [intss p.1 p.2]) (fun p => .sl (!rectB p.2 4 4 1000) 1 ((prA p.2).map int))
theorem mPrices_at (nl : Bool) (xss : List (Bool × List Int)) : mPrices [.sl nl 1 (xss.map row)] = some (.sl (!rectB xss 4 4 1000) 1 ((prA xss).map int)) :=
  mk_eq (enc := fun (p : (Bool) × (List (Bool × List Int))) => [intss p.1 p.2]) (x := (nl, xss)) (by rintro ⟨a0, a1⟩ ⟨b0, b1⟩ h; simp [ints, intss, int, bool, row, frac, fracs, map_int_inj, map_row_inj, frac_inj, map_frac_inj] at h; simp [h]) trivial

noncomputable def prP (xss : List (Bool × List Int)) : Bool × List Int := (!rectB xss 4 4 1000, prA xss)
theorem prP_at (nl : Bool) (xss : List (Bool × List Int)) : mPrices [.sl nl 1 (xss.map row)] = some (.sl (prP xss).1 1 ((prP xss).2.map int)) := mPrices_at nl xss
theorem prP_len {xss : List (Bool × List Int)} : (prP xss).2.length ≤ 2 ^ 40 := by
  simp only [prP, prA]
  cases h : rectB xss 4 4 1000 with
  | false => simp
  | true => simp only [if_true, prTo_len]; have := rect_len h; omega

end Go.Proofs.Ytlkgppincgpfjaa.Ax

/-
  Contracts: slices.Repeat of one fraction, a table of zeros (the reference). No condition.
-/
namespace Go.Proofs.Ytlkgppincgpfjaa.Ax
open Go Go.RowKit
set_option linter.unusedSimpArgs false

def repF (x : Int × Int) (n m : Nat) : List AV := List.replicate m (frac x) ++ List.replicate (n - m) (frac (0, 0))
theorem repF_len {x : Int × Int} {n m : Nat} (h : m ≤ n) : (repF x n m).length = n := by simp [repF]; omega
theorem repF_scal {x : Int × Int} {n m : Nat} : allS (repF x n m) = true := by
  rw [allS, List.all_eq_true]
  intro e he
  simp only [repF, List.mem_append, List.mem_replicate] at he
  rcases he with ⟨_, rfl⟩ | ⟨_, rfl⟩ <;> rfl
theorem repF_step {x : Int × Int} {n m k : Nat} (hk : k ≤ m) : (repF x n m).take m ++ (viewEs (repF x n m) 0 m).take k ++ (repF x n m).drop (m + k) = repF x n (m + k) := by
  have e1 : (repF x n m).take m = List.replicate m (frac x) := by simp [repF]
  have e2 : viewEs (repF x n m) 0 m = List.replicate m (frac x) := by simp [viewEs, e1]
  have e3 : (repF x n m).drop (m + k) = List.replicate (n - (m + k)) (frac (0, 0)) := by
    simp [repF, List.drop_append]; omega
  rw [e1, e2, e3, List.take_replicate, Nat.min_eq_left hk]
  simp [repF, List.replicate_append_replicate]

noncomputable def mRepeatF : List AV → Option AV := mk (fun p => p.2.2 ≤ 1000) (fun (p : Bool × (Int × Int) × Nat) => [fracs p.1 [p.2.1], int (p.2.2 : Int)]) (fun p => fracs false (List.replicate p.2.2 p.2.1))
theorem mRepeatF_at (nl : Bool) (x : Int × Int) (n : Nat) (h : n ≤ 1000) : mRepeatF [.sl nl 2 [.agg [.v (.int .i64 x.1), .v (.int .i64 x.2)]], .v (.int .i64 (n : Int))] = some (.sl false 2 ((List.replicate n x).map frac)) :=
  mk_eq (enc := fun (p : Bool × (Int × Int) × Nat) => [fracs p.1 [p.2.1], int (p.2.2 : Int)]) (x := (nl, x, n)) (by
    rintro ⟨a, b, c⟩ ⟨d, e, f⟩ h
    simp [fracs, int, frac_inj] at h
    obtain ⟨⟨_, rfl⟩, h⟩ := h
    simp only
    rw [show c = f by omega]) h

noncomputable def mZeroT : List AV → Option AV := mk (fun p => 0 ≤ p ∧ p ≤ 1000) (fun (p : (Int)) => [int p]) (fun p => .sl false 1 ((List.replicate p.toNat ((false, List.replicate p.toNat (0, 1)) : Bool × List (Int × Int))).map frow))
theorem mZeroT_at (n : Int) (hpre : 0 ≤ n ∧ n ≤ 1000) : mZeroT [.v (.int .i64 n)] = some (.sl false 1 ((List.replicate n.toNat ((false, List.replicate n.toNat (0, 1)) : Bool × List (Int × Int))).map frow)) :=
  mk_eq (enc := fun (p : (Int)) => [int p]) (x := (n)) (by rintro a0 b0 h; simp [ints, intss, int, bool, row, frac, fracs, map_int_inj, map_row_inj, frac_inj, map_frac_inj] at h; simp [h]) hpre
set_option maxHeartbeats 2000000 in
theorem l29Empty_ok : FnOk Try.prog 46 mZeroT := by
  refine mk_ok fun n ⟨h0, h1⟩ => ?_
  obtain ⟨m, rfl⟩ : ∃ m : Nat, n = m := ⟨n.toNat, by omega⟩
  simp only [Int.toNat_natCast]
  have hG : FnsOk Try.prog [] := .nil
  refine callOk_awp (ctx_ok eqOk hG) mixed (live := [true, false, true, true, true, true, true, false, false, false, true, false, false, false, false, false, true]) (dt := []) Try.func46 rfl (by kernel_rfl) (by kernel_rfl) fun w0 hlens => ?_
  clear hlens
  simp (config := {contextual := true}) [Try.f46, List.range, List.range.loop, ints, intss, int, bool, row, frac, fracs, ← List.map_take, ← List.map_drop]
  refine awp_range (live := [true, false, true, true, true, true, true, false, false, false, true, false, false, false, false, false, true]) (ctx_ok eqOk hG) mixed [true, false, false, true, true] (m) (fun k => True) (fun k => ⟨[int (m : Int), .junk, .junk, .ref 0 [] 0 k, int k, .junk, .junk, .junk, .junk, .junk, .junk, .junk, .junk, .junk, .junk, .junk, .junk, .junk, .junk, .junk, .junk, .junk, .junk, .junk, .junk, .junk, .junk, .junk], [⟨true, .sl false 1 ((List.replicate k ((false, List.replicate m (0, 1)) : Bool × List (Int × Int))).map frow)⟩]⟩) ?_ (by simp [sub, slotsLe, clean, keep, refsL, refs, once, place, renL, ren, List.replicate, int, bool]) ?_ ?_ ?_
  · omega
  · trivial
  · intro k hk _ hwk
    have hb : k + 1 ≤ 4611686018427387904 ∧ (k + 1) * 24 ≤ 140737488355328 ∧ (k + 1) * 16 ≤ 140737488355328 ∧ (k + 1) * 8 ≤ 140737488355328 := by omega
    simp (config := {contextual := true}) [List.range, List.range.loop, ints, intss, int, bool, row, frac, fracs, ← List.map_take, ← List.map_drop, hk]
    refine awp_range (live := [true, false, true, true, true, true, true, false, false, false, true, false, false, false, false, false, true]) (ctx_ok eqOk hG) mixed [true, false, false, true, true, true, true] (m) (fun j => True) (fun j => ⟨[int (m : Int), .junk, .junk, .ref 0 [] 0 k, int k, .ref 1 [] 0 j, int j, .junk, .junk, .junk, .junk, .junk, .junk, .junk, .junk, .junk, .junk, .junk, .junk, .junk, .junk, .junk, .junk, .junk, .junk, .junk, .junk, .junk], [⟨true, .sl false 1 ((List.replicate k ((false, List.replicate m (0, 1)) : Bool × List (Int × Int))).map frow)⟩, ⟨true, .sl false 2 ((List.replicate j ((0, 1) : Int × Int)).map frac)⟩]⟩) ?_ (by simp [sub, slotsLe, clean, keep, refsL, refs, once, place, renL, ren, List.replicate, int, bool]) ?_ ?_ ?_
    · omega
    · trivial
    · intro j hj _ hwj
      have hb : j + 1 ≤ 4611686018427387904 ∧ (j + 1) * 24 ≤ 140737488355328 ∧ (j + 1) * 16 ≤ 140737488355328 ∧ (j + 1) * 8 ≤ 140737488355328 := by omega
      simp (config := {contextual := true}) [List.range, List.range.loop, ints, intss, int, bool, row, frac, fracs, ← List.map_take, ← List.map_drop, hj, hwj, hb, List.replicate_succ']
      done
    · intro _
      simp (config := {contextual := true}) [List.range, List.range.loop, ints, intss, int, bool, row, frac, fracs, ← List.map_take, ← List.map_drop, hwk, hb, List.replicate_succ', frow]
      done
  · intro _
    simp (config := {contextual := true}) [List.range, List.range.loop, ints, intss, int, bool, row, frac, fracs, ← List.map_take, ← List.map_drop, frow]
    done

end Go.Proofs.Ytlkgppincgpfjaa.Ax

/-
  Contracts: HousesOk (both programs). No condition.
-/
namespace Go.Proofs.Ytlkgppincgpfjaa.Ax
open Go Go.RowKit
set_option linter.unusedSimpArgs false

def ranksB (m : Int) (xss : List (Bool × List Int)) : Bool := xss.all fun r => rankB m r.2
noncomputable def mAreR : List AV → Option AV := mk (fun _ => True) (fun (p : (Int) × (Bool) × (List (Bool × List Int))) => [int p.1, intss p.2.1 p.2.2]) (fun p => bool (ranksB p.1 p.2.2))
theorem mAreR_at (m : Int) (nl : Bool) (xss : List (Bool × List Int)) : mAreR [.v (.int .i64 m), .sl nl 1 (xss.map row)] = some (.v (.bool (ranksB m xss))) :=
  mk_eq (enc := fun (p : (Int) × (Bool) × (List (Bool × List Int))) => [int p.1, intss p.2.1 p.2.2]) (x := (m, nl, xss)) (by rintro ⟨a0, a1, a2⟩ ⟨b0, b1, b2⟩ h; simp [ints, intss, int, bool, row, frac, fracs, map_int_inj, map_row_inj, frac_inj, map_frac_inj] at h; simp [h]) trivial
noncomputable def mL17 : List AV → Option AV := mk (fun _ => True) (fun (p : (Bool) × (List (Bool × List Int)) × (Int)) => [intss p.1 p.2.1, int p.2.2]) (fun p => bool (decide ((p.2.1.length : Int) = p.2.2) && ranksB p.2.2 p.2.1))
theorem mL17_at (nl : Bool) (xss : List (Bool × List Int)) (m : Int) : mL17 [.sl nl 1 (xss.map row), .v (.int .i64 m)] = some (.v (.bool (decide ((xss.length : Int) = m) && ranksB m xss))) :=
  mk_eq (enc := fun (p : (Bool) × (List (Bool × List Int)) × (Int)) => [intss p.1 p.2.1, int p.2.2]) (x := (nl, xss, m)) (by rintro ⟨a0, a1, a2⟩ ⟨b0, b1, b2⟩ h; simp [ints, intss, int, bool, row, frac, fracs, map_int_inj, map_row_inj, frac_inj, map_frac_inj] at h; simp [h]) trivial

theorem areRankings1 (m : Int) (r : Bool × List Int) : CallOk Try.prog 70 [row r, .fp (int m) 0] (.v (.bool (!rankB m r.2))) := by
  have hG : FnsOk Try.prog [(55, mRank)] := (.cons implRankingOk_ok .nil)
  refine callOk_awp (ctx_ok eqOk hG) mixed (live := [true, true, false, true]) (dt := []) Try.func70 rfl (by kernel_rfl) (by kernel_rfl) fun w0 hlens => ?_
  simp (config := {contextual := true}) [Try.f70, List.range, List.range.loop, ints, intss, int, bool, row, frac, fracs, ← List.map_take, ← List.map_drop, mRank_at]

set_option maxHeartbeats 1000000 in
theorem areRankings_ok : FnOk Try.prog 51 mAreR := by
  refine mk_ok fun ⟨m, nl, xss⟩ _ => ?_
  obtain ⟨mm, hm, hma⟩ := as_model (containsIntss (g := 70) (pure_fp (a := int m) (j := 0) pure_nil) (fun r => !rankB m r.2) nl xss (fun x _ => areRankings1 m x))
  simp only [intss, int, bool] at hma
  have hnn := not_any_not (p := fun r : Bool × List Int => rankB m r.2) (xs := xss)
  have hs : ranksB m xss = !(xss.any fun r => !rankB m r.2) := by unfold ranksB; rw [← hnn]
  rw [hs]
  generalize xss.any (fun r => !rankB m r.2) = bb at hma hnn
  have hG : FnsOk Try.prog [(69, mm)] := (.cons hm .nil)
  refine callOk_awp (ctx_ok eqOk hG) mixed (live := [true, true, true, false, true]) (dt := []) Try.func51 rfl (by kernel_rfl) (by kernel_rfl) fun w0 hlens => ?_
  simp (config := {contextual := true}) [Try.f51, List.range, List.range.loop, ints, intss, int, bool, row, frac, fracs, ← List.map_take, ← List.map_drop, hma]

def ranksAt (m : Int) (xss : List (Bool × List Int)) (k : Nat) : Bool := rankB m (xss.getD k (true, [])).2
theorem ranksAt_at {m : Int} {xss : List (Bool × List Int)} {k : Nat} (h : k < xss.length) : ranksAt m xss k = rankB m xss[k].2 := by unfold ranksAt; simp [List.getD_eq_getElem?_getD, h]
theorem ranks_allR {m : Int} {xss : List (Bool × List Int)} : ranksB m xss = allR xss.length (ranksAt m xss) := by
  unfold ranksB allR
  rw [Bool.eq_iff_iff]; simp only [List.all_eq_true, List.mem_range]
  constructor
  · intro h i hi
    rw [ranksAt_at hi]; exact h _ (List.getElem_mem _)
  · intro h x hx
    obtain ⟨i, hi, rfl⟩ := List.getElem_of_mem hx
    have := h i hi
    rwa [ranksAt_at hi] at this

set_option maxHeartbeats 2000000 in
theorem l17Lists_ok : FnOk Try.prog 42 mL17 := by
  refine mk_ok fun ⟨nl, xss, m⟩ _ => ?_
  have hG : FnsOk Try.prog [(44, mRank)] := (.cons specRankingOk_ok .nil)
  refine callOk_awp (ctx_ok eqOk hG) mixed (live := [true, true, false, false, true, false, true, false, false, false, true, true, true, true, true, false, false, false, false, false, true]) (dt := []) Try.func42 rfl (by kernel_rfl) (by kernel_rfl) fun w0 hlens => ?_
  have hll := (lens_intss.1 hlens.1).1.1
  clear hlens
  by_cases h1 : (xss.length : Int) = m
  rotate_left
  · have h1' : ((xss.length : Int) != m) = true := by simpa using h1
    simp (config := {contextual := true}) [Try.f42, List.range, List.range.loop, ints, intss, int, bool, row, frac, fracs, ← List.map_take, ← List.map_drop, h1, h1']
  have hm : (decide ((xss.length : Int) = m) && ranksB m xss) = allR xss.length (ranksAt m xss) := by simp [h1, ranks_allR]
  generalize (decide ((xss.length : Int) = m) && ranksB m xss) = r at *
  simp (config := {contextual := true}) [Try.f42, List.range, List.range.loop, ints, intss, int, bool, row, frac, fracs, ← List.map_take, ← List.map_drop, h1]
  refine awp_range (live := [true, true, false, false, true, false, true, false, false, false, true, true, true, true, true, false, false, false, false, false, true]) (ctx_ok eqOk hG) mixed [false, true, false, false, false, false, false, false, false, false, false, true, true, true] (xss.length) (fun k => upto (ranksAt m xss) k) (fun k => ⟨[.junk, int m, .junk, .junk, .junk, .junk, .junk, .junk, .junk, .junk, .junk, intss nl xss, int xss.length, int k, .junk, .junk, .junk, .junk, .junk, .junk, .junk, .junk], []⟩) ?_ (by simp [sub, slotsLe, clean, keep, refsL, refs, once, place, renL, ren, List.replicate, int, bool, intss, h1]) ?_ ?_ ?_
  · exact hll
  · exact upto_zero
  · intro k h hp hwk
    have hf : ranksAt m xss k = false → r = false := fun hf => by rw [hm, allR_no h hf]
    have ht := upto_succ hp
    rw [ranksAt_at h] at hf ht
    cases hi : rankB m xss[k].2 with
    | false => rw [hf hi]; simp (config := {contextual := true}) [List.range, List.range.loop, ints, intss, int, bool, row, frac, fracs, ← List.map_take, ← List.map_drop, h, hwk, mRank_at, hi]
    | true => simp (config := {contextual := true}) [List.range, List.range.loop, ints, intss, int, bool, row, frac, fracs, ← List.map_take, ← List.map_drop, h, hwk, mRank_at, hi, ht hi]
  · intro hp
    rw [allR_yes hp] at hm
    subst hm
    simp (config := {contextual := true}) [List.range, List.range.loop, ints, intss, int, bool, row, frac, fracs, ← List.map_take, ← List.map_drop]

def housesB (xss : List (Bool × List Int)) : Bool := inR 1 5 xss.length && ranksB xss.length xss
noncomputable def mHouses : List AV → Option AV := mk (fun _ => True) (fun (p : (Bool) × (List (Bool × List Int))) => [intss p.1 p.2]) (fun p => bool (housesB p.2))
theorem mHouses_at (nl : Bool) (xss : List (Bool × List Int)) : mHouses [.sl nl 1 (xss.map row)] = some (.v (.bool (housesB xss))) :=
  mk_eq (enc := fun (p : (Bool) × (List (Bool × List Int))) => [intss p.1 p.2]) (x := (nl, xss)) (by rintro ⟨a0, a1⟩ ⟨b0, b1⟩ h; simp [ints, intss, int, bool, row, frac, fracs, map_int_inj, map_row_inj, frac_inj, map_frac_inj] at h; simp [h]) trivial
set_option maxHeartbeats 1000000 in
theorem implHouses_ok : FnOk Try.prog 25 mHouses := by
  refine mk_ok fun ⟨nl, xss⟩ _ => ?_
  have hG : FnsOk Try.prog [(50, mWithin), (51, mAreR)] := (.cons within_ok (.cons areRankings_ok .nil))
  refine callOk_awp (ctx_ok eqOk hG) mixed (live := [true, false, true]) (dt := []) Try.func25 rfl (by kernel_rfl) (by kernel_rfl) fun w0 hlens => ?_
  cases h1 : inR 1 5 xss.length <;> simp (config := {contextual := true}) [Try.f25, List.range, List.range.loop, ints, intss, int, bool, row, frac, fracs, ← List.map_take, ← List.map_drop, mWithin_in, mAreR_at, mL17_at, h1, housesB]

set_option maxHeartbeats 1000000 in
theorem specHouses_ok : FnOk Try.prog 20 mHouses := by
  refine mk_ok fun ⟨nl, xss⟩ _ => ?_
  have hG : FnsOk Try.prog [(41, mWithin), (42, mL17)] := (.cons l01In_ok (.cons l17Lists_ok .nil))
  refine callOk_awp (ctx_ok eqOk hG) mixed (live := [true, false, true]) (dt := []) Try.func20 rfl (by kernel_rfl) (by kernel_rfl) fun w0 hlens => ?_
  cases h1 : inR 1 5 xss.length <;> simp (config := {contextual := true}) [Try.f20, List.range, List.range.loop, ints, intss, int, bool, row, frac, fracs, ← List.map_take, ← List.map_drop, mWithin_in, mAreR_at, mL17_at, h1, housesB]

end Go.Proofs.Ytlkgppincgpfjaa.Ax
