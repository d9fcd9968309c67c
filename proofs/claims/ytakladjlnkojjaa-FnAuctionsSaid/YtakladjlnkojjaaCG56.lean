/-
  Contracts: the best award (the reference's search). No condition.
-/
import Derived.Test.YtakladjlnkojjaaCG55
import Derived.Test.YtakladjlnkojjaaCK4
namespace Go.Proofs.Ytakladjlnkojjaa.Ax
open Go Go.RowKit
set_option linter.unusedSimpArgs false

/-- What the search from the front is asked. -/
def LB (xss : List (Bool × List Int)) (l : List Int) (wo : Int) (r : Nat) : Prop := rectB xss 4 4 1000 = true ∧ -1 ≤ wo ∧ l.length + r = xss.length ∧ okP wo l = true ∧ ∀ x ∈ l, -1 ≤ x ∧ x ≤ (wid xss : Int) - 1

noncomputable def bs (xss : List (Bool × List Int)) (wo : Int) (r : Nat) (l : List Int) : Option (List Int) := bestS (wAw xss) (skP wo) (-1) (wid xss + 1) r l

theorem bs_eq {xss : List (Bool × List Int)} {l : List Int} {wo : Int} {r : Nat} (h : LB xss l wo r) : bs xss wo r l = bestO (wAw xss) (okP wo) ((allL (-1) ((wid xss : Int) - 1) r).map (l ++ ·)) := by
  have := bestS_eq (W := wAw xss) (ok := okP wo) (sk := skP wo) (low := -1) (high := (wid xss : Int) - 1) (n := xss.length) (by omega) (fun l x m _ _ hs => okP_skip hs) (fun l x h _ hs => okP_keep h hs) r l h.2.2.2.1 h.2.2.1
  rw [← this]
  unfold bs
  congr 1; omega

theorem lb_pre {xss : List (Bool × List Int)} (h : rectB xss 4 4 1000 = true) {l : List Int} (hl : l.length ≤ xss.length) (hr : ∀ x ∈ l, -1 ≤ x ∧ x ≤ (wid xss : Int) - 1) : l.length ≤ xss.length ∧ ∀ i, i < l.length → l.getD i 0 < ((xss.getD i (true, [])).2.length : Int) := by
  refine ⟨hl, fun i hi => ?_⟩
  have := (hr _ (List.getElem_mem hi)).2
  have hr := (rect_row h (i := i) (by omega)).1
  rw [getD_at hi, List.getD_eq_getElem?_getD, List.getElem?_eq_getElem (by omega)]
  simp only [Option.getD_some]; omega

/-- The first number of the range is never passed over: something is found. -/
theorem bs_some {xss : List (Bool × List Int)} {wo : Int} : ∀ (r : Nat) (l : List Int), ∃ l', bs xss wo r l = some l'
  | 0, l => ⟨l, rfl⟩
  | r + 1, l => by
    obtain ⟨l1, h1⟩ := bs_some r (l ++ [-1])
    unfold bs at h1 ⊢
    simp only [bestS]
    rw [List.range_succ_eq_map, List.foldl_cons]
    have hs : skP wo l (-1 + ((0 : Nat) : Int)) = false := by simp [skP]
    rw [hs]
    simp only [Bool.false_eq_true, if_false]
    have h1' : bestS (wAw xss) (skP wo) (-1) (wid xss + 1) r (l ++ [-1 + ((0 : Nat) : Int)]) = some l1 := h1
    rw [h1']
    have key : ∀ (L : List Nat) (g : Option (List Int) → Nat → Option (List Int)) (a : List Int), (∀ a i, ∃ b, g (some a) i = some b) → ∃ b, L.foldl g (some a) = some b := by
      intro L
      induction L with
      | nil => intro g a _; exact ⟨a, rfl⟩
      | cons i L ih =>
        intro g a hg
        obtain ⟨b, hb⟩ := hg a i
        rw [List.foldl_cons, hb]; exact ih g b hg
    refine key _ _ l1 fun a i => ?_
    split
    · exact ⟨a, rfl⟩
    · cases bestS (wAw xss) (skP wo) (-1) (wid xss + 1) r (l ++ [-1 + (i : Int)]) with
      | none => exact ⟨a, rfl⟩
      | some b => simp only [comb]; split <;> exact ⟨_, rfl⟩

theorem bs_mem {xss : List (Bool × List Int)} {l : List Int} {wo : Int} {r : Nat} (h : LB xss l wo r) {l' : List Int} (hl : bs xss wo r l = some l') : l'.length = xss.length ∧ (∀ x ∈ l', -1 ≤ x ∧ x ≤ (wid xss : Int) - 1) ∧ okP wo l' = true := by
  rw [bs_eq h] at hl
  obtain ⟨h1, h2⟩ := bestO_mem hl
  obtain ⟨l2, h3, rfl⟩ := List.mem_map.1 h1
  obtain ⟨h4, h5⟩ := allL_mem h3
  refine ⟨by rw [List.length_append, h4]; exact h.2.2.1, fun x hx => ?_, h2⟩
  rcases List.mem_append.1 hx with hx | hx
  · exact h.2.2.2.2 x hx
  · exact h5 x hx

theorem LB.step {xss : List (Bool × List Int)} {l : List Int} {wo : Int} {r : Nat} (h : LB xss l wo (r + 1)) {x : Int} (hx : -1 ≤ x ∧ x ≤ (wid xss : Int) - 1) (hs : skP wo l x = false) : LB xss (l ++ [x]) wo r := by
  obtain ⟨h1, h2, h3, h4, h5⟩ := h
  refine ⟨h1, h2, by simp; omega, okP_keep h4 hs, fun y hy => ?_⟩
  rcases List.mem_append.1 hy with hy | hy
  · exact h5 y hy
  · simp at hy; subst hy; exact hx

noncomputable def mLB (r : Nat) : List AV → Option (List Nat × AV) := mkV (fun p => LB p.2.1 p.2.2.1 p.2.2.2 r) (fun (p : Bool × List (Bool × List Int) × List Int × Int) => [intss p.1 p.2.1, ints false p.2.2.1, int p.2.2.2]) [1] (fun p => ints false ((bs p.2.1 p.2.2.2 r p.2.2.1).getD []))
theorem mLB_at (r : Nat) (nl : Bool) (xss : List (Bool × List Int)) (l : List Int) (wo : Int) (h : LB xss l wo r) : mLB r [.sl nl 1 (xss.map row), .sl false 1 (l.map int), .v (.int .i64 wo)] = some ([1], .sl false 1 (((bs xss wo r l).getD []).map int)) :=
  mkV_eq (enc := fun (p : Bool × List (Bool × List Int) × List Int × Int) => [intss p.1 p.2.1, ints false p.2.2.1, int p.2.2.2]) (x := (nl, xss, l, wo)) (by rintro ⟨a, b, c, d⟩ ⟨e, f, g, h'⟩ h; simp [intss, ints, int, map_row_inj, map_int_inj] at h; simp [h]) h

/-- The best so far. -/
noncomputable def bsTo (xss : List (Bool × List Int)) (wo : Int) (r : Nat) (l : List Int) (k : Nat) : Option (List Int) :=
  (List.range k).foldl (fun o (i : Nat) => if skP wo l (-1 + (i : Int)) = true then o else comb (wAw xss) o (bs xss wo r (l ++ [-1 + (i : Int)]))) none
theorem bsTo_succ {xss : List (Bool × List Int)} {wo : Int} {r : Nat} {l : List Int} {k : Nat} : bsTo xss wo r l (k + 1) = if skP wo l (-1 + (k : Int)) = true then bsTo xss wo r l k else comb (wAw xss) (bsTo xss wo r l k) (bs xss wo r (l ++ [-1 + (k : Int)])) := by
  unfold bsTo
  rw [List.range_succ, List.foldl_append]; rfl
theorem bsTo_all {xss : List (Bool × List Int)} {wo : Int} {r : Nat} {l : List Int} : bsTo xss wo r l (wid xss + 1) = bs xss wo (r + 1) l := rfl
theorem bsTo_mem {xss : List (Bool × List Int)} {l : List Int} {wo : Int} {r : Nat} (h : LB xss l wo (r + 1)) : ∀ {k : Nat}, k ≤ wid xss + 1 → ∀ {b : List Int}, bsTo xss wo r l k = some b → b.length = xss.length ∧ ∀ x ∈ b, -1 ≤ x ∧ x ≤ (wid xss : Int) - 1
  | 0, _, b, hb => by simp [bsTo] at hb
  | k + 1, hk, b, hb => by
    rw [bsTo_succ] at hb
    split at hb
    · exact bsTo_mem h (by omega) hb
    · rename_i hs
      have hs' : skP wo l (-1 + (k : Int)) = false := by simpa using hs
      have hst := h.step (x := -1 + (k : Int)) ⟨by omega, by omega⟩ hs'
      obtain ⟨l1, h1⟩ := bs_some (xss := xss) (wo := wo) r (l ++ [-1 + (k : Int)])
      rw [h1] at hb
      have hm := bs_mem hst h1
      cases ho : bsTo xss wo r l k with
      | none => rw [ho] at hb; simp only [comb, Option.some.injEq] at hb; subst hb; exact ⟨hm.1, hm.2.1⟩
      | some a =>
        rw [ho] at hb
        simp only [comb] at hb
        split at hb
        · simp only [Option.some.injEq] at hb; subst hb; exact ⟨hm.1, hm.2.1⟩
        · simp only [Option.some.injEq] at hb; subst hb; exact bsTo_mem h (by omega) ho

end Go.Proofs.Ytakladjlnkojjaa.Ax
