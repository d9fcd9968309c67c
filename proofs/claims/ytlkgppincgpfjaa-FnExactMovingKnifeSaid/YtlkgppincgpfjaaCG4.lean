/-
  Contracts: the worth of an award, what a person's pieces are worth (both programs). No condition.
-/
import Derived.Test.YtlkgppincgpfjaaCB2
namespace Go.Proofs.Ytlkgppincgpfjaa.Ax
open Go Go.RowKit
set_option linter.unusedSimpArgs false

theorem ent_get {xss : List (Bool × List Int)} {i : Nat} (hi : i < xss.length) {k : Int} (hk : k.toNat < xss[i].2.length) : xss[i].2[k.toNat]? = some (ent xss i k) := by
  unfold ent; simp [List.getD_eq_getElem?_getD, hi, hk]

/-- The worth of the first k things of an award. -/
def awTo (xss : List (Bool × List Int)) (aw : List Int) : Nat → Int
  | 0 => 0
  | k + 1 => if 0 ≤ aw.getD k 0 then IntKind.i64.wrap (awTo xss aw k + ent xss k (aw.getD k 0)) else awTo xss aw k

noncomputable def mAwW : List AV → Option AV := mk (fun p => p.2.2.2.length ≤ p.2.1.length ∧ ∀ i, i < p.2.2.2.length → p.2.2.2.getD i 0 < ((p.2.1.getD i (true, [])).2.length : Int)) (fun (p : (Bool) × (List (Bool × List Int)) × (Bool) × (List Int)) => [intss p.1 p.2.1, ints p.2.2.1 p.2.2.2]) (fun p => int (awTo p.2.1 p.2.2.2 p.2.2.2.length))
theorem mAwW_at (nl : Bool) (xss : List (Bool × List Int)) (nl' : Bool) (aw : List Int) (hpre : aw.length ≤ xss.length ∧ ∀ i, i < aw.length → aw.getD i 0 < ((xss.getD i (true, [])).2.length : Int)) : mAwW [.sl nl 1 (xss.map row), .sl nl' 1 (aw.map int)] = some (.v (.int .i64 (awTo xss aw aw.length))) :=
  mk_eq (enc := fun (p : (Bool) × (List (Bool × List Int)) × (Bool) × (List Int)) => [intss p.1 p.2.1, ints p.2.2.1 p.2.2.2]) (x := (nl, xss, nl', aw)) (by rintro ⟨a0, a1, a2, a3⟩ ⟨b0, b1, b2, b3⟩ h; simp [ints, intss, int, bool, row, frac, fracs, map_int_inj, map_row_inj, frac_inj, map_frac_inj] at h; simp [h]) hpre

theorem awW_pre {xss : List (Bool × List Int)} {aw : List Int} (h : awardB xss aw = true) : aw.length ≤ xss.length ∧ ∀ i, i < aw.length → aw.getD i 0 < ((xss.getD i (true, [])).2.length : Int) := by
  simp only [awardB, Bool.and_eq_true, decide_eq_true_eq] at h
  obtain ⟨⟨⟨h1, h2⟩, h3⟩, _⟩ := h
  refine ⟨by omega, fun i hi => ?_⟩
  have := (allIn_at h3 hi).2
  have hr := (rect_row h1 (i := i) (by omega)).1
  rw [getD_at hi, List.getD_eq_getElem?_getD, List.getElem?_eq_getElem (by omega)]
  simp only [Option.getD_some]; omega

noncomputable def mAwWorth : List AV → Option AV := mk (fun _ => True) (fun (p : (Bool) × (List (Bool × List Int)) × (Bool) × (List Int)) => [intss p.1 p.2.1, ints p.2.2.1 p.2.2.2]) (fun p => int (if awardB p.2.1 p.2.2.2 = true then awTo p.2.1 p.2.2.2 p.2.2.2.length else -1))
theorem mAwWorth_at (nl : Bool) (xss : List (Bool × List Int)) (nl' : Bool) (aw : List Int) : mAwWorth [.sl nl 1 (xss.map row), .sl nl' 1 (aw.map int)] = some (.v (.int .i64 (if awardB xss aw = true then awTo xss aw aw.length else -1))) :=
  mk_eq (enc := fun (p : (Bool) × (List (Bool × List Int)) × (Bool) × (List Int)) => [intss p.1 p.2.1, ints p.2.2.1 p.2.2.2]) (x := (nl, xss, nl', aw)) (by rintro ⟨a0, a1, a2, a3⟩ ⟨b0, b1, b2, b3⟩ h; simp [ints, intss, int, bool, row, frac, fracs, map_int_inj, map_row_inj, frac_inj, map_frac_inj] at h; simp [h]) trivial

end Go.Proofs.Ytlkgppincgpfjaa.Ax
