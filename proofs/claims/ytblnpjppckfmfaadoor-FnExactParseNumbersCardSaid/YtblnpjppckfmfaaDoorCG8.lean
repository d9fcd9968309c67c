/-
  Contracts: SharesOk (both programs). No condition.
-/
import Derived.Test.YtblnpjppckfmfaaDoorCB2
namespace Go.Proofs.YtblnpjppckfmfaaDoor.Ax
open Go Go.RowKit
set_option linter.unusedSimpArgs false

theorem points_facts {xss : List (Bool × List Int)} (h : pointsB xss = true) : xss.length = 2 ∧ rectB xss 2 6 100 = true := by
  by_cases hl : xss.length = 2
  · refine ⟨hl, ?_⟩
    rw [pointsB_rect hl] at h
    simp only [Bool.and_eq_true] at h
    exact h.1
  · rw [pointsB_ne hl] at h; simp at h

/-- A valid fraction from 0 to 1. -/
def partB (f : Int × Int) : Bool := fracOk f && inR 0 f.2 f.1
noncomputable def mPart : List AV → Option AV := mk (fun _ => True) (fun (p : (Int) × (Int)) => [frac (p.1, p.2)]) (fun p => bool (partB (p.1, p.2)))
theorem mPart_at (t : Int) (b : Int) : mPart [.agg [.v (.int .i64 t), .v (.int .i64 b)]] = some (.v (.bool (partB (t, b)))) :=
  mk_eq (enc := fun (p : (Int) × (Int)) => [frac (p.1, p.2)]) (x := (t, b)) (by rintro ⟨a0, a1⟩ ⟨b0, b1⟩ h; simp [ints, intss, int, bool, row, frac, fracs, map_int_inj, map_row_inj, frac_inj, map_frac_inj] at h; simp [h]) trivial

def sharesB (xss : List (Bool × List Int)) (fs : List (Int × Int)) : Bool := pointsB xss && decide (fs.length = wid xss) && fs.all partB

noncomputable def mShares : List AV → Option AV := mk (fun _ => True) (fun (p : (Bool) × (List (Bool × List Int)) × (Bool) × (List (Int × Int))) => [intss p.1 p.2.1, fracs p.2.2.1 p.2.2.2]) (fun p => bool (sharesB p.2.1 p.2.2.2))
theorem mShares_at (nl : Bool) (xss : List (Bool × List Int)) (nl' : Bool) (fs : List (Int × Int)) : mShares [.sl nl 1 (xss.map row), .sl nl' 2 (fs.map frac)] = some (.v (.bool (sharesB xss fs))) :=
  mk_eq (enc := fun (p : (Bool) × (List (Bool × List Int)) × (Bool) × (List (Int × Int))) => [intss p.1 p.2.1, fracs p.2.2.1 p.2.2.2]) (x := (nl, xss, nl', fs)) (by rintro ⟨a0, a1, a2, a3⟩ ⟨b0, b1, b2, b3⟩ h; simp [ints, intss, int, bool, row, frac, fracs, map_int_inj, map_row_inj, frac_inj, map_frac_inj] at h; simp [h]) trivial

theorem all_allF {fs : List (Int × Int)} {p : Int × Int → Bool} : fs.all p = allR fs.length fun i => p (fs.getD i (0, 0)) := by
  unfold allR
  rw [Bool.eq_iff_iff]; simp only [List.all_eq_true, List.mem_range]
  constructor
  · intro h i hi
    have : fs.getD i (0, 0) = fs[i] := by simp [List.getD_eq_getElem?_getD, hi]
    rw [this]; exact h _ (List.getElem_mem _)
  · intro h x hx
    obtain ⟨i, hi, rfl⟩ := List.getElem_of_mem hx
    have := h i hi
    have e : fs.getD i (0, 0) = fs[i] := by simp [List.getD_eq_getElem?_getD, hi]
    rwa [e] at this

end Go.Proofs.YtblnpjppckfmfaaDoor.Ax
