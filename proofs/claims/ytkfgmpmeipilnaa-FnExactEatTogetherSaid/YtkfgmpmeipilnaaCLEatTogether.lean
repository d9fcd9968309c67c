/-
  FnExactEatTogether: the two programs answer alike and the arguments read as they did. No condition.
-/
import Derived.Test.YtkfgmpmeipilnaaCG12
import Derived.Test.YtkfgmpmeipilnaaCG13
import Derived.Test.YtkfgmpmeipilnaaCG2
namespace Go.Proofs.Ytkfgmpmeipilnaa.Ax
open Go Go.RowKit
set_option linter.unusedSimpArgs false

theorem rowSumF_le {xss : List (Bool × List (Int × Int))} (h : ∀ i (hi : i < xss.length), xss[i].2.length ≤ 5) : ∀ {k : Nat}, k ≤ xss.length → rowSumF xss k ≤ 5 * k
  | 0, _ => by simp [rowSumF_zero]
  | k + 1, hk => by
    rw [rowSumF_succ hk]
    have := rowSumF_le h (k := k) (by omega)
    have := h k hk
    omega
theorem eatT_need (xss : List (Bool × List Int)) : needF (eatT xss) ≤ 100 := by
  unfold eatT
  by_cases he : eatB xss = true
  · rw [if_pos he]
    simp only [eatB, Bool.and_eq_true, decide_eq_true_eq] at he
    have h := hs_of he.1 he.2
    have hn := h.n4
    obtain ⟨k, _, hs⟩ := es_ok h xss.length
    have hl : (ft (es xss xss.length).D (es xss xss.length).out).length = xss.length := by rw [ft_len, hs.ol]
    have := rowSumF_le (xss := ft (es xss xss.length).D (es xss xss.length).out) (fun i hi => by
      have hi' : i < (es xss xss.length).out.length := by rw [ft_len] at hi; exact hi
      rw [ft_get hi]
      simp only [fl_len]
      have e : (es xss xss.length).out.getD i [] = (es xss xss.length).out[i] := by simp [List.getD_eq_getElem?_getD, hi']
      rw [e, hs.or i hi']; omega) (Nat.le_refl _)
    unfold needF
    omega
  · rw [if_neg he]; simp [needF, rowSumF]

set_option maxRecDepth 8000 in
set_option maxHeartbeats 2000000 in
theorem law_EatTogether (n0 : Bool) (x0 : List (Bool × List Int)) : CallOk Try.prog 3 [intss n0 x0] (bool true) := by
  have hG : FnsOk Try.prog [(10, mSzIss), (12, mToIss), (11, mEat), (13, mEat), (14, mEqFss), (15, mEqIss), (18, mHeldFF)] := (.cons szIntSS_ok (.cons toIntSS_ok (.cons specEatTogether_ok (.cons implEatTogether_ok (.cons eqFractionSS_ok (.cons eqIntSS_ok (.cons heldFractionSS_ok .nil)))))))
  have hM : FnsMut Try.prog [(16, mMarkII), (17, mMarkFF)] := (.cons markIntSS_ok (.cons markFractionSS_ok .nil))
  refine callOk_awp (ctxM_ok eqOk hG hM) mixed (live := [true, false, true, true, true, true, true, true, true, true, true, true, true, true, false, false, false, false, true, false, false, false, false, false, false, false, false, false, false, false, false, false, false, false, false, false, false, false, false, false, true, false, false, false, false, true, false, false, false, false, false, false, false, false, false, false, false, false, false, false, false, true, false, false, false, false, false, false, false, true, false, false, true, false, false, false, false, false, false, false, false, false, false, false, false, false, false, true, false, false, false, false, true, false, false, true]) (dt := []) Try.func3 rfl (by kernel_rfl) (by kernel_rfl) fun w0 hlens => ?_
  have l0 := lens_intss.1 hlens.1
  have z0 := mSzIss_at n0 x0 (1048576) (by omega) (fun x hx => by have := (l0.2 x hx).1; omega) (by omega) (by omega)
  by_cases h0 : (1048576 : Int) < (need x0 : Int)
  · simp [h0] at z0
    simp [Try.f3, List.range, List.range.loop, ints, intss, int, bool, row, frac, fracs, ← List.map_take, ← List.map_drop, List.eraseIdx, z0]
  have t0 : ¬ ((1048576 : Int) - (need x0 : Int)) < 0 := by omega
  have s0 := need_small (xss := x0) (by omega)
  have o0 := own_small s0
  simp [h0] at z0
  have mo0 := need_own (xss := x0)
  have mr0 : (rowSum (own x0) (own x0).length : Int) ≤ need (own x0) := by simp only [need]; omega
  have mk0 := mMarkII_at false (own x0) (1) ⟨by omega, by omega⟩
  have nk : ¬ (1 + (rowSum (own x0) (own x0).length : Int) < 0) := by omega
  have hres := mEat_at false (own x0)
  have hlr := eatT_need (own x0)
  generalize eatB (own x0) = gb at hres
  generalize (!gb) = gn at hres
  generalize eatT (own x0) = g2 at hres hlr
  have hsm := needF_small (xss := g2) (by omega)
  have mkg := mMarkFF_at gn g2 1 ⟨by omega, by omega⟩
  have hdg := mHeldFF_at gn g2 1 ⟨by omega, by omega⟩
  have ng : ¬ (1 + 2 * (rowSumF g2 g2.length : Int) < 0) := by omega
  simp (config := {maxSteps := 1000000}) [Try.f3, List.range, List.range.loop, ints, intss, int, bool, row, frac, fracs, ← List.map_take, ← List.map_drop, List.eraseIdx, fracss, z0, t0, s0, o0, mToIss_at, mEqIss_at, mk0, nk, ng, hres, mkg, hdg, mEqFss_at, hsm, mkd_len, mkRS_len, mkd_take, mkRS_take, mkRSF_len, mkRSF_take]

end Go.Proofs.Ytkfgmpmeipilnaa.Ax
