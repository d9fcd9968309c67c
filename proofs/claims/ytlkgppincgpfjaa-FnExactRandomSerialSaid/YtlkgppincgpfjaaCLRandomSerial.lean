/-
  FnExactRandomSerial: the two programs answer alike and the arguments read as they did. No condition.
-/
import Derived.Test.YtlkgppincgpfjaaCG12
import Derived.Test.YtlkgppincgpfjaaCG10
import Derived.Test.YtlkgppincgpfjaaCG3
namespace Go.Proofs.Ytlkgppincgpfjaa.Ax
open Go Go.RowKit
set_option linter.unusedSimpArgs false

theorem mixT_need (ts : List Tk) (n : Int) : needF (mixT ts n) ≤ 100 := by
  unfold mixT
  by_cases hb : mixB ts n = true
  · rw [if_pos hb]
    simp only [mixB, inR, Bool.and_eq_true, decide_eq_true_eq] at hb
    have hl : (mixA ts n.toNat).length = n.toNat := mixK_len
    have key : ∀ k, k ≤ (mixA ts n.toNat).length → rowSumF (mixA ts n.toNat) k = n.toNat * k := by
      intro k
      induction k with
      | zero => intro _; simp [rowSumF_zero]
      | succ k ih =>
        intro hk
        rw [rowSumF_succ hk, ih (by omega)]
        simp only [mixA, mixK_get, rowK_len, Nat.mul_succ]
    have h4 : n.toNat ≤ 4 := by omega
    unfold needF
    rw [key _ (Nat.le_refl _), hl]
    have := Nat.mul_le_mul h4 h4
    omega
  · rw [if_neg hb]; simp [needF, rowSumF]

set_option maxRecDepth 8000 in
set_option maxHeartbeats 2000000 in
theorem law_RandomSerial (n0 : Bool) (x0 : List (Bool × List Int)) : CallOk Try.prog 3 [intss n0 x0] (bool true) := by
  have hG : FnsOk Try.prog [(5, mSzIss), (7, mToIss), (6, mRser), (8, mRser), (9, mEqFss), (10, mEqIss), (13, mHeldFF)] := (.cons szIntSS_ok (.cons toIntSS_ok (.cons specRser_ok (.cons implRser_ok (.cons eqFractionSS_ok (.cons eqIntSS_ok (.cons heldFractionSS_ok .nil)))))))
  have hM : FnsMut Try.prog [(11, mMarkII), (12, mMarkFF)] := (.cons markIntSS_ok (.cons markFractionSS_ok .nil))
  refine callOk_awp (ctxM_ok eqOk hG hM) mixed (live := [true, false, true, true, true, true, true, true, true, true, true, true, true, true, false, false, false, false, true, false, false, false, false, false, false, false, false, false, false, false, false, false, false, false, false, false, false, false, false, false, true, false, false, false, false, true, false, false, false, false, false, false, false, false, false, false, false, false, false, false, false, true, false, false, false, false, false, false, false, true, false, false, true, false, false, false, false, false, false, false, false, false, false, false, false, false, false, true, false, false, false, false, true, false, false, true]) (dt := []) Try.func3 rfl (by kernel_rfl) (by kernel_rfl) fun w0 hlens => ?_
  have l0 := lens_intss.1 hlens.1
  have z0 := mSzIss_at n0 x0 (1048576) (by omega) (fun x hx => by have := (l0.2 x hx).1; omega) (by omega) (by omega)
  by_cases h0 : (1048576 : Int) < (need x0 : Int)
  · simp [h0] at z0
    simp [Try.f3, List.range, List.range.loop, ints, intss, int, bool, row, frac, fracs, ← List.map_take, ← List.map_drop, List.eraseIdx, z0]
  have t0 : ¬ ((1048576 : Int) - (need x0 : Int)) < 0 := by omega
  have s0 := need_small (xss := x0) (by omega)
  have o0 := own_small s0
  simp [h0] at z0
  have mo0 := need_own (xss := x0)
  have mr0 : (rowSum (own x0) (own x0).length : Int) ≤ need (own x0) := by simp only [need]; omega
  have mk0 := mMarkII_at false (own x0) (1) ⟨by omega, by omega⟩
  have nk : ¬ (1 + (rowSum (own x0) (own x0).length : Int) < 0) := by omega
  have hres := mRser_at false (own x0)
  have hlr : needF (rserT (own x0)) ≤ 100 := by
    unfold rserT; split
    · exact mixT_need _ _
    · simp [needF, rowSumF]
  generalize rserB (own x0) = gb at hres
  generalize (!gb) = gn at hres
  generalize rserT (own x0) = g2 at hres hlr
  have hsm := needF_small (xss := g2) (by omega)
  have mkg := mMarkFF_at gn g2 1 ⟨by omega, by omega⟩
  have hdg := mHeldFF_at gn g2 1 ⟨by omega, by omega⟩
  have ng : ¬ (1 + 2 * (rowSumF g2 g2.length : Int) < 0) := by omega
  simp (config := {maxSteps := 1000000}) [Try.f3, List.range, List.range.loop, ints, intss, int, bool, row, frac, fracs, ← List.map_take, ← List.map_drop, List.eraseIdx, fracss, z0, t0, s0, o0, mToIss_at, mEqIss_at, mk0, nk, ng, hres, mkg, hdg, mEqFss_at, hsm, mkd_len, mkRS_len, mkd_take, mkRS_take, mkRSF_len, mkRSF_take]

end Go.Proofs.Ytlkgppincgpfjaa.Ax
