/-
  FnExactMixOf: the two programs answer alike and the arguments read as they did. No condition.
-/
import Derived.Test.YtkfgmpmeipilnaaCG11
import Derived.Test.YtkfgmpmeipilnaaCG12
import Derived.Test.YtkfgmpmeipilnaaCG10
namespace Go.Proofs.Ytkfgmpmeipilnaa.Ax
open Go Go.RowKit
set_option linter.unusedSimpArgs false

theorem mixT_need (ts : List Tk) (n : Int) : needF (mixT ts n) ≤ 100 := by
  unfold mixT
  by_cases hb : mixB ts n = true
  · rw [if_pos hb]
    simp only [mixB, inR, Bool.and_eq_true, decide_eq_true_eq] at hb
    have hl : (mixA ts n.toNat).length = n.toNat := mixK_len
    have key : ∀ k, k ≤ (mixA ts n.toNat).length → rowSumF (mixA ts n.toNat) k = n.toNat * k := by
      intro k
      induction k with
      | zero => intro _; simp [rowSumF_zero]
      | succ k ih =>
        intro hk
        rw [rowSumF_succ hk, ih (by omega)]
        simp only [mixA, mixK_get, rowK_len, Nat.mul_succ]
    have h4 : n.toNat ≤ 4 := by omega
    unfold needF
    rw [key _ (Nat.le_refl _), hl]
    have := Nat.mul_le_mul h4 h4
    omega
  · rw [if_neg hb]; simp [needF, rowSumF]

theorem lens_tks {nl : Bool} {ts : List Tk} : lens (.sl nl 3 (ts.map tick)) ↔ (ts.length ≤ 9223372036854775807 ∧ (nl = true → ts = [])) ∧ ∀ x ∈ ts, x.2.2.length ≤ 9223372036854775807 ∧ (x.2.1 = true → x.2.2 = []) := by
  simp only [lens, lensL_map, tick, lensL, List.length_map, List.map_eq_nil_iff, true_and, and_true]
  simp [int, lens]
theorem ownT_take {ts : List Tk} : (ownT ts).take ts.length = ownT ts := List.take_of_length_le (by simp [ownT_len])
theorem need_smallT {ts : List Tk} (h : need (rws ts) ≤ 1048576) : smallT ts := by
  simp only [need, rws_len] at h
  refine ⟨by omega, fun x hx => ?_⟩
  obtain ⟨i, hi, rfl⟩ := List.getElem_of_mem hx
  have h1 := rwS_succ hi
  have h2 := rowSum_mono (xss := rws ts) (show i + 1 ≤ ts.length from hi)
  omega
theorem own_smallT {ts : List Tk} (h : smallT ts) : smallT (ownT ts) := by
  refine ⟨by rw [ownT_len]; exact h.1, fun x hx => ?_⟩
  simp only [ownT, List.mem_map] at hx
  obtain ⟨y, hy, rfl⟩ := hx
  exact h.2 y hy

set_option maxRecDepth 8000 in
set_option maxHeartbeats 2000000 in
theorem law_MixOf (n0 : Bool) (x0 : List Tk) (x1 : Int) : CallOk Try.prog 4 [tks n0 x0, int x1] (bool true) := by
  have hG : FnsOk Try.prog [(19, mSzTs), (21, mToTs), (20, mMix), (22, mMix), (14, mEqFss), (23, mEqTs), (18, mHeldFF)] := (.cons szTicketS_ok (.cons toTicketS_ok (.cons specMix_ok (.cons implMix_ok (.cons eqFractionSS_ok (.cons eqTicketS_ok (.cons heldFractionSS_ok .nil)))))))
  have hM : FnsMut Try.prog [(24, mMarkT), (17, mMarkFF)] := (.cons markTicketS_ok (.cons markFractionSS_ok .nil))
  refine callOk_awp (ctxM_ok eqOk hG hM) mixed (live := [true, true, false, false, true, true, true, true, true, true, true, true, true, true, true, true, false, false, false, false, true, false, false, false, false, false, false, false, false, false, false, false, false, false, false, false, false, false, false, false, false, false, false, false, true, false, false, false, false, true, false, false, false, false, false, false, false, false, false, false, false, false, false, false, false, true, false, false, false, false, false, false, false, true, false, false, true, false, false, false, false, false, false, false, false, false, false, false, false, false, false, false, true, false, false, false, false, true, false, false, true]) (dt := []) Try.func4 rfl (by kernel_rfl) (by kernel_rfl) fun w0 hlens => ?_
  have l0 := lens_tks.1 hlens.1
  have z0 := mSzTs_at n0 x0 (1048576) (by omega) (fun x hx => by have := (l0.2 x hx).1; omega) (by omega) (by omega)
  by_cases h0 : (1048576 : Int) < (need (rws x0) : Int)
  · simp [h0] at z0
    simp [Try.f4, List.range, List.range.loop, ints, intss, int, bool, row, frac, fracs, ← List.map_take, ← List.map_drop, List.eraseIdx, tks, z0]
  have t0 : ¬ ((1048576 : Int) - (need (rws x0) : Int)) < 0 := by omega
  have s0 := need_smallT (ts := x0) (by omega)
  have o0 := own_smallT s0
  simp [h0] at z0
  have mo0 : need (rws (ownT x0)) = need (rws x0) := by rw [rws_own, need_own]
  have mk0 := mMarkT_at false (ownT x0) (1) ⟨by omega, by omega⟩
  have mb0 := mbT_bd (k := 1) (ts := ownT x0) (by omega) (by omega) (Nat.le_refl _)
  have nk : 0 ≤ mbT 1 (ownT x0) x0.length := by rw [ownT_len] at mb0; omega
  have nk2 : ¬ (mbT 1 (ownT x0) x0.length < 0) := by omega
  have hmt : (mkTS 1 (ownT x0)).take x0.length = mkTS 1 (ownT x0) := List.take_of_length_le (by simp [mkTS_len, ownT_len])
  have hres := mMix_at false (ownT x0) x1
  have hlr := mixT_need (ownT x0) x1
  generalize mixB (ownT x0) x1 = gb at hres
  generalize (!gb) = gn at hres
  generalize mixT (ownT x0) x1 = g2 at hres hlr
  have hsm := needF_small (xss := g2) (by omega)
  have mkg := mMarkFF_at gn g2 1 ⟨by omega, by omega⟩
  have hdg := mHeldFF_at gn g2 1 ⟨by omega, by omega⟩
  have ng : ¬ (1 + 2 * (rowSumF g2 g2.length : Int) < 0) := by omega
  simp (config := {maxSteps := 1000000}) [Try.f4, List.range, List.range.loop, ints, intss, int, bool, row, frac, fracs, ← List.map_take, ← List.map_drop, List.eraseIdx, tks, fracss, z0, t0, s0, o0, mToTs_at, mEqTs_at, mk0, nk, nk2, ng, hres, mkg, hdg, mEqFss_at, hsm, mkTS_len, mkTS_take, hmt, ownT_take, ownT_len, mkRSF_len, mkRSF_take]

end Go.Proofs.Ytkfgmpmeipilnaa.Ax
