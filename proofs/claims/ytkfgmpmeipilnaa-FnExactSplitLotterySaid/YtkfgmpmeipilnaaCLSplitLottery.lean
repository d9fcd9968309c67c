/-
  FnExactSplitLottery: the two programs answer alike and the arguments read as they did. No condition.
-/
import Derived.Test.YtkfgmpmeipilnaaCG13
import Derived.Test.YtkfgmpmeipilnaaCG14
namespace Go.Proofs.Ytkfgmpmeipilnaa.Ax
open Go Go.RowKit
set_option linter.unusedSimpArgs false

theorem splR_small {n : Nat} : ∀ (f : Nat) (m : Tab) (out : List Tk), SplP n (splR f m out) m out → (splR f m out).2 = true → (splR f m out).1.length ≤ 16 ∧ ∀ t ∈ (splR f m out).1, t.2.2.length = n
  | 0, m, out, h, _ => ⟨by have := h.few; simp only [splR]; omega, fun t ht => (h.lsn t ht).2⟩
  | f + 1, m, out, h, h2 => by
    cases he : exO m with
    | none =>
      have e : splR (f + 1) m out = (out, true) := by rw [splR, he]
      rw [e]
      exact ⟨by have := h.few; simp only; omega, fun t ht => (h.lsn t ht).2⟩
    | some l =>
      cases hs : subOk m l (lstF m l) with
      | false =>
        have e : splR (f + 1) m out = ([], false) := by rw [splR, he]; simp [hs]
        rw [e] at h2; simp at h2
      | true =>
        have e : splR (f + 1) m out = splR f (stepT m l) (out ++ [(lstF m l, false, l)]) := by rw [splR, he]; simp [hs]
        have hn := (spl_next h he hs).1
        rw [e] at h2 hn ⊢
        exact splR_small f _ _ hn h2
theorem rowSum_le {xss : List (Bool × List Int)} {c : Nat} (h : ∀ i (hi : i < xss.length), xss[i].2.length ≤ c) : ∀ {k : Nat}, k ≤ xss.length → rowSum xss k ≤ c * k
  | 0, _ => by simp [rowSum_zero]
  | k + 1, hk => by
    rw [rowSum_succ hk]
    have := rowSum_le h (k := k) (by omega)
    have := h k hk
    rw [Nat.mul_succ]; omega
theorem splT_need (m : Tab) (hf : ∀ r ∈ m, r.1 = false) : need (rws (if (splT m).2 then (splT m).1 else [])) ≤ 200 := by
  have key : ∀ ts : List Tk, ts.length ≤ 16 → (∀ t ∈ ts, t.2.2.length ≤ 4) → need (rws ts) ≤ 200 := fun ts h1 h2 => by
    have := rowSum_le (xss := rws ts) (c := 4) (fun i hi => by
      have hi' : i < ts.length := by rw [rws_len] at hi; exact hi
      rw [rws_get hi']; exact h2 _ (List.getElem_mem hi')) (Nat.le_refl _)
    simp only [need, rws_len] at this ⊢
    omega
  cases hb : (splT m).2 with
  | false => exact key [] (by simp) (by simp)
  | true =>
    simp only [if_true]
    unfold splT at hb ⊢
    cases hl : lotB m with
    | false => rw [hl] at hb; simp at hb
    | true =>
      rw [hl] at hb
      simp only [if_true] at hb ⊢
      have hs := (spl_start hl hf).1
      have h4 := (lot_tab hl hf).n4
      obtain ⟨h1, h2⟩ := splR_small 16 m [] hs hb
      exact key _ h1 fun t ht => by rw [h2 t ht]; exact h4
theorem need_smallT2 {ts : List Tk} (h : need (rws ts) ≤ 1048576) : smallT ts := by
  simp only [need, rws_len] at h
  refine ⟨by omega, fun x hx => ?_⟩
  obtain ⟨i, hi, rfl⟩ := List.getElem_of_mem hx
  have h1 := rwS_succ hi
  have h2 := rowSum_mono (xss := rws ts) (show i + 1 ≤ ts.length from hi)
  omega

set_option maxRecDepth 8000 in
set_option maxHeartbeats 2000000 in
theorem law_SplitLottery (n0 : Bool) (x0 : List (Bool × List (Int × Int))) : CallOk Try.prog 7 [fracss n0 x0] (bool true) := by
  have hG : FnsOk Try.prog [(32, mSzFss), (34, mToFss), (33, mSpl), (35, mSpl), (23, mEqTs), (14, mEqFss), (36, mHeldT)] := (.cons szFractionSS_ok (.cons toFractionSS_ok (.cons specSpl_ok (.cons implSpl_ok (.cons eqTicketS_ok (.cons eqFractionSS_ok (.cons heldTicketS_ok .nil)))))))
  have hM : FnsMut Try.prog [(17, mMarkFF), (24, mMarkT)] := (.cons markFractionSS_ok (.cons markTicketS_ok .nil))
  refine callOk_awp (ctxM_ok eqOk hG hM) mixed (live := [true, false, true, true, true, true, true, true, true, true, true, true, true, true, false, false, false, false, true, false, false, false, false, false, false, false, false, false, false, false, false, false, false, false, false, false, false, false, false, false, true, false, false, false, false, true, false, false, false, false, false, false, false, false, false, false, false, false, false, false, false, true, false, false, false, false, false, false, false, true, false, false, true, false, false, false, false, false, false, false, false, false, false, false, false, false, false, true, false, false, false, false, true, false, false, true]) (dt := []) Try.func7 rfl (by kernel_rfl) (by kernel_rfl) fun w0 hlens => ?_
  have l0 := lens_fracss.1 hlens.1
  have z0 := mSzFss_at n0 x0 (1048576) (by omega) (fun x hx => by have := (l0.2 x hx).1; omega) (by omega) (by omega)
  by_cases h0 : (1048576 : Int) < (needF x0 : Int)
  · simp [h0] at z0
    simp [Try.f7, List.range, List.range.loop, ints, intss, int, bool, row, frac, fracs, ← List.map_take, ← List.map_drop, List.eraseIdx, fracss, z0]
  have t0 : ¬ ((1048576 : Int) - (needF x0 : Int)) < 0 := by omega
  have s0 := needF_small (xss := x0) (by omega)
  have o0 := ownF_small s0
  simp [h0] at z0
  have mo0 := needF_own (xss := x0)
  have mr0 : (rowSumF (ownF x0) (ownF x0).length : Int) ≤ needF (ownF x0) := by simp only [needF]; omega
  have mk0 := mMarkFF_at false (ownF x0) (1) ⟨by omega, by omega⟩
  have nk : ¬ (1 + 2 * (rowSumF (ownF x0) (ownF x0).length : Int) < 0) := by omega
  have hres := mSpl_at false (ownF x0)
  have hlr := splT_need (ownF x0) (fun r hr => by
    simp only [ownF, List.mem_map] at hr
    obtain ⟨y, _, rfl⟩ := hr; rfl)
  simp only [splAV] at hres
  generalize (if (splT (ownF x0)).2 then (splT (ownF x0)).1 else []) = g2 at hres hlr
  generalize (splT (ownF x0)).2 = gb at hres
  generalize (!gb) = gn at hres
  have hsm := need_smallT2 (ts := g2) (by omega)
  have mkg := mMarkT_at gn g2 1 ⟨by omega, by omega⟩
  have hdg := mHeldT_at gn g2 1 ⟨by omega, by omega⟩
  have mb0 := mbT_bd (k := 1) (ts := g2) (by omega) (by omega) (Nat.le_refl _)
  have ng : 0 ≤ mbT 1 g2 g2.length := by omega
  have ng2 : ¬ (mbT 1 g2 g2.length < 0) := by omega
  simp (config := {maxSteps := 1000000}) [Try.f7, List.range, List.range.loop, ints, intss, int, bool, row, frac, fracs, ← List.map_take, ← List.map_drop, List.eraseIdx, fracss, z0, t0, s0, o0, mToFss_at, mEqFss_at, mk0, nk, ng, ng2, hres, mkg, hdg, mEqTs_at, hsm, mkRSF_len, mkRSF_take, mkTS_len, mkTS_take]

end Go.Proofs.Ytkfgmpmeipilnaa.Ax
