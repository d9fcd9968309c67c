/-
  FnExactParseTable: the two programs answer alike. No condition.
-/
import Derived.Test.YtblnpjppckfmfaaDoorCLParseNumbers
namespace Go.Proofs.YtblnpjppckfmfaaDoor.Ax
open Go Go.RowKit
set_option linter.unusedSimpArgs false

theorem rowSum_leP {xss : List (Bool × List Int)} {c : Nat} (h : ∀ i (hi : i < xss.length), xss[i].2.length ≤ c) : ∀ {k : Nat}, k ≤ xss.length → rowSum xss k ≤ c * k
  | 0, _ => by rw [rowSum_zero]; omega
  | k + 1, hk => by
    rw [rowSum_succ (by omega), Nat.mul_succ]
    have := rowSum_leP h (k := k) (by omega)
    have := h k (by omega)
    omega
theorem ptL_two {W : List ByteArray} : (ptL true W).map (·.2) = (ptL false W).map (·.2) := by
  unfold ptL
  rw [List.map_map, List.map_map]
  exact List.map_congr_left fun s _ => prw_two
theorem ptL_facts {b : Bool} {W : List ByteArray} (h : ptOk W = true) : (ptL b W).length ≤ 20 ∧ ∀ x ∈ ptL b W, x.2.length ≤ 20 := by
  unfold ptOk at h
  rw [Bool.and_eq_true, List.all_eq_true] at h
  refine ⟨by simp [ptL]; simpa using h.2, fun x hx => ?_⟩
  unfold ptL at hx
  obtain ⟨s, hs, rfl⟩ := List.mem_map.1 hx
  exact prw_len (h.1 s hs)

set_option maxHeartbeats 1000000 in
theorem law_ParseTable (s : ByteArray) : CallOk Tryd.prog 4 [str s] (bool true) := by
  have hG : FnsOk Tryd.prog [(11, (mPT false)), (12, (mPT true)), (13, mEqIss), (15, mHeldII)] := (.cons specPT_ok (.cons implPT_ok (.cons eqIntSS_ok (.cons heldIntSS_ok .nil))))
  have hM : FnsMut Tryd.prog [(14, mMarkII)] := (.cons markIntSS_ok .nil)
  refine callOk_awp (ctxM_ok eqOk hG hM) mixed (live := [true, false, true, true, true, true, true, true, true, true, true, false, false, true, false, false, false, false, false, false, false, false, false, false, false, false, false, false, false, false, false, false, true, false, false, false, false, false, false, false, true, false, false, true, false, false, false, false, false, false, false, false, false, false, false, false, false, true, false, false, false, false, true, false, false, true]) (dt := []) Tryd.func4 rfl (by kernel_rfl) (by kernel_rfl) fun w0 hlens => ?_
  clear hlens
  by_cases h0 : (1048576 : Int) < s.size
  · simp [Tryd.f4, List.range, List.range.loop, ints, intss, int, bool, row, frac, fracs, ← List.map_take, ← List.map_drop, List.eraseIdx, str, h0]
  have hw := mPT_at false s (by omega)
  have hg := mPT_at true s (by omega)
  have key : ∃ (n1 n2 : Bool) (l1 l2 : List (Bool × List Int)) (ok : Bool), ptR false s = .tup [.sl n1 1 (l1.map row), .v (.bool ok)] ∧ ptR true s = .tup [.sl n2 1 (l2.map row), .v (.bool ok)] ∧ l2.map (·.2) = l1.map (·.2) ∧
      (l1.length ≤ 20 ∧ ∀ x ∈ l1, x.2.length ≤ 20) ∧ (l2.length ≤ 20 ∧ ∀ x ∈ l2, x.2.length ≤ 20) := by
    unfold ptR
    split
    · exact ⟨false, true, [], [], true, rfl, rfl, rfl, by simp, by simp⟩
    · split
      · rename_i h
        exact ⟨false, false, _, _, true, rfl, rfl, ptL_two, ptL_facts h, ptL_facts h⟩
      · exact ⟨true, true, [], [], false, rfl, rfl, rfl, by simp, by simp⟩
  obtain ⟨n1, n2, l1, l2, ok, e1, e2, e3, ⟨a1, a2⟩, ⟨b1, b2⟩⟩ := key
  rw [e1] at hw
  rw [e2] at hg
  have hs : rowSum l2 l2.length ≤ 20 * l2.length := rowSum_leP (fun i hi => b2 _ (List.getElem_mem hi)) (Nat.le_refl _)
  have hnd : need l2 ≤ 1000 := by unfold need; omega
  have mkg := mMarkII_at n2 l2 1 ⟨by omega, by omega⟩
  have hdg := mHeldII_at n2 l2 1 ⟨by omega, by omega⟩
  have ng : ¬ (1 + (rowSum l2 l2.length : Int) < 0) := by omega
  have he := mEqIss_at n2 n1 l2 l1 ⟨by omega, fun x hx => by have := b2 x hx; omega⟩ ⟨by omega, fun x hx => by have := a2 x hx; omega⟩
  rw [e3] at he
  simp at he
  simp [Tryd.f4, List.range, List.range.loop, ints, intss, int, bool, row, frac, fracs, ← List.map_take, ← List.map_drop, List.eraseIdx, str, h0, hw, hg, mkg, hdg, he, ng, mkRS_len, mkRS_take]

end Go.Proofs.YtblnpjppckfmfaaDoor.Ax
