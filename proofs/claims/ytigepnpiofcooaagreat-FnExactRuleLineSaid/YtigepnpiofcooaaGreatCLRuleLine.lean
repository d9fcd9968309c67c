/-
  FnExactRuleLine: the two programs answer alike and the arguments read as they did. No condition.
-/
import Derived.Test.YtigepnpiofcooaaGreatCG24
import Derived.Test.YtigepnpiofcooaaGreatCG1
namespace Go.Proofs.YtigepnpiofcooaaGreat.Ax
open Go Go.RowKit
set_option linter.unusedSimpArgs false
theorem lens_prof {s : Int} {nl : Bool} {vs : List Vt} (h : lens (prof s nl vs)) : vs.length < 2 ^ 63 ∧ ∀ x ∈ vs, x.1.2.length < 2 ^ 63 := by
  simp only [prof, lens, lensL, List.length_map, lensL_map, and_true] at h
  obtain ⟨⟨h1, _⟩, h2⟩ := h.2
  refine ⟨by omega, fun x hx => ?_⟩
  have := h2 x hx
  simp only [vote, lens, lensL, List.length_map] at this
  obtain ⟨⟨h3, _⟩, _⟩ := this.1
  omega
theorem need_smallVs {vs : List Vt} (h : need (rkv vs) ≤ 1048576) : smallVs vs := by
  have := need_small h
  simp only [small, rkv_len] at this
  refine ⟨by have := this.1; omega, fun x hx => ?_⟩
  have := this.2 x.1 (List.mem_map.2 ⟨x, hx, rfl⟩)
  omega
theorem own_smallVs {vs : List Vt} (h : smallVs vs) : smallVs (ownVs vs) := by
  refine ⟨by rw [ownVs_len]; exact h.1, fun x hx => ?_⟩
  obtain ⟨y, hy, rfl⟩ := List.mem_map.1 hx
  exact h.2 y hy
set_option maxHeartbeats 1000000 in
theorem law_RuleLine (k : Int) (s : Int) (nl : Bool) (vs : List Vt) : CallOk Tryz.prog 3 [int k, prof s nl vs] (bool true) := by
  have hG : FnsOk Tryz.prog [(4, mSzP), (5, mRul), (7, mRul), (8, mEqP)] := (.cons szProfile_ok (.cons specRul_ok (.cons implRul_ok (.cons eqProfile_ok .nil))))
  have hM : FnsMut Tryz.prog [] := .nil
  have hV : FnsMov Tryz.prog [] := .nil
  have hK : FnsFrz Tryz.prog [(6, true, mToP)] := (.cons toProfile_ok .nil)
  refine callOk_awpZ [0] (ctxH_ok eqOk hG hM hV hK) mixed (live := [true, true, false, true, true, true, true, true, true, false, false, false, false, true, false, false, false, false, false, false, false, false, false, false, false, true, false, false, false, false, true]) (dt := [(10, ⟨[], [0, 0, 2], []⟩)]) Tryz.func3 rfl (by kernel_rfl) (by kernel_rfl) fun w0 hlens => ?_
  have q := lens_prof hlens.2.1
  clear hlens
  have z0 := mSzP_at s nl vs 1048576 ⟨q, by omega, by omega⟩
  by_cases h0 : szP vs 1048576 < 0
  · simp [Tryz.f3, List.range, List.range.loop, ints, intss, int, bool, row, frac, fracs, ← List.map_take, ← List.map_drop, List.all, andThen_n, freeze, frzA, frzAL, sets, prof, z0, h0]
  have hs : need (rkv vs) ≤ 1048576 := by
    unfold szP at h0
    split at h0 <;> omega
  have s1 := need_smallVs hs
  have o1 := own_smallVs s1
  have m1 := mToP_at s nl vs s1
  have m2 := mRul_at k s false (ownVs vs)
  have m3 := mEqP_at s false (ownVs vs) s false (ownVs vs) ⟨o1, o1⟩
  simp at m3
  simp [Tryz.f3, List.range, List.range.loop, ints, intss, int, bool, row, frac, fracs, ← List.map_take, ← List.map_drop, List.all, andThen_n, freeze, frzA, frzAL, sets, prof, z0, h0, m1, m2, m3]
end Go.Proofs.YtigepnpiofcooaaGreat.Ax
