/-
  FnExactMarriageLine: the two programs answer alike and the arguments read as they did. No condition.
-/
import Derived.Test.YtakladjlnkojjaaDoorCG11
namespace Go.Proofs.YtakladjlnkojjaaDoor.Ax
open Go Go.RowKit
set_option linter.unusedSimpArgs false

theorem lens_mkt {b : Bool} {xs : List (Bool × List Int)} {c : Bool} {ys : List (Bool × List Int)} (h : lens (mkt b xs c ys)) : lens (intss b xs) ∧ lens (intss c ys) := by
  simpa [mkt, lens, lensL] using h

set_option maxHeartbeats 1000000 in
theorem law_MarriageLine (b : Bool) (xs : List (Bool × List Int)) (c : Bool) (ys : List (Bool × List Int)) : CallOk Tryd.prog 4 [mkt b xs c ys] (bool true) := by
  have hG : FnsOk Tryd.prog [(12, mSzM), (13, mMrl), (15, mMrl), (16, mEqM)] := (.cons szMarket_ok (.cons specMrl_ok (.cons implMrl_ok (.cons eqMarket_ok .nil))))
  have hM : FnsMut Tryd.prog [] := .nil
  have hV : FnsMov Tryd.prog [] := .nil
  have hK : FnsFrz Tryd.prog [(14, true, mToM)] := (.cons toMarket_ok .nil)
  refine callOk_awpZ [0] (ctxH_ok eqOk hG hM hV hK) mixed (live := [true, true, true, true, true, true, true, false, false, false, false, true, false, false, false, false, false, false, false, false, false, true, false, false, false, false, true]) (dt := [(10, ⟨[], [0, 0, 2], []⟩)]) Tryd.func4 rfl (by kernel_rfl) (by kernel_rfl) fun w0 hlens => ?_
  obtain ⟨q1, q2⟩ := lens_mkt hlens.1
  have l1 := lens_intss.1 q1
  have l2 := lens_intss.1 q2
  clear hlens q1 q2
  have z0 := mSzM_at b xs c ys 1048576 ⟨⟨⟨by omega, fun x hx => by have := (l1.2 x hx).1; omega⟩, ⟨by omega, fun x hx => by have := (l2.2 x hx).1; omega⟩⟩, by omega, by omega⟩
  by_cases h0 : szM xs ys 1048576 < 0
  · simp [Tryd.f4, List.range, List.range.loop, ints, intss, int, bool, row, frac, fracs, ← List.map_take, ← List.map_drop, List.all, andThen_n, freeze, frzA, frzAL, sets, mkt, z0, h0]
  have hs : need xs ≤ 1048576 ∧ need ys ≤ 1048576 := by
    unfold szM at h0
    split at h0 <;> rename_i g1
    · omega
    · split at h0 <;> rename_i g2 <;> omega
  have s1 := need_small hs.1
  have s2 := need_small hs.2
  have o1 := own_small s1
  have o2 := own_small s2
  have m1 := mToM_at b xs c ys ⟨s1, s2⟩
  have m2 := mMrl_at false (own xs) false (own ys)
  have m3 := mEqM_at false (own xs) false (own ys) false (own xs) false (own ys) ⟨⟨o1, o2⟩, ⟨o1, o2⟩⟩
  simp at m3
  simp [Tryd.f4, List.range, List.range.loop, ints, intss, int, bool, row, frac, fracs, ← List.map_take, ← List.map_drop, List.all, andThen_n, freeze, frzA, frzAL, sets, mkt, z0, h0, m1, m2, m3]

end Go.Proofs.YtakladjlnkojjaaDoor.Ax
