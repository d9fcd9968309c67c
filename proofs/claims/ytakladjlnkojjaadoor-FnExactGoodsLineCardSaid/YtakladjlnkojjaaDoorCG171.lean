/-
  Contracts: ValuesOk (both programs). No condition.
-/
import Derived.Test.YtakladjlnkojjaaDoorCB2
namespace Go.Proofs.YtakladjlnkojjaaDoor.Ax
open Go Go.RowKit
set_option linter.unusedSimpArgs false

theorem implValuesOk_ok : FnOk Tryd.prog 34 (mGrid 3 6 100) := by
  refine mk_ok fun ⟨nl, xss⟩ _ => ?_
  have hG : FnsOk Tryd.prog [(60, mRect)] := .cons rectangle_ok .nil
  refine callOk_of_awp (ctx_ok eqOk hG) mixed (live := [true, false, true]) (dt := []) Tryd.func34 rfl (by kernel_rfl) (by kernel_rfl) fun w0 => ?_
  simp [Tryd.f34, List.range, List.range.loop, intss, bool, mRect_at nl xss _ _ _]

set_option maxHeartbeats 2000000 in
theorem specValuesOk_ok : FnOk Tryd.prog 27 (mGrid 3 6 100) := by
  refine mk_ok fun ⟨nl, xss⟩ _ => ?_
  have hG : FnsOk Tryd.prog [(54, mWithin)] := .cons l01In_ok .nil
  refine callOk_awp (ctx_ok eqOk hG) mixed (live := [true, false, true, false, true, false, true, false, false, false, false, false, false, false, false, false, false, false, true, true, true, true, true, false, false, false, false, false, false, false, false, true, true, true, true, true, false, false, false, false, true]) (dt := []) Tryd.func27 rfl (by kernel_rfl) (by kernel_rfl) fun w0 hlens => ?_
  have hpr : ∀ x ∈ xss, x.2.length ≤ 9223372036854775807 ∧ (x.1 = true → x.2 = []) := (lens_intss.1 hlens.1).2
  have hp : xss.length ≤ 9223372036854775807 := (lens_intss.1 hlens.1).1.1
  by_cases h1 : inR 1 3 xss.length = true
  rotate_left
  · have h1' : (decide (1 ≤ (xss.length : Int)) && decide ((xss.length : Int) ≤ 3)) = false := by simpa [inR] using h1
    have hr : rectB xss 3 6 100 = false := by
      by_cases h0 : 0 < xss.length
      · rw [rectB_eq h0]; simp [h1]
      · exact rectB_nil h0
    simp [Tryd.f27, List.range, List.range.loop, intss, int, bool, mWithin, h1', hr]
  have h0 : 0 < xss.length := by simp [inR] at h1; omega
  have hre := rectB_eq (a := 3) (b := 6) (c := 100) h0
  have h1' : (1 : Int) ≤ (xss.length : Int) ∧ (xss.length : Int) ≤ 3 := by simpa [inR] using h1
  by_cases h2 : inR 1 6 xss[0].2.length = true
  rotate_left
  · have h2' : (decide (1 ≤ (xss[0].2.length : Int)) && decide ((xss[0].2.length : Int) ≤ 6)) = false := by simpa [inR] using h2
    simp [h1, h2] at hre
    simp [Tryd.f27, List.range, List.range.loop, intss, row, int, bool, mWithin, h1', h2', hre, h0]
    intro a b
    exfalso
    simp [inR] at h2
    omega
  have h2' : (1 : Int) ≤ (xss[0].2.length : Int) ∧ (xss[0].2.length : Int) ≤ 6 := by simpa [inR] using h2
  rw [h1, h2] at hre
  simp only [Bool.true_and] at hre
  generalize hrb : rectB xss 3 6 100 = rb at hre ⊢
  simp [Tryd.f27, List.range, List.range.loop, intss, row, int, bool, mWithin, h1', h2', h0]
  refine awp_loop_of (ctx_ok eqOk hG) mixed (live := [true, false, true, false, true, false, true, false, false, false, false, false, false, false, false, false, false, false, true, true, true, true, true, false, false, false, false, false, false, false, false, true, true, true, true, true, false, false, false, false, true]) [true, false, false, false, false, false, false, false, false, false, false, false, false, false, false, false, false, false, false, true, true, true] (α := {k : Nat // k ≤ xss.length ∧ ∀ j (hj : j < xss.length), j < k → rowIs xss[0].2.length 100 xss[j] = true})
    (fun k => ⟨[intss nl xss, .junk, .junk, .junk, .junk, .junk, .junk, .junk, .junk, .junk, .junk, .junk, .junk, .junk, .junk, .junk, .junk, .junk, .junk, intss nl xss, int xss.length, int k.1, .junk, .junk, .junk, .junk, .junk, .junk, .junk, .junk, .junk, .junk, .junk, .junk, .junk, .junk, .junk, .junk, .junk, .junk, .junk, .junk, .junk], []⟩) (fun k => xss.length - k.1) ⟨0, by omega, by omega⟩
    (by simp [sub, slotsLe, clean, keep, refsL, refs, once, place, renL, ren, List.replicate, int, bool, intss]) ?_
  rintro ⟨k, hk, hno⟩
  by_cases h : k < xss.length
  · by_cases hl : xss[k].2.length = xss[0].2.length
    · simp [List.range, List.range.loop, intss, row, int, bool, mWithin, h, h0, hl]
      refine awp_loop_of (ctx_ok eqOk hG) mixed (live := [true, false, true, false, true, false, true, false, false, false, false, false, false, false, false, false, false, false, true, true, true, true, true, false, false, false, false, false, false, false, false, true, true, true, true, true, false, false, false, false, true]) [true, false, false, false, false, false, false, false, false, false, false, false, false, false, false, false, false, false, false, true, true, true, false, false, false, false, false, false, false, false, false, false, true, true, true] (α := {m : Nat // m ≤ xss[k].2.length ∧ ∀ j (hj : j < xss[k].2.length), j < m → inR 0 100 xss[k].2[j] = true})
        (fun m => ⟨[intss nl xss, .junk, .junk, .junk, .junk, .junk, .junk, .junk, .junk, .junk, .junk, .junk, .junk, .junk, .junk, .junk, .junk, .junk, .junk, intss nl xss, int xss.length, int k, .junk, .junk, .junk, .junk, .junk, .junk, .junk, .junk, .junk, .junk, row xss[k], int xss[k].2.length, int m.1, .junk, .junk, .junk, .junk, .junk, .junk, .junk, .junk], []⟩) (fun m => xss[k].2.length - m.1) ⟨0, by omega, by omega⟩
        (by simp [sub, slotsLe, clean, keep, refsL, refs, once, place, renL, ren, List.replicate, int, bool, intss, row, hl]) ?_
      rintro ⟨m, hm, hmo⟩
      by_cases hx : m < xss[k].2.length
      · cases hv : inR 0 100 xss[k].2[m] with
        | true =>
          have hv' : (0 : Int) ≤ xss[k].2[m] ∧ xss[k].2[m] ≤ 100 := by simpa [inR] using hv
          simp [List.range, List.range.loop, intss, row, int, bool, mWithin, h, h0, hx, hv']
          refine ⟨⟨m + 1, hx, fun j hj hjm => ?_⟩, ?_, by simp; omega⟩
          · by_cases e : j = m
            · subst e; exact hv
            · exact hmo j hj (by omega)
          simp [sub, slotsLe, clean, keep, refsL, refs, once, place, renL, ren, List.replicate, int, bool, intss, row]
          exact wrapI (by omega) (by have := hpr xss[k] (List.getElem_mem _); omega)
        | false =>
          have hv' : (decide ((0 : Int) ≤ xss[k].2[m]) && decide (xss[k].2[m] ≤ 100)) = false := by simpa [inR] using hv
          have hf : rowIs xss[0].2.length 100 xss[k] = false := by simp only [rowIs, Bool.and_eq_false_iff]; exact .inr (all_not hx hv)
          rw [all_not h hf] at hre
          simp [List.range, List.range.loop, intss, row, int, bool, mWithin, h, h0, hx, hv', hre]
      · have hm' : m = xss[k].2.length := by omega
        subst hm'
        simp [List.range, List.range.loop, intss, row, int, bool, mWithin, h, h0]
        refine ⟨⟨k + 1, h, fun j hj hjk => ?_⟩, ?_, by simp; omega⟩
        · by_cases e : j = k
          · subst e; simp only [rowIs, Bool.and_eq_true, decide_eq_true_eq]; exact ⟨hl, all_of hmo⟩
          · exact hno j hj (by omega)
        simp [sub, slotsLe, clean, keep, refsL, refs, once, place, renL, ren, List.replicate, int, bool, intss]
        exact wrapI (by omega) (by omega)
    · have hl' : ((xss[k].2.length : Int) != xss[0].2.length) = true := by simp; omega
      have hf : rowIs xss[0].2.length 100 xss[k] = false := by simp [rowIs, hl]
      rw [all_not h hf] at hre
      simp [List.range, List.range.loop, intss, row, int, bool, mWithin, h, h0, hl, hl', hre]
  · have hk' : k = xss.length := by omega
    subst hk'
    rw [all_of hno] at hre
    simp [List.range, List.range.loop, intss, int, bool, hre]

end Go.Proofs.YtakladjlnkojjaaDoor.Ax
