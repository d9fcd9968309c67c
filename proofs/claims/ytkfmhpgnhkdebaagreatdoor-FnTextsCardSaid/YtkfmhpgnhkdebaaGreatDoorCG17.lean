/-
  Contract: the reference's draw of a market, the walk. No condition.
-/
import Derived.Test.YtkfmhpgnhkdebaaGreatDoorCG16
import Derived.Test.YtkfmhpgnhkdebaaGreatDoorCG15
namespace Go.Proofs.YtkfmhpgnhkdebaaGreatDoor.Ax
open Go Go.RowKit
set_option linter.unusedSimpArgs false
set_option maxRecDepth 8000 in
set_option maxHeartbeats 8000000 in
theorem l17Draw_cur {nl : Bool} {by' : List Int} {s : Int × Int} (hs : CrOk by' s) {m : Nat} (hm1 : 1 ≤ m) (hm5 : m ≤ 5) : CurOk Tryz.prog 116 (byts nl by') 179 [int m] s (mwZ by' s (mwN by' s m)) (mkt false (mwX by' s (mwN by' s m)) false (mwY by' s (mwN by' s m))) := by
  have c0 := l01Below_cur (nl := nl) hs (n := m) (by omega) (by omega)
  have b0 := mwN_bd (by' := by') (s := s) (m := m) (by omega)
  generalize mwN by' s m = n at *
  have hrk := fun (k : Nat) => l03Draw_cur (nl := nl) (crN_ok hs k) (m := n) (by omega) (by omega)
  have c9 := l01Once_cur (nl := nl) (crN_ok hs (1 + n * (n - 1) + n * (n - 1))) (n := 3) (by omega) (by omega)
  have hG : FnsOk Tryz.prog [] := .nil
  refine curOk_of_ty (dt := [(6, ⟨[(0, 5), (1, 5)], [0, 0, 0, 0, 1, 1, 2], []⟩), (10, ⟨[(0, 5), (1, 5)], [0, 0, 0, 0, 1, 1, 2], []⟩), (18, ⟨[], [], []⟩), (19, ⟨[], [], []⟩)]) (ctx_ok eqOk hG) Tryz.func116 rfl (by kernel_rfl) (by kernel_rfl) fun w F0 code b hbytes hF0 hbF => ?_
  have e0 : IntKind.i64.wrap (1 + bw by' s m) = (n : Int) := by rw [b0.2.2]; exact wrapI (by omega) (by omega)
  refine ty_seq (ty_awp (ctx_ok eqOk hG) mixed curJ_stable (live := [true, true, false, false, true, true, true, true, true, true, true, false, false, false, false, false, false, false, true, false, false, false, false, false, false, false, false, false, false, false, false, true, false, false, false, false, false, false, false, false, false, false, false, false, false, false, false, true, false, false, true, false, false, false, false, true]) fun X A w1 => ?_)
  simp [Tryz.f116, List.range, List.range.loop, ints, intss, int, bool, row, frac, fracs, ← List.map_take, ← List.map_drop, thenY_normal]
  refine ty_seq (ty_reg (tyo_ops 2 (ctx_ok eqOk hG) curJ_stable (by simp) ?_))
  simp [List.range, List.range.loop, ints, intss, int, bool, row, frac, fracs, ← List.map_take, ← List.map_drop]
  refine tyo_cur hbytes hF0 hbF c0 rfl rfl rfl (by rfl) (by rfl) (by rfl) ?_
  simp [List.range, List.range.loop, ints, intss, int, bool, row, frac, fracs, ← List.map_take, ← List.map_drop]
  refine tyo_ops 2 (ctx_ok eqOk hG) curJ_stable (by simp) ?_
  simp [List.range, List.range.loop, ints, intss, int, bool, row, frac, fracs, ← List.map_take, ← List.map_drop, e0]
  refine tyo_end (by simp) ?_
  simp only [thenY_normal]
  refine ty_seq (ty_awp (ctx_ok eqOk hG) mixed curJ_stable (live := [true, true, false, false, true, true, true, true, true, true, true, false, false, false, false, false, false, false, true, false, false, false, false, false, false, false, false, false, false, false, false, true, false, false, false, false, false, false, false, false, false, false, false, false, false, false, false, true, false, false, true, false, false, false, false, true]) fun X A w1 => ?_)
  simp [List.range, List.range.loop, ints, intss, int, bool, row, frac, fracs, ← List.map_take, ← List.map_drop, thenY_normal]
  refine ty_seq (ty_seq (ty_awp (ctx_ok eqOk hG) mixed curJ_stable (live := [true, true, false, false, true, true, true, true, true, true, true, false, false, false, false, false, false, false, true, false, false, false, false, false, false, false, false, false, false, false, false, true, false, false, false, false, false, false, false, false, false, false, false, false, false, false, false, true, false, false, true, false, false, false, false, true]) fun X A w1 => ?_))
  simp [List.range, List.range.loop, ints, intss, int, bool, row, frac, fracs, ← List.map_take, ← List.map_drop, thenY_normal]
  have r0 : mwD by' (crN by' s 1) n 0 = [] := rfl
  refine ty_block (ty_loop (α := {i : Nat // i ≤ n}) (fun i => ⟨[.v (ptrV b), .junk, .junk, .junk, .ptr 0 [] 0 0, int n, .ptr 1 [] 0 0, int i.1, .junk, .junk, .junk, .junk, .junk, .junk, .junk, .junk, .junk, .junk, .junk, .junk, .junk, .junk, .junk, .junk, .junk, .junk, .junk, .junk, .junk, .junk, .junk, .junk, .junk, .junk, .junk, .junk, .junk, .junk, .junk, .junk, .junk, .junk, .junk, .junk, .junk, .junk, .junk, .junk, .junk, .junk, .junk, .junk, .junk, .junk, .junk, .junk, .junk, .junk, .junk, .junk, .junk, .junk, .junk, .junk, .junk, .junk, .junk, .junk, .junk, .junk, .junk, .junk, .junk, .junk, .junk, .junk, .junk, .junk, .junk, .junk, .junk, .junk, .junk, .junk], [⟨true, .sl false 2 [.agg [.sl true 1 [], .sl true 1 []]]⟩, ⟨true, .sl false 2 [.agg [mrB (mwD by' (crN by' s 1) n i.1), .sl true 1 []]]⟩]⟩) (fun i => crN by' s (1 + i.1 * (n - 1))) (fun i => n - i.1) ⟨0, Nat.zero_le _⟩ ⟨?_, ?_⟩ ?_)
  · simp [sub, slotsLe, clean, keep, refsL, refs, once, place, renL, ren, List.replicate, int, bool, r0, mrB_nil]
  · simp [crN_one]
  rintro ⟨i, hi⟩
  have hvl := mwD_len (by' := by') (s := crN by' s 1) (n := n) (k := i)
  by_cases hin : i < n
  · have hst := mwD_succ (by' := by') (s := crN by' s 1) (n := n) (k := i)
    have hr : mwR by' (crN by' s 1) n i = (false, rkD by' (crN by' (crN by' s 1) (i * (n - 1))) n (n - 1)) := rfl
    have hcal := hrk (1 + i * (n - 1))
    rw [crN_add, show 1 + i * (n - 1) + (n - 1) = 1 + (i + 1) * (n - 1) by rw [Nat.add_mul]; omega] at hcal
    rw [crN_add] at hr
    obtain ⟨q1, _, _⟩ := rkD_ok (by' := by') (s := crN by' s (1 + i * (n - 1))) (m := n) (t := n - 1) (by omega)
    rw [hr] at hst
    have hst2 : mrB (mwD by' (crN by' s 1) n (i + 1)) = .sl false 1 ((mwD by' (crN by' s 1) n i).map row ++ [.sl false 1 ((rkD by' (crN by' s (1 + i * (n - 1))) n (n - 1)).map int)]) := by rw [hst, mrB_snoc]; rfl
    generalize rkD by' (crN by' s (1 + i * (n - 1))) n (n - 1) = R at *
    have hini : (i : Int) < (n : Int) := by omega
    have hw1 : IntKind.i64.wrap ((i : Int) + 1) = (i : Int) + 1 := wrapI (by omega) (by omega)
    refine ty_seq (ty_awp (ctx_ok eqOk hG) mixed curJ_stable (live := [true, true, false, false, true, true, true, true, true, true, true, false, false, false, false, false, false, false, true, false, false, false, false, false, false, false, false, false, false, false, false, true, false, false, false, false, false, false, false, false, false, false, false, false, false, false, false, true, false, false, true, false, false, false, false, true]) fun X A w1 => ?_)
    simp [List.range, List.range.loop, ints, intss, int, bool, row, frac, fracs, ← List.map_take, ← List.map_drop, thenY_normal, hini, hin]
    refine ty_seq (ty_block (ty_drawCur (ctx_ok eqOk hG) mixed hbytes hF0 hbF hcal (c := 4) rfl rfl rfl (fun _ => rfl) (by kernel_rfl) ?_))
    generalize mwD by' (crN by' s 1) n i = V at *
    cases V with
    | nil =>
      simp at hvl
      subst hvl
      simp at hst2
      simp [List.range, List.range.loop, ints, intss, int, bool, row, frac, fracs, ← List.map_take, ← List.map_drop, curCtx, curM_at, mrB_nil, q1]
      simp only [inBY_normal, thenY_normal]
      refine ty_awp (ctx_ok eqOk hG) mixed curJ_stable (live := [true, true, false, false, true, true, true, true, true, true, true, false, false, false, false, false, false, false, true, false, false, false, false, false, false, false, false, false, false, false, false, true, false, false, false, false, false, false, false, false, false, false, false, false, false, false, false, true, false, false, true, false, false, false, false, true]) fun X A w1 => ?_
      simp [List.range, List.range.loop, ints, intss, int, bool, row, frac, fracs, ← List.map_take, ← List.map_drop, thenY_normal]
      refine ⟨⟨0 + 1, hin⟩, ?_, by simp, by simp; omega⟩
      simp [sub, slotsLe, clean, keep, refsL, refs, once, place, renL, ren, List.replicate, int, bool, hst2]
      try exact wrapI (by omega) (by omega)
    | cons v V =>
      simp at hvl
      have hbb : V.length + 1 + 1 ≤ 4611686018427387904 ∧ (V.length + 1 + 1) * 24 ≤ 140737488355328 := by omega
      simp at hst2
      simp [List.range, List.range.loop, ints, intss, int, bool, row, frac, fracs, ← List.map_take, ← List.map_drop, curCtx, curM_at, mrB_cons, q1, hbb]
      simp only [inBY_normal, thenY_normal]
      refine ty_awp (ctx_ok eqOk hG) mixed curJ_stable (live := [true, true, false, false, true, true, true, true, true, true, true, false, false, false, false, false, false, false, true, false, false, false, false, false, false, false, false, false, false, false, false, true, false, false, false, false, false, false, false, false, false, false, false, false, false, false, false, true, false, false, true, false, false, false, false, true]) fun X A w1 => ?_
      simp [List.range, List.range.loop, ints, intss, int, bool, row, frac, fracs, ← List.map_take, ← List.map_drop, thenY_normal, hw1]
      refine ⟨⟨i + 1, hin⟩, ?_, rfl, by simp; omega⟩
      simp [sub, slotsLe, clean, keep, refsL, refs, once, place, renL, ren, List.replicate, int, bool, hst2, row]
  obtain rfl : i = n := by omega
  have hA0 : mwA by' s i = mwD by' (crN by' s 1) i i := rfl
  have hAl : (mwD by' (crN by' s 1) i i).length = i := mwD_len
  have hAr := mwD_ok (by' := by') (s := crN by' s 1) (n := i) (by omega) (by omega)
  have hX : mwX by' s i = if mwC by' s i = true then cyM i 0 (mwA by' s i) i 0 else mwA by' s i := rfl
  have hY : mwY by' s i = if mwC by' s i = true then cyM i 1 (mwB by' s i) i 0 else mwB by' s i := rfl
  rw [hA0] at hX
  generalize mwD by' (crN by' s 1) i i = A0 at *
  have hAne : A0 ≠ [] := by intro e; rw [e] at hAl; simp at hAl; omega
  rw [mrB_ne hAne]
  refine ty_seq (ty_awp (ctx_ok eqOk hG) mixed curJ_stable (live := [true, true, false, false, true, true, true, true, true, true, true, false, false, false, false, false, false, false, true, false, false, false, false, false, false, false, false, false, false, false, false, true, false, false, false, false, false, false, false, false, false, false, false, false, false, false, false, true, false, false, true, false, false, false, false, true]) fun X A w1 => ?_)
  simp [List.range, List.range.loop, ints, intss, int, bool, row, frac, fracs, ← List.map_take, ← List.map_drop, thenY_normal, thenY_exit, inBY_exit]
  refine ty_seq (ty_seq (ty_awp (ctx_ok eqOk hG) mixed curJ_stable (live := [true, true, false, false, true, true, true, true, true, true, true, false, false, false, false, false, false, false, true, false, false, false, false, false, false, false, false, false, false, false, false, true, false, false, false, false, false, false, false, false, false, false, false, false, false, false, false, true, false, false, true, false, false, false, false, true]) fun X A w1 => ?_))
  simp [List.range, List.range.loop, ints, intss, int, bool, row, frac, fracs, ← List.map_take, ← List.map_drop, thenY_normal]
  have r1 : mwD by' (mwS2 by' s i) i 0 = [] := rfl
  refine ty_block (ty_loop (α := {j : Nat // j ≤ i}) (fun j => ⟨[.v (ptrV b), .junk, .junk, .junk, .ptr 0 [] 0 0, int i, .ptr 1 [] 0 0, .junk, int j.1, .junk, .junk, .junk, .junk, .junk, .junk, .junk, .junk, .junk, .junk, .junk, .junk, .junk, .junk, .junk, .junk, .junk, .junk, .junk, .junk, .junk, .junk, .junk, .junk, .junk, .junk, .junk, .junk, .junk, .junk, .junk, .junk, .junk, .junk, .junk, .junk, .junk, .junk, .junk, .junk, .junk, .junk, .junk, .junk, .junk, .junk, .junk, .junk, .junk, .junk, .junk, .junk, .junk, .junk, .junk, .junk, .junk, .junk, .junk, .junk, .junk, .junk, .junk, .junk, .junk, .junk, .junk, .junk, .junk, .junk, .junk, .junk, .junk, .junk, .junk], [⟨true, .sl false 2 [.agg [.sl true 1 [], .sl true 1 []]]⟩, ⟨true, .sl false 2 [.agg [.sl false 1 (A0.map row), mrB (mwD by' (mwS2 by' s i) i j.1)]]⟩]⟩) (fun j => crN by' s (1 + i * (i - 1) + j.1 * (i - 1))) (fun j => i - j.1) ⟨0, Nat.zero_le _⟩ ⟨?_, ?_⟩ ?_)
  · simp [sub, slotsLe, clean, keep, refsL, refs, once, place, renL, ren, List.replicate, int, bool, r1, mrB_nil]
  · simp
  rintro ⟨j, hj⟩
  have hvl := mwD_len (by' := by') (s := mwS2 by' s i) (n := i) (k := j)
  by_cases hjn : j < i
  · have hst := mwD_succ (by' := by') (s := mwS2 by' s i) (n := i) (k := j)
    have hr : mwR by' (mwS2 by' s i) i j = (false, rkD by' (crN by' (crN by' s (1 + i * (i - 1))) (j * (i - 1))) i (i - 1)) := rfl
    have hcal := hrk (1 + i * (i - 1) + j * (i - 1))
    rw [crN_add, show 1 + i * (i - 1) + j * (i - 1) + (i - 1) = 1 + i * (i - 1) + (j + 1) * (i - 1) by rw [Nat.add_mul j]; omega] at hcal
    rw [crN_add] at hr
    obtain ⟨q1, _, _⟩ := rkD_ok (by' := by') (s := crN by' s (1 + i * (i - 1) + j * (i - 1))) (m := i) (t := i - 1) (by omega)
    rw [hr] at hst
    have hst2 : mrB (mwD by' (mwS2 by' s i) i (j + 1)) = .sl false 1 ((mwD by' (mwS2 by' s i) i j).map row ++ [.sl false 1 ((rkD by' (crN by' s (1 + i * (i - 1) + j * (i - 1))) i (i - 1)).map int)]) := by rw [hst, mrB_snoc]; rfl
    generalize rkD by' (crN by' s (1 + i * (i - 1) + j * (i - 1))) i (i - 1) = R at *
    have hini : (j : Int) < (i : Int) := by omega
    have hw1 : IntKind.i64.wrap ((j : Int) + 1) = (j : Int) + 1 := wrapI (by omega) (by omega)
    refine ty_seq (ty_awp (ctx_ok eqOk hG) mixed curJ_stable (live := [true, true, false, false, true, true, true, true, true, true, true, false, false, false, false, false, false, false, true, false, false, false, false, false, false, false, false, false, false, false, false, true, false, false, false, false, false, false, false, false, false, false, false, false, false, false, false, true, false, false, true, false, false, false, false, true]) fun X A w1 => ?_)
    simp [List.range, List.range.loop, ints, intss, int, bool, row, frac, fracs, ← List.map_take, ← List.map_drop, thenY_normal, hini, hjn]
    refine ty_seq (ty_block (ty_drawCur (ctx_ok eqOk hG) mixed hbytes hF0 hbF hcal (c := 4) rfl rfl rfl (fun _ => rfl) (by kernel_rfl) ?_))
    generalize mwD by' (mwS2 by' s i) i j = V at *
    cases V with
    | nil =>
      simp at hvl
      subst hvl
      simp at hst2
      simp [List.range, List.range.loop, ints, intss, int, bool, row, frac, fracs, ← List.map_take, ← List.map_drop, curCtx, curM_at, mrB_nil, q1]
      simp only [inBY_normal, thenY_normal]
      refine ty_awp (ctx_ok eqOk hG) mixed curJ_stable (live := [true, true, false, false, true, true, true, true, true, true, true, false, false, false, false, false, false, false, true, false, false, false, false, false, false, false, false, false, false, false, false, true, false, false, false, false, false, false, false, false, false, false, false, false, false, false, false, true, false, false, true, false, false, false, false, true]) fun X A w1 => ?_
      simp [List.range, List.range.loop, ints, intss, int, bool, row, frac, fracs, ← List.map_take, ← List.map_drop, thenY_normal]
      refine ⟨⟨0 + 1, hjn⟩, ?_, by simp, by simp; omega⟩
      simp [sub, slotsLe, clean, keep, refsL, refs, once, place, renL, ren, List.replicate, int, bool, hst2]
      try exact wrapI (by omega) (by omega)
    | cons v V =>
      simp at hvl
      have hbb : V.length + 1 + 1 ≤ 4611686018427387904 ∧ (V.length + 1 + 1) * 24 ≤ 140737488355328 := by omega
      simp at hst2
      simp [List.range, List.range.loop, ints, intss, int, bool, row, frac, fracs, ← List.map_take, ← List.map_drop, curCtx, curM_at, mrB_cons, q1, hbb]
      simp only [inBY_normal, thenY_normal]
      refine ty_awp (ctx_ok eqOk hG) mixed curJ_stable (live := [true, true, false, false, true, true, true, true, true, true, true, false, false, false, false, false, false, false, true, false, false, false, false, false, false, false, false, false, false, false, false, true, false, false, false, false, false, false, false, false, false, false, false, false, false, false, false, true, false, false, true, false, false, false, false, true]) fun X A w1 => ?_
      simp [List.range, List.range.loop, ints, intss, int, bool, row, frac, fracs, ← List.map_take, ← List.map_drop, thenY_normal, hw1]
      refine ⟨⟨j + 1, hjn⟩, ?_, rfl, by simp; omega⟩
      simp [sub, slotsLe, clean, keep, refsL, refs, once, place, renL, ren, List.replicate, int, bool, hst2, row]
  obtain rfl : j = i := by omega
  have hB0 : mwB by' s j = mwD by' (mwS2 by' s j) j j := rfl
  have hBl : (mwD by' (mwS2 by' s j) j j).length = j := mwD_len
  have hBr := mwD_ok (by' := by') (s := mwS2 by' s j) (n := j) (by omega) (by omega)
  rw [hB0] at hY
  generalize mwD by' (mwS2 by' s j) j j = B0 at *
  have hBne : B0 ≠ [] := by intro e; rw [e] at hBl; simp at hBl; omega
  rw [mrB_ne hBne]
  refine ty_seq (ty_awp (ctx_ok eqOk hG) mixed curJ_stable (live := [true, true, false, false, true, true, true, true, true, true, true, false, false, false, false, false, false, false, true, false, false, false, false, false, false, false, false, false, false, false, false, true, false, false, false, false, false, false, false, false, false, false, false, false, false, false, false, true, false, false, true, false, false, false, false, true]) fun X A w1 => ?_)
  simp [List.range, List.range.loop, ints, intss, int, bool, row, frac, fracs, ← List.map_take, ← List.map_drop, thenY_normal, thenY_exit, inBY_exit]
  have hC : mwC by' s j = (decide (1 < j) && decide (bw by' (crN by' s (1 + j * (j - 1) + j * (j - 1))) 3 = 0)) := rfl
  have hZ : mwZ by' s j = if 1 < j then crS by' (crN by' s (1 + j * (j - 1) + j * (j - 1))) else crN by' s (1 + j * (j - 1) + j * (j - 1)) := rfl
  have htA : List.take j A0 = A0 := List.take_of_length_le (by omega)
  have htB : List.take j B0 = B0 := List.take_of_length_le (by omega)
  by_cases h1 : 1 < j
  rotate_left
  · have hc0 : mwC by' s j = false := by rw [hC]; simp [h1]
    rw [hc0] at hX hY
    rw [if_neg h1] at hZ
    have h1i : ¬ (1 : Int) < (j : Int) := by omega
    rw [hX, hY, hZ]
    refine ty_seq (ty_awp (ctx_ok eqOk hG) mixed curJ_stable (live := [true, true, false, false, true, true, true, true, true, true, true, false, false, false, false, false, false, false, true, false, false, false, false, false, false, false, false, false, false, false, false, true, false, false, false, false, false, false, false, false, false, false, false, false, false, false, false, true, false, false, true, false, false, false, false, true]) fun X A w1 => ?_)
    simp [List.range, List.range.loop, ints, intss, int, bool, row, frac, fracs, ← List.map_take, ← List.map_drop, thenY_normal, h1, h1i]
    refine ty_awp (ctx_ok eqOk hG) mixed curJ_stable (live := [true, true, false, false, true, true, true, true, true, true, true, false, false, false, false, false, false, false, true, false, false, false, false, false, false, false, false, false, false, false, false, true, false, false, false, false, false, false, false, false, false, false, false, false, false, false, false, true, false, false, true, false, false, false, false, true]) fun X A w1 => ?_
    simp [List.range, List.range.loop, ints, intss, int, bool, row, frac, fracs, ← List.map_take, ← List.map_drop, thenY_ret, mkt, hAl, hBl, htA, htB]
    done
  rw [if_pos h1] at hZ
  have h1i : (1 : Int) < (j : Int) := by omega
  refine ty_seq (ty_seq (ty_reg (tyo_ops 4 (ctx_ok eqOk hG) curJ_stable (by simp) ?_)))
  simp [List.range, List.range.loop, ints, intss, int, bool, row, frac, fracs, ← List.map_take, ← List.map_drop, h1, h1i]
  refine tyo_curG hbytes hF0 hbF c9 rfl rfl (by simp [guardOk, List.getD]) (by rfl) (by rfl) (by rfl) ?_
  simp [List.range, List.range.loop, ints, intss, int, bool, row, frac, fracs, ← List.map_take, ← List.map_drop]
  refine tyo_ops 1 (ctx_ok eqOk hG) curJ_stable (by simp) ?_
  simp [List.range, List.range.loop, ints, intss, int, bool, row, frac, fracs, ← List.map_take, ← List.map_drop]
  refine tyo_end (by simp) ?_
  simp only [thenY_normal]
  rw [hZ]
  by_cases h3 : bw by' (crN by' s (1 + j * (j - 1) + j * (j - 1))) 3 = 0
  rotate_left
  · have hc0 : mwC by' s j = false := by rw [hC]; simp [h3]
    rw [hc0] at hX hY
    rw [hX, hY]
    refine ty_cond (t := false) (by simp [ev, h3]) (fun h => by cases h) (fun _ => ?_)
    refine ty_awp (ctx_ok eqOk hG) mixed curJ_stable (live := [true, true, false, false, true, true, true, true, true, true, true, false, false, false, false, false, false, false, true, false, false, false, false, false, false, false, false, false, false, false, false, true, false, false, false, false, false, false, false, false, false, false, false, false, false, false, false, true, false, false, true, false, false, false, false, true]) fun X A w1 => ?_
    simp [List.range, List.range.loop, ints, intss, int, bool, row, frac, fracs, ← List.map_take, ← List.map_drop, thenY_normal]
    refine ty_awp (ctx_ok eqOk hG) mixed curJ_stable (live := [true, true, false, false, true, true, true, true, true, true, true, false, false, false, false, false, false, false, true, false, false, false, false, false, false, false, false, false, false, false, false, true, false, false, false, false, false, false, false, false, false, false, false, false, false, false, false, true, false, false, true, false, false, false, false, true]) fun X A w1 => ?_
    simp [List.range, List.range.loop, ints, intss, int, bool, row, frac, fracs, ← List.map_take, ← List.map_drop, thenY_ret, mkt, hAl, hBl, htA, htB]
    done
  have hc0 : mwC by' s j = true := by rw [hC]; simp [h1, h3]
  rw [hc0] at hX hY
  rw [hX, hY]
  simp only [if_true]
  have m0 := cyM_zero (n := j) (c := 0) hAl (fun r hr => ⟨(hAr r hr).1, by have := (rank_facts (hAr r hr).2).2.2.1; omega⟩)
  have m1 := cyM_zero (n := j) (c := 1) hBl (fun r hr => ⟨(hBr r hr).1, by have := (rank_facts (hBr r hr).2).2.2.1; omega⟩)
  refine ty_cond (t := true) (by simp [ev, h3]) (fun _ => ?_) (fun h => by cases h)
  refine ty_awp (ctx_ok eqOk hG) mixed curJ_stable (live := [true, true, false, false, true, true, true, true, true, true, true, false, false, false, false, false, false, false, true, false, false, false, false, false, false, false, false, false, false, false, false, true, false, false, false, false, false, false, false, false, false, false, false, false, false, false, false, true, false, false, true, false, false, false, false, true]) fun X A w1 => ?_
  simp [List.range, List.range.loop, ints, intss, int, bool, row, frac, fracs, ← List.map_take, ← List.map_drop]
  refine awp_loop_of (live := [true, true, false, false, true, true, true, true, true, true, true, false, false, false, false, false, false, false, true, false, false, false, false, false, false, false, false, false, false, false, false, true, false, false, false, false, false, false, false, false, false, false, false, false, false, false, false, true, false, false, true, false, false, false, false, true]) (ctx_ok eqOk hG) mixed [false, false, false, false, true, true, true, false, false, true] (α := {p : Nat // p ≤ j}) (fun p => ⟨[.junk, .junk, .junk, .junk, .ptr 0 [] 0 0, int j, .ptr 1 [] 0 0, .junk, .junk, int p.1, .junk, .junk, .junk, .junk, .junk, .junk, .junk, .junk, .junk, .junk, .junk, .junk, .junk, .junk, .junk, .junk, .junk, .junk, .junk, .junk, .junk, .junk, .junk, .junk, .junk, .junk, .junk, .junk, .junk, .junk, .junk, .junk, .junk, .junk, .junk, .junk, .junk, .junk, .junk, .junk, .junk, .junk, .junk, .junk, .junk, .junk, .junk, .junk, .junk, .junk, .junk, .junk, .junk, .junk, .junk, .junk, .junk, .junk, .junk, .junk, .junk, .junk, .junk, .junk, .junk, .junk, .junk, .junk, .junk, .junk, .junk, .junk, .junk, .junk], [⟨true, .sl false 2 [.agg [.sl true 1 [], .sl true 1 []]]⟩, ⟨true, .sl false 2 [.agg [.sl false 1 ((cyM j 0 A0 p.1 0).map row), .sl false 1 ((cyM j 1 B0 p.1 0).map row)]]⟩]⟩) (fun p => j - p.1) ⟨0, Nat.zero_le _⟩ (by simp [sub, slotsLe, clean, keep, refsL, refs, once, place, renL, ren, List.replicate, int, bool, m0, m1]) ?_
  rintro ⟨a, ha⟩
  simp only
  by_cases hal : a < j
  rotate_left
  · obtain rfl : a = j := by omega
    have l0 := cyM_len (n := a) (c := 0) (R := A0) (i := a) (j := 0)
    have l1 := cyM_len (n := a) (c := 1) (R := B0) (i := a) (j := 0)
    have t0 : List.take a (cyM a 0 A0 a 0) = cyM a 0 A0 a 0 := List.take_of_length_le (by omega)
    have t1 : List.take a (cyM a 1 B0 a 0) = cyM a 1 B0 a 0 := List.take_of_length_le (by omega)
    generalize cyM a 0 A0 a 0 = A1 at *
    generalize cyM a 1 B0 a 0 = B1 at *
    simp [List.range, List.range.loop, ints, intss, int, bool, row, frac, fracs, ← List.map_take, ← List.map_drop, thenY_normal]
    refine ty_awp (ctx_ok eqOk hG) mixed curJ_stable (live := [true, true, false, false, true, true, true, true, true, true, true, false, false, false, false, false, false, false, true, false, false, false, false, false, false, false, false, false, false, false, false, true, false, false, false, false, false, false, false, false, false, false, false, false, false, false, false, true, false, false, true, false, false, false, false, true]) fun X A w1 => ?_
    simp [List.range, List.range.loop, ints, intss, int, bool, row, frac, fracs, ← List.map_take, ← List.map_drop, thenY_ret, mkt, l0, l1, t0, t1]
    done
  have hali : (a : Int) < (j : Int) := by omega
  have hwa : IntKind.i64.wrap ((a : Int) + 1) = (a : Int) + 1 := wrapI (by omega) (by omega)
  simp [List.range, List.range.loop, ints, intss, int, bool, row, frac, fracs, ← List.map_take, ← List.map_drop, hal, hali]
  refine awp_loop_of (live := [true, true, false, false, true, true, true, true, true, true, true, false, false, false, false, false, false, false, true, false, false, false, false, false, false, false, false, false, false, false, false, true, false, false, false, false, false, false, false, false, false, false, false, false, false, false, false, true, false, false, true, false, false, false, false, true]) (ctx_ok eqOk hG) mixed [false, false, false, false, true, true, true, false, false, true, true] (α := {p : Nat // p ≤ j}) (fun p => ⟨[.junk, .junk, .junk, .junk, .ptr 0 [] 0 0, int j, .ptr 1 [] 0 0, .junk, .junk, int a, int p.1, .junk, .junk, .junk, .junk, .junk, .junk, .junk, .junk, .junk, .junk, .junk, .junk, .junk, .junk, .junk, .junk, .junk, .junk, .junk, .junk, .junk, .junk, .junk, .junk, .junk, .junk, .junk, .junk, .junk, .junk, .junk, .junk, .junk, .junk, .junk, .junk, .junk, .junk, .junk, .junk, .junk, .junk, .junk, .junk, .junk, .junk, .junk, .junk, .junk, .junk, .junk, .junk, .junk, .junk, .junk, .junk, .junk, .junk, .junk, .junk, .junk, .junk, .junk, .junk, .junk, .junk, .junk, .junk, .junk, .junk, .junk, .junk, .junk], [⟨true, .sl false 2 [.agg [.sl true 1 [], .sl true 1 []]]⟩, ⟨true, .sl false 2 [.agg [.sl false 1 ((cyM j 0 A0 a p.1).map row), .sl false 1 ((cyM j 1 B0 a p.1).map row)]]⟩]⟩) (fun p => j - p.1) ⟨0, Nat.zero_le _⟩ (by simp [sub, slotsLe, clean, keep, refsL, refs, once, place, renL, ren, List.replicate, int, bool, m0]) ?_
  rintro ⟨e, he⟩
  simp only
  by_cases hel : e < j
  rotate_left
  · obtain rfl : e = j := by omega
    rw [cyM_row, cyM_row]
    simp [List.range, List.range.loop, ints, intss, int, bool, row, frac, fracs, ← List.map_take, ← List.map_drop, hwa]
    exact ⟨⟨a + 1, hal⟩, by simp [sub, slotsLe, clean, keep, refsL, refs, once, place, renL, ren, List.replicate, int, bool], by simp; omega⟩
  have heli : (e : Int) < (j : Int) := by omega
  have hwe : IntKind.i64.wrap ((e : Int) + 1) = (e : Int) + 1 := wrapI (by omega) (by omega)
  have hwae : IntKind.i64.wrap ((a : Int) + e) = (a : Int) + e := wrapI (by omega) (by omega)
  have hwae1 : IntKind.i64.wrap ((a : Int) + e + 1) = (a : Int) + e + 1 := wrapI (by omega) (by omega)
  have hj0 : ¬ (j : Int) = 0 := by omega
  have hjn0 : ¬ j = 0 := by omega
  have hE0 : cyE j 0 a e = ((a : Int) + e).tmod j := by simp [cyE]
  have hE1 : cyE j 1 a e = ((a : Int) + e + 1).tmod j := by simp [cyE]
  have hs0 := cyM_map (n := j) (c := 0) (R := A0) (i := a) (j := e) hal hel
  have hs1 := cyM_map (n := j) (c := 1) (R := B0) (i := a) (j := e) hal hel
  rw [hE0] at hs0
  rw [hE1] at hs1
  have l0 := cyM_len (n := j) (c := 0) (R := A0) (i := a) (j := e)
  have l1 := cyM_len (n := j) (c := 1) (R := B0) (i := a) (j := e)
  have a0 := cyM_at (n := j) (c := 0) (R := A0) (i := a) (j := e) hal
  have a1 := cyM_at (n := j) (c := 1) (R := B0) (i := a) (j := e) hal
  have y0 := cyY_len (n := j) (c := 0) (R := A0) (i := a) (j := e)
  have y1 := cyY_len (n := j) (c := 1) (R := B0) (i := a) (j := e)
  generalize cyM j 0 A0 a e = A1 at *
  generalize cyM j 1 B0 a e = B1 at *
  generalize cyY j 0 A0 a e = Y0 at *
  generalize cyY j 1 B0 a e = Y1 at *
  have b0 : (A1.map row)[a]? = some (.sl false 1 (Y0.map int)) := by rw [List.getElem?_map, a0]; rfl
  have b1 : (B1.map row)[a]? = some (.sl false 1 (Y1.map int)) := by rw [List.getElem?_map, a1]; rfl
  have l0' : (A1.map row).length = j := by simpa using l0
  have l1' : (B1.map row).length = j := by simpa using l1
  generalize A1.map row = A2 at *
  generalize B1.map row = B2 at *
  have c0 : A2[a]'(by omega) = .sl false 1 (Y0.map int) := by rw [List.getElem?_eq_getElem (by omega)] at b0; exact Option.some.inj b0
  have c1 : B2[a]'(by omega) = .sl false 1 (Y1.map int) := by rw [List.getElem?_eq_getElem (by omega)] at b1; exact Option.some.inj b1
  simp [List.range, List.range.loop, ints, intss, int, bool, row, frac, fracs, ← List.map_take, ← List.map_drop, List.all, hel, heli, hal, l0', l1', c0, c1, y0, y1, hwae, hwae1, hwe, hj0, hjn0]
  exact ⟨⟨e + 1, hel⟩, by simp [sub, slotsLe, clean, keep, refsL, refs, once, place, renL, ren, List.replicate, int, bool, hs0, hs1], by simp; omega⟩
end Go.Proofs.YtkfmhpgnhkdebaaGreatDoor.Ax
namespace Go.Proofs.YtkfmhpgnhkdebaaGreatDoor.Ax
open Go Go.RowKit
set_option linter.unusedSimpArgs false
def mkMkX (by' : List Int) (n m : Nat) : List (Bool × List Int) := mwX by' (crB by' n) (mwN by' (crB by' n) m)
def mkMkY (by' : List Int) (n m : Nat) : List (Bool × List Int) := mwY by' (crB by' n) (mwN by' (crB by' n) m)
theorem mkMk_ok {by' : List Int} {n m : Nat} (h1 : 1 ≤ m) (h5 : m ≤ 5) : pmOk (mkMkX by' n m) (mkMkY by' n m) := by
  have h := mwN_bd (by' := by') (s := crB by' n) (m := m) (by omega)
  exact (mw_ok (by omega) (by omega)).1
theorem makeMarket_call {nl : Bool} {by' : List Int} (hlen : by'.length ≤ 1048576) (n m : Nat) (hn : n ≤ 1000) (h1 : 1 ≤ m) (h5 : m ≤ 5) : CallOk Tryz.prog 39 [byts nl by', int n, int m] (mkt false (mkMkX by' n m) false (mkMkY by' n m)) := by
  have hnew := l32New_new (nl := nl) hlen n hn
  have hok : CrOk by' (crB by' n) := crN_ok (cr0_ok hlen) n
  have hX : mkMkX by' n m = mwX by' (crB by' n) (mwN by' (crB by' n) m) := rfl
  have hY : mkMkY by' n m = mwY by' (crB by' n) (mwN by' (crB by' n) m) := rfl
  have hlX : (mkMkX by' n m).length = mwN by' (crB by' n) m ∧ (mkMkY by' n m).length = mwN by' (crB by' n) m := by
    have h := mwN_bd (by' := by') (s := crB by' n) (m := m) (by omega)
    exact (mw_ok (by omega) (by omega)).2
  have hcur := l17Draw_cur (nl := nl) hok h1 h5
  rw [← hX, ← hY] at hcur
  generalize mkMkX by' n m = X0 at *
  generalize mkMkY by' n m = Y0 at *
  clear hX hY
  generalize crB by' n = S at *
  have hmx : max 1 (min (m : Int) 5) = m := by omega
  have hG : FnsOk Tryz.prog [] := .nil
  refine callOk_of_new (s1 := mwZ by' S (mwN by' S m)) Tryz.func39 rfl (by kernel_rfl) (new_fn (dt := []) (st0 := ⟨[byts nl by', int (n : Int), int (m : Int), .junk, .junk, .junk, .ptr 0 [] 0 0, .junk, .junk, .junk, .junk, .junk, .junk, .junk], [⟨true, .sl false 2 [.agg [.sl true 1 [], .sl true 1 []]]⟩]⟩) (ctx_ok eqOk hG) Tryz.func39 rfl (by kernel_rfl) rfl (by simp [Tryz.f39, List.range, List.range.loop, ints, intss, int, bool, row, frac, fracs, ← List.map_take, ← List.map_drop]) (pre := [_, _]) rfl rfl rfl (by rfl) (by rfl) (by rfl) (by rfl) hnew fun w F0 B0 code b hbytes hF0 hbF => ?_)
  simp [Tryz.f39, List.range, List.range.loop, ints, intss, int, bool, row, frac, fracs, ← List.map_take, ← List.map_drop, byts]
  refine tyo_ops 3 (ctx_ok eqOk hG) curJ_stable (by simp) ?_
  simp [List.range, List.range.loop, ints, intss, int, bool, row, frac, fracs, ← List.map_take, ← List.map_drop, hmx]
  refine tyo_cur hbytes hF0 hbF hcur rfl rfl rfl (by rfl) (by rfl) (by rfl) ?_
  simp [List.range, List.range.loop, ints, intss, int, bool, row, frac, fracs, ← List.map_take, ← List.map_drop, mkt]
  refine tyo_ops 1 (ctx_ok eqOk hG) curJ_stable (by simp) ?_
  simp [List.range, List.range.loop, ints, intss, int, bool, row, frac, fracs, ← List.map_take, ← List.map_drop]
  refine tyo_end (by simp) ?_
  simp only [thenY_normal]
  refine ty_awp (ctx_ok eqOk hG) mixed curJ_stable (live := [true, true, true, false, false, false, true]) fun X A w1 => ?_
  simp [List.range, List.range.loop, ints, intss, int, bool, row, frac, fracs, ← List.map_take, ← List.map_drop, thenY_ret, mkt]
  done
end Go.Proofs.YtkfmhpgnhkdebaaGreatDoor.Ax
namespace Go.Proofs.YtkfmhpgnhkdebaaGreatDoor.Ax
open Go Go.RowKit
set_option linter.unusedSimpArgs false
def vtS (v : Vt) : ByteArray := itoaS v.2 ++ ⟨#[42]⟩ ++ frkT v.1.2
def wv (v : Vt) : AV := .v (.string (vtS v))
def fprS (vs : List Vt) : ByteArray := joinS (vs.map vtS) ⟨#[32]⟩
def fprT (s : Int) (vs : List Vt) : ByteArray := if profB s vs = true then (if vs = [] then ⟨#[45]⟩ ++ itoaS s else fprS vs) else ⟨#[]⟩
theorem vtS_size {s : Int} {v : Vt} (h : vtB s v = true) : (itoaS v.2).size ≤ 20 ∧ (frkT v.1.2).size ≤ 5 ∧ (vtS v).size ≤ 26 := by
  simp only [vtB, Bool.and_eq_true, inR_iff] at h
  obtain ⟨h1, h2⟩ := h
  have hl := (rank_facts h1).2.2.1
  have h5 := (rank_facts h1).2.1
  have e1 := itoa_size (n := v.2) (inI_small (by omega))
  have e2 : (frkT v.1.2).size ≤ 5 := by
    unfold frkT
    split
    · show (List.map leB v.1.2).toArray.size ≤ 5
      simp; omega
    · decide
  have e3 : (⟨#[42]⟩ : ByteArray).size = 1 := rfl
  refine ⟨e1, e2, ?_⟩
  unfold vtS
  rw [ByteArray.size_append, ByteArray.size_append, e3]
  omega
noncomputable def mFpr : List AV → Option AV := mk (fun _ => True) (fun (p : Int × Bool × List Vt) => [prof p.1 p.2.1 p.2.2]) (fun p => .v (.string (fprT p.1 p.2.2)))
theorem mFpr_at (s : Int) (nl : Bool) (vs : List Vt) : mFpr [.agg [.v (.int .i64 s), .sl nl 2 (vs.map vote)]] = some (.v (.string (fprT s vs))) :=
  mk_eq (enc := fun (p : Int × Bool × List Vt) => [prof p.1 p.2.1 p.2.2]) (x := (s, nl, vs)) (by
    rintro ⟨a, b, c⟩ ⟨a', b', c'⟩ h
    simp [prof, vts, int, map_vote_inj] at h
    obtain ⟨rfl, rfl, rfl⟩ := h
    rfl) trivial
theorem fpr_join {s : Int} {vs : List Vt} (h : profB s vs = true) : mJoin [.sl false 1 (vs.map wv), .v (.string ⟨#[32]⟩)] = some (.v (.string (fprS vs))) := by
  obtain ⟨_, h24, hall⟩ := prof_facts h
  have hl := join_len (c := 26) (sep := bl ⟨#[32]⟩) (ws := (vs.map vtS).map bl) (by
    intro w hw
    simp only [List.map_map, List.mem_map, Function.comp_apply] at hw
    obtain ⟨v, hv, rfl⟩ := hw
    rw [bl_size]
    have := hall v hv
    exact (vtS_size (s := s) (by simp [vtB, inR]; exact this)).2.2)
  have e1 : (bl ⟨#[32]⟩).length = 1 := rfl
  rw [List.length_map, List.length_map, e1] at hl
  have := mJoin_at false (vs.map vtS) ⟨#[32]⟩ ⟨by rw [List.length_map]; omega, by omega⟩
  rw [List.map_map] at this
  exact this
set_option maxHeartbeats 2000000 in
theorem implFpr_ok : FnOk Tryz.prog 45 mFpr := by
  refine mk_ok fun ⟨s, nl, vs⟩ _ => ?_
  have hpp := mProf_at s nl vs
  have hG : FnsOk Tryz.prog [(66, mProf), (17, mItoa), (21, mFrk), (67, mJoin)] := (.cons implProf_ok (.cons implFormatInt_ok (.cons implFrk_ok (.cons implJoin_ok .nil))))
  refine callOk_awpZ [0] (ctx_ok eqOk hG) mixed (live := [true, true, true, true, false, true, false, false, true, false, false, false, true, false, false, false, false, false, true, true, true, true]) (dt := [(9, ⟨[], [0, 0, 0, 0, 0, 0, 0, 0, 0, 1, 1], []⟩)]) Tryz.func45 rfl (by kernel_rfl) (by kernel_rfl) fun w0 hlens => ?_
  clear hlens
  cases h : profB s vs with
  | false =>
    rw [h] at hpp
    simp [Tryz.f45, List.range, List.range.loop, ints, intss, int, bool, row, frac, fracs, ← List.map_take, ← List.map_drop, andThen_n, freeze, frzA, frzAL, sets, prof, hpp, h, fprT]
  | true =>
    rw [h] at hpp
    obtain ⟨⟨s1, s5⟩, h24, hall⟩ := prof_facts h
    have hj := fpr_join h
    have hi := mItoa_at s (inI_small (by omega))
    have hz := itoa_size (n := s) (inI_small (by omega))
    have hR : fprT s vs = if vs = [] then ⟨#[45]⟩ ++ itoaS s else fprS vs := by unfold fprT; rw [if_pos h]
    rw [hR]
    by_cases hv : vs = []
    · subst hv
      simp only [List.map_nil] at hpp
      have c1 : (⟨#[45]⟩ : ByteArray).size = 1 := rfl
      have c2 : 1 + (itoaS s).size ≤ 9223372036854775807 := by omega
      simp [Tryz.f45, List.range, List.range.loop, ints, intss, int, bool, row, frac, fracs, ← List.map_take, ← List.map_drop, andThen_n, freeze, frzA, frzAL, sets, prof, hpp, hi, c1, c2]
      done
    have h0 : 0 < vs.length := List.length_pos_iff.2 hv
    have hz0 : ¬ ((vs.length : Int) = 0) := by omega
    have hzn : ¬ vs.length = 0 := by omega
    rw [if_neg hv]
    simp [Tryz.f45, List.range, List.range.loop, ints, intss, int, bool, row, frac, fracs, ← List.map_take, ← List.map_drop, andThen_n, freeze, frzA, frzAL, sets, prof, hpp, hv, hz0, hzn]
    refine awp_range (live := [true, true, true, true, false, true, false, false, true, false, false, false, true, false, false, false, false, false, true, true, true, true]) (ctx_ok eqOk hG) mixed [false, false, false, true, false, false, false, false, false, false, false, false, false, false, false, false, false, false, true, true, true] (vs.length) (fun k => True) (fun k => ⟨[.junk, .junk, .junk, apW k, .junk, .junk, .junk, .junk, .junk, .junk, .junk, .junk, .junk, .junk, .junk, .junk, .junk, .junk, vts nl vs, int vs.length, int k, .junk, .junk, .junk, .junk, .junk, .junk, .junk, .junk, .junk, .junk, .junk, .junk, .junk, .junk, .junk, .junk, .junk], apWt ((vs.take k).map wv) k⟩) ?_ (by simp [sub, slotsLe, clean, keep, refsL, refs, once, place, renL, ren, List.replicate, int, bool, prof, vts, apW, apWt, apV]) ?_ ?_ ?_
    · omega
    · trivial
    · intro k hk _ hwk
      have hvk := hall _ (List.getElem_mem hk)
      obtain ⟨z1, z2, z3⟩ := vtS_size (s := s) (v := vs[k]) (by simp [vtB, inR]; exact hvk)
      have i1 := mItoa_at vs[k].2 (inI_small (by omega))
      have i2 := mFrk_at vs[k].1.1 vs[k].1.2
      have htr := take_snoc (f := wv) hk
      have hln : (vs.take k).length = k := by simp; omega
      have hbb : k + 1 ≤ 4611686018427387904 ∧ (k + 1) * 16 ≤ 140737488355328 := by omega
      have c1 : (⟨#[42]⟩ : ByteArray).size = 1 := rfl
      have c2 : (itoaS vs[k].2).size + 1 ≤ 9223372036854775807 := by omega
      have c3 : (itoaS vs[k].2).size + 1 + (frkT vs[k].1.2).size ≤ 9223372036854775807 := by omega
      simp only [wv, vtS] at htr
      cases k with
      | zero =>
        simp at htr
        replace htr := htr.symm
        simp [List.range, List.range.loop, ints, intss, int, bool, row, frac, fracs, ← List.map_take, ← List.map_drop, prof, vts, vote, apW, apWt, apV, hk, i1, i2, c1, c2, c3, ByteArray.size_append, htr, hbb]
        have h1 : List.take 1 vs = [vs[0]] := by
          cases vs with
          | nil => exact absurd rfl hv
          | cons a l => rfl
        refine ⟨?_, wrapI (by omega) (by omega)⟩
        rw [h1]
        generalize vs[0] = v
        obtain ⟨⟨f, r⟩, n⟩ := v
        cases f
        · simp [wv, vtS]; exact ⟨r, n, ⟨rfl, rfl⟩, rfl⟩
        · simp [wv, vtS]; exact ⟨r, n, ⟨rfl, rfl⟩, rfl⟩
      | succ k =>
        simp [List.range, List.range.loop, ints, intss, int, bool, row, frac, fracs, ← List.map_take, ← List.map_drop, prof, vts, vote, apW, apWt, apV, hk, hwk, i1, i2, c1, c2, c3, ByteArray.size_append, htr, hln, hbb]
        try exact wrapI (by omega) (by omega)
    · intro _
      obtain ⟨m, hm⟩ : ∃ m, vs.length = m + 1 := ⟨vs.length - 1, by omega⟩
      have ht : vs.take (m + 1) = vs := List.take_of_length_le (by omega)
      rw [hm]
      simp [List.range, List.range.loop, ints, intss, int, bool, row, frac, fracs, ← List.map_take, ← List.map_drop, prof, vts, apW, apWt, apV, ht, hm, hj]
      done
end Go.Proofs.YtkfmhpgnhkdebaaGreatDoor.Ax
