/-
  Contracts: the lists over a range of numbers, one after the other, as the program yields them. No condition.
-/
import Derived.Test.YtakladjlnkojjaaDoorCG50
import Derived.Test.YtakladjlnkojjaaDoorCG51
import Derived.Test.YtakladjlnkojjaaDoorCK4
namespace Go.Proofs.YtakladjlnkojjaaDoor.Ax
open Go Go.RowKit
set_option linter.unusedSimpArgs false


/-- Behind the search from the end: the first j numbers as they were. -/
def lowTo (low : Int) (l : List Int) (j : Nat) : List Int := l.take j ++ List.replicate (l.length - j) low
theorem lowTo_len {low : Int} {l : List Int} {j : Nat} (h : j ≤ l.length) : (lowTo low l j).length = l.length := by simp [lowTo]; omega

theorem lowTo_set {low v : Int} {l : List Int} {j : Nat} (h : j < l.length) : ((lowTo low l (j + 1)).map int).set j (.v (.int .i64 v)) = (l.take j ++ v :: List.replicate (l.length - (j + 1)) low).map int := by
  have hi : (AV.v (.int .i64 v)) = int v := rfl
  rw [hi, ← List.map_set]
  congr 1
  unfold lowTo
  rw [List.take_succ_eq_append_getElem h, List.append_assoc, List.set_append_right _ _ (by simp; omega)]
  simp [Nat.min_eq_left (Nat.le_of_lt h)]
theorem lowTo_low {low : Int} {l : List Int} {j : Nat} (h : j < l.length) : lowTo low l j = l.take j ++ low :: List.replicate (l.length - (j + 1)) low := by
  unfold lowTo
  rw [show l.length - j = l.length - (j + 1) + 1 by omega, List.replicate_succ]
theorem lowTo_get {low : Int} {l : List Int} {j : Nat} (h : j < l.length) (h' : j < (lowTo low l (j + 1)).length) : (lowTo low l (j + 1))[j] = l[j] := by
  simp only [lowTo, List.getElem_append]
  rw [dif_pos (by simp; omega)]
  simp

theorem lists1_ok (low high : Int) (n : Nat) (h : low ≤ high) (hn : n ≤ 1000) (hl : -1000 ≤ low) (hh : high ≤ 1000) :
    IterOk Tryd.prog 121 [.fp (int low) 0, .fp (int (n : Int)) 0, .fp (int high) 0] ((allL low high n).map fun l => .sl false 1 (l.map int)) := by
  have hG : FnsOk Tryd.prog [(62, mRepeatI)] := (.cons repeatI_ok .nil)
  refine iterOk_of_ty (dt := [(3, ⟨[], [], []⟩)]) Tryd.func121 rfl (by kernel_rfl) rfl (by kernel_rfl) fun w F0 B0 l J hJ hyield => ?_
  have hr := mRepeatI_at false low n hn
  have hhead := allL_head h n
  have hpos : 0 < (allL low high n).length := (List.getElem?_eq_some_iff.1 hhead).1
  refine ty_seq (ty_awp (ctx_ok eqOk hG) mixed hJ (live := [true, true, true, true, false, true, true, false, false, false, false, false, false, true, false, false, false, false, false, false, false, false, false, false, false, true, false, false, false, false, false, false, false, true]) fun X A w1 => ?_)
  simp [Tryd.f121, List.range, List.range.loop, ints, intss, int, bool, row, frac, fracs, ← List.map_take, ← List.map_drop, hr, thenY_normal, yv]
  refine ty_block (ty_loop (α := {k : Nat // k < (allL low high n).length}) (fun k => ⟨[.v (.func (.yield l) #[] #[]), .fp (int low) 0, .fp (int (n : Int)) 0, .fp (int high) 0, .junk, .ref 0 [] 0 n, .junk, .junk, .junk, .junk, .junk, .junk, .junk, .junk, .junk, .junk, .junk, .junk, .junk, .junk, .junk, .junk, .junk, .junk, .junk, .junk, .junk, .junk, .junk, .junk, .junk, .junk, .junk, .junk, .junk, .junk, .junk, .junk, .junk, .junk], [⟨true, .sl false 1 (((allL low high n)[k.1]'k.2).map int)⟩]⟩) (fun k => (true, k.1)) (fun k => (allL low high n).length - k.1) ⟨0, hpos⟩ ?_ ?_)
  · refine ⟨?_, rfl⟩
    have h0 : (allL low high n)[0] = List.replicate n low := by rw [List.getElem?_eq_getElem hpos] at hhead; exact Option.some.inj hhead
    simp [sub, slotsLe, clean, keep, refsL, refs, once, place, renL, ren, List.replicate, int, bool, h0]
  rintro ⟨k, hk⟩
  obtain ⟨hlen, hmem⟩ := allL_mem (List.getElem_mem hk)
  have hnext := allL_ch h n k _ (List.getElem?_eq_getElem hk)
  generalize hl0 : (allL low high n)[k] = l0 at hlen hmem hnext
  simp only [hl0]
  refine ty_seq (ty_seq (ty_yield (ctx_ok eqOk hG) hJ hyield (pre := [_, _]) rfl rfl rfl rfl (by rfl) (by rfl) (x := .sl false 1 (l0.map int)) ?_ ?_ ?_ ?_))
  · simp [List.range, List.range.loop, ints, intss, int, bool, row, frac, fracs, ← List.map_take, ← List.map_drop, hlen, List.take_of_length_le (Nat.le_of_eq hlen)]
  · rw [List.getElem?_map, List.getElem?_eq_getElem hk, hl0]; rfl
  · simp only [thenY_normal]
    refine ty_awp (ctx_ok eqOk hG) mixed hJ (live := [true, true, true, true, false, true, true, false, false, false, false, false, false, true, false, false, false, false, false, false, false, false, false, false, false, true, false, false, false, false, false, false, false, true]) fun X A w1 => ?_
    simp [List.range, List.range.loop, ints, intss, int, bool, row, frac, fracs, ← List.map_take, ← List.map_drop, thenY_normal]
    refine ty_awp (ctx_ok eqOk hG) mixed hJ (live := [true, true, true, true, false, true, true, false, false, false, false, false, false, true, false, false, false, false, false, false, false, false, false, false, false, true, false, false, false, false, false, false, false, true]) fun X A w1 => ?_
    simp [List.range, List.range.loop, ints, intss, int, bool, row, frac, fracs, ← List.map_take, ← List.map_drop, thenY_normal, inB_normal]
    have hwn : IntKind.i64.wrap ((n : Int) - 1) = (n : Int) - 1 := wrapI (by omega) (by omega)
    have htk : l0.take n = l0 := List.take_of_length_le (by omega)
    refine awp_loop_of (live := [true, true, true, true, false, true, true, false, false, false, false, false, false, true, false, false, false, false, false, false, false, false, false, false, false, true, false, false, false, false, false, false, false, true]) (ctx_ok eqOk hG) mixed [true, true, true, true, false, true, true] (α := {j : Nat // j ≤ n ∧ l0.drop j = List.replicate (n - j) high}) (fun j => ⟨[yv l, .fp (int low) 0, .fp (int (n : Int)) 0, .fp (int high) 0, .junk, .ref 0 [] 0 n, int ((j.1 : Int) - 1), .junk, .junk, .junk, .junk, .junk, .junk, .junk, .junk, .junk, .junk, .junk, .junk, .junk, .junk, .junk, .junk, .junk, .junk, .junk, .junk, .junk, .junk, .junk, .junk, .junk, .junk, .junk, .junk, .junk, .junk, .junk, .junk, .junk], [⟨true, .sl false 1 ((lowTo low l0 j.1).map int)⟩]⟩) (fun j => j.1) ⟨n, Nat.le_refl _, by simp [← hlen]⟩ (by simp [sub, slotsLe, clean, keep, refsL, refs, once, place, renL, ren, List.replicate, int, bool, yv, lowTo, hlen, hl0, hwn, htk]) ?_
    rintro ⟨j, hj, hd⟩
    have hll := lowTo_len (low := low) (l := l0) (j := j) (by omega)
    rw [hlen] at hll
    cases j with
    | zero =>
      have hl1 : l0 = List.replicate n high := by simpa using hd
      rw [hl1, next_last] at hnext
      have hk1 : k + 1 = (allL low high n).length := by have := List.getElem?_eq_none_iff.1 hnext; omega
      simp (config := {contextual := true}) [List.range, List.range.loop, ints, intss, int, bool, row, frac, fracs, ← List.map_take, ← List.map_drop, thenY_ret, inBY_ret, yv, hll, hk1]
    | succ j =>
      have hjl : j < l0.length := by omega
      have e1 : (((j + 1 : Nat) : Int) - 1) = (j : Int) := by omega
      have hget : (lowTo low l0 (j + 1))[j]? = some l0[j] := by
        rw [List.getElem?_eq_getElem (by omega), lowTo_get hjl]
      have hx := hmem _ (List.getElem_mem hjl)
      have hwj : IntKind.i64.wrap ((j : Int) - 1) = (j : Int) - 1 := wrapI (by omega) (by omega)
      have hj0 : ¬ ((j : Int) < 0) := by omega
      have hjn : j < n := by omega
      simp only [e1]
      simp (config := {contextual := true}) [List.range, List.range.loop, ints, intss, int, bool, row, frac, fracs, ← List.map_take, ← List.map_drop, thenY_normal, yv, hll, hjn, hget, hwj, hj0]
      rw [lowTo_get hjl (by omega)]
      refine ⟨fun hc => ⟨⟨j, by omega, ?_⟩, ?_, by simp⟩, fun hc => ?_⟩
      · rw [List.drop_eq_getElem_cons hjl, hd, hc, show n - j = n - (j + 1) + 1 by omega, List.replicate_succ]
      · rw [lowTo_set hjl, ← lowTo_low hjl]
        simp [sub, slotsLe, clean, keep, refsL, refs, once, place, renL, ren, List.replicate, int, bool]
      · have hna := next_at (low := low) (high := high) hjl (by omega) (by rw [hd, hlen])
        rw [hna] at hnext
        obtain ⟨hk1, hk2⟩ := List.getElem?_eq_some_iff.1 hnext
        refine ⟨⟨k + 1, hk1⟩, ?_, rfl, by simp only []; omega⟩
        rw [wrapI (by omega) (by omega), lowTo_set hjl, ← hk2]
        simp [sub, slotsLe, clean, keep, refsL, refs, once, place, renL, ren, List.replicate, int, bool]
  · simp only [thenY_normal]
    refine ty_awp (ctx_ok eqOk hG) mixed hJ (live := [true, true, true, true, false, true, true, false, false, false, false, false, false, true, false, false, false, false, false, false, false, false, false, false, false, true, false, false, false, false, false, false, false, true]) fun X A w1 => ?_
    simp [List.range, List.range.loop, ints, intss, int, bool, row, frac, fracs, ← List.map_take, ← List.map_drop, thenY_normal, thenY_exit, inBY_exit, inBY_normal]

end Go.Proofs.YtakladjlnkojjaaDoor.Ax
