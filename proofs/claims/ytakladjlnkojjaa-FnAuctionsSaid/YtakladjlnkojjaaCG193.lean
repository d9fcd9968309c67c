/-
  Contracts: new cursors (the reference's draws). No condition.
-/
import Derived.Test.YtakladjlnkojjaaCG191
import Derived.Test.YtakladjlnkojjaaCK4
namespace Go.Proofs.Ytakladjlnkojjaa.Ax
open Go Go.RowKit
set_option linter.unusedSimpArgs false

/-- The state that the first k bytes of a code give. -/
def hN (by' : List Int) : Nat → Int
  | 0 => IntKind.i64.wrap (2139 + by'.length)
  | k + 1 => bits .and .i64 (IntKind.i64.wrap (IntKind.i64.wrap (IntKind.i64.wrap (hN by' k * 149) + IntKind.i64.wrap (by'.getD k 0)) + 7)) 1073741823
/-- A new cursor. -/
def cr0 (by' : List Int) : Int × Int := (0, hN by' (min by'.length 4000))
theorem cr0_ok {by' : List Int} (h : by'.length ≤ 1048576) : CrOk by' (cr0 by') := ⟨h, Int.le_refl _, by unfold cr0; omega⟩

set_option maxRecDepth 8000 in
set_option maxHeartbeats 2000000 in
theorem l01New_new {nl : Bool} {by' : List Int} (hlen : by'.length ≤ 1048576) : NewOk Try.prog 82 (byts nl by') 87 [] (cr0 by') := by
  have hG : FnsOk Try.prog [] := .nil
  refine newOk_of_tye (dt := []) (d := 2) Try.func82 rfl (by kernel_rfl) (by kernel_rfl) rfl fun w F => ?_
  refine ty_seqE (ty_awp (ctx_ok eqOk hG) mixed noJ_stable (live := [true, false, true, true, true, false, false, false, false, false, false, false, false, false, false, true]) fun X A w1 => ?_)
  simp [Try.f82, List.range, List.range.loop, ints, intss, int, bool, row, frac, fracs, ← List.map_take, ← List.map_drop, thenY_normal, byts]
  refine ty_seqE (ty_awp (ctx_ok eqOk hG) mixed noJ_stable (live := [true, false, true, true, true, false, false, false, false, false, false, false, false, false, false, true]) fun X A w1 => ?_)
  simp [List.range, List.range.loop, ints, intss, int, bool, row, frac, fracs, ← List.map_take, ← List.map_drop, thenY_normal]
  have hr0 : IntKind.i64.wrap (2139 + (by'.length : Int)) = hN by' 0 := rfl
  rw [hr0]
  refine ty_seqE (ty_seq (ty_awp (ctx_ok eqOk hG) mixed noJ_stable (live := [true, false, true, true, true, false, false, false, false, false, false, false, false, false, false, true]) fun X A w1 => ?_))
  simp [List.range, List.range.loop, ints, intss, int, bool, row, frac, fracs, ← List.map_take, ← List.map_drop, thenY_normal]
  refine ty_block (ty_loop (α := {k : Nat // k ≤ min by'.length 4000}) (fun k => ⟨[.sl nl 1 (by'.map bAV), .junk, .junk, int (hN by' k.1), int k.1, .junk, .junk, .junk, .junk, .junk, .junk, .junk, .junk, .junk, .junk, .junk, .junk, .junk, .junk, .junk, .junk, .junk, .junk, .junk, .junk, .junk, .junk, .junk, .junk, .junk, .junk, .junk], []⟩) (fun _ => ()) (fun k => 4000 - k.1) ⟨0, Nat.zero_le _⟩ ⟨?_, rfl⟩ ?_)
  · simp [sub, slotsLe, clean, keep, refsL, refs, once, place, renL, ren, List.replicate, int, bool]
  rintro ⟨k, hk⟩
  by_cases hkl : k < by'.length
  · have hki : (k : Int) < (by'.length : Int) := by omega
    by_cases hk4 : k < 4000
    · have hk4i : (k : Int) < 4000 := by omega
      have hgd : by'.getD k 0 = by'[k] := by simp [List.getD_eq_getElem?_getD, hkl]
      refine ty_seq (ty_awp (ctx_ok eqOk hG) mixed noJ_stable (live := [true, false, true, true, true, false, false, false, false, false, false, false, false, false, false, true]) fun X A w1 => ?_)
      simp [List.range, List.range.loop, ints, intss, int, bool, row, frac, fracs, ← List.map_take, ← List.map_drop, thenY_normal, hkl, hki, hk4, hk4i]
      refine ty_seq (ty_block (ty_reg (tyo_ops 9 (ctx_ok eqOk hG) noJ_stable (by simp) ?_)))
      simp [List.range, List.range.loop, ints, intss, int, bool, row, frac, fracs, ← List.map_take, ← List.map_drop, hkl, bAV]
      refine tyo_bin (r := .int .i64 (hN by' (k + 1))) rfl rfl rfl (by rfl) (by rfl) (fun W => ?_) rfl ?_
      · rw [hN, hgd]
        simp [eqGuard, binOp, Op.intArith, Op.intCmp]
        rfl
      refine tyo_ops 1 (ctx_ok eqOk hG) noJ_stable (by simp) ?_
      simp [List.range, List.range.loop, ints, intss, int, bool, row, frac, fracs, ← List.map_take, ← List.map_drop]
      refine tyo_end (by simp) ?_
      simp only [thenY_normal, inBY_normal]
      refine ty_awp (ctx_ok eqOk hG) mixed noJ_stable (live := [true, false, true, true, true, false, false, false, false, false, false, false, false, false, false, true]) fun X A w1 => ?_
      have hwk : IntKind.i64.wrap ((k : Int) + 1) = (k : Int) + 1 := wrapI (by omega) (by omega)
      simp [List.range, List.range.loop, ints, intss, int, bool, row, frac, fracs, ← List.map_take, ← List.map_drop, thenY_normal, hwk]
      exact ⟨⟨k + 1, by omega⟩, by simp [sub, slotsLe, clean, keep, refsL, refs, once, place, renL, ren, List.replicate, int, bool], rfl, by simp; omega⟩
    · have hk4i : ¬ (k : Int) < 4000 := by omega
      have hkm : k = min by'.length 4000 := by omega
      refine ty_seq (ty_awp (ctx_ok eqOk hG) mixed noJ_stable (live := [true, false, true, true, true, false, false, false, false, false, false, false, false, false, false, true]) fun X A w1 => ?_)
      simp [List.range, List.range.loop, ints, intss, int, bool, row, frac, fracs, ← List.map_take, ← List.map_drop, thenY_normal, thenY_exit, inBY_exit, hkl, hki, hk4, hk4i]
      rw [show cr0 by' = (0, hN by' k) by unfold cr0; rw [← hkm]]
      refine tye_box (ctx_ok eqOk hG) (pre := [_, _, _]) rfl rfl rfl rfl (.inr rfl) rfl rfl ?_
      simp [List.range, List.range.loop, ints, intss, int, bool, row, frac, fracs, ← List.map_take, ← List.map_drop]
  · have hki : ¬ (k : Int) < (by'.length : Int) := by omega
    have hkm : k = min by'.length 4000 := by omega
    refine ty_seq (ty_awp (ctx_ok eqOk hG) mixed noJ_stable (live := [true, false, true, true, true, false, false, false, false, false, false, false, false, false, false, true]) fun X A w1 => ?_)
    simp [List.range, List.range.loop, ints, intss, int, bool, row, frac, fracs, ← List.map_take, ← List.map_drop, thenY_normal, thenY_exit, inBY_exit, hkl, hki]
    rw [show cr0 by' = (0, hN by' k) by unfold cr0; rw [← hkm]]
    refine tye_box (ctx_ok eqOk hG) (pre := [_, _, _]) rfl rfl rfl rfl (.inr rfl) rfl rfl ?_
    simp [List.range, List.range.loop, ints, intss, int, bool, row, frac, fracs, ← List.map_take, ← List.map_drop]

/-- A cursor that has given n bytes. -/
def crB (by' : List Int) (n : Nat) : Int × Int := crN by' (cr0 by') n

set_option maxRecDepth 8000 in
set_option maxHeartbeats 2000000 in
theorem l32New_new {nl : Bool} {by' : List Int} (hlen : by'.length ≤ 1048576) (n : Nat) (hn : n ≤ 1000) : NewOk Try.prog 40 (byts nl by') 87 [int (n : Int)] (crB by' n) := by
  have hnew := l01New_new (nl := nl) hlen
  have hcur := fun (k : Nat) => l01Byte_cur (nl := nl) (crN_ok (cr0_ok hlen) k)
  have hG : FnsOk Try.prog [] := .nil
  refine newOk_of Try.func40 rfl (by kernel_rfl) (new_fn (dt := []) (R := fun b => .v (ptrV b)) (ctx_ok eqOk hG) Try.func40 rfl (by kernel_rfl) rfl (by rfl) (pre := [_]) rfl rfl rfl (by rfl) (by rfl) (by rfl) (by rfl) hnew fun w F0 code b hbytes hF0 hbF => ?_)
  simp [Try.f40, List.range, List.range.loop, ints, intss, int, bool, row, frac, fracs, ← List.map_take, ← List.map_drop, byts]
  refine tyo_ops 1 (ctx_ok eqOk hG) curJ_stable (by simp) ?_
  simp [List.range, List.range.loop, ints, intss, int, bool, row, frac, fracs, ← List.map_take, ← List.map_drop]
  refine tyo_end (by simp) ?_
  simp only [thenY_normal]
  refine ty_seq (ty_seq (ty_awp (ctx_ok eqOk hG) mixed curJ_stable (live := [true, true, false, false, true, true, true, false, false, false, false, true]) fun X A w1 => ?_))
  simp [List.range, List.range.loop, ints, intss, int, bool, row, frac, fracs, ← List.map_take, ← List.map_drop, thenY_normal]
  refine ty_block (ty_loop (α := {k : Nat // k ≤ n}) (fun k => ⟨[.junk, int n, .junk, .junk, .junk, .v (ptrV b), int k.1, .junk, .junk, .junk, .junk, .junk, .junk, .junk, .junk, .junk, .junk], []⟩) (fun k => crB by' k.1) (fun k => n - k.1) ⟨0, Nat.zero_le _⟩ ⟨?_, rfl⟩ ?_)
  · simp [sub, slotsLe, clean, keep, refsL, refs, once, place, renL, ren, List.replicate, int, bool]
  rintro ⟨k, hk⟩
  by_cases hkn : k < n
  · refine ty_seq (ty_awp (ctx_ok eqOk hG) mixed curJ_stable (live := [true, true, false, false, true, true, true, false, false, false, false, true]) fun X A w1 => ?_)
    simp [List.range, List.range.loop, ints, intss, int, bool, row, frac, fracs, ← List.map_take, ← List.map_drop, thenY_normal, hkn]
    refine ty_seq (ty_block (ty_reg (tyo_ops 1 (ctx_ok eqOk hG) curJ_stable (by simp) ?_)))
    simp [List.range, List.range.loop, ints, intss, int, bool, row, frac, fracs, ← List.map_take, ← List.map_drop]
    refine tyo_cur hbytes hF0 hbF (hcur k) rfl rfl rfl (by rfl) (by rfl) (by rfl) ?_
    simp [List.range, List.range.loop, ints, intss, int, bool, row, frac, fracs, ← List.map_take, ← List.map_drop]
    refine tyo_end (by simp) ?_
    simp only [thenY_normal, inBY_normal]
    refine ty_awp (ctx_ok eqOk hG) mixed curJ_stable (live := [true, true, false, false, true, true, true, false, false, false, false, true]) fun X A w1 => ?_
    have hwk : IntKind.i64.wrap ((k : Int) + 1) = (k : Int) + 1 := wrapI (by omega) (by omega)
    simp [List.range, List.range.loop, ints, intss, int, bool, row, frac, fracs, ← List.map_take, ← List.map_drop, thenY_normal, hwk]
    exact ⟨⟨k + 1, hkn⟩, by simp [sub, slotsLe, clean, keep, refsL, refs, once, place, renL, ren, List.replicate, int, bool], rfl, by simp; omega⟩
  · obtain rfl : k = n := by omega
    refine ty_seq (ty_awp (ctx_ok eqOk hG) mixed curJ_stable (live := [true, true, false, false, true, true, true, false, false, false, false, true]) fun X A w1 => ?_)
    simp [List.range, List.range.loop, ints, intss, int, bool, row, frac, fracs, ← List.map_take, ← List.map_drop, thenY_normal, thenY_exit, inBY_exit]
    refine ty_awp (ctx_ok eqOk hG) mixed curJ_stable (live := [true, true, false, false, true, true, true, false, false, false, false, true]) fun X A w1 => ?_
    simp [List.range, List.range.loop, ints, intss, int, bool, row, frac, fracs, ← List.map_take, ← List.map_drop, thenY_ret]

end Go.Proofs.Ytakladjlnkojjaa.Ax
