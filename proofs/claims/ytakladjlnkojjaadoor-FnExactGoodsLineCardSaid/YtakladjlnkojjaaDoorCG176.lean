/-
  Contracts: the number of allocations (the program); all allocations (the reference); MostProduct, CountEnvyFree (both programs). No condition.
-/
import Derived.Test.YtakladjlnkojjaaDoorCG174
import Derived.Test.YtakladjlnkojjaaDoorCK4
namespace Go.Proofs.YtakladjlnkojjaaDoor.Ax
open Go Go.RowKit
set_option linter.unusedSimpArgs false

noncomputable def mCntAl : List AV → Option AV := mk (fun p => rectB p.2 3 6 100 = true) (fun (p : Bool × List (Bool × List Int)) => [intss p.1 p.2, .fn 69 [.fp (intss p.1 p.2) 0]])
  (fun p => int (cntF p.2 (allocs p.2)))
theorem mCntAl_at (nl : Bool) (xss : List (Bool × List Int)) (h : rectB xss 3 6 100 = true) : mCntAl [.sl nl 1 (xss.map row), .fn 69 [.fp (.sl nl 1 (xss.map row)) 0]] = some (.v (.int .i64 (cntF xss (allocs xss)))) :=
  mk_eq (enc := fun (p : Bool × List (Bool × List Int)) => [intss p.1 p.2, .fn 69 [.fp (intss p.1 p.2) 0]]) (x := (nl, xss)) (by rintro ⟨a, b⟩ ⟨c, d⟩ h; simp [intss, map_row_inj] at h; simp [h]) h

theorem pow729 {n w : Nat} (hn : n ≤ 3) (hw : w ≤ 6) : n ^ w ≤ 729 := Nat.le_trans (Nat.pow_le_pow_left hn w) (Nat.le_trans (Nat.pow_le_pow_right (by omega) hw) (by decide))
theorem allocs_all {xss : List (Bool × List Int)} (h : rectB xss 3 6 100 = true) : (allocs xss).length ≤ 729 := by
  have hl := rect_len h
  unfold allocs; rw [allL_len]; exact pow729 (by omega) (by omega)

set_option maxHeartbeats 1000000 in
theorem cntAl_ok : FnOk Tryd.prog 68 mCntAl := by
  refine mk_ok fun ⟨nl, xss⟩ h1 => ?_
  simp only at h1
  have hG : FnsOk Tryd.prog [(34, (mGrid 3 6 100)), (69, mFreeC)] := (.cons implValuesOk_ok (.cons countFree1_ok .nil))
  have hM : FnsMut Tryd.prog [] := .nil
  have hV : FnsMov Tryd.prog [] := .nil
  have hK : FnsFrz Tryd.prog [(96, true, mLists)] := (.cons lists_ok .nil)
  refine callOk_awp (ctxH_ok eqOk hG hM hV hK) mixed (live := [true, true, false, true, true, true, true, false, false, true, false, false, false, false, false, false, false, true, true, false, false, true]) (dt := []) Tryd.func68 rfl (by kernel_rfl) (by kernel_rfl) fun w0 hlens => ?_
  clear hlens
  have h0 := rect_pos h1
  have hw := wid_eq h0
  have hl := rect_len h1
  have hs : IntKind.i64.wrap ((xss.length : Int) - 1) = (xss.length : Int) - 1 := wrapI (by omega) (by omega)
  have hls := mLists_at (wid xss) 0 ((xss.length : Int) - 1)
  have h729 := allocs_all h1
  simp (config := {contextual := true}) [Tryd.f68, List.range, List.range.loop, ints, intss, int, bool, row, frac, fracs, ← List.map_take, ← List.map_drop, List.all, tyFB, mGrid_at, h1, h0, hw, hs, hls]
  refine tr_rangeFunc (live := [true, true, false, true, true, true, true, false, false, true, false, false, false, false, false, false, false, true, true, false, false, true]) (lv := [false, false, false, true, false, true, false, false, false, false, false, false, false, false, false, false, false, true]) (S0 := [.junk, .junk, .junk, .fp (.fn 69 [.fp (.sl nl 1 (xss.map row)) 0]) 0, .junk, .ptr 0 [] 0 0, .junk, .junk, .junk, .junk, .junk, .junk, .junk, .junk, .junk, .junk, .junk, .fn 121 [.fp (int 0) 0, .fp (int (wid xss : Int)) 0, .fp (int ((xss.length : Int) - 1)) 0], .junk, .junk, .junk, .junk, .junk, .junk, .junk])
    (I := fun k => [⟨true, .sl false 1 [int (cntF xss ((allocs xss).take k))]⟩]) [3, 5, 17]
    (ctxH_ok eqOk hG hM hV hK) mixed (lists1_ok 0 ((xss.length : Int) - 1) (wid xss) (by omega) (by omega) (by omega) (by omega)) rfl rfl ?_ rfl rfl (by simp) (by decide) (chkS_all rfl) ?_ ⟨by kernel_rfl, by kernel_rfl⟩ ?_ ?_
  · refine (le_freeze [0]).trans ((le_clean [false, false, false, true, false, true, false, false, false, false, false, false, false, false, false, false, false, true]).trans (le_sub ?_))
    simp [freeze, frzA, frzAL, res, getAt, sets, cntF, sub, slotsLe, clean, keep, refsL, refs, once, place, renL, ren, List.replicate, int, bool]
  · intro k _ t tk ht
    match t with
    | 0 => simp at ht; subst ht; exact .inr rfl
    | t + 1 => simp at ht
  · intro k x hx pin l US w1
    rw [List.getElem?_map, Option.map_eq_some_iff] at hx
    obtain ⟨l0, hl0, rfl⟩ := hx
    obtain ⟨hk, hl0'⟩ := List.getElem?_eq_some_iff.1 hl0
    have hmem : l0 ∈ allocs xss := List.mem_of_getElem? hl0
    have hlen := allocs_len hmem
    have htake := cntF_take (xss := xss) (L := allocs xss) hk
    rw [show (allocs xss)[k]'hk = l0 from hl0'] at htake
    have hle := cntF_le (xss := xss) (L := (allocs xss).take k)
    rw [List.length_take] at hle
    have hwc : IntKind.i64.wrap ((cntF xss ((allocs xss).take k) : Int) + 1) = (cntF xss ((allocs xss).take k) : Int) + 1 := wrapI (by omega) (by omega)
    simp [List.range, List.range.loop, ints, intss, int, bool, row, frac, fracs, ← List.map_take, ← List.map_drop]
    simp only [asgF_normal]
    intro US' w1'
    have hpc := mFreeC_at false l0 nl xss ⟨h1, by omega⟩
    cases hf : frB xss l0 with
    | true =>
      rw [hf, if_pos rfl] at htake
      simp (config := {contextual := true}) [List.range, List.range.loop, ints, intss, int, bool, row, frac, fracs, ← List.map_take, ← List.map_drop, List.all, tyFB, rngF_normal, hpc, hf, htake, hwc]
      done
    | false =>
      rw [hf, if_neg (by simp), Nat.add_zero] at htake
      simp (config := {contextual := true}) [List.range, List.range.loop, ints, intss, int, bool, row, frac, fracs, ← List.map_take, ← List.map_drop, List.all, tyFB, rngF_normal, hpc, hf, htake]
      done
  · simp only [List.length_map]
    have e : (allocs xss).take (allL 0 ((xss.length : Int) - 1) (wid xss)).length = allocs xss := List.take_length
    rw [e]
    simp (config := {contextual := true}) [List.range, List.range.loop, ints, intss, int, bool, row, frac, fracs, ← List.map_take, ← List.map_drop, List.all]

/-- The best allocation. -/
noncomputable def mMost : List AV → Option AV := mk (fun p => rectB p.2 3 6 100 = true) (fun (p : Bool × List (Bool × List Int)) => [intss p.1 p.2]) (fun p => .tup [bestV (bestP p.2 (allocs p.2)), .v (.bool true)])
theorem mMost_at (nl : Bool) (xss : List (Bool × List Int)) (h : rectB xss 3 6 100 = true) : mMost [.sl nl 1 (xss.map row)] = some (.tup [bestV (bestP xss (allocs xss)), .v (.bool true)]) :=
  mk_eq (enc := fun (p : Bool × List (Bool × List Int)) => [intss p.1 p.2]) (x := (nl, xss)) (by rintro ⟨a, b⟩ ⟨c, d⟩ h; simp [intss, map_row_inj] at h; simp [h]) h
noncomputable def mCntF : List AV → Option AV := mk (fun p => rectB p.2 3 6 100 = true) (fun (p : (Bool) × (List (Bool × List Int))) => [intss p.1 p.2]) (fun p => int (cntF p.2 (allocs p.2)))
theorem mCntF_at (nl : Bool) (xss : List (Bool × List Int)) (hpre : rectB xss 3 6 100 = true) : mCntF [.sl nl 1 (xss.map row)] = some (.v (.int .i64 (cntF xss (allocs xss)))) :=
  mk_eq (enc := fun (p : (Bool) × (List (Bool × List Int))) => [intss p.1 p.2]) (x := (nl, xss)) (by rintro ⟨a0, a1⟩ ⟨b0, b1⟩ h; simp [ints, intss, int, bool, row, frac, fracs, map_int_inj, map_row_inj, frac_inj, map_frac_inj] at h; simp [h]) hpre

theorem implMost_ok : FnOk Tryd.prog 37 mMost := by
  refine mk_ok fun ⟨nl, xss⟩ h => ?_
  simp only at h
  have hG : FnsOk Tryd.prog [(63, mBestAl)] := (.cons bestAl_ok .nil)
  refine callOk_awp (ctx_ok eqOk hG) mixed (live := [true, true, true, true]) (dt := []) Tryd.func37 rfl (by kernel_rfl) (by kernel_rfl) fun w0 hlens => ?_
  clear hlens
  have hb := mBestAl_at nl xss h
  generalize bestP xss (allocs xss) = o at *
  cases o <;> simp [Tryd.f37, List.range, List.range.loop, ints, intss, int, bool, row, frac, fracs, ← List.map_take, ← List.map_drop, hb, bestV] at hb ⊢ <;> simp [Tryd.f37, List.range, List.range.loop, ints, intss, int, bool, row, frac, fracs, ← List.map_take, ← List.map_drop, hb]
theorem implCntF_ok : FnOk Tryd.prog 41 mCntF := by
  refine mk_ok fun ⟨nl, xss⟩ h => ?_
  simp only at h
  have hG : FnsOk Tryd.prog [(68, mCntAl)] := (.cons cntAl_ok .nil)
  refine callOk_awp (ctx_ok eqOk hG) mixed (live := [true, true, true]) (dt := []) Tryd.func41 rfl (by kernel_rfl) (by kernel_rfl) fun w0 hlens => ?_
  clear hlens
  have hb := mCntAl_at nl xss h
  simp [Tryd.f41, List.range, List.range.loop, ints, intss, int, bool, row, frac, fracs, ← List.map_take, ← List.map_drop, hb]

end Go.Proofs.YtakladjlnkojjaaDoor.Ax
