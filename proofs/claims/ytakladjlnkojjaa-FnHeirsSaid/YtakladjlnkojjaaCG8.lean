/-
  Contract: the reference's draw of points. No condition.
-/
import Derived.Test.YtakladjlnkojjaaCG7
import Derived.Test.YtakladjlnkojjaaCG3
import Derived.Test.YtakladjlnkojjaaCG2
namespace Go.Proofs.Ytakladjlnkojjaa.Ax
open Go Go.RowKit
set_option linter.unusedSimpArgs false

set_option maxRecDepth 8000 in
set_option maxHeartbeats 2000000 in
theorem l28Draw_cur {nl : Bool} {by' : List Int} {s : Int × Int} (hs : CrOk by' s) : CurOk Try.prog 55 (byts nl by') 87 [] s (crN by' s (1 + 2 * ptG by' s)) (.sl false 1 ((ptA by' s).map row)) := by
  have hcur := fun (m k : Nat) (h0 : 0 < m) (hm : m ≤ 256) => l01Below_cur (nl := nl) (crN_ok hs k) h0 hm
  obtain ⟨g1, g2⟩ := ptG_bd (by' := by') (s := s)
  rw [ptA_eq]
  generalize ptG by' s = g at *
  have hG : FnsOk Try.prog [] := .nil
  refine curOk_of_ty (dt := []) (ctx_ok eqOk hG) Try.func55 rfl (by kernel_rfl) (by kernel_rfl) fun w F0 code b hbytes hF0 hbF => ?_
  refine ty_seq (ty_awp (ctx_ok eqOk hG) mixed curJ_stable (live := [true, false, true, true, true, true, true, true, true, true, false, false, false, false, false, true, false, false, false, false, false, true]) fun X A w1 => ?_)
  simp [Try.f55, List.range, List.range.loop, ints, intss, int, bool, row, frac, fracs, ← List.map_take, ← List.map_drop, thenY_normal]
  refine ty_seq (ty_reg (tyo_ops 1 (ctx_ok eqOk hG) curJ_stable (by simp) ?_))
  simp [List.range, List.range.loop, ints, intss, int, bool, row, frac, fracs, ← List.map_take, ← List.map_drop]
  refine tyo_cur hbytes hF0 hbF (hcur 5 0 (by omega) (by omega)) rfl rfl rfl (by rfl) (by rfl) (by rfl) ?_
  simp [List.range, List.range.loop, ints, intss, int, bool, row, frac, fracs, ← List.map_take, ← List.map_drop]
  refine tyo_ops 2 (ctx_ok eqOk hG) curJ_stable (by simp) ?_
  have g3' : IntKind.i64.wrap (1 + (g : Int)) = (g : Int) + 1 := by rw [wrapI (by omega) (by omega)]; omega
  have e0 : bw by' (crN by' s 0) 5 = bk by' s 5 0 := rfl
  simp [List.range, List.range.loop, ints, intss, int, bool, row, frac, fracs, ← List.map_take, ← List.map_drop, e0, g2, g3']
  refine tyo_end (by simp) ?_
  simp only [thenY_normal]
  refine ty_seq (ty_awp (ctx_ok eqOk hG) mixed curJ_stable (live := [true, false, true, true, true, true, true, true, true, true, false, false, false, false, false, true, false, false, false, false, false, true]) fun X A w1 => ?_)
  simp [List.range, List.range.loop, ints, intss, int, bool, row, frac, fracs, ← List.map_take, ← List.map_drop, thenY_normal]
  refine ty_seq (ty_seq (ty_awp (ctx_ok eqOk hG) mixed curJ_stable (live := [true, false, true, true, true, true, true, true, true, true, false, false, false, false, false, true, false, false, false, false, false, true]) fun X A w1 => ?_))
  simp [List.range, List.range.loop, ints, intss, int, bool, row, frac, fracs, ← List.map_take, ← List.map_drop, thenY_normal]
  refine ty_block (ty_loop (α := {i : Nat // i ≤ 2}) (fun i => ⟨[.v (ptrV b), .junk, .junk, int ((g : Int) + 1), .ref 0 [] 0 i.1, int i.1, .junk, .junk, .junk, .junk, .junk, .junk, .junk, .junk, .junk, .junk, .junk, .junk, .junk, .junk, .junk, .junk, .junk, .junk, .junk, .junk, .junk, .junk, .junk, .junk, .junk, .junk, .junk, .junk, .junk, .junk, .junk, .junk, .junk, .junk, .junk, .junk, .junk, .junk], [⟨true, .sl false 1 ((ptT by' s g i.1).map row)⟩]⟩) (fun i => crN by' s (1 + i.1 * g)) (fun i => 2 - i.1) ⟨0, Nat.zero_le _⟩ ⟨?_, ?_⟩ ?_)
  · simp [sub, slotsLe, clean, keep, refsL, refs, once, place, renL, ren, List.replicate, int, bool, ptT]
  · simp [crN]
  rintro ⟨i, hi⟩
  by_cases hin : i < 2
  rotate_left
  · obtain rfl : i = 2 := by omega
    have hl := ptT_len (by' := by') (s := s) (g := g) (i := 2)
    refine ty_seq (ty_awp (ctx_ok eqOk hG) mixed curJ_stable (live := [true, false, true, true, true, true, true, true, true, true, false, false, false, false, false, true, false, false, false, false, false, true]) fun X A w1 => ?_)
    simp [List.range, List.range.loop, ints, intss, int, bool, row, frac, fracs, ← List.map_take, ← List.map_drop, thenY_normal, thenY_exit, inBY_exit]
    refine ty_awp (ctx_ok eqOk hG) mixed curJ_stable (live := [true, false, true, true, true, true, true, true, true, true, false, false, false, false, false, true, false, false, false, false, false, true]) fun X A w1 => ?_
    simp [List.range, List.range.loop, ints, intss, int, bool, row, frac, fracs, ← List.map_take, ← List.map_drop, thenY_ret, hl]
  have hini : (i : Int) < 2 := by omega
  refine ty_seq (ty_awp (ctx_ok eqOk hG) mixed curJ_stable (live := [true, false, true, true, true, true, true, true, true, true, false, false, false, false, false, true, false, false, false, false, false, true]) fun X A w1 => ?_)
  simp [List.range, List.range.loop, ints, intss, int, bool, row, frac, fracs, ← List.map_take, ← List.map_drop, thenY_normal, hin, hini]
  refine ty_seq (ty_block (ty_seq (ty_awp (ctx_ok eqOk hG) mixed curJ_stable (live := [true, false, true, true, true, true, true, true, true, true, false, false, false, false, false, true, false, false, false, false, false, true]) fun X A w1 => ?_)))
  simp [List.range, List.range.loop, ints, intss, int, bool, row, frac, fracs, ← List.map_take, ← List.map_drop, thenY_normal]
  refine ty_seq (ty_awp (ctx_ok eqOk hG) mixed curJ_stable (live := [true, false, true, true, true, true, true, true, true, true, false, false, false, false, false, true, false, false, false, false, false, true]) fun X A w1 => ?_)
  simp [List.range, List.range.loop, ints, intss, int, bool, row, frac, fracs, ← List.map_take, ← List.map_drop, thenY_normal]
  refine ty_seq (ty_seq (ty_awp (ctx_ok eqOk hG) mixed curJ_stable (live := [true, false, true, true, true, true, true, true, true, true, false, false, false, false, false, true, false, false, false, false, false, true]) fun X A w1 => ?_))
  simp [List.range, List.range.loop, ints, intss, int, bool, row, frac, fracs, ← List.map_take, ← List.map_drop, thenY_normal]
  refine ty_block (ty_loop (α := {k : Nat // k ≤ g}) (fun k => ⟨[.v (ptrV b), .junk, .junk, int ((g : Int) + 1), .ref 0 [] 0 i, int i, .ref 1 [] 0 k.1, int (ptL by' s (1 + i * g) k.1), int ((k.1 : Int) + 1), .junk, .junk, .junk, .junk, .junk, .junk, .junk, .junk, .junk, .junk, .junk, .junk, .junk, .junk, .junk, .junk, .junk, .junk, .junk, .junk, .junk, .junk, .junk, .junk, .junk, .junk, .junk, .junk, .junk, .junk, .junk, .junk, .junk, .junk, .junk], [⟨true, .sl false 1 ((ptT by' s g i).map row)⟩, ⟨true, .sl false 1 ((ptR by' s (1 + i * g) k.1).map int)⟩]⟩) (fun k => crN by' s (1 + i * g + k.1)) (fun k => g - k.1) ⟨0, Nat.zero_le _⟩ ⟨?_, ?_⟩ ?_)
  · simp [sub, slotsLe, clean, keep, refsL, refs, once, place, renL, ren, List.replicate, int, bool, ptR, ptL]
  · simp
  rintro ⟨k, hk⟩
  by_cases hkg : k < g
  · have hkgi : (k : Int) + 1 < (g : Int) + 1 := by omega
    have hL := ptL_bd (by' := by') (s := s) (k := 1 + i * g) (j := k)
    have hX := ptX_bd (by' := by') (s := s) (k := 1 + i * g) (j := k)
    have hcall := hcur (min (ptL by' s (1 + i * g) k) 60 + 1).toNat (1 + i * g + k) (by omega) (by omega)
    have hn : ((min (ptL by' s (1 + i * g) k) 60 + 1).toNat : Int) = min (ptL by' s (1 + i * g) k) 60 + 1 := by omega
    have hx : bw by' (crN by' s (1 + i * g + k)) (min (ptL by' s (1 + i * g) k) 60 + 1).toNat = ptX by' s (1 + i * g) k := rfl
    rw [hn, hx] at hcall
    have hw : IntKind.i64.wrap (min (ptL by' s (1 + i * g) k) 60 + 1) = min (ptL by' s (1 + i * g) k) 60 + 1 := wrapI (by omega) (by omega)
    refine ty_seq (ty_awp (ctx_ok eqOk hG) mixed curJ_stable (live := [true, false, true, true, true, true, true, true, true, true, false, false, false, false, false, true, false, false, false, false, false, true]) fun X A w1 => ?_)
    simp [List.range, List.range.loop, ints, intss, int, bool, row, frac, fracs, ← List.map_take, ← List.map_drop, thenY_normal, hkg, hkgi]
    refine ty_seq (ty_block (ty_seq (ty_reg (tyo_ops 4 (ctx_ok eqOk hG) curJ_stable (by simp) ?_))))
    simp [List.range, List.range.loop, ints, intss, int, bool, row, frac, fracs, ← List.map_take, ← List.map_drop, hw]
    refine tyo_cur hbytes hF0 hbF hcall rfl rfl rfl (by rfl) (by rfl) (by rfl) ?_
    simp [List.range, List.range.loop, ints, intss, int, bool, row, frac, fracs, ← List.map_take, ← List.map_drop]
    refine tyo_ops 1 (ctx_ok eqOk hG) curJ_stable (by simp) ?_
    simp [List.range, List.range.loop, ints, intss, int, bool, row, frac, fracs, ← List.map_take, ← List.map_drop]
    refine tyo_end (by simp) ?_
    simp only [thenY_normal]
    have hrl := ptR_len (by' := by') (s := s) (k := 1 + i * g) (g := k)
    have hbb : k + 1 ≤ 4611686018427387904 ∧ (k + 1) * 8 ≤ 140737488355328 := by omega
    have hrs : (ptR by' s (1 + i * g) k).map int ++ [.v (.int .i64 (ptX by' s (1 + i * g) k))] = (ptR by' s (1 + i * g) (k + 1)).map int := by rw [ptR_succ, List.map_append]; rfl
    refine ty_seq (ty_awp (ctx_ok eqOk hG) mixed curJ_stable (live := [true, false, true, true, true, true, true, true, true, true, false, false, false, false, false, true, false, false, false, false, false, true]) fun X A w1 => ?_)
    simp [List.range, List.range.loop, ints, intss, int, bool, row, frac, fracs, ← List.map_take, ← List.map_drop, thenY_normal, hrl, hbb, hrs]
    have hw2 : IntKind.i64.wrap (ptL by' s (1 + i * g) k - ptX by' s (1 + i * g) k) = ptL by' s (1 + i * g) (k + 1) := by rw [ptL_succ]; exact wrapI (by omega) (by omega)
    refine ty_awp (ctx_ok eqOk hG) mixed curJ_stable (live := [true, false, true, true, true, true, true, true, true, true, false, false, false, false, false, true, false, false, false, false, false, true]) fun X A w1 => ?_
    simp [List.range, List.range.loop, ints, intss, int, bool, row, frac, fracs, ← List.map_take, ← List.map_drop, thenY_normal, inBY_normal, hw2]
    refine ty_awp (ctx_ok eqOk hG) mixed curJ_stable (live := [true, false, true, true, true, true, true, true, true, true, false, false, false, false, false, true, false, false, false, false, false, true]) fun X A w1 => ?_
    have hwk : IntKind.i64.wrap ((k : Int) + 1 + 1) = (k : Int) + 1 + 1 := wrapI (by omega) (by omega)
    simp [List.range, List.range.loop, ints, intss, int, bool, row, frac, fracs, ← List.map_take, ← List.map_drop, thenY_normal, hwk]
    exact ⟨⟨k + 1, hkg⟩, by simp [sub, slotsLe, clean, keep, refsL, refs, once, place, renL, ren, List.replicate, int, bool], rfl, by simp; omega⟩
  · obtain rfl : k = g := by omega
    have hrl := ptR_len (by' := by') (s := s) (k := 1 + i * k) (g := k)
    have htl := ptT_len (by' := by') (s := s) (g := k) (i := i)
    have hbb : i + 1 ≤ 4611686018427387904 ∧ (i + 1) * 24 ≤ 140737488355328 := by omega
    have hbb2 : k + 1 ≤ 4611686018427387904 ∧ (k + 1) * 8 ≤ 140737488355328 := by omega
    have hrw : (ptR by' s (1 + i * k) k).map int ++ [.v (.int .i64 (ptL by' s (1 + i * k) k))] = (ptW by' s (1 + i * k) k).map int := by rw [ptW, List.map_append]; rfl
    have hwl := ptW_len (by' := by') (s := s) (k := 1 + i * k) (g := k)
    have hrs : (ptT by' s k i).map row ++ [.sl false 1 ((ptW by' s (1 + i * k) k).map int)] = (ptT by' s k (i + 1)).map row := by rw [ptT_succ, List.map_append]; rfl
    refine ty_seq (ty_awp (ctx_ok eqOk hG) mixed curJ_stable (live := [true, false, true, true, true, true, true, true, true, true, false, false, false, false, false, true, false, false, false, false, false, true]) fun X A w1 => ?_)
    simp [List.range, List.range.loop, ints, intss, int, bool, row, frac, fracs, ← List.map_take, ← List.map_drop, thenY_normal, thenY_exit, inBY_exit]
    refine ty_awp (ctx_ok eqOk hG) mixed curJ_stable (live := [true, false, true, true, true, true, true, true, true, true, false, false, false, false, false, true, false, false, false, false, false, true]) fun X A w1 => ?_
    simp [List.range, List.range.loop, ints, intss, int, bool, row, frac, fracs, ← List.map_take, ← List.map_drop, thenY_normal, inBY_normal, hrl, htl, hwl, hbb, hbb2, hrw, hrs]
    refine ty_awp (ctx_ok eqOk hG) mixed curJ_stable (live := [true, false, true, true, true, true, true, true, true, true, false, false, false, false, false, true, false, false, false, false, false, true]) fun X A w1 => ?_
    have hwk : IntKind.i64.wrap ((i : Int) + 1) = (i : Int) + 1 := wrapI (by omega) (by omega)
    simp [List.range, List.range.loop, ints, intss, int, bool, row, frac, fracs, ← List.map_take, ← List.map_drop, thenY_normal, hwk]
    exact ⟨⟨i + 1, hin⟩, by simp [sub, slotsLe, clean, keep, refsL, refs, once, place, renL, ren, List.replicate, int, bool], by congr 1; rw [Nat.add_mul]; omega, by simp; omega⟩

end Go.Proofs.Ytakladjlnkojjaa.Ax

/-
  Contract: the points of a code (the reference's draw). No condition.
-/
namespace Go.Proofs.Ytakladjlnkojjaa.Ax
open Go Go.RowKit
set_option linter.unusedSimpArgs false

/-- The points of a code. -/
def mkPts (by' : List Int) : List (Bool × List Int) := ptA by' (cr0 by')
theorem makePts_call {nl : Bool} {by' : List Int} (hlen : by'.length ≤ 1048576) : CallOk Try.prog 19 [byts nl by', int 0] (.sl false 1 ((mkPts by').map row)) := by
  have hnew := l32New_new (nl := nl) hlen 0 (by omega)
  have hcur := l28Draw_cur (nl := nl) (cr0_ok hlen)
  have hG : FnsOk Try.prog [] := .nil
  refine callOk_of_new (s1 := crN by' (cr0 by') (1 + 2 * ptG by' (cr0 by'))) Try.func19 rfl (by kernel_rfl) (new_fn (dt := []) (ctx_ok eqOk hG) Try.func19 rfl (by kernel_rfl) rfl (by rfl) (pre := [_, _]) rfl rfl rfl (by rfl) (by rfl) (by rfl) (by rfl) hnew fun w F0 code b hbytes hF0 hbF => ?_)
  simp [Try.f19, List.range, List.range.loop, ints, intss, int, bool, row, frac, fracs, ← List.map_take, ← List.map_drop, byts]
  refine tyo_cur hbytes hF0 hbF hcur rfl rfl rfl (by rfl) (by rfl) (by rfl) ?_
  simp [List.range, List.range.loop, ints, intss, int, bool, row, frac, fracs, ← List.map_take, ← List.map_drop]
  refine tyo_ops 1 (ctx_ok eqOk hG) curJ_stable (by simp) ?_
  simp [List.range, List.range.loop, ints, intss, int, bool, row, frac, fracs, ← List.map_take, ← List.map_drop]
  refine tyo_end (by simp) ?_
  simp only [thenY_normal]
  refine ty_awp (ctx_ok eqOk hG) mixed curJ_stable (live := [true, true, false, false, true]) fun X A w1 => ?_
  simp [List.range, List.range.loop, ints, intss, int, bool, row, frac, fracs, ← List.map_take, ← List.map_drop, thenY_ret, mkPts]

noncomputable def mMkPts : List AV → Option AV := mk (fun p => p.2.length ≤ 1048576) (fun (p : Bool × List Int) => [byts p.1 p.2, int 0]) (fun p => .sl false 1 ((mkPts p.2).map row))
theorem mMkPts_at (nl : Bool) (by' : List Int) (h : by'.length ≤ 1048576) : mMkPts [.sl nl 1 (by'.map bAV), .v (.int .i64 0)] = some (.sl false 1 ((mkPts by').map row)) :=
  mk_eq (enc := fun (p : Bool × List Int) => [byts p.1 p.2, int 0]) (x := (nl, by')) (by rintro ⟨a, b⟩ ⟨c, d⟩ h; simp [byts, map_bAV_inj] at h; simp [h]) h
theorem makePts_ok : FnOk Try.prog 19 mMkPts := by
  refine mk_ok fun ⟨nl, by'⟩ h => ?_
  exact makePts_call h

/-- What the points are. -/
theorem mkPts_ok (by' : List Int) : pointsB (mkPts by') = true := ptA_ok

end Go.Proofs.Ytakladjlnkojjaa.Ax

/-
  Contracts: IsBestForHeirs (both programs). No condition.
-/
namespace Go.Proofs.Ytakladjlnkojjaa.Ax
open Go Go.RowKit
set_option linter.unusedSimpArgs false

noncomputable def mBestH : List AV → Option AV := mk (fun _ => True) (fun (p : (Bool) × (List (Bool × List Int)) × (Bool) × (List (Int × Int))) => [intss p.1 p.2.1, fracs p.2.2.1 p.2.2.2]) (fun p => bool (bestHB p.2.1 p.2.2.2))
theorem mBestH_at (nl : Bool) (xss : List (Bool × List Int)) (nl' : Bool) (fs : List (Int × Int)) : mBestH [.sl nl 1 (xss.map row), .sl nl' 2 (fs.map frac)] = some (.v (.bool (bestHB xss fs))) :=
  mk_eq (enc := fun (p : (Bool) × (List (Bool × List Int)) × (Bool) × (List (Int × Int))) => [intss p.1 p.2.1, fracs p.2.2.1 p.2.2.2]) (x := (nl, xss, nl', fs)) (by rintro ⟨a0, a1, a2, a3⟩ ⟨b0, b1, b2, b3⟩ h; simp [ints, intss, int, bool, row, frac, fracs, map_int_inj, map_row_inj, frac_inj, map_frac_inj] at h; simp [h]) trivial

set_option maxHeartbeats 4000000 in
theorem implBestH_ok : FnOk Try.prog 27 mBestH := by
  refine mk_ok fun ⟨nl, xss, nl', fs⟩ _ => ?_
  have hG : FnsOk Try.prog [(24, mShares), (57, mWhole)] := (.cons implSharesOk_ok (.cons whole_ok .nil))
  refine callOk_awp (ctx_ok eqOk hG) mixed (live := [true, true, false, false, true, true, true, true, false, false, false, true, false, true, true, true, false, false, true, true, true, false, false, false, false, false, false, false, false, false, false, false, false, false, false, false, false, false, false, false, false, false, false, false, false, false, false, false, false, false, false, false, false, false, false, false, false, false, false, false, false, false, false, false, false, true]) (dt := [(9, ⟨[], [], []⟩), (10, ⟨[], [], []⟩)]) Try.func27 rfl (by kernel_rfl) (by kernel_rfl) fun w0 hlens => ?_
  clear hlens
  cases hs : sharesB xss fs with
  | false => simp (config := {contextual := true}) [Try.f27, List.range, List.range.loop, ints, intss, int, bool, row, frac, fracs, ← List.map_take, ← List.map_drop, mShares_at, hs, bestHB]
  | true =>
  obtain ⟨h2, hr, hl, hpart⟩ := shares_facts hs
  have hw := rect_len hr
  have hm : bestHB xss fs = allR fs.length (bestRow xss fs) := by simp [bestHB, hs]
  generalize hres : bestHB xss fs = r at hm
  have h0 : 0 < xss.length := by omega
  have h1 : 1 < xss.length := by omega
  have r0 := (rect_row hr h0).1
  have r1 := (rect_row hr h1).1
  simp (config := {contextual := true}) [Try.f27, List.range, List.range.loop, ints, intss, int, bool, row, frac, fracs, ← List.map_take, ← List.map_drop, mShares_at, hs]
  refine awp_range (live := [true, true, false, false, true, true, true, true, false, false, false, true, false, true, true, true, false, false, true, true, true, false, false, false, false, false, false, false, false, false, false, false, false, false, false, false, false, false, false, false, false, false, false, false, false, false, false, false, false, false, false, false, false, false, false, false, false, false, false, false, false, false, false, false, false, true]) (ctx_ok eqOk hG) mixed [true, true, false, false, false, false, false, false, false, false, false, false, false, true, true] (fs.length) (fun x => upto (bestRow xss fs) x) (fun x => ⟨[intss nl xss, fracs nl' fs, .junk, .junk, .junk, .junk, .junk, .junk, .junk, .junk, .junk, .junk, .junk, int fs.length, int x, .junk, .junk, .junk, .junk, .junk, .junk, .junk, .junk, .junk, .junk, .junk, .junk, .junk, .junk, .junk, .junk, .junk, .junk, .junk, .junk, .junk, .junk, .junk, .junk, .junk, .junk, .junk, .junk, .junk, .junk, .junk, .junk, .junk, .junk, .junk, .junk, .junk, .junk, .junk, .junk, .junk, .junk, .junk, .junk, .junk, .junk, .junk, .junk, .junk, .junk, .junk, .junk, .junk], []⟩) ?_ (by simp [sub, slotsLe, clean, keep, refsL, refs, once, place, renL, ren, List.replicate, int, bool, intss, fracs]) ?_ ?_ ?_
  · omega
  · exact upto_zero
  · intro x hx hp hwk
    have hf : bestRow xss fs x = false → r = false := fun hf => by rw [hm]; exact allR_no hx hf
    have ht := upto_succ hp
    simp (config := {contextual := true}) [List.range, List.range.loop, ints, intss, int, bool, row, frac, fracs, ← List.map_take, ← List.map_drop, hx, hwk]
    refine awp_range (live := [true, true, false, false, true, true, true, true, false, false, false, true, false, true, true, true, false, false, true, true, true, false, false, false, false, false, false, false, false, false, false, false, false, false, false, false, false, false, false, false, false, false, false, false, false, false, false, false, false, false, false, false, false, false, false, false, false, false, false, false, false, false, false, false, false, true]) (ctx_ok eqOk hG) mixed [true, true, false, false, false, true, false, false, false, false, false, false, false, true, true, false, false, false, true, true] (fs.length) (fun y => upto (bestAt xss fs x) y) (fun y => ⟨[intss nl xss, fracs nl' fs, .junk, .junk, .junk, int x, .junk, .junk, .junk, .junk, .junk, .junk, .junk, int fs.length, int x, .junk, .junk, .junk, int fs.length, int y, .junk, .junk, .junk, .junk, .junk, .junk, .junk, .junk, .junk, .junk, .junk, .junk, .junk, .junk, .junk, .junk, .junk, .junk, .junk, .junk, .junk, .junk, .junk, .junk, .junk, .junk, .junk, .junk, .junk, .junk, .junk, .junk, .junk, .junk, .junk, .junk, .junk, .junk, .junk, .junk, .junk, .junk, .junk, .junk, .junk, .junk, .junk, .junk], []⟩) ?_ (by simp [sub, slotsLe, clean, keep, refsL, refs, once, place, renL, ren, List.replicate, int, bool, intss, fracs, frac]) ?_ ?_ ?_
    · omega
    · exact upto_zero
    · intro y hy hpy hwy
      have hf2 : bestAt xss fs x y = false → r = false := fun hg => hf (allR_no hy hg)
      have ht2 := upto_succ hpy
      have hxw : x < wid xss := by omega
      have hyw : y < wid xss := by omega
      have e1 := ent_at h0 (k := y) (by omega)
      have e2 := ent_at h1 (k := x) (by omega)
      have e3 := ent_at h0 (k := x) (by omega)
      have e4 := ent_at h1 (k := y) (by omega)
      have m1 := ent_mul hr h0 h1 (x := y) (y := x) hyw hxw
      have m2 := ent_mul hr h0 h1 (x := x) (y := y) hxw hyw
      have w1 : IntKind.i64.wrap (ent xss 0 y * ent xss 1 x) = ent xss 0 y * ent xss 1 x := wrapI (by omega) (by omega)
      have w2 : IntKind.i64.wrap (ent xss 0 x * ent xss 1 y) = ent xss 0 x * ent xss 1 y := wrapI (by omega) (by omega)
      have p1 := part_zero (t := fs[x].1) (b := fs[x].2) (hpart x hx)
      have p2 := part_one (t := fs[y].1) (b := fs[y].2) (hpart y hy)
      have e : bestAt xss fs x y = !(decide (0 < fs[x].1) && decide (fs[y].1 < fs[y].2) && decide (ent xss 0 x * ent xss 1 y < ent xss 0 y * ent xss 1 x)) := by unfold bestAt; simp [List.getD_eq_getElem?_getD, hx, hy]
      rw [e] at hf2 ht2
      clear e hp hpy hf ht
      have s1 := part_facts (t := fs[x].1) (b := fs[x].2) (hpart x hx)
      have s2 := part_facts (t := fs[y].1) (b := fs[y].2) (hpart y hy)
      have xb : fs[x].1 = 0 ∨ 0 < fs[x].1 := by omega
      have yb : fs[y].1 = fs[y].2 ∨ fs[y].1 < fs[y].2 := by omega
      have o1 : 1 < 2 := by omega
      rcases xb with c1 | c1
      · have c1' : fs[x].2 = 1 := (p1.2 (by omega)).2
        have ht3 := ht2 (by simp [c1])
        simp (config := {contextual := true}) [List.range, List.range.loop, ints, intss, int, bool, row, frac, fracs, ← List.map_take, ← List.map_drop, mWhole_at, hx, hy, hwy, c1, c1', ht3]
      have n1 : ¬ fs[x].1 = 0 := by omega
      rcases yb with c2 | c2
      · have c2' : fs[y].2 = 1 := (p2.2 (by omega)).2
        have ht3 := ht2 (by simp [c2])
        rw [c2'] at c2
        simp (config := {contextual := true}) [List.range, List.range.loop, ints, intss, int, bool, row, frac, fracs, ← List.map_take, ← List.map_drop, mWhole_at, hx, hy, hwy, c1, n1, c2, c2', ht3]
      have n2 : fs[y].1 = 1 → ¬ fs[y].2 = 1 := fun a b => by omega
      have n3 : ¬ (fs[y].1 = 1 ∧ fs[y].2 = 1) := fun h => n2 h.1 h.2
      by_cases c3 : ent xss 0 x * ent xss 1 y < ent xss 0 y * ent xss 1 x
      · have hr0 := hf2 (by simp [c1, c2, c3])
        subst hr0
        rw [e1, e2] at w1
        rw [e3, e4] at w2
        rw [e1, e2, e3, e4] at c3
        simp (config := {contextual := true}) [List.range, List.range.loop, ints, intss, int, bool, row, frac, fracs, ← List.map_take, ← List.map_drop, mWhole_at, hx, hy, hwy, h0, h1, h2, r0, r1, hxw, hyw, c1, n1, c2, n2, n3, w1, w2, c3]
      · have ht3 := ht2 (by simp [c3])
        rw [e1, e2] at w1
        rw [e3, e4] at w2
        rw [e1, e2, e3, e4] at c3
        simp (config := {contextual := true}) [List.range, List.range.loop, ints, intss, int, bool, row, frac, fracs, ← List.map_take, ← List.map_drop, mWhole_at, hx, hy, hwy, h0, h1, h2, r0, r1, hxw, hyw, c1, n1, c2, n2, n3, w1, w2, c3, ht3]
    · intro hpy
      have := ht (allR_yes hpy)
      simp (config := {contextual := true}) [List.range, List.range.loop, ints, intss, int, bool, row, frac, fracs, ← List.map_take, ← List.map_drop, hx, hwk, this]
  · intro hp
    rw [allR_yes hp] at hm
    subst hm
    simp (config := {contextual := true}) [List.range, List.range.loop, ints, intss, int, bool, row, frac, fracs, ← List.map_take, ← List.map_drop]

end Go.Proofs.Ytakladjlnkojjaa.Ax

/-
  Contracts: HeirPoints, AreEqualHeirs (both programs). No condition.
-/
namespace Go.Proofs.Ytakladjlnkojjaa.Ax
open Go Go.RowKit
set_option linter.unusedSimpArgs false

noncomputable def mHeir : List AV → Option AV := mk (fun _ => True) (fun (p : (Bool) × (List (Bool × List Int)) × (Bool) × (List (Int × Int)) × (Int)) => [intss p.1 p.2.1, fracs p.2.2.1 p.2.2.2.1, int p.2.2.2.2]) (fun p => .tup [.agg [.v (.int .i64 (heirF p.2.1 p.2.2.2.1 p.2.2.2.2).1.1), .v (.int .i64 (heirF p.2.1 p.2.2.2.1 p.2.2.2.2).1.2)], .v (.bool (heirF p.2.1 p.2.2.2.1 p.2.2.2.2).2)])
theorem mHeir_at (nl : Bool) (xss : List (Bool × List Int)) (nl' : Bool) (fs : List (Int × Int)) (who : Int) : mHeir [.sl nl 1 (xss.map row), .sl nl' 2 (fs.map frac), .v (.int .i64 who)] = some (.tup [.agg [.v (.int .i64 (heirF xss fs who).1.1), .v (.int .i64 (heirF xss fs who).1.2)], .v (.bool (heirF xss fs who).2)]) :=
  mk_eq (enc := fun (p : (Bool) × (List (Bool × List Int)) × (Bool) × (List (Int × Int)) × (Int)) => [intss p.1 p.2.1, fracs p.2.2.1 p.2.2.2.1, int p.2.2.2.2]) (x := (nl, xss, nl', fs, who)) (by rintro ⟨a0, a1, a2, a3, a4⟩ ⟨b0, b1, b2, b3, b4⟩ h; simp [ints, intss, int, bool, row, frac, fracs, map_int_inj, map_row_inj, frac_inj, map_frac_inj] at h; simp [h]) trivial

set_option maxHeartbeats 4000000 in
theorem implHeir_ok : FnOk Try.prog 21 mHeir := by
  refine mk_ok fun ⟨nl, xss, nl', fs, who⟩ _ => ?_
  have hG : FnsOk Try.prog [(24, mShares), (51, mWithin), (57, mWhole), (59, mMinus), (60, mTimes), (61, mAdd)] := (.cons implSharesOk_ok (.cons within_ok (.cons whole_ok (.cons minus_ok (.cons implTimes_ok (.cons implAdd_ok .nil))))))
  refine callOk_awp (ctx_ok eqOk hG) mixed (live := [true, true, true, false, false, false, true, true, true, true, true, true, true, false, false, false, false, false, false, false, false, true, false, false, true, true, true, true, false, false, false, false, true, false, false, false, false, false, false, false, true, false, false, false, false, false, false, false, false, false, false, false, false, false, false, false, true, false, false, false, false, false, false, false, false, true]) (dt := [(9, ⟨[(5, 6)], [], []⟩), (12, ⟨[(12, 14)], [0, 0, 0, 0, 0, 0, 0, 0, 0, 0, 0, 0, 0, 1], []⟩)]) Try.func21 rfl (by kernel_rfl) (by kernel_rfl) fun w0 hlens => ?_
  clear hlens
  cases hs : sharesB xss fs with
  | false => simp (config := {contextual := true, maxSteps := 1000000}) [Try.f21, List.range, List.range.loop, ints, intss, int, bool, row, frac, fracs, ← List.map_take, ← List.map_drop, mShares_at, hs, heirF]
  | true =>
  cases hin : inR 0 1 who with
  | false => simp (config := {contextual := true, maxSteps := 1000000}) [Try.f21, List.range, List.range.loop, ints, intss, int, bool, row, frac, fracs, ← List.map_take, ← List.map_drop, mShares_at, mWithin_in, hs, hin, heirF]
  | true =>
  obtain ⟨h2, hr, hl, hpart⟩ := shares_facts hs
  have hw := rect_len hr
  have hwho : who = 0 ∨ who = 1 := by simp only [inR, Bool.and_eq_true, decide_eq_true_eq] at hin; omega
  have hm : heirF xss fs who = heirTo xss fs who fs.length := by simp [heirF, hs, hin]
  rw [hm]
  generalize hres : heirTo xss fs who fs.length = r
  simp (config := {contextual := true, maxSteps := 1000000}) [Try.f21, List.range, List.range.loop, ints, intss, int, bool, row, frac, fracs, ← List.map_take, ← List.map_drop, mShares_at, mWithin_in, mWhole_at, hs, hin]
  refine awp_range (live := [true, true, true, false, false, false, true, true, true, true, true, true, true, false, false, false, false, false, false, false, false, true, false, false, true, true, true, true, false, false, false, false, true, false, false, false, false, false, false, false, true, false, false, false, false, false, false, false, false, false, false, false, false, false, false, false, true, false, false, false, false, false, false, false, false, true]) (ctx_ok eqOk hG) mixed [true, false, true, false, false, false, true, false, true, false, false, false, false, false, false, false, false, false, false, false, false, false, false, false, true, true, true] (fs.length) (fun k => (heirTo xss fs who k).2 = true) (fun k => ⟨[intss nl xss, .junk, int who, .junk, .junk, .junk, .ptr 0 [] 0 0, .junk, .ptr 1 [] 0 0, .junk, .junk, .junk, .junk, .junk, .junk, .junk, .junk, .junk, .junk, .junk, .junk, .junk, .junk, .junk, fracs nl' fs, int fs.length, int k, .junk, .junk, .junk, .junk, .junk, .junk, .junk, .junk, .junk, .junk, .junk, .junk, .junk, .junk, .junk, .junk, .junk, .junk, .junk, .junk, .junk, .junk, .junk, .junk, .junk, .junk, .junk, .junk, .junk, .junk, .junk, .junk, .junk, .junk, .junk, .junk, .junk, .junk, .junk, .junk, .junk, .junk], [⟨true, .sl false 2 [frac (0, 0)]⟩, ⟨true, .sl false 2 [frac (heirTo xss fs who k).1]⟩]⟩) ?_ (by simp [sub, slotsLe, clean, keep, refsL, refs, once, place, renL, ren, List.replicate, int, bool, intss, fracs, frac, heirTo]) ?_ ?_ ?_
  · omega
  · rfl
  · intro k h hp hwk
    have e : heirTo xss fs who (k + 1) = if (mulF (ent xss who.toNat k, 1) (turnF who fs[k])).2 = true then addF (heirTo xss fs who k).1 (mulF (ent xss who.toNat k, 1) (turnF who fs[k])).1 else ((0, 0), false) := by
      rw [heirTo, hp]; simp [List.getD_eq_getElem?_getD, h]
    have hbad : (heirTo xss fs who (k + 1)).2 = false → r = ((0, 0), false) := fun hb => by rw [← hres]; exact heirTo_bad (by omega) hb (by omega)
    have hi : who.toNat < xss.length := by omega
    have hrow := (rect_row hr hi).1
    have hkr : k < xss[who.toNat].2.length := by omega
    have e1 := ent_at hi hkr
    obtain ⟨s1, s2⟩ := sub_part (t := fs[k].1) (b := fs[k].2) (hpart k h)
    have pf := part_facts (t := fs[k].1) (b := fs[k].2) (hpart k h)
    have hsub := mMinus_at 1 1 fs[k].1 fs[k].2 pf.1
    rw [s1] at hsub
    have w1 : IntKind.i64.wrap (fs[k].2 - fs[k].1) = fs[k].2 - fs[k].1 := wrapI (by omega) (by omega)
    have ht := mTimes_at (ent xss who.toNat k) 1 (turnF who fs[k]).1 (turnF who fs[k]).2
    rw [show (((turnF who fs[k]).1, (turnF who fs[k]).2) : Int × Int) = turnF who fs[k] from rfl] at ht
    generalize hmm : mulF (ent xss who.toNat k, 1) (turnF who fs[k]) = m at e ht
    rw [e1] at ht
    clear hmm
    generalize heirTo xss fs who k = x at *
    generalize heirTo xss fs who (k + 1) = y at *
    obtain ⟨⟨x1, x2⟩, xb⟩ := x
    obtain ⟨⟨m1, m2⟩, mb⟩ := m
    have ha := mAdd_at x1 x2 m1 m2
    simp only at e ha hbad ht
    generalize hz : addF (x1, x2) (m1, m2) = z at *
    obtain ⟨⟨z1, z2⟩, zb⟩ := z
    obtain ⟨⟨y1, y2⟩, yb⟩ := y
    rcases hwho with rfl | rfl
    · simp only [turnF, Int.toNat_zero, Int.zero_ne_one, if_false, show ((0 : Int) = 1) = False from by simp] at ht hkr hi
      cases mb with
      | false =>
        simp at e; obtain ⟨⟨rfl, rfl⟩, rfl⟩ := e
        rw [hbad rfl]
        simp (config := {contextual := true, maxSteps := 1000000}) [List.range, List.range.loop, ints, intss, int, bool, row, frac, fracs, ← List.map_take, ← List.map_drop, mWhole_at, h, hi, hkr, hwk, ha, ht]
      | true =>
        simp at e; obtain ⟨⟨rfl, rfl⟩, rfl⟩ := e
        cases yb with
        | true => simp (config := {contextual := true, maxSteps := 1000000}) [List.range, List.range.loop, ints, intss, int, bool, row, frac, fracs, ← List.map_take, ← List.map_drop, mWhole_at, h, hi, hkr, hwk, ha, ht]
        | false =>
          rw [hbad rfl]
          simp (config := {contextual := true, maxSteps := 1000000}) [List.range, List.range.loop, ints, intss, int, bool, row, frac, fracs, ← List.map_take, ← List.map_drop, mWhole_at, h, hi, hkr, hwk, ha, ht]
    · simp only [turnF, if_true, show ((1 : Int).toNat) = 1 from rfl] at ht hkr hi
      cases mb with
      | false =>
        simp at e; obtain ⟨⟨rfl, rfl⟩, rfl⟩ := e
        rw [hbad rfl]
        simp (config := {contextual := true, maxSteps := 1000000}) [List.range, List.range.loop, ints, intss, int, bool, row, frac, fracs, ← List.map_take, ← List.map_drop, mWhole_at, h, hi, hkr, hwk, ha, ht, hsub, w1]
      | true =>
        simp at e; obtain ⟨⟨rfl, rfl⟩, rfl⟩ := e
        cases yb with
        | true => simp (config := {contextual := true, maxSteps := 1000000}) [List.range, List.range.loop, ints, intss, int, bool, row, frac, fracs, ← List.map_take, ← List.map_drop, mWhole_at, h, hi, hkr, hwk, ha, ht, hsub, w1]
        | false =>
          rw [hbad rfl]
          simp (config := {contextual := true, maxSteps := 1000000}) [List.range, List.range.loop, ints, intss, int, bool, row, frac, fracs, ← List.map_take, ← List.map_drop, mWhole_at, h, hi, hkr, hwk, ha, ht, hsub, w1]
  · intro hp
    rw [hres] at hp
    obtain ⟨⟨r1, r2⟩, rb⟩ := r
    simp only at hp
    subst hp
    simp (config := {contextual := true, maxSteps := 1000000}) [List.range, List.range.loop, ints, intss, int, bool, row, frac, fracs, ← List.map_take, ← List.map_drop, hres]

end Go.Proofs.Ytakladjlnkojjaa.Ax

/-
  Contracts: AreEqualHeirs (both programs). No condition.
-/
namespace Go.Proofs.Ytakladjlnkojjaa.Ax
open Go Go.RowKit
set_option linter.unusedSimpArgs false

def equalHB (xss : List (Bool × List Int)) (fs : List (Int × Int)) : Bool := (heirF xss fs 0).2 && (heirF xss fs 1).2 && decide ((heirF xss fs 0).1 = (heirF xss fs 1).1)

noncomputable def mEqualH : List AV → Option AV := mk (fun _ => True) (fun (p : (Bool) × (List (Bool × List Int)) × (Bool) × (List (Int × Int))) => [intss p.1 p.2.1, fracs p.2.2.1 p.2.2.2]) (fun p => bool (equalHB p.2.1 p.2.2.2))
theorem mEqualH_at (nl : Bool) (xss : List (Bool × List Int)) (nl' : Bool) (fs : List (Int × Int)) : mEqualH [.sl nl 1 (xss.map row), .sl nl' 2 (fs.map frac)] = some (.v (.bool (equalHB xss fs))) :=
  mk_eq (enc := fun (p : (Bool) × (List (Bool × List Int)) × (Bool) × (List (Int × Int))) => [intss p.1 p.2.1, fracs p.2.2.1 p.2.2.2]) (x := (nl, xss, nl', fs)) (by rintro ⟨a0, a1, a2, a3⟩ ⟨b0, b1, b2, b3⟩ h; simp [ints, intss, int, bool, row, frac, fracs, map_int_inj, map_row_inj, frac_inj, map_frac_inj] at h; simp [h]) trivial

set_option maxHeartbeats 1000000 in
theorem implEqualH_ok : FnOk Try.prog 25 mEqualH := by
  refine mk_ok fun ⟨nl, xss, nl', fs⟩ _ => ?_
  have hG : FnsOk Try.prog [(21, mHeir)] := (.cons implHeir_ok .nil)
  refine callOk_awp (ctx_ok eqOk hG) mixed (live := [true, true, false, false, true, true, true, true, true]) (dt := []) Try.func25 rfl (by kernel_rfl) (by kernel_rfl) fun w0 hlens => ?_
  clear hlens
  have a0 := mHeir_at nl xss nl' fs 0
  have a1 := mHeir_at nl xss nl' fs 1
  unfold equalHB
  generalize heirF xss fs 0 = p at *
  generalize heirF xss fs 1 = q at *
  obtain ⟨⟨p1, p2⟩, pb⟩ := p
  obtain ⟨⟨q1, q2⟩, qb⟩ := q
  simp only at a0 a1
  cases pb <;> cases qb <;> simp (config := {contextual := true}) [Try.f25, List.range, List.range.loop, ints, intss, int, bool, row, frac, fracs, ← List.map_take, ← List.map_drop, a0, a1]

end Go.Proofs.Ytakladjlnkojjaa.Ax

/-
  Contract: FractionOf behind a divisor above 0 (the reference). No condition.
-/
namespace Go.Proofs.Ytakladjlnkojjaa.Ax
open Go Go.RowKit
set_option linter.unusedSimpArgs false

noncomputable def mFOf : List AV → Option AV := mk (fun p => -1000000000000000000 ≤ p.1 ∧ p.1 ≤ 1000000000000000000 ∧ 1 ≤ p.2 ∧ p.2 ≤ 1000000000000000000) (fun (p : (Int) × (Int)) => [int p.1, int p.2]) (fun p => .tup [.agg [.v (.int .i64 (mkF p.1 p.2).1.1), .v (.int .i64 (mkF p.1 p.2).1.2)], .v (.bool (mkF p.1 p.2).2)])
theorem mFOf_at (t : Int) (b : Int) (hpre : -1000000000000000000 ≤ t ∧ t ≤ 1000000000000000000 ∧ 1 ≤ b ∧ b ≤ 1000000000000000000) : mFOf [.v (.int .i64 t), .v (.int .i64 b)] = some (.tup [.agg [.v (.int .i64 (mkF t b).1.1), .v (.int .i64 (mkF t b).1.2)], .v (.bool (mkF t b).2)]) :=
  mk_eq (enc := fun (p : (Int) × (Int)) => [int p.1, int p.2]) (x := (t, b)) (by rintro ⟨a0, a1⟩ ⟨b0, b1⟩ h; simp [ints, intss, int, bool, row, frac, fracs, map_int_inj, map_row_inj, frac_inj, map_frac_inj] at h; simp [h]) hpre
end Go.Proofs.Ytakladjlnkojjaa.Ax
