/-
  Contracts: the reference's draw of counts. No condition.
-/
import Derived.Test.YtkfmhpgnhkdebaaGreatDoorCG20
import Derived.Test.YtkfmhpgnhkdebaaGreatDoorCB2
import Derived.Test.YtkfmhpgnhkdebaaGreatDoorCG14
import Derived.Test.YtkfmhpgnhkdebaaGreatDoorCG15
import Derived.Test.YtkfmhpgnhkdebaaGreatDoorCG17
import Derived.Test.YtkfmhpgnhkdebaaGreatDoorCG19
namespace Go.Proofs.YtkfmhpgnhkdebaaGreatDoor.Ax
open Go Go.RowKit
set_option linter.unusedSimpArgs false
theorem l01Once_cur {nl : Bool} {by' : List Int} {s : Int × Int} (hs : CrOk by' s) {n : Nat} (h0 : 0 < n) (hn : n ≤ 256) : CurOk Tryz.prog 149 (byts nl by') 179 [int n] s (crS by' s) (.v (.bool (decide (bw by' s n = 0)))) := by
  have hcur := l01Below_cur (nl := nl) hs h0 hn
  have hG : FnsOk Tryz.prog [] := .nil
  refine curOk_of_ty (dt := []) (ctx_ok eqOk hG) Tryz.func149 rfl (by kernel_rfl) (by kernel_rfl) fun w F0 code b hbytes hF0 hbF => ?_
  refine ty_seq (ty_awp (ctx_ok eqOk hG) mixed curJ_stable (live := [true, true, false, false, true]) fun X A w1 => ?_)
  simp [Tryz.f149, List.range, List.range.loop, ints, intss, int, bool, row, frac, fracs, ← List.map_take, ← List.map_drop, thenY_normal]
  refine ty_seq (ty_reg (tyo_ops 2 (ctx_ok eqOk hG) curJ_stable (by simp) ?_))
  simp [List.range, List.range.loop, ints, intss, int, bool, row, frac, fracs, ← List.map_take, ← List.map_drop]
  refine tyo_cur hbytes hF0 hbF hcur rfl rfl rfl (by rfl) (by rfl) (by rfl) ?_
  simp [List.range, List.range.loop, ints, intss, int, bool, row, frac, fracs, ← List.map_take, ← List.map_drop]
  refine tyo_ops 2 (ctx_ok eqOk hG) curJ_stable (by simp) ?_
  simp [List.range, List.range.loop, ints, intss, int, bool, row, frac, fracs, ← List.map_take, ← List.map_drop]
  refine tyo_end (by simp) ?_
  simp only [thenY_normal]
  refine ty_awp (ctx_ok eqOk hG) mixed curJ_stable (live := [true, true, false, false, true]) fun X A w1 => ?_
  simp [List.range, List.range.loop, ints, intss, int, bool, row, frac, fracs, ← List.map_take, ← List.map_drop, thenY_ret]
  rfl
set_option maxRecDepth 8000 in
set_option maxHeartbeats 4000000 in
theorem l13Draw_cur {nl : Bool} {by' : List Int} {s : Int × Int} (hs : CrOk by' s) : CurOk Tryz.prog 72 (byts nl by') 179 [] s (ctI by' (crN by' s 1) (ctK by' s)) (.sl false 1 ((ctA by' s).map int)) := by
  have h1 := crN_ok hs 1
  have hK := ctK_bd (by' := by') (s := s)
  have hfix : ctA by' s = fix7 (ctL by' (crN by' s 1) (ctK by' s)) := rfl
  have hb5 := l01Below_cur (nl := nl) hs (n := 5) (by omega) (by omega)
  have hstep := fun (j : Nat) => ctI_ok h1 j
  rw [hfix]
  have hu : crS by' s = crN by' s 1 := rfl
  generalize crN by' s 1 = u at *
  generalize ctK by' s = n at *
  have hG : FnsOk Tryz.prog [(150, mSum)] := (.cons l13Sum_ok .nil)
  refine curOk_of_ty (dt := []) (ctx_ok eqOk hG) Tryz.func72 rfl (by kernel_rfl) (by kernel_rfl) fun w F0 code b hbytes hF0 hbF => ?_
  refine ty_seq (ty_awp (ctx_ok eqOk hG) mixed curJ_stable (live := [true, false, true, true, true, true, false, false, false, false, false, true, false, false, false, false, false, true, false, false, false, false, false, false, false, false, false, false, false, true]) fun X A w1 => ?_)
  simp [Tryz.f72, List.range, List.range.loop, ints, intss, int, bool, row, frac, fracs, ← List.map_take, ← List.map_drop, thenY_normal]
  refine ty_seq (ty_awp (ctx_ok eqOk hG) mixed curJ_stable (live := [true, false, true, true, true, true, false, false, false, false, false, true, false, false, false, false, false, true, false, false, false, false, false, false, false, false, false, false, false, true]) fun X A w1 => ?_)
  simp [List.range, List.range.loop, ints, intss, int, bool, row, frac, fracs, ← List.map_take, ← List.map_drop, thenY_normal]
  refine ty_seq (ty_seq (ty_reg (tyo_ops 1 (ctx_ok eqOk hG) curJ_stable (by simp) ?_)))
  simp [List.range, List.range.loop, ints, intss, int, bool, row, frac, fracs, ← List.map_take, ← List.map_drop]
  refine tyo_cur hbytes hF0 hbF hb5 rfl rfl rfl (by rfl) (by rfl) (by rfl) ?_
  simp [List.range, List.range.loop, ints, intss, int, bool, row, frac, fracs, ← List.map_take, ← List.map_drop]
  refine tyo_ops 2 (ctx_ok eqOk hG) curJ_stable (by simp) ?_
  have e0 : IntKind.i64.wrap (1 + bw by' s 5) = (n : Int) := by rw [hK.2.2]; exact wrapI (by omega) (by omega)
  simp [List.range, List.range.loop, ints, intss, int, bool, row, frac, fracs, ← List.map_take, ← List.map_drop, e0]
  refine tyo_end (by simp) ?_
  simp only [thenY_normal]
  have hw : ∀ i : Nat, i ≤ n → IntKind.i64.wrap ((n : Int) - i - 1) = (n : Int) - i - 1 := fun i _ => wrapI (by omega) (by omega)
  refine ty_block (ty_loop (α := {i : Nat // i ≤ n}) (fun i => ⟨[.v (ptrV b), .junk, .junk, .ref 0 [] 0 i.1, int ((n : Int) - i.1), .junk, .junk, .junk, .junk, .junk, .junk, .junk, .junk, .junk, .junk, .junk, .junk, .junk, .junk, .junk, .junk, .junk, .junk, .junk, .junk, .junk, .junk, .junk, .junk, .junk, .junk, .junk, .junk], [⟨true, .sl false 1 ((ctL by' u i.1).map int)⟩]⟩) (fun i => ctI by' u i.1) (fun i => n - i.1) ⟨0, Nat.zero_le _⟩ ⟨?_, ?_⟩ ?_)
  · simp [sub, slotsLe, clean, keep, refsL, refs, once, place, renL, ren, List.replicate, int, bool, ctL]
  · exact hu
  rintro ⟨i, hi⟩
  have hvl := ctL_len (by' := by') (s := u) (k := i)
  have hbd := ctL_bd (by' := by') (s := u) (k := i)
  by_cases hin : i < n
  rotate_left
  · obtain rfl : i = n := by omega
    have hsm := mSum_at false (ctL by' u i)
    have hs2 := sumW_all (xs := ctL by' u i) (fun x hx => by have := hbd x hx; omega) (by omega)
    have hfx : fix7 (ctL by' u i) = if (ctL by' u i).sum = 0 then (ctL by' u i).set 0 7 else ctL by' u i := rfl
    rw [hs2] at hsm
    rw [hfx]
    refine ty_seq (ty_awp (ctx_ok eqOk hG) mixed curJ_stable (live := [true, false, true, true, true, true, false, false, false, false, false, true, false, false, false, false, false, true, false, false, false, false, false, false, false, false, false, false, false, true]) fun X A w1 => ?_)
    simp [List.range, List.range.loop, ints, intss, int, bool, row, frac, fracs, ← List.map_take, ← List.map_drop, thenY_normal, thenY_exit, inBY_exit]
    generalize ctL by' u i = V at *
    have hvt : List.take i V = V := List.take_of_length_le (by omega)
    have hi0 : 0 < i := by omega
    by_cases h0 : V.sum = 0
    · rw [if_pos h0]
      have hm : (V.set 0 7).map int = (V.map int).set 0 (.v (.int .i64 7)) := by rw [List.map_set]; rfl
      have e0 : V[0]'(by omega) = at0 V 0 := (at0_eq (by omega)).symm
      refine ty_awp (ctx_ok eqOk hG) mixed curJ_stable (live := [true, false, true, true, true, true, false, false, false, false, false, true, false, false, false, false, false, true, false, false, false, false, false, false, false, false, false, false, false, true]) fun X A w1 => ?_
      simp [List.range, List.range.loop, ints, intss, int, bool, row, frac, fracs, ← List.map_take, ← List.map_drop, thenY_ret, hsm, h0, hvl, hvt, hi0, hm, e0]
    · rw [if_neg h0]
      refine ty_awp (ctx_ok eqOk hG) mixed curJ_stable (live := [true, false, true, true, true, true, false, false, false, false, false, true, false, false, false, false, false, true, false, false, false, false, false, false, false, false, false, false, false, true]) fun X A w1 => ?_
      simp [List.range, List.range.loop, ints, intss, int, bool, row, frac, fracs, ← List.map_take, ← List.map_drop, thenY_ret, hsm, h0, hvl, hvt, hi0]
  have hst := ctL_succ (by' := by') (s := u) (k := i)
  have hnx : ctI by' u (i + 1) = ctN by' (ctI by' u i) := rfl
  have hbx := ctX_bd (by' := by') (s := ctI by' u i)
  have hok := hstep i
  have hX : ctX by' (ctI by' u i) = if bw by' (crN by' (ctI by' u i) 1) 4 = 0 then bw by' (ctI by' u i) 60 * 97 + bw by' (crN by' (ctI by' u i) 2) 50 else bw by' (ctI by' u i) 60 := rfl
  have hN : ctN by' (ctI by' u i) = if bw by' (crN by' (ctI by' u i) 1) 4 = 0 then crN by' (ctI by' u i) 3 else crN by' (ctI by' u i) 2 := rfl
  generalize ctI by' u i = v at *
  have c1 := l01Below_cur (nl := nl) hok (n := 60) (by omega) (by omega)
  have c2 := l01Once_cur (nl := nl) (crN_ok hok 1) (n := 4) (by omega) (by omega)
  have c3 := l01Below_cur (nl := nl) (crN_ok hok 2) (n := 50) (by omega) (by omega)
  have b1 := bw_bd (by' := by') (s := v) (n := 60) (by omega)
  have b3 := bw_bd (by' := by') (s := crN by' v 2) (n := 50) (by omega)
  have hini : (i : Int) < (n : Int) := by omega
  have hbb : i + 1 ≤ 4611686018427387904 ∧ (i + 1) * 8 ≤ 140737488355328 := by omega
  have hw' := hw i (by omega)
  refine ty_seq (ty_awp (ctx_ok eqOk hG) mixed curJ_stable (live := [true, false, true, true, true, true, false, false, false, false, false, true, false, false, false, false, false, true, false, false, false, false, false, false, false, false, false, false, false, true]) fun X A w1 => ?_)
  simp [List.range, List.range.loop, ints, intss, int, bool, row, frac, fracs, ← List.map_take, ← List.map_drop, thenY_normal, hini]
  refine ty_seq (ty_block (ty_seq (ty_reg (tyo_ops 1 (ctx_ok eqOk hG) curJ_stable (by simp) ?_))))
  simp [List.range, List.range.loop, ints, intss, int, bool, row, frac, fracs, ← List.map_take, ← List.map_drop]
  refine tyo_cur hbytes hF0 hbF c1 rfl rfl rfl (by rfl) (by rfl) (by rfl) ?_
  simp [List.range, List.range.loop, ints, intss, int, bool, row, frac, fracs, ← List.map_take, ← List.map_drop]
  refine tyo_ops 1 (ctx_ok eqOk hG) curJ_stable (by simp) ?_
  simp [List.range, List.range.loop, ints, intss, int, bool, row, frac, fracs, ← List.map_take, ← List.map_drop]
  refine tyo_end (by simp) ?_
  simp only [thenY_normal]
  refine ty_seq (ty_seq (ty_reg (tyo_ops 1 (ctx_ok eqOk hG) curJ_stable (by simp) ?_)))
  simp [List.range, List.range.loop, ints, intss, int, bool, row, frac, fracs, ← List.map_take, ← List.map_drop]
  refine tyo_cur hbytes hF0 hbF c2 rfl rfl rfl (by rfl) (by rfl) (by rfl) ?_
  simp [List.range, List.range.loop, ints, intss, int, bool, row, frac, fracs, ← List.map_take, ← List.map_drop]
  refine tyo_end (by simp) ?_
  simp only [thenY_normal]
  by_cases hy : bw by' (crN by' v 1) 4 = 0
  · rw [if_pos hy] at hX hN
    have ww1 : IntKind.i64.wrap (bw by' v 60 * 97) = bw by' v 60 * 97 := wrapI (by omega) (by omega)
    have ww2 : IntKind.i64.wrap (bw by' v 60 * 97 + bw by' (crN by' v 2) 50) = ctX by' v := by rw [hX]; exact wrapI (by omega) (by omega)
    refine ty_cond (t := true) (by simp [ev, hy]) (fun _ => ?_) (fun h => by cases h)
    refine ty_reg (tyo_ops 3 (ctx_ok eqOk hG) curJ_stable (by simp) ?_)
    simp [List.range, List.range.loop, ints, intss, int, bool, row, frac, fracs, ← List.map_take, ← List.map_drop, ww1]
    refine tyo_cur hbytes hF0 hbF c3 rfl rfl rfl (by rfl) (by rfl) (by rfl) ?_
    simp [List.range, List.range.loop, ints, intss, int, bool, row, frac, fracs, ← List.map_take, ← List.map_drop]
    refine tyo_ops 2 (ctx_ok eqOk hG) curJ_stable (by simp) ?_
    simp [List.range, List.range.loop, ints, intss, int, bool, row, frac, fracs, ← List.map_take, ← List.map_drop, ww2]
    refine tyo_end (by simp) ?_
    simp only [thenY_normal]
    refine ty_awp (ctx_ok eqOk hG) mixed curJ_stable (live := [true, false, true, true, true, true, false, false, false, false, false, true, false, false, false, false, false, true, false, false, false, false, false, false, false, false, false, false, false, true]) fun X A w1 => ?_
    simp [List.range, List.range.loop, ints, intss, int, bool, row, frac, fracs, ← List.map_take, ← List.map_drop, thenY_normal, inBY_normal, hvl, hbb]
    refine ty_awp (ctx_ok eqOk hG) mixed curJ_stable (live := [true, false, true, true, true, true, false, false, false, false, false, true, false, false, false, false, false, true, false, false, false, false, false, false, false, false, false, false, false, true]) fun X A w1 => ?_
    simp [List.range, List.range.loop, ints, intss, int, bool, row, frac, fracs, ← List.map_take, ← List.map_drop, thenY_normal, hw']
    refine ⟨⟨i + 1, hin⟩, ?_, ?_, by simp; omega⟩
    · simp [sub, slotsLe, clean, keep, refsL, refs, once, place, renL, ren, List.replicate, int, bool, hst]; try omega
    · show _ = ctI by' u (i + 1)
      rw [hnx, hN]; rfl
  · rw [if_neg hy] at hX hN
    refine ty_cond (t := false) (by simp [ev, hy]) (fun h => by cases h) (fun _ => ?_)
    refine ty_awp (ctx_ok eqOk hG) mixed curJ_stable (live := [true, false, true, true, true, true, false, false, false, false, false, true, false, false, false, false, false, true, false, false, false, false, false, false, false, false, false, false, false, true]) fun X A w1 => ?_
    simp [List.range, List.range.loop, ints, intss, int, bool, row, frac, fracs, ← List.map_take, ← List.map_drop, thenY_normal]
    refine ty_awp (ctx_ok eqOk hG) mixed curJ_stable (live := [true, false, true, true, true, true, false, false, false, false, false, true, false, false, false, false, false, true, false, false, false, false, false, false, false, false, false, false, false, true]) fun X A w1 => ?_
    simp [List.range, List.range.loop, ints, intss, int, bool, row, frac, fracs, ← List.map_take, ← List.map_drop, thenY_normal, inBY_normal, hvl, hbb]
    refine ty_awp (ctx_ok eqOk hG) mixed curJ_stable (live := [true, false, true, true, true, true, false, false, false, false, false, true, false, false, false, false, false, true, false, false, false, false, false, false, false, false, false, false, false, true]) fun X A w1 => ?_
    simp [List.range, List.range.loop, ints, intss, int, bool, row, frac, fracs, ← List.map_take, ← List.map_drop, thenY_normal, hw']
    refine ⟨⟨i + 1, hin⟩, ?_, ?_, by simp; omega⟩
    · simp [sub, slotsLe, clean, keep, refsL, refs, once, place, renL, ren, List.replicate, int, bool, hst, hX]; try omega
    · show _ = ctI by' u (i + 1)
      rw [hnx, hN]; rfl
end Go.Proofs.YtkfmhpgnhkdebaaGreatDoor.Ax
namespace Go.Proofs.YtkfmhpgnhkdebaaGreatDoor.Ax
open Go Go.RowKit
set_option linter.unusedSimpArgs false
def mkCts (by' : List Int) (n : Nat) : List Int := ctA by' (crB by' n)
theorem makeCounts_call {nl : Bool} {by' : List Int} (hlen : by'.length ≤ 1048576) (n : Nat) (hn : n ≤ 1000) : CallOk Tryz.prog 14 [byts nl by', int n] (.sl false 1 ((mkCts by' n).map int)) := by
  have hnew := l32New_new (nl := nl) hlen n hn
  have hcur := l13Draw_cur (nl := nl) (crN_ok (cr0_ok hlen) n)
  have hG : FnsOk Tryz.prog [] := .nil
  refine callOk_of_new (s1 := ctI by' (crN by' (crB by' n) 1) (ctK by' (crB by' n))) Tryz.func14 rfl (by kernel_rfl) (new_fn (dt := []) (ctx_ok eqOk hG) Tryz.func14 rfl (by kernel_rfl) rfl (by rfl) (pre := [_, _]) rfl rfl rfl (by rfl) (by rfl) (by rfl) (by rfl) hnew fun w F0 B0 code b hbytes hF0 hbF => ?_)
  simp [Tryz.f14, List.range, List.range.loop, ints, intss, int, bool, row, frac, fracs, ← List.map_take, ← List.map_drop, byts]
  refine tyo_cur hbytes hF0 hbF hcur rfl rfl rfl (by rfl) (by rfl) (by rfl) ?_
  simp [List.range, List.range.loop, ints, intss, int, bool, row, frac, fracs, ← List.map_take, ← List.map_drop]
  refine tyo_ops 1 (ctx_ok eqOk hG) curJ_stable (by simp) ?_
  simp [List.range, List.range.loop, ints, intss, int, bool, row, frac, fracs, ← List.map_take, ← List.map_drop]
  refine tyo_end (by simp) ?_
  simp only [thenY_normal]
  refine ty_awp (ctx_ok eqOk hG) mixed curJ_stable (live := [true, true, false, false, true]) fun X A w1 => ?_
  simp [List.range, List.range.loop, ints, intss, int, bool, row, frac, fracs, ← List.map_take, ← List.map_drop, thenY_ret, mkCts]
  constructor <;> rfl
noncomputable def mMkCts : List AV → Option AV := mk (fun p => p.2.1.length ≤ 1048576 ∧ p.2.2 ≤ 1000) (fun (p : Bool × List Int × Nat) => [byts p.1 p.2.1, int (p.2.2 : Int)]) (fun p => ints false (mkCts p.2.1 p.2.2))
theorem mMkCts_at (nl : Bool) (by' : List Int) (n : Nat) (h : by'.length ≤ 1048576 ∧ n ≤ 1000) : mMkCts [.sl nl 1 (by'.map bAV), .v (.int .i64 (n : Int))] = some (.sl false 1 ((mkCts by' n).map int)) :=
  mk_eq (enc := fun (p : Bool × List Int × Nat) => [byts p.1 p.2.1, int (p.2.2 : Int)]) (x := (nl, by', n)) (by rintro ⟨a, b, c⟩ ⟨d, e, f⟩ h; simp [byts, int, map_bAV_inj] at h; obtain ⟨⟨rfl, rfl⟩, h⟩ := h; simp only; rw [show c = f by omega]) h
theorem makeCounts_ok : FnOk Tryz.prog 14 mMkCts := by
  refine mk_ok fun ⟨nl, by', n⟩ h => ?_
  exact makeCounts_call h.1 n h.2
def mkPrf (by' : List Int) (n m : Nat) : List Vt := prD by' (crB by' n) m
def prE (by' : List Int) (s : Int × Int) (m : Nat) : Int × Int := if nvD by' s = 0 then crN by' s m else crN by' s (1 + nvD by' s * m)
set_option maxRecDepth 8000 in
set_option maxHeartbeats 2000000 in
theorem makeProfile_call {nl : Bool} {by' : List Int} (hlen : by'.length ≤ 1048576) (n m : Nat) (hn : n ≤ 1000) (h1 : 1 ≤ m) (h5 : m ≤ 5) : CallOk Tryz.prog 13 [byts nl by', int n, int m] (prof m false (mkPrf by' n m)) := by
  have hnew := l32New_new (nl := nl) hlen n hn
  have hok : CrOk by' (crB by' n) := crN_ok (cr0_ok hlen) n
  have hP : mkPrf by' n m = if nvD by' (crB by' n) = 0 then [((false, rkD by' (crN by' (crB by' n) 1) m (m - 1)), 1)] else vsD by' (crB by' n) m (nvD by' (crB by' n)) := rfl
  rw [hP]
  clear hP
  generalize crB by' n = S at *
  have hcur := l04Draw_cur (nl := nl) hok h1 h5
  have hrk := l03Draw_cur (nl := nl) (crN_ok hok 1) h1 h5
  obtain ⟨q1, _, _⟩ := rkD_ok (by' := by') (s := crN by' S 1) (m := m) (t := m - 1) (by omega)
  have hE : prE by' S m = if nvD by' S = 0 then crN by' S m else crN by' S (1 + nvD by' S * m) := rfl
  rw [crN_add, show 1 + (m - 1) = m by omega] at hrk
  have hG : FnsOk Tryz.prog [] := .nil
  refine callOk_of_new (s1 := prE by' S m) Tryz.func13 rfl (by kernel_rfl) (new_fn (dt := [(5, ⟨[(0, 6), (1, 6)], [0, 0, 0, 0, 1, 0, 1, 2], []⟩)]) (st0 := ⟨[byts nl by', int (n : Int), int (m : Int), .junk, .junk, .junk, .ptr 0 [] 0 0, .junk, .junk, .junk, .junk, .junk, .junk, .junk, .junk, .junk, .junk, .junk, .junk, .junk, .junk, .junk, .junk, .junk, .junk, .junk, .junk, .junk, .junk, .junk, .junk, .junk], [⟨true, .sl false 2 [.agg [.v (.int .i64 0), .sl true 1 []]]⟩]⟩) (ctx_ok eqOk hG) Tryz.func13 rfl (by kernel_rfl) rfl (by simp [Tryz.f13, List.range, List.range.loop, ints, intss, int, bool, row, frac, fracs, ← List.map_take, ← List.map_drop]) (pre := [_, _]) rfl rfl rfl (by rfl) (by rfl) (by rfl) (by rfl) hnew fun w F0 B0 code b hbytes hF0 hbF => ?_)
  simp [Tryz.f13, List.range, List.range.loop, ints, intss, int, bool, row, frac, fracs, ← List.map_take, ← List.map_drop, byts]
  refine tyo_ops 1 (ctx_ok eqOk hG) curJ_stable (by simp) ?_
  simp [List.range, List.range.loop, ints, intss, int, bool, row, frac, fracs, ← List.map_take, ← List.map_drop]
  refine tyo_end (by simp) ?_
  simp only [thenY_normal]
  have hmx : max 1 (min (m : Int) 5) = m := by omega
  refine ty_seq (ty_awp (ctx_ok eqOk hG) mixed curJ_stable (live := [true, true, true, false, false, false, true, true, true, false, false, false, false, false, false, false, false, false, false, false, false, true]) fun X A w1 => ?_)
  simp [List.range, List.range.loop, ints, intss, int, bool, row, frac, fracs, ← List.map_take, ← List.map_drop, thenY_normal, hmx]
  refine ty_seq (ty_reg (tyo_ops 2 (ctx_ok eqOk hG) curJ_stable (by simp) ?_))
  simp [List.range, List.range.loop, ints, intss, int, bool, row, frac, fracs, ← List.map_take, ← List.map_drop]
  refine tyo_cur hbytes hF0 hbF hcur rfl rfl rfl (by rfl) (by rfl) (by rfl) ?_
  have hvl := vsD_len (by' := by') (s := S) (m := m) (n := nvD by' S)
  generalize hn0 : nvD by' S = k at *
  generalize vsD by' S m k = V at *
  generalize rkD by' (crN by' S 1) m (m - 1) = R at *
  rw [hE]
  cases V with
  | nil =>
    obtain rfl : k = 0 := by simpa using hvl.symm
    simp [List.range, List.range.loop, ints, intss, int, bool, row, frac, fracs, ← List.map_take, ← List.map_drop, pvR_nil]
    refine tyo_ops 2 (ctx_ok eqOk hG) curJ_stable (by simp) ?_
    simp [List.range, List.range.loop, ints, intss, int, bool, row, frac, fracs, ← List.map_take, ← List.map_drop]
    refine tyo_end (by simp) ?_
    simp only [thenY_normal]
    refine ty_seq (ty_seq (ty_awp (ctx_ok eqOk hG) mixed curJ_stable (live := [true, true, true, false, false, false, true, true, true, false, false, false, false, false, false, false, false, false, false, false, false, true]) fun X A w1 => ?_))
    simp [List.range, List.range.loop, ints, intss, int, bool, row, frac, fracs, ← List.map_take, ← List.map_drop, thenY_normal]
    refine ty_cond (t := true) (by simp [ev]) (fun _ => ?_) (fun h => by cases h)
    refine ty_drawCur (ctx_ok eqOk hG) mixed hbytes hF0 hbF hrk (c := 4) rfl rfl rfl (fun _ => rfl) (by kernel_rfl) ?_
    simp [List.range, List.range.loop, ints, intss, int, bool, row, frac, fracs, ← List.map_take, ← List.map_drop, curCtx, curM_at, q1]
    simp only [thenY_normal]
    refine ty_awp (ctx_ok eqOk hG) mixed curJ_stable (live := [true, true, true, false, false, false, true, true, true, false, false, false, false, false, false, false, false, false, false, false, false, true]) fun X A w1 => ?_
    simp [List.range, List.range.loop, ints, intss, int, bool, row, frac, fracs, ← List.map_take, ← List.map_drop, thenY_ret, prof, vote]
  | cons v V =>
    have hk0 : ¬ k = 0 := by simp at hvl; omega
    rw [if_neg hk0]
    simp [List.range, List.range.loop, ints, intss, int, bool, row, frac, fracs, ← List.map_take, ← List.map_drop, pvR_cons]
    refine tyo_ops 2 (ctx_ok eqOk hG) curJ_stable (by simp) ?_
    simp [List.range, List.range.loop, ints, intss, int, bool, row, frac, fracs, ← List.map_take, ← List.map_drop]
    refine tyo_end (by simp) ?_
    simp only [thenY_normal]
    refine ty_awp (ctx_ok eqOk hG) mixed curJ_stable (live := [true, true, true, false, false, false, true, true, true, false, false, false, false, false, false, false, false, false, false, false, false, true]) fun X A w1 => ?_
    simp [List.range, List.range.loop, ints, intss, int, bool, row, frac, fracs, ← List.map_take, ← List.map_drop, thenY_ret, prof, hk0]
noncomputable def mMkPrf : List AV → Option AV := mk (fun p => p.2.1.length ≤ 1048576 ∧ p.2.2.1 ≤ 1000 ∧ 1 ≤ p.2.2.2 ∧ p.2.2.2 ≤ 5) (fun (p : Bool × List Int × Nat × Nat) => [byts p.1 p.2.1, int (p.2.2.1 : Int), int (p.2.2.2 : Int)]) (fun p => prof p.2.2.2 false (mkPrf p.2.1 p.2.2.1 p.2.2.2))
theorem mMkPrf_at (nl : Bool) (by' : List Int) (n m : Nat) (h : by'.length ≤ 1048576 ∧ n ≤ 1000 ∧ 1 ≤ m ∧ m ≤ 5) : mMkPrf [.sl nl 1 (by'.map bAV), .v (.int .i64 (n : Int)), .v (.int .i64 (m : Int))] = some (.agg [.v (.int .i64 (m : Int)), .sl false 2 ((mkPrf by' n m).map vote)]) :=
  mk_eq (enc := fun (p : Bool × List Int × Nat × Nat) => [byts p.1 p.2.1, int (p.2.2.1 : Int), int (p.2.2.2 : Int)]) (x := (nl, by', n, m)) (by
    rintro ⟨a, b, c, d⟩ ⟨a', b', c', d'⟩ h
    simp [byts, int, map_bAV_inj] at h
    obtain ⟨⟨rfl, rfl⟩, h1, h2⟩ := h
    simp only
    rw [show c = c' by omega, show d = d' by omega]) h
theorem makeProfile_ok : FnOk Tryz.prog 13 mMkPrf := by
  refine mk_ok fun ⟨nl, by', n, m⟩ ⟨h1, h2, h3, h4⟩ => ?_
  exact makeProfile_call h1 n m h2 h3 h4
end Go.Proofs.YtkfmhpgnhkdebaaGreatDoor.Ax
namespace Go.Proofs.YtkfmhpgnhkdebaaGreatDoor.Ax
open Go Go.RowKit
set_option linter.unusedSimpArgs false
def fracS (f : Int × Int) : ByteArray := if fracOk f = true then (if f.2 = 1 then itoaS f.1 else itoaS f.1 ++ ⟨#[47]⟩ ++ itoaS f.2) else ⟨#[]⟩
noncomputable def mFFrac : List AV → Option AV := mk (fun _ => True) (fun (p : (Int) × (Int)) => [frac (p.1, p.2)]) (fun p => .v (.string (fracS (p.1, p.2))))
theorem mFFrac_at (a : Int) (b : Int) : mFFrac [.agg [.v (.int .i64 a), .v (.int .i64 b)]] = some (.v (.string (fracS (a, b)))) :=
  mk_eq (enc := fun (p : (Int) × (Int)) => [frac (p.1, p.2)]) (x := (a, b)) (by rintro ⟨a0, a1⟩ ⟨b0, b1⟩ h; simp [ints, intss, int, bool, row, frac, fracs, map_int_inj, map_row_inj, frac_inj, map_frac_inj] at h; simp [h]) trivial
theorem itoaS_size20 {n : Int} (h : inI n) : (itoaS n).size ≤ 20 := by unfold itoaS; rw [ba_size]; exact itoa_len h
set_option maxHeartbeats 1000000 in
theorem implFormatFraction_ok : FnOk Tryz.prog 43 mFFrac := by
  refine mk_ok fun ⟨a, b⟩ _ => ?_
  have hG : FnsOk Tryz.prog [(111, mFracOk), (17, mItoa)] := (.cons implFractionOk_ok (.cons implFormatInt_ok .nil))
  refine callOk_awp (ctx_ok eqOk hG) mixed (live := [true, true, true, true, false, false, false, true]) (dt := [(5, ⟨[], [], []⟩)]) Tryz.func43 rfl (by kernel_rfl) (by kernel_rfl) fun w0 hlens => ?_
  clear hlens
  cases h1 : fracOk (a, b) with
  | false => simp (config := {contextual := true}) [Tryz.f43, List.range, List.range.loop, ints, intss, int, bool, row, frac, fracs, ← List.map_take, ← List.map_drop, mFracOk_at, h1, fracS]
  | true =>
  have hr : inI a ∧ inI b := by
    simp only [fracOk, Bool.and_eq_true, decide_eq_true_eq] at h1
    exact ⟨⟨by omega, by omega⟩, by omega, by omega⟩
  have ha := mItoa_at a hr.1
  have hb := mItoa_at b hr.2
  have sa := itoaS_size20 hr.1
  have sb := itoaS_size20 hr.2
  by_cases h2 : b = 1
  · subst h2
    simp (config := {contextual := true}) [Tryz.f43, List.range, List.range.loop, ints, intss, int, bool, row, frac, fracs, ← List.map_take, ← List.map_drop, mFracOk_at, h1, fracS, ha]
  · have s1 : (itoaS a).size + 1 ≤ 9223372036854775807 := by omega
    have s2 : (itoaS a).size + 1 + (itoaS b).size ≤ 9223372036854775807 := by omega
    have e1 : (b == 1) = false := by simpa using h2
    simp (config := {contextual := true}) [Tryz.f43, List.range, List.range.loop, ints, intss, int, bool, row, frac, fracs, ← List.map_take, ← List.map_drop, mFracOk_at, h1, fracS, ha, hb, h2, e1, sz1, s1, s2]
end Go.Proofs.YtkfmhpgnhkdebaaGreatDoor.Ax
namespace Go.Proofs.YtkfmhpgnhkdebaaGreatDoor.Ax
open Go Go.RowKit
set_option linter.unusedSimpArgs false
def wf (f : Int × Int) : AV := .v (.string (fracS (f.1, f.2)))
def frT (fs : List (Int × Int)) : ByteArray := joinS (fs.map fracS) ⟨#[44]⟩
def frS (fs : List (Int × Int)) : ByteArray := if fs = [] then ⟨#[45]⟩ else frT fs
noncomputable def mFTx : List AV → Option AV := mk (fun p => p.2.length ≤ 1099511627776 ∧ p.2 ≠ []) (fun (p : (Bool) × (List (Int × Int))) => [fracs p.1 p.2]) (fun p => .v (.string (frT p.2)))
theorem mFTx_at (nl : Bool) (fs : List (Int × Int)) (hpre : fs.length ≤ 1099511627776 ∧ fs ≠ []) : mFTx [.sl nl 2 (fs.map frac)] = some (.v (.string (frT fs))) :=
  mk_eq (enc := fun (p : (Bool) × (List (Int × Int))) => [fracs p.1 p.2]) (x := (nl, fs)) (by rintro ⟨a0, a1⟩ ⟨b0, b1⟩ h; simp [ints, intss, int, bool, row, frac, fracs, map_int_inj, map_row_inj, frac_inj, map_frac_inj] at h; simp [h]) hpre
noncomputable def mFFs : List AV → Option AV := mk (fun p => p.2.length ≤ 1099511627776) (fun (p : (Bool) × (List (Int × Int))) => [fracs p.1 p.2]) (fun p => .v (.string (frS p.2)))
theorem mFFs_at (nl : Bool) (fs : List (Int × Int)) (hpre : fs.length ≤ 1099511627776) : mFFs [.sl nl 2 (fs.map frac)] = some (.v (.string (frS fs))) :=
  mk_eq (enc := fun (p : (Bool) × (List (Int × Int))) => [fracs p.1 p.2]) (x := (nl, fs)) (by rintro ⟨a0, a1⟩ ⟨b0, b1⟩ h; simp [ints, intss, int, bool, row, frac, fracs, map_int_inj, map_row_inj, frac_inj, map_frac_inj] at h; simp [h]) hpre
theorem fracS_len (f : Int × Int) : (bl (fracS f)).length ≤ 41 := by
  rw [← size_bl]
  unfold fracS
  split
  · rename_i h1
    have hr : inI f.1 ∧ inI f.2 := by
      simp only [fracOk, Bool.and_eq_true, decide_eq_true_eq] at h1
      exact ⟨⟨by omega, by omega⟩, by omega, by omega⟩
    have sa := itoaS_size20 hr.1
    have sb := itoaS_size20 hr.2
    split
    · omega
    · rw [ByteArray.size_append, ByteArray.size_append, sz1]; omega
  · exact Nat.zero_le _
theorem fr_join {fs : List (Int × Int)} (h : fs.length ≤ 1099511627776) : mJoin [.sl false 1 (fs.map wf), .v (.string ⟨#[44]⟩)] = some (.v (.string (frT fs))) := by
  have hl := join_len (c := 41) (sep := bl ⟨#[44]⟩) (ws := (fs.map fracS).map bl) (by
    intro w hw
    simp only [List.map_map, List.mem_map, Function.comp_apply] at hw
    obtain ⟨f, hf, rfl⟩ := hw
    exact fracS_len f)
  have e1 : (bl ⟨#[44]⟩).length = 1 := rfl
  rw [List.length_map, List.length_map, e1] at hl
  have := mJoin_at false (fs.map fracS) ⟨#[44]⟩ ⟨by rw [List.length_map]; omega, by omega⟩
  rw [List.map_map] at this
  exact this
set_option maxHeartbeats 1000000 in
theorem fractionTexts_ok : FnOk Tryz.prog 89 mFTx := by
  refine mk_ok fun ⟨nl, fs⟩ h => ?_
  simp only at h
  have hG : FnsOk Tryz.prog [(43, mFFrac), (67, mJoin)] := (.cons implFormatFraction_ok (.cons implJoin_ok .nil))
  refine callOk_awp (ctx_ok eqOk hG) mixed (live := [true, false, true, true, false, true, true, true, true, true]) (dt := []) Tryz.func89 rfl (by kernel_rfl) (by kernel_rfl) fun w0 hlens => ?_
  clear hlens
  have hN : fs.length ≤ 1099511627776 := by first | exact h | exact h.1
  have hj := fr_join hN
  rcases List.eq_nil_or_concat fs with rfl | ⟨l', x', hx⟩
  · first
    | exact absurd rfl h.2
    | (simp (config := {contextual := true}) [Tryz.f89, List.range, List.range.loop, ints, intss, int, bool, row, frac, fracs, ← List.map_take, ← List.map_drop, frS, frT]
       refine awp_range (live := [true, false, true, true, false, true, true, true, true, true]) (ctx_ok eqOk hG) mixed [false, false, false, true, false, false, true, true, true] (0) (fun k => True) (fun k => ⟨[.junk, .junk, .junk, .ref 0 [] 0 0, .junk, .junk, fracs nl [], int 0, int k, .junk, .junk, .junk, .junk, .junk, .junk, .junk, .junk, .junk, .junk, .junk], apV []⟩) ?_ (by simp [sub, slotsLe, clean, keep, refsL, refs, once, place, renL, ren, List.replicate, int, bool, fracs, apV]) ?_ ?_ ?_
       · omega
       · trivial
       · intro k hk; omega
       · intro _
         simp (config := {contextual := true}) [List.range, List.range.loop, ints, intss, int, bool, row, frac, fracs, ← List.map_take, ← List.map_drop, apV])
  have hne : fs ≠ [] := by rw [hx]; simp
  have h0 : 0 < fs.length := List.length_pos_iff.2 hne
  have hz : ¬ ((fs.length : Int) = 0) := by omega
  have hnS : frS fs = frT fs := by unfold frS; rw [if_neg hne]
  clear hx
  simp (config := {contextual := true}) [Tryz.f89, List.range, List.range.loop, ints, intss, int, bool, row, frac, fracs, ← List.map_take, ← List.map_drop, hz, hne]
  refine awp_range (live := [true, false, true, true, false, true, true, true, true, true]) (ctx_ok eqOk hG) mixed [false, false, false, true, false, false, true, true, true] (fs.length) (fun k => True) (fun k => ⟨[.junk, .junk, .junk, apW k, .junk, .junk, fracs nl fs, int fs.length, int k, .junk, .junk, .junk, .junk, .junk, .junk, .junk, .junk, .junk, .junk, .junk], apWt ((fs.take k).map wf) k⟩) ?_ (by simp [sub, slotsLe, clean, keep, refsL, refs, once, place, renL, ren, List.replicate, int, bool, fracs, apW, apWt, apV]) ?_ ?_ ?_
  · omega
  · trivial
  · intro k hk _ hwk
    have hit := mFFrac_at fs[k].1 fs[k].2
    have htr := take_snoc (f := wf) hk
    have hb : k + 1 ≤ 4611686018427387904 ∧ (k + 1) * 16 ≤ 140737488355328 := by omega
    have htl : (fs.take k).length = k := by simp; omega
    cases k with
    | zero =>
      have hwk1 : IntKind.i64.wrap 1 = 1 := by decide
      simp only [List.take_zero, List.map_nil, List.nil_append, wf] at htr
      rw [Nat.zero_add] at htr
      have ht1 := htr.symm
      simp (config := {contextual := true}) [List.range, List.range.loop, ints, intss, int, bool, row, frac, fracs, ← List.map_take, ← List.map_drop, frac, apW, apWt, apV, h0, hit, ht1, hb, hwk1]
    | succ k =>
      simp only [wf] at htr
      simp (config := {contextual := true}) [List.range, List.range.loop, ints, intss, int, bool, row, frac, fracs, ← List.map_take, ← List.map_drop, frac, apW, apWt, apV, hk, hit, htr, hb, hwk, htl]
      exact wrapI (by omega) (by omega)
  · intro _
    obtain ⟨m, hm⟩ : ∃ m, fs.length = m + 1 := ⟨fs.length - 1, by omega⟩
    have ht : fs.take (m + 1) = fs := List.take_of_length_le (by omega)
    rw [hm]
    simp (config := {contextual := true}) [List.range, List.range.loop, ints, intss, int, bool, row, frac, fracs, ← List.map_take, ← List.map_drop, apW, apWt, apV, ht, hm, hj, hnS]
    done
theorem implFormatFractions_ok : FnOk Tryz.prog 25 mFFs := by
  refine mk_ok fun ⟨nl, fs⟩ h => ?_
  simp only at h
  have hG : FnsOk Tryz.prog [(89, mFTx)] := (.cons fractionTexts_ok .nil)
  refine callOk_awp (ctx_ok eqOk hG) mixed (live := [true, false, true, false, false, true]) (dt := []) Tryz.func25 rfl (by kernel_rfl) (by kernel_rfl) fun w0 hlens => ?_
  clear hlens
  by_cases hne : fs = []
  · subst hne
    simp (config := {contextual := true}) [Tryz.f25, List.range, List.range.loop, ints, intss, int, bool, row, frac, fracs, ← List.map_take, ← List.map_drop, frS]
  · have hm := mFTx_at nl fs ⟨h, hne⟩
    have hz : ¬ ((fs.length : Int) = 0) := by have := List.length_pos_iff.2 hne; omega
    simp (config := {contextual := true}) [Tryz.f25, List.range, List.range.loop, ints, intss, int, bool, row, frac, fracs, ← List.map_take, ← List.map_drop, frS, hne, hz, hm]
end Go.Proofs.YtkfmhpgnhkdebaaGreatDoor.Ax
namespace Go.Proofs.YtkfmhpgnhkdebaaGreatDoor.Ax
open Go Go.RowKit
set_option linter.unusedSimpArgs false
theorem tab12 : tabS [(false, [1, 2]), (false, [])] = ⟨#[49, 44, 50, 59, 45]⟩ := by kernel_rfl
theorem frs12 : frS [(1, 2)] = ⟨#[49, 47, 50]⟩ := by kernel_rfl
set_option maxRecDepth 16000 in
set_option maxHeartbeats 8000000 in
theorem fnReports_call {nl : Bool} {by' : List Int} : CallOk Tryz.prog 4 [byts nl by'] (.v (.bool true)) := by
  have hG : FnsOk Tryz.prog [(13, mMkPrf), (14, mMkCts), (16, mGs), (15, mFNum), (11, mPrl), (18, mCv), (17, mItoa), (19, mCw), (20, mTop), (22, mKr), (21, mFrk), (23, mSl), (24, mFTab), (25, mFFs)] := (.cons makeProfile_ok (.cons makeCounts_ok (.cons implGs_ok (.cons implFormatNumbers_ok (.cons implPrl_ok (.cons implCv_ok (.cons implFormatInt_ok (.cons implCw_ok (.cons implTop_ok (.cons implKr_ok (.cons implFrk_ok (.cons implSl_ok (.cons implFormatTable_ok (.cons implFormatFractions_ok .nil))))))))))))))
  refine callOk_awp (ctx_ok eqOk hG) mixed (live := [true, false, true, true, true, true, false, false, true]) (dt := [(6, ⟨[(30, 31)], [0, 0, 0, 0, 0, 0, 0, 0, 0, 0, 0, 0, 0, 1, 0, 0, 0, 0, 1, 0, 0, 0, 0, 0, 0, 0, 0, 0, 0, 0, 1, 1, 1, 0, 0, 0, 0, 0, 1], []⟩)]) Tryz.func4 rfl (by kernel_rfl) (by kernel_rfl) fun w0 hlens => ?_
  by_cases hlen : by'.length ≤ 1048576
  rotate_left
  · have c1 : (1048576 : Int) < by'.length := by omega
    have c2 : 1048576 < by'.length := by omega
    simp [Tryz.f4, List.range, List.range.loop, ints, intss, int, bool, row, frac, fracs, ← List.map_take, ← List.map_drop, byts, c1, c2]
  have c1 : ¬ (1048576 : Int) < by'.length := by omega
  have c2 : ¬ 1048576 < by'.length := by omega
  have m0 : mMkPrf [.sl nl 1 (by'.map bAV), .v (.int .i64 0), .v (.int .i64 3)] = some (.agg [.v (.int .i64 3), .sl false 2 ((mkPrf by' 0 3).map vote)]) := mMkPrf_at nl by' 0 3 ⟨hlen, by omega, by omega, by omega⟩
  have m1 : mMkCts [.sl nl 1 (by'.map bAV), .v (.int .i64 60)] = some (.sl false 1 ((mkCts by' 60).map int)) := mMkCts_at nl by' 60 ⟨hlen, by omega⟩
  obtain ⟨h, hl1, hl5, _⟩ := prD_ok (by' := by') (s := crB by' 0) (m := 3) (by omega) (by omega)
  change profB 3 (mkPrf by' 0 3) = true at h
  change 1 ≤ (mkPrf by' 0 3).length at hl1
  change (mkPrf by' 0 3).length ≤ 5 at hl5
  have hc : cntB (mkCts by' 60) = true := ctA_ok
  generalize mkPrf by' 0 3 = P at *
  generalize mkCts by' 60 = X at *
  clear hlens
  have F := prF h
  have n1 := mCv_at 3 false P
  have n2 := mCw_at 3 false P h
  have n3 := mTop_at 3 false P h
  have n4 := mKr_at 3 false P h
  have h1 := mItoa_at _ F.ic
  have h2 := mItoa_at _ F.iw
  have h3 := mFNum_at false _ F.ht
  have h4 := mFrk_at false (prB 3 P)
  have n5 := mPrl_at 3 false P
  have hg : prlT 3 P = prlS 3 P := by unfold prlT; rw [if_pos h]
  rw [hg] at n5
  unfold prlS at n5
  have sc := F.sc
  have sw := F.sw
  have st := F.st
  have sb := F.sb
  change mKr _ = some (.sl false 1 ((prB 3 P).map int)) at n4
  generalize prB 3 P = K at *
  generalize topT (3 : Int).toNat P = T at *
  generalize cvT 3 P = c at *
  generalize cwT 3 P = w at *
  have tK : K.take K.length = K := List.take_length
  have tT : T.take T.length = T := List.take_length
  have z1 : (⟨#[118, 111, 116, 101, 114, 115, 32]⟩ : ByteArray).size = 7 := rfl
  have z2 : (⟨#[32, 119, 105, 110, 110, 101, 114, 32]⟩ : ByteArray).size = 8 := rfl
  have z3 : (⟨#[32, 116, 111, 112, 32]⟩ : ByteArray).size = 5 := rfl
  have z4 : (⟨#[32, 98, 101, 115, 116, 32]⟩ : ByteArray).size = 6 := rfl
  have k1 : 7 + (itoaS c).size ≤ 9223372036854775807 := by omega
  have k2 : 7 + (itoaS c).size + 8 ≤ 9223372036854775807 := by omega
  have k3 : 7 + (itoaS c).size + 8 + (itoaS w).size ≤ 9223372036854775807 := by omega
  have k4 : 7 + (itoaS c).size + 8 + (itoaS w).size + 5 ≤ 9223372036854775807 := by omega
  have k5 : 7 + (itoaS c).size + 8 + (itoaS w).size + 5 + (numS T).size ≤ 9223372036854775807 := by omega
  have k6 : 7 + (itoaS c).size + 8 + (itoaS w).size + 5 + (numS T).size + 6 ≤ 9223372036854775807 := by omega
  have k7 : 7 + (itoaS c).size + 8 + (itoaS w).size + 5 + (numS T).size + 6 + (frkT K).size ≤ 9223372036854775807 := by omega
  -- the seats
  have hq : qtB X 7 = true := by simp [qtB, hc, inR]
  have hv : givV 0 X 7 = true := by rw [giv_zero]; exact hq
  obtain ⟨l1, l2, l3, l4⟩ := givT_facts hv
  have hkq : kqB X (givT 0 X 7) = true := by
    have e : givT 0 X 7 = hamT X 7 := by unfold givT; rw [if_pos hv, if_pos rfl]
    rw [e]; exact ham_keeps hq
  have n6 := mGs_at 0 false X 7
  rw [if_pos hv] at n6
  have n7 := mSl_at 0 false X 7
  have hs : slS 0 X 7 = numS (givT 0 X 7) ++ quoS := by unfold slS; rw [if_pos hv, if_pos hkq]
  rw [hs] at n7
  generalize givT 0 X 7 = G at *
  have hok : numOk G := ⟨by omega, fun x hx => by have := l4 x hx; unfold inI; omega⟩
  have n8 := mFNum_at false G hok
  have hz := numS_sz hok (by omega)
  have hq1 : quoS.size = 6 := rfl
  have hqe : ({ data := #[32, 113, 117, 111, 116, 97] } : ByteArray) = quoS := rfl
  have hz2 : (numS G).size + 6 ≤ 9223372036854775807 := by omega
  have tG : G.take X.length = G := List.take_of_length_le (by omega)
  -- the table, the fractions
  have n9 := mFTab_at false [(false, [1, 2]), (false, [])] ⟨by simp, by simp [inI]⟩
  have n10 := mFFs_at false [(1, 2)] (by simp)
  rw [tab12] at n9
  rw [frs12] at n10
  simp only [ints] at n6
  simp [row, frac, int] at n9 n10
  simp (config := {maxSteps := 1000000}) [Tryz.f4, List.range, List.range.loop, ints, intss, int, bool, row, frac, fracs, ← List.map_take, ← List.map_drop, byts, c1, c2, m0, m1, prof, n1, n2, n3, n4, n5, n6, n7, n8, n9, n10, h1, h2, h3, h4, tK, tT, tG, l1, ByteArray.size_append, z1, z2, z3, z4, k1, k2, k3, k4, k5, k6, k7, hq1, hqe, hz, hz2]
end Go.Proofs.YtkfmhpgnhkdebaaGreatDoor.Ax
