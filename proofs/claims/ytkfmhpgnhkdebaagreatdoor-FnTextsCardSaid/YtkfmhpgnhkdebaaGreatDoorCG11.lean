/-
  Contracts: the reference's draws of a fraction and of a table. No condition.
-/
import Derived.Test.YtkfmhpgnhkdebaaGreatDoorCG9
import Derived.Test.YtkfmhpgnhkdebaaGreatDoorCG10
import Derived.Test.YtkfmhpgnhkdebaaGreatDoorCB2
import Derived.Test.YtkfmhpgnhkdebaaGreatDoorCG1
import Derived.Ground.NamesProg
import Derived.Shelf.LaysM
import Derived.Shelf.Strconv.Itoa3
namespace Go.Proofs.YtkfmhpgnhkdebaaGreatDoor.Ax
open Go Go.RowKit
set_option linter.unusedSimpArgs false
def frD (by' : List Int) (s : Int × Int) : Int × Int := (mkF (bw by' s 21 - 6) (1 + bw by' (crN by' s 1) 8)).1
theorem frD_all : ((List.range 21).all fun a => (List.range 8).all fun b => fracOk (mkF ((a : Int) - 6) (1 + (b : Int))).1) = true := by decide +kernel
theorem frD_ok {by' : List Int} {s : Int × Int} : fracOk (frD by' s) = true := by
  have h1 := bw_bd (by' := by') (s := s) (n := 21) (by omega)
  have h2 := bw_bd (by' := by') (s := crN by' s 1) (n := 8) (by omega)
  unfold frD
  generalize bw by' s 21 = x at *
  generalize bw by' (crN by' s 1) 8 = y at *
  obtain ⟨a, rfl⟩ : ∃ a : Nat, x = a := ⟨x.toNat, by omega⟩
  obtain ⟨b, rfl⟩ : ∃ b : Nat, y = b := ⟨y.toNat, by omega⟩
  exact List.all_eq_true.1 (List.all_eq_true.1 frD_all a (List.mem_range.2 (by omega))) b (List.mem_range.2 (by omega))
set_option maxHeartbeats 2000000 in
theorem l02Draw_cur {nl : Bool} {by' : List Int} {s : Int × Int} (hs : CrOk by' s) : CurOk Tryz.prog 114 (byts nl by') 179 [] s (crN by' s 2) (frac (frD by' s)) := by
  have c1 := l01Below_cur (nl := nl) hs (n := 21) (by omega) (by omega)
  have c2 := l01Below_cur (nl := nl) (crN_ok hs 1) (n := 8) (by omega) (by omega)
  have h1 := bw_bd (by' := by') (s := s) (n := 21) (by omega)
  have h2 := bw_bd (by' := by') (s := crN by' s 1) (n := 8) (by omega)
  have hF : frD by' s = (mkF (bw by' s 21 - 6) (1 + bw by' (crN by' s 1) 8)).1 := rfl
  rw [hF]
  have hf := mFOf_at (bw by' s 21 - 6) (1 + bw by' (crN by' s 1) 8) ⟨by omega, by omega, by omega, by omega⟩
  have hG : FnsOk Tryz.prog [(183, mFOf)] := (.cons fractionOf_ok .nil)
  refine curOk_of_ty (dt := []) (ctx_ok eqOk hG) Tryz.func114 rfl (by kernel_rfl) (by kernel_rfl) fun w F0 code b hbytes hF0 hbF => ?_
  refine ty_seq (ty_awp (ctx_ok eqOk hG) mixed curJ_stable (live := [true, false, true, true]) fun X A w1 => ?_)
  simp [Tryz.f114, List.range, List.range.loop, ints, intss, int, bool, row, frac, fracs, ← List.map_take, ← List.map_drop, thenY_normal]
  refine ty_seq (ty_reg (tyo_ops 1 (ctx_ok eqOk hG) curJ_stable (by simp) ?_))
  simp [List.range, List.range.loop, ints, intss, int, bool, row, frac, fracs, ← List.map_take, ← List.map_drop]
  refine tyo_cur hbytes hF0 hbF c1 rfl rfl rfl (by rfl) (by rfl) (by rfl) ?_
  simp [List.range, List.range.loop, ints, intss, int, bool, row, frac, fracs, ← List.map_take, ← List.map_drop]
  have w1 : IntKind.i64.wrap (bw by' s 21 - 6) = bw by' s 21 - 6 := wrapI (by omega) (by omega)
  have w2 : IntKind.i64.wrap (1 + bw by' (crN by' s 1) 8) = 1 + bw by' (crN by' s 1) 8 := wrapI (by omega) (by omega)
  refine tyo_ops 2 (ctx_ok eqOk hG) curJ_stable (by simp) ?_
  simp [List.range, List.range.loop, ints, intss, int, bool, row, frac, fracs, ← List.map_take, ← List.map_drop, w1]
  refine tyo_cur hbytes hF0 hbF c2 rfl rfl rfl (by rfl) (by rfl) (by rfl) ?_
  simp [List.range, List.range.loop, ints, intss, int, bool, row, frac, fracs, ← List.map_take, ← List.map_drop]
  refine tyo_ops 8 (ctx_ok eqOk hG) curJ_stable (by simp) ?_
  simp [List.range, List.range.loop, ints, intss, int, bool, row, frac, fracs, ← List.map_take, ← List.map_drop, w2, hf]
  refine tyo_end (by simp) ?_
  simp only [thenY_normal]
  refine ty_awp (ctx_ok eqOk hG) mixed curJ_stable (live := [true, false, true, true]) fun X A w1 => ?_
  simp [List.range, List.range.loop, ints, intss, int, bool, row, frac, fracs, ← List.map_take, ← List.map_drop, thenY_ret, frac]
  rfl
def mkFr (by' : List Int) (n : Nat) : Int × Int := frD by' (crB by' n)
theorem makeFraction_call {nl : Bool} {by' : List Int} (hlen : by'.length ≤ 1048576) (n : Nat) (hn : n ≤ 1000) : CallOk Tryz.prog 37 [byts nl by', int n] (frac (mkFr by' n)) := by
  have hnew := l32New_new (nl := nl) hlen n hn
  have hcur := l02Draw_cur (nl := nl) (crN_ok (cr0_ok hlen) n)
  have hM : mkFr by' n = frD by' (crB by' n) := rfl
  have hB : crN by' (cr0 by') n = crB by' n := rfl
  rw [hB] at hcur
  rw [hM]
  generalize crB by' n = S at *
  have hG : FnsOk Tryz.prog [] := .nil
  refine callOk_of_new (s1 := crN by' S 2) Tryz.func37 rfl (by kernel_rfl) (new_fn (dt := []) (st0 := ⟨[byts nl by', int (n : Int), .junk, .junk, .ptr 0 [] 0 0, .junk, .junk, .junk, .junk], [⟨true, .sl false 2 [.agg [.v (.int .i64 0), .v (.int .i64 0)]]⟩]⟩) (ctx_ok eqOk hG) Tryz.func37 rfl (by kernel_rfl) rfl (by simp [Tryz.f37, List.range, List.range.loop, ints, intss, int, bool, row, frac, fracs, ← List.map_take, ← List.map_drop]) (pre := [_, _]) rfl rfl rfl (by rfl) (by rfl) (by rfl) (by rfl) hnew fun w F0 B0 code b hbytes hF0 hbF => ?_)
  simp [Tryz.f37, List.range, List.range.loop, ints, intss, int, bool, row, frac, fracs, ← List.map_take, ← List.map_drop, byts]
  refine tyo_cur hbytes hF0 hbF hcur rfl rfl rfl (by rfl) (by rfl) (by rfl) ?_
  simp [List.range, List.range.loop, ints, intss, int, bool, row, frac, fracs, ← List.map_take, ← List.map_drop]
  refine tyo_ops 1 (ctx_ok eqOk hG) curJ_stable (by simp) ?_
  simp [List.range, List.range.loop, ints, intss, int, bool, row, frac, fracs, ← List.map_take, ← List.map_drop]
  refine tyo_end (by simp) ?_
  simp only [thenY_normal]
  refine ty_awp (ctx_ok eqOk hG) mixed curJ_stable (live := [true, true, false, false, true]) fun X A w1 => ?_
  simp [List.range, List.range.loop, ints, intss, int, bool, row, frac, fracs, ← List.map_take, ← List.map_drop, thenY_ret, frac]
  done
def tnN (by' : List Int) (s : Int × Int) : Nat := (1 + bw by' s 3).toNat
theorem tnN_bd {by' : List Int} {s : Int × Int} : 1 ≤ tnN by' s ∧ tnN by' s ≤ 3 ∧ 1 + bw by' s 3 = (tnN by' s : Int) := by
  have := bw_bd (by' := by') (s := s) (n := 3) (by omega)
  unfold tnN; omega
def tnL (by' : List Int) (s : Int × Int) (k : Nat) : List Int := (List.range k).map fun j => bw by' (crN by' s j) 45
theorem tnL_succ {by' : List Int} {s : Int × Int} {k : Nat} : tnL by' s (k + 1) = tnL by' s k ++ [bw by' (crN by' s k) 45] := by unfold tnL; rw [List.range_succ, List.map_append]; rfl
theorem tnL_len {by' : List Int} {s : Int × Int} {k : Nat} : (tnL by' s k).length = k := by simp [tnL]
def tnR (by' : List Int) (s : Int × Int) (w i : Nat) : Bool × List Int := (false, tnL by' (crN by' s (2 + i * w)) w)
def tnD (by' : List Int) (s : Int × Int) (w k : Nat) : List (Bool × List Int) := (List.range k).map (tnR by' s w)
theorem tnD_succ {by' : List Int} {s : Int × Int} {w k : Nat} : tnD by' s w (k + 1) = tnD by' s w k ++ [tnR by' s w k] := by unfold tnD; rw [List.range_succ, List.map_append]; rfl
theorem tnD_len {by' : List Int} {s : Int × Int} {w k : Nat} : (tnD by' s w k).length = k := by simp [tnD]
set_option maxRecDepth 8000 in
set_option maxHeartbeats 4000000 in
theorem l16Draw_cur {nl : Bool} {by' : List Int} {s : Int × Int} (hs : CrOk by' s) : CurOk Tryz.prog 117 (byts nl by') 179 [int 3] s (crN by' s (2 + tnN by' s * tnN by' (crN by' s 1))) (.sl false 1 ((tnD by' s (tnN by' (crN by' s 1)) (tnN by' s)).map row)) := by
  have c1 := l01Below_cur (nl := nl) hs (n := 3) (by omega) (by omega)
  have c2 := l01Below_cur (nl := nl) (crN_ok hs 1) (n := 3) (by omega) (by omega)
  have b1 := tnN_bd (by' := by') (s := s)
  have b2 := tnN_bd (by' := by') (s := crN by' s 1)
  generalize tnN by' s = hg at *
  generalize tnN by' (crN by' s 1) = wd at *
  have hcur := fun (k : Nat) => l01Below_cur (nl := nl) (crN_ok hs k) (n := 45) (by omega) (by omega)
  have hG : FnsOk Tryz.prog [] := .nil
  refine curOk_of_ty (dt := []) (ctx_ok eqOk hG) Tryz.func117 rfl (by kernel_rfl) (by kernel_rfl) fun w F0 code b hbytes hF0 hbF => ?_
  have e1 : IntKind.i64.wrap (1 + bw by' s 3) = (hg : Int) := by rw [b1.2.2]; exact wrapI (by omega) (by omega)
  have e2 : IntKind.i64.wrap (1 + bw by' (crN by' s 1) 3) = (wd : Int) := by rw [b2.2.2]; exact wrapI (by omega) (by omega)
  refine ty_seq (ty_awp (ctx_ok eqOk hG) mixed curJ_stable (live := [true, true, false, false, true, true, true, true, true, true, true, false, false, false, false, false, false, false, false, false, false, false, true, false, false, false, false, false, true]) fun X A w1 => ?_)
  simp [Tryz.f117, List.range, List.range.loop, ints, intss, int, bool, row, frac, fracs, ← List.map_take, ← List.map_drop, thenY_normal]
  refine ty_seq (ty_reg (tyo_ops 2 (ctx_ok eqOk hG) curJ_stable (by simp) ?_))
  simp [List.range, List.range.loop, ints, intss, int, bool, row, frac, fracs, ← List.map_take, ← List.map_drop]
  refine tyo_cur hbytes hF0 hbF c1 rfl rfl rfl (by rfl) (by rfl) (by rfl) ?_
  simp [List.range, List.range.loop, ints, intss, int, bool, row, frac, fracs, ← List.map_take, ← List.map_drop]
  refine tyo_ops 2 (ctx_ok eqOk hG) curJ_stable (by simp) ?_
  simp [List.range, List.range.loop, ints, intss, int, bool, row, frac, fracs, ← List.map_take, ← List.map_drop, e1]
  refine tyo_end (by simp) ?_
  simp only [thenY_normal]
  refine ty_seq (ty_reg (tyo_ops 2 (ctx_ok eqOk hG) curJ_stable (by simp) ?_))
  simp [List.range, List.range.loop, ints, intss, int, bool, row, frac, fracs, ← List.map_take, ← List.map_drop]
  refine tyo_cur hbytes hF0 hbF c2 rfl rfl rfl (by rfl) (by rfl) (by rfl) ?_
  simp [List.range, List.range.loop, ints, intss, int, bool, row, frac, fracs, ← List.map_take, ← List.map_drop]
  refine tyo_ops 2 (ctx_ok eqOk hG) curJ_stable (by simp) ?_
  simp [List.range, List.range.loop, ints, intss, int, bool, row, frac, fracs, ← List.map_take, ← List.map_drop, e2]
  refine tyo_end (by simp) ?_
  simp only [thenY_normal]
  refine ty_seq (ty_awp (ctx_ok eqOk hG) mixed curJ_stable (live := [true, true, false, false, true, true, true, true, true, true, true, false, false, false, false, false, false, false, false, false, false, false, true, false, false, false, false, false, true]) fun X A w1 => ?_)
  simp [List.range, List.range.loop, ints, intss, int, bool, row, frac, fracs, ← List.map_take, ← List.map_drop, thenY_normal]
  refine ty_seq (ty_seq (ty_awp (ctx_ok eqOk hG) mixed curJ_stable (live := [true, true, false, false, true, true, true, true, true, true, true, false, false, false, false, false, false, false, false, false, false, false, true, false, false, false, false, false, true]) fun X A w1 => ?_))
  simp [List.range, List.range.loop, ints, intss, int, bool, row, frac, fracs, ← List.map_take, ← List.map_drop, thenY_normal]
  refine ty_block (ty_loop (α := {i : Nat // i ≤ hg}) (fun i => ⟨[.v (ptrV b), .junk, .junk, .junk, .junk, int hg, int wd, .ref 0 [] 0 i.1, int i.1, .junk, .junk, .junk, .junk, .junk, .junk, .junk, .junk, .junk, .junk, .junk, .junk, .junk, .junk, .junk, .junk, .junk, .junk, .junk, .junk, .junk, .junk, .junk, .junk, .junk, .junk, .junk, .junk, .junk, .junk, .junk, .junk], [⟨true, .sl false 1 ((tnD by' s wd i.1).map row)⟩]⟩) (fun i => crN by' s (2 + i.1 * wd)) (fun i => hg - i.1) ⟨0, Nat.zero_le _⟩ ⟨?_, ?_⟩ ?_)
  · simp [sub, slotsLe, clean, keep, refsL, refs, once, place, renL, ren, List.replicate, int, bool, tnD]
  · simp [crN]
  rintro ⟨i, hi⟩
  have hvl := tnD_len (by' := by') (s := s) (w := wd) (k := i)
  by_cases hin : i < hg
  rotate_left
  · obtain rfl : i = hg := by omega
    refine ty_seq (ty_awp (ctx_ok eqOk hG) mixed curJ_stable (live := [true, true, false, false, true, true, true, true, true, true, true, false, false, false, false, false, false, false, false, false, false, false, true, false, false, false, false, false, true]) fun X A w1 => ?_)
    simp [List.range, List.range.loop, ints, intss, int, bool, row, frac, fracs, ← List.map_take, ← List.map_drop, thenY_normal, thenY_exit, inBY_exit]
    refine ty_awp (ctx_ok eqOk hG) mixed curJ_stable (live := [true, true, false, false, true, true, true, true, true, true, true, false, false, false, false, false, false, false, false, false, false, false, true, false, false, false, false, false, true]) fun X A w1 => ?_
    simp [List.range, List.range.loop, ints, intss, int, bool, row, frac, fracs, ← List.map_take, ← List.map_drop, thenY_ret, hvl]
    done
  have hst := tnD_succ (by' := by') (s := s) (w := wd) (k := i)
  have hr : tnR by' s wd i = (false, tnL by' (crN by' s (2 + i * wd)) wd) := rfl
  rw [hr] at hst
  have hrow := fun k => tnL_succ (by' := by') (s := crN by' s (2 + i * wd)) (k := k)
  have hrl := fun k => tnL_len (by' := by') (s := crN by' s (2 + i * wd)) (k := k)
  have hr0 : tnL by' (crN by' s (2 + i * wd)) 0 = [] := rfl
  have hini : (i : Int) < (hg : Int) := by omega
  have hbb : i + 1 ≤ 4611686018427387904 ∧ (i + 1) * 24 ≤ 140737488355328 := by omega
  have hw1 : IntKind.i64.wrap ((i : Int) + 1) = (i : Int) + 1 := wrapI (by omega) (by omega)
  have hcu : ∀ k, CurOk Tryz.prog 148 (byts nl by') 179 [int 45] (crN by' s (2 + i * wd + k)) (crN by' s (2 + i * wd + (k + 1))) (.v (.int .i64 (bw by' (crN by' (crN by' s (2 + i * wd)) k) 45))) := fun k => by
    have := hcur (2 + i * wd + k)
    rw [crN_add]
    exact this
  generalize tnL by' (crN by' s (2 + i * wd)) = R at *
  refine ty_seq (ty_awp (ctx_ok eqOk hG) mixed curJ_stable (live := [true, true, false, false, true, true, true, true, true, true, true, false, false, false, false, false, false, false, false, false, false, false, true, false, false, false, false, false, true]) fun X A w1 => ?_)
  simp [List.range, List.range.loop, ints, intss, int, bool, row, frac, fracs, ← List.map_take, ← List.map_drop, thenY_normal, hini, hin]
  refine ty_seq (ty_block (ty_seq (ty_awp (ctx_ok eqOk hG) mixed curJ_stable (live := [true, true, false, false, true, true, true, true, true, true, true, false, false, false, false, false, false, false, false, false, false, false, true, false, false, false, false, false, true]) fun X A w1 => ?_)))
  simp [List.range, List.range.loop, ints, intss, int, bool, row, frac, fracs, ← List.map_take, ← List.map_drop, thenY_normal]
  refine ty_seq (ty_seq (ty_awp (ctx_ok eqOk hG) mixed curJ_stable (live := [true, true, false, false, true, true, true, true, true, true, true, false, false, false, false, false, false, false, false, false, false, false, true, false, false, false, false, false, true]) fun X A w1 => ?_))
  simp [List.range, List.range.loop, ints, intss, int, bool, row, frac, fracs, ← List.map_take, ← List.map_drop, thenY_normal]
  refine ty_block (ty_loop (α := {k : Nat // k ≤ wd}) (fun k => ⟨[.v (ptrV b), .junk, .junk, .junk, .junk, int hg, int wd, .ref 0 [] 0 i, int i, .ref 1 [] 0 k.1, int k.1, .junk, .junk, .junk, .junk, .junk, .junk, .junk, .junk, .junk, .junk, .junk, .junk, .junk, .junk, .junk, .junk, .junk, .junk, .junk, .junk, .junk, .junk, .junk, .junk, .junk, .junk, .junk, .junk, .junk, .junk], [⟨true, .sl false 1 ((tnD by' s wd i).map row)⟩, ⟨true, .sl false 1 ((R k.1).map int)⟩]⟩) (fun k => crN by' s (2 + i * wd + k.1)) (fun k => wd - k.1) ⟨0, Nat.zero_le _⟩ ⟨?_, ?_⟩ ?_)
  · simp [sub, slotsLe, clean, keep, refsL, refs, once, place, renL, ren, List.replicate, int, bool, hr0]
  · simp
  rintro ⟨k, hk⟩
  have hkl := hrl k
  by_cases hkn : k < wd
  · have hknI : (k : Int) < (wd : Int) := by omega
    have hbk : k + 1 ≤ 4611686018427387904 ∧ (k + 1) * 8 ≤ 140737488355328 := by omega
    have hwk : IntKind.i64.wrap ((k : Int) + 1) = (k : Int) + 1 := wrapI (by omega) (by omega)
    have hsk := hrow k
    have hck := hcu k
    refine ty_seq (ty_awp (ctx_ok eqOk hG) mixed curJ_stable (live := [true, true, false, false, true, true, true, true, true, true, true, false, false, false, false, false, false, false, false, false, false, false, true, false, false, false, false, false, true]) fun X A w1 => ?_)
    simp [List.range, List.range.loop, ints, intss, int, bool, row, frac, fracs, ← List.map_take, ← List.map_drop, thenY_normal, hknI, hkn]
    refine ty_seq (ty_block (ty_reg (tyo_ops 2 (ctx_ok eqOk hG) curJ_stable (by simp) ?_)))
    simp [List.range, List.range.loop, ints, intss, int, bool, row, frac, fracs, ← List.map_take, ← List.map_drop]
    refine tyo_cur hbytes hF0 hbF hck rfl rfl rfl (by rfl) (by rfl) (by rfl) ?_
    simp [List.range, List.range.loop, ints, intss, int, bool, row, frac, fracs, ← List.map_take, ← List.map_drop]
    refine tyo_ops 3 (ctx_ok eqOk hG) curJ_stable (by simp) ?_
    simp [List.range, List.range.loop, ints, intss, int, bool, row, frac, fracs, ← List.map_take, ← List.map_drop, hkl, hbk]
    refine tyo_end (by simp) ?_
    simp only [thenY_normal, inBY_normal]
    refine ty_awp (ctx_ok eqOk hG) mixed curJ_stable (live := [true, true, false, false, true, true, true, true, true, true, true, false, false, false, false, false, false, false, false, false, false, false, true, false, false, false, false, false, true]) fun X A w1 => ?_
    simp [List.range, List.range.loop, ints, intss, int, bool, row, frac, fracs, ← List.map_take, ← List.map_drop, thenY_normal, hwk]
    refine ⟨⟨k + 1, hkn⟩, ?_, rfl, by simp; omega⟩
    simp [sub, slotsLe, clean, keep, refsL, refs, once, place, renL, ren, List.replicate, int, bool, hsk]
    done
  obtain rfl : k = wd := by omega
  refine ty_seq (ty_awp (ctx_ok eqOk hG) mixed curJ_stable (live := [true, true, false, false, true, true, true, true, true, true, true, false, false, false, false, false, false, false, false, false, false, false, true, false, false, false, false, false, true]) fun X A w1 => ?_)
  simp [List.range, List.range.loop, ints, intss, int, bool, row, frac, fracs, ← List.map_take, ← List.map_drop, thenY_normal, thenY_exit, inBY_exit]
  refine ty_awp (ctx_ok eqOk hG) mixed curJ_stable (live := [true, true, false, false, true, true, true, true, true, true, true, false, false, false, false, false, false, false, false, false, false, false, true, false, false, false, false, false, true]) fun X A w1 => ?_
  simp [List.range, List.range.loop, ints, intss, int, bool, row, frac, fracs, ← List.map_take, ← List.map_drop, thenY_normal, inBY_normal, hvl, hkl, hbb]
  refine ty_awp (ctx_ok eqOk hG) mixed curJ_stable (live := [true, true, false, false, true, true, true, true, true, true, true, false, false, false, false, false, false, false, false, false, false, false, true, false, false, false, false, false, true]) fun X A w1 => ?_
  simp [List.range, List.range.loop, ints, intss, int, bool, row, frac, fracs, ← List.map_take, ← List.map_drop, thenY_normal, hw1]
  refine ⟨⟨i + 1, hin⟩, ?_, ?_, by simp; omega⟩
  · simp [sub, slotsLe, clean, keep, refsL, refs, once, place, renL, ren, List.replicate, int, bool, hst, row, hkl]
  · show crN by' s (2 + i * k + k) = crN by' s (2 + (i + 1) * k)
    rw [show 2 + (i + 1) * k = 2 + i * k + k by rw [Nat.add_mul]; omega]
def mkTn (by' : List Int) (n : Nat) : List (Bool × List Int) := tnD by' (crB by' n) (tnN by' (crN by' (crB by' n) 1)) (tnN by' (crB by' n))
theorem mkTn_ok {by' : List Int} {n : Nat} : 1 ≤ (mkTn by' n).length ∧ (mkTn by' n).length ≤ 3 ∧ ∀ r ∈ mkTn by' n, r.1 = false ∧ 1 ≤ r.2.length ∧ r.2.length ≤ 3 ∧ ∀ x ∈ r.2, 0 ≤ x ∧ x < 45 := by
  have b1 := tnN_bd (by' := by') (s := crB by' n)
  have b2 := tnN_bd (by' := by') (s := crN by' (crB by' n) 1)
  unfold mkTn
  rw [tnD_len]
  refine ⟨b1.1, b1.2.1, fun r hr => ?_⟩
  obtain ⟨i, _, rfl⟩ := List.mem_map.1 hr
  refine ⟨rfl, ?_, ?_, fun x hx => ?_⟩
  · show 1 ≤ (tnL _ _ _).length
    rw [tnL_len]; exact b2.1
  · show (tnL _ _ _).length ≤ 3
    rw [tnL_len]; exact b2.2.1
  · obtain ⟨j, _, rfl⟩ := List.mem_map.1 (show x ∈ tnL _ _ _ from hx)
    exact bw_bd (by omega)
theorem makeTenths_call {nl : Bool} {by' : List Int} (hlen : by'.length ≤ 1048576) (n : Nat) (hn : n ≤ 1000) : CallOk Tryz.prog 40 [byts nl by', int n] (.sl false 1 ((mkTn by' n).map row)) := by
  have hnew := l32New_new (nl := nl) hlen n hn
  have hcur := l16Draw_cur (nl := nl) (crN_ok (cr0_ok hlen) n)
  have hM : mkTn by' n = tnD by' (crB by' n) (tnN by' (crN by' (crB by' n) 1)) (tnN by' (crB by' n)) := rfl
  have hB : crN by' (cr0 by') n = crB by' n := rfl
  rw [hB] at hcur
  rw [hM]
  generalize crB by' n = S at *
  have hG : FnsOk Tryz.prog [] := .nil
  refine callOk_of_new (s1 := crN by' S (2 + tnN by' S * tnN by' (crN by' S 1))) Tryz.func40 rfl (by kernel_rfl) (new_fn (dt := []) (ctx_ok eqOk hG) Tryz.func40 rfl (by kernel_rfl) rfl (by rfl) (pre := [_, _]) rfl rfl rfl (by rfl) (by rfl) (by rfl) (by rfl) hnew fun w F0 B0 code b hbytes hF0 hbF => ?_)
  simp [Tryz.f40, List.range, List.range.loop, ints, intss, int, bool, row, frac, fracs, ← List.map_take, ← List.map_drop, byts]
  refine tyo_cur hbytes hF0 hbF hcur rfl rfl rfl (by rfl) (by rfl) (by rfl) ?_
  simp [List.range, List.range.loop, ints, intss, int, bool, row, frac, fracs, ← List.map_take, ← List.map_drop]
  refine tyo_ops 1 (ctx_ok eqOk hG) curJ_stable (by simp) ?_
  simp [List.range, List.range.loop, ints, intss, int, bool, row, frac, fracs, ← List.map_take, ← List.map_drop]
  refine tyo_end (by simp) ?_
  simp only [thenY_normal]
  refine ty_awp (ctx_ok eqOk hG) mixed curJ_stable (live := [true, true, false, false, true]) fun X A w1 => ?_
  simp [List.range, List.range.loop, ints, intss, int, bool, row, frac, fracs, ← List.map_take, ← List.map_drop, thenY_ret]
def mkRk (by' : List Int) (n m : Nat) : List Int := rkD by' (crB by' n) m (m - 1)
theorem makeRanking_call {nl : Bool} {by' : List Int} (hlen : by'.length ≤ 1048576) (n m : Nat) (hn : n ≤ 1000) (h1 : 1 ≤ m) (h5 : m ≤ 5) : CallOk Tryz.prog 41 [byts nl by', int n, int m] (.sl false 1 ((mkRk by' n m).map int)) := by
  have hnew := l32New_new (nl := nl) hlen n hn
  have hcur := l03Draw_cur (nl := nl) (crN_ok (cr0_ok hlen) n) h1 h5
  have hM : mkRk by' n m = rkD by' (crB by' n) m (m - 1) := rfl
  have hB : crN by' (cr0 by') n = crB by' n := rfl
  have hmx : max 1 (min (m : Int) 5) = m := by omega
  rw [hB] at hcur
  rw [hM]
  generalize crB by' n = S at *
  have hG : FnsOk Tryz.prog [] := .nil
  refine callOk_of_new (s1 := crN by' S (m - 1)) Tryz.func41 rfl (by kernel_rfl) (new_fn (dt := []) (ctx_ok eqOk hG) Tryz.func41 rfl (by kernel_rfl) rfl (by rfl) (pre := [_, _]) rfl rfl rfl (by rfl) (by rfl) (by rfl) (by rfl) hnew fun w F0 B0 code b hbytes hF0 hbF => ?_)
  simp [Tryz.f41, List.range, List.range.loop, ints, intss, int, bool, row, frac, fracs, ← List.map_take, ← List.map_drop, byts]
  refine tyo_ops 3 (ctx_ok eqOk hG) curJ_stable (by simp) ?_
  simp [List.range, List.range.loop, ints, intss, int, bool, row, frac, fracs, ← List.map_take, ← List.map_drop, hmx]
  refine tyo_cur hbytes hF0 hbF hcur rfl rfl rfl (by rfl) (by rfl) (by rfl) ?_
  simp [List.range, List.range.loop, ints, intss, int, bool, row, frac, fracs, ← List.map_take, ← List.map_drop]
  refine tyo_ops 1 (ctx_ok eqOk hG) curJ_stable (by simp) ?_
  simp [List.range, List.range.loop, ints, intss, int, bool, row, frac, fracs, ← List.map_take, ← List.map_drop]
  refine tyo_end (by simp) ?_
  simp only [thenY_normal]
  refine ty_awp (ctx_ok eqOk hG) mixed curJ_stable (live := [true, true, true, false, false, false, true]) fun X A w1 => ?_
  simp [List.range, List.range.loop, ints, intss, int, bool, row, frac, fracs, ← List.map_take, ← List.map_drop, thenY_ret]
  done
end Go.Proofs.YtkfmhpgnhkdebaaGreatDoor.Ax
namespace Go.Proofs.YtkfmhpgnhkdebaaGreatDoor.Ax
open Go Go.RowKit
set_option linter.unusedSimpArgs false
theorem l01Once_cur {nl : Bool} {by' : List Int} {s : Int × Int} (hs : CrOk by' s) {n : Nat} (h0 : 0 < n) (hn : n ≤ 256) : CurOk Tryz.prog 149 (byts nl by') 179 [int n] s (crS by' s) (.v (.bool (decide (bw by' s n = 0)))) := by
  have hcur := l01Below_cur (nl := nl) hs h0 hn
  have hG : FnsOk Tryz.prog [] := .nil
  refine curOk_of_ty (dt := []) (ctx_ok eqOk hG) Tryz.func149 rfl (by kernel_rfl) (by kernel_rfl) fun w F0 code b hbytes hF0 hbF => ?_
  refine ty_seq (ty_awp (ctx_ok eqOk hG) mixed curJ_stable (live := [true, true, false, false, true]) fun X A w1 => ?_)
  simp [Tryz.f149, List.range, List.range.loop, ints, intss, int, bool, row, frac, fracs, ← List.map_take, ← List.map_drop, thenY_normal]
  refine ty_seq (ty_reg (tyo_ops 2 (ctx_ok eqOk hG) curJ_stable (by simp) ?_))
  simp [List.range, List.range.loop, ints, intss, int, bool, row, frac, fracs, ← List.map_take, ← List.map_drop]
  refine tyo_cur hbytes hF0 hbF hcur rfl rfl rfl (by rfl) (by rfl) (by rfl) ?_
  simp [List.range, List.range.loop, ints, intss, int, bool, row, frac, fracs, ← List.map_take, ← List.map_drop]
  refine tyo_ops 2 (ctx_ok eqOk hG) curJ_stable (by simp) ?_
  simp [List.range, List.range.loop, ints, intss, int, bool, row, frac, fracs, ← List.map_take, ← List.map_drop]
  refine tyo_end (by simp) ?_
  simp only [thenY_normal]
  refine ty_awp (ctx_ok eqOk hG) mixed curJ_stable (live := [true, true, false, false, true]) fun X A w1 => ?_
  simp [List.range, List.range.loop, ints, intss, int, bool, row, frac, fracs, ← List.map_take, ← List.map_drop, thenY_ret]
  rfl
end Go.Proofs.YtkfmhpgnhkdebaaGreatDoor.Ax
namespace Go.Proofs
open Go.Shelf
def Tryz.laysM171_ren : Go.Shelf.Ren := ⟨fun | 171 => 75 | 243 => 156 | 246 => 218 | 283 => 255 | 284 => 256 | 285 => 257 | 286 => 258 | 129 => 285 | 317 => 284 | 318 => 286 | 319 => 287 | 320 => 288 | 337 => 295 | 338 => 296 | n => n, fun | 3 => 3 | 9 => 9 | 2 => 2 | 4 => 4 | 171 => 227 | 0 => 0 | 53 => 208 | 37 => 33 | 5 => 5 | 173 => 229 | 212 => 250 | 51 => 206 | 20 => 20 | 213 => 251 | 46 => 167 | 232 => 267 | 233 => 268 | n => n, fun | 17 => 1 | 18 => 6 | 19 => 7 | n => n⟩
theorem Tryz.laysM171 : Go.Proofs.LaysM.n171 Tryz.prog Tryz.laysM171_ren := {
  mixed := by kernel_rfl
  f129 := Tryz.func285.trans (congrArg some (by kernel_rfl))
  f171 := Tryz.func75.trans (congrArg some (by kernel_rfl))
  f243 := Tryz.func156.trans (congrArg some (by kernel_rfl))
  f246 := Tryz.func218.trans (congrArg some (by kernel_rfl))
  f283 := Tryz.func255.trans (congrArg some (by kernel_rfl))
  f284 := Tryz.func256.trans (congrArg some (by kernel_rfl))
  f285 := Tryz.func257.trans (congrArg some (by kernel_rfl))
  f286 := Tryz.func258.trans (congrArg some (by kernel_rfl))
  f317 := Tryz.func284.trans (congrArg some (by kernel_rfl))
  f318 := Tryz.func286.trans (congrArg some (by kernel_rfl))
  f319 := Tryz.func287.trans (congrArg some (by kernel_rfl))
  f320 := Tryz.func288.trans (congrArg some (by kernel_rfl))
  f337 := Tryz.func295.trans (congrArg some (by kernel_rfl))
  f338 := Tryz.func296.trans (congrArg some (by kernel_rfl))
  t0 := Tryz.underlying0
  a0 := Tryz.isAgg0
  z0 := Tryz.sizeOf0
  v0 := Tryz.zeroValue0
  t2 := Tryz.underlying2
  a2 := Tryz.isAgg2
  z2 := Tryz.sizeOf2
  v2 := Tryz.zeroValue2
  t3 := Tryz.underlying3
  a3 := Tryz.isAgg3
  z3 := Tryz.sizeOf3
  v3 := Tryz.zeroValue3
  t4 := Tryz.underlying4
  a4 := Tryz.isAgg4
  z4 := Tryz.sizeOf4
  v4 := Tryz.zeroValue4
  t5 := Tryz.underlying5
  a5 := Tryz.isAgg5
  z5 := Tryz.sizeOf5
  v5 := Tryz.zeroValue5
  t9 := Tryz.underlying9
  a9 := Tryz.isAgg9
  z9 := Tryz.sizeOf9
  v9 := Tryz.zeroValue9
  t20 := Tryz.underlying20
  a20 := Tryz.isAgg20
  z20 := Tryz.sizeOf20
  v20 := Tryz.zeroValue20
  t37 := Tryz.underlying33
  a37 := Tryz.isAgg33
  z37 := Tryz.sizeOf33
  v37 := Tryz.zeroValue33
  t46 := Tryz.underlying167
  a46 := Tryz.isAgg167
  z46 := Tryz.sizeOf167
  v46 := Tryz.zeroValue167
  t51 := Tryz.underlying206
  a51 := Tryz.isAgg206
  z51 := Tryz.sizeOf206
  v51 := Tryz.zeroValue206
  t53 := Tryz.underlying208
  a53 := Tryz.isAgg208
  z53 := Tryz.sizeOf208
  v53 := Tryz.zeroValue208
  t171 := Tryz.underlying227
  a171 := Tryz.isAgg227
  z171 := Tryz.sizeOf227
  v171 := Tryz.zeroValue227
  t173 := Tryz.underlying229
  a173 := Tryz.isAgg229
  z173 := Tryz.sizeOf229
  v173 := Tryz.zeroValue229
  t212 := Tryz.underlying250
  a212 := Tryz.isAgg250
  z212 := Tryz.sizeOf250
  v212 := Tryz.zeroValue250
  t213 := Tryz.underlying251
  a213 := Tryz.isAgg251
  z213 := Tryz.sizeOf251
  t232 := Tryz.underlying267
  a232 := Tryz.isAgg267
  z232 := Tryz.sizeOf267
  v232 := Tryz.zeroValue267
  t233 := Tryz.underlying268
  a233 := Tryz.isAgg268
  z233 := Tryz.sizeOf268
  v233 := Tryz.zeroValue268
  g17 := by kernel_rfl
  g18 := by kernel_rfl
  g19 := by kernel_rfl
  i0 := by kernel_rfl
  i2 := by kernel_rfl
  i3 := by kernel_rfl
  i4 := by kernel_rfl
  i5 := by kernel_rfl
  i9 := by kernel_rfl
  i20 := by kernel_rfl
  i37 := by kernel_rfl
  i46 := by kernel_rfl
  i51 := by kernel_rfl
  i53 := by kernel_rfl
  i171 := by kernel_rfl
  i173 := by kernel_rfl
  i212 := by kernel_rfl
  i232 := by kernel_rfl
  i233 := by kernel_rfl
  m17 := by kernel_rfl
  m18 := by kernel_rfl
  m19 := by kernel_rfl }
end Go.Proofs
namespace Go.Proofs.YtkfmhpgnhkdebaaGreatDoor.Ax
open Go Go.RowKit
set_option linter.unusedSimpArgs false
def inI (n : Int) : Prop := -9223372036854775808 ≤ n ∧ n ≤ 9223372036854775807
def itoaS (n : Int) : ByteArray := ⟨(Lib.itoa n).toArray⟩
theorem tab_of {F : Nat → Prop} {w : World} (h : Gl F w) : Lib.TabIs Tryz.prog w "internal/strconv.uint64pow10" .u64 Lib.pow10Tab := by
  cases hg : Tryz.prog.globalNamed "internal/strconv.uint64pow10" with
  | none => exact absurd (show (Tryz.prog.globalNamed "internal/strconv.uint64pow10").isSome = true by kernel_rfl) (by rw [hg]; simp)
  | some g =>
    obtain ⟨_, x, y, h2⟩ := h.1 g hg
    unfold Lib.TabIs World.var?
    rw [hg]
    simp [h2]
noncomputable def mItoa : List AV → Option AV := mk inI (fun (n : Int) => [int n]) (fun n => .v (.string (itoaS n)))
theorem mItoa_at (n : Int) (h : inI n) : mItoa [.v (.int .i64 n)] = some (.v (.string (itoaS n))) :=
  mk_eq (enc := fun (n : Int) => [int n]) (x := n) (by intro a b h; simp [int] at h; rw [h]) h
theorem itoa_ok : FnOk Tryz.prog 75 mItoa := by
  refine mk_ok fun n hn => ?_
  refine ⟨⟨_, Tryz.func75, by kernel_rfl, by kernel_rfl⟩, fun w F vals hF hv => ?_⟩
  simp only [RepL, Rep, int] at hv
  obtain ⟨a, r1, e1, ⟨rfl, _⟩, rfl⟩ := hv
  have hvals : vals = #[.int .i64 n] := by apply Array.ext'; rw [e1]
  subst hvals
  refine (Go.Proofs.Any.strconv_Itoa Tryz.laysM171 n hn.1 hn.2 w (tab_of hF.gl)).mono fun e w' h => ?_
  obtain ⟨rfl, k, os, rfl⟩ := h
  refine ⟨_, fun _ => False, rfl, ⟨rfl, rfl, rfl, by simp [Go.Sort.grow, World.drewN], fun b hb _ => ?_⟩, fun _ h => h.elim, ?_⟩
  · simp [Go.Sort.grow, World.drewN, Array.getElem?_append, hb]
  · simp only [Own]; exact ⟨rfl, rfl⟩
theorem implFormatInt_ok : FnOk Tryz.prog 17 mItoa := by
  refine mk_ok fun n hn => ?_
  have hG : FnsOk Tryz.prog [(75, mItoa)] := (.cons itoa_ok .nil)
  refine callOk_awp (ctx_ok eqOk hG) mixed (live := [true, false, true]) (dt := []) Tryz.func17 rfl (by kernel_rfl) (by kernel_rfl) fun w0 hlens => ?_
  clear hlens
  have hm := mItoa_at n hn
  simp (config := {contextual := true}) [Tryz.f17, List.range, List.range.loop, ints, intss, int, bool, row, frac, fracs, ← List.map_take, ← List.map_drop, hm]
  done
end Go.Proofs.YtkfmhpgnhkdebaaGreatDoor.Ax
