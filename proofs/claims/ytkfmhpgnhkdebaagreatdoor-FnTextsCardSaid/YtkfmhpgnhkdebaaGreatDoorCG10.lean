/-
  Contracts: the reference's draws of a ranking and of a profile. No condition.
-/
import Derived.Test.YtkfmhpgnhkdebaaGreatDoorCG9
import Derived.Test.YtkfmhpgnhkdebaaGreatDoorCK4
import Derived.Test.YtkfmhpgnhkdebaaGreatDoorCG1
namespace Go.Proofs.YtkfmhpgnhkdebaaGreatDoor.Ax
open Go Go.RowKit
set_option linter.unusedSimpArgs false
theorem idx_snoc {m : Nat} : (idx m).map int ++ [int (m : Int)] = (idx (m + 1)).map int := by simp [idx, List.range_succ]
set_option maxRecDepth 8000 in
set_option maxHeartbeats 2000000 in
theorem l03Draw_cur {nl : Bool} {by' : List Int} {s : Int × Int} (hs : CrOk by' s) {m : Nat} (h1 : 1 ≤ m) (h5 : m ≤ 5) : CurOk Tryz.prog 71 (byts nl by') 179 [int m] s (crN by' s (m - 1)) (.sl false 1 ((rkD by' s m (m - 1)).map int)) := by
  have hcur := fun (n k : Nat) (h0 : 0 < n) (hm : n ≤ 256) => l01Below_cur (nl := nl) (crN_ok hs k) h0 hm
  have hG : FnsOk Tryz.prog [] := .nil
  refine curOk_of_ty (dt := []) (ctx_ok eqOk hG) Tryz.func71 rfl (by kernel_rfl) (by kernel_rfl) fun w F0 code b hbytes hF0 hbF => ?_
  refine ty_seq (ty_awp (ctx_ok eqOk hG) mixed curJ_stable (live := [true, true, false, false, true, true, true, true, true, true, false, false, false, true, false, false, false, false, false, false, false, false, false, true]) fun X A w1 => ?_)
  simp [Tryz.f71, List.range, List.range.loop, ints, intss, int, bool, row, frac, fracs, ← List.map_take, ← List.map_drop, thenY_normal]
  refine ty_seq (ty_awp (ctx_ok eqOk hG) mixed curJ_stable (live := [true, true, false, false, true, true, true, true, true, true, false, false, false, true, false, false, false, false, false, false, false, false, false, true]) fun X A w1 => ?_)
  simp [List.range, List.range.loop, ints, intss, int, bool, row, frac, fracs, ← List.map_take, ← List.map_drop, thenY_normal]
  refine ty_seq (ty_seq (ty_awp (ctx_ok eqOk hG) mixed curJ_stable (live := [true, true, false, false, true, true, true, true, true, true, false, false, false, true, false, false, false, false, false, false, false, false, false, true]) fun X A w1 => ?_))
  simp [List.range, List.range.loop, ints, intss, int, bool, row, frac, fracs, ← List.map_take, ← List.map_drop, thenY_normal]
  have z0 : idx 0 = [] := rfl
  refine ty_block (ty_loop (α := {i : Nat // i ≤ m}) (fun i => ⟨[.v (ptrV b), int m, .junk, .junk, .junk, .ref 0 [] 0 i.1, int i.1, .junk, .junk, .junk, .junk, .junk, .junk, .junk, .junk, .junk, .junk, .junk, .junk, .junk, .junk, .junk, .junk, .junk, .junk, .junk, .junk, .junk, .junk, .junk, .junk, .junk, .junk, .junk, .junk, .junk, .junk, .junk, .junk, .junk, .junk, .junk, .junk, .junk, .junk, .junk], [⟨true, .sl false 1 ((idx i.1).map int)⟩]⟩) (fun _ => s) (fun i => m - i.1) ⟨0, Nat.zero_le _⟩ ⟨?_, rfl⟩ ?_)
  · simp [sub, slotsLe, clean, keep, refsL, refs, once, place, renL, ren, List.replicate, int, bool, z0]
  rintro ⟨i, hi⟩
  have hil : (idx i).length = i := idx_len
  by_cases hin : i < m
  · have hini : (i : Int) < m := by omega
    have hbb : i + 1 ≤ 4611686018427387904 ∧ (i + 1) * 8 ≤ 140737488355328 := by omega
    have hst : (idx i).map int ++ [.v (.int .i64 (i : Int))] = (idx (i + 1)).map int := idx_snoc
    have hwk : IntKind.i64.wrap ((i : Int) + 1) = (i : Int) + 1 := wrapI (by omega) (by omega)
    refine ty_awp (ctx_ok eqOk hG) mixed curJ_stable (live := [true, true, false, false, true, true, true, true, true, true, false, false, false, true, false, false, false, false, false, false, false, false, false, true]) fun X A w1 => ?_
    simp [List.range, List.range.loop, ints, intss, int, bool, row, frac, fracs, ← List.map_take, ← List.map_drop, thenY_normal, hin, hini, hil, hbb, hst, hwk]
    exact ⟨⟨i + 1, hin⟩, by simp [sub, slotsLe, clean, keep, refsL, refs, once, place, renL, ren, List.replicate, int, bool], rfl, by simp; omega⟩
  obtain rfl : i = m := by omega
  refine ty_seq (ty_awp (ctx_ok eqOk hG) mixed curJ_stable (live := [true, true, false, false, true, true, true, true, true, true, false, false, false, true, false, false, false, false, false, false, false, false, false, true]) fun X A w1 => ?_)
  simp [List.range, List.range.loop, ints, intss, int, bool, row, frac, fracs, ← List.map_take, ← List.map_drop, thenY_normal, thenY_exit, inBY_exit]
  refine ty_seq (ty_seq (ty_awp (ctx_ok eqOk hG) mixed curJ_stable (live := [true, true, false, false, true, true, true, true, true, true, false, false, false, true, false, false, false, false, false, false, false, false, false, true]) fun X A w1 => ?_))
  have w1 : IntKind.i64.wrap ((i : Int) - 1) = (i : Int) - 1 := wrapI (by omega) (by omega)
  have z1 : rkD by' s i 0 = idx i := rfl
  simp [List.range, List.range.loop, ints, intss, int, bool, row, frac, fracs, ← List.map_take, ← List.map_drop, thenY_normal, w1]
  refine ty_block (ty_loop (α := {t : Nat // t ≤ i - 1}) (fun t => ⟨[.v (ptrV b), .junk, .junk, .junk, .junk, .ref 0 [] 0 i, .junk, int ((i : Int) - 1 - t.1), .junk, .junk, .junk, .junk, .junk, .junk, .junk, .junk, .junk, .junk, .junk, .junk, .junk, .junk, .junk, .junk, .junk, .junk, .junk, .junk, .junk, .junk, .junk, .junk, .junk, .junk, .junk, .junk, .junk, .junk, .junk, .junk, .junk, .junk, .junk, .junk, .junk, .junk], [⟨true, .sl false 1 ((rkD by' s i t.1).map int)⟩]⟩) (fun t => crN by' s t.1) (fun t => i - t.1) ⟨0, Nat.zero_le _⟩ ⟨?_, rfl⟩ ?_)
  · simp [sub, slotsLe, clean, keep, refsL, refs, once, place, renL, ren, List.replicate, int, bool, z1]
  rintro ⟨t, ht⟩
  obtain ⟨r1, _, _⟩ := rkD_ok (by' := by') (s := s) (m := i) (t := t) (by omega)
  by_cases htn : t < i - 1
  rotate_left
  · obtain rfl : t = i - 1 := by omega
    have hz : ¬ ((i - 1 : Nat) : Int) < (i : Int) - 1 := by omega
    refine ty_seq (ty_awp (ctx_ok eqOk hG) mixed curJ_stable (live := [true, true, false, false, true, true, true, true, true, true, false, false, false, true, false, false, false, false, false, false, false, false, false, true]) fun X A w1 => ?_)
    simp [List.range, List.range.loop, ints, intss, int, bool, row, frac, fracs, ← List.map_take, ← List.map_drop, thenY_normal, thenY_exit, inBY_exit, hz]
    refine ty_awp (ctx_ok eqOk hG) mixed curJ_stable (live := [true, true, false, false, true, true, true, true, true, true, false, false, false, true, false, false, false, false, false, false, false, false, false, true]) fun X A w1 => ?_
    simp [List.range, List.range.loop, ints, intss, int, bool, row, frac, fracs, ← List.map_take, ← List.map_drop, thenY_ret, r1]
  have hcall := hcur (i - t) t (by omega) (by omega)
  have hb := bw_bd (by' := by') (s := crN by' s t) (n := i - t) (by omega)
  have hst : rkD by' s i (t + 1) = swp (rkD by' s i t) (i - 1 - t) (bw by' (crN by' s t) (i - t)).toNat := rfl
  have hn : ((i - t : Nat) : Int) = (i : Int) - 1 - t + 1 := by omega
  rw [hn] at hcall
  obtain ⟨k, hk⟩ : ∃ k : Nat, bw by' (crN by' s t) (i - t) = k := ⟨(bw by' (crN by' s t) (i - t)).toNat, by omega⟩
  rw [hk] at hcall hst hb
  simp only [Int.toNat_natCast] at hst
  have hkl : k < i := by omega
  obtain ⟨q, hq⟩ : ∃ q : Nat, q = i - 1 - t := ⟨_, rfl⟩
  have hqI : (i : Int) - 1 - t = (q : Int) := by omega
  rw [← hq] at hst
  rw [hqI] at hcall ⊢
  have hql : q < i := by omega
  have hq0 : 0 < q := by omega
  have hq0I : (0 : Int) < (q : Int) := by omega
  have w2 : IntKind.i64.wrap ((q : Int) + 1) = (q : Int) + 1 := wrapI (by omega) (by omega)
  generalize rkD by' s i t = L0 at *
  refine ty_seq (ty_awp (ctx_ok eqOk hG) mixed curJ_stable (live := [true, true, false, false, true, true, true, true, true, true, false, false, false, true, false, false, false, false, false, false, false, false, false, true]) fun X A w1 => ?_)
  simp [List.range, List.range.loop, ints, intss, int, bool, row, frac, fracs, ← List.map_take, ← List.map_drop, thenY_normal, hq0, hq0I]
  refine ty_seq (ty_block (ty_seq (ty_reg (tyo_ops 3 (ctx_ok eqOk hG) curJ_stable (by simp) ?_))))
  simp [List.range, List.range.loop, ints, intss, int, bool, row, frac, fracs, ← List.map_take, ← List.map_drop, w2]
  refine tyo_cur hbytes hF0 hbF hcall rfl rfl rfl (by rfl) (by rfl) (by rfl) ?_
  simp [List.range, List.range.loop, ints, intss, int, bool, row, frac, fracs, ← List.map_take, ← List.map_drop]
  refine tyo_ops 1 (ctx_ok eqOk hG) curJ_stable (by simp) ?_
  simp [List.range, List.range.loop, ints, intss, int, bool, row, frac, fracs, ← List.map_take, ← List.map_drop]
  refine tyo_end (by simp) ?_
  simp only [thenY_normal]
  have g1 : L0[q]? = some (at0 L0 q) := by rw [List.getElem?_eq_getElem (by omega), at0_eq]
  have g2 : L0[k]? = some (at0 L0 k) := by rw [List.getElem?_eq_getElem (by omega), at0_eq]
  have g3 : swp L0 q k = (L0.set q (at0 L0 k)).set k (at0 L0 q) := rfl
  have e1 : L0[q]'(by omega) = at0 L0 q := (at0_eq _).symm
  have e2 : L0[k]'(by omega) = at0 L0 k := (at0_eq _).symm
  have e3 : ∀ (j : Nat) (x : Int), (L0.set j x).length = i := fun j x => by simp [r1]
  refine ty_seq (ty_awp (ctx_ok eqOk hG) mixed curJ_stable (live := [true, true, false, false, true, true, true, true, true, true, false, false, false, true, false, false, false, false, false, false, false, false, false, true]) fun X A w1 => ?_)
  simp [List.range, List.range.loop, ints, intss, int, bool, row, frac, fracs, ← List.map_take, ← List.map_drop, thenY_normal, r1, hql, hkl, g1, g2, e1, e2]
  refine ty_seq (ty_awp (ctx_ok eqOk hG) mixed curJ_stable (live := [true, true, false, false, true, true, true, true, true, true, false, false, false, true, false, false, false, false, false, false, false, false, false, true]) fun X A w1 => ?_)
  simp [List.range, List.range.loop, ints, intss, int, bool, row, frac, fracs, ← List.map_take, ← List.map_drop, thenY_normal, r1, hql, hkl, g1, g2, e1, e2]
  refine ty_awp (ctx_ok eqOk hG) mixed curJ_stable (live := [true, true, false, false, true, true, true, true, true, true, false, false, false, true, false, false, false, false, false, false, false, false, false, true]) fun X A w1 => ?_
  simp [List.range, List.range.loop, ints, intss, int, bool, row, frac, fracs, ← List.map_take, ← List.map_drop, thenY_normal, inBY_normal, r1, hql, hkl, g1, g2, e1, e2, e3]
  refine ty_awp (ctx_ok eqOk hG) mixed curJ_stable (live := [true, true, false, false, true, true, true, true, true, true, false, false, false, true, false, false, false, false, false, false, false, false, false, true]) fun X A w1 => ?_
  have w3 : IntKind.i64.wrap ((q : Int) - 1) = (q : Int) - 1 := wrapI (by omega) (by omega)
  simp [List.range, List.range.loop, ints, intss, int, bool, row, frac, fracs, ← List.map_take, ← List.map_drop, thenY_normal, w3]
  refine ⟨⟨t + 1, by omega⟩, ?_, rfl, by simp; omega⟩
  simp [sub, slotsLe, clean, keep, refsL, refs, once, place, renL, ren, List.replicate, int, bool, hst, g3, w3]
  refine ⟨?_, by omega⟩
  by_cases hqk : q = k
  · simp [hqk, int]
  · simp [hqk, int]
def pvR (m : Nat) : List Vt → AV
  | [] => .agg [.v (.int .i64 m), .sl true 1 []]
  | v :: vs => .agg [.v (.int .i64 m), .sl false 2 ((v :: vs).map vote)]
theorem pvR_nil {m : Nat} : pvR m [] = .agg [.v (.int .i64 m), .sl true 1 []] := rfl
theorem pvR_cons {m : Nat} {v : Vt} {vs : List Vt} : pvR m (v :: vs) = .agg [.v (.int .i64 m), .sl false 2 ((v :: vs).map vote)] := rfl
set_option maxRecDepth 8000 in
set_option maxHeartbeats 4000000 in
theorem l04Draw_cur {nl : Bool} {by' : List Int} {s : Int × Int} (hs : CrOk by' s) {m : Nat} (h1 : 1 ≤ m) (h5 : m ≤ 5) : CurOk Tryz.prog 70 (byts nl by') 179 [int m] s (crN by' s (1 + nvD by' s * m)) (pvR m (vsD by' s m (nvD by' s))) := by
  have hcur := fun (n k : Nat) (h0 : 0 < n) (hm : n ≤ 256) => l01Below_cur (nl := nl) (crN_ok hs k) h0 hm
  have hrk := fun (k : Nat) => l03Draw_cur (nl := nl) (crN_ok hs k) h1 h5
  have hn := nvD_bd (by' := by') (s := s)
  generalize nvD by' s = n at *
  have hG : FnsOk Tryz.prog [] := .nil
  refine curOk_of_ty (dt := [(6, ⟨[(0, 7), (1, 7)], [0, 0, 0, 0, 0, 0, 0, 1, 2], []⟩)]) (ctx_ok eqOk hG) Tryz.func70 rfl (by kernel_rfl) (by kernel_rfl) fun w F0 code b hbytes hF0 hbF => ?_
  refine ty_seq (ty_awp (ctx_ok eqOk hG) mixed curJ_stable (live := [true, true, false, false, true, true, true, true, false, false, false, false, false, true]) fun X A w1 => ?_)
  simp [Tryz.f70, List.range, List.range.loop, ints, intss, int, bool, row, frac, fracs, ← List.map_take, ← List.map_drop, thenY_normal]
  refine ty_seq (ty_awp (ctx_ok eqOk hG) mixed curJ_stable (live := [true, true, false, false, true, true, true, true, false, false, false, false, false, true]) fun X A w1 => ?_)
  simp [List.range, List.range.loop, ints, intss, int, bool, row, frac, fracs, ← List.map_take, ← List.map_drop, thenY_normal]
  refine ty_seq (ty_seq (ty_reg (tyo_ops 1 (ctx_ok eqOk hG) curJ_stable (by simp) ?_)))
  simp [List.range, List.range.loop, ints, intss, int, bool, row, frac, fracs, ← List.map_take, ← List.map_drop]
  refine tyo_cur hbytes hF0 hbF (hcur 6 0 (by omega) (by omega)) rfl rfl rfl (by rfl) (by rfl) (by rfl) ?_
  simp [List.range, List.range.loop, ints, intss, int, bool, row, frac, fracs, ← List.map_take, ← List.map_drop]
  refine tyo_ops 1 (ctx_ok eqOk hG) curJ_stable (by simp) ?_
  have e0 : bw by' (crN by' s 0) 6 = (n : Int) := hn.2
  simp [List.range, List.range.loop, ints, intss, int, bool, row, frac, fracs, ← List.map_take, ← List.map_drop, e0]
  refine tyo_end (by simp) ?_
  simp only [thenY_normal]
  have hw : ∀ i : Nat, i ≤ n → IntKind.i64.wrap ((n : Int) - i - 1) = (n : Int) - i - 1 := fun i _ => wrapI (by omega) (by omega)
  refine ty_block (ty_loop (α := {i : Nat // i ≤ n}) (fun i => ⟨[.v (ptrV b), int m, .junk, .junk, .ptr 0 [] 0 0, .ptr 1 [] 0 0, int ((n : Int) - i.1), .junk, .junk, .junk, .junk, .junk, .junk, .junk, .junk, .junk, .junk, .junk, .junk, .junk, .junk, .junk, .junk, .junk, .junk, .junk, .junk, .junk, .junk, .junk], [⟨true, .sl false 2 [.agg [.v (.int .i64 0), .sl true 1 []]]⟩, ⟨true, .sl false 2 [pvR m (vsD by' s m i.1)]⟩]⟩) (fun i => crN by' s (1 + i.1 * m)) (fun i => n - i.1) ⟨0, Nat.zero_le _⟩ ⟨?_, ?_⟩ ?_)
  · simp [sub, slotsLe, clean, keep, refsL, refs, once, place, renL, ren, List.replicate, int, bool, vsD, pvR_nil]
  · simp [crN_one]; rfl
  rintro ⟨i, hi⟩
  have hvl := vsD_len (by' := by') (s := s) (m := m) (n := i)
  by_cases hin : i < n
  rotate_left
  · obtain rfl : i = n := by omega
    refine ty_seq (ty_awp (ctx_ok eqOk hG) mixed curJ_stable (live := [true, true, false, false, true, true, true, true, false, false, false, false, false, true]) fun X A w1 => ?_)
    simp [List.range, List.range.loop, ints, intss, int, bool, row, frac, fracs, ← List.map_take, ← List.map_drop, thenY_normal, thenY_exit, inBY_exit]
    generalize vsD by' s m i = V at *
    cases V with
    | nil =>
      refine ty_awp (ctx_ok eqOk hG) mixed curJ_stable (live := [true, true, false, false, true, true, true, true, false, false, false, false, false, true]) fun X A w1 => ?_
      simp [List.range, List.range.loop, ints, intss, int, bool, row, frac, fracs, ← List.map_take, ← List.map_drop, thenY_ret, pvR_nil, pvR_cons]
      done
    | cons v V =>
      refine ty_awp (ctx_ok eqOk hG) mixed curJ_stable (live := [true, true, false, false, true, true, true, true, false, false, false, false, false, true]) fun X A w1 => ?_
      simp [List.range, List.range.loop, ints, intss, int, bool, row, frac, fracs, ← List.map_take, ← List.map_drop, thenY_ret, pvR_nil, pvR_cons]
      done
  have hst := vsD_succ (by' := by') (s := s) (m := m) (n := i)
  have hv : vtD by' s m i = ((false, rkD by' (crN by' s (1 + i * m)) m (m - 1)), 1 + bw by' (crN by' s (1 + i * m + (m - 1))) 6) := rfl
  have hrk := hrk (1 + i * m)
  rw [crN_add] at hrk
  have hcall := hcur 6 (1 + i * m + (m - 1)) (by omega) (by omega)
  have hb := bw_bd (by' := by') (s := crN by' s (1 + i * m + (m - 1))) (n := 6) (by omega)
  have hw1 : IntKind.i64.wrap (1 + bw by' (crN by' s (1 + i * m + (m - 1))) 6) = 1 + bw by' (crN by' s (1 + i * m + (m - 1))) 6 := wrapI (by omega) (by omega)
  obtain ⟨q1, _, _⟩ := rkD_ok (by' := by') (s := crN by' s (1 + i * m)) (m := m) (t := m - 1) (by omega)
  generalize bw by' (crN by' s (1 + i * m + (m - 1))) 6 = c at *
  generalize rkD by' (crN by' s (1 + i * m)) m (m - 1) = R at *
  have hini : ¬ (n : Int) - i ≤ 0 := by omega
  have hini2 : (0 : Int) < (n : Int) - i := by omega
  have hini3 : (i : Int) < (n : Int) := by omega
  refine ty_seq (ty_awp (ctx_ok eqOk hG) mixed curJ_stable (live := [true, true, false, false, true, true, true, true, false, false, false, false, false, true]) fun X A w1 => ?_)
  simp [List.range, List.range.loop, ints, intss, int, bool, row, frac, fracs, ← List.map_take, ← List.map_drop, thenY_normal, hini, hini2, hini3]
  refine ty_seq (ty_block (ty_seq (ty_reg (tyo_ops 2 (ctx_ok eqOk hG) curJ_stable (by simp) ?_))))
  simp [List.range, List.range.loop, ints, intss, int, bool, row, frac, fracs, ← List.map_take, ← List.map_drop]
  refine tyo_cur hbytes hF0 hbF hrk rfl rfl rfl (by rfl) (by rfl) (by rfl) ?_
  simp [List.range, List.range.loop, ints, intss, int, bool, row, frac, fracs, ← List.map_take, ← List.map_drop]
  refine tyo_ops 1 (ctx_ok eqOk hG) curJ_stable (by simp) ?_
  simp [List.range, List.range.loop, ints, intss, int, bool, row, frac, fracs, ← List.map_take, ← List.map_drop]
  refine tyo_end (by simp) ?_
  simp only [thenY_normal]
  refine ty_drawCur (ctx_ok eqOk hG) mixed hbytes hF0 hbF hcall (c := 4) rfl rfl rfl (fun _ => rfl) (by kernel_rfl) ?_
  have hw' := hw i (by omega)
  have hend : crS by' (crN by' s (1 + i * m + (m - 1))) = crN by' s (1 + (i + 1) * m) := by
    rw [crN_one, crN_add]; congr 1; rw [Nat.add_mul]; omega
  rw [hv] at hst
  generalize vsD by' s m i = V at *
  cases V with
  | nil =>
    simp [List.range, List.range.loop, ints, intss, int, bool, row, frac, fracs, ← List.map_take, ← List.map_drop, curCtx, curM_at, pvR_nil, pvR_cons, hw1, q1]
    simp only [inBY_normal, thenY_normal]
    refine ty_awp (ctx_ok eqOk hG) mixed curJ_stable (live := [true, true, false, false, true, true, true, true, false, false, false, false, false, true]) fun X A w1 => ?_
    simp [List.range, List.range.loop, ints, intss, int, bool, row, frac, fracs, ← List.map_take, ← List.map_drop, thenY_normal, hw']
    refine ⟨⟨i + 1, hin⟩, ?_, hend, by simp; omega⟩
    simp [sub, slotsLe, clean, keep, refsL, refs, once, place, renL, ren, List.replicate, int, bool, hst, pvR_cons, vote]
    try omega
  | cons v V =>
    simp at hvl
    have hbb : V.length + 1 + 1 ≤ 4611686018427387904 ∧ (V.length + 1 + 1) * 32 ≤ 140737488355328 := by omega
    simp [List.range, List.range.loop, ints, intss, int, bool, row, frac, fracs, ← List.map_take, ← List.map_drop, curCtx, curM_at, pvR_nil, pvR_cons, hw1, q1, hbb]
    simp only [inBY_normal, thenY_normal]
    refine ty_awp (ctx_ok eqOk hG) mixed curJ_stable (live := [true, true, false, false, true, true, true, true, false, false, false, false, false, true]) fun X A w1 => ?_
    simp [List.range, List.range.loop, ints, intss, int, bool, row, frac, fracs, ← List.map_take, ← List.map_drop, thenY_normal, hw']
    refine ⟨⟨i + 1, hin⟩, ?_, hend, by simp; omega⟩
    simp [sub, slotsLe, clean, keep, refsL, refs, once, place, renL, ren, List.replicate, int, bool, hst, pvR_cons, vote]
    try omega
end Go.Proofs.YtkfmhpgnhkdebaaGreatDoor.Ax
namespace Go.Proofs.YtkfmhpgnhkdebaaGreatDoor.Ax
open Go Go.RowKit
set_option linter.unusedSimpArgs false
noncomputable def mFOf : List AV → Option AV := mk (fun p => -1000000000000000000 ≤ p.1 ∧ p.1 ≤ 1000000000000000000 ∧ 1 ≤ p.2 ∧ p.2 ≤ 1000000000000000000) (fun (p : (Int) × (Int)) => [int p.1, int p.2]) (fun p => .tup [.agg [.v (.int .i64 (mkF p.1 p.2).1.1), .v (.int .i64 (mkF p.1 p.2).1.2)], .v (.bool (mkF p.1 p.2).2)])
theorem mFOf_at (t : Int) (b : Int) (hpre : -1000000000000000000 ≤ t ∧ t ≤ 1000000000000000000 ∧ 1 ≤ b ∧ b ≤ 1000000000000000000) : mFOf [.v (.int .i64 t), .v (.int .i64 b)] = some (.tup [.agg [.v (.int .i64 (mkF t b).1.1), .v (.int .i64 (mkF t b).1.2)], .v (.bool (mkF t b).2)]) :=
  mk_eq (enc := fun (p : (Int) × (Int)) => [int p.1, int p.2]) (x := (t, b)) (by rintro ⟨a0, a1⟩ ⟨b0, b1⟩ h; simp [ints, intss, int, bool, row, frac, fracs, map_int_inj, map_row_inj, frac_inj, map_frac_inj] at h; simp [h]) hpre
set_option maxHeartbeats 1000000 in
theorem fractionOf_ok : FnOk Tryz.prog 183 mFOf := by
  refine mk_ok fun ⟨t, b⟩ ⟨h1, h2, h3, h4⟩ => ?_
  simp only at h1 h2 h3 h4
  obtain ⟨g1, g2⟩ := gcd_bd (x := t) (show b ≠ 0 by omega)
  have hg := mGcd_at 0 (max t (-t)) b (by omega) (by omega) (by omega) (by omega)
  rw [gcd_abs] at hg
  have wn : IntKind.i64.wrap (-t) = -t := wrapI (by omega) (by omega)
  have i1 : inR (-1000000000000000000) 1000000000000000000 t = true := by simp [inR]; omega
  have i2 : inR (-1000000000000000000) 1000000000000000000 b = true := by simp [inR]; omega
  have i3 : ¬ b = 0 := by omega
  have i4 : ¬ b < 0 := by omega
  have hG : FnsOk Tryz.prog [(96, mWithin), (175, (mGcd 0)), (97, mFracOk)] := (.cons l01In_ok (.cons l02Gcd_ok (.cons specFractionOk_ok .nil)))
  refine callOk_awp (ctx_ok eqOk hG) mixed (live := [true, true, false, false, true, true, true, true, false, false, false, false, false, false, false, false, false, false, false, true, false, false, true, false, false, false, false, false, false, false, false, false, false, false, false, false, false, false, false, false, false, false, true]) (dt := [(7, ⟨[], [0, 0, 0, 0, 0, 0, 0, 1], []⟩)]) Tryz.func183 rfl (by kernel_rfl) (by kernel_rfl) fun w0 hlens => ?_
  unfold mkF
  have w1 : IntKind.i64.wrap (t.tdiv (Int.gcd t b)) = t.tdiv (Int.gcd t b) := by have := tdiv_bd (x := t) (y := Int.gcd t b) (m := 4611686018427387904) (by omega) (by omega); exact wrapI (by omega) (by omega)
  have w2 : IntKind.i64.wrap (b.tdiv (Int.gcd t b)) = b.tdiv (Int.gcd t b) := by have := tdiv_bd (x := b) (y := Int.gcd t b) (m := 4611686018427387904) (by omega) (by omega); exact wrapI (by omega) (by omega)
  generalize (Int.gcd t b : Int) = g at *
  have hne' : ¬ g = 0 := by omega
  generalize hp1 : t.tdiv g = p at *
  generalize hq1 : b.tdiv g = q at *
  cases hf : fracOk (p, q) <;> simp (config := {contextual := true}) [Tryz.f183, List.range, List.range.loop, ints, intss, int, bool, row, frac, fracs, ← List.map_take, ← List.map_drop, mWithin_in, i1, i2, i3, i4, hg, wn, hne', hp1, hq1, w1, w2, mFracOk_at, hf]
end Go.Proofs.YtkfmhpgnhkdebaaGreatDoor.Ax
