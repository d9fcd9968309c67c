/-
  The plain side of the draws of rankings, profiles and counts. Plain Lean, no program in sight.
-/
import Derived.Test.YtkfmhpgnhkdebaaGreatDoorCG1
import Derived.Test.YtkfmhpgnhkdebaaGreatDoorCG4
import Derived.Test.YtkfmhpgnhkdebaaGreatDoorCG8
import Derived.Test.YtkfmhpgnhkdebaaGreatDoorCK4
namespace Go.Proofs.YtkfmhpgnhkdebaaGreatDoor.Ax
open Go Go.RowKit
set_option linter.unusedSimpArgs false
theorem crN_add {by' : List Int} {s : Int × Int} {a : Nat} : ∀ {b : Nat}, crN by' (crN by' s a) b = crN by' s (a + b)
  | 0 => rfl
  | b + 1 => by
    show crS by' (crN by' (crN by' s a) b) = crS by' (crN by' s (a + b))
    rw [crN_add]
def swp (l : List Int) (i k : Nat) : List Int := (l.set i (at0 l k)).set k (at0 l i)
theorem swp_len {l : List Int} {i k : Nat} : (swp l i k).length = l.length := by simp [swp]
theorem set_at0 {o : List Int} {i j : Nat} {v : Int} (h : i < o.length) : at0 (o.set i v) j = if i = j then v else at0 o j := by
  unfold at0
  rw [List.getD_eq_getElem?_getD, List.getElem?_set]
  split
  · rename_i e; subst e; simp [h]
  · rw [← List.getD_eq_getElem?_getD]
theorem swp_at {l : List Int} {i k j : Nat} (hi : i < l.length) (hk : k < l.length) : at0 (swp l i k) j = if k = j then at0 l i else if i = j then at0 l k else at0 l j := by
  unfold swp
  rw [set_at0 (by simpa using hk), set_at0 hi]
theorem nodup_at {l : List Int} : l.Nodup ↔ ∀ i j, i < l.length → j < l.length → at0 l i = at0 l j → i = j := by
  rw [List.nodup_iff_pairwise_ne, List.pairwise_iff_getElem]
  constructor
  · intro h i j hi hj e
    rw [at0_eq hi, at0_eq hj] at e
    rcases Nat.lt_trichotomy i j with hl | hl | hl
    · exact absurd e (h i j hi hj hl)
    · exact hl
    · exact absurd e.symm (h j i hj hi hl)
  · intro h i j hi hj hl e
    have := h i j hi hj (by rw [at0_eq hi, at0_eq hj]; exact e)
    omega
theorem bd_at {l : List Int} {m : Int} : (∀ x ∈ l, 0 ≤ x ∧ x < m) ↔ ∀ i, i < l.length → 0 ≤ at0 l i ∧ at0 l i < m := by
  constructor
  · intro h i hi
    rw [at0_eq hi]; exact h _ (List.getElem_mem hi)
  · intro h x hx
    obtain ⟨i, hi, rfl⟩ := List.getElem_of_mem hx
    have := h i hi
    rwa [at0_eq hi] at this
def rkD (by' : List Int) (s : Int × Int) (m : Nat) : Nat → List Int
  | 0 => idx m
  | t + 1 => swp (rkD by' s m t) (m - 1 - t) (bw by' (crN by' s t) (m - t)).toNat
theorem rkD_ok {by' : List Int} {s : Int × Int} {m : Nat} : ∀ {t : Nat}, t ≤ m → (rkD by' s m t).length = m ∧ (∀ x ∈ rkD by' s m t, 0 ≤ x ∧ x < m) ∧ (rkD by' s m t).Nodup
  | 0, _ => by
    refine ⟨by simp [rkD, idx], fun x hx => ?_, ?_⟩
    · simp only [rkD, idx, List.mem_map, List.mem_range] at hx
      obtain ⟨i, hi, rfl⟩ := hx
      omega
    · unfold rkD idx
      rw [List.nodup_iff_pairwise_ne, List.pairwise_map]
      refine (List.nodup_iff_pairwise_ne.1 List.nodup_range).imp fun h e => h (by omega)
  | t + 1, ht => by
    obtain ⟨h1, h2, h3⟩ := rkD_ok (by' := by') (s := s) (m := m) (t := t) (by omega)
    have hb := bw_bd (by' := by') (s := crN by' s t) (n := m - t) (by omega)
    have hi : m - 1 - t < (rkD by' s m t).length := by omega
    have hk : (bw by' (crN by' s t) (m - t)).toNat < (rkD by' s m t).length := by omega
    have hat := fun j => swp_at (j := j) hi hk
    have hl := swp_len (l := rkD by' s m t) (i := m - 1 - t) (k := (bw by' (crN by' s t) (m - t)).toNat)
    rw [nodup_at] at h3
    rw [bd_at] at h2
    show (swp _ _ _).length = m ∧ _ ∧ _
    refine ⟨by omega, ?_, ?_⟩
    · rw [bd_at]
      intro j hj
      show 0 ≤ at0 (swp _ _ _) j ∧ at0 (swp _ _ _) j < _
      have hj' : j < (rkD by' s m t).length := by
        have : (rkD by' s m (t + 1)).length = (rkD by' s m t).length := hl
        omega
      rw [hat]
      split
      · exact h2 _ hi
      · split
        · exact h2 _ hk
        · exact h2 _ hj'
    · rw [nodup_at]
      intro j j' hj hj' e
      have hjj : (rkD by' s m (t + 1)).length = (rkD by' s m t).length := hl
      have e' : at0 (swp (rkD by' s m t) (m - 1 - t) (bw by' (crN by' s t) (m - t)).toNat) j = at0 (swp (rkD by' s m t) (m - 1 - t) (bw by' (crN by' s t) (m - t)).toNat) j' := e
      rw [hat, hat] at e'
      have f1 := h3 j j' (by omega) (by omega)
      have f2 := h3 (m - 1 - t) j' hi (by omega)
      have f3 := h3 j (m - 1 - t) (by omega) hi
      have f4 := h3 (bw by' (crN by' s t) (m - t)).toNat j' hk (by omega)
      have f5 := h3 j (bw by' (crN by' s t) (m - t)).toNat (by omega) hk
      have f6 := h3 (m - 1 - t) (bw by' (crN by' s t) (m - t)).toNat hi hk
      have f7 := h3 (bw by' (crN by' s t) (m - t)).toNat (m - 1 - t) hk hi
      split at e' <;> split at e' <;> (try split at e') <;> (try split at e') <;> first | omega | (have := f1 e'; omega) | (have := f2 e'; omega) | (have := f3 e'; omega) | (have := f4 e'; omega) | (have := f5 e'; omega) | (have := f6 e'; omega) | (have := f7 e'; omega)
end Go.Proofs.YtkfmhpgnhkdebaaGreatDoor.Ax
namespace Go.Proofs.YtkfmhpgnhkdebaaGreatDoor.Ax
open Go Go.RowKit
set_option linter.unusedSimpArgs false
def hN (by' : List Int) : Nat → Int
  | 0 => IntKind.i64.wrap (2139 + by'.length)
  | k + 1 => bits .and .i64 (IntKind.i64.wrap (IntKind.i64.wrap (IntKind.i64.wrap (hN by' k * 149) + IntKind.i64.wrap (by'.getD k 0)) + 7)) 1073741823
def cr0 (by' : List Int) : Int × Int := (0, hN by' (min by'.length 4000))
theorem cr0_ok {by' : List Int} (h : by'.length ≤ 1048576) : CrOk by' (cr0 by') := ⟨h, Int.le_refl _, by unfold cr0; omega⟩
set_option maxRecDepth 8000 in
set_option maxHeartbeats 2000000 in
theorem l01New_new {nl : Bool} {by' : List Int} (hlen : by'.length ≤ 1048576) : NewOk Tryz.prog 147 (byts nl by') 179 [] (cr0 by') := by
  have hG : FnsOk Tryz.prog [] := .nil
  refine newOk_of_tye (dt := []) (d := 2) Tryz.func147 rfl (by kernel_rfl) (by kernel_rfl) rfl fun w F => ?_
  refine ty_seqE (ty_awp (ctx_ok eqOk hG) mixed noJ_stable (live := [true, false, true, true, true, false, false, false, false, false, false, false, false, false, false, true]) fun X A w1 => ?_)
  simp [Tryz.f147, List.range, List.range.loop, ints, intss, int, bool, row, frac, fracs, ← List.map_take, ← List.map_drop, thenY_normal, byts]
  refine ty_seqE (ty_awp (ctx_ok eqOk hG) mixed noJ_stable (live := [true, false, true, true, true, false, false, false, false, false, false, false, false, false, false, true]) fun X A w1 => ?_)
  simp [List.range, List.range.loop, ints, intss, int, bool, row, frac, fracs, ← List.map_take, ← List.map_drop, thenY_normal]
  have hr0 : IntKind.i64.wrap (2139 + (by'.length : Int)) = hN by' 0 := rfl
  rw [hr0]
  refine ty_seqE (ty_seq (ty_awp (ctx_ok eqOk hG) mixed noJ_stable (live := [true, false, true, true, true, false, false, false, false, false, false, false, false, false, false, true]) fun X A w1 => ?_))
  simp [List.range, List.range.loop, ints, intss, int, bool, row, frac, fracs, ← List.map_take, ← List.map_drop, thenY_normal]
  refine ty_block (ty_loop (α := {k : Nat // k ≤ min by'.length 4000}) (fun k => ⟨[.sl nl 1 (by'.map bAV), .junk, .junk, int (hN by' k.1), int k.1, .junk, .junk, .junk, .junk, .junk, .junk, .junk, .junk, .junk, .junk, .junk, .junk, .junk, .junk, .junk, .junk, .junk, .junk, .junk, .junk, .junk, .junk, .junk, .junk, .junk, .junk, .junk], []⟩) (fun _ => ()) (fun k => 4000 - k.1) ⟨0, Nat.zero_le _⟩ ⟨?_, rfl⟩ ?_)
  · simp [sub, slotsLe, clean, keep, refsL, refs, once, place, renL, ren, List.replicate, int, bool]
  rintro ⟨k, hk⟩
  by_cases hkl : k < by'.length
  · have hki : (k : Int) < (by'.length : Int) := by omega
    by_cases hk4 : k < 4000
    · have hk4i : (k : Int) < 4000 := by omega
      have hgd : by'.getD k 0 = by'[k] := by simp [List.getD_eq_getElem?_getD, hkl]
      refine ty_seq (ty_awp (ctx_ok eqOk hG) mixed noJ_stable (live := [true, false, true, true, true, false, false, false, false, false, false, false, false, false, false, true]) fun X A w1 => ?_)
      simp [List.range, List.range.loop, ints, intss, int, bool, row, frac, fracs, ← List.map_take, ← List.map_drop, thenY_normal, hkl, hki, hk4, hk4i]
      refine ty_seq (ty_block (ty_reg (tyo_ops 9 (ctx_ok eqOk hG) noJ_stable (by simp) ?_)))
      simp [List.range, List.range.loop, ints, intss, int, bool, row, frac, fracs, ← List.map_take, ← List.map_drop, hkl, bAV]
      refine tyo_bin (r := .int .i64 (hN by' (k + 1))) rfl rfl rfl (by rfl) (by rfl) (fun W => ?_) rfl ?_
      · rw [hN, hgd]
        simp [eqGuard, binOp, Op.intArith, Op.intCmp]
        rfl
      refine tyo_ops 1 (ctx_ok eqOk hG) noJ_stable (by simp) ?_
      simp [List.range, List.range.loop, ints, intss, int, bool, row, frac, fracs, ← List.map_take, ← List.map_drop]
      refine tyo_end (by simp) ?_
      simp only [thenY_normal, inBY_normal]
      refine ty_awp (ctx_ok eqOk hG) mixed noJ_stable (live := [true, false, true, true, true, false, false, false, false, false, false, false, false, false, false, true]) fun X A w1 => ?_
      have hwk : IntKind.i64.wrap ((k : Int) + 1) = (k : Int) + 1 := wrapI (by omega) (by omega)
      simp [List.range, List.range.loop, ints, intss, int, bool, row, frac, fracs, ← List.map_take, ← List.map_drop, thenY_normal, hwk]
      exact ⟨⟨k + 1, by omega⟩, by simp [sub, slotsLe, clean, keep, refsL, refs, once, place, renL, ren, List.replicate, int, bool], rfl, by simp; omega⟩
    · have hk4i : ¬ (k : Int) < 4000 := by omega
      have hkm : k = min by'.length 4000 := by omega
      refine ty_seq (ty_awp (ctx_ok eqOk hG) mixed noJ_stable (live := [true, false, true, true, true, false, false, false, false, false, false, false, false, false, false, true]) fun X A w1 => ?_)
      simp [List.range, List.range.loop, ints, intss, int, bool, row, frac, fracs, ← List.map_take, ← List.map_drop, thenY_normal, thenY_exit, inBY_exit, hkl, hki, hk4, hk4i]
      rw [show cr0 by' = (0, hN by' k) by unfold cr0; rw [← hkm]]
      refine tye_box (ctx_ok eqOk hG) (pre := [_, _, _]) rfl rfl rfl rfl (.inr rfl) rfl rfl ?_
      simp [List.range, List.range.loop, ints, intss, int, bool, row, frac, fracs, ← List.map_take, ← List.map_drop]
  · have hki : ¬ (k : Int) < (by'.length : Int) := by omega
    have hkm : k = min by'.length 4000 := by omega
    refine ty_seq (ty_awp (ctx_ok eqOk hG) mixed noJ_stable (live := [true, false, true, true, true, false, false, false, false, false, false, false, false, false, false, true]) fun X A w1 => ?_)
    simp [List.range, List.range.loop, ints, intss, int, bool, row, frac, fracs, ← List.map_take, ← List.map_drop, thenY_normal, thenY_exit, inBY_exit, hkl, hki]
    rw [show cr0 by' = (0, hN by' k) by unfold cr0; rw [← hkm]]
    refine tye_box (ctx_ok eqOk hG) (pre := [_, _, _]) rfl rfl rfl rfl (.inr rfl) rfl rfl ?_
    simp [List.range, List.range.loop, ints, intss, int, bool, row, frac, fracs, ← List.map_take, ← List.map_drop]
def crB (by' : List Int) (n : Nat) : Int × Int := crN by' (cr0 by') n
set_option maxRecDepth 8000 in
set_option maxHeartbeats 2000000 in
theorem l32New_new {nl : Bool} {by' : List Int} (hlen : by'.length ≤ 1048576) (n : Nat) (hn : n ≤ 1000) : NewOk Tryz.prog 69 (byts nl by') 179 [int (n : Int)] (crB by' n) := by
  have hnew := l01New_new (nl := nl) hlen
  have hcur := fun (k : Nat) => l01Byte_cur (nl := nl) (crN_ok (cr0_ok hlen) k)
  have hG : FnsOk Tryz.prog [] := .nil
  refine newOk_of Tryz.func69 rfl (by kernel_rfl) (new_fn (dt := []) (R := fun b => .v (ptrV b)) (ctx_ok eqOk hG) Tryz.func69 rfl (by kernel_rfl) rfl (by rfl) (pre := [_]) rfl rfl rfl (by rfl) (by rfl) (by rfl) (by rfl) hnew fun w F0 B0 code b hbytes hF0 hbF => ?_)
  simp [Tryz.f69, List.range, List.range.loop, ints, intss, int, bool, row, frac, fracs, ← List.map_take, ← List.map_drop, byts]
  refine tyo_ops 1 (ctx_ok eqOk hG) curJ_stable (by simp) ?_
  simp [List.range, List.range.loop, ints, intss, int, bool, row, frac, fracs, ← List.map_take, ← List.map_drop]
  refine tyo_end (by simp) ?_
  simp only [thenY_normal]
  refine ty_seq (ty_seq (ty_awp (ctx_ok eqOk hG) mixed curJ_stable (live := [true, true, false, false, true, true, true, false, false, false, false, true]) fun X A w1 => ?_))
  simp [List.range, List.range.loop, ints, intss, int, bool, row, frac, fracs, ← List.map_take, ← List.map_drop, thenY_normal]
  refine ty_block (ty_loop (α := {k : Nat // k ≤ n}) (fun k => ⟨[.junk, int n, .junk, .junk, .junk, .v (ptrV b), int k.1, .junk, .junk, .junk, .junk, .junk, .junk, .junk, .junk, .junk, .junk], []⟩) (fun k => crB by' k.1) (fun k => n - k.1) ⟨0, Nat.zero_le _⟩ ⟨?_, rfl⟩ ?_)
  · simp [sub, slotsLe, clean, keep, refsL, refs, once, place, renL, ren, List.replicate, int, bool]
  rintro ⟨k, hk⟩
  by_cases hkn : k < n
  · refine ty_seq (ty_awp (ctx_ok eqOk hG) mixed curJ_stable (live := [true, true, false, false, true, true, true, false, false, false, false, true]) fun X A w1 => ?_)
    simp [List.range, List.range.loop, ints, intss, int, bool, row, frac, fracs, ← List.map_take, ← List.map_drop, thenY_normal, hkn]
    refine ty_seq (ty_block (ty_reg (tyo_ops 1 (ctx_ok eqOk hG) curJ_stable (by simp) ?_)))
    simp [List.range, List.range.loop, ints, intss, int, bool, row, frac, fracs, ← List.map_take, ← List.map_drop]
    refine tyo_cur hbytes hF0 hbF (hcur k) rfl rfl rfl (by rfl) (by rfl) (by rfl) ?_
    simp [List.range, List.range.loop, ints, intss, int, bool, row, frac, fracs, ← List.map_take, ← List.map_drop]
    refine tyo_end (by simp) ?_
    simp only [thenY_normal, inBY_normal]
    refine ty_awp (ctx_ok eqOk hG) mixed curJ_stable (live := [true, true, false, false, true, true, true, false, false, false, false, true]) fun X A w1 => ?_
    have hwk : IntKind.i64.wrap ((k : Int) + 1) = (k : Int) + 1 := wrapI (by omega) (by omega)
    simp [List.range, List.range.loop, ints, intss, int, bool, row, frac, fracs, ← List.map_take, ← List.map_drop, thenY_normal, hwk]
    exact ⟨⟨k + 1, hkn⟩, by simp [sub, slotsLe, clean, keep, refsL, refs, once, place, renL, ren, List.replicate, int, bool], rfl, by simp; omega⟩
  · obtain rfl : k = n := by omega
    refine ty_seq (ty_awp (ctx_ok eqOk hG) mixed curJ_stable (live := [true, true, false, false, true, true, true, false, false, false, false, true]) fun X A w1 => ?_)
    simp [List.range, List.range.loop, ints, intss, int, bool, row, frac, fracs, ← List.map_take, ← List.map_drop, thenY_normal, thenY_exit, inBY_exit]
    refine ty_awp (ctx_ok eqOk hG) mixed curJ_stable (live := [true, true, false, false, true, true, true, false, false, false, false, true]) fun X A w1 => ?_
    simp [List.range, List.range.loop, ints, intss, int, bool, row, frac, fracs, ← List.map_take, ← List.map_drop, thenY_ret]
end Go.Proofs.YtkfmhpgnhkdebaaGreatDoor.Ax
namespace Go.Proofs.YtkfmhpgnhkdebaaGreatDoor.Ax
open Go Go.RowKit
set_option linter.unusedSimpArgs false
theorem map_bAV_inj {a b : List Int} : a.map bAV = b.map bAV ↔ a = b := List.map_inj_right (fun x y h => by simpa [bAV] using h)
end Go.Proofs.YtkfmhpgnhkdebaaGreatDoor.Ax
