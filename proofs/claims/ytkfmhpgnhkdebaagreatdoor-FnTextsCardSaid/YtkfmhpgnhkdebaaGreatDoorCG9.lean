/-
  The plain side of the draws of rankings, profiles and counts. Plain Lean, no program in sight.
-/
import Derived.Test.YtkfmhpgnhkdebaaGreatDoorCG1
import Derived.Test.YtkfmhpgnhkdebaaGreatDoorCG4
import Derived.Test.YtkfmhpgnhkdebaaGreatDoorCG8
import Derived.Test.YtkfmhpgnhkdebaaGreatDoorCK4
namespace Go.Proofs.YtkfmhpgnhkdebaaGreatDoor.Ax
open Go Go.RowKit
set_option linter.unusedSimpArgs false
theorem crN_add {by' : List Int} {s : Int × Int} {a : Nat} : ∀ {b : Nat}, crN by' (crN by' s a) b = crN by' s (a + b)
  | 0 => rfl
  | b + 1 => by
    show crS by' (crN by' (crN by' s a) b) = crS by' (crN by' s (a + b))
    rw [crN_add]
theorem crN_one {by' : List Int} {s : Int × Int} : crS by' s = crN by' s 1 := rfl
def swp (l : List Int) (i k : Nat) : List Int := (l.set i (at0 l k)).set k (at0 l i)
theorem swp_len {l : List Int} {i k : Nat} : (swp l i k).length = l.length := by simp [swp]
theorem set_at0 {o : List Int} {i j : Nat} {v : Int} (h : i < o.length) : at0 (o.set i v) j = if i = j then v else at0 o j := by
  unfold at0
  rw [List.getD_eq_getElem?_getD, List.getElem?_set]
  split
  · rename_i e; subst e; simp [h]
  · rw [← List.getD_eq_getElem?_getD]
theorem swp_at {l : List Int} {i k j : Nat} (hi : i < l.length) (hk : k < l.length) : at0 (swp l i k) j = if k = j then at0 l i else if i = j then at0 l k else at0 l j := by
  unfold swp
  rw [set_at0 (by simpa using hk), set_at0 hi]
theorem nodup_at {l : List Int} : l.Nodup ↔ ∀ i j, i < l.length → j < l.length → at0 l i = at0 l j → i = j := by
  rw [List.nodup_iff_pairwise_ne, List.pairwise_iff_getElem]
  constructor
  · intro h i j hi hj e
    rw [at0_eq hi, at0_eq hj] at e
    rcases Nat.lt_trichotomy i j with hl | hl | hl
    · exact absurd e (h i j hi hj hl)
    · exact hl
    · exact absurd e.symm (h j i hj hi hl)
  · intro h i j hi hj hl e
    have := h i j hi hj (by rw [at0_eq hi, at0_eq hj]; exact e)
    omega
theorem bd_at {l : List Int} {m : Int} : (∀ x ∈ l, 0 ≤ x ∧ x < m) ↔ ∀ i, i < l.length → 0 ≤ at0 l i ∧ at0 l i < m := by
  constructor
  · intro h i hi
    rw [at0_eq hi]; exact h _ (List.getElem_mem hi)
  · intro h x hx
    obtain ⟨i, hi, rfl⟩ := List.getElem_of_mem hx
    have := h i hi
    rwa [at0_eq hi] at this
def rkD (by' : List Int) (s : Int × Int) (m : Nat) : Nat → List Int
  | 0 => idx m
  | t + 1 => swp (rkD by' s m t) (m - 1 - t) (bw by' (crN by' s t) (m - t)).toNat
theorem rkD_ok {by' : List Int} {s : Int × Int} {m : Nat} : ∀ {t : Nat}, t ≤ m → (rkD by' s m t).length = m ∧ (∀ x ∈ rkD by' s m t, 0 ≤ x ∧ x < m) ∧ (rkD by' s m t).Nodup
  | 0, _ => by
    refine ⟨by simp [rkD, idx], fun x hx => ?_, ?_⟩
    · simp only [rkD, idx, List.mem_map, List.mem_range] at hx
      obtain ⟨i, hi, rfl⟩ := hx
      omega
    · unfold rkD idx
      rw [List.nodup_iff_pairwise_ne, List.pairwise_map]
      refine (List.nodup_iff_pairwise_ne.1 List.nodup_range).imp fun h e => h (by omega)
  | t + 1, ht => by
    obtain ⟨h1, h2, h3⟩ := rkD_ok (by' := by') (s := s) (m := m) (t := t) (by omega)
    have hb := bw_bd (by' := by') (s := crN by' s t) (n := m - t) (by omega)
    have hi : m - 1 - t < (rkD by' s m t).length := by omega
    have hk : (bw by' (crN by' s t) (m - t)).toNat < (rkD by' s m t).length := by omega
    have hat := fun j => swp_at (j := j) hi hk
    have hl := swp_len (l := rkD by' s m t) (i := m - 1 - t) (k := (bw by' (crN by' s t) (m - t)).toNat)
    rw [nodup_at] at h3
    rw [bd_at] at h2
    show (swp _ _ _).length = m ∧ _ ∧ _
    refine ⟨by omega, ?_, ?_⟩
    · rw [bd_at]
      intro j hj
      show 0 ≤ at0 (swp _ _ _) j ∧ at0 (swp _ _ _) j < _
      have hj' : j < (rkD by' s m t).length := by
        have : (rkD by' s m (t + 1)).length = (rkD by' s m t).length := hl
        omega
      rw [hat]
      split
      · exact h2 _ hi
      · split
        · exact h2 _ hk
        · exact h2 _ hj'
    · rw [nodup_at]
      intro j j' hj hj' e
      have hjj : (rkD by' s m (t + 1)).length = (rkD by' s m t).length := hl
      have e' : at0 (swp (rkD by' s m t) (m - 1 - t) (bw by' (crN by' s t) (m - t)).toNat) j = at0 (swp (rkD by' s m t) (m - 1 - t) (bw by' (crN by' s t) (m - t)).toNat) j' := e
      rw [hat, hat] at e'
      have f1 := h3 j j' (by omega) (by omega)
      have f2 := h3 (m - 1 - t) j' hi (by omega)
      have f3 := h3 j (m - 1 - t) (by omega) hi
      have f4 := h3 (bw by' (crN by' s t) (m - t)).toNat j' hk (by omega)
      have f5 := h3 j (bw by' (crN by' s t) (m - t)).toNat (by omega) hk
      have f6 := h3 (m - 1 - t) (bw by' (crN by' s t) (m - t)).toNat hi hk
      have f7 := h3 (bw by' (crN by' s t) (m - t)).toNat (m - 1 - t) hk hi
      split at e' <;> split at e' <;> (try split at e') <;> (try split at e') <;> first | omega | (have := f1 e'; omega) | (have := f2 e'; omega) | (have := f3 e'; omega) | (have := f4 e'; omega) | (have := f5 e'; omega) | (have := f6 e'; omega) | (have := f7 e'; omega)
theorem rkD_rank {by' : List Int} {s : Int × Int} {m : Nat} (h1 : 1 ≤ m) (h5 : m ≤ 5) : rankB m (rkD by' s m (m - 1)) = true := by
  obtain ⟨a, b, c⟩ := rkD_ok (by' := by') (s := s) (m := m) (t := m - 1) (by omega)
  have := rank_of (l := rkD by' s m (m - 1)) (by omega) (by omega) (fun x hx => by have := b x hx; omega) c
  rwa [a] at this
def vtD (by' : List Int) (s : Int × Int) (m i : Nat) : Vt := ((false, rkD by' (crN by' s (1 + i * m)) m (m - 1)), 1 + bw by' (crN by' s (1 + i * m + (m - 1))) 6)
def vsD (by' : List Int) (s : Int × Int) (m n : Nat) : List Vt := (List.range n).map (vtD by' s m)
theorem vsD_succ {by' : List Int} {s : Int × Int} {m n : Nat} : vsD by' s m (n + 1) = vsD by' s m n ++ [vtD by' s m n] := by unfold vsD; rw [List.range_succ, List.map_append]; rfl
theorem vsD_len {by' : List Int} {s : Int × Int} {m n : Nat} : (vsD by' s m n).length = n := by simp [vsD]
def nvD (by' : List Int) (s : Int × Int) : Nat := (bw by' s 6).toNat
theorem nvD_bd {by' : List Int} {s : Int × Int} : nvD by' s ≤ 5 ∧ bw by' s 6 = (nvD by' s : Int) := by
  have := bw_bd (by' := by') (s := s) (n := 6) (by omega)
  unfold nvD; omega
def prD (by' : List Int) (s : Int × Int) (m : Nat) : List Vt := if nvD by' s = 0 then [((false, rkD by' (crN by' s 1) m (m - 1)), 1)] else vsD by' s m (nvD by' s)
theorem prD_ok {by' : List Int} {s : Int × Int} {m : Nat} (h1 : 1 ≤ m) (h5 : m ≤ 5) : profB m (prD by' s m) = true ∧ 1 ≤ (prD by' s m).length ∧ (prD by' s m).length ≤ 5 ∧ ∀ v ∈ prD by' s m, v.1.1 = false ∧ 1 ≤ v.2 ∧ v.2 ≤ 6 := by
  have hn := nvD_bd (by' := by') (s := s)
  have hall : ∀ v ∈ prD by' s m, (rankB m v.1.2 = true ∧ v.1.1 = false) ∧ 1 ≤ v.2 ∧ v.2 ≤ 6 := by
    intro v hv
    unfold prD at hv
    split at hv
    · simp only [List.mem_singleton] at hv
      subst hv
      exact ⟨⟨rkD_rank h1 h5, rfl⟩, by simp, by simp⟩
    · obtain ⟨i, _, rfl⟩ := List.mem_map.1 hv
      have hb := bw_bd (by' := by') (s := crN by' s (1 + i * m + (m - 1))) (n := 6) (by omega)
      exact ⟨⟨rkD_rank h1 h5, rfl⟩, by simp [vtD]; omega, by simp [vtD]; omega⟩
  have hl : 1 ≤ (prD by' s m).length ∧ (prD by' s m).length ≤ 5 := by
    unfold prD
    split
    · simp
    · rw [vsD_len]; omega
  refine ⟨?_, hl.1, hl.2, fun v hv => ⟨(hall v hv).1.2, (hall v hv).2⟩⟩
  simp only [profB, Bool.and_eq_true, inR_iff, decide_eq_true_eq, List.all_eq_true, vtB]
  exact ⟨⟨⟨by omega, by omega⟩, by omega⟩, fun v hv => ⟨(hall v hv).1.1, by have := (hall v hv).2; omega, by have := (hall v hv).2; omega⟩⟩
end Go.Proofs.YtkfmhpgnhkdebaaGreatDoor.Ax
namespace Go.Proofs.YtkfmhpgnhkdebaaGreatDoor.Ax
open Go Go.RowKit
set_option linter.unusedSimpArgs false
def hN (by' : List Int) : Nat → Int
  | 0 => IntKind.i64.wrap (2139 + by'.length)
  | k + 1 => bits .and .i64 (IntKind.i64.wrap (IntKind.i64.wrap (IntKind.i64.wrap (hN by' k * 149) + IntKind.i64.wrap (by'.getD k 0)) + 7)) 1073741823
def cr0 (by' : List Int) : Int × Int := (0, hN by' (min by'.length 4000))
theorem cr0_ok {by' : List Int} (h : by'.length ≤ 1048576) : CrOk by' (cr0 by') := ⟨h, Int.le_refl _, by unfold cr0; omega⟩
set_option maxRecDepth 8000 in
set_option maxHeartbeats 2000000 in
theorem l01New_new {nl : Bool} {by' : List Int} (hlen : by'.length ≤ 1048576) : NewOk Tryz.prog 147 (byts nl by') 179 [] (cr0 by') := by
  have hG : FnsOk Tryz.prog [] := .nil
  refine newOk_of_tye (dt := []) (d := 2) Tryz.func147 rfl (by kernel_rfl) (by kernel_rfl) rfl fun w F => ?_
  refine ty_seqE (ty_awp (ctx_ok eqOk hG) mixed noJ_stable (live := [true, false, true, true, true, false, false, false, false, false, false, false, false, false, false, true]) fun X A w1 => ?_)
  simp [Tryz.f147, List.range, List.range.loop, ints, intss, int, bool, row, frac, fracs, ← List.map_take, ← List.map_drop, thenY_normal, byts]
  refine ty_seqE (ty_awp (ctx_ok eqOk hG) mixed noJ_stable (live := [true, false, true, true, true, false, false, false, false, false, false, false, false, false, false, true]) fun X A w1 => ?_)
  simp [List.range, List.range.loop, ints, intss, int, bool, row, frac, fracs, ← List.map_take, ← List.map_drop, thenY_normal]
  have hr0 : IntKind.i64.wrap (2139 + (by'.length : Int)) = hN by' 0 := rfl
  rw [hr0]
  refine ty_seqE (ty_seq (ty_awp (ctx_ok eqOk hG) mixed noJ_stable (live := [true, false, true, true, true, false, false, false, false, false, false, false, false, false, false, true]) fun X A w1 => ?_))
  simp [List.range, List.range.loop, ints, intss, int, bool, row, frac, fracs, ← List.map_take, ← List.map_drop, thenY_normal]
  refine ty_block (ty_loop (α := {k : Nat // k ≤ min by'.length 4000}) (fun k => ⟨[.sl nl 1 (by'.map bAV), .junk, .junk, int (hN by' k.1), int k.1, .junk, .junk, .junk, .junk, .junk, .junk, .junk, .junk, .junk, .junk, .junk, .junk, .junk, .junk, .junk, .junk, .junk, .junk, .junk, .junk, .junk, .junk, .junk, .junk, .junk, .junk, .junk], []⟩) (fun _ => ()) (fun k => 4000 - k.1) ⟨0, Nat.zero_le _⟩ ⟨?_, rfl⟩ ?_)
  · simp [sub, slotsLe, clean, keep, refsL, refs, once, place, renL, ren, List.replicate, int, bool]
  rintro ⟨k, hk⟩
  by_cases hkl : k < by'.length
  · have hki : (k : Int) < (by'.length : Int) := by omega
    by_cases hk4 : k < 4000
    · have hk4i : (k : Int) < 4000 := by omega
      have hgd : by'.getD k 0 = by'[k] := by simp [List.getD_eq_getElem?_getD, hkl]
      refine ty_seq (ty_awp (ctx_ok eqOk hG) mixed noJ_stable (live := [true, false, true, true, true, false, false, false, false, false, false, false, false, false, false, true]) fun X A w1 => ?_)
      simp [List.range, List.range.loop, ints, intss, int, bool, row, frac, fracs, ← List.map_take, ← List.map_drop, thenY_normal, hkl, hki, hk4, hk4i]
      refine ty_seq (ty_block (ty_reg (tyo_ops 9 (ctx_ok eqOk hG) noJ_stable (by simp) ?_)))
      simp [List.range, List.range.loop, ints, intss, int, bool, row, frac, fracs, ← List.map_take, ← List.map_drop, hkl, bAV]
      refine tyo_bin (r := .int .i64 (hN by' (k + 1))) rfl rfl rfl (by rfl) (by rfl) (fun W => ?_) rfl ?_
      · rw [hN, hgd]
        simp [eqGuard, binOp, Op.intArith, Op.intCmp]
        rfl
      refine tyo_ops 1 (ctx_ok eqOk hG) noJ_stable (by simp) ?_
      simp [List.range, List.range.loop, ints, intss, int, bool, row, frac, fracs, ← List.map_take, ← List.map_drop]
      refine tyo_end (by simp) ?_
      simp only [thenY_normal, inBY_normal]
      refine ty_awp (ctx_ok eqOk hG) mixed noJ_stable (live := [true, false, true, true, true, false, false, false, false, false, false, false, false, false, false, true]) fun X A w1 => ?_
      have hwk : IntKind.i64.wrap ((k : Int) + 1) = (k : Int) + 1 := wrapI (by omega) (by omega)
      simp [List.range, List.range.loop, ints, intss, int, bool, row, frac, fracs, ← List.map_take, ← List.map_drop, thenY_normal, hwk]
      exact ⟨⟨k + 1, by omega⟩, by simp [sub, slotsLe, clean, keep, refsL, refs, once, place, renL, ren, List.replicate, int, bool], rfl, by simp; omega⟩
    · have hk4i : ¬ (k : Int) < 4000 := by omega
      have hkm : k = min by'.length 4000 := by omega
      refine ty_seq (ty_awp (ctx_ok eqOk hG) mixed noJ_stable (live := [true, false, true, true, true, false, false, false, false, false, false, false, false, false, false, true]) fun X A w1 => ?_)
      simp [List.range, List.range.loop, ints, intss, int, bool, row, frac, fracs, ← List.map_take, ← List.map_drop, thenY_normal, thenY_exit, inBY_exit, hkl, hki, hk4, hk4i]
      rw [show cr0 by' = (0, hN by' k) by unfold cr0; rw [← hkm]]
      refine tye_box (ctx_ok eqOk hG) (pre := [_, _, _]) rfl rfl rfl rfl (.inr rfl) rfl rfl ?_
      simp [List.range, List.range.loop, ints, intss, int, bool, row, frac, fracs, ← List.map_take, ← List.map_drop]
  · have hki : ¬ (k : Int) < (by'.length : Int) := by omega
    have hkm : k = min by'.length 4000 := by omega
    refine ty_seq (ty_awp (ctx_ok eqOk hG) mixed noJ_stable (live := [true, false, true, true, true, false, false, false, false, false, false, false, false, false, false, true]) fun X A w1 => ?_)
    simp [List.range, List.range.loop, ints, intss, int, bool, row, frac, fracs, ← List.map_take, ← List.map_drop, thenY_normal, thenY_exit, inBY_exit, hkl, hki]
    rw [show cr0 by' = (0, hN by' k) by unfold cr0; rw [← hkm]]
    refine tye_box (ctx_ok eqOk hG) (pre := [_, _, _]) rfl rfl rfl rfl (.inr rfl) rfl rfl ?_
    simp [List.range, List.range.loop, ints, intss, int, bool, row, frac, fracs, ← List.map_take, ← List.map_drop]
def crB (by' : List Int) (n : Nat) : Int × Int := crN by' (cr0 by') n
set_option maxRecDepth 8000 in
set_option maxHeartbeats 2000000 in
theorem l32New_new {nl : Bool} {by' : List Int} (hlen : by'.length ≤ 1048576) (n : Nat) (hn : n ≤ 1000) : NewOk Tryz.prog 69 (byts nl by') 179 [int (n : Int)] (crB by' n) := by
  have hnew := l01New_new (nl := nl) hlen
  have hcur := fun (k : Nat) => l01Byte_cur (nl := nl) (crN_ok (cr0_ok hlen) k)
  have hG : FnsOk Tryz.prog [] := .nil
  refine newOk_of Tryz.func69 rfl (by kernel_rfl) (new_fn (dt := []) (R := fun b => .v (ptrV b)) (ctx_ok eqOk hG) Tryz.func69 rfl (by kernel_rfl) rfl (by rfl) (pre := [_]) rfl rfl rfl (by rfl) (by rfl) (by rfl) (by rfl) hnew fun w F0 B0 code b hbytes hF0 hbF => ?_)
  simp [Tryz.f69, List.range, List.range.loop, ints, intss, int, bool, row, frac, fracs, ← List.map_take, ← List.map_drop, byts]
  refine tyo_ops 1 (ctx_ok eqOk hG) curJ_stable (by simp) ?_
  simp [List.range, List.range.loop, ints, intss, int, bool, row, frac, fracs, ← List.map_take, ← List.map_drop]
  refine tyo_end (by simp) ?_
  simp only [thenY_normal]
  refine ty_seq (ty_seq (ty_awp (ctx_ok eqOk hG) mixed curJ_stable (live := [true, true, false, false, true, true, true, false, false, false, false, true]) fun X A w1 => ?_))
  simp [List.range, List.range.loop, ints, intss, int, bool, row, frac, fracs, ← List.map_take, ← List.map_drop, thenY_normal]
  refine ty_block (ty_loop (α := {k : Nat // k ≤ n}) (fun k => ⟨[.junk, int n, .junk, .junk, .junk, .v (ptrV b), int k.1, .junk, .junk, .junk, .junk, .junk, .junk, .junk, .junk, .junk, .junk], []⟩) (fun k => crB by' k.1) (fun k => n - k.1) ⟨0, Nat.zero_le _⟩ ⟨?_, rfl⟩ ?_)
  · simp [sub, slotsLe, clean, keep, refsL, refs, once, place, renL, ren, List.replicate, int, bool]
  rintro ⟨k, hk⟩
  by_cases hkn : k < n
  · refine ty_seq (ty_awp (ctx_ok eqOk hG) mixed curJ_stable (live := [true, true, false, false, true, true, true, false, false, false, false, true]) fun X A w1 => ?_)
    simp [List.range, List.range.loop, ints, intss, int, bool, row, frac, fracs, ← List.map_take, ← List.map_drop, thenY_normal, hkn]
    refine ty_seq (ty_block (ty_reg (tyo_ops 1 (ctx_ok eqOk hG) curJ_stable (by simp) ?_)))
    simp [List.range, List.range.loop, ints, intss, int, bool, row, frac, fracs, ← List.map_take, ← List.map_drop]
    refine tyo_cur hbytes hF0 hbF (hcur k) rfl rfl rfl (by rfl) (by rfl) (by rfl) ?_
    simp [List.range, List.range.loop, ints, intss, int, bool, row, frac, fracs, ← List.map_take, ← List.map_drop]
    refine tyo_end (by simp) ?_
    simp only [thenY_normal, inBY_normal]
    refine ty_awp (ctx_ok eqOk hG) mixed curJ_stable (live := [true, true, false, false, true, true, true, false, false, false, false, true]) fun X A w1 => ?_
    have hwk : IntKind.i64.wrap ((k : Int) + 1) = (k : Int) + 1 := wrapI (by omega) (by omega)
    simp [List.range, List.range.loop, ints, intss, int, bool, row, frac, fracs, ← List.map_take, ← List.map_drop, thenY_normal, hwk]
    exact ⟨⟨k + 1, hkn⟩, by simp [sub, slotsLe, clean, keep, refsL, refs, once, place, renL, ren, List.replicate, int, bool], rfl, by simp; omega⟩
  · obtain rfl : k = n := by omega
    refine ty_seq (ty_awp (ctx_ok eqOk hG) mixed curJ_stable (live := [true, true, false, false, true, true, true, false, false, false, false, true]) fun X A w1 => ?_)
    simp [List.range, List.range.loop, ints, intss, int, bool, row, frac, fracs, ← List.map_take, ← List.map_drop, thenY_normal, thenY_exit, inBY_exit]
    refine ty_awp (ctx_ok eqOk hG) mixed curJ_stable (live := [true, true, false, false, true, true, true, false, false, false, false, true]) fun X A w1 => ?_
    simp [List.range, List.range.loop, ints, intss, int, bool, row, frac, fracs, ← List.map_take, ← List.map_drop, thenY_ret]
end Go.Proofs.YtkfmhpgnhkdebaaGreatDoor.Ax
namespace Go.Proofs.YtkfmhpgnhkdebaaGreatDoor.Ax
open Go Go.RowKit
set_option linter.unusedSimpArgs false
def mkNum (by' : List Int) (n : Nat) : Int := crX by' (crB by' n) * 256 + crX by' (crB by' (n + 1))
theorem mkNum_bd {by' : List Int} {n : Nat} : 0 ≤ mkNum by' n ∧ mkNum by' n ≤ 65535 := by
  have h1 := crX_bd (by' := by') (s := crB by' n)
  have h2 := crX_bd (by' := by') (s := crB by' (n + 1))
  unfold mkNum; omega
theorem makeNum_call {nl : Bool} {by' : List Int} (hlen : by'.length ≤ 1048576) (n : Nat) (hn : n ≤ 1000) : CallOk Tryz.prog 38 [byts nl by', int n] (.v (.int .i64 (mkNum by' n))) := by
  have hnew := l32New_new (nl := nl) hlen n hn
  have hcur := fun (k : Nat) => l01Byte_cur (nl := nl) (crN_ok (cr0_ok hlen) k)
  have h1 := crX_bd (by' := by') (s := crB by' n)
  have h2 := crX_bd (by' := by') (s := crB by' (n + 1))
  have hmn : mkNum by' n = crX by' (crB by' n) * 256 + crX by' (crB by' (n + 1)) := rfl
  have hG : FnsOk Tryz.prog [] := .nil
  refine callOk_of_new (s1 := crB by' (n + 2)) Tryz.func38 rfl (by kernel_rfl) (new_fn (dt := []) (ctx_ok eqOk hG) Tryz.func38 rfl (by kernel_rfl) rfl (by rfl) (pre := [_, _]) rfl rfl rfl (by rfl) (by rfl) (by rfl) (by rfl) hnew fun w F0 B0 code b hbytes hF0 hbF => ?_)
  simp [Tryz.f38, List.range, List.range.loop, ints, intss, int, bool, row, frac, fracs, ← List.map_take, ← List.map_drop, byts]
  refine tyo_ops 1 (ctx_ok eqOk hG) curJ_stable (by simp) ?_
  simp [List.range, List.range.loop, ints, intss, int, bool, row, frac, fracs, ← List.map_take, ← List.map_drop]
  refine tyo_end (by simp) ?_
  simp only [thenY_normal]
  refine ty_seq (ty_reg (tyo_ops 1 (ctx_ok eqOk hG) curJ_stable (by simp) ?_))
  simp [List.range, List.range.loop, ints, intss, int, bool, row, frac, fracs, ← List.map_take, ← List.map_drop]
  refine tyo_cur hbytes hF0 hbF (hcur n) rfl rfl rfl (by rfl) (by rfl) (by rfl) ?_
  simp [List.range, List.range.loop, ints, intss, int, bool, row, frac, fracs, ← List.map_take, ← List.map_drop]
  refine tyo_ops 2 (ctx_ok eqOk hG) curJ_stable (by simp) ?_
  simp [List.range, List.range.loop, ints, intss, int, bool, row, frac, fracs, ← List.map_take, ← List.map_drop]
  refine tyo_cur hbytes hF0 hbF (hcur (n + 1)) rfl rfl rfl (by rfl) (by rfl) (by rfl) ?_
  simp [List.range, List.range.loop, ints, intss, int, bool, row, frac, fracs, ← List.map_take, ← List.map_drop]
  refine tyo_ops 2 (ctx_ok eqOk hG) curJ_stable (by simp) ?_
  have e1 : crN by' (cr0 by') n = crB by' n := rfl
  have e2 : crN by' (cr0 by') (n + 1) = crB by' (n + 1) := rfl
  rw [e1, e2]
  generalize crX by' (crB by' n) = x at *
  generalize crX by' (crB by' (n + 1)) = y at *
  have hw1 : IntKind.i64.wrap (x * 256) = x * 256 := wrapI (by omega) (by omega)
  have hw2 : IntKind.i64.wrap (x * 256 + y) = x * 256 + y := wrapI (by omega) (by omega)
  simp [List.range, List.range.loop, ints, intss, int, bool, row, frac, fracs, ← List.map_take, ← List.map_drop, hw1, hw2]
  refine tyo_end (by simp) ?_
  simp only [thenY_normal]
  refine ty_awp (ctx_ok eqOk hG) mixed curJ_stable (live := [true, true, false, false, true, true]) fun X A w1 => ?_
  simp [List.range, List.range.loop, ints, intss, int, bool, row, frac, fracs, ← List.map_take, ← List.map_drop, thenY_ret, hmn]
  rfl
theorem map_bAV_inj {a b : List Int} : a.map bAV = b.map bAV ↔ a = b := List.map_inj_right (fun x y h => by simpa [bAV] using h)
noncomputable def mMkNum : List AV → Option AV := mk (fun p => p.2.1.length ≤ 1048576 ∧ p.2.2 ≤ 1000) (fun (p : Bool × List Int × Nat) => [byts p.1 p.2.1, int (p.2.2 : Int)]) (fun p => int (mkNum p.2.1 p.2.2))
theorem mMkNum_at (nl : Bool) (by' : List Int) (n : Nat) (h : by'.length ≤ 1048576 ∧ n ≤ 1000) : mMkNum [.sl nl 1 (by'.map bAV), .v (.int .i64 (n : Int))] = some (.v (.int .i64 (mkNum by' n))) :=
  mk_eq (enc := fun (p : Bool × List Int × Nat) => [byts p.1 p.2.1, int (p.2.2 : Int)]) (x := (nl, by', n)) (by rintro ⟨a, b, c⟩ ⟨d, e, f⟩ h; simp [byts, int, map_bAV_inj] at h; obtain ⟨⟨rfl, rfl⟩, h⟩ := h; simp only; rw [show c = f by omega]) h
theorem makeNum_ok : FnOk Tryz.prog 38 mMkNum := by
  refine mk_ok fun ⟨nl, by', n⟩ h => ?_
  exact makeNum_call h.1 n h.2
end Go.Proofs.YtkfmhpgnhkdebaaGreatDoor.Ax
