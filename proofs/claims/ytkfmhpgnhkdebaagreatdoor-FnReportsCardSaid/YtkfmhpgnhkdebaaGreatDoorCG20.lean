/-
  The plain side of the draws of rankings, profiles and counts. Plain Lean, no program in sight.
-/
import Derived.Test.YtkfmhpgnhkdebaaGreatDoorCG19
import Derived.Test.YtkfmhpgnhkdebaaGreatDoorCG5
import Derived.Test.YtkfmhpgnhkdebaaGreatDoorCG8
import Derived.Test.YtkfmhpgnhkdebaaGreatDoorCK4
namespace Go.Proofs.YtkfmhpgnhkdebaaGreatDoor.Ax
open Go Go.RowKit
theorem crN_add {by' : List Int} {s : Int × Int} {a : Nat} : ∀ {b : Nat}, crN by' (crN by' s a) b = crN by' s (a + b)
  | 0 => rfl
  | b + 1 => by
    show crS by' (crN by' (crN by' s a) b) = crS by' (crN by' s (a + b))
    rw [crN_add]
theorem crN_one {by' : List Int} {s : Int × Int} : crS by' s = crN by' s 1 := rfl
def swp (l : List Int) (i k : Nat) : List Int := (l.set i (at0 l k)).set k (at0 l i)
theorem swp_len {l : List Int} {i k : Nat} : (swp l i k).length = l.length := by simp [swp]
theorem set_at0 {o : List Int} {i j : Nat} {v : Int} (h : i < o.length) : at0 (o.set i v) j = if i = j then v else at0 o j := by
  unfold at0
  rw [List.getD_eq_getElem?_getD, List.getElem?_set]
  split
  · rename_i e; subst e; simp [h]
  · rw [← List.getD_eq_getElem?_getD]
theorem swp_at {l : List Int} {i k j : Nat} (hi : i < l.length) (hk : k < l.length) : at0 (swp l i k) j = if k = j then at0 l i else if i = j then at0 l k else at0 l j := by
  unfold swp
  rw [set_at0 (by simpa using hk), set_at0 hi]
theorem nodup_at {l : List Int} : l.Nodup ↔ ∀ i j, i < l.length → j < l.length → at0 l i = at0 l j → i = j := by
  rw [List.nodup_iff_pairwise_ne, List.pairwise_iff_getElem]
  constructor
  · intro h i j hi hj e
    rw [at0_eq hi, at0_eq hj] at e
    rcases Nat.lt_trichotomy i j with hl | hl | hl
    · exact absurd e (h i j hi hj hl)
    · exact hl
    · exact absurd e.symm (h j i hj hi hl)
  · intro h i j hi hj hl e
    have := h i j hi hj (by rw [at0_eq hi, at0_eq hj]; exact e)
    omega
theorem bd_at {l : List Int} {m : Int} : (∀ x ∈ l, 0 ≤ x ∧ x < m) ↔ ∀ i, i < l.length → 0 ≤ at0 l i ∧ at0 l i < m := by
  constructor
  · intro h i hi
    rw [at0_eq hi]; exact h _ (List.getElem_mem hi)
  · intro h x hx
    obtain ⟨i, hi, rfl⟩ := List.getElem_of_mem hx
    have := h i hi
    rwa [at0_eq hi] at this
def rkD (by' : List Int) (s : Int × Int) (m : Nat) : Nat → List Int
  | 0 => idx m
  | t + 1 => swp (rkD by' s m t) (m - 1 - t) (bw by' (crN by' s t) (m - t)).toNat
theorem rkD_ok {by' : List Int} {s : Int × Int} {m : Nat} : ∀ {t : Nat}, t ≤ m → (rkD by' s m t).length = m ∧ (∀ x ∈ rkD by' s m t, 0 ≤ x ∧ x < m) ∧ (rkD by' s m t).Nodup
  | 0, _ => by
    refine ⟨by simp [rkD, idx], fun x hx => ?_, ?_⟩
    · simp only [rkD, idx, List.mem_map, List.mem_range] at hx
      obtain ⟨i, hi, rfl⟩ := hx
      omega
    · unfold rkD idx
      rw [List.nodup_iff_pairwise_ne, List.pairwise_map]
      refine (List.nodup_iff_pairwise_ne.1 List.nodup_range).imp fun h e => h (by omega)
  | t + 1, ht => by
    obtain ⟨h1, h2, h3⟩ := rkD_ok (by' := by') (s := s) (m := m) (t := t) (by omega)
    have hb := bw_bd (by' := by') (s := crN by' s t) (n := m - t) (by omega)
    have hi : m - 1 - t < (rkD by' s m t).length := by omega
    have hk : (bw by' (crN by' s t) (m - t)).toNat < (rkD by' s m t).length := by omega
    have hat := fun j => swp_at (j := j) hi hk
    have hl := swp_len (l := rkD by' s m t) (i := m - 1 - t) (k := (bw by' (crN by' s t) (m - t)).toNat)
    rw [nodup_at] at h3
    rw [bd_at] at h2
    show (swp _ _ _).length = m ∧ _ ∧ _
    refine ⟨by omega, ?_, ?_⟩
    · rw [bd_at]
      intro j hj
      show 0 ≤ at0 (swp _ _ _) j ∧ at0 (swp _ _ _) j < _
      have hj' : j < (rkD by' s m t).length := by
        have : (rkD by' s m (t + 1)).length = (rkD by' s m t).length := hl
        omega
      rw [hat]
      split
      · exact h2 _ hi
      · split
        · exact h2 _ hk
        · exact h2 _ hj'
    · rw [nodup_at]
      intro j j' hj hj' e
      have hjj : (rkD by' s m (t + 1)).length = (rkD by' s m t).length := hl
      have e' : at0 (swp (rkD by' s m t) (m - 1 - t) (bw by' (crN by' s t) (m - t)).toNat) j = at0 (swp (rkD by' s m t) (m - 1 - t) (bw by' (crN by' s t) (m - t)).toNat) j' := e
      rw [hat, hat] at e'
      have f1 := h3 j j' (by omega) (by omega)
      have f2 := h3 (m - 1 - t) j' hi (by omega)
      have f3 := h3 j (m - 1 - t) (by omega) hi
      have f4 := h3 (bw by' (crN by' s t) (m - t)).toNat j' hk (by omega)
      have f5 := h3 j (bw by' (crN by' s t) (m - t)).toNat (by omega) hk
      have f6 := h3 (m - 1 - t) (bw by' (crN by' s t) (m - t)).toNat hi hk
      have f7 := h3 (bw by' (crN by' s t) (m - t)).toNat (m - 1 - t) hk hi
      split at e' <;> split at e' <;> (try split at e') <;> (try split at e') <;> first | omega | (have := f1 e'; omega) | (have := f2 e'; omega) | (have := f3 e'; omega) | (have := f4 e'; omega) | (have := f5 e'; omega) | (have := f6 e'; omega) | (have := f7 e'; omega)
theorem rkD_rank {by' : List Int} {s : Int × Int} {m : Nat} (h1 : 1 ≤ m) (h5 : m ≤ 5) : rankB m (rkD by' s m (m - 1)) = true := by
  obtain ⟨a, b, c⟩ := rkD_ok (by' := by') (s := s) (m := m) (t := m - 1) (by omega)
  have := rank_of (l := rkD by' s m (m - 1)) (by omega) (by omega) (fun x hx => by have := b x hx; omega) c
  rwa [a] at this
def vtD (by' : List Int) (s : Int × Int) (m i : Nat) : Vt := ((false, rkD by' (crN by' s (1 + i * m)) m (m - 1)), 1 + bw by' (crN by' s (1 + i * m + (m - 1))) 6)
def vsD (by' : List Int) (s : Int × Int) (m n : Nat) : List Vt := (List.range n).map (vtD by' s m)
theorem vsD_succ {by' : List Int} {s : Int × Int} {m n : Nat} : vsD by' s m (n + 1) = vsD by' s m n ++ [vtD by' s m n] := by unfold vsD; rw [List.range_succ, List.map_append]; rfl
theorem vsD_len {by' : List Int} {s : Int × Int} {m n : Nat} : (vsD by' s m n).length = n := by simp [vsD]
def nvD (by' : List Int) (s : Int × Int) : Nat := (bw by' s 6).toNat
theorem nvD_bd {by' : List Int} {s : Int × Int} : nvD by' s ≤ 5 ∧ bw by' s 6 = (nvD by' s : Int) := by
  have := bw_bd (by' := by') (s := s) (n := 6) (by omega)
  unfold nvD; omega
def prD (by' : List Int) (s : Int × Int) (m : Nat) : List Vt := if nvD by' s = 0 then [((false, rkD by' (crN by' s 1) m (m - 1)), 1)] else vsD by' s m (nvD by' s)
theorem prD_ok {by' : List Int} {s : Int × Int} {m : Nat} (h1 : 1 ≤ m) (h5 : m ≤ 5) : profB m (prD by' s m) = true ∧ 1 ≤ (prD by' s m).length ∧ (prD by' s m).length ≤ 5 ∧ ∀ v ∈ prD by' s m, v.1.1 = false ∧ 1 ≤ v.2 ∧ v.2 ≤ 6 := by
  have hn := nvD_bd (by' := by') (s := s)
  have hall : ∀ v ∈ prD by' s m, (rankB m v.1.2 = true ∧ v.1.1 = false) ∧ 1 ≤ v.2 ∧ v.2 ≤ 6 := by
    intro v hv
    unfold prD at hv
    split at hv
    · simp only [List.mem_singleton] at hv
      subst hv
      exact ⟨⟨rkD_rank h1 h5, rfl⟩, by simp, by simp⟩
    · obtain ⟨i, _, rfl⟩ := List.mem_map.1 hv
      have hb := bw_bd (by' := by') (s := crN by' s (1 + i * m + (m - 1))) (n := 6) (by omega)
      exact ⟨⟨rkD_rank h1 h5, rfl⟩, by simp [vtD]; omega, by simp [vtD]; omega⟩
  have hl : 1 ≤ (prD by' s m).length ∧ (prD by' s m).length ≤ 5 := by
    unfold prD
    split
    · simp
    · rw [vsD_len]; omega
  refine ⟨?_, hl.1, hl.2, fun v hv => ⟨(hall v hv).1.2, (hall v hv).2⟩⟩
  simp only [profB, Bool.and_eq_true, inR_iff, decide_eq_true_eq, List.all_eq_true, vtB]
  exact ⟨⟨⟨by omega, by omega⟩, by omega⟩, fun v hv => ⟨(hall v hv).1.1, by have := (hall v hv).2; omega, by have := (hall v hv).2; omega⟩⟩
def ctX (by' : List Int) (s : Int × Int) : Int := if bw by' (crN by' s 1) 4 = 0 then bw by' s 60 * 97 + bw by' (crN by' s 2) 50 else bw by' s 60
def ctN (by' : List Int) (s : Int × Int) : Int × Int := if bw by' (crN by' s 1) 4 = 0 then crN by' s 3 else crN by' s 2
def ctI (by' : List Int) (s : Int × Int) : Nat → Int × Int
  | 0 => s
  | k + 1 => ctN by' (ctI by' s k)
theorem ctI_ok {by' : List Int} {s : Int × Int} (h : CrOk by' s) : ∀ k, CrOk by' (ctI by' s k)
  | 0 => h
  | k + 1 => by
    show CrOk by' (ctN by' _)
    unfold ctN
    split
    · exact crN_ok (ctI_ok h k) 3
    · exact crN_ok (ctI_ok h k) 2
def ctL (by' : List Int) (s : Int × Int) (k : Nat) : List Int := (List.range k).map fun j => ctX by' (ctI by' s j)
theorem ctL_succ {by' : List Int} {s : Int × Int} {k : Nat} : ctL by' s (k + 1) = ctL by' s k ++ [ctX by' (ctI by' s k)] := by unfold ctL; rw [List.range_succ, List.map_append]; rfl
theorem ctL_len {by' : List Int} {s : Int × Int} {k : Nat} : (ctL by' s k).length = k := by simp [ctL]
theorem ctX_bd {by' : List Int} {s : Int × Int} : 0 ≤ ctX by' s ∧ ctX by' s ≤ 5772 := by
  have h1 := bw_bd (by' := by') (s := s) (n := 60) (by omega)
  have h2 := bw_bd (by' := by') (s := crN by' s 2) (n := 50) (by omega)
  unfold ctX
  split <;> omega
theorem ctL_bd {by' : List Int} {s : Int × Int} {k : Nat} : ∀ x ∈ ctL by' s k, 0 ≤ x ∧ x ≤ 5772 := fun x hx => by
  obtain ⟨j, _, rfl⟩ := List.mem_map.1 hx
  exact ctX_bd
def ctK (by' : List Int) (s : Int × Int) : Nat := (1 + bw by' s 5).toNat
theorem ctK_bd {by' : List Int} {s : Int × Int} : 1 ≤ ctK by' s ∧ ctK by' s ≤ 5 ∧ 1 + bw by' s 5 = (ctK by' s : Int) := by
  have := bw_bd (by' := by') (s := s) (n := 5) (by omega)
  unfold ctK; omega
def fix7 (l : List Int) : List Int := if l.sum = 0 then l.set 0 7 else l
def ctA (by' : List Int) (s : Int × Int) : List Int := fix7 (ctL by' (crN by' s 1) (ctK by' s))
theorem fix7_ok {l : List Int} (hl : 1 ≤ l.length) (h6 : l.length ≤ 6) (hb : ∀ x ∈ l, 0 ≤ x ∧ x ≤ 5772) : cntB (fix7 l) = true := by
  have hs := sum_bd hb
  unfold fix7
  simp only [cntB, Bool.and_eq_true, inR_iff, List.all_eq_true, decide_eq_true_eq]
  split
  · rename_i h0
    cases l with
    | nil => simp at hl
    | cons x l =>
      have hx := hb x (by simp)
      have hr := sum_bd (l := l) (c := 5772) fun y hy => hb y (by simp [hy])
      simp only [List.sum_cons, List.length_cons] at h0 h6
      refine ⟨⟨by simp; omega, fun y hy => ?_⟩, by simp; omega⟩
      simp only [List.set_cons_zero, List.mem_cons] at hy
      rcases hy with rfl | hy
      · omega
      · have := hb y (by simp [hy]); omega
  · exact ⟨⟨by omega, fun y hy => by have := hb y hy; omega⟩, by omega⟩
theorem ctA_ok {by' : List Int} {s : Int × Int} : cntB (ctA by' s) = true := by
  have hk := ctK_bd (by' := by') (s := s)
  exact fix7_ok (by rw [ctL_len]; omega) (by rw [ctL_len]; omega) ctL_bd
end Go.Proofs.YtkfmhpgnhkdebaaGreatDoor.Ax
namespace Go.Proofs.YtkfmhpgnhkdebaaGreatDoor.Ax
open Go Go.RowKit
set_option linter.unusedSimpArgs false
def hN (by' : List Int) : Nat → Int
  | 0 => IntKind.i64.wrap (2139 + by'.length)
  | k + 1 => bits .and .i64 (IntKind.i64.wrap (IntKind.i64.wrap (IntKind.i64.wrap (hN by' k * 149) + IntKind.i64.wrap (by'.getD k 0)) + 7)) 1073741823
def cr0 (by' : List Int) : Int × Int := (0, hN by' (min by'.length 4000))
theorem cr0_ok {by' : List Int} (h : by'.length ≤ 1048576) : CrOk by' (cr0 by') := ⟨h, Int.le_refl _, by unfold cr0; omega⟩
set_option maxRecDepth 8000 in
set_option maxHeartbeats 2000000 in
theorem l01New_new {nl : Bool} {by' : List Int} (hlen : by'.length ≤ 1048576) : NewOk Tryz.prog 147 (byts nl by') 179 [] (cr0 by') := by
  have hG : FnsOk Tryz.prog [] := .nil
  refine newOk_of_tye (dt := []) (d := 2) Tryz.func147 rfl (by kernel_rfl) (by kernel_rfl) rfl fun w F => ?_
  refine ty_seqE (ty_awp (ctx_ok eqOk hG) mixed noJ_stable (live := [true, false, true, true, true, false, false, false, false, false, false, false, false, false, false, true]) fun X A w1 => ?_)
  simp [Tryz.f147, List.range, List.range.loop, ints, intss, int, bool, row, frac, fracs, ← List.map_take, ← List.map_drop, thenY_normal, byts]
  refine ty_seqE (ty_awp (ctx_ok eqOk hG) mixed noJ_stable (live := [true, false, true, true, true, false, false, false, false, false, false, false, false, false, false, true]) fun X A w1 => ?_)
  simp [List.range, List.range.loop, ints, intss, int, bool, row, frac, fracs, ← List.map_take, ← List.map_drop, thenY_normal]
  have hr0 : IntKind.i64.wrap (2139 + (by'.length : Int)) = hN by' 0 := rfl
  rw [hr0]
  refine ty_seqE (ty_seq (ty_awp (ctx_ok eqOk hG) mixed noJ_stable (live := [true, false, true, true, true, false, false, false, false, false, false, false, false, false, false, true]) fun X A w1 => ?_))
  simp [List.range, List.range.loop, ints, intss, int, bool, row, frac, fracs, ← List.map_take, ← List.map_drop, thenY_normal]
  refine ty_block (ty_loop (α := {k : Nat // k ≤ min by'.length 4000}) (fun k => ⟨[.sl nl 1 (by'.map bAV), .junk, .junk, int (hN by' k.1), int k.1, .junk, .junk, .junk, .junk, .junk, .junk, .junk, .junk, .junk, .junk, .junk, .junk, .junk, .junk, .junk, .junk, .junk, .junk, .junk, .junk, .junk, .junk, .junk, .junk, .junk, .junk, .junk], []⟩) (fun _ => ()) (fun k => 4000 - k.1) ⟨0, Nat.zero_le _⟩ ⟨?_, rfl⟩ ?_)
  · simp [sub, slotsLe, clean, keep, refsL, refs, once, place, renL, ren, List.replicate, int, bool]
  rintro ⟨k, hk⟩
  by_cases hkl : k < by'.length
  · have hki : (k : Int) < (by'.length : Int) := by omega
    by_cases hk4 : k < 4000
    · have hk4i : (k : Int) < 4000 := by omega
      have hgd : by'.getD k 0 = by'[k] := by simp [List.getD_eq_getElem?_getD, hkl]
      refine ty_seq (ty_awp (ctx_ok eqOk hG) mixed noJ_stable (live := [true, false, true, true, true, false, false, false, false, false, false, false, false, false, false, true]) fun X A w1 => ?_)
      simp [List.range, List.range.loop, ints, intss, int, bool, row, frac, fracs, ← List.map_take, ← List.map_drop, thenY_normal, hkl, hki, hk4, hk4i]
      refine ty_seq (ty_block (ty_reg (tyo_ops 9 (ctx_ok eqOk hG) noJ_stable (by simp) ?_)))
      simp [List.range, List.range.loop, ints, intss, int, bool, row, frac, fracs, ← List.map_take, ← List.map_drop, hkl, bAV]
      refine tyo_bin (r := .int .i64 (hN by' (k + 1))) rfl rfl rfl (by rfl) (by rfl) (fun W => ?_) rfl ?_
      · rw [hN, hgd]
        simp [eqGuard, binOp, Op.intArith, Op.intCmp]
        rfl
      refine tyo_ops 1 (ctx_ok eqOk hG) noJ_stable (by simp) ?_
      simp [List.range, List.range.loop, ints, intss, int, bool, row, frac, fracs, ← List.map_take, ← List.map_drop]
      refine tyo_end (by simp) ?_
      simp only [thenY_normal, inBY_normal]
      refine ty_awp (ctx_ok eqOk hG) mixed noJ_stable (live := [true, false, true, true, true, false, false, false, false, false, false, false, false, false, false, true]) fun X A w1 => ?_
      have hwk : IntKind.i64.wrap ((k : Int) + 1) = (k : Int) + 1 := wrapI (by omega) (by omega)
      simp [List.range, List.range.loop, ints, intss, int, bool, row, frac, fracs, ← List.map_take, ← List.map_drop, thenY_normal, hwk]
      exact ⟨⟨k + 1, by omega⟩, by simp [sub, slotsLe, clean, keep, refsL, refs, once, place, renL, ren, List.replicate, int, bool], rfl, by simp; omega⟩
    · have hk4i : ¬ (k : Int) < 4000 := by omega
      have hkm : k = min by'.length 4000 := by omega
      refine ty_seq (ty_awp (ctx_ok eqOk hG) mixed noJ_stable (live := [true, false, true, true, true, false, false, false, false, false, false, false, false, false, false, true]) fun X A w1 => ?_)
      simp [List.range, List.range.loop, ints, intss, int, bool, row, frac, fracs, ← List.map_take, ← List.map_drop, thenY_normal, thenY_exit, inBY_exit, hkl, hki, hk4, hk4i]
      rw [show cr0 by' = (0, hN by' k) by unfold cr0; rw [← hkm]]
      refine tye_box (ctx_ok eqOk hG) (pre := [_, _, _]) rfl rfl rfl rfl (.inr rfl) rfl rfl ?_
      simp [List.range, List.range.loop, ints, intss, int, bool, row, frac, fracs, ← List.map_take, ← List.map_drop]
  · have hki : ¬ (k : Int) < (by'.length : Int) := by omega
    have hkm : k = min by'.length 4000 := by omega
    refine ty_seq (ty_awp (ctx_ok eqOk hG) mixed noJ_stable (live := [true, false, true, true, true, false, false, false, false, false, false, false, false, false, false, true]) fun X A w1 => ?_)
    simp [List.range, List.range.loop, ints, intss, int, bool, row, frac, fracs, ← List.map_take, ← List.map_drop, thenY_normal, thenY_exit, inBY_exit, hkl, hki]
    rw [show cr0 by' = (0, hN by' k) by unfold cr0; rw [← hkm]]
    refine tye_box (ctx_ok eqOk hG) (pre := [_, _, _]) rfl rfl rfl rfl (.inr rfl) rfl rfl ?_
    simp [List.range, List.range.loop, ints, intss, int, bool, row, frac, fracs, ← List.map_take, ← List.map_drop]
def crB (by' : List Int) (n : Nat) : Int × Int := crN by' (cr0 by') n
set_option maxRecDepth 8000 in
set_option maxHeartbeats 2000000 in
theorem l32New_new {nl : Bool} {by' : List Int} (hlen : by'.length ≤ 1048576) (n : Nat) (hn : n ≤ 1000) : NewOk Tryz.prog 69 (byts nl by') 179 [int (n : Int)] (crB by' n) := by
  have hnew := l01New_new (nl := nl) hlen
  have hcur := fun (k : Nat) => l01Byte_cur (nl := nl) (crN_ok (cr0_ok hlen) k)
  have hG : FnsOk Tryz.prog [] := .nil
  refine newOk_of Tryz.func69 rfl (by kernel_rfl) (new_fn (dt := []) (R := fun b => .v (ptrV b)) (ctx_ok eqOk hG) Tryz.func69 rfl (by kernel_rfl) rfl (by rfl) (pre := [_]) rfl rfl rfl (by rfl) (by rfl) (by rfl) (by rfl) hnew fun w F0 B0 code b hbytes hF0 hbF => ?_)
  simp [Tryz.f69, List.range, List.range.loop, ints, intss, int, bool, row, frac, fracs, ← List.map_take, ← List.map_drop, byts]
  refine tyo_ops 1 (ctx_ok eqOk hG) curJ_stable (by simp) ?_
  simp [List.range, List.range.loop, ints, intss, int, bool, row, frac, fracs, ← List.map_take, ← List.map_drop]
  refine tyo_end (by simp) ?_
  simp only [thenY_normal]
  refine ty_seq (ty_seq (ty_awp (ctx_ok eqOk hG) mixed curJ_stable (live := [true, true, false, false, true, true, true, false, false, false, false, true]) fun X A w1 => ?_))
  simp [List.range, List.range.loop, ints, intss, int, bool, row, frac, fracs, ← List.map_take, ← List.map_drop, thenY_normal]
  refine ty_block (ty_loop (α := {k : Nat // k ≤ n}) (fun k => ⟨[.junk, int n, .junk, .junk, .junk, .v (ptrV b), int k.1, .junk, .junk, .junk, .junk, .junk, .junk, .junk, .junk, .junk, .junk], []⟩) (fun k => crB by' k.1) (fun k => n - k.1) ⟨0, Nat.zero_le _⟩ ⟨?_, rfl⟩ ?_)
  · simp [sub, slotsLe, clean, keep, refsL, refs, once, place, renL, ren, List.replicate, int, bool]
  rintro ⟨k, hk⟩
  by_cases hkn : k < n
  · refine ty_seq (ty_awp (ctx_ok eqOk hG) mixed curJ_stable (live := [true, true, false, false, true, true, true, false, false, false, false, true]) fun X A w1 => ?_)
    simp [List.range, List.range.loop, ints, intss, int, bool, row, frac, fracs, ← List.map_take, ← List.map_drop, thenY_normal, hkn]
    refine ty_seq (ty_block (ty_reg (tyo_ops 1 (ctx_ok eqOk hG) curJ_stable (by simp) ?_)))
    simp [List.range, List.range.loop, ints, intss, int, bool, row, frac, fracs, ← List.map_take, ← List.map_drop]
    refine tyo_cur hbytes hF0 hbF (hcur k) rfl rfl rfl (by rfl) (by rfl) (by rfl) ?_
    simp [List.range, List.range.loop, ints, intss, int, bool, row, frac, fracs, ← List.map_take, ← List.map_drop]
    refine tyo_end (by simp) ?_
    simp only [thenY_normal, inBY_normal]
    refine ty_awp (ctx_ok eqOk hG) mixed curJ_stable (live := [true, true, false, false, true, true, true, false, false, false, false, true]) fun X A w1 => ?_
    have hwk : IntKind.i64.wrap ((k : Int) + 1) = (k : Int) + 1 := wrapI (by omega) (by omega)
    simp [List.range, List.range.loop, ints, intss, int, bool, row, frac, fracs, ← List.map_take, ← List.map_drop, thenY_normal, hwk]
    exact ⟨⟨k + 1, hkn⟩, by simp [sub, slotsLe, clean, keep, refsL, refs, once, place, renL, ren, List.replicate, int, bool], rfl, by simp; omega⟩
  · obtain rfl : k = n := by omega
    refine ty_seq (ty_awp (ctx_ok eqOk hG) mixed curJ_stable (live := [true, true, false, false, true, true, true, false, false, false, false, true]) fun X A w1 => ?_)
    simp [List.range, List.range.loop, ints, intss, int, bool, row, frac, fracs, ← List.map_take, ← List.map_drop, thenY_normal, thenY_exit, inBY_exit]
    refine ty_awp (ctx_ok eqOk hG) mixed curJ_stable (live := [true, true, false, false, true, true, true, false, false, false, false, true]) fun X A w1 => ?_
    simp [List.range, List.range.loop, ints, intss, int, bool, row, frac, fracs, ← List.map_take, ← List.map_drop, thenY_ret]
end Go.Proofs.YtkfmhpgnhkdebaaGreatDoor.Ax
namespace Go.Proofs.YtkfmhpgnhkdebaaGreatDoor.Ax
open Go Go.RowKit
set_option linter.unusedSimpArgs false
theorem map_bAV_inj {a b : List Int} : a.map bAV = b.map bAV ↔ a = b := List.map_inj_right (fun x y h => by simpa [bAV] using h)
end Go.Proofs.YtkfmhpgnhkdebaaGreatDoor.Ax
namespace Go.Proofs.YtkfmhpgnhkdebaaGreatDoor.Ax
open Go Go.RowKit
set_option linter.unusedSimpArgs false
theorem idx_snoc {m : Nat} : (idx m).map int ++ [int (m : Int)] = (idx (m + 1)).map int := by simp [idx, List.range_succ]
set_option maxRecDepth 8000 in
set_option maxHeartbeats 2000000 in
theorem l03Draw_cur {nl : Bool} {by' : List Int} {s : Int × Int} (hs : CrOk by' s) {m : Nat} (h1 : 1 ≤ m) (h5 : m ≤ 5) : CurOk Tryz.prog 71 (byts nl by') 179 [int m] s (crN by' s (m - 1)) (.sl false 1 ((rkD by' s m (m - 1)).map int)) := by
  have hcur := fun (n k : Nat) (h0 : 0 < n) (hm : n ≤ 256) => l01Below_cur (nl := nl) (crN_ok hs k) h0 hm
  have hG : FnsOk Tryz.prog [] := .nil
  refine curOk_of_ty (dt := []) (ctx_ok eqOk hG) Tryz.func71 rfl (by kernel_rfl) (by kernel_rfl) fun w F0 code b hbytes hF0 hbF => ?_
  refine ty_seq (ty_awp (ctx_ok eqOk hG) mixed curJ_stable (live := [true, true, false, false, true, true, true, true, true, true, false, false, false, true, false, false, false, false, false, false, false, false, false, true]) fun X A w1 => ?_)
  simp [Tryz.f71, List.range, List.range.loop, ints, intss, int, bool, row, frac, fracs, ← List.map_take, ← List.map_drop, thenY_normal]
  refine ty_seq (ty_awp (ctx_ok eqOk hG) mixed curJ_stable (live := [true, true, false, false, true, true, true, true, true, true, false, false, false, true, false, false, false, false, false, false, false, false, false, true]) fun X A w1 => ?_)
  simp [List.range, List.range.loop, ints, intss, int, bool, row, frac, fracs, ← List.map_take, ← List.map_drop, thenY_normal]
  refine ty_seq (ty_seq (ty_awp (ctx_ok eqOk hG) mixed curJ_stable (live := [true, true, false, false, true, true, true, true, true, true, false, false, false, true, false, false, false, false, false, false, false, false, false, true]) fun X A w1 => ?_))
  simp [List.range, List.range.loop, ints, intss, int, bool, row, frac, fracs, ← List.map_take, ← List.map_drop, thenY_normal]
  have z0 : idx 0 = [] := rfl
  refine ty_block (ty_loop (α := {i : Nat // i ≤ m}) (fun i => ⟨[.v (ptrV b), int m, .junk, .junk, .junk, .ref 0 [] 0 i.1, int i.1, .junk, .junk, .junk, .junk, .junk, .junk, .junk, .junk, .junk, .junk, .junk, .junk, .junk, .junk, .junk, .junk, .junk, .junk, .junk, .junk, .junk, .junk, .junk, .junk, .junk, .junk, .junk, .junk, .junk, .junk, .junk, .junk, .junk, .junk, .junk, .junk, .junk, .junk, .junk], [⟨true, .sl false 1 ((idx i.1).map int)⟩]⟩) (fun _ => s) (fun i => m - i.1) ⟨0, Nat.zero_le _⟩ ⟨?_, rfl⟩ ?_)
  · simp [sub, slotsLe, clean, keep, refsL, refs, once, place, renL, ren, List.replicate, int, bool, z0]
  rintro ⟨i, hi⟩
  have hil : (idx i).length = i := idx_len
  by_cases hin : i < m
  · have hini : (i : Int) < m := by omega
    have hbb : i + 1 ≤ 4611686018427387904 ∧ (i + 1) * 8 ≤ 140737488355328 := by omega
    have hst : (idx i).map int ++ [.v (.int .i64 (i : Int))] = (idx (i + 1)).map int := idx_snoc
    have hwk : IntKind.i64.wrap ((i : Int) + 1) = (i : Int) + 1 := wrapI (by omega) (by omega)
    refine ty_awp (ctx_ok eqOk hG) mixed curJ_stable (live := [true, true, false, false, true, true, true, true, true, true, false, false, false, true, false, false, false, false, false, false, false, false, false, true]) fun X A w1 => ?_
    simp [List.range, List.range.loop, ints, intss, int, bool, row, frac, fracs, ← List.map_take, ← List.map_drop, thenY_normal, hin, hini, hil, hbb, hst, hwk]
    exact ⟨⟨i + 1, hin⟩, by simp [sub, slotsLe, clean, keep, refsL, refs, once, place, renL, ren, List.replicate, int, bool], rfl, by simp; omega⟩
  obtain rfl : i = m := by omega
  refine ty_seq (ty_awp (ctx_ok eqOk hG) mixed curJ_stable (live := [true, true, false, false, true, true, true, true, true, true, false, false, false, true, false, false, false, false, false, false, false, false, false, true]) fun X A w1 => ?_)
  simp [List.range, List.range.loop, ints, intss, int, bool, row, frac, fracs, ← List.map_take, ← List.map_drop, thenY_normal, thenY_exit, inBY_exit]
  refine ty_seq (ty_seq (ty_awp (ctx_ok eqOk hG) mixed curJ_stable (live := [true, true, false, false, true, true, true, true, true, true, false, false, false, true, false, false, false, false, false, false, false, false, false, true]) fun X A w1 => ?_))
  have w1 : IntKind.i64.wrap ((i : Int) - 1) = (i : Int) - 1 := wrapI (by omega) (by omega)
  have z1 : rkD by' s i 0 = idx i := rfl
  simp [List.range, List.range.loop, ints, intss, int, bool, row, frac, fracs, ← List.map_take, ← List.map_drop, thenY_normal, w1]
  refine ty_block (ty_loop (α := {t : Nat // t ≤ i - 1}) (fun t => ⟨[.v (ptrV b), .junk, .junk, .junk, .junk, .ref 0 [] 0 i, .junk, int ((i : Int) - 1 - t.1), .junk, .junk, .junk, .junk, .junk, .junk, .junk, .junk, .junk, .junk, .junk, .junk, .junk, .junk, .junk, .junk, .junk, .junk, .junk, .junk, .junk, .junk, .junk, .junk, .junk, .junk, .junk, .junk, .junk, .junk, .junk, .junk, .junk, .junk, .junk, .junk, .junk, .junk], [⟨true, .sl false 1 ((rkD by' s i t.1).map int)⟩]⟩) (fun t => crN by' s t.1) (fun t => i - t.1) ⟨0, Nat.zero_le _⟩ ⟨?_, rfl⟩ ?_)
  · simp [sub, slotsLe, clean, keep, refsL, refs, once, place, renL, ren, List.replicate, int, bool, z1]
  rintro ⟨t, ht⟩
  obtain ⟨r1, _, _⟩ := rkD_ok (by' := by') (s := s) (m := i) (t := t) (by omega)
  by_cases htn : t < i - 1
  rotate_left
  · obtain rfl : t = i - 1 := by omega
    have hz : ¬ ((i - 1 : Nat) : Int) < (i : Int) - 1 := by omega
    refine ty_seq (ty_awp (ctx_ok eqOk hG) mixed curJ_stable (live := [true, true, false, false, true, true, true, true, true, true, false, false, false, true, false, false, false, false, false, false, false, false, false, true]) fun X A w1 => ?_)
    simp [List.range, List.range.loop, ints, intss, int, bool, row, frac, fracs, ← List.map_take, ← List.map_drop, thenY_normal, thenY_exit, inBY_exit, hz]
    refine ty_awp (ctx_ok eqOk hG) mixed curJ_stable (live := [true, true, false, false, true, true, true, true, true, true, false, false, false, true, false, false, false, false, false, false, false, false, false, true]) fun X A w1 => ?_
    simp [List.range, List.range.loop, ints, intss, int, bool, row, frac, fracs, ← List.map_take, ← List.map_drop, thenY_ret, r1]
  have hcall := hcur (i - t) t (by omega) (by omega)
  have hb := bw_bd (by' := by') (s := crN by' s t) (n := i - t) (by omega)
  have hst : rkD by' s i (t + 1) = swp (rkD by' s i t) (i - 1 - t) (bw by' (crN by' s t) (i - t)).toNat := rfl
  have hn : ((i - t : Nat) : Int) = (i : Int) - 1 - t + 1 := by omega
  rw [hn] at hcall
  obtain ⟨k, hk⟩ : ∃ k : Nat, bw by' (crN by' s t) (i - t) = k := ⟨(bw by' (crN by' s t) (i - t)).toNat, by omega⟩
  rw [hk] at hcall hst hb
  simp only [Int.toNat_natCast] at hst
  have hkl : k < i := by omega
  obtain ⟨q, hq⟩ : ∃ q : Nat, q = i - 1 - t := ⟨_, rfl⟩
  have hqI : (i : Int) - 1 - t = (q : Int) := by omega
  rw [← hq] at hst
  rw [hqI] at hcall ⊢
  have hql : q < i := by omega
  have hq0 : 0 < q := by omega
  have hq0I : (0 : Int) < (q : Int) := by omega
  have w2 : IntKind.i64.wrap ((q : Int) + 1) = (q : Int) + 1 := wrapI (by omega) (by omega)
  generalize rkD by' s i t = L0 at *
  refine ty_seq (ty_awp (ctx_ok eqOk hG) mixed curJ_stable (live := [true, true, false, false, true, true, true, true, true, true, false, false, false, true, false, false, false, false, false, false, false, false, false, true]) fun X A w1 => ?_)
  simp [List.range, List.range.loop, ints, intss, int, bool, row, frac, fracs, ← List.map_take, ← List.map_drop, thenY_normal, hq0, hq0I]
  refine ty_seq (ty_block (ty_seq (ty_reg (tyo_ops 3 (ctx_ok eqOk hG) curJ_stable (by simp) ?_))))
  simp [List.range, List.range.loop, ints, intss, int, bool, row, frac, fracs, ← List.map_take, ← List.map_drop, w2]
  refine tyo_cur hbytes hF0 hbF hcall rfl rfl rfl (by rfl) (by rfl) (by rfl) ?_
  simp [List.range, List.range.loop, ints, intss, int, bool, row, frac, fracs, ← List.map_take, ← List.map_drop]
  refine tyo_ops 1 (ctx_ok eqOk hG) curJ_stable (by simp) ?_
  simp [List.range, List.range.loop, ints, intss, int, bool, row, frac, fracs, ← List.map_take, ← List.map_drop]
  refine tyo_end (by simp) ?_
  simp only [thenY_normal]
  have g1 : L0[q]? = some (at0 L0 q) := by rw [List.getElem?_eq_getElem (by omega), at0_eq]
  have g2 : L0[k]? = some (at0 L0 k) := by rw [List.getElem?_eq_getElem (by omega), at0_eq]
  have g3 : swp L0 q k = (L0.set q (at0 L0 k)).set k (at0 L0 q) := rfl
  have e1 : L0[q]'(by omega) = at0 L0 q := (at0_eq _).symm
  have e2 : L0[k]'(by omega) = at0 L0 k := (at0_eq _).symm
  have e3 : ∀ (j : Nat) (x : Int), (L0.set j x).length = i := fun j x => by simp [r1]
  refine ty_seq (ty_awp (ctx_ok eqOk hG) mixed curJ_stable (live := [true, true, false, false, true, true, true, true, true, true, false, false, false, true, false, false, false, false, false, false, false, false, false, true]) fun X A w1 => ?_)
  simp [List.range, List.range.loop, ints, intss, int, bool, row, frac, fracs, ← List.map_take, ← List.map_drop, thenY_normal, r1, hql, hkl, g1, g2, e1, e2]
  refine ty_seq (ty_awp (ctx_ok eqOk hG) mixed curJ_stable (live := [true, true, false, false, true, true, true, true, true, true, false, false, false, true, false, false, false, false, false, false, false, false, false, true]) fun X A w1 => ?_)
  simp [List.range, List.range.loop, ints, intss, int, bool, row, frac, fracs, ← List.map_take, ← List.map_drop, thenY_normal, r1, hql, hkl, g1, g2, e1, e2]
  refine ty_awp (ctx_ok eqOk hG) mixed curJ_stable (live := [true, true, false, false, true, true, true, true, true, true, false, false, false, true, false, false, false, false, false, false, false, false, false, true]) fun X A w1 => ?_
  simp [List.range, List.range.loop, ints, intss, int, bool, row, frac, fracs, ← List.map_take, ← List.map_drop, thenY_normal, inBY_normal, r1, hql, hkl, g1, g2, e1, e2, e3]
  refine ty_awp (ctx_ok eqOk hG) mixed curJ_stable (live := [true, true, false, false, true, true, true, true, true, true, false, false, false, true, false, false, false, false, false, false, false, false, false, true]) fun X A w1 => ?_
  have w3 : IntKind.i64.wrap ((q : Int) - 1) = (q : Int) - 1 := wrapI (by omega) (by omega)
  simp [List.range, List.range.loop, ints, intss, int, bool, row, frac, fracs, ← List.map_take, ← List.map_drop, thenY_normal, w3]
  refine ⟨⟨t + 1, by omega⟩, ?_, rfl, by simp; omega⟩
  simp [sub, slotsLe, clean, keep, refsL, refs, once, place, renL, ren, List.replicate, int, bool, hst, g3, w3]
  refine ⟨?_, by omega⟩
  by_cases hqk : q = k
  · simp [hqk, int]
  · simp [hqk, int]
def pvR (m : Nat) : List Vt → AV
  | [] => .agg [.v (.int .i64 m), .sl true 1 []]
  | v :: vs => .agg [.v (.int .i64 m), .sl false 2 ((v :: vs).map vote)]
theorem pvR_nil {m : Nat} : pvR m [] = .agg [.v (.int .i64 m), .sl true 1 []] := rfl
theorem pvR_cons {m : Nat} {v : Vt} {vs : List Vt} : pvR m (v :: vs) = .agg [.v (.int .i64 m), .sl false 2 ((v :: vs).map vote)] := rfl
set_option maxRecDepth 8000 in
set_option maxHeartbeats 4000000 in
theorem l04Draw_cur {nl : Bool} {by' : List Int} {s : Int × Int} (hs : CrOk by' s) {m : Nat} (h1 : 1 ≤ m) (h5 : m ≤ 5) : CurOk Tryz.prog 70 (byts nl by') 179 [int m] s (crN by' s (1 + nvD by' s * m)) (pvR m (vsD by' s m (nvD by' s))) := by
  have hcur := fun (n k : Nat) (h0 : 0 < n) (hm : n ≤ 256) => l01Below_cur (nl := nl) (crN_ok hs k) h0 hm
  have hrk := fun (k : Nat) => l03Draw_cur (nl := nl) (crN_ok hs k) h1 h5
  have hn := nvD_bd (by' := by') (s := s)
  generalize nvD by' s = n at *
  have hG : FnsOk Tryz.prog [] := .nil
  refine curOk_of_ty (dt := [(6, ⟨[(0, 7), (1, 7)], [0, 0, 0, 0, 0, 0, 0, 1, 2], []⟩)]) (ctx_ok eqOk hG) Tryz.func70 rfl (by kernel_rfl) (by kernel_rfl) fun w F0 code b hbytes hF0 hbF => ?_
  refine ty_seq (ty_awp (ctx_ok eqOk hG) mixed curJ_stable (live := [true, true, false, false, true, true, true, true, false, false, false, false, false, true]) fun X A w1 => ?_)
  simp [Tryz.f70, List.range, List.range.loop, ints, intss, int, bool, row, frac, fracs, ← List.map_take, ← List.map_drop, thenY_normal]
  refine ty_seq (ty_awp (ctx_ok eqOk hG) mixed curJ_stable (live := [true, true, false, false, true, true, true, true, false, false, false, false, false, true]) fun X A w1 => ?_)
  simp [List.range, List.range.loop, ints, intss, int, bool, row, frac, fracs, ← List.map_take, ← List.map_drop, thenY_normal]
  refine ty_seq (ty_seq (ty_reg (tyo_ops 1 (ctx_ok eqOk hG) curJ_stable (by simp) ?_)))
  simp [List.range, List.range.loop, ints, intss, int, bool, row, frac, fracs, ← List.map_take, ← List.map_drop]
  refine tyo_cur hbytes hF0 hbF (hcur 6 0 (by omega) (by omega)) rfl rfl rfl (by rfl) (by rfl) (by rfl) ?_
  simp [List.range, List.range.loop, ints, intss, int, bool, row, frac, fracs, ← List.map_take, ← List.map_drop]
  refine tyo_ops 1 (ctx_ok eqOk hG) curJ_stable (by simp) ?_
  have e0 : bw by' (crN by' s 0) 6 = (n : Int) := hn.2
  simp [List.range, List.range.loop, ints, intss, int, bool, row, frac, fracs, ← List.map_take, ← List.map_drop, e0]
  refine tyo_end (by simp) ?_
  simp only [thenY_normal]
  have hw : ∀ i : Nat, i ≤ n → IntKind.i64.wrap ((n : Int) - i - 1) = (n : Int) - i - 1 := fun i _ => wrapI (by omega) (by omega)
  refine ty_block (ty_loop (α := {i : Nat // i ≤ n}) (fun i => ⟨[.v (ptrV b), int m, .junk, .junk, .ptr 0 [] 0 0, .ptr 1 [] 0 0, int ((n : Int) - i.1), .junk, .junk, .junk, .junk, .junk, .junk, .junk, .junk, .junk, .junk, .junk, .junk, .junk, .junk, .junk, .junk, .junk, .junk, .junk, .junk, .junk, .junk, .junk], [⟨true, .sl false 2 [.agg [.v (.int .i64 0), .sl true 1 []]]⟩, ⟨true, .sl false 2 [pvR m (vsD by' s m i.1)]⟩]⟩) (fun i => crN by' s (1 + i.1 * m)) (fun i => n - i.1) ⟨0, Nat.zero_le _⟩ ⟨?_, ?_⟩ ?_)
  · simp [sub, slotsLe, clean, keep, refsL, refs, once, place, renL, ren, List.replicate, int, bool, vsD, pvR_nil]
  · simp [crN_one]; rfl
  rintro ⟨i, hi⟩
  have hvl := vsD_len (by' := by') (s := s) (m := m) (n := i)
  by_cases hin : i < n
  rotate_left
  · obtain rfl : i = n := by omega
    refine ty_seq (ty_awp (ctx_ok eqOk hG) mixed curJ_stable (live := [true, true, false, false, true, true, true, true, false, false, false, false, false, true]) fun X A w1 => ?_)
    simp [List.range, List.range.loop, ints, intss, int, bool, row, frac, fracs, ← List.map_take, ← List.map_drop, thenY_normal, thenY_exit, inBY_exit]
    generalize vsD by' s m i = V at *
    cases V with
    | nil =>
      refine ty_awp (ctx_ok eqOk hG) mixed curJ_stable (live := [true, true, false, false, true, true, true, true, false, false, false, false, false, true]) fun X A w1 => ?_
      simp [List.range, List.range.loop, ints, intss, int, bool, row, frac, fracs, ← List.map_take, ← List.map_drop, thenY_ret, pvR_nil, pvR_cons]
      done
    | cons v V =>
      refine ty_awp (ctx_ok eqOk hG) mixed curJ_stable (live := [true, true, false, false, true, true, true, true, false, false, false, false, false, true]) fun X A w1 => ?_
      simp [List.range, List.range.loop, ints, intss, int, bool, row, frac, fracs, ← List.map_take, ← List.map_drop, thenY_ret, pvR_nil, pvR_cons]
      done
  have hst := vsD_succ (by' := by') (s := s) (m := m) (n := i)
  have hv : vtD by' s m i = ((false, rkD by' (crN by' s (1 + i * m)) m (m - 1)), 1 + bw by' (crN by' s (1 + i * m + (m - 1))) 6) := rfl
  have hrk := hrk (1 + i * m)
  rw [crN_add] at hrk
  have hcall := hcur 6 (1 + i * m + (m - 1)) (by omega) (by omega)
  have hb := bw_bd (by' := by') (s := crN by' s (1 + i * m + (m - 1))) (n := 6) (by omega)
  have hw1 : IntKind.i64.wrap (1 + bw by' (crN by' s (1 + i * m + (m - 1))) 6) = 1 + bw by' (crN by' s (1 + i * m + (m - 1))) 6 := wrapI (by omega) (by omega)
  obtain ⟨q1, _, _⟩ := rkD_ok (by' := by') (s := crN by' s (1 + i * m)) (m := m) (t := m - 1) (by omega)
  generalize bw by' (crN by' s (1 + i * m + (m - 1))) 6 = c at *
  generalize rkD by' (crN by' s (1 + i * m)) m (m - 1) = R at *
  have hini : ¬ (n : Int) - i ≤ 0 := by omega
  have hini2 : (0 : Int) < (n : Int) - i := by omega
  have hini3 : (i : Int) < (n : Int) := by omega
  refine ty_seq (ty_awp (ctx_ok eqOk hG) mixed curJ_stable (live := [true, true, false, false, true, true, true, true, false, false, false, false, false, true]) fun X A w1 => ?_)
  simp [List.range, List.range.loop, ints, intss, int, bool, row, frac, fracs, ← List.map_take, ← List.map_drop, thenY_normal, hini, hini2, hini3]
  refine ty_seq (ty_block (ty_seq (ty_reg (tyo_ops 2 (ctx_ok eqOk hG) curJ_stable (by simp) ?_))))
  simp [List.range, List.range.loop, ints, intss, int, bool, row, frac, fracs, ← List.map_take, ← List.map_drop]
  refine tyo_cur hbytes hF0 hbF hrk rfl rfl rfl (by rfl) (by rfl) (by rfl) ?_
  simp [List.range, List.range.loop, ints, intss, int, bool, row, frac, fracs, ← List.map_take, ← List.map_drop]
  refine tyo_ops 1 (ctx_ok eqOk hG) curJ_stable (by simp) ?_
  simp [List.range, List.range.loop, ints, intss, int, bool, row, frac, fracs, ← List.map_take, ← List.map_drop]
  refine tyo_end (by simp) ?_
  simp only [thenY_normal]
  refine ty_drawCur (ctx_ok eqOk hG) mixed hbytes hF0 hbF hcall (c := 4) rfl rfl rfl (fun _ => rfl) (by kernel_rfl) ?_
  have hw' := hw i (by omega)
  have hend : crS by' (crN by' s (1 + i * m + (m - 1))) = crN by' s (1 + (i + 1) * m) := by
    rw [crN_one, crN_add]; congr 1; rw [Nat.add_mul]; omega
  rw [hv] at hst
  generalize vsD by' s m i = V at *
  cases V with
  | nil =>
    simp [List.range, List.range.loop, ints, intss, int, bool, row, frac, fracs, ← List.map_take, ← List.map_drop, curCtx, curM_at, pvR_nil, pvR_cons, hw1, q1]
    simp only [inBY_normal, thenY_normal]
    refine ty_awp (ctx_ok eqOk hG) mixed curJ_stable (live := [true, true, false, false, true, true, true, true, false, false, false, false, false, true]) fun X A w1 => ?_
    simp [List.range, List.range.loop, ints, intss, int, bool, row, frac, fracs, ← List.map_take, ← List.map_drop, thenY_normal, hw']
    refine ⟨⟨i + 1, hin⟩, ?_, hend, by simp; omega⟩
    simp [sub, slotsLe, clean, keep, refsL, refs, once, place, renL, ren, List.replicate, int, bool, hst, pvR_cons, vote]
    try omega
  | cons v V =>
    simp at hvl
    have hbb : V.length + 1 + 1 ≤ 4611686018427387904 ∧ (V.length + 1 + 1) * 32 ≤ 140737488355328 := by omega
    simp [List.range, List.range.loop, ints, intss, int, bool, row, frac, fracs, ← List.map_take, ← List.map_drop, curCtx, curM_at, pvR_nil, pvR_cons, hw1, q1, hbb]
    simp only [inBY_normal, thenY_normal]
    refine ty_awp (ctx_ok eqOk hG) mixed curJ_stable (live := [true, true, false, false, true, true, true, true, false, false, false, false, false, true]) fun X A w1 => ?_
    simp [List.range, List.range.loop, ints, intss, int, bool, row, frac, fracs, ← List.map_take, ← List.map_drop, thenY_normal, hw']
    refine ⟨⟨i + 1, hin⟩, ?_, hend, by simp; omega⟩
    simp [sub, slotsLe, clean, keep, refsL, refs, once, place, renL, ren, List.replicate, int, bool, hst, pvR_cons, vote]
    try omega
end Go.Proofs.YtkfmhpgnhkdebaaGreatDoor.Ax
