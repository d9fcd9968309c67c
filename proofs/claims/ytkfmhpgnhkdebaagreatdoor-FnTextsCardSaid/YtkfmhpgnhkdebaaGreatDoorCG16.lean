/-
  Contract: ParseMarket (the program's), at the text of a valid market. No condition.
-/
import Derived.Test.YtkfmhpgnhkdebaaGreatDoorCG15
import Derived.Test.YtkfmhpgnhkdebaaGreatDoorCG10
import Derived.Test.YtkfmhpgnhkdebaaGreatDoorCG11
import Derived.Test.YtkfmhpgnhkdebaaGreatDoorCG9
import Derived.Test.YtkfmhpgnhkdebaaGreatDoorCK4
namespace Go.Proofs.YtkfmhpgnhkdebaaGreatDoor.Ax
open Go Go.RowKit
set_option linter.unusedSimpArgs false
theorem rtx_bytes {m : Int} {r : Bool × List Int} (h : rankB m r.2 = true) : ∀ b ∈ bl (rtx r), 97 ≤ b.toNat ∧ b.toNat ≤ 101 := by
  have hl := (rank_facts h).2.2.1
  have h' : rankB r.2.length r.2 = true := by rw [hl]; exact h
  unfold rtx
  rw [frk_T h']
  exact frk_bytes h'
theorem mkW_bytes {xs ys : List (Bool × List Int)} (h : marB xs ys = true) : ∀ w ∈ mkW xs ys, (32 : UInt8) ∉ bl w := fun w hw hb => by
  obtain ⟨_, _, _, h4, h5⟩ := mar_facts h
  simp only [mkW, List.mem_append, List.mem_map, List.mem_cons] at hw
  have e : (32 : UInt8).toNat = 32 := rfl
  rcases hw with ⟨r, hr, rfl⟩ | rfl | ⟨r, hr, rfl⟩
  · have := rtx_bytes (h4 r hr) _ hb; omega
  · rw [bl_one] at hb; simp at hb
  · have := rtx_bytes (h5 r hr) _ hb; omega
theorem cnt_join {c : UInt8} : ∀ {ws : List ByteArray}, ws ≠ [] → (∀ w ∈ ws, c ∉ bl w) → cntT (joinS ws ⟨#[c]⟩) c + 1 = ws.length
  | [], h, _ => (h rfl).elim
  | [w], _, h => by
    rw [joinS_one]
    unfold cntT
    rw [List.count_eq_zero_of_not_mem (h w (by simp))]; rfl
  | w :: x :: ws, _, h => by
    have ih := cnt_join (ws := x :: ws) (by simp) fun y hy => h y (by simp [hy])
    rw [joinS_cons]
    unfold cntT at ih ⊢
    rw [bl_app, bl_app, bl_one, List.count_append, List.count_append, List.count_eq_zero_of_not_mem (h w (by simp))]
    simp only [List.count_singleton_self, List.length_cons] at ih ⊢
    omega
theorem fmk_split {xs ys : List (Bool × List Int)} (h : marB xs ys = true) : splitS (fmkS xs ys) 32 = mkW xs ys ∧ SpA (fmkS xs ys) 32 := by
  have hne : mkW xs ys ≠ [] := by simp [mkW]
  have h1 := split_join hne (mkW_bytes h)
  have h2 := cnt_join hne (mkW_bytes h)
  have h3 := mkW_total h
  refine ⟨h1, ?_⟩
  unfold fmkS at h3 ⊢
  exact ⟨by omega, by rw [h1]; exact h2⟩
theorem prk_rtx {m : Int} {r : Bool × List Int} (h : rankB m r.2 = true) : mPrk [.v (.string (rtx r))] = some (.tup [.sl false 1 (r.2.map int), .v (.bool true)]) ∧ ¬ (rtx r).toList = [124] ∧ ¬ rtx r = ⟨#[124]⟩ := by
  have hl := (rank_facts h).2.2.1
  have h' : rankB r.2.length r.2 = true := by rw [hl]; exact h
  have hb := rtx_bytes h
  have hm := mPrk_at (rtx r) (by unfold rtx; have := frkT_size r.2; omega)
  have hne : ¬ rtx r = ⟨#[124]⟩ := fun e => by
    rw [e, bl_one] at hb
    have := hb 124 (by simp)
    have e2 : (124 : UInt8).toNat = 124 := rfl
    omega
  refine ⟨?_, ?_, hne⟩
  · unfold rtx at hm ⊢
    rw [frk_T h'] at hm ⊢
    obtain ⟨p1, p2, _⟩ := prk_frk h'
    unfold prkAV at hm
    rw [if_pos p2, p1] at hm
    exact hm
  · have := tl_ne hne
    have e : (⟨#[124]⟩ : ByteArray).toList = [124] := by rw [ByteArray.toList_eq]
    rwa [e] at this
theorem prk_bar : mPrk [.v (.string ⟨#[124]⟩)] = some (.tup [.sl true 1 [], .v (.bool false)]) := by
  have hm := mPrk_at ⟨#[124]⟩ (by decide)
  have : prkB ⟨#[124]⟩ = false := by decide +kernel
  unfold prkAV at hm
  rw [this] at hm
  exact hm
def mrB : List (Bool × List Int) → AV
  | [] => .sl true 1 []
  | x :: l => .sl false 1 ((x :: l).map row)
theorem mrB_nil : mrB [] = .sl true 1 [] := rfl
theorem mrB_cons {x : Bool × List Int} {l : List (Bool × List Int)} : mrB (x :: l) = .sl false 1 ((x :: l).map row) := rfl
theorem mrB_ne {l : List (Bool × List Int)} (h : l ≠ []) : mrB l = .sl false 1 (l.map row) := by cases l with | nil => exact (h rfl).elim | cons _ _ => rfl
theorem mrB_snoc {l : List (Bool × List Int)} {x : Bool × List Int} : mrB (l ++ [x]) = .sl false 1 (l.map row ++ [row x]) := by
  rw [mrB_ne (by simp), List.map_append]; rfl
def pmOk (xs ys : List (Bool × List Int)) : Prop := marB xs ys = true ∧ (∀ r ∈ xs, r.1 = false) ∧ ∀ r ∈ ys, r.1 = false
set_option maxRecDepth 8000 in
set_option maxHeartbeats 4000000 in
theorem implPmk (xs ys : List (Bool × List Int)) (hok : pmOk xs ys) : CallOk Tryz.prog 46 [str (fmkS xs ys)] (.tup [mkt false xs false ys, .v (.bool true)]) := by
  obtain ⟨h, hfx, hfy⟩ := hok
  obtain ⟨h1, h2, h3, h4, h5⟩ := mar_facts h
  obtain ⟨hsp, hspa⟩ := fmk_split h
  have hs := mSpl2_at (fmkS xs ys) 32 hspa
  rw [hsp] at hs
  have hfm := mFmk_at false xs false ys
  have hT : fmkT xs ys = fmkS xs ys := by unfold fmkT; rw [if_pos h]
  rw [hT] at hfm
  have hmr := mMar_at false xs false ys
  rw [h] at hmr
  have hb := prk_bar
  generalize fmkS xs ys = t at *
  have hWl := mkW_len (xs := xs) (ys := ys)
  have hW1 : ∀ k (hk : k < xs.length), (mkW xs ys)[k]? = some (rtx xs[k]) := fun k hk => by
    unfold mkW
    rw [List.getElem?_append_left (by simpa using hk)]; simp [hk]
  have hW2 : (mkW xs ys)[xs.length]? = some ⟨#[124]⟩ := by
    unfold mkW
    rw [List.getElem?_append_right (by simp)]; simp
  have hW3 : ∀ j (hj : j < ys.length), (mkW xs ys)[xs.length + 1 + j]? = some (rtx ys[j]) := fun j hj => by
    unfold mkW
    rw [List.getElem?_append_right (by simp; omega)]
    simp only [List.length_map, show xs.length + 1 + j - xs.length = j + 1 by omega, List.getElem?_cons_succ, List.getElem?_map, List.getElem?_eq_getElem hj, Option.map_some]
  generalize mkW xs ys = W at *
  obtain ⟨N, hN⟩ : ∃ N, N = W.length := ⟨_, rfl⟩
  have hN11 : ¬ (11 : Int) < (N : Int) := by omega
  have hN11n : ¬ 11 < N := by omega
  have hG : FnsOk Tryz.prog [(123, mSpl2), (49, mPrk), (124, mMar), (47, mFmk)] := (.cons splitP_ok (.cons implPrk_ok (.cons implMar_ok (.cons implFmk_ok .nil))))
  refine callOk_awp (ctx_ok eqOk hG) mixed (live := [true, false, true, true, true, true, true, false, true, true, false, false, false, false, false, true, false, true, true, true, true, false, false, false, false, false, false, false, false, false, false, false, false, false, true, false, false, true, false, false, false, false, false, false, false, false, false, false, false, false, false, false, false, false, true]) (dt := []) Tryz.func46 rfl (by kernel_rfl) (by kernel_rfl) fun w0 hlens => ?_
  clear hlens
  simp [Tryz.f46, List.range, List.range.loop, ints, intss, int, bool, row, frac, fracs, ← List.map_take, ← List.map_drop, str, hs, ← hN, hN11, hN11n]
  trace_state
  refine awp_range (live := [true, false, true, true, true, true, true, false, true, true, false, false, false, false, false, true, false, true, true, true, true, false, false, false, false, false, false, false, false, false, false, false, false, false, true, false, false, true, false, false, false, false, false, false, false, false, false, false, false, false, false, false, false, false, true]) (ctx_ok eqOk hG) mixed [true, false, true, false, false, true, true, false, false, false, false, false, false, false, false, false, false, true, true, true] (N) (fun k => True) (fun k => ⟨[str t, .junk, .ptr 0 [] 0 0, .junk, .junk, .ptr 1 [] 0 0, .v (.bool (decide (xs.length < k))), .junk, .junk, .junk, .junk, .junk, .junk, .junk, .junk, .junk, .junk, .ref 2 [] 0 N, int N, int k, .junk, .junk, .junk, .junk, .junk, .junk, .junk, .junk, .junk, .junk, .junk, .junk, .junk, .junk, .junk, .junk, .junk, .junk, .junk, .junk, .junk, .junk, .junk, .junk, .junk, .junk, .junk, .junk, .junk, .junk, .junk, .junk, .junk, .junk, .junk, .junk, .junk], [⟨true, .sl false 2 [.agg [.sl true 1 [], .sl true 1 []]]⟩, ⟨true, .sl false 2 [.agg [mrB (xs.take k), mrB (ys.take (k - (xs.length + 1)))]]⟩, ⟨true, .sl false 1 (W.map str)⟩]⟩) ?_ (by simp [sub, slotsLe, clean, keep, refsL, refs, once, place, renL, ren, List.replicate, int, bool, str, mrB_nil]) ?_ ?_ ?_
  · omega
  · trivial
  · intro k hk _ hwk
    have hkW : k < W.length := by omega
    have hNW : N ≤ W.length := by omega
    have hx0 : xs ≠ [] := by intro e; rw [e] at h1; simp at h1
    rcases Nat.lt_trichotomy k xs.length with hkn | hkn | hkn
    · obtain ⟨p1, p2, p3⟩ := prk_rtx (h4 _ (List.getElem_mem hkn))
      have hWk : W[k] = rtx xs[k] := by have := hW1 k hkn; rw [List.getElem?_eq_getElem hkW] at this; exact Option.some.inj this
      have z1 : k - (xs.length + 1) = 0 := by omega
      have z2 : k + 1 - (xs.length + 1) = 0 := by omega
      have d1 : ¬ xs.length < k := by omega
      have d2 : ¬ xs.length < k + 1 := by omega
      have hst : mrB (xs.take (k + 1)) = .sl false 1 ((xs.take k).map row ++ [row xs[k]]) := by rw [List.take_succ_eq_append_getElem hkn, mrB_snoc]
      have hln : (xs.take k).length = k := by simp; omega
      have hfl := hfx _ (List.getElem_mem hkn)
      have hbb : k + 1 ≤ 4611686018427387904 ∧ (k + 1) * 24 ≤ 140737488355328 := by omega
      have hrow : row xs[k] = .sl false 1 (xs[k].2.map int) := by unfold row; rw [hfl]
      rw [hrow] at hst
      generalize rtx xs[k] = u at *
      cases k with
      | zero =>
        simp at hst
        simp [List.range, List.range.loop, ints, intss, int, bool, row, frac, fracs, ← List.map_take, ← List.map_drop, str, hk, hkW, hNW, hWk, p1, p2, p3, z1, z2, d1, d2, hst, mrB_nil, hbb]
        exact wrapI (by omega) (by omega)
      | succ k =>
        have hne : xs.take (k + 1) ≠ [] := by intro e; rw [e] at hln; simp at hln
        simp [List.range, List.range.loop, ints, intss, int, bool, row, frac, fracs, ← List.map_take, ← List.map_drop, str, hk, hkW, hNW, hwk, hWk, p1, p2, p3, z1, z2, d1, d2, hst, mrB_nil, mrB_ne hne, hln, hbb]
        exact wrapI (by omega) (by omega)
    · subst hkn
      have hW2 : W[xs.length] = ⟨#[124]⟩ := by rw [List.getElem?_eq_getElem hkW] at hW2; exact Option.some.inj hW2
      have z1 : xs.length - (xs.length + 1) = 0 := by omega
      have z2 : xs.length + 1 - (xs.length + 1) = 0 := by omega
      have t1 : xs.take (xs.length + 1) = xs := List.take_of_length_le (by omega)
      simp [List.range, List.range.loop, ints, intss, int, bool, row, frac, fracs, ← List.map_take, ← List.map_drop, str, hk, hkW, hNW, hwk, hW2, hb, z1, z2, t1, mrB_nil, mrB_ne hx0]
      done
    · obtain ⟨j, hj0⟩ : ∃ j, k = xs.length + 1 + j := ⟨k - (xs.length + 1), by omega⟩
      have hj : j < ys.length := by omega
      obtain ⟨p1, p2, p3⟩ := prk_rtx (h5 _ (List.getElem_mem hj))
      have hWk : W[k] = rtx ys[j] := by have := hW3 j hj; rw [← hj0, List.getElem?_eq_getElem hkW] at this; exact Option.some.inj this
      have z1 : k - (xs.length + 1) = j := by omega
      have z2 : k + 1 - (xs.length + 1) = j + 1 := by omega
      have t1 : xs.take k = xs := List.take_of_length_le (by omega)
      have t2 : xs.take (k + 1) = xs := List.take_of_length_le (by omega)
      have d1 : xs.length < k := by omega
      have d2 : xs.length < k + 1 := by omega
      have hst : mrB (ys.take (j + 1)) = .sl false 1 ((ys.take j).map row ++ [row ys[j]]) := by rw [List.take_succ_eq_append_getElem hj, mrB_snoc]
      have hln : (ys.take j).length = j := by simp; omega
      have hfl := hfy _ (List.getElem_mem hj)
      have hbb : j + 1 ≤ 4611686018427387904 ∧ (j + 1) * 24 ≤ 140737488355328 := by omega
      have hrow : row ys[j] = .sl false 1 (ys[j].2.map int) := by unfold row; rw [hfl]
      rw [hrow] at hst
      generalize rtx ys[j] = u at *
      cases j with
      | zero =>
        simp at hst
        simp [List.range, List.range.loop, ints, intss, int, bool, row, frac, fracs, ← List.map_take, ← List.map_drop, str, hk, hkW, hNW, hwk, hWk, p1, p2, p3, z1, z2, t1, t2, d1, d2, hst, mrB_nil, mrB_ne hx0, hbb]
        done
      | succ j =>
        have hne : ys.take (j + 1) ≠ [] := by intro e; rw [e] at hln; simp at hln
        simp [List.range, List.range.loop, ints, intss, int, bool, row, frac, fracs, ← List.map_take, ← List.map_drop, str, hk, hkW, hNW, hwk, hWk, p1, p2, p3, z1, z2, t1, t2, d1, d2, hst, mrB_ne hne, mrB_ne hx0, hln, hbb]
        done
  · intro _
    have z1 : N - (xs.length + 1) = ys.length := by omega
    have t1 : xs.take N = xs := List.take_of_length_le (by omega)
    have t2 : ys.take ys.length = ys := List.take_length
    have hx0 : xs ≠ [] := by intro e; rw [e] at h1; simp at h1
    have hy0 : ys ≠ [] := by intro e; rw [e] at h3; simp at h3; omega
    simp [List.range, List.range.loop, ints, intss, int, bool, row, frac, fracs, ← List.map_take, ← List.map_drop, str, z1, t1, t2, mrB_ne hx0, mrB_ne hy0, hmr, hfm, mkt]
    done
end Go.Proofs.YtkfmhpgnhkdebaaGreatDoor.Ax
namespace Go.Proofs.YtkfmhpgnhkdebaaGreatDoor.Ax
open Go Go.RowKit
set_option linter.unusedSimpArgs false
def mwN (by' : List Int) (s : Int × Int) (m : Nat) : Nat := (1 + bw by' s m).toNat
theorem mwN_bd {by' : List Int} {s : Int × Int} {m : Nat} (h : 0 < m) : 1 ≤ mwN by' s m ∧ mwN by' s m ≤ m ∧ 1 + bw by' s m = (mwN by' s m : Int) := by
  have := bw_bd (by' := by') (s := s) (n := m) h
  unfold mwN; omega
def mwR (by' : List Int) (s : Int × Int) (n i : Nat) : Bool × List Int := (false, rkD by' (crN by' s (i * (n - 1))) n (n - 1))
def mwD (by' : List Int) (s : Int × Int) (n k : Nat) : List (Bool × List Int) := (List.range k).map (mwR by' s n)
theorem mwD_succ {by' : List Int} {s : Int × Int} {n k : Nat} : mwD by' s n (k + 1) = mwD by' s n k ++ [mwR by' s n k] := by unfold mwD; rw [List.range_succ, List.map_append]; rfl
theorem mwD_len {by' : List Int} {s : Int × Int} {n k : Nat} : (mwD by' s n k).length = k := by simp [mwD]
theorem mwD_ok {by' : List Int} {s : Int × Int} {n : Nat} (h1 : 1 ≤ n) (h5 : n ≤ 5) : ∀ r ∈ mwD by' s n n, r.1 = false ∧ rankB n r.2 = true := fun r hr => by
  obtain ⟨i, _, rfl⟩ := List.mem_map.1 hr
  exact ⟨rfl, rkD_rank h1 h5⟩
def cyE (n c a b : Nat) : Int := ((a : Int) + (b : Int) + (c : Int)).tmod (n : Int)
def cyM (n c : Nat) (R : List (Bool × List Int)) (i j : Nat) : List (Bool × List Int) := (List.range n).map fun a => (false, (List.range n).map fun b => if a < i ∨ (a = i ∧ b < j) then cyE n c a b else at0 (R.getD a (false, [])).2 b)
theorem cyM_len {n c : Nat} {R : List (Bool × List Int)} {i j : Nat} : (cyM n c R i j).length = n := by simp [cyM]
def cyY (n c : Nat) (R : List (Bool × List Int)) (i j : Nat) : List Int := (List.range n).map fun b => if b < j then cyE n c i b else at0 (R.getD i (false, [])).2 b
theorem cyY_len {n c : Nat} {R : List (Bool × List Int)} {i j : Nat} : (cyY n c R i j).length = n := by simp [cyY]
theorem cyM_at {n c : Nat} {R : List (Bool × List Int)} {i j : Nat} (hi : i < n) : (cyM n c R i j)[i]? = some (false, cyY n c R i j) := by
  unfold cyM cyY
  simp [hi]
theorem cyM_zero {n c : Nat} {R : List (Bool × List Int)} (hl : R.length = n) (hr : ∀ r ∈ R, r.1 = false ∧ r.2.length = n) : cyM n c R 0 0 = R := by
  apply List.ext_getElem
  · simp [cyM, hl]
  · intro a h1 h2
    have hra := hr R[a] (List.getElem_mem h2)
    have e : R[a] = (false, R[a].2) := by rw [← hra.1]
    rw [e]
    simp only [cyM, List.getElem_map, List.getElem_range, Nat.not_lt_zero, and_false, or_false, if_false, Prod.mk.injEq, true_and]
    apply List.ext_getElem
    · simp [hra.2]
    · intro b h3 h4
      simp only [List.getElem_map, List.getElem_range, List.getD_eq_getElem?_getD, List.getElem?_eq_getElem h2, Option.getD_some]
      rw [at0_eq h4]
theorem cyM_row {n c : Nat} {R : List (Bool × List Int)} {i : Nat} : cyM n c R i n = cyM n c R (i + 1) 0 := by
  unfold cyM
  refine List.map_congr_left fun a ha => ?_
  simp only [Prod.mk.injEq, true_and]
  refine List.map_congr_left fun b hb => ?_
  rw [List.mem_range] at ha hb
  congr 1
  simp only [eq_iff_iff]
  omega
theorem cyY_set {n c : Nat} {R : List (Bool × List Int)} {i j : Nat} (hj : j < n) : (cyY n c R i j).set j (cyE n c i j) = cyY n c R i (j + 1) := by
  apply List.ext_getElem
  · simp [cyY]
  · intro b h1 h2
    rw [List.getElem_set]
    simp only [cyY, List.getElem_map, List.getElem_range]
    by_cases e : j = b
    · subst e; simp
    · rw [if_neg e]
      by_cases hb : b < j
      · rw [if_pos hb, if_pos (by omega)]
      · rw [if_neg hb, if_neg (by omega)]
theorem cyM_set {n c : Nat} {R : List (Bool × List Int)} {i j : Nat} (hi : i < n) : (cyM n c R i j).set i (false, cyY n c R i (j + 1)) = cyM n c R i (j + 1) := by
  apply List.ext_getElem
  · simp [cyM]
  · intro a h1 h2
    rw [List.getElem_set]
    by_cases e : i = a
    · subst e
      rw [if_pos rfl]
      have := cyM_at (c := c) (R := R) (j := j + 1) hi
      rw [List.getElem?_eq_getElem (by rw [cyM_len]; exact hi)] at this
      exact (Option.some.inj this).symm
    · rw [if_neg e]
      simp only [cyM, List.getElem_map, List.getElem_range, Prod.mk.injEq, true_and]
      refine List.map_congr_left fun b _ => ?_
      congr 1
      simp only [eq_iff_iff]
      omega
theorem cyM_map {n c : Nat} {R : List (Bool × List Int)} {i j : Nat} (hi : i < n) (hj : j < n) : ((cyM n c R i j).map row).set i (.sl false 1 (((cyY n c R i j).map int).set j (.v (.int .i64 (cyE n c i j))))) = (cyM n c R i (j + 1)).map row := by
  have h1 : ((cyY n c R i j).map int).set j (.v (.int .i64 (cyE n c i j))) = (cyY n c R i (j + 1)).map int := by
    rw [← cyY_set hj, List.map_set]; rfl
  rw [h1, ← cyM_set hi, List.map_set]; rfl
theorem cy_rank1 : ((List.range 6).all fun n => (List.range 6).all fun c => (List.range 5).all fun a => n == 0 || decide (n ≤ a) || decide (2 ≤ c) || rankB n ((List.range n).map fun b => cyE n c a b)) = true := by decide +kernel
theorem cyM_ok {n c : Nat} {R : List (Bool × List Int)} (h1 : 1 ≤ n) (h5 : n ≤ 5) (hc : c ≤ 1) : ∀ r ∈ cyM n c R n 0, r.1 = false ∧ rankB n r.2 = true := fun r hr => by
  obtain ⟨a, ha, rfl⟩ := List.mem_map.1 hr
  rw [List.mem_range] at ha
  refine ⟨rfl, ?_⟩
  have := List.all_eq_true.1 (List.all_eq_true.1 (List.all_eq_true.1 cy_rank1 n (List.mem_range.2 (by omega))) c (List.mem_range.2 (by omega))) a (List.mem_range.2 (by omega))
  simp only [Bool.or_eq_true, beq_iff_eq, decide_eq_true_eq] at this
  have key : rankB n ((List.range n).map fun b => cyE n c a b) = true := by
    rcases this with ((h | h) | h) | h
    · omega
    · omega
    · omega
    · exact h
  have e : ((List.range n).map fun b => if a < n ∨ (a = n ∧ b < 0) then cyE n c a b else at0 (R.getD a (false, [])).2 b) = (List.range n).map fun b => cyE n c a b := List.map_congr_left fun b _ => by rw [if_pos (.inl ha)]
  show rankB n ((List.range n).map fun b => if a < n ∨ (a = n ∧ b < 0) then cyE n c a b else at0 (R.getD a (false, [])).2 b) = true
  rw [e]
  exact key
def mwS2 (by' : List Int) (s : Int × Int) (n : Nat) : Int × Int := crN by' s (1 + n * (n - 1))
def mwS3 (by' : List Int) (s : Int × Int) (n : Nat) : Int × Int := crN by' s (1 + n * (n - 1) + n * (n - 1))
def mwA (by' : List Int) (s : Int × Int) (n : Nat) : List (Bool × List Int) := mwD by' (crN by' s 1) n n
def mwB (by' : List Int) (s : Int × Int) (n : Nat) : List (Bool × List Int) := mwD by' (mwS2 by' s n) n n
def mwC (by' : List Int) (s : Int × Int) (n : Nat) : Bool := decide (1 < n) && decide (bw by' (mwS3 by' s n) 3 = 0)
def mwX (by' : List Int) (s : Int × Int) (n : Nat) : List (Bool × List Int) := if mwC by' s n = true then cyM n 0 (mwA by' s n) n 0 else mwA by' s n
def mwY (by' : List Int) (s : Int × Int) (n : Nat) : List (Bool × List Int) := if mwC by' s n = true then cyM n 1 (mwB by' s n) n 0 else mwB by' s n
def mwZ (by' : List Int) (s : Int × Int) (n : Nat) : Int × Int := if 1 < n then crS by' (mwS3 by' s n) else mwS3 by' s n
theorem mw_ok {by' : List Int} {s : Int × Int} {n : Nat} (h1 : 1 ≤ n) (h5 : n ≤ 5) : pmOk (mwX by' s n) (mwY by' s n) ∧ (mwX by' s n).length = n ∧ (mwY by' s n).length = n := by
  have ha : (mwX by' s n).length = n ∧ ∀ r ∈ mwX by' s n, r.1 = false ∧ rankB n r.2 = true := by
    unfold mwX
    split
    · exact ⟨cyM_len, cyM_ok h1 h5 (by omega)⟩
    · exact ⟨mwD_len, mwD_ok h1 h5⟩
  have hb : (mwY by' s n).length = n ∧ ∀ r ∈ mwY by' s n, r.1 = false ∧ rankB n r.2 = true := by
    unfold mwY
    split
    · exact ⟨cyM_len, cyM_ok h1 h5 (by omega)⟩
    · exact ⟨mwD_len, mwD_ok h1 h5⟩
  refine ⟨⟨?_, fun r hr => (ha.2 r hr).1, fun r hr => (hb.2 r hr).1⟩, ha.1, hb.1⟩
  simp only [marB, Bool.and_eq_true, inR_iff, decide_eq_true_eq, ranksB, List.all_eq_true, ha.1, hb.1]
  exact ⟨⟨⟨by omega, trivial⟩, fun r hr => (ha.2 r hr).2⟩, fun r hr => (hb.2 r hr).2⟩
end Go.Proofs.YtkfmhpgnhkdebaaGreatDoor.Ax
