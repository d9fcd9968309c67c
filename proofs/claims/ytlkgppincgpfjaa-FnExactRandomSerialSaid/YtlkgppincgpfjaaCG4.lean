/-
  Valid fractions of at least 0 that come to 1 are at most 1 each; LotteryOk of the reference. No condition.
-/
import Derived.Test.YtlkgppincgpfjaaCG3
import Derived.Test.YtlkgppincgpfjaaCG1
import Derived.Test.YtlkgppincgpfjaaCG2
import Derived.Test.YtlkgppincgpfjaaCB2
namespace Go.Proofs.Ytlkgppincgpfjaa.Ax
open Go Go.RowKit
set_option linter.unusedSimpArgs false

def val (x : Int × Int) : Rat := Rat.divInt x.1 x.2

theorem mkF_val {t b : Int} (hb : 0 < b) (h : (mkF t b).2 = true) : val (mkF t b).1 = Rat.divInt t b ∧ fracOk (mkF t b).1 = true := by
  unfold mkF at h ⊢
  split at h
  · rename_i hf
    rw [if_pos hf]
    obtain ⟨g1, g2⟩ := gcd_bd (x := t) (y := b) (by omega)
    refine ⟨?_, hf⟩
    unfold val
    simp only
    have e1 : (Int.gcd t b : Int) * t.tdiv (Int.gcd t b) = t := Int.mul_tdiv_cancel' (Int.gcd_dvd_left ..)
    have e2 : (Int.gcd t b : Int) * b.tdiv (Int.gcd t b) = b := Int.mul_tdiv_cancel' (Int.gcd_dvd_right ..)
    have := Rat.divInt_mul_left (n := t.tdiv (Int.gcd t b)) (d := b.tdiv (Int.gcd t b)) (a := (Int.gcd t b : Int)) (by omega)
    rw [e1, e2] at this
    exact this.symm
  · simp at h

theorem addF_val {x y : Int × Int} (h : (addF x y).2 = true) : fracOk x = true ∧ fracOk y = true ∧ fracOk (addF x y).1 = true ∧ val (addF x y).1 = val x + val y := by
  unfold addF at h ⊢
  split at h
  · rename_i hxy
    rw [if_pos hxy]
    simp only [Bool.and_eq_true] at hxy
    have b1 := fracOk_bd hxy.1
    have b2 := fracOk_bd hxy.2
    have hp := mul_pos1 (x := x.2) (y := y.2) (by omega) (by omega)
    obtain ⟨h1, h2⟩ := mkF_val hp h
    refine ⟨hxy.1, hxy.2, h2, ?_⟩
    rw [h1]; unfold val
    rw [Rat.divInt_add_divInt _ _ (by omega) (by omega)]
  · simp at h

theorem val_nn {x : Int × Int} (h : fracOk x = true) (h0 : 0 ≤ x.1) : 0 ≤ val x := by
  have b := fracOk_bd h
  exact Rat.divInt_nonneg h0 (by omega)
theorem val_le1 {x : Int × Int} (h : fracOk x = true) (h1 : val x ≤ 1) : x.1 ≤ x.2 := by
  have b := fracOk_bd h
  rw [Rat.le_iff_sub_nonneg] at h1
  have e : (1 : Rat) = Rat.divInt 1 1 := rfl
  unfold val at h1
  rw [e, Rat.divInt_sub_divInt _ _ (by omega) (by omega), Rat.divInt_nonneg_iff_of_pos_right (by omega)] at h1
  omega

theorem sumTo_ok {fs : List (Int × Int)} {n : Nat} (h : (sumTo fs n).2 = true) : ∀ k, k ≤ n → (sumTo fs k).2 = true := fun k hk => by
  by_cases hb : (sumTo fs k).2 = true
  · exact hb
  · have hb' : (sumTo fs k).2 = false := by simpa using hb
    rcases sumTo_false hb' n hk with h1 | ⟨rfl, h1⟩
    · rw [h1] at h; simp at h
    · exact hb'.symm ▸ (by rw [h1] at h; simp at h)
theorem sumTo_step {fs : List (Int × Int)} {n k : Nat} (h : (sumTo fs n).2 = true) (hk : k < n) : val (sumTo fs (k + 1)).1 = val (sumTo fs k).1 + val (fs.getD k (0, 0)) := by
  have h1 := sumTo_ok h (k + 1) hk
  have h0 := sumTo_ok h k (by omega)
  rw [sumTo, if_pos h0] at h1 ⊢
  exact (addF_val h1).2.2.2
theorem sumTo_mono {fs : List (Int × Int)} (hn : ∀ f ∈ fs, fracOk f = true ∧ 0 ≤ f.1) {n : Nat} (hl : n ≤ fs.length) (h : (sumTo fs n).2 = true) : ∀ j k, k + j ≤ n → val (sumTo fs k).1 ≤ val (sumTo fs (k + j)).1
  | 0, k, _ => by simp [Rat.le_refl]
  | j + 1, k, hk => by
    have ih := sumTo_mono hn hl h j k (by omega)
    have hs := sumTo_step h (k := k + j) (by omega)
    have hm : fs.getD (k + j) (0, 0) ∈ fs := by
      have hlt : k + j < fs.length := by omega
      have : fs.getD (k + j) (0, 0) = fs[k + j] := by simp [List.getD_eq_getElem?_getD, hlt]
      rw [this]; exact List.getElem_mem _
    have hv := val_nn (hn _ hm).1 (hn _ hm).2
    rw [show k + (j + 1) = k + j + 1 by omega, hs]
    grind

theorem whole_part {fs : List (Int × Int)} (hw : wholeB fs = true) (hn : ∀ f ∈ fs, fracOk f = true ∧ 0 ≤ f.1) : ∀ f ∈ fs, partB f = true := by
  intro f hf
  obtain ⟨k, hk, rfl⟩ := List.getElem_of_mem hf
  simp only [wholeB, Bool.and_eq_true, decide_eq_true_eq] at hw
  obtain ⟨h1, h2⟩ := hw
  simp only [List.cons.injEq, and_true] at h2
  unfold sumF at h1 h2
  split at h1
  · simp at h1
  · rename_i hlen
    rw [if_neg hlen] at h2
    have hs := sumTo_step h1 hk
    have m1 := sumTo_mono hn (Nat.le_refl _) h1 k 0 (by omega)
    have m2 := sumTo_mono hn (Nat.le_refl _) h1 (fs.length - (k + 1)) (k + 1) (by omega)
    rw [show k + 1 + (fs.length - (k + 1)) = fs.length by omega] at m2
    have e : fs.getD k (0, 0) = fs[k] := by simp [List.getD_eq_getElem?_getD, hk]
    rw [e] at hs
    have z : val (sumTo fs 0).1 = 0 := by simp [sumTo, val]
    have one : val (sumTo fs fs.length).1 = 1 := by
      have : (sumTo fs fs.length).1 = (1, 1) := Prod.ext h2.1 h2.2
      rw [this]; rfl
    rw [Nat.zero_add] at m1
    have hle : val fs[k] ≤ 1 := by grind
    have := val_le1 (hn _ hf).1 hle
    simp only [partB, (hn _ hf).1, inR, Bool.true_and, Bool.and_eq_true, decide_eq_true_eq]
    exact ⟨(hn _ hf).2, this⟩

def posF (f : Int × Int) : Bool := fracOk f && decide (0 ≤ f.1)
def posRow (m : List (Bool × List (Int × Int))) (i : Nat) : Bool := decide ((m.getD i (true, [])).2.length = m.length) && (m.getD i (true, [])).2.all posF

theorem allR_at {n k : Nat} {f : Nat → Bool} (h : allR n f = true) (hk : k < n) : f k = true := by
  unfold allR at h; rw [List.all_eq_true] at h; exact h k (by simpa using hk)

theorem lot_eq {m : List (Bool × List (Int × Int))} : (allR m.length (partRow m) && allR m.length (sumRow m)) = (allR m.length (posRow m) && allR m.length (sumRow m)) := by
  rw [Bool.eq_iff_iff]
  simp only [Bool.and_eq_true]
  constructor
  · rintro ⟨h1, h2⟩
    refine ⟨allR_yes fun i hi => ?_, h2⟩
    have := allR_at h1 hi
    simp only [partRow, posRow, Bool.and_eq_true, List.all_eq_true] at this ⊢
    refine ⟨this.1, fun f hf => ?_⟩
    have := this.2 f hf
    simp only [partB, posF, inR, Bool.and_eq_true, decide_eq_true_eq] at this ⊢
    exact ⟨this.1, this.2.1⟩
  · rintro ⟨h1, h2⟩
    refine ⟨allR_yes fun i hi => ?_, h2⟩
    have a := allR_at h1 hi
    have b := allR_at h2 hi
    simp only [partRow, posRow, sumRow, Bool.and_eq_true, List.all_eq_true] at a b ⊢
    exact ⟨a.1, whole_part b.1 fun f hf => by have := a.2 f hf; simpa [posF] using this⟩

set_option maxHeartbeats 4000000 in
theorem specLot_ok : FnOk Try.prog 49 mLot := by
  refine mk_ok fun ⟨nl, m⟩ _ => ?_
  have hG : FnsOk Try.prog [(41, mWithin), (47, mFracOk), (68, mSumF)] := (.cons l01In_ok (.cons specFractionOk_ok (.cons specSumF_ok .nil)))
  refine callOk_awp (ctx_ok eqOk hG) mixed (live := [true, false, true, true, false, true, false, true, true, true, true, true, false, true, true, true, true, true, false, false, false, false, true, true, true, true, true, false, false, false, false, false, true, true, true, true, true, false, false, false, false, false, false, false, false, false, true, false, false, false, true, true, true, true, false, false, false, false, true, true, true, true, false, false, false, false, false, false, false, false, false, false, false, false, false, false, false, false, false, false, false, false, false, false, false, false, false, false, false, false, false, false, false, false, false, false, false, true]) (dt := []) Try.func49 rfl (by kernel_rfl) (by kernel_rfl) fun w0 hlens => ?_
  clear hlens
  cases h1 : inR 1 4 m.length with
  | false => simp (config := {contextual := true}) [Try.f49, List.range, List.range.loop, ints, intss, int, bool, row, frac, fracs, ← List.map_take, ← List.map_drop, fracss, frow, mWithin_in, h1, lotB]
  | true =>
  have hn := h1
  simp only [inR, Bool.and_eq_true, decide_eq_true_eq] at hn
  have hm : lotB m = (allR m.length (posRow m) && allR m.length (sumRow m)) := by rw [← lot_eq]; simp [lotB, h1]
  generalize hres : lotB m = r at hm
  simp (config := {contextual := true}) [Try.f49, List.range, List.range.loop, ints, intss, int, bool, row, frac, fracs, ← List.map_take, ← List.map_drop, fracss, frow, mWithin_in, h1]
  refine awp_range (live := [true, false, true, true, false, true, false, true, true, true, true, true, false, true, true, true, true, true, false, false, false, false, true, true, true, true, true, false, false, false, false, false, true, true, true, true, true, false, false, false, false, false, false, false, false, false, true, false, false, false, true, true, true, true, false, false, false, false, true, true, true, true, false, false, false, false, false, false, false, false, false, false, false, false, false, false, false, false, false, false, false, false, false, false, false, false, false, false, false, false, false, false, false, false, false, false, false, true]) (ctx_ok eqOk hG) mixed [true, false, false, true, false, false, false, false, false, false, false, false, false, false, false, false, false, false, false, false, false, false, false, true, true, true] (m.length) (fun i => upto (posRow m) i) (fun i => ⟨[fracss nl m, .junk, .junk, int m.length, .junk, .junk, .junk, .junk, .junk, .junk, .junk, .junk, .junk, .junk, .junk, .junk, .junk, .junk, .junk, .junk, .junk, .junk, .junk, fracss nl m, int m.length, int i, .junk, .junk, .junk, .junk, .junk, .junk, .junk, .junk, .junk, .junk, .junk, .junk, .junk, .junk, .junk, .junk, .junk, .junk, .junk, .junk, .junk, .junk, .junk, .junk, .junk, .junk, .junk, .junk, .junk, .junk, .junk, .junk, .junk, .junk, .junk, .junk, .junk, .junk, .junk, .junk, .junk, .junk, .junk, .junk, .junk, .junk, .junk, .junk, .junk, .junk, .junk, .junk, .junk, .junk, .junk, .junk, .junk, .junk, .junk, .junk, .junk, .junk, .junk, .junk, .junk, .junk, .junk, .junk, .junk, .junk, .junk, .junk, .junk], []⟩) ?_ (by simp [sub, slotsLe, clean, keep, refsL, refs, once, place, renL, ren, List.replicate, int, bool, fracss]) ?_ ?_ ?_
  · omega
  · exact upto_zero
  · intro i hi hp hw
    have hf : posRow m i = false → r = false := fun hf => by rw [hm, allR_no hi hf]; rfl
    have ht := upto_succ hp
    have e : posRow m i = (decide (m[i].2.length = m.length) && allR m[i].2.length fun j => posF (m[i].2.getD j (0, 0))) := by unfold posRow; rw [getDF hi, all_allF]
    by_cases hl : m[i].2.length = m.length
    · simp (config := {contextual := true}) [List.range, List.range.loop, ints, intss, int, bool, row, frac, fracs, ← List.map_take, ← List.map_drop, fracss, frow, hi, hw, hl]
      generalize hfe : (fun j => posF (m[i].2.getD j (0, 0))) = f at e
      refine awp_range (live := [true, false, true, true, false, true, false, true, true, true, true, true, false, true, true, true, true, true, false, false, false, false, true, true, true, true, true, false, false, false, false, false, true, true, true, true, true, false, false, false, false, false, false, false, false, false, true, false, false, false, true, true, true, true, false, false, false, false, true, true, true, true, false, false, false, false, false, false, false, false, false, false, false, false, false, false, false, false, false, false, false, false, false, false, false, false, false, false, false, false, false, false, false, false, false, false, false, true]) (ctx_ok eqOk hG) mixed [true, false, false, true, false, false, false, false, false, false, false, false, false, false, false, false, false, false, false, false, false, false, false, true, true, true, false, false, false, false, false, false, false, true, true, true] (m[i].2.length) (fun j => upto f j) (fun j => ⟨[fracss nl m, .junk, .junk, int m.length, .junk, .junk, .junk, .junk, .junk, .junk, .junk, .junk, .junk, .junk, .junk, .junk, .junk, .junk, .junk, .junk, .junk, .junk, .junk, fracss nl m, int m.length, int i, .junk, .junk, .junk, .junk, .junk, .junk, .junk, frow m[i], int m[i].2.length, int j, .junk, .junk, .junk, .junk, .junk, .junk, .junk, .junk, .junk, .junk, .junk, .junk, .junk, .junk, .junk, .junk, .junk, .junk, .junk, .junk, .junk, .junk, .junk, .junk, .junk, .junk, .junk, .junk, .junk, .junk, .junk, .junk, .junk, .junk, .junk, .junk, .junk, .junk, .junk, .junk, .junk, .junk, .junk, .junk, .junk, .junk, .junk, .junk, .junk, .junk, .junk, .junk, .junk, .junk, .junk, .junk, .junk, .junk, .junk, .junk, .junk, .junk, .junk], []⟩) ?_ (by simp [sub, slotsLe, clean, keep, refsL, refs, once, place, renL, ren, List.replicate, int, bool, fracss, frow, hl]) ?_ ?_ ?_
      · omega
      · exact upto_zero
      · intro j hj hpj hwj
        have hf2 : f j = false → r = false := fun hg => hf (by rw [e, allR_no hj hg]; simp)
        have ht2 := upto_succ hpj
        have e2 : f j = (fracOk m[i].2[j] && decide (0 ≤ m[i].2[j].1)) := by rw [← hfe]; simp [posF, List.getD_eq_getElem?_getD, hj]
        rw [e2] at hf2 ht2
        simp at hf2 ht2
        have hj' : (j : Int) < (m[i].2.length : Int) := by omega
        simp (config := {contextual := true}) [List.range, List.range.loop, ints, intss, int, bool, row, frac, fracs, ← List.map_take, ← List.map_drop, fracss, frow, mFracOk_at, hj, hj', hwj]
        clear hp hm hG hres e e2 hfe hpj ht hf
        grind
      · intro hpj
        have ht' := ht (by rw [e, allR_yes hpj]; simp [hl])
        simp (config := {contextual := true}) [List.range, List.range.loop, ints, intss, int, bool, row, frac, fracs, ← List.map_take, ← List.map_drop, fracss, frow, hi, hw, ht']
    · have hl' : ((m[i].2.length : Int) != (m.length : Int)) = true := by simp; omega
      have hr0 := hf (by rw [e]; simp [hl])
      subst hr0
      simp (config := {contextual := true}) [List.range, List.range.loop, ints, intss, int, bool, row, frac, fracs, ← List.map_take, ← List.map_drop, fracss, frow, hi, hw, hl, hl']
  · intro hp
    have hlen : ∀ j (hj : j < m.length), m[j].2.length = m.length := fun j hj => by
      have := hp j hj
      unfold posRow at this
      rw [getDF hj] at this
      simp only [Bool.and_eq_true, decide_eq_true_eq] at this
      exact this.1
    rw [allR_yes hp, Bool.true_and] at hm
    simp (config := {contextual := true}) [List.range, List.range.loop, ints, intss, int, bool, row, frac, fracs, ← List.map_take, ← List.map_drop, fracss, frow]
    refine awp_range (live := [true, false, true, true, false, true, false, true, true, true, true, true, false, true, true, true, true, true, false, false, false, false, true, true, true, true, true, false, false, false, false, false, true, true, true, true, true, false, false, false, false, false, false, false, false, false, true, false, false, false, true, true, true, true, false, false, false, false, true, true, true, true, false, false, false, false, false, false, false, false, false, false, false, false, false, false, false, false, false, false, false, false, false, false, false, false, false, false, false, false, false, false, false, false, false, false, false, true]) (ctx_ok eqOk hG) mixed [true, false, false, false, false, false, false, false, true, false, false, false, false, false, false, false, false, false, false, false, false, false, false, false, false, false, false, false, false, false, false, false, false, false, false, false, false, false, false, false, false, false, false, false, false, false, false, false, false, false, true, true, true] (m.length) (fun k => upto (sumRow m) k) (fun k => ⟨[fracss nl m, .junk, .junk, .junk, .junk, .junk, .junk, .junk, .ptr 0 [] 0 0, .junk, .junk, .junk, .junk, .junk, .junk, .junk, .junk, .junk, .junk, .junk, .junk, .junk, .junk, .junk, .junk, .junk, .junk, .junk, .junk, .junk, .junk, .junk, .junk, .junk, .junk, .junk, .junk, .junk, .junk, .junk, .junk, .junk, .junk, .junk, .junk, .junk, .junk, .junk, .junk, .junk, fracss nl m, int m.length, int k, .junk, .junk, .junk, .junk, .junk, .junk, .junk, .junk, .junk, .junk, .junk, .junk, .junk, .junk, .junk, .junk, .junk, .junk, .junk, .junk, .junk, .junk, .junk, .junk, .junk, .junk, .junk, .junk, .junk, .junk, .junk, .junk, .junk, .junk, .junk, .junk, .junk, .junk, .junk, .junk, .junk, .junk, .junk, .junk, .junk, .junk], [⟨true, .sl false 2 [frac (1, 1)]⟩]⟩) ?_ (by simp [sub, slotsLe, clean, keep, refsL, refs, once, place, renL, ren, List.replicate, int, bool, fracss, frac]) ?_ ?_ ?_
    · omega
    · exact upto_zero
    · intro k hk hpk hwk
      have hf : sumRow m k = false → r = false := fun hf => by rw [hm]; exact allR_no hk hf
      have ht := upto_succ hpk
      have e : sumRow m k = (wholeB m[k].2 && wholeB (colTo m k m.length)) := by unfold sumRow; rw [getDF hk]
      simp (config := {contextual := true}) [List.range, List.range.loop, ints, intss, int, bool, row, frac, fracs, ← List.map_take, ← List.map_drop, fracss, frow, hk, hwk]
      refine awp_range (live := [true, false, true, true, false, true, false, true, true, true, true, true, false, true, true, true, true, true, false, false, false, false, true, true, true, true, true, false, false, false, false, false, true, true, true, true, true, false, false, false, false, false, false, false, false, false, true, false, false, false, true, true, true, true, false, false, false, false, true, true, true, true, false, false, false, false, false, false, false, false, false, false, false, false, false, false, false, false, false, false, false, false, false, false, false, false, false, false, false, false, false, false, false, false, false, false, false, true]) (ctx_ok eqOk hG) mixed [true, false, false, false, false, false, false, false, true, true, true, true, false, false, false, false, false, false, false, false, false, false, false, false, false, false, false, false, false, false, false, false, false, false, false, false, false, false, false, false, false, false, false, false, false, false, false, false, false, false, true, true, true, false, false, false, false, false, true, true, true] (m.length) (fun j => True) (fun j => ⟨[fracss nl m, .junk, .junk, .junk, .junk, .junk, .junk, .junk, .ptr 0 [] 0 0, int k, frow m[k], .ref 1 [] 0 j, .junk, .junk, .junk, .junk, .junk, .junk, .junk, .junk, .junk, .junk, .junk, .junk, .junk, .junk, .junk, .junk, .junk, .junk, .junk, .junk, .junk, .junk, .junk, .junk, .junk, .junk, .junk, .junk, .junk, .junk, .junk, .junk, .junk, .junk, .junk, .junk, .junk, .junk, fracss nl m, int m.length, int k, .junk, .junk, .junk, .junk, .junk, fracss nl m, int m.length, int j, .junk, .junk, .junk, .junk, .junk, .junk, .junk, .junk, .junk, .junk, .junk, .junk, .junk, .junk, .junk, .junk, .junk, .junk, .junk, .junk, .junk, .junk, .junk, .junk, .junk, .junk, .junk, .junk, .junk, .junk, .junk, .junk, .junk, .junk, .junk, .junk, .junk, .junk], [⟨true, .sl false 2 [frac (1, 1)]⟩, ⟨true, .sl false 2 ((colTo m k j).map frac)⟩]⟩) ?_ (by simp [sub, slotsLe, clean, keep, refsL, refs, once, place, renL, ren, List.replicate, int, bool, fracss, frow, frac, colTo_zero]) ?_ ?_ ?_
      · omega
      · trivial
      · intro j hj _ hwj
        have hkj : k < m[j].2.length := by rw [hlen j hj]; exact hk
        have c3 := colTo_succ hj hkj
        have c1 := colTo_len (m := m) (k := k) (j := j) (by omega)
        have q1 : (j + 1) * 16 ≤ 140737488355328 := by omega
        have q2 : j + 1 ≤ 4611686018427387904 := by omega
        simp (config := {contextual := true}) [List.range, List.range.loop, ints, intss, int, bool, row, frac, fracs, ← List.map_take, ← List.map_drop, fracss, frow, hj, hwj, hkj, c1, c3, q1, q2]
      · intro _
        have c1 := colTo_len (m := m) (k := k) (j := m.length) (by omega)
        have z1 := mSumF_at m[k].1 m[k].2
        have z2 := mSumF_at false (colTo m k m.length)
        have tk : List.take m.length (colTo m k m.length) = colTo m k m.length := List.take_of_length_le (by omega)
        rw [e] at hf ht
        simp only [wholeB] at hf ht
        generalize sumF m[k].2 = a at *
        generalize sumF (colTo m k m.length) = b at *
        obtain ⟨⟨a1, a2⟩, a3⟩ := a
        obtain ⟨⟨b1, b2⟩, b3⟩ := b
        simp only at hf ht z1 z2
        generalize colTo m k m.length = cc at *
        by_cases ha : a3 = true ∧ a1 = 1 ∧ a2 = 1
        · obtain ⟨rfl, rfl, rfl⟩ := ha
          by_cases hb : b3 = true ∧ b1 = 1 ∧ b2 = 1
          · obtain ⟨rfl, rfl, rfl⟩ := hb
            simp at ht
            simp (config := {contextual := true}) [List.range, List.range.loop, ints, intss, int, bool, row, frac, fracs, ← List.map_take, ← List.map_drop, fracss, frow, hk, hwk, z1, z2, c1, tk, ht]
          · have hr0 := hf (by simp; intro h1 h2; by_cases h3 : b2 = 1; exact absurd ⟨h1, h2, h3⟩ hb; exact h3)
            subst hr0
            cases b3 <;> simp (config := {contextual := true}) [List.range, List.range.loop, ints, intss, int, bool, row, frac, fracs, ← List.map_take, ← List.map_drop, fracss, frow, hk, hwk, z1, z2, c1, tk]
            exact fun p q => absurd ⟨rfl, p, q⟩ hb
        · have hr0 := hf (by simp; intro h1 h2 h3; exact absurd ⟨h1, h2, h3⟩ ha)
          subst hr0
          cases a3 with
          | false => cases b3 <;> simp (config := {contextual := true}) [List.range, List.range.loop, ints, intss, int, bool, row, frac, fracs, ← List.map_take, ← List.map_drop, fracss, frow, hk, hwk, z1, z2, c1, tk]
          | true =>
            have q : a1 = 1 → a2 ≠ 1 := fun p q => ha ⟨rfl, p, q⟩
            cases b3 with
            | false => simp (config := {contextual := true}) [List.range, List.range.loop, ints, intss, int, bool, row, frac, fracs, ← List.map_take, ← List.map_drop, fracss, frow, hk, hwk, z1, z2, c1, tk]
            | true =>
              by_cases p : a1 = 1
              · have q' := q p
                subst p
                simp (config := {contextual := true}) [List.range, List.range.loop, ints, intss, int, bool, row, frac, fracs, ← List.map_take, ← List.map_drop, fracss, frow, hk, hwk, z1, z2, c1, tk, q']
              · simp (config := {contextual := true}) [List.range, List.range.loop, ints, intss, int, bool, row, frac, fracs, ← List.map_take, ← List.map_drop, fracss, frow, hk, hwk, z1, z2, c1, tk, p]
    · intro hpk
      rw [allR_yes hpk] at hm
      subst hm
      simp (config := {contextual := true}) [List.range, List.range.loop, ints, intss, int, bool, row, frac, fracs, ← List.map_take, ← List.map_drop, fracss, frow]

end Go.Proofs.Ytlkgppincgpfjaa.Ax

/-
  Plain laws on fractions: parts of 1, differences, products, the points of an heir. No condition.
-/
namespace Go.Proofs.Ytlkgppincgpfjaa.Ax
open Go Go.RowKit
set_option linter.unusedSimpArgs false

theorem fracOk_gcd {t b : Int} (h : fracOk (t, b) = true) : Int.gcd t b = 1 := by
  simp only [fracOk, Bool.and_eq_true, decide_eq_true_eq] at h; exact h.2
theorem part_facts {t b : Int} (h : partB (t, b) = true) : fracOk (t, b) = true ∧ 0 ≤ t ∧ t ≤ b ∧ 1 ≤ b ∧ b ≤ 1000000000 := by
  simp only [partB, inR, Bool.and_eq_true, decide_eq_true_eq] at h
  have := fracOk_bd h.1
  simp only at this
  exact ⟨h.1, h.2.1, h.2.2, by omega, by omega⟩
theorem part_zero {t b : Int} (h : partB (t, b) = true) : (t = 0 ∧ b = 1) ↔ ¬ 0 < t := by
  obtain ⟨h1, h2, h3, h4, h5⟩ := part_facts h
  have hg := fracOk_gcd h1
  constructor
  · rintro ⟨rfl, rfl⟩; omega
  · intro hn
    have : t = 0 := by omega
    subst this
    rw [Int.gcd_zero_left] at hg
    exact ⟨rfl, by omega⟩
theorem part_one {t b : Int} (h : partB (t, b) = true) : (t = 1 ∧ b = 1) ↔ ¬ t < b := by
  obtain ⟨h1, h2, h3, h4, h5⟩ := part_facts h
  have hg := fracOk_gcd h1
  constructor
  · rintro ⟨rfl, rfl⟩; omega
  · intro hn
    have : t = b := by omega
    subst this
    rw [Int.gcd_self] at hg
    exact ⟨by omega, by omega⟩

theorem mkF_self {t b : Int} (h : fracOk (t, b) = true) : mkF t b = ((t, b), true) := by
  unfold mkF
  rw [fracOk_gcd h]
  simp [h]
theorem fracOk_mk {t b : Int} (h1 : -1000000000 ≤ t) (h2 : t ≤ 1000000000) (h3 : 1 ≤ b) (h4 : b ≤ 1000000000) (h : Int.gcd t b = 1) : fracOk (t, b) = true := by
  simp [fracOk, h1, h2, h3, h4, h]
theorem fracOk_neg {t b : Int} : fracOk (-t, b) = fracOk (t, b) := by
  rw [Bool.eq_iff_iff]
  simp only [fracOk, Bool.and_eq_true, decide_eq_true_eq, Int.neg_gcd]
  constructor <;> rintro ⟨⟨⟨h1, h2⟩, h3⟩, h4⟩ <;> exact ⟨⟨⟨by omega, by omega⟩, h3⟩, h4⟩
/-- The difference of two fractions, and whether it is valid. -/
def subF (x y : Int × Int) : (Int × Int) × Bool := addF x (-y.1, y.2)
theorem sub_part {t b : Int} (h : partB (t, b) = true) : subF (1, 1) (t, b) = ((b - t, b), true) ∧ partB (b - t, b) = true := by
  obtain ⟨h1, h2, h3, h4, h5⟩ := part_facts h
  have hg := fracOk_gcd h1
  have hg2 : Int.gcd (b - t) b = 1 := by
    rw [Int.gcd_self_sub_left]; exact hg
  have hok := fracOk_mk (t := b - t) (b := b) (by omega) (by omega) h4 h5 hg2
  refine ⟨?_, by simp only [partB, hok, inR]; simp; omega⟩
  unfold subF addF
  have e1 : fracOk (1, 1) = true := by decide
  have e2 : fracOk (-t, b) = true := by rw [fracOk_neg]; exact h1
  simp only [e1, e2, Bool.and_true, if_true]
  rw [show 1 * b + -t * 1 = b - t by omega, show 1 * b = b by omega]
  exact mkF_self hok

/-- The product of two fractions, and whether it is valid. -/
def mulF (x y : Int × Int) : (Int × Int) × Bool := if fracOk x && fracOk y then mkF (x.1 * y.1) (x.2 * y.2) else ((0, 0), false)
theorem mulF_no {x y : Int × Int} (h : (mulF x y).2 = false) : mulF x y = ((0, 0), false) := by
  unfold mulF mkF at h ⊢
  split
  · rename_i h1
    rw [if_pos h1] at h
    split
    · rename_i h2; rw [if_pos h2] at h; simp at h
    · rfl
  · rfl

/-- -1, 0, 1 as two fractions compare; -2 if one is not valid. -/
def cmpF (x y : Int × Int) : Int := if fracOk x && fracOk y then (if x.1 * y.2 < y.1 * x.2 then -1 else if y.1 * x.2 < x.1 * y.2 then 1 else 0) else -2

/-- An heir's part of a thing, from the first heir's part. -/
def turnF (who : Int) (f : Int × Int) : Int × Int := if who = 1 then (f.2 - f.1, f.2) else f
/-- The points of an heir for the first k things, and whether all sums up to there are valid. -/
def heirTo (xss : List (Bool × List Int)) (fs : List (Int × Int)) (who : Int) : Nat → (Int × Int) × Bool
  | 0 => ((0, 1), true)
  | k + 1 => if (heirTo xss fs who k).2 && (mulF (ent xss who.toNat k, 1) (turnF who (fs.getD k (0, 0)))).2 then addF (heirTo xss fs who k).1 (mulF (ent xss who.toNat k, 1) (turnF who (fs.getD k (0, 0)))).1 else ((0, 0), false)
def heirF (xss : List (Bool × List Int)) (fs : List (Int × Int)) (who : Int) : (Int × Int) × Bool := if sharesB xss fs && inR 0 1 who then heirTo xss fs who fs.length else ((0, 0), false)
theorem heirTo_false {xss : List (Bool × List Int)} {fs : List (Int × Int)} {who : Int} {k : Nat} (h : (heirTo xss fs who k).2 = false) : ∀ n, k < n → heirTo xss fs who n = ((0, 0), false)
  | 0, hn => by omega
  | n + 1, hn => by
    by_cases e : k = n
    · subst e; rw [heirTo, h]; simp
    · rw [heirTo, heirTo_false h n (by omega)]; simp
theorem heirTo_bad {xss : List (Bool × List Int)} {fs : List (Int × Int)} {who : Int} {k n : Nat} (hk : 0 < k) (h : (heirTo xss fs who k).2 = false) (hn : k ≤ n) : heirTo xss fs who n = ((0, 0), false) := by
  by_cases e : k = n
  · subst e
    obtain ⟨m, rfl⟩ : ∃ m, k = m + 1 := ⟨k - 1, by omega⟩
    rw [heirTo] at h ⊢
    split
    · rename_i h1; rw [if_pos h1] at h; exact addF_ok h
    · rfl
  · exact heirTo_false h n (by omega)

/-- Whether a swap of things x and y (x given, y taken) is no gain. -/
def bestAt (xss : List (Bool × List Int)) (fs : List (Int × Int)) (x y : Nat) : Bool :=
  !(decide (0 < (fs.getD x (0, 0)).1) && decide ((fs.getD y (0, 0)).1 < (fs.getD y (0, 0)).2) && decide (ent xss 0 x * ent xss 1 y < ent xss 0 y * ent xss 1 x))
def bestRow (xss : List (Bool × List Int)) (fs : List (Int × Int)) (x : Nat) : Bool := allR fs.length (bestAt xss fs x)
def bestHB (xss : List (Bool × List Int)) (fs : List (Int × Int)) : Bool := sharesB xss fs && allR fs.length (bestRow xss fs)

theorem shares_facts {xss : List (Bool × List Int)} {fs : List (Int × Int)} (h : sharesB xss fs = true) : xss.length = 2 ∧ rectB xss 2 6 100 = true ∧ fs.length = wid xss ∧ ∀ k (hk : k < fs.length), partB fs[k] = true := by
  simp only [sharesB, Bool.and_eq_true, decide_eq_true_eq, List.all_eq_true] at h
  obtain ⟨⟨h1, h2⟩, h3⟩ := h
  obtain ⟨h4, h5⟩ := points_facts h1
  exact ⟨h4, h5, h2, fun k hk => h3 _ (List.getElem_mem _)⟩
theorem ent_mul {xss : List (Bool × List Int)} (h : rectB xss 2 6 100 = true) {i j : Nat} (hi : i < xss.length) (hj : j < xss.length) {x y : Nat} (hx : x < wid xss) (hy : y < wid xss) : 0 ≤ ent xss i x * ent xss j y ∧ ent xss i x * ent xss j y ≤ 10000 := by
  have h1 := ent_bd h hi hx
  have h2 := ent_bd h hj hy
  refine ⟨Int.mul_nonneg h1.1 h2.1, ?_⟩
  have := Int.mul_le_mul h1.2 h2.2 h2.1 (by omega : (0 : Int) ≤ 100)
  omega

end Go.Proofs.Ytlkgppincgpfjaa.Ax

/-
  Contracts: products, differences of fractions (both programs). No condition.
-/
namespace Go.Proofs.Ytlkgppincgpfjaa.Ax
open Go Go.RowKit
set_option linter.unusedSimpArgs false

noncomputable def mTimes : List AV → Option AV := mk (fun _ => True) (fun (p : (Int) × (Int) × (Int) × (Int)) => [frac (p.1, p.2.1), frac (p.2.2.1, p.2.2.2)]) (fun p => .tup [.agg [.v (.int .i64 (mulF (p.1, p.2.1) (p.2.2.1, p.2.2.2)).1.1), .v (.int .i64 (mulF (p.1, p.2.1) (p.2.2.1, p.2.2.2)).1.2)], .v (.bool (mulF (p.1, p.2.1) (p.2.2.1, p.2.2.2)).2)])
theorem mTimes_at (a : Int) (b : Int) (c : Int) (d : Int) : mTimes [.agg [.v (.int .i64 a), .v (.int .i64 b)], .agg [.v (.int .i64 c), .v (.int .i64 d)]] = some (.tup [.agg [.v (.int .i64 (mulF (a, b) (c, d)).1.1), .v (.int .i64 (mulF (a, b) (c, d)).1.2)], .v (.bool (mulF (a, b) (c, d)).2)]) :=
  mk_eq (enc := fun (p : (Int) × (Int) × (Int) × (Int)) => [frac (p.1, p.2.1), frac (p.2.2.1, p.2.2.2)]) (x := (a, b, c, d)) (by rintro ⟨a0, a1, a2, a3⟩ ⟨b0, b1, b2, b3⟩ h; simp [ints, intss, int, bool, row, frac, fracs, map_int_inj, map_row_inj, frac_inj, map_frac_inj] at h; simp [h]) trivial

noncomputable def mMinus : List AV → Option AV := mk (fun p => fracOk (p.2.2.1, p.2.2.2) = true) (fun (p : (Int) × (Int) × (Int) × (Int)) => [frac (p.1, p.2.1), frac (p.2.2.1, p.2.2.2)]) (fun p => .tup [.agg [.v (.int .i64 (subF (p.1, p.2.1) (p.2.2.1, p.2.2.2)).1.1), .v (.int .i64 (subF (p.1, p.2.1) (p.2.2.1, p.2.2.2)).1.2)], .v (.bool (subF (p.1, p.2.1) (p.2.2.1, p.2.2.2)).2)])
theorem mMinus_at (a : Int) (b : Int) (c : Int) (d : Int) (hpre : fracOk (c, d) = true) : mMinus [.agg [.v (.int .i64 a), .v (.int .i64 b)], .agg [.v (.int .i64 c), .v (.int .i64 d)]] = some (.tup [.agg [.v (.int .i64 (subF (a, b) (c, d)).1.1), .v (.int .i64 (subF (a, b) (c, d)).1.2)], .v (.bool (subF (a, b) (c, d)).2)]) :=
  mk_eq (enc := fun (p : (Int) × (Int) × (Int) × (Int)) => [frac (p.1, p.2.1), frac (p.2.2.1, p.2.2.2)]) (x := (a, b, c, d)) (by rintro ⟨a0, a1, a2, a3⟩ ⟨b0, b1, b2, b3⟩ h; simp [ints, intss, int, bool, row, frac, fracs, map_int_inj, map_row_inj, frac_inj, map_frac_inj] at h; simp [h]) hpre
end Go.Proofs.Ytlkgppincgpfjaa.Ax

/-
  Contracts: the worth of an award, what a person's pieces are worth (both programs). No condition.
-/
namespace Go.Proofs.Ytlkgppincgpfjaa.Ax
open Go Go.RowKit
set_option linter.unusedSimpArgs false

theorem ent_get {xss : List (Bool × List Int)} {i : Nat} (hi : i < xss.length) {k : Int} (hk : k.toNat < xss[i].2.length) : xss[i].2[k.toNat]? = some (ent xss i k) := by
  unfold ent; simp [List.getD_eq_getElem?_getD, hi, hk]

/-- The worth of the first k things of an award. -/
def awTo (xss : List (Bool × List Int)) (aw : List Int) : Nat → Int
  | 0 => 0
  | k + 1 => if 0 ≤ aw.getD k 0 then IntKind.i64.wrap (awTo xss aw k + ent xss k (aw.getD k 0)) else awTo xss aw k

noncomputable def mAwW : List AV → Option AV := mk (fun p => p.2.2.2.length ≤ p.2.1.length ∧ ∀ i, i < p.2.2.2.length → p.2.2.2.getD i 0 < ((p.2.1.getD i (true, [])).2.length : Int)) (fun (p : (Bool) × (List (Bool × List Int)) × (Bool) × (List Int)) => [intss p.1 p.2.1, ints p.2.2.1 p.2.2.2]) (fun p => int (awTo p.2.1 p.2.2.2 p.2.2.2.length))
theorem mAwW_at (nl : Bool) (xss : List (Bool × List Int)) (nl' : Bool) (aw : List Int) (hpre : aw.length ≤ xss.length ∧ ∀ i, i < aw.length → aw.getD i 0 < ((xss.getD i (true, [])).2.length : Int)) : mAwW [.sl nl 1 (xss.map row), .sl nl' 1 (aw.map int)] = some (.v (.int .i64 (awTo xss aw aw.length))) :=
  mk_eq (enc := fun (p : (Bool) × (List (Bool × List Int)) × (Bool) × (List Int)) => [intss p.1 p.2.1, ints p.2.2.1 p.2.2.2]) (x := (nl, xss, nl', aw)) (by rintro ⟨a0, a1, a2, a3⟩ ⟨b0, b1, b2, b3⟩ h; simp [ints, intss, int, bool, row, frac, fracs, map_int_inj, map_row_inj, frac_inj, map_frac_inj] at h; simp [h]) hpre

theorem awW_pre {xss : List (Bool × List Int)} {aw : List Int} (h : awardB xss aw = true) : aw.length ≤ xss.length ∧ ∀ i, i < aw.length → aw.getD i 0 < ((xss.getD i (true, [])).2.length : Int) := by
  simp only [awardB, Bool.and_eq_true, decide_eq_true_eq] at h
  obtain ⟨⟨⟨h1, h2⟩, h3⟩, _⟩ := h
  refine ⟨by omega, fun i hi => ?_⟩
  have := (allIn_at h3 hi).2
  have hr := (rect_row h1 (i := i) (by omega)).1
  rw [getD_at hi, List.getD_eq_getElem?_getD, List.getElem?_eq_getElem (by omega)]
  simp only [Option.getD_some]; omega

noncomputable def mAwWorth : List AV → Option AV := mk (fun _ => True) (fun (p : (Bool) × (List (Bool × List Int)) × (Bool) × (List Int)) => [intss p.1 p.2.1, ints p.2.2.1 p.2.2.2]) (fun p => int (if awardB p.2.1 p.2.2.2 = true then awTo p.2.1 p.2.2.2 p.2.2.2.length else -1))
theorem mAwWorth_at (nl : Bool) (xss : List (Bool × List Int)) (nl' : Bool) (aw : List Int) : mAwWorth [.sl nl 1 (xss.map row), .sl nl' 1 (aw.map int)] = some (.v (.int .i64 (if awardB xss aw = true then awTo xss aw aw.length else -1))) :=
  mk_eq (enc := fun (p : (Bool) × (List (Bool × List Int)) × (Bool) × (List Int)) => [intss p.1 p.2.1, ints p.2.2.1 p.2.2.2]) (x := (nl, xss, nl', aw)) (by rintro ⟨a0, a1, a2, a3⟩ ⟨b0, b1, b2, b3⟩ h; simp [ints, intss, int, bool, row, frac, fracs, map_int_inj, map_row_inj, frac_inj, map_frac_inj] at h; simp [h]) trivial

end Go.Proofs.Ytlkgppincgpfjaa.Ax

/-
  Contracts: divisions of a strip, what goods are worth to a person, the envy of pieces (both programs). No condition.
-/
namespace Go.Proofs.Ytlkgppincgpfjaa.Ax
open Go Go.RowKit
set_option linter.unusedSimpArgs false

/-- What the first m goods are worth to person i, of those that k gets. -/
def woTo (xss : List (Bool × List Int)) (l : List Int) (i : Nat) (k : Int) : Nat → Int
  | 0 => 0
  | m + 1 => if l.getD m 0 = k then IntKind.i64.wrap (woTo xss l i k m + ent xss i m) else woTo xss l i k m
def wo (xss : List (Bool × List Int)) (l : List Int) (i : Nat) (k : Int) : Int := woTo xss l i k l.length

noncomputable def mWorth : List AV → Option AV := mk (fun p => 0 ≤ p.2.2.2.2.1 ∧ p.2.2.2.2.1.toNat < p.2.1.length ∧ p.2.2.2.1.length ≤ (p.2.1.getD p.2.2.2.2.1.toNat (true, [])).2.length) (fun (p : (Bool) × (List (Bool × List Int)) × (Bool) × (List Int) × (Int) × (Int)) => [intss p.1 p.2.1, ints p.2.2.1 p.2.2.2.1, int p.2.2.2.2.1, int p.2.2.2.2.2]) (fun p => int (wo p.2.1 p.2.2.2.1 p.2.2.2.2.1.toNat p.2.2.2.2.2))
theorem mWorth_at (nl : Bool) (xss : List (Bool × List Int)) (nl' : Bool) (l : List Int) (i : Int) (k : Int) (hpre : 0 ≤ i ∧ i.toNat < xss.length ∧ l.length ≤ (xss.getD i.toNat (true, [])).2.length) : mWorth [.sl nl 1 (xss.map row), .sl nl' 1 (l.map int), .v (.int .i64 i), .v (.int .i64 k)] = some (.v (.int .i64 (wo xss l i.toNat k))) :=
  mk_eq (enc := fun (p : (Bool) × (List (Bool × List Int)) × (Bool) × (List Int) × (Int) × (Int)) => [intss p.1 p.2.1, ints p.2.2.1 p.2.2.2.1, int p.2.2.2.2.1, int p.2.2.2.2.2]) (x := (nl, xss, nl', l, i, k)) (by rintro ⟨a0, a1, a2, a3, a4, a5⟩ ⟨b0, b1, b2, b3, b4, b5⟩ h; simp [ints, intss, int, bool, row, frac, fracs, map_int_inj, map_row_inj, frac_inj, map_frac_inj] at h; simp [h]) hpre

noncomputable def mEnvy : List AV → Option AV := mk (fun p => 0 ≤ p.2.2.2.2.1 ∧ p.2.2.2.2.1.toNat < p.2.1.length ∧ p.2.2.2.1.length ≤ (p.2.1.getD p.2.2.2.2.1.toNat (true, [])).2.length) (fun (p : (Bool) × (List (Bool × List Int)) × (Bool) × (List Int) × (Int) × (Int)) => [intss p.1 p.2.1, ints p.2.2.1 p.2.2.2.1, int p.2.2.2.2.1, int p.2.2.2.2.2]) (fun p => int (max 0 (IntKind.i64.wrap (wo p.2.1 p.2.2.2.1 p.2.2.2.2.1.toNat p.2.2.2.2.2 - wo p.2.1 p.2.2.2.1 p.2.2.2.2.1.toNat p.2.2.2.2.1))))
theorem mEnvy_at (nl : Bool) (xss : List (Bool × List Int)) (nl' : Bool) (l : List Int) (i : Int) (k : Int) (hpre : 0 ≤ i ∧ i.toNat < xss.length ∧ l.length ≤ (xss.getD i.toNat (true, [])).2.length) : mEnvy [.sl nl 1 (xss.map row), .sl nl' 1 (l.map int), .v (.int .i64 i), .v (.int .i64 k)] = some (.v (.int .i64 (max 0 (IntKind.i64.wrap (wo xss l i.toNat k - wo xss l i.toNat i))))) :=
  mk_eq (enc := fun (p : (Bool) × (List (Bool × List Int)) × (Bool) × (List Int) × (Int) × (Int)) => [intss p.1 p.2.1, ints p.2.2.1 p.2.2.2.1, int p.2.2.2.2.1, int p.2.2.2.2.2]) (x := (nl, xss, nl', l, i, k)) (by rintro ⟨a0, a1, a2, a3, a4, a5⟩ ⟨b0, b1, b2, b3, b4, b5⟩ h; simp [ints, intss, int, bool, row, frac, fracs, map_int_inj, map_row_inj, frac_inj, map_frac_inj] at h; simp [h]) hpre

/-- Place i of a list is the first of its owner's, or stands behind one of the same owner's. -/
def divAt (l : List Int) (i : Nat) : Bool := (decide (i ≠ 0) && decide (l.getD (i - 1) 0 = l.getD i 0)) || !decide (0 ≤ pos (l.take i) (l.getD i 0))
def divB (xss : List (Bool × List Int)) (l : List Int) : Bool := rectB xss 3 10 100 && decide (l.length = wid xss) && allIn 0 (xss.length - 1) l && allR l.length (divAt l)

theorem divAt_zero {l : List Int} : divAt l 0 = true := by simp [divAt, pos, posFrom]

noncomputable def mDiv : List AV → Option AV := mk (fun _ => True) (fun (p : (Bool) × (List (Bool × List Int)) × (Bool) × (List Int)) => [intss p.1 p.2.1, ints p.2.2.1 p.2.2.2]) (fun p => bool (divB p.2.1 p.2.2.2))
theorem mDiv_at (nl : Bool) (xss : List (Bool × List Int)) (nl' : Bool) (l : List Int) : mDiv [.sl nl 1 (xss.map row), .sl nl' 1 (l.map int)] = some (.v (.bool (divB xss l))) :=
  mk_eq (enc := fun (p : (Bool) × (List (Bool × List Int)) × (Bool) × (List Int)) => [intss p.1 p.2.1, ints p.2.2.1 p.2.2.2]) (x := (nl, xss, nl', l)) (by rintro ⟨a0, a1, a2, a3⟩ ⟨b0, b1, b2, b3⟩ h; simp [ints, intss, int, bool, row, frac, fracs, map_int_inj, map_row_inj, frac_inj, map_frac_inj] at h; simp [h]) trivial

end Go.Proofs.Ytlkgppincgpfjaa.Ax

/-
  Contracts: IsDivision of the reference, PieceEnvy (both programs). No condition.
-/
namespace Go.Proofs.Ytlkgppincgpfjaa.Ax
open Go Go.RowKit
set_option linter.unusedSimpArgs false

theorem posFrom_app {v : Int} {xs ys : List Int} : ∀ {k : Nat}, posFrom v (xs ++ ys) k = if 0 ≤ posFrom v xs k then posFrom v xs k else posFrom v ys (k + xs.length) := by
  induction xs with
  | nil => intro k; simp [posFrom]
  | cons x xs ih =>
    intro k
    simp only [List.cons_append, posFrom]
    by_cases e : x = v
    · simp [e]
    · simp only [if_neg e]
      rw [ih]; simp [Nat.add_assoc, Nat.add_comm 1]
theorem pos_snoc {v x : Int} {xs : List Int} : decide (0 ≤ pos (xs ++ [x]) v) = (decide (0 ≤ pos xs v) || decide (x = v)) := by
  unfold pos
  rw [posFrom_app]
  by_cases h : 0 ≤ posFrom v xs 0
  · simp [h]
  · by_cases e : x = v
    · simp [h, posFrom, e]
    · simp [h, posFrom, e]

/-- Whose pieces were met among the first k. -/
def seenL (n : Nat) (l : List Int) (k : Nat) : List Bool := (List.range n).map fun (v : Nat) => decide (0 ≤ pos (l.take k) v)
theorem seenL_zero {n : Nat} {l : List Int} : seenL n l 0 = List.replicate n false := by
  unfold seenL
  apply List.ext_getElem
  · simp
  · intro i h1 h2; simp [pos, posFrom]
theorem seenL_len {n : Nat} {l : List Int} {k : Nat} : (seenL n l k).length = n := by simp [seenL]
theorem seenL_at {n : Nat} {l : List Int} {k i : Nat} (h : i < (seenL n l k).length) : (seenL n l k)[i] = decide (0 ≤ pos (l.take k) (i : Int)) := by simp [seenL]
theorem seenL_get {n : Nat} {l : List Int} {k : Nat} {x : Int} (h0 : 0 ≤ x) (h : x.toNat < n) : (seenL n l k)[x.toNat]? = some (decide (0 ≤ pos (l.take k) x)) := by
  unfold seenL
  have e : ((x.toNat : Nat) : Int) = x := by omega
  simp [h, e]
theorem seenL_set {n : Nat} {l : List Int} {k : Nat} (hk : k < l.length) (h0 : 0 ≤ l[k]) (_h : l[k].toNat < n) : ((seenL n l k).map bool).set l[k].toNat (bool true) = (seenL n l (k + 1)).map bool := by
  rw [← List.map_set]
  congr 1
  apply List.ext_getElem
  · simp [seenL]
  · intro i h1 h2
    rw [List.getElem_set]
    simp only [seenL, List.getElem_map, List.getElem_range, List.take_succ_eq_append_getElem hk, pos_snoc]
    by_cases e : l[k].toNat = i
    · simp [← e]; omega
    · have : l[k] ≠ (i : Int) := by omega
      simp [e, this]

theorem div_rect {xss : List (Bool × List Int)} {l : List Int} (h : divB xss l = true) : rectB xss 3 10 100 = true ∧ l.length = wid xss := by
  simp only [divB, Bool.and_eq_true, decide_eq_true_eq] at h
  exact ⟨h.1.1.1, h.1.1.2⟩

theorem wo_pre {xss : List (Bool × List Int)} {l : List Int} {a b c : Int} (h : rectB xss a b c = true) (hl : l.length ≤ wid xss) {i : Nat} (hi : i < xss.length) : (0 : Int) ≤ (i : Int) ∧ ((i : Int)).toNat < xss.length ∧ l.length ≤ (xss.getD ((i : Int)).toNat (true, [])).2.length := by
  have hr := (rect_row h hi).1
  refine ⟨by omega, by simpa using hi, ?_⟩
  rw [Int.toNat_natCast, List.getD_eq_getElem?_getD, List.getElem?_eq_getElem hi]
  simp only [Option.getD_some]; omega

/-- How much person i envies person k. -/
def envD (xss : List (Bool × List Int)) (l : List Int) (i k : Nat) : Int := IntKind.i64.wrap (wo xss l i k - wo xss l i i)
/-- The most that person i envies one of the first k, and m. -/
def peRow (xss : List (Bool × List Int)) (l : List Int) (i : Nat) (m : Int) : Nat → Int
  | 0 => m
  | k + 1 => max (peRow xss l i m k) (envD xss l i k)
def peTo (xss : List (Bool × List Int)) (l : List Int) : Nat → Int
  | 0 => 0
  | i + 1 => peRow xss l i (peTo xss l i) xss.length
theorem peRow_nn {xss : List (Bool × List Int)} {l : List Int} {i : Nat} {m : Int} (h : 0 ≤ m) : ∀ k, 0 ≤ peRow xss l i m k
  | 0 => h
  | k + 1 => by have := peRow_nn (xss := xss) (l := l) (i := i) h k; rw [peRow]; omega
theorem peTo_nn {xss : List (Bool × List Int)} {l : List Int} : ∀ i, 0 ≤ peTo xss l i
  | 0 => by simp [peTo]
  | i + 1 => peRow_nn (peTo_nn i) _

noncomputable def mPiece : List AV → Option AV := mk (fun _ => True) (fun (p : (Bool) × (List (Bool × List Int)) × (Bool) × (List Int)) => [intss p.1 p.2.1, ints p.2.2.1 p.2.2.2]) (fun p => int (if divB p.2.1 p.2.2.2 = true then peTo p.2.1 p.2.2.2 p.2.1.length else -1))
theorem mPiece_at (nl : Bool) (xss : List (Bool × List Int)) (nl' : Bool) (l : List Int) : mPiece [.sl nl 1 (xss.map row), .sl nl' 1 (l.map int)] = some (.v (.int .i64 (if divB xss l = true then peTo xss l xss.length else -1))) :=
  mk_eq (enc := fun (p : (Bool) × (List (Bool × List Int)) × (Bool) × (List Int)) => [intss p.1 p.2.1, ints p.2.2.1 p.2.2.2]) (x := (nl, xss, nl', l)) (by rintro ⟨a0, a1, a2, a3⟩ ⟨b0, b1, b2, b3⟩ h; simp [ints, intss, int, bool, row, frac, fracs, map_int_inj, map_row_inj, frac_inj, map_frac_inj] at h; simp [h]) trivial

end Go.Proofs.Ytlkgppincgpfjaa.Ax
