/-
  Contracts: LotteryOk (both programs). No condition.
-/
import Derived.Test.YtkfmhpgnhkdebaaGreatDoorCB2
import Derived.Test.YtkfmhpgnhkdebaaGreatDoorCG1
import Derived.Test.YtkfmhpgnhkdebaaGreatDoorCG7
namespace Go.Proofs.YtkfmhpgnhkdebaaGreatDoor.Ax
open Go Go.RowKit
set_option linter.unusedSimpArgs false
def wholeB (fs : List (Int × Int)) : Bool := (sumF fs).2 && decide ([(sumF fs).1.1, (sumF fs).1.2] = [1, 1])
noncomputable def mWholeB : List AV → Option AV := mk (fun _ => True) (fun (p : (Bool) × (List (Int × Int))) => [fracs p.1 p.2]) (fun p => bool (wholeB p.2))
theorem mWholeB_at (nl : Bool) (fs : List (Int × Int)) : mWholeB [.sl nl 2 (fs.map frac)] = some (.v (.bool (wholeB fs))) :=
  mk_eq (enc := fun (p : (Bool) × (List (Int × Int))) => [fracs p.1 p.2]) (x := (nl, fs)) (by rintro ⟨a0, a1⟩ ⟨b0, b1⟩ h; simp [ints, intss, int, bool, row, frac, fracs, map_int_inj, map_row_inj, frac_inj, map_frac_inj] at h; simp [h]) trivial
set_option maxHeartbeats 1000000 in
theorem isWhole_ok : FnOk Tryz.prog 103 mWholeB := by
  refine mk_ok fun ⟨nl, fs⟩ _ => ?_
  have hG : FnsOk Tryz.prog [(112, mSumF), (172, mWhole)] := (.cons implSumF_ok (.cons whole_ok .nil))
  refine callOk_awp (ctx_ok eqOk hG) mixed (live := [true, false, true, true, true]) (dt := [(2, ⟨[], [], []⟩)]) Tryz.func103 rfl (by kernel_rfl) (by kernel_rfl) fun w0 hlens => ?_
  cases h : (sumF fs).2 <;> simp (config := {contextual := true}) [Tryz.f103, List.range, List.range.loop, ints, intss, int, bool, row, frac, fracs, ← List.map_take, ← List.map_drop, fracss, frow, mSumF_at, mWhole_at, wholeB, h]
theorem lottery1 (f : Int × Int) : CallOk Tryz.prog 101 [frac f] (.v (.bool (!partB f))) := by
  obtain ⟨t, b⟩ := f
  have hG : FnsOk Tryz.prog [(102, mPart)] := (.cons isPart_ok .nil)
  refine callOk_awp (ctx_ok eqOk hG) mixed (live := [true, true, true]) (dt := []) Tryz.func101 rfl (by kernel_rfl) (by kernel_rfl) fun w0 hlens => ?_
  simp (config := {contextual := true}) [Tryz.f101, List.range, List.range.loop, ints, intss, int, bool, row, frac, fracs, ← List.map_take, ← List.map_drop, mPart_at]
def colTo (m : List (Bool × List (Int × Int))) (k j : Nat) : List (Int × Int) := (m.take j).map fun r => r.2.getD k (0, 0)
theorem colTo_zero {m : List (Bool × List (Int × Int))} {k : Nat} : colTo m k 0 = [] := by simp [colTo]
theorem colTo_len {m : List (Bool × List (Int × Int))} {k j : Nat} (h : j ≤ m.length) : (colTo m k j).length = j := by simp [colTo]; omega
theorem colTo_succ {m : List (Bool × List (Int × Int))} {k j : Nat} (h : j < m.length) (hk : k < m[j].2.length) : (colTo m k j).map frac ++ [.agg [.v (.int .i64 m[j].2[k].1), .v (.int .i64 m[j].2[k].2)]] = (colTo m k (j + 1)).map frac := by
  unfold colTo
  rw [List.take_succ_eq_append_getElem h]
  simp only [List.map_append, List.map_cons, List.map_nil]
  congr 1
  simp [frac, List.getD_eq_getElem?_getD, hk]
def partRow (m : List (Bool × List (Int × Int))) (i : Nat) : Bool := decide ((m.getD i (true, [])).2.length = m.length) && (m.getD i (true, [])).2.all partB
def sumRow (m : List (Bool × List (Int × Int))) (k : Nat) : Bool := wholeB (m.getD k (true, [])).2 && wholeB (colTo m k m.length)
def lotB (m : List (Bool × List (Int × Int))) : Bool := inR 1 4 m.length && allR m.length (partRow m) && allR m.length (sumRow m)
theorem getDF {m : List (Bool × List (Int × Int))} {i : Nat} (h : i < m.length) : m.getD i (true, []) = m[i] := by simp [List.getD_eq_getElem?_getD, h]
noncomputable def mLot : List AV → Option AV := mk (fun _ => True) (fun (p : Bool × List (Bool × List (Int × Int))) => [fracss p.1 p.2]) (fun p => bool (lotB p.2))
theorem mLot_at (nl : Bool) (m : List (Bool × List (Int × Int))) : mLot [.sl nl 1 (m.map frow)] = some (.v (.bool (lotB m))) :=
  mk_eq (enc := fun (p : Bool × List (Bool × List (Int × Int))) => [fracss p.1 p.2]) (x := (nl, m)) (by rintro ⟨a, b⟩ ⟨c, d⟩ h; simp [fracss, map_frow_inj] at h; simp [h]) trivial
set_option maxHeartbeats 4000000 in
theorem implLot_ok : FnOk Tryz.prog 30 mLot := by
  refine mk_ok fun ⟨nl, m⟩ _ => ?_
  have hct : ∀ (nl : Bool) (fs : List (Int × Int)), CallOk Tryz.prog 100 [fracs nl fs, .fn 101 []] (bool (!fs.all partB)) := fun nl fs => by
    have := containsFracs pure_nil (g := 101) (fun f => !partB f) nl fs (fun x _ => lottery1 x)
    have hnn := not_any_not (p := partB) (xs := fs)
    have e : (!fs.all partB) = fs.any (fun f => !partB f) := by rw [← hnn]; simp
    rw [e]; exact this
  have hmm : FnOk Tryz.prog 100 (mk (fun _ => True) (fun (p : Bool × List (Int × Int)) => [fracs p.1 p.2, .fn 101 []]) (fun p => bool (!p.2.all partB))) := mk_ok fun p _ => hct p.1 p.2
  have hma : ∀ (nl : Bool) (fs : List (Int × Int)), mk (fun _ => True) (fun (p : Bool × List (Int × Int)) => [fracs p.1 p.2, .fn 101 []]) (fun p => bool (!p.2.all partB)) [.sl nl 2 (fs.map frac), .fn 101 []] = some (.v (.bool (!fs.all partB))) := fun nl fs =>
    mk_eq (enc := fun (p : Bool × List (Int × Int)) => [fracs p.1 p.2, .fn 101 []]) (x := (nl, fs)) (by rintro ⟨a, b⟩ ⟨c, d⟩ h; simp [fracs, map_frac_inj] at h; simp [h]) trivial
  generalize mk (fun _ => True) (fun (p : Bool × List (Int × Int)) => [fracs p.1 p.2, .fn 101 []]) (fun p => bool (!p.2.all partB)) = mc at hmm hma
  have hG : FnsOk Tryz.prog [(99, mWithin), (100, mc), (103, mWholeB)] := (.cons within_ok (.cons hmm (.cons isWhole_ok .nil)))
  refine callOk_awp (ctx_ok eqOk hG) mixed (live := [true, false, true, false, true, true, true, false, true, false, false, false, true, true, true, true, true, false, false, false, false, false, false, false, false, false, false, true, false, false, true, true, true, false, true, true, true, true, false, false, false, false, false, false, false, false, false, false, false, false, false, false, false, false, false, false, false, false, true]) (dt := []) Tryz.func30 rfl (by kernel_rfl) (by kernel_rfl) fun w0 hlens => ?_
  clear hlens
  cases h1 : inR 1 4 m.length with
  | false => simp (config := {contextual := true}) [Tryz.f30, List.range, List.range.loop, ints, intss, int, bool, row, frac, fracs, ← List.map_take, ← List.map_drop, fracss, frow, mWithin_in, h1, lotB]
  | true =>
  have hn := h1
  simp only [inR, Bool.and_eq_true, decide_eq_true_eq] at hn
  have hm : lotB m = (allR m.length (partRow m) && allR m.length (sumRow m)) := by simp [lotB, h1]
  generalize hres : lotB m = r at hm
  simp (config := {contextual := true}) [Tryz.f30, List.range, List.range.loop, ints, intss, int, bool, row, frac, fracs, ← List.map_take, ← List.map_drop, fracss, frow, mWithin_in, h1]
  refine awp_range (live := [true, false, true, false, true, true, true, false, true, false, false, false, true, true, true, true, true, false, false, false, false, false, false, false, false, false, false, true, false, false, true, true, true, false, true, true, true, true, false, false, false, false, false, false, false, false, false, false, false, false, false, false, false, false, false, false, false, false, true]) (ctx_ok eqOk hG) mixed [true, false, false, false, false, false, false, false, false, false, false, false, false, true, true, true] (m.length) (fun i => upto (partRow m) i) (fun i => ⟨[fracss nl m, .junk, .junk, .junk, .junk, .junk, .junk, .junk, .junk, .junk, .junk, .junk, .junk, fracss nl m, int m.length, int i, .junk, .junk, .junk, .junk, .junk, .junk, .junk, .junk, .junk, .junk, .junk, .junk, .junk, .junk, .junk, .junk, .junk, .junk, .junk, .junk, .junk, .junk, .junk, .junk, .junk, .junk, .junk, .junk, .junk, .junk, .junk, .junk, .junk, .junk, .junk, .junk, .junk, .junk, .junk, .junk, .junk, .junk, .junk, .junk], []⟩) ?_ (by simp [sub, slotsLe, clean, keep, refsL, refs, once, place, renL, ren, List.replicate, int, bool, fracss]) ?_ ?_ ?_
  · omega
  · exact upto_zero
  · intro i hi hp hw
    have hf : partRow m i = false → r = false := fun hf => by rw [hm, allR_no hi hf]; rfl
    have ht := upto_succ hp
    have e : partRow m i = (decide (m[i].2.length = m.length) && m[i].2.all partB) := by unfold partRow; rw [getDF hi]
    by_cases hl : m[i].2.length = m.length
    · generalize hall : m[i].2.all partB = al at e
      have hz := hma m[i].1 m[i].2
      rw [hall] at hz
      cases al with
      | true => simp (config := {contextual := true}) [List.range, List.range.loop, ints, intss, int, bool, row, frac, fracs, ← List.map_take, ← List.map_drop, fracss, frow, hi, hw, hl, hz, ht (by rw [e]; simp [hl])]
      | false =>
        have hr0 := hf (by rw [e]; simp)
        subst hr0
        simp (config := {contextual := true}) [List.range, List.range.loop, ints, intss, int, bool, row, frac, fracs, ← List.map_take, ← List.map_drop, fracss, frow, hi, hw, hl, hz]
    · have hl' : ((m[i].2.length : Int) != (m.length : Int)) = true := by simp; omega
      have hr0 := hf (by rw [e]; simp [hl])
      subst hr0
      simp (config := {contextual := true}) [List.range, List.range.loop, ints, intss, int, bool, row, frac, fracs, ← List.map_take, ← List.map_drop, fracss, frow, hi, hw, hl, hl']
  · intro hp
    have hlen : ∀ j (hj : j < m.length), m[j].2.length = m.length := fun j hj => by
      have := hp j hj
      unfold partRow at this
      rw [getDF hj] at this
      simp only [Bool.and_eq_true, decide_eq_true_eq] at this
      exact this.1
    rw [allR_yes hp, Bool.true_and] at hm
    simp (config := {contextual := true}) [List.range, List.range.loop, ints, intss, int, bool, row, frac, fracs, ← List.map_take, ← List.map_drop, fracss, frow]
    refine awp_range (live := [true, false, true, false, true, true, true, false, true, false, false, false, true, true, true, true, true, false, false, false, false, false, false, false, false, false, false, true, false, false, true, true, true, false, true, true, true, true, false, false, false, false, false, false, false, false, false, false, false, false, false, false, false, false, false, false, false, false, true]) (ctx_ok eqOk hG) mixed [true, false, false, false, false, false, false, false, false, false, false, false, false, false, false, false, false, false, false, false, false, false, false, false, false, false, false, false, false, false, true, true] (m.length) (fun k => upto (sumRow m) k) (fun k => ⟨[fracss nl m, .junk, .junk, .junk, .junk, .junk, .junk, .junk, .junk, .junk, .junk, .junk, .junk, .junk, .junk, .junk, .junk, .junk, .junk, .junk, .junk, .junk, .junk, .junk, .junk, .junk, .junk, .junk, .junk, .junk, int m.length, int k, .junk, .junk, .junk, .junk, .junk, .junk, .junk, .junk, .junk, .junk, .junk, .junk, .junk, .junk, .junk, .junk, .junk, .junk, .junk, .junk, .junk, .junk, .junk, .junk, .junk, .junk, .junk, .junk], []⟩) ?_ (by simp [sub, slotsLe, clean, keep, refsL, refs, once, place, renL, ren, List.replicate, int, bool, fracss]) ?_ ?_ ?_
    · omega
    · exact upto_zero
    · intro k hk hpk hwk
      have hf : sumRow m k = false → r = false := fun hf => by rw [hm]; exact allR_no hk hf
      have ht := upto_succ hpk
      have e : sumRow m k = (wholeB m[k].2 && wholeB (colTo m k m.length)) := by unfold sumRow; rw [getDF hk]
      simp (config := {contextual := true}) [List.range, List.range.loop, ints, intss, int, bool, row, frac, fracs, ← List.map_take, ← List.map_drop, fracss, frow, hk, hwk]
      refine awp_range (live := [true, false, true, false, true, true, true, false, true, false, false, false, true, true, true, true, true, false, false, false, false, false, false, false, false, false, false, true, false, false, true, true, true, false, true, true, true, true, false, false, false, false, false, false, false, false, false, false, false, false, false, false, false, false, false, false, false, false, true]) (ctx_ok eqOk hG) mixed [true, false, false, false, false, true, true, false, false, false, false, false, false, false, false, false, false, false, false, false, false, false, false, false, false, false, false, false, false, false, true, true, false, false, true, true, true] (m.length) (fun j => True) (fun j => ⟨[fracss nl m, .junk, .junk, .junk, .junk, int k, apA j, .junk, .junk, .junk, .junk, .junk, .junk, .junk, .junk, .junk, .junk, .junk, .junk, .junk, .junk, .junk, .junk, .junk, .junk, .junk, .junk, .junk, .junk, .junk, int m.length, int k, .junk, .junk, fracss nl m, int m.length, int j, .junk, .junk, .junk, .junk, .junk, .junk, .junk, .junk, .junk, .junk, .junk, .junk, .junk, .junk, .junk, .junk, .junk, .junk, .junk, .junk, .junk, .junk, .junk], apT 2 ((colTo m k j).map frac) j⟩) ?_ (by simp [sub, slotsLe, clean, keep, refsL, refs, once, place, renL, ren, List.replicate, int, bool, fracss, apA, apT]) ?_ ?_ ?_
      · omega
      · trivial
      · intro j hj _ hwj
        have hkj : k < m[j].2.length := by rw [hlen j hj]; exact hk
        have c3 := colTo_succ hj hkj
        have c1 := colTo_len (m := m) (k := k) (j := j) (by omega)
        have q1 : (j + 1) * 16 ≤ 140737488355328 := by omega
        have q2 : j + 1 ≤ 4611686018427387904 := by omega
        cases j with
        | zero =>
          simp [colTo_zero] at c3 hwj
          simp (config := {contextual := true}) [List.range, List.range.loop, ints, intss, int, bool, row, frac, fracs, ← List.map_take, ← List.map_drop, fracss, frow, hj, hwj, hkj, apA, apT, ← c3]
        | succ j =>
          simp at hwj
          simp (config := {contextual := true}) [List.range, List.range.loop, ints, intss, int, bool, row, frac, fracs, ← List.map_take, ← List.map_drop, fracss, frow, hj, hwj, hkj, apA, apT, c1, c3, q1, q2]
      · intro _
        have c1 := colTo_len (m := m) (k := k) (j := m.length) (by omega)
        obtain ⟨n', hn'⟩ : ∃ n', m.length = n' + 1 := ⟨m.length - 1, by omega⟩
        have z1 := mWholeB_at m[k].1 m[k].2
        have z2 := mWholeB_at false (colTo m k m.length)
        generalize hw1 : wholeB m[k].2 = b1 at e z1
        generalize hw2 : wholeB (colTo m k m.length) = b2 at e z2
        generalize colTo m k m.length = cc at *
        rw [hn'] at c1 hk ⊢
        have tk : List.take (n' + 1) cc = cc := List.take_of_length_le (by omega)
        rw [e] at hf ht
        cases b1 with
        | false =>
          have hr0 := hf rfl
          subst hr0
          simp (config := {contextual := true}) [List.range, List.range.loop, ints, intss, int, bool, row, frac, fracs, ← List.map_take, ← List.map_drop, fracss, frow, hn', hk, hwk, apA, apT, z1]
        | true =>
          cases b2 with
          | false =>
            have hr0 := hf rfl
            subst hr0
            simp (config := {contextual := true}) [List.range, List.range.loop, ints, intss, int, bool, row, frac, fracs, ← List.map_take, ← List.map_drop, fracss, frow, hn', hk, hwk, apA, apT, z1, z2, c1, tk]
          | true =>
            have ht' := ht rfl
            simp (config := {contextual := true}) [List.range, List.range.loop, ints, intss, int, bool, row, frac, fracs, ← List.map_take, ← List.map_drop, fracss, frow, hn', hk, hwk, apA, apT, z1, z2, c1, tk, ht']
    · intro hpk
      rw [allR_yes hpk] at hm
      subst hm
      simp (config := {contextual := true}) [List.range, List.range.loop, ints, intss, int, bool, row, frac, fracs, ← List.map_take, ← List.map_drop, fracss, frow]
end Go.Proofs.YtkfmhpgnhkdebaaGreatDoor.Ax
namespace Go.Proofs.YtkfmhpgnhkdebaaGreatDoor.Ax
open Go Go.RowKit
set_option linter.unusedSimpArgs false
def val (x : Int × Int) : Rat := Rat.divInt x.1 x.2
theorem mkF_val {t b : Int} (hb : 0 < b) (h : (mkF t b).2 = true) : val (mkF t b).1 = Rat.divInt t b ∧ fracOk (mkF t b).1 = true := by
  unfold mkF at h ⊢
  split at h
  · rename_i hf
    rw [if_pos hf]
    obtain ⟨g1, g2⟩ := gcd_bd (x := t) (y := b) (by omega)
    refine ⟨?_, hf⟩
    unfold val
    simp only
    have e1 : (Int.gcd t b : Int) * t.tdiv (Int.gcd t b) = t := Int.mul_tdiv_cancel' (Int.gcd_dvd_left ..)
    have e2 : (Int.gcd t b : Int) * b.tdiv (Int.gcd t b) = b := Int.mul_tdiv_cancel' (Int.gcd_dvd_right ..)
    have := Rat.divInt_mul_left (n := t.tdiv (Int.gcd t b)) (d := b.tdiv (Int.gcd t b)) (a := (Int.gcd t b : Int)) (by omega)
    rw [e1, e2] at this
    exact this.symm
  · simp at h
theorem addF_val {x y : Int × Int} (h : (addF x y).2 = true) : fracOk x = true ∧ fracOk y = true ∧ fracOk (addF x y).1 = true ∧ val (addF x y).1 = val x + val y := by
  unfold addF at h ⊢
  split at h
  · rename_i hxy
    rw [if_pos hxy]
    simp only [Bool.and_eq_true] at hxy
    have b1 := fracOk_bd hxy.1
    have b2 := fracOk_bd hxy.2
    have hp := mul_pos1 (x := x.2) (y := y.2) (by omega) (by omega)
    obtain ⟨h1, h2⟩ := mkF_val hp h
    refine ⟨hxy.1, hxy.2, h2, ?_⟩
    rw [h1]; unfold val
    rw [Rat.divInt_add_divInt _ _ (by omega) (by omega)]
  · simp at h
theorem val_nn {x : Int × Int} (h : fracOk x = true) (h0 : 0 ≤ x.1) : 0 ≤ val x := by
  have b := fracOk_bd h
  exact Rat.divInt_nonneg h0 (by omega)
theorem val_le1 {x : Int × Int} (h : fracOk x = true) (h1 : val x ≤ 1) : x.1 ≤ x.2 := by
  have b := fracOk_bd h
  rw [Rat.le_iff_sub_nonneg] at h1
  have e : (1 : Rat) = Rat.divInt 1 1 := rfl
  unfold val at h1
  rw [e, Rat.divInt_sub_divInt _ _ (by omega) (by omega), Rat.divInt_nonneg_iff_of_pos_right (by omega)] at h1
  omega
theorem sumTo_ok {fs : List (Int × Int)} {n : Nat} (h : (sumTo fs n).2 = true) : ∀ k, k ≤ n → (sumTo fs k).2 = true := fun k hk => by
  by_cases hb : (sumTo fs k).2 = true
  · exact hb
  · have hb' : (sumTo fs k).2 = false := by simpa using hb
    rcases sumTo_false hb' n hk with h1 | ⟨rfl, h1⟩
    · rw [h1] at h; simp at h
    · exact hb'.symm ▸ (by rw [h1] at h; simp at h)
theorem sumTo_step {fs : List (Int × Int)} {n k : Nat} (h : (sumTo fs n).2 = true) (hk : k < n) : val (sumTo fs (k + 1)).1 = val (sumTo fs k).1 + val (fs.getD k (0, 0)) := by
  have h1 := sumTo_ok h (k + 1) hk
  have h0 := sumTo_ok h k (by omega)
  rw [sumTo, if_pos h0] at h1 ⊢
  exact (addF_val h1).2.2.2
theorem sumTo_mono {fs : List (Int × Int)} (hn : ∀ f ∈ fs, fracOk f = true ∧ 0 ≤ f.1) {n : Nat} (hl : n ≤ fs.length) (h : (sumTo fs n).2 = true) : ∀ j k, k + j ≤ n → val (sumTo fs k).1 ≤ val (sumTo fs (k + j)).1
  | 0, k, _ => by simp [Rat.le_refl]
  | j + 1, k, hk => by
    have ih := sumTo_mono hn hl h j k (by omega)
    have hs := sumTo_step h (k := k + j) (by omega)
    have hm : fs.getD (k + j) (0, 0) ∈ fs := by
      have hlt : k + j < fs.length := by omega
      have : fs.getD (k + j) (0, 0) = fs[k + j] := by simp [List.getD_eq_getElem?_getD, hlt]
      rw [this]; exact List.getElem_mem _
    have hv := val_nn (hn _ hm).1 (hn _ hm).2
    rw [show k + (j + 1) = k + j + 1 by omega, hs]
    grind
theorem whole_part {fs : List (Int × Int)} (hw : wholeB fs = true) (hn : ∀ f ∈ fs, fracOk f = true ∧ 0 ≤ f.1) : ∀ f ∈ fs, partB f = true := by
  intro f hf
  obtain ⟨k, hk, rfl⟩ := List.getElem_of_mem hf
  simp only [wholeB, Bool.and_eq_true, decide_eq_true_eq] at hw
  obtain ⟨h1, h2⟩ := hw
  simp only [List.cons.injEq, and_true] at h2
  unfold sumF at h1 h2
  split at h1
  · simp at h1
  · rename_i hlen
    rw [if_neg hlen] at h2
    have hs := sumTo_step h1 hk
    have m1 := sumTo_mono hn (Nat.le_refl _) h1 k 0 (by omega)
    have m2 := sumTo_mono hn (Nat.le_refl _) h1 (fs.length - (k + 1)) (k + 1) (by omega)
    rw [show k + 1 + (fs.length - (k + 1)) = fs.length by omega] at m2
    have e : fs.getD k (0, 0) = fs[k] := by simp [List.getD_eq_getElem?_getD, hk]
    rw [e] at hs
    have z : val (sumTo fs 0).1 = 0 := by simp [sumTo, val]
    have one : val (sumTo fs fs.length).1 = 1 := by
      have : (sumTo fs fs.length).1 = (1, 1) := Prod.ext h2.1 h2.2
      rw [this]; rfl
    rw [Nat.zero_add] at m1
    have hle : val fs[k] ≤ 1 := by grind
    have := val_le1 (hn _ hf).1 hle
    simp only [partB, (hn _ hf).1, inR, Bool.true_and, Bool.and_eq_true, decide_eq_true_eq]
    exact ⟨(hn _ hf).2, this⟩
def posF (f : Int × Int) : Bool := fracOk f && decide (0 ≤ f.1)
def posRow (m : List (Bool × List (Int × Int))) (i : Nat) : Bool := decide ((m.getD i (true, [])).2.length = m.length) && (m.getD i (true, [])).2.all posF
theorem allR_at {n k : Nat} {f : Nat → Bool} (h : allR n f = true) (hk : k < n) : f k = true := by
  unfold allR at h; rw [List.all_eq_true] at h; exact h k (by simpa using hk)
theorem lot_eq {m : List (Bool × List (Int × Int))} : (allR m.length (partRow m) && allR m.length (sumRow m)) = (allR m.length (posRow m) && allR m.length (sumRow m)) := by
  rw [Bool.eq_iff_iff]
  simp only [Bool.and_eq_true]
  constructor
  · rintro ⟨h1, h2⟩
    refine ⟨allR_yes fun i hi => ?_, h2⟩
    have := allR_at h1 hi
    simp only [partRow, posRow, Bool.and_eq_true, List.all_eq_true] at this ⊢
    refine ⟨this.1, fun f hf => ?_⟩
    have := this.2 f hf
    simp only [partB, posF, inR, Bool.and_eq_true, decide_eq_true_eq] at this ⊢
    exact ⟨this.1, this.2.1⟩
  · rintro ⟨h1, h2⟩
    refine ⟨allR_yes fun i hi => ?_, h2⟩
    have a := allR_at h1 hi
    have b := allR_at h2 hi
    simp only [partRow, posRow, sumRow, Bool.and_eq_true, List.all_eq_true] at a b ⊢
    exact ⟨a.1, whole_part b.1 fun f hf => by have := a.2 f hf; simpa [posF] using this⟩
set_option maxHeartbeats 4000000 in
theorem specLot_ok : FnOk Tryz.prog 29 mLot := by
  refine mk_ok fun ⟨nl, m⟩ _ => ?_
  have hG : FnsOk Tryz.prog [(96, mWithin), (97, mFracOk), (98, mSumF)] := (.cons l01In_ok (.cons specFractionOk_ok (.cons specSumF_ok .nil)))
  refine callOk_awp (ctx_ok eqOk hG) mixed (live := [true, false, true, true, false, true, false, true, true, true, true, true, false, true, true, true, true, true, false, false, false, false, true, true, true, true, true, false, false, false, false, false, true, true, true, true, true, false, false, false, false, false, false, false, false, false, true, false, false, false, true, true, true, true, false, false, false, false, true, true, true, true, false, false, false, false, false, false, false, false, false, false, false, false, false, false, false, false, false, false, false, false, false, false, false, false, false, false, false, false, false, false, false, false, false, false, false, true]) (dt := []) Tryz.func29 rfl (by kernel_rfl) (by kernel_rfl) fun w0 hlens => ?_
  clear hlens
  cases h1 : inR 1 4 m.length with
  | false => simp (config := {contextual := true}) [Tryz.f29, List.range, List.range.loop, ints, intss, int, bool, row, frac, fracs, ← List.map_take, ← List.map_drop, fracss, frow, mWithin_in, h1, lotB]
  | true =>
  have hn := h1
  simp only [inR, Bool.and_eq_true, decide_eq_true_eq] at hn
  have hm : lotB m = (allR m.length (posRow m) && allR m.length (sumRow m)) := by rw [← lot_eq]; simp [lotB, h1]
  generalize hres : lotB m = r at hm
  simp (config := {contextual := true}) [Tryz.f29, List.range, List.range.loop, ints, intss, int, bool, row, frac, fracs, ← List.map_take, ← List.map_drop, fracss, frow, mWithin_in, h1]
  refine awp_range (live := [true, false, true, true, false, true, false, true, true, true, true, true, false, true, true, true, true, true, false, false, false, false, true, true, true, true, true, false, false, false, false, false, true, true, true, true, true, false, false, false, false, false, false, false, false, false, true, false, false, false, true, true, true, true, false, false, false, false, true, true, true, true, false, false, false, false, false, false, false, false, false, false, false, false, false, false, false, false, false, false, false, false, false, false, false, false, false, false, false, false, false, false, false, false, false, false, false, true]) (ctx_ok eqOk hG) mixed [true, false, false, true, false, false, false, false, false, false, false, false, false, false, false, false, false, false, false, false, false, false, false, true, true, true] (m.length) (fun i => upto (posRow m) i) (fun i => ⟨[fracss nl m, .junk, .junk, int m.length, .junk, .junk, .junk, .junk, .junk, .junk, .junk, .junk, .junk, .junk, .junk, .junk, .junk, .junk, .junk, .junk, .junk, .junk, .junk, fracss nl m, int m.length, int i, .junk, .junk, .junk, .junk, .junk, .junk, .junk, .junk, .junk, .junk, .junk, .junk, .junk, .junk, .junk, .junk, .junk, .junk, .junk, .junk, .junk, .junk, .junk, .junk, .junk, .junk, .junk, .junk, .junk, .junk, .junk, .junk, .junk, .junk, .junk, .junk, .junk, .junk, .junk, .junk, .junk, .junk, .junk, .junk, .junk, .junk, .junk, .junk, .junk, .junk, .junk, .junk, .junk, .junk, .junk, .junk, .junk, .junk, .junk, .junk, .junk, .junk, .junk, .junk, .junk, .junk, .junk, .junk, .junk, .junk, .junk, .junk, .junk], []⟩) ?_ (by simp [sub, slotsLe, clean, keep, refsL, refs, once, place, renL, ren, List.replicate, int, bool, fracss]) ?_ ?_ ?_
  · omega
  · exact upto_zero
  · intro i hi hp hw
    have hf : posRow m i = false → r = false := fun hf => by rw [hm, allR_no hi hf]; rfl
    have ht := upto_succ hp
    have e : posRow m i = (decide (m[i].2.length = m.length) && allR m[i].2.length fun j => posF (m[i].2.getD j (0, 0))) := by unfold posRow; rw [getDF hi, all_allF]
    by_cases hl : m[i].2.length = m.length
    · simp (config := {contextual := true}) [List.range, List.range.loop, ints, intss, int, bool, row, frac, fracs, ← List.map_take, ← List.map_drop, fracss, frow, hi, hw, hl]
      generalize hfe : (fun j => posF (m[i].2.getD j (0, 0))) = f at e
      refine awp_range (live := [true, false, true, true, false, true, false, true, true, true, true, true, false, true, true, true, true, true, false, false, false, false, true, true, true, true, true, false, false, false, false, false, true, true, true, true, true, false, false, false, false, false, false, false, false, false, true, false, false, false, true, true, true, true, false, false, false, false, true, true, true, true, false, false, false, false, false, false, false, false, false, false, false, false, false, false, false, false, false, false, false, false, false, false, false, false, false, false, false, false, false, false, false, false, false, false, false, true]) (ctx_ok eqOk hG) mixed [true, false, false, true, false, false, false, false, false, false, false, false, false, false, false, false, false, false, false, false, false, false, false, true, true, true, false, false, false, false, false, false, false, true, true, true] (m[i].2.length) (fun j => upto f j) (fun j => ⟨[fracss nl m, .junk, .junk, int m.length, .junk, .junk, .junk, .junk, .junk, .junk, .junk, .junk, .junk, .junk, .junk, .junk, .junk, .junk, .junk, .junk, .junk, .junk, .junk, fracss nl m, int m.length, int i, .junk, .junk, .junk, .junk, .junk, .junk, .junk, frow m[i], int m[i].2.length, int j, .junk, .junk, .junk, .junk, .junk, .junk, .junk, .junk, .junk, .junk, .junk, .junk, .junk, .junk, .junk, .junk, .junk, .junk, .junk, .junk, .junk, .junk, .junk, .junk, .junk, .junk, .junk, .junk, .junk, .junk, .junk, .junk, .junk, .junk, .junk, .junk, .junk, .junk, .junk, .junk, .junk, .junk, .junk, .junk, .junk, .junk, .junk, .junk, .junk, .junk, .junk, .junk, .junk, .junk, .junk, .junk, .junk, .junk, .junk, .junk, .junk, .junk, .junk], []⟩) ?_ (by simp [sub, slotsLe, clean, keep, refsL, refs, once, place, renL, ren, List.replicate, int, bool, fracss, frow, hl]) ?_ ?_ ?_
      · omega
      · exact upto_zero
      · intro j hj hpj hwj
        have hf2 : f j = false → r = false := fun hg => hf (by rw [e, allR_no hj hg]; simp)
        have ht2 := upto_succ hpj
        have e2 : f j = (fracOk m[i].2[j] && decide (0 ≤ m[i].2[j].1)) := by rw [← hfe]; simp [posF, List.getD_eq_getElem?_getD, hj]
        rw [e2] at hf2 ht2
        simp at hf2 ht2
        have hj' : (j : Int) < (m[i].2.length : Int) := by omega
        simp (config := {contextual := true}) [List.range, List.range.loop, ints, intss, int, bool, row, frac, fracs, ← List.map_take, ← List.map_drop, fracss, frow, mFracOk_at, hj, hj', hwj]
        clear hp hm hG hres e e2 hfe hpj ht hf
        grind
      · intro hpj
        have ht' := ht (by rw [e, allR_yes hpj]; simp [hl])
        simp (config := {contextual := true}) [List.range, List.range.loop, ints, intss, int, bool, row, frac, fracs, ← List.map_take, ← List.map_drop, fracss, frow, hi, hw, ht']
    · have hl' : ((m[i].2.length : Int) != (m.length : Int)) = true := by simp; omega
      have hr0 := hf (by rw [e]; simp [hl])
      subst hr0
      simp (config := {contextual := true}) [List.range, List.range.loop, ints, intss, int, bool, row, frac, fracs, ← List.map_take, ← List.map_drop, fracss, frow, hi, hw, hl, hl']
  · intro hp
    have hlen : ∀ j (hj : j < m.length), m[j].2.length = m.length := fun j hj => by
      have := hp j hj
      unfold posRow at this
      rw [getDF hj] at this
      simp only [Bool.and_eq_true, decide_eq_true_eq] at this
      exact this.1
    rw [allR_yes hp, Bool.true_and] at hm
    simp (config := {contextual := true}) [List.range, List.range.loop, ints, intss, int, bool, row, frac, fracs, ← List.map_take, ← List.map_drop, fracss, frow]
    refine awp_range (live := [true, false, true, true, false, true, false, true, true, true, true, true, false, true, true, true, true, true, false, false, false, false, true, true, true, true, true, false, false, false, false, false, true, true, true, true, true, false, false, false, false, false, false, false, false, false, true, false, false, false, true, true, true, true, false, false, false, false, true, true, true, true, false, false, false, false, false, false, false, false, false, false, false, false, false, false, false, false, false, false, false, false, false, false, false, false, false, false, false, false, false, false, false, false, false, false, false, true]) (ctx_ok eqOk hG) mixed [true, false, false, false, false, false, false, false, true, false, false, false, false, false, false, false, false, false, false, false, false, false, false, false, false, false, false, false, false, false, false, false, false, false, false, false, false, false, false, false, false, false, false, false, false, false, false, false, false, false, true, true, true] (m.length) (fun k => upto (sumRow m) k) (fun k => ⟨[fracss nl m, .junk, .junk, .junk, .junk, .junk, .junk, .junk, .ptr 0 [] 0 0, .junk, .junk, .junk, .junk, .junk, .junk, .junk, .junk, .junk, .junk, .junk, .junk, .junk, .junk, .junk, .junk, .junk, .junk, .junk, .junk, .junk, .junk, .junk, .junk, .junk, .junk, .junk, .junk, .junk, .junk, .junk, .junk, .junk, .junk, .junk, .junk, .junk, .junk, .junk, .junk, .junk, fracss nl m, int m.length, int k, .junk, .junk, .junk, .junk, .junk, .junk, .junk, .junk, .junk, .junk, .junk, .junk, .junk, .junk, .junk, .junk, .junk, .junk, .junk, .junk, .junk, .junk, .junk, .junk, .junk, .junk, .junk, .junk, .junk, .junk, .junk, .junk, .junk, .junk, .junk, .junk, .junk, .junk, .junk, .junk, .junk, .junk, .junk, .junk, .junk, .junk], [⟨true, .sl false 2 [frac (1, 1)]⟩]⟩) ?_ (by simp [sub, slotsLe, clean, keep, refsL, refs, once, place, renL, ren, List.replicate, int, bool, fracss, frac]) ?_ ?_ ?_
    · omega
    · exact upto_zero
    · intro k hk hpk hwk
      have hf : sumRow m k = false → r = false := fun hf => by rw [hm]; exact allR_no hk hf
      have ht := upto_succ hpk
      have e : sumRow m k = (wholeB m[k].2 && wholeB (colTo m k m.length)) := by unfold sumRow; rw [getDF hk]
      simp (config := {contextual := true}) [List.range, List.range.loop, ints, intss, int, bool, row, frac, fracs, ← List.map_take, ← List.map_drop, fracss, frow, hk, hwk]
      refine awp_range (live := [true, false, true, true, false, true, false, true, true, true, true, true, false, true, true, true, true, true, false, false, false, false, true, true, true, true, true, false, false, false, false, false, true, true, true, true, true, false, false, false, false, false, false, false, false, false, true, false, false, false, true, true, true, true, false, false, false, false, true, true, true, true, false, false, false, false, false, false, false, false, false, false, false, false, false, false, false, false, false, false, false, false, false, false, false, false, false, false, false, false, false, false, false, false, false, false, false, true]) (ctx_ok eqOk hG) mixed [true, false, false, false, false, false, false, false, true, true, true, true, false, false, false, false, false, false, false, false, false, false, false, false, false, false, false, false, false, false, false, false, false, false, false, false, false, false, false, false, false, false, false, false, false, false, false, false, false, false, true, true, true, false, false, false, false, false, true, true, true] (m.length) (fun j => True) (fun j => ⟨[fracss nl m, .junk, .junk, .junk, .junk, .junk, .junk, .junk, .ptr 0 [] 0 0, int k, frow m[k], .ref 1 [] 0 j, .junk, .junk, .junk, .junk, .junk, .junk, .junk, .junk, .junk, .junk, .junk, .junk, .junk, .junk, .junk, .junk, .junk, .junk, .junk, .junk, .junk, .junk, .junk, .junk, .junk, .junk, .junk, .junk, .junk, .junk, .junk, .junk, .junk, .junk, .junk, .junk, .junk, .junk, fracss nl m, int m.length, int k, .junk, .junk, .junk, .junk, .junk, fracss nl m, int m.length, int j, .junk, .junk, .junk, .junk, .junk, .junk, .junk, .junk, .junk, .junk, .junk, .junk, .junk, .junk, .junk, .junk, .junk, .junk, .junk, .junk, .junk, .junk, .junk, .junk, .junk, .junk, .junk, .junk, .junk, .junk, .junk, .junk, .junk, .junk, .junk, .junk, .junk, .junk], [⟨true, .sl false 2 [frac (1, 1)]⟩, ⟨true, .sl false 2 ((colTo m k j).map frac)⟩]⟩) ?_ (by simp [sub, slotsLe, clean, keep, refsL, refs, once, place, renL, ren, List.replicate, int, bool, fracss, frow, frac, colTo_zero]) ?_ ?_ ?_
      · omega
      · trivial
      · intro j hj _ hwj
        have hkj : k < m[j].2.length := by rw [hlen j hj]; exact hk
        have c3 := colTo_succ hj hkj
        have c1 := colTo_len (m := m) (k := k) (j := j) (by omega)
        have q1 : (j + 1) * 16 ≤ 140737488355328 := by omega
        have q2 : j + 1 ≤ 4611686018427387904 := by omega
        simp (config := {contextual := true}) [List.range, List.range.loop, ints, intss, int, bool, row, frac, fracs, ← List.map_take, ← List.map_drop, fracss, frow, hj, hwj, hkj, c1, c3, q1, q2]
      · intro _
        have c1 := colTo_len (m := m) (k := k) (j := m.length) (by omega)
        have z1 := mSumF_at m[k].1 m[k].2
        have z2 := mSumF_at false (colTo m k m.length)
        have tk : List.take m.length (colTo m k m.length) = colTo m k m.length := List.take_of_length_le (by omega)
        rw [e] at hf ht
        simp only [wholeB] at hf ht
        generalize sumF m[k].2 = a at *
        generalize sumF (colTo m k m.length) = b at *
        obtain ⟨⟨a1, a2⟩, a3⟩ := a
        obtain ⟨⟨b1, b2⟩, b3⟩ := b
        simp only at hf ht z1 z2
        generalize colTo m k m.length = cc at *
        by_cases ha : a3 = true ∧ a1 = 1 ∧ a2 = 1
        · obtain ⟨rfl, rfl, rfl⟩ := ha
          by_cases hb : b3 = true ∧ b1 = 1 ∧ b2 = 1
          · obtain ⟨rfl, rfl, rfl⟩ := hb
            simp at ht
            simp (config := {contextual := true}) [List.range, List.range.loop, ints, intss, int, bool, row, frac, fracs, ← List.map_take, ← List.map_drop, fracss, frow, hk, hwk, z1, z2, c1, tk, ht]
          · have hr0 := hf (by simp; intro h1 h2; by_cases h3 : b2 = 1; exact absurd ⟨h1, h2, h3⟩ hb; exact h3)
            subst hr0
            cases b3 <;> simp (config := {contextual := true}) [List.range, List.range.loop, ints, intss, int, bool, row, frac, fracs, ← List.map_take, ← List.map_drop, fracss, frow, hk, hwk, z1, z2, c1, tk]
            exact fun p q => absurd ⟨rfl, p, q⟩ hb
        · have hr0 := hf (by simp; intro h1 h2 h3; exact absurd ⟨h1, h2, h3⟩ ha)
          subst hr0
          cases a3 with
          | false => cases b3 <;> simp (config := {contextual := true}) [List.range, List.range.loop, ints, intss, int, bool, row, frac, fracs, ← List.map_take, ← List.map_drop, fracss, frow, hk, hwk, z1, z2, c1, tk]
          | true =>
            have q : a1 = 1 → a2 ≠ 1 := fun p q => ha ⟨rfl, p, q⟩
            cases b3 with
            | false => simp (config := {contextual := true}) [List.range, List.range.loop, ints, intss, int, bool, row, frac, fracs, ← List.map_take, ← List.map_drop, fracss, frow, hk, hwk, z1, z2, c1, tk]
            | true =>
              by_cases p : a1 = 1
              · have q' := q p
                subst p
                simp (config := {contextual := true}) [List.range, List.range.loop, ints, intss, int, bool, row, frac, fracs, ← List.map_take, ← List.map_drop, fracss, frow, hk, hwk, z1, z2, c1, tk, q']
              · simp (config := {contextual := true}) [List.range, List.range.loop, ints, intss, int, bool, row, frac, fracs, ← List.map_take, ← List.map_drop, fracss, frow, hk, hwk, z1, z2, c1, tk, p]
    · intro hpk
      rw [allR_yes hpk] at hm
      subst hm
      simp (config := {contextual := true}) [List.range, List.range.loop, ints, intss, int, bool, row, frac, fracs, ← List.map_take, ← List.map_drop, fracss, frow]
end Go.Proofs.YtkfmhpgnhkdebaaGreatDoor.Ax
