/-
  Contracts: LotteryOk (both programs). No condition.
-/
import Derived.Test.YtkfgmpmeipilnaaCB3
import Derived.Test.YtkfgmpmeipilnaaCG10
import Derived.Test.YtkfgmpmeipilnaaCG22
namespace Go.Proofs.Ytkfgmpmeipilnaa.Ax
open Go Go.RowKit
set_option linter.unusedSimpArgs false

/-- Fractions come to 1. -/
def wholeB (fs : List (Int × Int)) : Bool := (sumF fs).2 && decide ([(sumF fs).1.1, (sumF fs).1.2] = [1, 1])
noncomputable def mWholeB : List AV → Option AV := mk (fun _ => True) (fun (p : (Bool) × (List (Int × Int))) => [fracs p.1 p.2]) (fun p => bool (wholeB p.2))
theorem mWholeB_at (nl : Bool) (fs : List (Int × Int)) : mWholeB [.sl nl 2 (fs.map frac)] = some (.v (.bool (wholeB fs))) :=
  mk_eq (enc := fun (p : (Bool) × (List (Int × Int))) => [fracs p.1 p.2]) (x := (nl, fs)) (by rintro ⟨a0, a1⟩ ⟨b0, b1⟩ h; simp [ints, intss, int, bool, row, frac, fracs, map_int_inj, map_row_inj, frac_inj, map_frac_inj] at h; simp [h]) trivial

set_option maxHeartbeats 1000000 in
theorem isWhole_ok : FnOk Try.prog 116 mWholeB := by
  refine mk_ok fun ⟨nl, fs⟩ _ => ?_
  have hG : FnsOk Try.prog [(64, mSumF), (80, mWhole)] := (.cons implSumF_ok (.cons whole_ok .nil))
  refine callOk_awp (ctx_ok eqOk hG) mixed (live := [true, false, true, true, true]) (dt := [(2, ⟨[], [], []⟩)]) Try.func116 rfl (by kernel_rfl) (by kernel_rfl) fun w0 hlens => ?_
  cases h : (sumF fs).2 <;> simp (config := {contextual := true}) [Try.f116, List.range, List.range.loop, ints, intss, int, bool, row, frac, fracs, ← List.map_take, ← List.map_drop, fracss, frow, mSumF_at, mWhole_at, wholeB, h]

theorem lottery1 (f : Int × Int) : CallOk Try.prog 114 [frac f] (.v (.bool (!partB f))) := by
  obtain ⟨t, b⟩ := f
  have hG : FnsOk Try.prog [(115, mPart)] := (.cons isPart_ok .nil)
  refine callOk_awp (ctx_ok eqOk hG) mixed (live := [true, true, true]) (dt := []) Try.func114 rfl (by kernel_rfl) (by kernel_rfl) fun w0 hlens => ?_
  simp (config := {contextual := true}) [Try.f114, List.range, List.range.loop, ints, intss, int, bool, row, frac, fracs, ← List.map_take, ← List.map_drop, mPart_at]

/-- Column k of the first j rows. -/
def colTo (m : List (Bool × List (Int × Int))) (k j : Nat) : List (Int × Int) := (m.take j).map fun r => r.2.getD k (0, 0)
theorem colTo_zero {m : List (Bool × List (Int × Int))} {k : Nat} : colTo m k 0 = [] := by simp [colTo]
theorem colTo_len {m : List (Bool × List (Int × Int))} {k j : Nat} (h : j ≤ m.length) : (colTo m k j).length = j := by simp [colTo]; omega
theorem colTo_succ {m : List (Bool × List (Int × Int))} {k j : Nat} (h : j < m.length) (hk : k < m[j].2.length) : (colTo m k j).map frac ++ [.agg [.v (.int .i64 m[j].2[k].1), .v (.int .i64 m[j].2[k].2)]] = (colTo m k (j + 1)).map frac := by
  unfold colTo
  rw [List.take_succ_eq_append_getElem h]
  simp only [List.map_append, List.map_cons, List.map_nil]
  congr 1
  simp [frac, List.getD_eq_getElem?_getD, hk]
def partRow (m : List (Bool × List (Int × Int))) (i : Nat) : Bool := decide ((m.getD i (true, [])).2.length = m.length) && (m.getD i (true, [])).2.all partB
def sumRow (m : List (Bool × List (Int × Int))) (k : Nat) : Bool := wholeB (m.getD k (true, [])).2 && wholeB (colTo m k m.length)
def lotB (m : List (Bool × List (Int × Int))) : Bool := inR 1 4 m.length && allR m.length (partRow m) && allR m.length (sumRow m)
theorem getDF {m : List (Bool × List (Int × Int))} {i : Nat} (h : i < m.length) : m.getD i (true, []) = m[i] := by simp [List.getD_eq_getElem?_getD, h]

noncomputable def mLot : List AV → Option AV := mk (fun _ => True) (fun (p : Bool × List (Bool × List (Int × Int))) => [fracss p.1 p.2]) (fun p => bool (lotB p.2))
theorem mLot_at (nl : Bool) (m : List (Bool × List (Int × Int))) : mLot [.sl nl 1 (m.map frow)] = some (.v (.bool (lotB m))) :=
  mk_eq (enc := fun (p : Bool × List (Bool × List (Int × Int))) => [fracss p.1 p.2]) (x := (nl, m)) (by rintro ⟨a, b⟩ ⟨c, d⟩ h; simp [fracss, map_frow_inj] at h; simp [h]) trivial

set_option maxHeartbeats 4000000 in
theorem implLot_ok : FnOk Try.prog 65 mLot := by
  refine mk_ok fun ⟨nl, m⟩ _ => ?_
  have hct : ∀ (nl : Bool) (fs : List (Int × Int)), CallOk Try.prog 113 [fracs nl fs, .fn 114 []] (bool (!fs.all partB)) := fun nl fs => by
    have := containsFracs pure_nil (g := 114) (fun f => !partB f) nl fs (fun x _ => lottery1 x)
    have hnn := not_any_not (p := partB) (xs := fs)
    have e : (!fs.all partB) = fs.any (fun f => !partB f) := by rw [← hnn]; simp
    rw [e]; exact this
  have hmm : FnOk Try.prog 113 (mk (fun _ => True) (fun (p : Bool × List (Int × Int)) => [fracs p.1 p.2, .fn 114 []]) (fun p => bool (!p.2.all partB))) := mk_ok fun p _ => hct p.1 p.2
  have hma : ∀ (nl : Bool) (fs : List (Int × Int)), mk (fun _ => True) (fun (p : Bool × List (Int × Int)) => [fracs p.1 p.2, .fn 114 []]) (fun p => bool (!p.2.all partB)) [.sl nl 2 (fs.map frac), .fn 114 []] = some (.v (.bool (!fs.all partB))) := fun nl fs =>
    mk_eq (enc := fun (p : Bool × List (Int × Int)) => [fracs p.1 p.2, .fn 114 []]) (x := (nl, fs)) (by rintro ⟨a, b⟩ ⟨c, d⟩ h; simp [fracs, map_frac_inj] at h; simp [h]) trivial
  generalize mk (fun _ => True) (fun (p : Bool × List (Int × Int)) => [fracs p.1 p.2, .fn 114 []]) (fun p => bool (!p.2.all partB)) = mc at hmm hma
  have hG : FnsOk Try.prog [(61, mWithin), (113, mc), (116, mWholeB)] := (.cons within_ok (.cons hmm (.cons isWhole_ok .nil)))
  refine callOk_awp (ctx_ok eqOk hG) mixed (live := [true, false, true, false, true, true, true, false, true, false, false, false, true, true, true, true, true, false, false, false, false, false, false, false, false, false, false, true, false, false, true, true, true, false, true, true, true, true, false, false, false, false, false, false, false, false, false, false, false, false, false, false, false, false, false, false, false, false, true]) (dt := []) Try.func65 rfl (by kernel_rfl) (by kernel_rfl) fun w0 hlens => ?_
  clear hlens
  cases h1 : inR 1 4 m.length with
  | false => simp (config := {contextual := true}) [Try.f65, List.range, List.range.loop, ints, intss, int, bool, row, frac, fracs, ← List.map_take, ← List.map_drop, fracss, frow, mWithin_in, h1, lotB]
  | true =>
  have hn := h1
  simp only [inR, Bool.and_eq_true, decide_eq_true_eq] at hn
  have hm : lotB m = (allR m.length (partRow m) && allR m.length (sumRow m)) := by simp [lotB, h1]
  generalize hres : lotB m = r at hm
  simp (config := {contextual := true}) [Try.f65, List.range, List.range.loop, ints, intss, int, bool, row, frac, fracs, ← List.map_take, ← List.map_drop, fracss, frow, mWithin_in, h1]
  refine awp_range (live := [true, false, true, false, true, true, true, false, true, false, false, false, true, true, true, true, true, false, false, false, false, false, false, false, false, false, false, true, false, false, true, true, true, false, true, true, true, true, false, false, false, false, false, false, false, false, false, false, false, false, false, false, false, false, false, false, false, false, true]) (ctx_ok eqOk hG) mixed [true, false, false, false, false, false, false, false, false, false, false, false, false, true, true, true] (m.length) (fun i => upto (partRow m) i) (fun i => ⟨[fracss nl m, .junk, .junk, .junk, .junk, .junk, .junk, .junk, .junk, .junk, .junk, .junk, .junk, fracss nl m, int m.length, int i, .junk, .junk, .junk, .junk, .junk, .junk, .junk, .junk, .junk, .junk, .junk, .junk, .junk, .junk, .junk, .junk, .junk, .junk, .junk, .junk, .junk, .junk, .junk, .junk, .junk, .junk, .junk, .junk, .junk, .junk, .junk, .junk, .junk, .junk, .junk, .junk, .junk, .junk, .junk, .junk, .junk, .junk, .junk, .junk], []⟩) ?_ (by simp [sub, slotsLe, clean, keep, refsL, refs, once, place, renL, ren, List.replicate, int, bool, fracss]) ?_ ?_ ?_
  · omega
  · exact upto_zero
  · intro i hi hp hw
    have hf : partRow m i = false → r = false := fun hf => by rw [hm, allR_no hi hf]; rfl
    have ht := upto_succ hp
    have e : partRow m i = (decide (m[i].2.length = m.length) && m[i].2.all partB) := by unfold partRow; rw [getDF hi]
    by_cases hl : m[i].2.length = m.length
    · generalize hall : m[i].2.all partB = al at e
      have hz := hma m[i].1 m[i].2
      rw [hall] at hz
      cases al with
      | true => simp (config := {contextual := true}) [List.range, List.range.loop, ints, intss, int, bool, row, frac, fracs, ← List.map_take, ← List.map_drop, fracss, frow, hi, hw, hl, hz, ht (by rw [e]; simp [hl])]
      | false =>
        have hr0 := hf (by rw [e]; simp)
        subst hr0
        simp (config := {contextual := true}) [List.range, List.range.loop, ints, intss, int, bool, row, frac, fracs, ← List.map_take, ← List.map_drop, fracss, frow, hi, hw, hl, hz]
    · have hl' : ((m[i].2.length : Int) != (m.length : Int)) = true := by simp; omega
      have hr0 := hf (by rw [e]; simp [hl])
      subst hr0
      simp (config := {contextual := true}) [List.range, List.range.loop, ints, intss, int, bool, row, frac, fracs, ← List.map_take, ← List.map_drop, fracss, frow, hi, hw, hl, hl']
  · intro hp
    have hlen : ∀ j (hj : j < m.length), m[j].2.length = m.length := fun j hj => by
      have := hp j hj
      unfold partRow at this
      rw [getDF hj] at this
      simp only [Bool.and_eq_true, decide_eq_true_eq] at this
      exact this.1
    rw [allR_yes hp, Bool.true_and] at hm
    simp (config := {contextual := true}) [List.range, List.range.loop, ints, intss, int, bool, row, frac, fracs, ← List.map_take, ← List.map_drop, fracss, frow]
    refine awp_range (live := [true, false, true, false, true, true, true, false, true, false, false, false, true, true, true, true, true, false, false, false, false, false, false, false, false, false, false, true, false, false, true, true, true, false, true, true, true, true, false, false, false, false, false, false, false, false, false, false, false, false, false, false, false, false, false, false, false, false, true]) (ctx_ok eqOk hG) mixed [true, false, false, false, false, false, false, false, false, false, false, false, false, false, false, false, false, false, false, false, false, false, false, false, false, false, false, false, false, false, true, true] (m.length) (fun k => upto (sumRow m) k) (fun k => ⟨[fracss nl m, .junk, .junk, .junk, .junk, .junk, .junk, .junk, .junk, .junk, .junk, .junk, .junk, .junk, .junk, .junk, .junk, .junk, .junk, .junk, .junk, .junk, .junk, .junk, .junk, .junk, .junk, .junk, .junk, .junk, int m.length, int k, .junk, .junk, .junk, .junk, .junk, .junk, .junk, .junk, .junk, .junk, .junk, .junk, .junk, .junk, .junk, .junk, .junk, .junk, .junk, .junk, .junk, .junk, .junk, .junk, .junk, .junk, .junk, .junk], []⟩) ?_ (by simp [sub, slotsLe, clean, keep, refsL, refs, once, place, renL, ren, List.replicate, int, bool, fracss]) ?_ ?_ ?_
    · omega
    · exact upto_zero
    · intro k hk hpk hwk
      have hf : sumRow m k = false → r = false := fun hf => by rw [hm]; exact allR_no hk hf
      have ht := upto_succ hpk
      have e : sumRow m k = (wholeB m[k].2 && wholeB (colTo m k m.length)) := by unfold sumRow; rw [getDF hk]
      simp (config := {contextual := true}) [List.range, List.range.loop, ints, intss, int, bool, row, frac, fracs, ← List.map_take, ← List.map_drop, fracss, frow, hk, hwk]
      refine awp_range (live := [true, false, true, false, true, true, true, false, true, false, false, false, true, true, true, true, true, false, false, false, false, false, false, false, false, false, false, true, false, false, true, true, true, false, true, true, true, true, false, false, false, false, false, false, false, false, false, false, false, false, false, false, false, false, false, false, false, false, true]) (ctx_ok eqOk hG) mixed [true, false, false, false, false, true, true, false, false, false, false, false, false, false, false, false, false, false, false, false, false, false, false, false, false, false, false, false, false, false, true, true, false, false, true, true, true] (m.length) (fun j => True) (fun j => ⟨[fracss nl m, .junk, .junk, .junk, .junk, int k, apA j, .junk, .junk, .junk, .junk, .junk, .junk, .junk, .junk, .junk, .junk, .junk, .junk, .junk, .junk, .junk, .junk, .junk, .junk, .junk, .junk, .junk, .junk, .junk, int m.length, int k, .junk, .junk, fracss nl m, int m.length, int j, .junk, .junk, .junk, .junk, .junk, .junk, .junk, .junk, .junk, .junk, .junk, .junk, .junk, .junk, .junk, .junk, .junk, .junk, .junk, .junk, .junk, .junk, .junk], apT 2 ((colTo m k j).map frac) j⟩) ?_ (by simp [sub, slotsLe, clean, keep, refsL, refs, once, place, renL, ren, List.replicate, int, bool, fracss, apA, apT]) ?_ ?_ ?_
      · omega
      · trivial
      · intro j hj _ hwj
        have hkj : k < m[j].2.length := by rw [hlen j hj]; exact hk
        have c3 := colTo_succ hj hkj
        have c1 := colTo_len (m := m) (k := k) (j := j) (by omega)
        have q1 : (j + 1) * 16 ≤ 140737488355328 := by omega
        have q2 : j + 1 ≤ 4611686018427387904 := by omega
        cases j with
        | zero =>
          simp [colTo_zero] at c3 hwj
          simp (config := {contextual := true}) [List.range, List.range.loop, ints, intss, int, bool, row, frac, fracs, ← List.map_take, ← List.map_drop, fracss, frow, hj, hwj, hkj, apA, apT, ← c3]
        | succ j =>
          simp at hwj
          simp (config := {contextual := true}) [List.range, List.range.loop, ints, intss, int, bool, row, frac, fracs, ← List.map_take, ← List.map_drop, fracss, frow, hj, hwj, hkj, apA, apT, c1, c3, q1, q2]
      · intro _
        have c1 := colTo_len (m := m) (k := k) (j := m.length) (by omega)
        obtain ⟨n', hn'⟩ : ∃ n', m.length = n' + 1 := ⟨m.length - 1, by omega⟩
        have z1 := mWholeB_at m[k].1 m[k].2
        have z2 := mWholeB_at false (colTo m k m.length)
        generalize hw1 : wholeB m[k].2 = b1 at e z1
        generalize hw2 : wholeB (colTo m k m.length) = b2 at e z2
        generalize colTo m k m.length = cc at *
        rw [hn'] at c1 hk ⊢
        have tk : List.take (n' + 1) cc = cc := List.take_of_length_le (by omega)
        rw [e] at hf ht
        cases b1 with
        | false =>
          have hr0 := hf rfl
          subst hr0
          simp (config := {contextual := true}) [List.range, List.range.loop, ints, intss, int, bool, row, frac, fracs, ← List.map_take, ← List.map_drop, fracss, frow, hn', hk, hwk, apA, apT, z1]
        | true =>
          cases b2 with
          | false =>
            have hr0 := hf rfl
            subst hr0
            simp (config := {contextual := true}) [List.range, List.range.loop, ints, intss, int, bool, row, frac, fracs, ← List.map_take, ← List.map_drop, fracss, frow, hn', hk, hwk, apA, apT, z1, z2, c1, tk]
          | true =>
            have ht' := ht rfl
            simp (config := {contextual := true}) [List.range, List.range.loop, ints, intss, int, bool, row, frac, fracs, ← List.map_take, ← List.map_drop, fracss, frow, hn', hk, hwk, apA, apT, z1, z2, c1, tk, ht']
    · intro hpk
      rw [allR_yes hpk] at hm
      subst hm
      simp (config := {contextual := true}) [List.range, List.range.loop, ints, intss, int, bool, row, frac, fracs, ← List.map_take, ← List.map_drop, fracss, frow]

end Go.Proofs.Ytkfgmpmeipilnaa.Ax
