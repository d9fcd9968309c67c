/-
  Contracts: SplitLottery (both programs). No condition.
-/
import Derived.Test.YtkfgmpmeipilnaaCG12
namespace Go.Proofs.Ytkfgmpmeipilnaa.Ax
open Go Go.RowKit
set_option linter.unusedSimpArgs false

theorem whole_su {fs : List (Int × Int)} (h : wholeB fs = true) : suR (fun j => val (fs.getD j (0, 0))) fs.length = 1 := by
  simp only [wholeB, Bool.and_eq_true, decide_eq_true_eq] at h
  obtain ⟨h1, h2⟩ := h
  simp only [List.cons.injEq, and_true] at h2
  unfold sumF at h1 h2
  split at h1
  · simp at h1
  · rename_i hlen
    rw [if_neg hlen] at h2
    have key : ∀ k, k ≤ fs.length → suR (fun j => val (fs.getD j (0, 0))) k = val (sumTo fs k).1 := by
      intro k
      induction k with
      | zero => intro _; simp [suR, sumTo, val]
      | succ k ih =>
        intro hk
        rw [suR, ih (by omega), sumTo_step h1 (by omega)]
    rw [key _ (Nat.le_refl _)]
    have : (sumTo fs fs.length).1 = (1, 1) := Prod.ext h2.1 h2.2
    rw [this]; rfl
theorem lot_tab {m : Tab} (h : lotB m = true) (hf : ∀ r ∈ m, r.1 = false) : TabOk m 1 := by
  simp only [lotB, Bool.and_eq_true, inR, decide_eq_true_eq] at h
  obtain ⟨⟨h1, h2⟩, h3⟩ := h
  have hrow : ∀ i (hi : i < m.length), m[i].2.length = m.length ∧ m[i].2.all partB = true := fun i hi => by
    have := allR_at h2 hi
    simpa only [partRow, getDF hi, Bool.and_eq_true, decide_eq_true_eq] using this
  have hsum : ∀ i (hi : i < m.length), wholeB m[i].2 = true ∧ wholeB (colTo m i m.length) = true := fun i hi => by
    have := allR_at h3 hi
    simpa only [sumRow, getDF hi, Bool.and_eq_true] using this
  refine ⟨by omega, by omega, fun i hi => ⟨hf _ (List.getElem_mem hi), (hrow i hi).1⟩, fun i j hi hj => ?_, fun i hi => ?_, fun j hj => ?_⟩
  · have hjl : j < m[i].2.length := by rw [(hrow i hi).1]; exact hj
    rw [cel0_at hi hjl]
    have := List.all_eq_true.1 (hrow i hi).2 _ (List.getElem_mem hjl)
    simp only [partB, inR, Bool.and_eq_true, decide_eq_true_eq] at this
    exact ⟨this.1, this.2.1⟩
  · have := whole_su (hsum i hi).1
    rw [(hrow i hi).1] at this
    rw [← this]
    refine suR_congr fun j hj => ?_
    unfold vlR cel0
    rw [getDF hi]
  · have := whole_su (hsum j hj).2
    rw [colTo_len (Nat.le_refl _)] at this
    rw [← this]
    refine suR_congr fun i hi => ?_
    unfold vlR cel0
    rw [getDF hi]
    congr 1
    simp [colTo, List.getD_eq_getElem?_getD, hi]
theorem tak_sum {m : Tab} {s : Rat} (h : TabOk m s) (hs : 0 < s) : takB m = false := by
  cases ht : takB m with
  | false => rfl
  | true =>
    exfalso
    simp only [takB, Bool.not_eq_true', List.any_eq_false, decide_eq_true_eq] at ht
    have hz : ∀ j, j < m.length → vlR m 0 j = 0 := fun j hj => by
      have hok := h.ok 0 j h.n1 hj
      have hm : cel0 m 0 j ∈ m.flatMap (·.2) := by
        rw [tab_cel h h.n1 hj]
        exact List.mem_flatMap.2 ⟨m[0]'h.n1, List.getElem_mem _, List.getElem_mem _⟩
      have h0 : ¬ 0 < vlR m 0 j := fun hp => ht _ hm ((val_pos hok.1).1 hp)
      have h1 := val_nn hok.1 hok.2
      unfold vlR at h0 ⊢
      exact Rat.le_antisymm (Rat.not_lt.1 h0) h1
    have hsum := h.rs 0 h.n1
    have hzero : ∀ n, n ≤ m.length → suR (fun j => vlR m 0 j) n = 0 := by
      intro n
      induction n with
      | zero => intro _; rfl
      | succ n ih => intro hn; rw [suR, ih (by omega), hz n (by omega), Rat.add_zero]
    rw [hzero _ (Nat.le_refl _)] at hsum
    rw [← hsum] at hs
    exact absurd hs (by decide)

def splT (m : Tab) : List Tk × Bool := if lotB m = true then splR 16 m [] else ([], false)
def splAV (R : List Tk × Bool) : AV := .tup [.sl (!R.2) 3 ((if R.2 then R.1 else []).map tick), .v (.bool R.2)]
noncomputable def mSpl : List AV → Option AV := mk (fun _ => True) (fun (p : Bool × Tab) => [fracss p.1 p.2]) (fun p => splAV (splT p.2))
theorem mSpl_at (nl : Bool) (m : Tab) : mSpl [.sl nl 1 (m.map frow)] = some (splAV (splT m)) :=
  mk_eq (enc := fun (p : Bool × Tab) => [fracss p.1 p.2]) (f := fun p => splAV (splT p.2)) (x := (nl, m)) (by rintro ⟨a, b⟩ ⟨c, d⟩ h; simp [fracss, map_frow_inj] at h; simp [h]) trivial
def splAW (R : List Tk × Bool) : AV := .tup [.sl (!R.2) (if R.2 then 3 else 1) ((if R.2 then R.1 else []).map tick), .v (.bool R.2)]
theorem splAW_ok {P : Program} {f : FuncId} {args : List AV} {R : List Tk × Bool} (h : CallOk P f args (splAW R)) : CallOk P f args (splAV R) := by
  obtain ⟨o, b⟩ := R
  cases b with
  | true => exact h
  | false => exact callOk_nil1 (a := 1) h
theorem spl_start {m : Tab} (h : lotB m = true) (hf : ∀ r ∈ m, r.1 = false) : SplP m.length (splR 16 m []) m [] ∧ exO m ≠ none := by
  have ht := lot_tab h hf
  have h4 := ht.n4
  have hc : cntP m ≤ 16 := by
    have := cntN_bd (m := m) (fun i hi => by rw [(ht.row i hi).2]; exact h4) (Nat.le_refl _)
    unfold cntP; omega
  refine ⟨⟨rfl, ⟨_, ht⟩, by simpa using hc, ⟨16, hc, rfl⟩, by simp⟩, fun he => ?_⟩
  have := tak_sum ht (by decide)
  rw [tak_ex ht, he] at this
  simp at this
theorem cat_len {m : Tab} {s : Rat} (h : TabOk m s) : m.length ≤ 1000 ∧ 1 ≤ (catF m).length ∧ (catF m).length ≤ 1000000 := by
  have h4 := h.n4
  have key : ∀ (l : Tab), (∀ r ∈ l, r.2.length ≤ 4) → (catF l).length ≤ 4 * l.length := by
    intro l
    induction l with
    | nil => intro _; simp [catF]
    | cons r l ih =>
      intro hr
      have h1 := ih fun r hr' => hr r (by simp [hr'])
      have h2 := hr r (by simp)
      simp only [catF, List.flatMap_cons, List.length_append, List.length_cons] at h1 ⊢
      omega
  have h1 := key m fun r hr => by
    obtain ⟨i, hi, rfl⟩ := List.getElem_of_mem hr
    rw [(h.row i hi).2]; exact h4
  refine ⟨by omega, ?_, by omega⟩
  have hx := h.n1
  have : (m[0]'hx).2[0]'(by rw [(h.row 0 hx).2]; exact hx) ∈ catF m := List.mem_flatMap.2 ⟨m[0]'hx, List.getElem_mem _, List.getElem_mem _⟩
  exact List.length_pos_of_mem this
theorem tk_snoc {out : List Tk} {w : Int × Int} {l : List Int} : out.map tick ++ [.agg [.v (.int .i64 w.1), .v (.int .i64 w.2), .sl false 1 (l.map int)]] = (out ++ [(w, false, l)]).map tick := by simp [tick]

theorem lot_flag {m : Tab} (h : lotB m = true) (hl : ∀ x ∈ m, x.2.length ≤ 9223372036854775807 ∧ (x.1 = true → x.2 = [])) : ∀ r ∈ m, r.1 = false := fun r hr => by
  obtain ⟨i, hi, rfl⟩ := List.getElem_of_mem hr
  simp only [lotB, Bool.and_eq_true, inR, decide_eq_true_eq] at h
  have hrow := allR_at h.1.2 hi
  simp only [partRow, getDF hi, Bool.and_eq_true, decide_eq_true_eq] at hrow
  cases hb : m[i].1 with
  | false => rfl
  | true =>
    have := (hl _ (List.getElem_mem hi)).2 hb
    rw [this] at hrow
    have := hrow.1
    simp at this
    omega

/-- A state between two rounds. -/
structure SpSt (n : Nat) (R : List Tk × Bool) where
  m : Tab
  out : List Tk
  ok : SplP n R m out
  ne : out = [] → exO m ≠ none

set_option maxRecDepth 16000 in
set_option maxHeartbeats 8000000 in
theorem specSpl_ok : FnOk Try.prog 33 mSpl := by
  refine mk_ok fun ⟨nl, m⟩ _ => ?_
  simp only
  unfold splT
  have hG : FnsOk Try.prog [(59, mLot), (47, mLesF), (49, mMinus)] := (.cons specLot_ok (.cons l29Less_ok (.cons l29Minus_ok .nil)))
  have hM : FnsMut Try.prog [] := .nil
  have hV : FnsMov Try.prog [(84, mExchS), (84, mExchS)] := (.cons exchS_ok (.cons exchS_ok .nil))
  cases hlot : lotB m with
  | false =>
    simp only [Bool.false_eq_true, if_false]
    refine splAW_ok ?_
    refine callOk_awp (ctxV_ok eqOk hG hM hV) mixed (live := [true, false, true, true, true, false, true, true, true, true, true, true, true, true, true, true, true, false, false, true, false, true, true, true, true, false, false, false, false, false, false, false, false, false, false, false, false, false, false, false, false, false, true, false, false, false, false, false, false, false, false, false, true, true, true, true, false, false, false, false, false, false, false, false, false, false, false, false, false, true, true, true, true, false, false, false, false, false, false, false, false, false, false, false, false, false, false, false, false, true]) (dt := [(13, ⟨[], [0, 0, 0, 0, 0, 0, 0, 0, 1], []⟩), (17, ⟨[], [], []⟩), (22, ⟨[(11, 13)], [0, 0, 0, 0, 0, 0, 0, 0, 0, 0, 0, 0, 1], []⟩), (25, ⟨[], [], []⟩)]) Try.func33 rfl (by kernel_rfl) (by kernel_rfl) fun w0 hlens => ?_
    clear hlens
    simp (config := {contextual := true}) [Try.f33, List.range, List.range.loop, ints, intss, int, bool, row, frac, fracs, ← List.map_take, ← List.map_drop, List.all, fracss, mLot_at, hlot, splAW]
  | true =>
  simp only [if_true]
  generalize hR : splR 16 m [] = R
  refine splAW_ok ?_
  refine callOk_awp (ctxV_ok eqOk hG hM hV) mixed (live := [true, false, true, true, true, false, true, true, true, true, true, true, true, true, true, true, true, false, false, true, false, true, true, true, true, false, false, false, false, false, false, false, false, false, false, false, false, false, false, false, false, false, true, false, false, false, false, false, false, false, false, false, true, true, true, true, false, false, false, false, false, false, false, false, false, false, false, false, false, true, true, true, true, false, false, false, false, false, false, false, false, false, false, false, false, false, false, false, false, true]) (dt := [(13, ⟨[], [0, 0, 0, 0, 0, 0, 0, 0, 1], []⟩), (17, ⟨[], [], []⟩), (22, ⟨[(11, 13)], [0, 0, 0, 0, 0, 0, 0, 0, 0, 0, 0, 0, 1], []⟩), (25, ⟨[], [], []⟩)]) Try.func33 rfl (by kernel_rfl) (by kernel_rfl) fun w0 hlens => ?_
  have hflag := lot_flag hlot (lens_fracss.1 hlens.1).2
  clear hlens
  have ht0 := lot_tab hlot hflag
  have hn1 := ht0.n1
  have hn4 := ht0.n4
  obtain ⟨hs0, he0⟩ := spl_start hlot hflag
  rw [hR] at hs0
  have htr : ∀ k (hk : k < m.length), (m.take k).map frow ++ [.sl false 2 (m[k].2.map frac)] = (m.take (k + 1)).map frow := fun k hk => by
    rw [List.take_succ_eq_append_getElem hk, List.map_append]
    simp [frow, hflag _ (List.getElem_mem hk)]
  simp (config := {contextual := true}) [Try.f33, List.range, List.range.loop, ints, intss, int, bool, row, frac, fracs, ← List.map_take, ← List.map_drop, List.all, fracss, mLot_at, hlot]
  refine awp_range (live := [true, false, true, true, true, false, true, true, true, true, true, true, true, true, true, true, true, false, false, true, false, true, true, true, true, false, false, false, false, false, false, false, false, false, false, false, false, false, false, false, false, false, true, false, false, false, false, false, false, false, false, false, true, true, true, true, false, false, false, false, false, false, false, false, false, false, false, false, false, true, true, true, true, false, false, false, false, false, false, false, false, false, false, false, false, false, false, false, false, true]) (ctxV_ok eqOk hG hM hV) mixed [false, false, false, false, true, false, false, false, false, false, false, false, false, false, false, false, false, false, false, false, false, true, true, true] (m.length) (fun k => True) (fun k => ⟨[.junk, .junk, .junk, .junk, .ref 0 [] 0 k, .junk, .junk, .junk, .junk, .junk, .junk, .junk, .junk, .junk, .junk, .junk, .junk, .junk, .junk, .junk, .junk, fracss nl m, int m.length, int k, .junk, .junk, .junk, .junk, .junk, .junk, .junk, .junk, .junk, .junk, .junk, .junk, .junk, .junk, .junk, .junk, .junk, .junk, .junk, .junk, .junk, .junk, .junk, .junk, .junk, .junk, .junk, .junk, .junk, .junk, .junk, .junk, .junk, .junk, .junk, .junk, .junk, .junk, .junk, .junk, .junk, .junk, .junk, .junk, .junk, .junk, .junk, .junk, .junk, .junk, .junk, .junk, .junk, .junk, .junk, .junk, .junk, .junk, .junk, .junk, .junk, .junk, .junk, .junk, .junk, .junk, .junk, .junk, .junk, .junk, .junk, .junk, .junk, .junk, .junk, .junk, .junk, .junk, .junk, .junk], [⟨true, .sl false 1 ((m.take k).map frow)⟩]⟩) ?_ (by simp [sub, slotsLe, clean, keep, refsL, refs, once, place, renL, ren, List.replicate, int, bool, fracss]) ?_ ?_ ?_
  · omega
  · trivial
  · intro k hk _ hwk
    have hrl := (ht0.row k hk).2
    have ht := htr k hk
    have hb : (k + 1 ≤ 4611686018427387904 ∧ (k + 1) * 24 ≤ 140737488355328) ∧ m.length ≤ 4611686018427387904 ∧ m.length * 16 ≤ 140737488355328 := by omega
    have hl1 : ((m.take k).map frow).length = k := by simp; omega
    have hl2 : ((m.take (k + 1)).map frow).length = k + 1 := by simp; omega
    generalize (m.take (k + 1)).map frow = L' at *
    generalize (m.take k).map frow = L at *
    simp (config := {contextual := true}) [List.range, List.range.loop, ints, intss, int, bool, row, frac, fracs, ← List.map_take, ← List.map_drop, List.all, fracss, frow, hk, hwk, hrl, ht, hb, hl1, hl2]
    done
  intro _
  rw [List.take_length]
  simp (config := {contextual := true}) [List.range, List.range.loop, ints, intss, int, bool, row, frac, fracs, ← List.map_take, ← List.map_drop, List.all, fracss]
  refine awp_loop_of (live := [true, false, true, true, true, false, true, true, true, true, true, true, true, true, true, true, true, false, false, true, false, true, true, true, true, false, false, false, false, false, false, false, false, false, false, false, false, false, false, false, false, false, true, false, false, false, false, false, false, false, false, false, true, true, true, true, false, false, false, false, false, false, false, false, false, false, false, false, false, true, true, true, true, false, false, false, false, false, false, false, false, false, false, false, false, false, false, false, false, true]) (ctxV_ok eqOk hG hM hV) mixed [false, false, false, false, true, false, false, true] (α := SpSt m.length R) (fun st => ⟨[.junk, .junk, .junk, .junk, .ref 0 [] 0 m.length, .junk, .junk, .ref 1 [] 0 st.out.length, .junk, .junk, .junk, .junk, .junk, .junk, .junk, .junk, .junk, .junk, .junk, .junk, .junk, .junk, .junk, .junk, .junk, .junk, .junk, .junk, .junk, .junk, .junk, .junk, .junk, .junk, .junk, .junk, .junk, .junk, .junk, .junk, .junk, .junk, .junk, .junk, .junk, .junk, .junk, .junk, .junk, .junk, .junk, .junk, .junk, .junk, .junk, .junk, .junk, .junk, .junk, .junk, .junk, .junk, .junk, .junk, .junk, .junk, .junk, .junk, .junk, .junk, .junk, .junk, .junk, .junk, .junk, .junk, .junk, .junk, .junk, .junk, .junk, .junk, .junk, .junk, .junk, .junk, .junk, .junk, .junk, .junk, .junk, .junk, .junk, .junk, .junk, .junk, .junk, .junk, .junk, .junk, .junk, .junk, .junk, .junk], [⟨true, .sl false 1 (st.m.map frow)⟩, ⟨true, .sl false 3 (st.out.map tick)⟩]⟩) (fun st => cntP st.m) ⟨m, [], hs0, fun _ => he0⟩ (by simp [sub, slotsLe, clean, keep, refsL, refs, once, place, renL, ren, List.replicate, int, bool, fracss]) ?_
  rintro ⟨T, out, hok, hne⟩
  simp only
  have hTl := hok.ln
  have hml : (T.map frow).length = m.length := by simp [hTl]
  have htk : List.take m.length (T.map frow) = T.map frow := List.take_of_length_le (by omega)
  have hex := mExchS_at T hok.tab
  cases he : exO T with
  | none =>
    have hdone := spl_done hok he
    rw [he] at hex
    simp only [exA] at hex
    subst hdone
    have hto : List.take out.length (out.map tick) = out.map tick := List.take_of_length_le (by simp)
    simp (config := {contextual := true}) [List.range, List.range.loop, ints, intss, int, bool, row, frac, fracs, ← List.map_take, ← List.map_drop, List.all, hTl, htk, hex, splAW, hto]
    done
  | some l =>
  rw [he] at hex
  simp only [exA] at hex
  obtain ⟨hrk, hpl⟩ := spl_rank hok he
  obtain ⟨s, hts⟩ := hok.tab
  have hrk' : rankB T.length l = true := by rw [hTl]; exact hrk
  have hll : l.length = m.length := by have := (rank_facts hrk).2.2.1; omega
  obtain ⟨x0, ex0, hx0⟩ := rk_at hrk' hts.n1
  have hT0 : 0 < T.length := hts.n1
  have hl0 : 0 < l.length := by omega
  have hm0 : 0 < m.length := by omega
  have hx0' : x0 < (T[0]).2.length := by rw [(hts.row 0 hT0).2]; exact hx0
  have hlx0 : l[0] = (x0 : Int) := by rw [← at0_eq hl0]; exact ex0
  have hst0 : lstTo T l 0 = (T[0]).2[x0] := by rw [lstTo, ex0, Int.toNat_natCast, cel0_at hT0 hx0']
  have hll2 : (l.map int).length = l.length := by simp
  have htl : List.take l.length (l.map int) = l.map int := List.take_of_length_le (by simp)
  have hfew := hok.few
  have hrT0 := (hts.row 0 hT0).1
  simp (config := {maxSteps := 1000000}) [List.range, List.range.loop, ints, intss, int, bool, row, frac, fracs, ← List.map_take, ← List.map_drop, List.all, hTl, htk, hex, frow, frac, hl0, hT0, hm0, hx0', hlx0]
  refine awp_range (live := [true, false, true, true, true, false, true, true, true, true, true, true, true, true, true, true, true, false, false, true, false, true, true, true, true, false, false, false, false, false, false, false, false, false, false, false, false, false, false, false, false, false, true, false, false, false, false, false, false, false, false, false, true, true, true, true, false, false, false, false, false, false, false, false, false, false, false, false, false, true, true, true, true, false, false, false, false, false, false, false, false, false, false, false, false, false, false, false, false, true]) (ctxV_ok eqOk hG hM hV) mixed [false, false, false, false, true, false, false, true, true, false, true, false, false, false, false, false, false, false, false, false, false, false, false, false, false, false, false, false, false, false, false, false, false, false, false, false, false, false, false, false, false, false, false, false, false, false, false, false, false, false, false, false, true, true, true] (l.length) (fun k => True) (fun k => ⟨[.junk, .junk, .junk, .junk, .ref 0 [] 0 m.length, .junk, .junk, .ref 1 [] 0 out.length, .ref 2 [] 0 l.length, .junk, .ptr 3 [] 0 0, .junk, .junk, .junk, .junk, .junk, .junk, .junk, .junk, .junk, .junk, .junk, .junk, .junk, .junk, .junk, .junk, .junk, .junk, .junk, .junk, .junk, .junk, .junk, .junk, .junk, .junk, .junk, .junk, .junk, .junk, .junk, .junk, .junk, .junk, .junk, .junk, .junk, .junk, .junk, .junk, .junk, .ref 2 [] 0 l.length, int l.length, int k, .junk, .junk, .junk, .junk, .junk, .junk, .junk, .junk, .junk, .junk, .junk, .junk, .junk, .junk, .junk, .junk, .junk, .junk, .junk, .junk, .junk, .junk, .junk, .junk, .junk, .junk, .junk, .junk, .junk, .junk, .junk, .junk, .junk, .junk, .junk, .junk, .junk, .junk, .junk, .junk, .junk, .junk, .junk, .junk, .junk, .junk, .junk, .junk, .junk], [⟨true, .sl false 1 (T.map frow)⟩, ⟨true, .sl false 3 (out.map tick)⟩, ⟨true, .sl false 1 (l.map int)⟩, ⟨true, .sl false 2 [frac (lstTo T l k)]⟩]⟩) ?_ (by simp [sub, slotsLe, clean, keep, refsL, refs, once, place, renL, ren, List.replicate, int, bool, frac, hst0]) ?_ ?_ ?_
  · omega
  · trivial
  · intro k hk _ hwk
    have hkT : k < T.length := by omega
    have hkm : k < m.length := by omega
    obtain ⟨x, ex, hx⟩ := rk_at hrk' hkT
    have hx' : x < (T[k]).2.length := by rw [(hts.row k hkT).2]; exact hx
    have hlx : l[k] = (x : Int) := by rw [← at0_eq hk]; exact ex
    have hs : lstTo T l (k + 1) = lesF (lstTo T l k) (T[k]).2[x] := by rw [lstTo, ex, Int.toNat_natCast, cel0_at hkT hx']
    rw [hs]
    have hle := mLesF_at (lstTo T l k).1 (lstTo T l k).2 (T[k]).2[x].1 (T[k]).2[x].2
    rw [show (((lstTo T l k).1, (lstTo T l k).2) : Int × Int) = lstTo T l k from rfl, show (((T[k]).2[x].1, (T[k]).2[x].2) : Int × Int) = (T[k]).2[x] from rfl] at hle
    simp (config := {maxSteps := 1000000}) [List.range, List.range.loop, ints, intss, int, bool, row, frac, fracs, ← List.map_take, ← List.map_drop, List.all, hTl, frow, frac, hk, hkT, hkm, hwk, hlx, hx', hle]
    done
  intro _
  have hw : lstTo T l l.length = lstF T l := by unfold lstF; rw [hll, hTl]
  rw [hw]
  have hwok := (lst_ok hts hrk').1
  have hfail : (¬ ∀ i, i < T.length → (subF (cel0 T i (at0 l i).toNat) (lstF T l)).2 = true) → R = ([], false) := fun q => spl_fail hok he (by
    cases e : subOk T l (lstF T l) with
    | false => rfl
    | true => exact (q fun i hi => allR_at e hi).elim)
  simp (config := {maxSteps := 1000000}) [List.range, List.range.loop, ints, intss, int, bool, row, frac, fracs, ← List.map_take, ← List.map_drop, List.all]
  refine awp_range (live := [true, false, true, true, true, false, true, true, true, true, true, true, true, true, true, true, true, false, false, true, false, true, true, true, true, false, false, false, false, false, false, false, false, false, false, false, false, false, false, false, false, false, true, false, false, false, false, false, false, false, false, false, true, true, true, true, false, false, false, false, false, false, false, false, false, false, false, false, false, true, true, true, true, false, false, false, false, false, false, false, false, false, false, false, false, false, false, false, false, true]) (ctxV_ok eqOk hG hM hV) mixed [false, false, false, false, true, false, false, true, true, false, true, false, false, false, false, false, false, false, false, false, false, false, false, false, false, false, false, false, false, false, false, false, false, false, false, false, false, false, false, false, false, false, false, false, false, false, false, false, false, false, false, false, false, false, false, false, false, false, false, false, false, false, false, false, false, false, false, false, false, true, true, true] (l.length) (fun k => ∀ i, i < k → (subF (cel0 T i (at0 l i).toNat) (lstF T l)).2 = true) (fun k => ⟨[.junk, .junk, .junk, .junk, .ref 0 [] 0 m.length, .junk, .junk, .ref 1 [] 0 out.length, .ref 2 [] 0 l.length, .junk, .ptr 3 [] 0 0, .junk, .junk, .junk, .junk, .junk, .junk, .junk, .junk, .junk, .junk, .junk, .junk, .junk, .junk, .junk, .junk, .junk, .junk, .junk, .junk, .junk, .junk, .junk, .junk, .junk, .junk, .junk, .junk, .junk, .junk, .junk, .junk, .junk, .junk, .junk, .junk, .junk, .junk, .junk, .junk, .junk, .junk, .junk, .junk, .junk, .junk, .junk, .junk, .junk, .junk, .junk, .junk, .junk, .junk, .junk, .junk, .junk, .junk, .ref 2 [] 0 l.length, int l.length, int k, .junk, .junk, .junk, .junk, .junk, .junk, .junk, .junk, .junk, .junk, .junk, .junk, .junk, .junk, .junk, .junk, .junk, .junk, .junk, .junk, .junk, .junk, .junk, .junk, .junk, .junk, .junk, .junk, .junk, .junk, .junk, .junk], [⟨true, .sl false 1 ((subTab T l (lstF T l) k).map frow)⟩, ⟨true, .sl false 3 (out.map tick)⟩, ⟨true, .sl false 1 (l.map int)⟩, ⟨true, .sl false 2 [frac (lstF T l)]⟩]⟩) ?_ (by simp [sub, slotsLe, clean, keep, refsL, refs, once, place, renL, ren, List.replicate, int, bool, frac, subTab_zero]) ?_ ?_ ?_
  · omega
  · intro i hi; omega
  · intro k hk hp hwk
    have hkT : k < T.length := by omega
    have hkm : k < m.length := by omega
    obtain ⟨x, ex, hx⟩ := rk_at hrk' hkT
    have hx' : x < (T[k]).2.length := by rw [(hts.row k hkT).2]; exact hx
    have hlx : l[k] = (x : Int) := by rw [← at0_eq hk]; exact ex
    have hc : cel0 T k (at0 l k).toNat = (T[k]).2[x] := by rw [ex, Int.toNat_natCast, cel0_at hkT hx']
    have hsl := subTab_len (m := T) (l := l) (w := lstF T l) (k := k)
    have hsl2 := subTab_len (m := T) (l := l) (w := lstF T l) (k := k + 1)
    have hso := fun h' => subTab_old (m := T) (l := l) (w := lstF T l) hkT h'
    have hset := subTab_set (m := T) (l := l) (w := lstF T l) hkT
    rw [hc, show (at0 l k).toNat = x by rw [ex]; rfl] at hset
    have hmin := mMinus_at (T[k]).2[x].1 (T[k]).2[x].2 (lstF T l).1 (lstF T l).2 hwok
    rw [show (((lstF T l).1, (lstF T l).2) : Int × Int) = lstF T l from rfl, show (((T[k]).2[x].1, (T[k]).2[x].2) : Int × Int) = (T[k]).2[x] from rfl] at hmin
    have hrk1 := (hts.row k hkT).1
    rw [hTl] at hsl hsl2
    generalize subTab T l (lstF T l) k = A at *
    generalize subTab T l (lstF T l) (k + 1) = B at *
    generalize lstF T l = w at *
    cases hb : (subF (T[k]).2[x] w).2 with
    | false =>
      have hf := hfail (fun q => by
        have := q k hkT
        rw [hc, hb] at this
        exact Bool.noConfusion this)
      subst hf
      rw [hb] at hmin
      simp (config := {maxSteps := 1000000}) [List.range, List.range.loop, ints, intss, int, bool, row, frac, fracs, ← List.map_take, ← List.map_drop, List.all, hTl, frow, frac, hk, hkT, hkm, hwk, hlx, hx', hsl, hso, hmin, splAW]
      done
    | true =>
      have hp' : ∀ i, i < k + 1 → (subF (cel0 T i (at0 l i).toNat) w).2 = true := fun i hi => by
        by_cases e : i = k
        · subst e; rw [hc]; exact hb
        · exact hp i (by omega)
      rw [hb] at hmin
      have hset2 : ((T[k]).2.map frac).set x (.agg [.v (.int .i64 (subF (T[k]).2[x] w).1.1), .v (.int .i64 (subF (T[k]).2[x] w).1.2)]) = (((T[k]).2.set x (subF (T[k]).2[x] w).1).map frac) := by rw [List.map_set]; rfl
      generalize (T[k]).2.set x (subF (T[k]).2[x] w).1 = row' at *
      simp (config := {maxSteps := 1000000}) [List.range, List.range.loop, ints, intss, int, bool, row, frac, fracs, ← List.map_take, ← List.map_drop, List.all, hTl, frow, frac, hk, hkT, hkm, hwk, hlx, hx', hsl, hsl2, hso, hmin, hset2, hset, hrk1]
      exact hp'
  intro hp
  have hsub : subOk T l (lstF T l) = true := allR_yes fun i hi => hp i (by omega)
  obtain ⟨hnx, hdec⟩ := spl_next hok he hsub
  have hsT : subTab T l (lstF T l) l.length = stepT T l := by unfold stepT; rw [hll, hTl]
  rw [hsT]
  have hsn := tk_snoc (out := out) (w := lstF T l) (l := l)
  have hol : (out.map tick).length = out.length := by simp
  have hb : out.length + 1 ≤ 4611686018427387904 ∧ (out.length + 1) * 40 ≤ 140737488355328 := by omega
  have hto : List.take out.length (out.map tick) = out.map tick := List.take_of_length_le (by simp)
  simp (config := {maxSteps := 1000000}) [List.range, List.range.loop, ints, intss, int, bool, row, frac, fracs, ← List.map_take, ← List.map_drop, List.all, frac, htl, hto, hb, hsn]
  exact ⟨⟨stepT T l, out ++ [(lstF T l, false, l)], hnx, fun h => by simp at h⟩, by simp [sub, slotsLe, clean, keep, refsL, refs, once, place, renL, ren, List.replicate, int, bool], hdec⟩

end Go.Proofs.Ytkfgmpmeipilnaa.Ax

/-
  Contract: SplitLottery of the program. No condition.
-/
namespace Go.Proofs.Ytkfgmpmeipilnaa.Ax
open Go Go.RowKit
set_option linter.unusedSimpArgs false

def kOut (out : List Tk) : List Tok := [⟨true, .sl false 3 (out.map tick)⟩]

set_option maxRecDepth 16000 in
set_option maxHeartbeats 8000000 in
theorem implSpl_ok : FnOk Try.prog 35 mSpl := by
  refine mk_ok fun ⟨nl, m⟩ _ => ?_
  simp only
  unfold splT
  have hG : FnsOk Try.prog [(65, mLot), (86, mCopyL), (87, mTaken), (69, mAllRk), (88, mIdxT), (90, mLeast), (81, mMinus)] := (.cons implLot_ok (.cons copyL_ok (.cons isTaken_ok (.cons implAllRankings_ok (.cons idxT_ok (.cons least_ok (.cons minus_ok .nil)))))))
  cases hlot : lotB m with
  | false =>
    simp only [Bool.false_eq_true, if_false]
    refine splAW_ok ?_
    refine callOk_awp (ctx_ok eqOk hG) mixed (live := [true, false, true, true, true, true, true, true, true, true, true, true, false, false, true, false, false, false, false, true, false, false, false, false, false, false, true, false, false, false, false, false, false, false, false, false, false, false, false, false, true, true, true, true, false, false, false, false, false, false, false, false, false, false, false, false, false, false, false, false, false, true]) (dt := [(14, ⟨[(12, 14)], [0, 0, 0, 0, 0, 0, 0, 0, 0, 0, 0, 0, 0, 1], []⟩), (17, ⟨[], [], []⟩)]) Try.func35 rfl (by kernel_rfl) (by kernel_rfl) fun w0 hlens => ?_
    clear hlens
    simp (config := {contextual := true}) [Try.f35, List.range, List.range.loop, ints, intss, int, bool, row, frac, fracs, ← List.map_take, ← List.map_drop, fracss, mLot_at, hlot, splAW]
  | true =>
  simp only [if_true]
  generalize hR : splR 16 m [] = R
  refine splAW_ok ?_
  refine callOk_awp (ctx_ok eqOk hG) mixed (live := [true, false, true, true, true, true, true, true, true, true, true, true, false, false, true, false, false, false, false, true, false, false, false, false, false, false, true, false, false, false, false, false, false, false, false, false, false, false, false, false, true, true, true, true, false, false, false, false, false, false, false, false, false, false, false, false, false, false, false, false, false, true]) (dt := [(14, ⟨[(12, 14)], [0, 0, 0, 0, 0, 0, 0, 0, 0, 0, 0, 0, 0, 1], []⟩), (17, ⟨[], [], []⟩)]) Try.func35 rfl (by kernel_rfl) (by kernel_rfl) fun w0 hlens => ?_
  have hflag := lot_flag hlot (lens_fracss.1 hlens.1).2
  clear hlens
  have ht0 := lot_tab hlot hflag
  have hn1 := ht0.n1
  have hn4 := ht0.n4
  obtain ⟨hs0, he0⟩ := spl_start hlot hflag
  rw [hR] at hs0
  have hcp := mCopyL_at nl m ⟨hn1, by omega, fun r hr => ⟨hflag r hr, by
    obtain ⟨i, hi, rfl⟩ := List.getElem_of_mem hr
    rw [(ht0.row i hi).2]; omega⟩⟩
  have hin : inR 1 5 (m.length : Int) = true := by simp [inR]; omega
  simp (config := {contextual := true}) [Try.f35, List.range, List.range.loop, ints, intss, int, bool, row, frac, fracs, ← List.map_take, ← List.map_drop, fracss, mLot_at, hlot, hcp]
  refine awp_loop_of (live := [true, false, true, true, true, true, true, true, true, true, true, true, false, false, true, false, false, false, false, true, false, false, false, false, false, false, true, false, false, false, false, false, false, false, false, false, false, false, false, false, true, true, true, true, false, false, false, false, false, false, false, false, false, false, false, false, false, false, false, false, false, true]) (ctx_ok eqOk hG) mixed [true, false, false, false, true, true] (α := SpSt m.length R) (fun st => ⟨[fracss nl m, .junk, .junk, .junk, .ptr 0 [] 0 0, tkA 1 st.out, .junk, .junk, .junk, .junk, .junk, .junk, .junk, .junk, .junk, .junk, .junk, .junk, .junk, .junk, .junk, .junk, .junk, .junk, .junk, .junk, .junk, .junk, .junk, .junk, .junk, .junk, .junk, .junk, .junk, .junk, .junk, .junk, .junk, .junk, .junk, .junk, .junk, .junk, .junk, .junk, .junk, .junk, .junk, .junk, .junk, .junk, .junk, .junk, .junk, .junk, .junk, .junk, .junk, .junk, .junk, .junk, .junk, .junk, .junk, .junk, .junk, .junk, .junk, .junk, .junk, .junk, .junk, .junk, .junk], ⟨true, .sl false 1 [.sl false 1 (st.m.map frow)]⟩ :: tkT st.out⟩) (fun st => cntP st.m) ⟨m, [], hs0, fun _ => he0⟩ (by simp [sub, slotsLe, clean, keep, refsL, refs, once, place, renL, ren, List.replicate, int, bool, fracss, tkA, tkT]) ?_
  rintro ⟨T, out, hok, hne⟩
  simp only
  have hTl := hok.ln
  obtain ⟨s, hts⟩ := hok.tab
  have htkn := mTaken_at false T (cat_len hts)
  have htk : List.take m.length (T.map frow) = T.map frow := List.take_of_length_le (by simp [hTl])
  have hto : List.take out.length (out.map tick) = out.map tick := List.take_of_length_le (by simp)
  rw [tak_ex hts] at htkn
  cases he : exO T with
  | none =>
    have hdone := spl_done hok he
    rw [he] at htkn
    simp only [Option.isNone_none] at htkn
    subst hdone
    have hon : out ≠ [] := fun h => hne h he
    rw [tkA_ne hon, tkT_ne hon]
    simp (config := {contextual := true}) [List.range, List.range.loop, ints, intss, int, bool, row, frac, fracs, ← List.map_take, ← List.map_drop, fracss, hTl, htk, htkn, splAW, hto]
    done
  | some l =>
  rw [he] at htkn
  simp only [Option.isNone_some] at htkn
  obtain ⟨hrk, hpl⟩ := spl_rank hok he
  have hrk' : rankB T.length l = true := by rw [hTl]; exact hrk
  have hll : l.length = m.length := by have := (rank_facts hrk).2.2.1; omega
  obtain ⟨k0, hk0, hek, hidx⟩ : ∃ (k : Nat) (hk : k < (allRk m.length).length), (allRk m.length)[k].2 = l ∧ idxOf (fun o => posL T o.2) (allRk m.length) = k := by
    rcases idx_ex (m := T) with ⟨h1, _⟩ | ⟨k, hk, h1, h2⟩
    · rw [he] at h1; simp at h1
    · rw [he] at h1
      simp only [Option.some.injEq] at h1
      simp only [hTl] at hk h1 h2
      exact ⟨k, hk, h1.symm, h2⟩
  have hidxm := mIdxT_at T ⟨s, hts⟩
  rw [hTl, hidx] at hidxm
  have hrkA := mAllRk_at (m.length : Int)
  rw [hin] at hrkA
  have hkf := (allRk_rk hn1 hn4 _ (List.getElem_mem hk0)).1
  have hlr := fun nl' => mLeast_at false T nl' l ⟨⟨by omega, by omega⟩, by omega, fun i hi => by
    obtain ⟨x, e, hx⟩ := rk_at hrk' hi
    exact ⟨x, e, by rw [(hts.row i hi).2]; exact hx, by rw [← tab_cel hts hi hx]; exact (hts.ok i x hi hx).1⟩⟩
  have hrow0 : row (allRk (m.length : Int))[k0] = .sl false 1 (l.map int) := by unfold row; rw [hkf, hek]
  have hllm : ((allRk (m.length : Int))[k0]).2.length = l.length := by rw [hek]
  have hfew := hok.few
  have hwok := (lst_ok hts hrk').1
  have hfail : (¬ ∀ i, i < T.length → (subF (cel0 T i (at0 l i).toNat) (lstF T l)).2 = true) → R = ([], false) := fun q => spl_fail hok he (by
    cases e : subOk T l (lstF T l) with
    | false => rfl
    | true => exact (q fun i hi => allR_at e hi).elim)
  have htl : List.take l.length (l.map int) = l.map int := List.take_of_length_le (by simp)
  generalize allRk (m.length : Int) = AR at *
  have hm0 : 0 < m.length := by omega
  have hk00 : ¬ ((k0 : Int) < 0) := by omega
  have hsT : subTab T l (lstF T l) l.length = stepT T l := by unfold stepT; rw [hll, hTl]
  by_cases hon : out = []
  · subst hon
    rw [show tkA 1 ([] : List Tk) = .sl true 1 [] from rfl,show tkT ([] : List Tk) = [] from rfl]
    simp (config := {maxSteps := 1000000}) [List.range, List.range.loop, ints, intss, int, bool, row, frac, fracs, ← List.map_take, ← List.map_drop, fracss, hTl, htk, htkn, hrkA, hidxm, hlr, hk00, hk0, hkf, hek, hllm, htl, hm0, row]
    refine awp_range (live := [true, false, true, true, true, true, true, true, true, true, true, true, false, false, true, false, false, false, false, true, false, false, false, false, false, false, true, false, false, false, false, false, false, false, false, false, false, false, false, false, true, true, true, true, false, false, false, false, false, false, false, false, false, false, false, false, false, false, false, false, false, true]) (ctx_ok eqOk hG) mixed [true, false, false, false, true, true, false, true, false, false, false, false, false, false, false, false, false, false, false, false, false, false, false, false, false, false, false, false, false, false, false, false, false, false, false, false, false, false, false, false, true, true, true] (l.length) (fun k => ∀ i, i < k → (subF (cel0 T i (at0 l i).toNat) (lstF T l)).2 = true) (fun k => ⟨[fracss nl m, .junk, .junk, .junk, .ptr 0 [] 0 0, .sl true 1 [], .junk, .ptr 1 [] 0 0, .junk, .junk, .junk, .junk, .junk, .junk, .junk, .junk, .junk, .junk, .junk, .junk, .junk, .junk, .junk, .junk, .junk, .junk, .junk, .junk, .junk, .junk, .junk, .junk, .junk, .junk, .junk, .junk, .junk, .junk, .junk, .junk, .ref 1 [(0, 2)] 0 l.length, int l.length, int k, .junk, .junk, .junk, .junk, .junk, .junk, .junk, .junk, .junk, .junk, .junk, .junk, .junk, .junk, .junk, .junk, .junk, .junk, .junk, .junk, .junk, .junk, .junk, .junk, .junk, .junk, .junk, .junk, .junk, .junk, .junk, .junk], [⟨true, .sl false 1 [.sl false 1 ((subTab T l (lstF T l) k).map frow)]⟩] ++ [] ++ [⟨true, .sl false 3 [tick (lstF T l, false, l)]⟩]⟩) ?_ (by simp [sub, slotsLe, clean, keep, refsL, refs, once, place, renL, ren, List.replicate, int, bool, fracss, kOut, tick, subTab_zero]) ?_ ?_ ?_
    · omega
    · intro i hi; omega
    · intro k hk hp hwk
      have hkT : k < T.length := by omega
      have hkm : k < m.length := by omega
      obtain ⟨x, ex, hx⟩ := rk_at hrk' hkT
      have hx' : x < (T[k]).2.length := by rw [(hts.row k hkT).2]; exact hx
      have hlx : l[k] = (x : Int) := by rw [← at0_eq hk]; exact ex
      have hc : cel0 T k (at0 l k).toNat = (T[k]).2[x] := by rw [ex, Int.toNat_natCast, cel0_at hkT hx']
      have hsl := subTab_len (m := T) (l := l) (w := lstF T l) (k := k)
      have hsl2 := subTab_len (m := T) (l := l) (w := lstF T l) (k := k + 1)
      have hso := fun h' => subTab_old (m := T) (l := l) (w := lstF T l) hkT h'
      have hset := subTab_set (m := T) (l := l) (w := lstF T l) hkT
      rw [hc, show (at0 l k).toNat = x by rw [ex]; rfl] at hset
      have hmin := mMinus_at (T[k]).2[x].1 (T[k]).2[x].2 (lstF T l).1 (lstF T l).2 hwok
      rw [show (((lstF T l).1, (lstF T l).2) : Int × Int) = lstF T l from rfl, show (((T[k]).2[x].1, (T[k]).2[x].2) : Int × Int) = (T[k]).2[x] from rfl] at hmin
      have hrk1 := (hts.row k hkT).1
      rw [hTl] at hsl hsl2
      clear hidxm hlr hsT
      generalize subTab T l (lstF T l) k = A at *
      generalize subTab T l (lstF T l) (k + 1) = B at *
      generalize lstF T l = w at *
      cases hb : (subF (T[k]).2[x] w).2 with
      | false =>
        have hf := hfail (fun q => by
          have := q k hkT
          rw [hc, hb] at this
          exact Bool.noConfusion this)
        subst hf
        rw [hb] at hmin
        simp (config := {maxSteps := 1000000}) [List.range, List.range.loop, ints, intss, int, bool, row, frac, fracs, ← List.map_take, ← List.map_drop, fracss, kOut, tick, hTl, frow, frac, hk, hkT, hkm, hwk, hlx, hx', hsl, hso, hmin, splAW]
        done
      | true =>
        have hp' : ∀ i, i < k + 1 → (subF (cel0 T i (at0 l i).toNat) w).2 = true := fun i hi => by
          by_cases e : i = k
          · subst e; rw [hc]; exact hb
          · exact hp i (by omega)
        rw [hb] at hmin
        have hset2 : ((T[k]).2.map frac).set x (.agg [.v (.int .i64 (subF (T[k]).2[x] w).1.1), .v (.int .i64 (subF (T[k]).2[x] w).1.2)]) = (((T[k]).2.set x (subF (T[k]).2[x] w).1).map frac) := by rw [List.map_set]; rfl
        generalize (T[k]).2.set x (subF (T[k]).2[x] w).1 = row' at *
        simp (config := {maxSteps := 1000000}) [List.range, List.range.loop, ints, intss, int, bool, row, frac, fracs, ← List.map_take, ← List.map_drop, fracss, kOut, tick, hTl, frow, frac, hk, hkT, hkm, hwk, hlx, hx', hsl, hsl2, hso, hmin, hset2, hset, hrk1]
        exact hp'
    intro hp
    have hsub : subOk T l (lstF T l) = true := allR_yes fun i hi => hp i (by omega)
    obtain ⟨hnx, hdec⟩ := spl_next hok he hsub
    rw [hsT]
    have hsn := tk_snoc (out := ([] : List Tk)) (w := lstF T l) (l := l)
    have hb : 0 + 1 ≤ 4611686018427387904 ∧ (0 + 1) * 40 ≤ 140737488355328 := by omega
    have hne2 : ([] : List Tk) ++ [(lstF T l, false, l)] ≠ [] := by simp
    have hlo : (([] : List Tk) ++ [(lstF T l, false, l)]).length = 0 + 1 := by simp
    have hti : tick (lstF T l, false, l) = .agg [.v (.int .i64 (lstF T l).1), .v (.int .i64 (lstF T l).2), .sl false 1 (l.map int)] := rfl
    generalize ([] : List Tk) ++ [(lstF T l, false, l)] = out' at *
    try simp only [List.map_nil, List.nil_append] at hsn
    simp (config := {maxSteps := 1000000}) [List.range, List.range.loop, ints, intss, int, bool, row, frac, fracs, ← List.map_take, ← List.map_drop, fracss, kOut, hti, frac, htl, hto, hb, hb]
    refine ⟨⟨stepT T l, out', hnx, fun h => absurd h hne2⟩, ?_, hdec⟩
    simp only [tkA_ne hne2, tkT_ne hne2]
    simp [sub, slotsLe, clean, keep, refsL, refs, once, place, renL, ren, List.replicate, int, bool, fracss, hlo, hsn]
  · skip
    rw [tkA_ne hon,tkT_ne hon]
    simp (config := {maxSteps := 1000000}) [List.range, List.range.loop, ints, intss, int, bool, row, frac, fracs, ← List.map_take, ← List.map_drop, fracss, hTl, htk, htkn, hrkA, hidxm, hlr, hk00, hk0, hkf, hek, hllm, htl, hm0, row]
    refine awp_range (live := [true, false, true, true, true, true, true, true, true, true, true, true, false, false, true, false, false, false, false, true, false, false, false, false, false, false, true, false, false, false, false, false, false, false, false, false, false, false, false, false, true, true, true, true, false, false, false, false, false, false, false, false, false, false, false, false, false, false, false, false, false, true]) (ctx_ok eqOk hG) mixed [true, false, false, false, true, true, false, true, false, false, false, false, false, false, false, false, false, false, false, false, false, false, false, false, false, false, false, false, false, false, false, false, false, false, false, false, false, false, false, false, true, true, true] (l.length) (fun k => ∀ i, i < k → (subF (cel0 T i (at0 l i).toNat) (lstF T l)).2 = true) (fun k => ⟨[fracss nl m, .junk, .junk, .junk, .ptr 0 [] 0 0, .ref 1 [] 0 out.length, .junk, .ptr 2 [] 0 0, .junk, .junk, .junk, .junk, .junk, .junk, .junk, .junk, .junk, .junk, .junk, .junk, .junk, .junk, .junk, .junk, .junk, .junk, .junk, .junk, .junk, .junk, .junk, .junk, .junk, .junk, .junk, .junk, .junk, .junk, .junk, .junk, .ref 2 [(0, 2)] 0 l.length, int l.length, int k, .junk, .junk, .junk, .junk, .junk, .junk, .junk, .junk, .junk, .junk, .junk, .junk, .junk, .junk, .junk, .junk, .junk, .junk, .junk, .junk, .junk, .junk, .junk, .junk, .junk, .junk, .junk, .junk, .junk, .junk, .junk, .junk], [⟨true, .sl false 1 [.sl false 1 ((subTab T l (lstF T l) k).map frow)]⟩] ++ kOut out ++ [⟨true, .sl false 3 [tick (lstF T l, false, l)]⟩]⟩) ?_ (by simp [sub, slotsLe, clean, keep, refsL, refs, once, place, renL, ren, List.replicate, int, bool, fracss, kOut, tick, subTab_zero]) ?_ ?_ ?_
    · omega
    · intro i hi; omega
    · intro k hk hp hwk
      have hkT : k < T.length := by omega
      have hkm : k < m.length := by omega
      obtain ⟨x, ex, hx⟩ := rk_at hrk' hkT
      have hx' : x < (T[k]).2.length := by rw [(hts.row k hkT).2]; exact hx
      have hlx : l[k] = (x : Int) := by rw [← at0_eq hk]; exact ex
      have hc : cel0 T k (at0 l k).toNat = (T[k]).2[x] := by rw [ex, Int.toNat_natCast, cel0_at hkT hx']
      have hsl := subTab_len (m := T) (l := l) (w := lstF T l) (k := k)
      have hsl2 := subTab_len (m := T) (l := l) (w := lstF T l) (k := k + 1)
      have hso := fun h' => subTab_old (m := T) (l := l) (w := lstF T l) hkT h'
      have hset := subTab_set (m := T) (l := l) (w := lstF T l) hkT
      rw [hc, show (at0 l k).toNat = x by rw [ex]; rfl] at hset
      have hmin := mMinus_at (T[k]).2[x].1 (T[k]).2[x].2 (lstF T l).1 (lstF T l).2 hwok
      rw [show (((lstF T l).1, (lstF T l).2) : Int × Int) = lstF T l from rfl, show (((T[k]).2[x].1, (T[k]).2[x].2) : Int × Int) = (T[k]).2[x] from rfl] at hmin
      have hrk1 := (hts.row k hkT).1
      rw [hTl] at hsl hsl2
      clear hidxm hlr hsT
      generalize subTab T l (lstF T l) k = A at *
      generalize subTab T l (lstF T l) (k + 1) = B at *
      generalize lstF T l = w at *
      cases hb : (subF (T[k]).2[x] w).2 with
      | false =>
        have hf := hfail (fun q => by
          have := q k hkT
          rw [hc, hb] at this
          exact Bool.noConfusion this)
        subst hf
        rw [hb] at hmin
        simp (config := {maxSteps := 1000000}) [List.range, List.range.loop, ints, intss, int, bool, row, frac, fracs, ← List.map_take, ← List.map_drop, fracss, kOut, tick, hTl, frow, frac, hk, hkT, hkm, hwk, hlx, hx', hsl, hso, hmin, splAW]
        done
      | true =>
        have hp' : ∀ i, i < k + 1 → (subF (cel0 T i (at0 l i).toNat) w).2 = true := fun i hi => by
          by_cases e : i = k
          · subst e; rw [hc]; exact hb
          · exact hp i (by omega)
        rw [hb] at hmin
        have hset2 : ((T[k]).2.map frac).set x (.agg [.v (.int .i64 (subF (T[k]).2[x] w).1.1), .v (.int .i64 (subF (T[k]).2[x] w).1.2)]) = (((T[k]).2.set x (subF (T[k]).2[x] w).1).map frac) := by rw [List.map_set]; rfl
        generalize (T[k]).2.set x (subF (T[k]).2[x] w).1 = row' at *
        simp (config := {maxSteps := 1000000}) [List.range, List.range.loop, ints, intss, int, bool, row, frac, fracs, ← List.map_take, ← List.map_drop, fracss, kOut, tick, hTl, frow, frac, hk, hkT, hkm, hwk, hlx, hx', hsl, hsl2, hso, hmin, hset2, hset, hrk1]
        exact hp'
    intro hp
    have hsub : subOk T l (lstF T l) = true := allR_yes fun i hi => hp i (by omega)
    obtain ⟨hnx, hdec⟩ := spl_next hok he hsub
    rw [hsT]
    have hsn := tk_snoc (out := out) (w := lstF T l) (l := l)
    have hb : out.length + 1 ≤ 4611686018427387904 ∧ (out.length + 1) * 40 ≤ 140737488355328 := by omega
    have hne2 : out ++ [(lstF T l, false, l)] ≠ [] := by simp
    have hlo : (out ++ [(lstF T l, false, l)]).length = out.length + 1 := by simp
    have hti : tick (lstF T l, false, l) = .agg [.v (.int .i64 (lstF T l).1), .v (.int .i64 (lstF T l).2), .sl false 1 (l.map int)] := rfl
    generalize out ++ [(lstF T l, false, l)] = out' at *
    try simp only [List.map_nil, List.nil_append] at hsn
    simp (config := {maxSteps := 1000000}) [List.range, List.range.loop, ints, intss, int, bool, row, frac, fracs, ← List.map_take, ← List.map_drop, fracss, kOut, hti, frac, htl, hto, hb, hsn]
    refine ⟨⟨stepT T l, out', hnx, fun h => absurd h hne2⟩, ?_, hdec⟩
    simp only [tkA_ne hne2, tkT_ne hne2]
    simp [sub, slotsLe, clean, keep, refsL, refs, once, place, renL, ren, List.replicate, int, bool, fracss, hlo, hsn]

end Go.Proofs.Ytkfgmpmeipilnaa.Ax
