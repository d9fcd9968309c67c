/-
  Contracts: slices.Repeat of one fraction, a table of zeros (the reference). No condition.
-/
import Derived.Test.YtkfgmpmeipilnaaCG1
import Derived.Test.YtkfgmpmeipilnaaCG10
import Derived.Test.YtkfgmpmeipilnaaCG6
import Derived.Test.YtkfgmpmeipilnaaCG4
namespace Go.Proofs.Ytkfgmpmeipilnaa.Ax
open Go Go.RowKit
set_option linter.unusedSimpArgs false

def repF (x : Int × Int) (n m : Nat) : List AV := List.replicate m (frac x) ++ List.replicate (n - m) (frac (0, 0))
theorem repF_len {x : Int × Int} {n m : Nat} (h : m ≤ n) : (repF x n m).length = n := by simp [repF]; omega
theorem repF_scal {x : Int × Int} {n m : Nat} : allS (repF x n m) = true := by
  rw [allS, List.all_eq_true]
  intro e he
  simp only [repF, List.mem_append, List.mem_replicate] at he
  rcases he with ⟨_, rfl⟩ | ⟨_, rfl⟩ <;> rfl
theorem repF_step {x : Int × Int} {n m k : Nat} (hk : k ≤ m) : (repF x n m).take m ++ (viewEs (repF x n m) 0 m).take k ++ (repF x n m).drop (m + k) = repF x n (m + k) := by
  have e1 : (repF x n m).take m = List.replicate m (frac x) := by simp [repF]
  have e2 : viewEs (repF x n m) 0 m = List.replicate m (frac x) := by simp [viewEs, e1]
  have e3 : (repF x n m).drop (m + k) = List.replicate (n - (m + k)) (frac (0, 0)) := by
    simp [repF, List.drop_append]; omega
  rw [e1, e2, e3, List.take_replicate, Nat.min_eq_left hk]
  simp [repF, List.replicate_append_replicate]

noncomputable def mRepeatF : List AV → Option AV := mk (fun p => p.2.2 ≤ 1000) (fun (p : Bool × (Int × Int) × Nat) => [fracs p.1 [p.2.1], int (p.2.2 : Int)]) (fun p => fracs false (List.replicate p.2.2 p.2.1))
theorem mRepeatF_at (nl : Bool) (x : Int × Int) (n : Nat) (h : n ≤ 1000) : mRepeatF [.sl nl 2 [.agg [.v (.int .i64 x.1), .v (.int .i64 x.2)]], .v (.int .i64 (n : Int))] = some (.sl false 2 ((List.replicate n x).map frac)) :=
  mk_eq (enc := fun (p : Bool × (Int × Int) × Nat) => [fracs p.1 [p.2.1], int (p.2.2 : Int)]) (x := (nl, x, n)) (by
    rintro ⟨a, b, c⟩ ⟨d, e, f⟩ h
    simp [fracs, int, frac_inj] at h
    obtain ⟨⟨_, rfl⟩, h⟩ := h
    simp only
    rw [show c = f by omega]) h

set_option maxHeartbeats 2000000 in
theorem repeatF_ok : FnOk Try.prog 103 mRepeatF := by
  refine mk_ok fun ⟨nl, x, n⟩ hn => ?_
  simp only at hn
  have hG : FnsOk Try.prog [(139, mMul)] := (.cons mul_ok .nil)
  refine callOk_awp (ctx_ok eqOk hG) mixed (live := [true, true, false, false, true, true, true, true, true, false, true, false, false, false, false, false, false, false, false, false, false, false, false, false, false, false, true, false, false, false, false, false, false, false, false, false, false, true]) (dt := [(9, ⟨[], [], []⟩)]) Try.func103 rfl (by kernel_rfl) (by kernel_rfl) fun w0 hlens => ?_
  clear hlens
  have hw1 : IntKind.u64.wrap (n : Int) = (n : Int) := by rw [IntKind.wrap_u64]; omega
  have hw0 : IntKind.u64.wrap 1 = 1 := by decide
  have hn0 : ¬ ((n : Int) < 0) := by omega
  have hn1 : ¬ ((9223372036854775807 : Int) < (n : Int)) := by omega
  have hb : 16 * n ≤ 281474976710656 := by omega
  have hb2 : n ≤ 4611686018427387904 := by omega
  have hw2 : IntKind.i64.wrap (n : Int) = (n : Int) := wrapI (by omega) (by omega)
  have hd : (1 * n / 18446744073709551616) = 0 := by omega
  have he : (1 * n % 18446744073709551616) = n := by omega
  have hm : mMul [.v (.int .u64 1), .v (.int .u64 (n : Int))] = some (.tup [.v (.int .u64 0), .v (.int .u64 (n : Int))]) := by
    have := mMul_at 1 n (by omega)
    rw [hd, he] at this; exact this
  have h0e : AV.agg [.v (.int .i64 0), .v (.int .i64 0)] = frac (0, 0) := rfl
  have hsx : allS [AV.agg [.v (.int .i64 x.1), .v (.int .i64 x.2)]] = true := rfl
  have hs0 : allS (List.replicate n (AV.agg [.v (.int .i64 0), .v (.int .i64 0)])) = true := by
    rw [allS, List.all_eq_true]
    intro e he
    rw [(List.mem_replicate.1 he).2]; rfl
  simp (config := {contextual := true}) [Try.f103, List.range, List.range.loop, ints, intss, int, bool, row, frac, fracs, ← List.map_take, ← List.map_drop, hw0, hw1, hw2, hn0, hn1, hb, hb2, hm, hn, hsx, hs0]
  refine awp_loop_of (live := [true, true, false, false, true, true, true, true, true, false, true, false, false, false, false, false, false, false, false, false, false, false, false, false, false, false, true, false, false, false, false, false, false, false, false, false, false, true]) (ctx_ok eqOk hG) mixed [false, false, false, false, false, false, false, true, true] (α := {m : Nat // m ≤ n ∧ (0 < n → 0 < m)}) (fun m => ⟨[.junk, .junk, .junk, .junk, .junk, .junk, .junk, .ref 0 [] 0 n, int (m.1 : Int), .junk, .junk, .junk, .junk, .junk, .junk, .junk, .junk, .junk, .junk, .junk, .junk, .junk, .junk, .junk, .junk, .junk, .junk, .junk, .junk, .junk, .junk, .junk, .junk, .junk, .junk, .junk, .junk, .junk, .junk, .junk, .junk, .junk, .junk, .junk, .junk, .junk, .junk, .junk], [⟨true, .sl false 2 (repF x n m.1)⟩]⟩) (fun m => n - m.1) ⟨min 1 n, by omega⟩ (by simp [sub, slotsLe, clean, keep, refsL, refs, once, place, renL, ren, List.replicate, int, bool, repF, rep1, frac]) ?_
  rintro ⟨m, hmn, hm0⟩
  have hl := repF_len (x := x) hmn
  have hsc := repF_scal (x := x) (n := n) (m := m)
  have hst := repF_step (x := x) (n := n) (m := m) (k := min m (n - m)) (by omega)
  have hsc2 := allS_take (n := m) hsc
  simp only [viewEs, List.drop_zero, List.append_assoc] at hst
  have hwm : IntKind.i64.wrap ((m : Int) + ((min m (n - m) : Nat) : Int)) = ((m + min m (n - m) : Nat) : Int) := by rw [wrapI (by omega) (by omega)]; omega
  simp (config := {contextual := true}) [List.range, List.range.loop, ints, intss, int, bool, row, frac, fracs, ← List.map_take, ← List.map_drop, hl, hsc, hsc2, hmn]
  refine ⟨fun hlt => ⟨⟨m + min m (n - m), by omega⟩, ?_, ?_⟩, fun hle => ?_⟩
  · simp only [hst, hwm]
    simp [sub, slotsLe, clean, keep, refsL, refs, once, place, renL, ren, List.replicate, int, bool]
  · have := hm0 (by omega)
    simp only []
    omega
  · have : m = n := by omega
    subst this
    simp [repF, frac]

noncomputable def mZeroT : List AV → Option AV := mk (fun p => 0 ≤ p ∧ p ≤ 1000) (fun (p : (Int)) => [int p]) (fun p => .sl false 1 ((List.replicate p.toNat ((false, List.replicate p.toNat (0, 1)) : Bool × List (Int × Int))).map frow))
theorem mZeroT_at (n : Int) (hpre : 0 ≤ n ∧ n ≤ 1000) : mZeroT [.v (.int .i64 n)] = some (.sl false 1 ((List.replicate n.toNat ((false, List.replicate n.toNat (0, 1)) : Bool × List (Int × Int))).map frow)) :=
  mk_eq (enc := fun (p : (Int)) => [int p]) (x := (n)) (by rintro a0 b0 h; simp [ints, intss, int, bool, row, frac, fracs, map_int_inj, map_row_inj, frac_inj, map_frac_inj] at h; simp [h]) hpre
set_option maxHeartbeats 2000000 in
theorem l29Empty_ok : FnOk Try.prog 44 mZeroT := by
  refine mk_ok fun n ⟨h0, h1⟩ => ?_
  obtain ⟨m, rfl⟩ : ∃ m : Nat, n = m := ⟨n.toNat, by omega⟩
  simp only [Int.toNat_natCast]
  have hG : FnsOk Try.prog [] := .nil
  refine callOk_awp (ctx_ok eqOk hG) mixed (live := [true, false, true, true, true, true, true, false, false, false, true, false, false, false, false, false, true]) (dt := []) Try.func44 rfl (by kernel_rfl) (by kernel_rfl) fun w0 hlens => ?_
  clear hlens
  simp (config := {contextual := true}) [Try.f44, List.range, List.range.loop, ints, intss, int, bool, row, frac, fracs, ← List.map_take, ← List.map_drop]
  refine awp_range (live := [true, false, true, true, true, true, true, false, false, false, true, false, false, false, false, false, true]) (ctx_ok eqOk hG) mixed [true, false, false, true, true] (m) (fun k => True) (fun k => ⟨[int (m : Int), .junk, .junk, .ref 0 [] 0 k, int k, .junk, .junk, .junk, .junk, .junk, .junk, .junk, .junk, .junk, .junk, .junk, .junk, .junk, .junk, .junk, .junk, .junk, .junk, .junk, .junk, .junk, .junk, .junk], [⟨true, .sl false 1 ((List.replicate k ((false, List.replicate m (0, 1)) : Bool × List (Int × Int))).map frow)⟩]⟩) ?_ (by simp [sub, slotsLe, clean, keep, refsL, refs, once, place, renL, ren, List.replicate, int, bool]) ?_ ?_ ?_
  · omega
  · trivial
  · intro k hk _ hwk
    have hb : k + 1 ≤ 4611686018427387904 ∧ (k + 1) * 24 ≤ 140737488355328 ∧ (k + 1) * 16 ≤ 140737488355328 ∧ (k + 1) * 8 ≤ 140737488355328 := by omega
    simp (config := {contextual := true}) [List.range, List.range.loop, ints, intss, int, bool, row, frac, fracs, ← List.map_take, ← List.map_drop, hk]
    refine awp_range (live := [true, false, true, true, true, true, true, false, false, false, true, false, false, false, false, false, true]) (ctx_ok eqOk hG) mixed [true, false, false, true, true, true, true] (m) (fun j => True) (fun j => ⟨[int (m : Int), .junk, .junk, .ref 0 [] 0 k, int k, .ref 1 [] 0 j, int j, .junk, .junk, .junk, .junk, .junk, .junk, .junk, .junk, .junk, .junk, .junk, .junk, .junk, .junk, .junk, .junk, .junk, .junk, .junk, .junk, .junk], [⟨true, .sl false 1 ((List.replicate k ((false, List.replicate m (0, 1)) : Bool × List (Int × Int))).map frow)⟩, ⟨true, .sl false 2 ((List.replicate j ((0, 1) : Int × Int)).map frac)⟩]⟩) ?_ (by simp [sub, slotsLe, clean, keep, refsL, refs, once, place, renL, ren, List.replicate, int, bool]) ?_ ?_ ?_
    · omega
    · trivial
    · intro j hj _ hwj
      have hb : j + 1 ≤ 4611686018427387904 ∧ (j + 1) * 24 ≤ 140737488355328 ∧ (j + 1) * 16 ≤ 140737488355328 ∧ (j + 1) * 8 ≤ 140737488355328 := by omega
      simp (config := {contextual := true}) [List.range, List.range.loop, ints, intss, int, bool, row, frac, fracs, ← List.map_take, ← List.map_drop, hj, hwj, hb, List.replicate_succ']
      done
    · intro _
      simp (config := {contextual := true}) [List.range, List.range.loop, ints, intss, int, bool, row, frac, fracs, ← List.map_take, ← List.map_drop, hwk, hb, List.replicate_succ', frow]
      done
  · intro _
    simp (config := {contextual := true}) [List.range, List.range.loop, ints, intss, int, bool, row, frac, fracs, ← List.map_take, ← List.map_drop, frow]
    done

end Go.Proofs.Ytkfgmpmeipilnaa.Ax

/-
  The plain side of MixOf: what the tickets come to. Plain Lean, no program in sight.
-/
namespace Go.Proofs.Ytkfgmpmeipilnaa.Ax
open Go Go.RowKit
set_option linter.unusedSimpArgs false

theorem sumTo_pre {fs gs : List (Int × Int)} : ∀ {k : Nat}, k ≤ fs.length → sumTo (fs ++ gs) k = sumTo fs k
  | 0, _ => rfl
  | k + 1, hk => by
    have hk' : k < fs.length := by omega
    rw [sumTo, sumTo, sumTo_pre (k := k) (by omega)]
    simp [List.getD_eq_getElem?_getD, List.getElem?_append_left hk']
theorem sumF_snoc {fs : List (Int × Int)} {w : Int × Int} (h : fs.length < 100) : sumF (fs ++ [w]) = if (sumF fs).2 = true then addF (sumF fs).1 w else ((0, 0), false) := by
  have e1 : sumF fs = sumTo fs fs.length := by unfold sumF; rw [if_neg (by omega)]
  have e2 : sumF (fs ++ [w]) = sumTo (fs ++ [w]) (fs.length + 1) := by unfold sumF; rw [if_neg (by simp; omega)]; simp
  rw [e1, e2, sumTo, sumTo_pre (Nat.le_refl _)]
  simp [List.getD_eq_getElem?_getD]
theorem sumF_nil : sumF [] = ((0, 1), true) := by simp [sumF, sumTo]
theorem sumF_bad {fs gs : List (Int × Int)} (hl : (fs ++ gs).length ≤ 100) (h : (sumF fs).2 = false) : sumF (fs ++ gs) = ((0, 0), false) := by
  have hlf : fs.length ≤ 100 := by rw [List.length_append] at hl; omega
  unfold sumF at h ⊢
  rw [if_neg (by omega)] at h
  rw [if_neg (by omega)]
  have hpos : 0 < fs.length := by
    rcases Nat.eq_zero_or_pos fs.length with e | e
    · rw [e] at h; simp [sumTo] at h
    · exact e
  refine sumTo_bad (k := fs.length) hpos ?_ (by rw [List.length_append]; omega)
  rw [sumTo_pre (Nat.le_refl _)]; exact h

/-- A ticket: its weight, its list. -/
abbrev Tk := (Int × Int) × Bool × List Int
def tick (t : Tk) : AV := .agg [.v (.int .i64 t.1.1), .v (.int .i64 t.1.2), .sl t.2.1 1 (t.2.2.map int)]
def tks (nl : Bool) (ts : List Tk) : AV := .sl nl 3 (ts.map tick)
theorem tick_inj {a b : Tk} (h : tick a = tick b) : a = b := by
  obtain ⟨⟨a1, a2⟩, a3, a4⟩ := a
  obtain ⟨⟨b1, b2⟩, b3, b4⟩ := b
  simp [tick, map_int_inj] at h
  obtain ⟨rfl, rfl, rfl, rfl⟩ := h
  rfl
theorem map_tick_inj {a b : List Tk} : a.map tick = b.map tick ↔ a = b := List.map_inj_right fun _ _ h => tick_inj h

def tkB (n : Int) (t : Tk) : Bool := rankB n t.2.2 && (fracOk t.1 && decide (0 ≤ t.1.1))
/-- The weights of those of the first k tickets that give house x to person i. -/
def ws (ts : List Tk) (i : Nat) (x : Int) (k : Nat) : List (Int × Int) := ((ts.take k).filter fun t => decide (at0 t.2.2 i = x)).map (·.1)
theorem ws_zero {ts : List Tk} {i : Nat} {x : Int} : ws ts i x 0 = [] := by simp [ws]
theorem ws_yes {ts : List Tk} {i : Nat} {x : Int} {k : Nat} (hk : k < ts.length) (h : at0 ts[k].2.2 i = x) : ws ts i x (k + 1) = ws ts i x k ++ [ts[k].1] := by
  unfold ws
  rw [List.take_succ_eq_append_getElem hk, List.filter_append, List.map_append, List.filter_cons, if_pos (decide_eq_true h)]
  rfl
theorem ws_no {ts : List Tk} {i : Nat} {x : Int} {k : Nat} (hk : k < ts.length) (h : at0 ts[k].2.2 i ≠ x) : ws ts i x (k + 1) = ws ts i x k := by
  unfold ws
  rw [List.take_succ_eq_append_getElem hk, List.filter_append, List.map_append, List.filter_cons, if_neg (by simpa using h)]
  simp
theorem ws_len {ts : List Tk} {i : Nat} {x : Int} {k : Nat} : (ws ts i x k).length ≤ k := by
  unfold ws
  rw [List.length_map]
  exact Nat.le_trans (List.length_filter_le _ _) (by rw [List.length_take]; omega)
theorem ws_split {ts : List Tk} {i : Nat} {x : Int} {k m : Nat} (h : k ≤ m) : ∃ r, ws ts i x m = ws ts i x k ++ r := by
  obtain ⟨d, rfl⟩ : ∃ d, m = k + d := ⟨m - k, by omega⟩
  refine ⟨(((ts.drop k).take d).filter fun t => decide (at0 t.2.2 i = x)).map (·.1), ?_⟩
  unfold ws
  rw [List.take_add, List.filter_append, List.map_append]

def cel (ts : List Tk) (k : Nat) (i x : Nat) : (Int × Int) × Bool := sumF (ws ts i x k)
theorem cel_bad {ts : List Tk} {k m i x : Nat} (h : (cel ts k i x).2 = false) (hk : k ≤ m) (hm : m ≤ 100) : cel ts m i x = ((0, 0), false) := by
  obtain ⟨r, hr⟩ := ws_split (ts := ts) (i := i) (x := (x : Int)) hk
  unfold cel at h ⊢
  rw [hr]
  exact sumF_bad (by rw [← hr]; exact Nat.le_trans ws_len hm) h
theorem cel_yes {ts : List Tk} {i x k : Nat} (hk : k < ts.length) (hl : k < 100) (h : at0 ts[k].2.2 i = x) (hc : (cel ts k i x).2 = true) : cel ts (k + 1) i x = addF (cel ts k i x).1 ts[k].1 := by
  unfold cel at hc ⊢
  rw [ws_yes hk h, sumF_snoc (by have := ws_len (ts := ts) (i := i) (x := (x : Int)) (k := k); omega), if_pos hc]
theorem cel_no {ts : List Tk} {i x k : Nat} (hk : k < ts.length) (h : at0 ts[k].2.2 i ≠ x) : cel ts (k + 1) i x = cel ts k i x := by
  unfold cel; rw [ws_no hk h]
theorem cel_zero {ts : List Tk} {i x : Nat} : cel ts 0 i x = ((0, 1), true) := by unfold cel; rw [ws_zero, sumF_nil]

/-- A row, and the table, when k tickets, and the k-th one up to j, have been told. -/
def kk (k j i : Nat) : Nat := if i < j then k + 1 else k
def rowK (ts : List Tk) (n k j i : Nat) : List (Int × Int) := (List.range n).map fun x => (cel ts (kk k j i) i x).1
def mixK (ts : List Tk) (n k j : Nat) : List (Bool × List (Int × Int)) := (List.range n).map fun i => (false, rowK ts n k j i)
theorem rowK_len {ts : List Tk} {n k j i : Nat} : (rowK ts n k j i).length = n := by simp [rowK]
theorem mixK_len {ts : List Tk} {n k j : Nat} : (mixK ts n k j).length = n := by simp [mixK]
theorem rowK_get {ts : List Tk} {n k j i x : Nat} (h : x < (rowK ts n k j i).length) : (rowK ts n k j i)[x] = (cel ts (kk k j i) i x).1 := by simp [rowK]
theorem mixK_get {ts : List Tk} {n k j i : Nat} (h : i < (mixK ts n k j).length) : (mixK ts n k j)[i] = (false, rowK ts n k j i) := by simp [mixK]
theorem mixK_zero {ts : List Tk} {n : Nat} : mixK ts n 0 0 = List.replicate n (false, List.replicate n (0, 1)) := by
  apply List.ext_getElem
  · simp [mixK]
  · intro i h1 h2
    simp only [mixK, List.getElem_map, List.getElem_range, List.getElem_replicate, Prod.mk.injEq, true_and]
    apply List.ext_getElem
    · simp [rowK]
    · intro x h3 h4
      simp [rowK, kk, cel_zero]
theorem mixK_next {ts : List Tk} {n k : Nat} : mixK ts n k n = mixK ts n (k + 1) 0 := by
  apply List.ext_getElem
  · simp [mixK]
  · intro i h1 h2
    have hi : i < n := by simpa [mixK] using h1
    simp [mixK, rowK, kk, hi]
theorem rowK_set {ts : List Tk} {n k j x : Nat} {a : Int × Int} (hk : k < ts.length) (hx : at0 ts[k].2.2 j = x) (ha : a = (cel ts (k + 1) j x).1) :
    ((rowK ts n k j j).map frac).set x (.agg [.v (.int .i64 a.1), .v (.int .i64 a.2)]) = (rowK ts n k (j + 1) j).map frac := by
  have : AV.agg [.v (.int .i64 a.1), .v (.int .i64 a.2)] = frac a := rfl
  rw [this, ← List.map_set]
  congr 1
  apply List.ext_getElem
  · simp [rowK]
  · intro y h1 h2
    have hy : y < n := by simpa [rowK] using h2
    rw [List.getElem_set]
    simp only [rowK, List.getElem_map, List.getElem_range, kk, Nat.lt_irrefl, if_false, Nat.lt_succ_self, if_true]
    by_cases e : x = y
    · subst e; rw [if_pos rfl, ha]
    · rw [if_neg e, cel_no hk (by rw [hx]; omega)]
theorem mixK_set {ts : List Tk} {n k j : Nat} (_hj : j < n) : ((mixK ts n k j).map frow).set j (.sl false 2 ((rowK ts n k (j + 1) j).map frac)) = (mixK ts n k (j + 1)).map frow := by
  have : AV.sl false 2 ((rowK ts n k (j + 1) j).map frac) = frow (false, rowK ts n k (j + 1) j) := rfl
  rw [this, ← List.map_set]
  congr 1
  apply List.ext_getElem
  · simp [mixK]
  · intro i h1 h2
    rw [List.getElem_set]
    simp only [mixK, List.getElem_map, List.getElem_range]
    by_cases e : j = i
    · subst e; simp
    · rw [if_neg e]
      have : kk k (j + 1) i = kk k j i := by unfold kk; by_cases h3 : i < j <;> simp [h3] <;> omega
      simp [rowK, this]

/-- What the tickets come to. -/
def mixA (ts : List Tk) (n : Nat) : List (Bool × List (Int × Int)) := mixK ts n ts.length 0
def mixB (ts : List Tk) (n : Int) : Bool := inR 1 4 n && (inR 1 30 ts.length && (ts.all (tkB n) && lotB (mixA ts n.toNat)))
def mixT (ts : List Tk) (n : Int) : List (Bool × List (Int × Int)) := if mixB ts n = true then mixA ts n.toNat else []
theorem lot_cell {m : List (Bool × List (Int × Int))} (h : lotB m = true) {i : Nat} (hi : i < m.length) {x : Nat} (hx : x < m[i].2.length) : partB m[i].2[x] = true := by
  simp only [lotB, Bool.and_eq_true] at h
  have := allR_at h.1.2 hi
  simp only [partRow, getDF hi, Bool.and_eq_true, List.all_eq_true] at this
  exact this.2 _ (List.getElem_mem hx)
/-- A sum that is not valid is told at the end. -/
theorem mix_bad {ts : List Tk} {n k i x : Nat} (hl : ts.length ≤ 30) (hk : k ≤ ts.length) (hi : i < n) (hx : x < n) (h : (cel ts k i x).2 = false) : lotB (mixA ts n) = false := by
  cases hb : lotB (mixA ts n) with
  | false => rfl
  | true =>
    have h1 : i < (mixA ts n).length := by simpa [mixA, mixK_len] using hi
    have h2 : x < (mixA ts n)[i].2.length := by simp only [mixA, mixK_get, rowK_len]; exact hx
    have := lot_cell hb h1 h2
    simp only [mixA, mixK_get, rowK_get] at this
    rw [show kk ts.length 0 i = ts.length by simp [kk], cel_bad h hk (by omega)] at this
    simp [partB, fracOk] at this

end Go.Proofs.Ytkfgmpmeipilnaa.Ax

/-
  The plain side of SplitLottery: exchanges are taken out of a lottery one by one. Plain Lean, no program in sight.
-/
namespace Go.Proofs.Ytkfgmpmeipilnaa.Ax
open Go Go.RowKit
set_option linter.unusedSimpArgs false

abbrev Tab := List (Bool × List (Int × Int))
def cel0 (m : Tab) (i j : Nat) : Int × Int := (m.getD i (true, [])).2.getD j (0, 0)
def vlR (m : Tab) (i j : Nat) : Rat := val (cel0 m i j)
def posL (m : Tab) (l : List Int) : Bool := allR m.length fun i => decide (0 < (cel0 m i (at0 l i).toNat).1)
def lstTo (m : Tab) (l : List Int) : Nat → Int × Int
  | 0 => cel0 m 0 (at0 l 0).toNat
  | k + 1 => lesF (lstTo m l k) (cel0 m k (at0 l k).toNat)
def lstF (m : Tab) (l : List Int) : Int × Int := lstTo m l m.length
structure TabOk (m : Tab) (s : Rat) : Prop where
  n1 : 1 ≤ m.length
  n4 : m.length ≤ 4
  row : ∀ i (h : i < m.length), m[i].1 = false ∧ m[i].2.length = m.length
  ok : ∀ i j, i < m.length → j < m.length → fracOk (cel0 m i j) = true ∧ 0 ≤ (cel0 m i j).1
  rs : ∀ i, i < m.length → suR (fun j => vlR m i j) m.length = s
  cs : ∀ j, j < m.length → suR (fun i => vlR m i j) m.length = s

theorem cel0_at {m : Tab} {i j : Nat} (hi : i < m.length) (hj : j < m[i].2.length) : cel0 m i j = m[i].2[j] := by simp [cel0, List.getD_eq_getElem?_getD, hi, hj]

/-- Numbers that are compared. -/
theorem val_pos {x : Int × Int} (h : fracOk x = true) : 0 < val x ↔ 0 < x.1 := by
  have b := fracOk_bd h
  have e : val x ≤ 0 ↔ x.1 ≤ 0 := by
    have h1 : val x ≤ 0 ↔ 0 ≤ -val x := by constructor <;> intro h <;> grind
    rw [h1]
    unfold val
    rw [Rat.neg_divInt, Rat.divInt_nonneg_iff_of_pos_right (by omega)]
    omega
  constructor
  · intro h1
    rcases Int.lt_or_le 0 x.1 with h2 | h2
    · exact h2
    · exact absurd (e.2 h2) (Rat.not_le.2 h1)
  · intro h1
    refine Rat.not_le.1 fun h2 => ?_
    have := e.1 h2
    omega
theorem subF_val {x y : Int × Int} (h : (subF x y).2 = true) : fracOk x = true ∧ fracOk y = true ∧ fracOk (subF x y).1 = true ∧ val (subF x y).1 = val x - val y := by
  unfold subF at h ⊢
  obtain ⟨h1, h2, h3, h4⟩ := addF_val h
  rw [fracOk_neg] at h2
  refine ⟨h1, h2, h3, ?_⟩
  rw [h4]
  have : val (-y.1, y.2) = -val y := by unfold val; rw [Rat.neg_divInt]
  rw [this]; grind
theorem val_sub {x y : Int × Int} (hx : fracOk x = true) (hy : fracOk y = true) : val x - val y = Rat.divInt (x.1 * y.2 - y.1 * x.2) (x.2 * y.2) := by
  have b1 := fracOk_bd hx
  have b2 := fracOk_bd hy
  unfold val
  rw [Rat.divInt_sub_divInt _ _ (by omega) (by omega)]
theorem lesF_val {x y : Int × Int} (hx : fracOk x = true) (hy : fracOk y = true) : (lesF x y = x ∨ lesF x y = y) ∧ val (lesF x y) ≤ val x ∧ val (lesF x y) ≤ val y := by
  have b1 := fracOk_bd hx
  have b2 := fracOk_bd hy
  have hp : 0 < y.2 * x.2 := Int.mul_pos (by omega) (by omega)
  have hs := val_sub hy hx
  have hc : cmpF y x = cmpI (y.1 * x.2) (x.1 * y.2) := by unfold cmpF; simp [hx, hy]; rfl
  have hn : cmpF y x < 0 ↔ y.1 * x.2 < x.1 * y.2 := by rw [hc]; unfold cmpI; split <;> (try split) <;> omega
  unfold lesF
  by_cases h : cmpF y x < 0
  · rw [if_pos h]
    refine ⟨.inr rfl, ?_, Rat.le_refl⟩
    have h1 := hn.1 h
    have h2 : val y - val x ≤ 0 := by
      rw [hs]
      have h3 : 0 ≤ -(Rat.divInt (y.1 * x.2 - x.1 * y.2) (y.2 * x.2)) := by
        rw [Rat.neg_divInt, Rat.divInt_nonneg_iff_of_pos_right hp]; omega
      grind
    grind
  · rw [if_neg h]
    refine ⟨.inl rfl, Rat.le_refl, ?_⟩
    have h1 : ¬ y.1 * x.2 < x.1 * y.2 := fun k => h (hn.2 k)
    have h2 : 0 ≤ val y - val x := by
      rw [hs, Rat.divInt_nonneg_iff_of_pos_right hp]; omega
    grind

theorem suR_dec {f : Nat → Rat} {c : Rat} {k : Nat} : ∀ {n : Nat}, suR (fun j => if j = k then f j - c else f j) n = if k < n then suR f n - c else suR f n
  | 0 => by simp [suR]
  | n + 1 => by
    rw [suR, suR_dec (n := n), suR]
    by_cases h1 : n = k
    · subst h1
      rw [if_neg (by omega), if_pos rfl, if_pos (by omega)]; grind
    · rw [if_neg h1]
      by_cases h2 : k < n
      · rw [if_pos h2, if_pos (by omega)]; grind
      · rw [if_neg h2, if_neg (by omega)]
theorem suR_ge {f : Nat → Rat} : ∀ {n : Nat}, (∀ i, i < n → 0 ≤ f i) → 0 ≤ suR f n ∧ ∀ k, k < n → f k ≤ suR f n
  | 0, _ => ⟨by rw [suR]; exact Rat.le_refl, fun k hk => by omega⟩
  | n + 1, h => by
    obtain ⟨h1, h2⟩ := suR_ge (f := f) (n := n) fun i hi => h i (by omega)
    have h3 := h n (by omega)
    rw [suR]
    refine ⟨by grind, fun k hk => ?_⟩
    by_cases e : k = n
    · subst e; grind
    · have := h2 k (by omega); grind

/-- One exchange is taken out, of the first k rows. -/
def subTab (m : Tab) (l : List Int) (w : Int × Int) (k : Nat) : Tab := (List.range m.length).map fun i => if i < k then (false, (m.getD i (true, [])).2.set (at0 l i).toNat (subF (cel0 m i (at0 l i).toNat) w).1) else m.getD i (true, [])
def subOk (m : Tab) (l : List Int) (w : Int × Int) : Bool := allR m.length fun i => (subF (cel0 m i (at0 l i).toNat) w).2
def stepT (m : Tab) (l : List Int) : Tab := subTab m l (lstF m l) m.length
theorem subTab_len {m : Tab} {l : List Int} {w : Int × Int} {k : Nat} : (subTab m l w k).length = m.length := by simp [subTab]
theorem subTab_zero {m : Tab} {l : List Int} {w : Int × Int} : subTab m l w 0 = m := by
  apply List.ext_getElem
  · simp [subTab]
  · intro i h1 h2
    simp [subTab, List.getD_eq_getElem?_getD, h2]
theorem subTab_get {m : Tab} {l : List Int} {w : Int × Int} {k i : Nat} (h : i < (subTab m l w k).length) : (subTab m l w k)[i] = if i < k then (false, (m.getD i (true, [])).2.set (at0 l i).toNat (subF (cel0 m i (at0 l i).toNat) w).1) else m.getD i (true, []) := by simp [subTab]
theorem subTab_old {m : Tab} {l : List Int} {w : Int × Int} {k : Nat} (h : k < m.length) (h' : k < (subTab m l w k).length) : (subTab m l w k)[k] = m[k] := by
  rw [subTab_get, if_neg (Nat.lt_irrefl _)]; simp [List.getD_eq_getElem?_getD, h]
theorem subTab_set {m : Tab} {l : List Int} {w : Int × Int} {k : Nat} (h : k < m.length) : ((subTab m l w k).map frow).set k (.sl false 2 ((m[k].2.set (at0 l k).toNat (subF (cel0 m k (at0 l k).toNat) w).1).map frac)) = (subTab m l w (k + 1)).map frow := by
  have : AV.sl false 2 ((m[k].2.set (at0 l k).toNat (subF (cel0 m k (at0 l k).toNat) w).1).map frac) = frow (false, m[k].2.set (at0 l k).toNat (subF (cel0 m k (at0 l k).toNat) w).1) := rfl
  rw [this, ← List.map_set]
  congr 1
  apply List.ext_getElem
  · simp [subTab]
  · intro i h1 h2
    rw [List.getElem_set, subTab_get, subTab_get]
    by_cases e : k = i
    · subst e
      rw [if_pos rfl, if_pos (by omega)]
      simp [List.getD_eq_getElem?_getD, h]
    · rw [if_neg e]
      by_cases h3 : i < k
      · rw [if_pos h3, if_pos (by omega)]
      · rw [if_neg h3, if_neg (by omega)]

section
variable {m : Tab} {s : Rat} {l : List Int}
theorem tab_cel (h : TabOk m s) {i j : Nat} (hi : i < m.length) (hj : j < m.length) : cel0 m i j = m[i].2[j]'(by rw [(h.row i hi).2]; exact hj) := cel0_at hi _
theorem rk_at (hr : rankB m.length l = true) {i : Nat} (hi : i < m.length) : ∃ x : Nat, at0 l i = x ∧ x < m.length := by
  obtain ⟨_, _, h3, h4, _⟩ := rank_facts hr
  have hil : i < l.length := by omega
  have := h4 i hil
  rw [at0_eq hil]
  exact ⟨l[i].toNat, by omega, by omega⟩
theorem lst_facts (h : TabOk m s) (hr : rankB m.length l = true) : ∀ {k : Nat}, k ≤ m.length → (∃ i, i < m.length ∧ lstTo m l k = cel0 m i (at0 l i).toNat) ∧ ∀ i, i < k → val (lstTo m l k) ≤ vlR m i (at0 l i).toNat
  | 0, _ => ⟨⟨0, h.n1, rfl⟩, fun i hi => by omega⟩
  | k + 1, hk => by
    obtain ⟨⟨i0, h1, h2⟩, h3⟩ := lst_facts h hr (k := k) (by omega)
    obtain ⟨x, e, hx⟩ := rk_at hr (i := i0) h1
    obtain ⟨y, e', hy⟩ := rk_at hr (i := k) (by omega)
    have o1 : fracOk (lstTo m l k) = true := by rw [h2, e]; exact (h.ok i0 x h1 hx).1
    have o2 : fracOk (cel0 m k (at0 l k).toNat) = true := by rw [e']; exact (h.ok k y (by omega) hy).1
    obtain ⟨g1, g2, g3⟩ := lesF_val o1 o2
    refine ⟨?_, fun i hi => ?_⟩
    · rw [lstTo]
      rcases g1 with g | g
      · exact ⟨i0, h1, g.trans h2⟩
      · exact ⟨k, by omega, g⟩
    · rw [lstTo]
      by_cases e2 : i = k
      · subst e2; exact g3
      · exact Rat.le_trans g2 (h3 i (by omega))
theorem lst_ok (h : TabOk m s) (hr : rankB m.length l = true) : fracOk (lstF m l) = true ∧ 0 ≤ (lstF m l).1 ∧ ∃ i, i < m.length ∧ lstF m l = cel0 m i (at0 l i).toNat := by
  obtain ⟨⟨i, h1, h2⟩, _⟩ := lst_facts h hr (Nat.le_refl _)
  obtain ⟨x, e, hx⟩ := rk_at hr h1
  have := h.ok i x h1 hx
  refine ⟨?_, ?_, i, h1, h2⟩
  · unfold lstF; rw [h2, e]; exact this.1
  · unfold lstF; rw [h2, e]; exact this.2
theorem lst_pos (h : TabOk m s) (hr : rankB m.length l = true) : decide (0 < (lstF m l).1) = posL m l := by
  obtain ⟨o1, _, i, h1, h2⟩ := lst_ok h hr
  rw [Bool.eq_iff_iff, decide_eq_true_eq]
  constructor
  · intro hp
    refine allR_yes fun j hj => ?_
    obtain ⟨x, e, hx⟩ := rk_at hr hj
    have hle := (lst_facts h hr (Nat.le_refl _)).2 j hj
    have hok := (h.ok j x hj hx).1
    rw [e] at hle ⊢
    have : 0 < vlR m j x := by
      have hv := (val_pos o1).2 hp
      unfold lstF at hv
      simp only [Int.toNat_natCast] at hle
      grind
    simp only [Int.toNat_natCast]
    exact decide_eq_true ((val_pos hok).1 this)
  · intro hp
    have := allR_at hp h1
    rw [← h2] at this
    simpa using this

theorem sub_cel (h : TabOk m s) (hr : rankB m.length l = true) {w : Int × Int} {i j : Nat} (hi : i < m.length) (hj : j < m.length) :
    cel0 (subTab m l w m.length) i j = if j = (at0 l i).toNat then (subF (cel0 m i (at0 l i).toNat) w).1 else cel0 m i j := by
  obtain ⟨x, e, hx⟩ := rk_at hr hi
  have hil : i < (subTab m l w m.length).length := by rw [subTab_len]; exact hi
  have hrl := (h.row i hi).2
  have hg : m.getD i (true, []) = m[i] := by simp [List.getD_eq_getElem?_getD, hi]
  have hrow : (subTab m l w m.length)[i] = (false, m[i].2.set x (subF (cel0 m i x) w).1) := by
    rw [subTab_get, if_pos hi, hg, e]; rfl
  rw [cel0_at hil (by rw [hrow]; simp [hrl, hj])]
  have : ∀ (r : Bool × List (Int × Int)) (hr1 : r = (false, m[i].2.set x (subF (cel0 m i x) w).1)) (hj' : j < r.2.length), r.2[j] = if j = x then (subF (cel0 m i x) w).1 else m[i].2[j]'(by rw [hrl]; exact hj) := by
    rintro r rfl hj'
    rw [List.getElem_set]
    by_cases e2 : x = j
    · rw [if_pos e2, if_pos e2.symm]
    · rw [if_neg e2, if_neg fun k => e2 k.symm]
  rw [this _ hrow, e, tab_cel h hi hj]
  rfl
theorem step_vl (h : TabOk m s) (hr : rankB m.length l = true) (hok : subOk m l (lstF m l) = true) {i j : Nat} (hi : i < m.length) (hj : j < m.length) :
    (fracOk (cel0 (stepT m l) i j) = true ∧ 0 ≤ (cel0 (stepT m l) i j).1) ∧ vlR (stepT m l) i j = if j = (at0 l i).toNat then vlR m i j - val (lstF m l) else vlR m i j := by
  have hc := sub_cel h hr (w := lstF m l) hi hj
  unfold vlR stepT
  rw [hc]
  by_cases e : j = (at0 l i).toNat
  · rw [if_pos e, if_pos e]
    obtain ⟨g1, g2, g3, g4⟩ := subF_val (allR_at hok hi)
    have hle := (lst_facts h hr (Nat.le_refl _)).2 i hi
    rw [e]
    refine ⟨⟨g3, ?_⟩, g4⟩
    have : 0 ≤ val (subF (cel0 m i (at0 l i).toNat) (lstF m l)).1 := by
      rw [g4]; unfold lstF vlR at *; grind
    have b := fracOk_bd g3
    unfold val at this
    rwa [Rat.divInt_nonneg_iff_of_pos_right (by omega)] at this
  · rw [if_neg e, if_neg e]
    exact ⟨h.ok i j hi hj, rfl⟩
theorem stepT_len : (stepT m l).length = m.length := subTab_len
theorem stepT_get {i : Nat} (hi : i < m.length) (h : i < (stepT m l).length) : (stepT m l)[i] = (false, m[i].2.set (at0 l i).toNat (subF (cel0 m i (at0 l i).toNat) (lstF m l)).1) := by
  have := subTab_get (m := m) (l := l) (w := lstF m l) (k := m.length) (i := i) h
  rw [if_pos hi, show m.getD i (true, []) = m[i] by simp [List.getD_eq_getElem?_getD, hi]] at this
  exact this
theorem step_ok (h : TabOk m s) (hr : rankB m.length l = true) (hok : subOk m l (lstF m l) = true) : TabOk (stepT m l) (s - val (lstF m l)) := by
  refine ⟨by rw [stepT_len]; exact h.n1, by rw [stepT_len]; exact h.n4, fun i hi => ?_, fun i j hi hj => ?_, fun i hi => ?_, fun j hj => ?_⟩
  · have hi' : i < m.length := by rw [stepT_len] at hi; exact hi
    rw [stepT_get hi' hi]
    simp only [List.length_set, (h.row i hi').2, stepT_len, and_self]
  · rw [stepT_len] at hi hj
    exact (step_vl h hr hok hi hj).1
  · rw [stepT_len] at hi ⊢
    obtain ⟨x, e, hx⟩ := rk_at hr hi
    rw [suR_congr (g := fun j => if j = x then vlR m i j - val (lstF m l) else vlR m i j) fun j hj => by
      rw [(step_vl h hr hok hi hj).2, e]; rfl]
    rw [suR_dec, if_pos hx, h.rs i hi]
  · rw [stepT_len] at hj ⊢
    obtain ⟨_, _, h3, h4, h5⟩ := rank_facts hr
    obtain ⟨k, hk, e⟩ := rank_all hr (i := j) (by omega)
    have hkm : k < m.length := by omega
    rw [suR_congr (g := fun i => if i = k then vlR m i j - val (lstF m l) else vlR m i j) fun i hi => by
      rw [(step_vl h hr hok hi hj).2]
      have hil : i < l.length := by omega
      by_cases e2 : i = k
      · subst e2
        rw [at0_eq hil, e]; simp
      · rw [if_neg e2, if_neg]
        rw [at0_eq hil]
        intro e3
        have hb := h4 i hil
        have : l[i] = l[k] := by rw [e]; omega
        rcases Nat.lt_or_gt_of_ne e2 with hlt | hlt
        · exact (List.pairwise_iff_getElem.1 h5) i k hil hk hlt this
        · exact (List.pairwise_iff_getElem.1 h5) k i hk hil hlt this.symm]
    rw [suR_dec, if_pos hkm, h.cs j hj]
end

/-- How many are above 0. -/
def cntN (m : Tab) : Nat → Nat
  | 0 => 0
  | k + 1 => cntN m k + (m.getD k (true, [])).2.countP fun f => decide (0 < f.1)
def cntP (m : Tab) : Nat := cntN m m.length
theorem cntN_le {m m' : Tab} : ∀ {n : Nat}, (∀ i, i < n → (m'.getD i (true, [])).2.countP (fun f => decide (0 < f.1)) ≤ (m.getD i (true, [])).2.countP fun f => decide (0 < f.1)) → cntN m' n ≤ cntN m n ∧ ∀ k, k < n → (m'.getD k (true, [])).2.countP (fun f => decide (0 < f.1)) < (m.getD k (true, [])).2.countP (fun f => decide (0 < f.1)) → cntN m' n < cntN m n
  | 0, _ => ⟨Nat.le_refl _, fun k hk => by omega⟩
  | n + 1, h => by
    obtain ⟨h1, h2⟩ := cntN_le (m := m) (m' := m') (n := n) fun i hi => h i (by omega)
    have h3 := h n (by omega)
    simp only [cntN]
    refine ⟨by omega, fun k hk hl => ?_⟩
    by_cases e : k = n
    · subst e; omega
    · have := h2 k (by omega) hl; omega
theorem cntN_bd {m : Tab} (h : ∀ i (hi : i < m.length), m[i].2.length ≤ 4) : ∀ {n : Nat}, n ≤ m.length → cntN m n ≤ 4 * n
  | 0, _ => by simp [cntN]
  | n + 1, hn => by
    have ih := cntN_bd h (n := n) (by omega)
    have hg : m.getD n (true, []) = m[n] := by simp [List.getD_eq_getElem?_getD, show n < m.length from hn]
    have := List.countP_le_length (p := fun f : Int × Int => decide (0 < f.1)) (l := m[n].2)
    have := h n (by omega)
    rw [cntN, hg]; omega
theorem cnt_step {m : Tab} {s : Rat} {l : List Int} (h : TabOk m s) (hr : rankB m.length l = true) (hp : posL m l = true) (hok : subOk m l (lstF m l) = true) : cntP (stepT m l) < cntP m := by
  unfold cntP
  rw [stepT_len]
  have hrow : ∀ i, i < m.length → ∃ x : Nat, at0 l i = x ∧ ∃ hx : x < (m.getD i (true, [])).2.length, ((stepT m l).getD i (true, [])).2 = (m.getD i (true, [])).2.set x (subF (cel0 m i x) (lstF m l)).1 ∧ 0 < ((m.getD i (true, [])).2[x]).1 := fun i hi => by
    obtain ⟨x, e, hx⟩ := rk_at hr hi
    have hg : m.getD i (true, []) = m[i] := by simp [List.getD_eq_getElem?_getD, hi]
    have hi' : i < (stepT m l).length := by rw [stepT_len]; exact hi
    have hg' : (stepT m l).getD i (true, []) = (stepT m l)[i] := by simp [List.getD_eq_getElem?_getD, hi']
    have hxl : x < m[i].2.length := by rw [(h.row i hi).2]; exact hx
    have hpi := allR_at hp hi
    rw [e] at hpi
    simp only [Int.toNat_natCast, decide_eq_true_eq] at hpi
    rw [cel0_at hi hxl] at hpi
    refine ⟨x, e, by rw [hg]; exact hxl, ?_, ?_⟩
    · rw [hg', hg, stepT_get hi hi', e]; rfl
    · simp only [hg]; exact hpi
  have hcnt : ∀ i (hi : i < m.length) (x : Nat) (hx : x < (m.getD i (true, [])).2.length), ((stepT m l).getD i (true, [])).2 = (m.getD i (true, [])).2.set x (subF (cel0 m i x) (lstF m l)).1 → 0 < ((m.getD i (true, [])).2[x]).1 →
      1 ≤ (m.getD i (true, [])).2.countP (fun f => decide (0 < f.1)) ∧ ((stepT m l).getD i (true, [])).2.countP (fun f => decide (0 < f.1)) = (m.getD i (true, [])).2.countP (fun f => decide (0 < f.1)) - 1 + if 0 < (subF (cel0 m i x) (lstF m l)).1.1 then 1 else 0 := fun i hi x hx e hpx => by
    refine ⟨List.countP_pos_iff.2 ⟨_, List.getElem_mem hx, decide_eq_true hpx⟩, ?_⟩
    rw [e, List.countP_set hx, if_pos (decide_eq_true hpx)]
    simp only [decide_eq_true_eq]
  refine (cntN_le fun i hi => ?_).2 ?_ ?_ ?_
  · obtain ⟨x, _, hx, e, hpx⟩ := hrow i hi
    obtain ⟨c1, c2⟩ := hcnt i hi x hx e hpx
    rw [c2]; split <;> omega
  · exact Classical.choose (lst_ok h hr).2.2
  · exact (Classical.choose_spec (lst_ok h hr).2.2).1
  · obtain ⟨hi, e0⟩ := Classical.choose_spec (lst_ok h hr).2.2
    generalize Classical.choose (lst_ok h hr).2.2 = i at *
    obtain ⟨x, e1, hx, e, hpx⟩ := hrow i hi
    obtain ⟨c1, c2⟩ := hcnt i hi x hx e hpx
    rw [e1] at e0
    simp only [Int.toNat_natCast] at e0
    have hs := allR_at hok hi
    rw [e1] at hs
    simp only [Int.toNat_natCast] at hs
    obtain ⟨g1, g2, g3, g4⟩ := subF_val hs
    have hz : ¬ 0 < (subF (cel0 m i x) (lstF m l)).1.1 := fun hc => by
      have := (val_pos g3).2 hc
      rw [g4, e0] at this
      grind
    rw [c2, if_neg hz]; omega

/-- Nothing is left; the first exchange that is left. -/
def takB (m : Tab) : Bool := !((m.flatMap (·.2)).any fun f => decide (0 < f.1))
def exO (m : Tab) : Option (List Int) := ((allRk m.length).find? fun o => posL m o.2).map (·.2)
theorem allRk_rk {n : Nat} (h1 : 1 ≤ n) (h4 : n ≤ 4) : ∀ o ∈ allRk n, o.1 = false ∧ rankB n o.2 = true := by
  have h : n = 1 ∨ n = 2 ∨ n = 3 ∨ n = 4 := by omega
  rcases h with rfl | rfl | rfl | rfl <;> decide +kernel
theorem exO_some {m : Tab} {s : Rat} {l : List Int} (h : TabOk m s) (he : exO m = some l) : rankB m.length l = true ∧ posL m l = true := by
  unfold exO at he
  rw [Option.map_eq_some_iff] at he
  obtain ⟨o, h1, rfl⟩ := he
  exact ⟨(allRk_rk h.n1 h.n4 o (List.mem_of_find?_eq_some h1)).2, by simpa using List.find?_some h1⟩
theorem tak_ex {m : Tab} {s : Rat} (h : TabOk m s) : takB m = (exO m).isNone := by
  cases ht : takB m with
  | true =>
    cases he : exO m with
    | none => rfl
    | some l =>
      obtain ⟨hr, hp⟩ := exO_some h he
      have hp0 := allR_at hp (show 0 < m.length from h.n1)
      obtain ⟨x, e, hx⟩ := rk_at hr (show 0 < m.length from h.n1)
      rw [e] at hp0
      simp only [Int.toNat_natCast, decide_eq_true_eq] at hp0
      rw [tab_cel h h.n1 hx] at hp0
      simp only [takB, Bool.not_eq_true', List.any_eq_false, decide_eq_true_eq] at ht
      exact absurd hp0 (ht _ (List.mem_flatMap.2 ⟨m[0]'h.n1, List.getElem_mem _, List.getElem_mem _⟩))
  | false =>
    have hx : ∃ i j, i < m.length ∧ j < m.length ∧ 0 < (cel0 m i j).1 := by
      simp only [takB, Bool.not_eq_false', List.any_eq_true, decide_eq_true_eq] at ht
      obtain ⟨f, hf, hp⟩ := ht
      obtain ⟨r, hr, hfr⟩ := List.mem_flatMap.1 hf
      obtain ⟨i, hi, rfl⟩ := List.getElem_of_mem hr
      obtain ⟨j, hj, rfl⟩ := List.getElem_of_mem hfr
      exact ⟨i, j, hi, by rw [(h.row i hi).2] at hj; exact hj, by rw [cel0_at hi hj]; exact hp⟩
    obtain ⟨i, j, hi, hj, hp⟩ := hx
    have hnn : ∀ i j, i < m.length → j < m.length → 0 ≤ vlR m i j := fun i j hi hj => val_nn (h.ok i j hi hj).1 (h.ok i j hi hj).2
    have hs : 0 < s := by
      have h1 := (suR_ge (f := fun j => vlR m i j) (n := m.length) fun j hj => hnn i j hi hj).2 j hj
      rw [h.rs i hi] at h1
      have h2 := (val_pos (h.ok i j hi hj).1).2 hp
      unfold vlR at h1
      grind
    obtain ⟨o, ho, hpos⟩ := exch_some h.n1 h.n4 hs hnn h.rs h.cs
    have hpl : posL m o.2 = true := allR_yes fun i hi => by
      obtain ⟨x, e, hx, hv⟩ := hpos i hi
      rw [e]
      simp only [Int.toNat_natCast]
      exact decide_eq_true ((val_pos (h.ok i x hi hx).1).1 hv)
    cases he : exO m with
    | some l => rfl
    | none =>
      unfold exO at he
      rw [Option.map_eq_none_iff, List.find?_eq_none] at he
      exact absurd hpl (he o ho)
theorem cnt_zero {m : Tab} {s : Rat} (h : TabOk m s) (hc : cntP m = 0) : exO m = none := by
  have key : ∀ n, n ≤ m.length → cntN m n = 0 → ∀ i, i < n → (m.getD i (true, [])).2.countP (fun f => decide (0 < f.1)) = 0 := by
    intro n
    induction n with
    | zero => intro _ _ i hi; omega
    | succ n ih =>
      intro hn hz i hi
      rw [cntN] at hz
      by_cases e : i = n
      · subst e; omega
      · exact ih (by omega) (by omega) i (by omega)
  have hz := key m.length (Nat.le_refl _) hc
  have ht : takB m = true := by
    simp only [takB, Bool.not_eq_true', List.any_eq_false, decide_eq_true_eq]
    intro f hf
    obtain ⟨r, hr, hfr⟩ := List.mem_flatMap.1 hf
    obtain ⟨i, hi, rfl⟩ := List.getElem_of_mem hr
    have h0 := hz i hi
    rw [show m.getD i (true, []) = m[i] by simp [List.getD_eq_getElem?_getD, hi], List.countP_eq_zero] at h0
    simpa using h0 f hfr
  rw [tak_ex h] at ht
  simpa using ht

/-- The tickets, with so many rounds at most. -/
def splR : Nat → Tab → List Tk → List Tk × Bool
  | 0, _, out => (out, true)
  | f + 1, m, out => match exO m with
    | none => (out, true)
    | some l => if subOk m l (lstF m l) = true then splR f (stepT m l) (out ++ [(lstF m l, false, l)]) else ([], false)
structure SplP (n : Nat) (R : List Tk × Bool) (m : Tab) (out : List Tk) : Prop where
  ln : m.length = n
  tab : ∃ s, TabOk m s
  few : out.length + cntP m ≤ 16
  fu : ∃ f, cntP m ≤ f ∧ splR f m out = R
  lsn : ∀ t ∈ out, t.2.1 = false ∧ t.2.2.length = n

section
variable {n : Nat} {R : List Tk × Bool} {m : Tab} {out : List Tk} {l : List Int}
theorem spl_done (h : SplP n R m out) (he : exO m = none) : R = (out, true) := by
  obtain ⟨f, _, hf⟩ := h.fu
  rw [← hf]
  cases f with
  | zero => rfl
  | succ f => rw [splR, he]
theorem spl_pos (h : SplP n R m out) (he : exO m = some l) : 0 < cntP m := by
  rcases Nat.eq_zero_or_pos (cntP m) with h0 | h0
  · obtain ⟨s, hs⟩ := h.tab
    rw [cnt_zero hs h0] at he; simp at he
  · exact h0
theorem spl_fail (h : SplP n R m out) (he : exO m = some l) (hok : subOk m l (lstF m l) = false) : R = ([], false) := by
  have h0 := spl_pos h he
  obtain ⟨f, hf1, hf⟩ := h.fu
  rw [← hf]
  cases f with
  | zero => omega
  | succ f => rw [splR, he]; simp [hok]
theorem spl_next (h : SplP n R m out) (he : exO m = some l) (hok : subOk m l (lstF m l) = true) : SplP n R (stepT m l) (out ++ [(lstF m l, false, l)]) ∧ cntP (stepT m l) < cntP m := by
  have h0 := spl_pos h he
  obtain ⟨s, hs⟩ := h.tab
  obtain ⟨hr, hp⟩ := exO_some hs he
  have hc := cnt_step hs hr hp hok
  have hln := h.ln
  have hfew := h.few
  refine ⟨⟨by rw [stepT_len]; exact h.ln, ⟨_, step_ok hs hr hok⟩, by simp; omega, ?_, fun t ht => ?_⟩, hc⟩
  · obtain ⟨f, hf1, hf⟩ := h.fu
    cases f with
    | zero => omega
    | succ f =>
      refine ⟨f, by omega, ?_⟩
      rw [splR, he] at hf
      simpa [hok] using hf
  · rcases List.mem_append.1 ht with ht | ht
    · exact h.lsn t ht
    · simp only [List.mem_singleton] at ht
      subst ht
      exact ⟨rfl, by have := (rank_facts hr).2.2.1; show l.length = n; omega⟩
theorem spl_rank (h : SplP n R m out) (he : exO m = some l) : rankB n l = true ∧ posL m l = true := by
  obtain ⟨s, hs⟩ := h.tab
  have := exO_some hs he
  rw [h.ln] at this; exact this
end

end Go.Proofs.Ytkfgmpmeipilnaa.Ax
