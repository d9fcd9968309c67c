/-
  Contracts: the pairs that block a matching (both programs). No condition.
-/
import Derived.Test.YtakladjlnkojjaaDoorCG7
import Derived.Test.YtakladjlnkojjaaDoorCG4
import Derived.Test.YtakladjlnkojjaaDoorCB2
import Derived.Test.YtakladjlnkojjaaDoorCK4
namespace Go.Proofs.YtakladjlnkojjaaDoor.Ax
open Go Go.RowKit
set_option linter.unusedSimpArgs false

/-- The slot of the pairs so far; their row. -/
def apB : List (Bool × List Int) → AV
  | [] => .sl true 1 []
  | _ :: l => .ref 1 [] 0 (l.length + 1)
def apBt (tk : Tok) : List (Bool × List Int) → List Tok
  | [] => [tk]
  | x :: l => [tk, ⟨true, .sl false 1 ((x :: l).map row)⟩]

/-- A matching of a market. -/
def matB (xs ys : List (Bool × List Int)) (l : List Int) : Prop := marB xs ys = true ∧ l.length = xs.length ∧ ∀ x ∈ l, 0 ≤ x ∧ x < xs.length
noncomputable def mBlk : List AV → Option AV := mk (fun p => matB p.2.1 p.2.2.2.1 p.2.2.2.2.2) (fun (p : Bool × List (Bool × List Int) × Bool × List (Bool × List Int) × Bool × List Int) => [mkt p.1 p.2.1 p.2.2.1 p.2.2.2.1, ints p.2.2.2.2.1 p.2.2.2.2.2]) (fun p => .sl (blI p.2.1 p.2.2.2.1 p.2.2.2.2.2 p.2.1.length).isEmpty 1 ((blI p.2.1 p.2.2.2.1 p.2.2.2.2.2 p.2.1.length).map row))
theorem mBlk_at (b : Bool) (xs : List (Bool × List Int)) (c : Bool) (ys : List (Bool × List Int)) (nl : Bool) (l : List Int) (h : matB xs ys l) : mBlk [.agg [.sl b 1 (xs.map row), .sl c 1 (ys.map row)], .sl nl 1 (l.map int)] = some (.sl (blI xs ys l xs.length).isEmpty 1 ((blI xs ys l xs.length).map row)) :=
  mk_eq (enc := fun (p : Bool × List (Bool × List Int) × Bool × List (Bool × List Int) × Bool × List Int) => [mkt p.1 p.2.1 p.2.2.1 p.2.2.2.1, ints p.2.2.2.2.1 p.2.2.2.2.2]) (x := (b, xs, c, ys, nl, l)) (by
    rintro ⟨a, b, c, d, e, f⟩ ⟨a', b', c', d', e', f'⟩ h
    simp [mkt, intss, ints, map_row_inj, map_int_inj] at h
    simp [h]) h
noncomputable def mBlkS : List AV → Option AV := mk (fun p => matB p.2.1 p.2.2.2.1 p.2.2.2.2.2) (fun (p : Bool × List (Bool × List Int) × Bool × List (Bool × List Int) × Bool × List Int) => [mkt p.1 p.2.1 p.2.2.1 p.2.2.2.1, ints p.2.2.2.2.1 p.2.2.2.2.2]) (fun p => .sl false 1 ((blS p.2.1 p.2.2.2.1 p.2.2.2.2.2 p.2.1.length).map row))
theorem mBlkS_at (b : Bool) (xs : List (Bool × List Int)) (c : Bool) (ys : List (Bool × List Int)) (nl : Bool) (l : List Int) (h : matB xs ys l) : mBlkS [.agg [.sl b 1 (xs.map row), .sl c 1 (ys.map row)], .sl nl 1 (l.map int)] = some (.sl false 1 ((blS xs ys l xs.length).map row)) :=
  mk_eq (enc := fun (p : Bool × List (Bool × List Int) × Bool × List (Bool × List Int) × Bool × List Int) => [mkt p.1 p.2.1 p.2.2.1 p.2.2.2.1, ints p.2.2.2.2.1 p.2.2.2.2.2]) (x := (b, xs, c, ys, nl, l)) (by
    rintro ⟨a, b, c, d, e, f⟩ ⟨a', b', c', d', e', f'⟩ h
    simp [mkt, intss, ints, map_row_inj, map_int_inj] at h
    simp [h]) h

/-- The pairs with the first men and, of the next one, the first women. -/
def blT (xs ys : List (Bool × List Int)) (l : List Int) (i w : Nat) : List (Bool × List Int) := blI xs ys l i ++ bkR xs ys l i ((List.range w).map fun (w : Nat) => (w : Int))
theorem blT_zero {xs ys : List (Bool × List Int)} {l : List Int} {i : Nat} : blT xs ys l i 0 = blI xs ys l i := by simp [blT, bkR]
theorem blT_all {xs ys : List (Bool × List Int)} {l : List Int} {i : Nat} : blT xs ys l i l.length = blI xs ys l (i + 1) := by rw [blI_succ]; rfl
theorem blT_succ {xs ys : List (Bool × List Int)} {l : List Int} {i w : Nat} : blT xs ys l i (w + 1) = blT xs ys l i w ++ (if bkB xs ys l (i : Int) (w : Int) = true then [(false, [(i : Int), (w : Int)])] else []) := by
  unfold blT; rw [List.range_succ, List.map_append, List.map_singleton, bkR_snoc, List.append_assoc]
theorem blI_len {xs ys : List (Bool × List Int)} {l : List Int} : ∀ {k : Nat}, (blI xs ys l k).length ≤ k * l.length
  | 0 => by simp [blI]
  | k + 1 => by
    have := blI_len (xs := xs) (ys := ys) (l := l) (k := k)
    have h2 := bkR_len (xs := xs) (ys := ys) (l := l) (i := k) (c := (List.range l.length).map fun (w : Nat) => (w : Int))
    rw [blI_succ, List.length_append, Nat.succ_mul]
    simp at h2
    omega
theorem blT_len {xs ys : List (Bool × List Int)} {l : List Int} {i w : Nat} (hi : i ≤ 5) (hl : l.length ≤ 5) (hw : w ≤ 5) : (blT xs ys l i w).length ≤ 30 := by
  have h1 := blI_len (xs := xs) (ys := ys) (l := l) (k := i)
  have h2 := bkR_len (xs := xs) (ys := ys) (l := l) (i := i) (c := (List.range w).map fun (w : Nat) => (w : Int))
  have h3 : i * l.length ≤ 5 * 5 := Nat.mul_le_mul hi hl
  unfold blT
  rw [List.length_append]
  simp at h2
  omega

set_option maxRecDepth 8000 in
set_option maxHeartbeats 4000000 in
theorem blocks_ok : FnOk Tryd.prog 85 mBlk := by
  refine mk_ok fun ⟨b, xs, c, ys, nl, l⟩ ⟨h, hll, hlb⟩ => ?_
  simp only at h hll hlb
  have hG : FnsOk Tryd.prog [(81, mPref), (80, mPos)] := (.cons implPref_ok (.cons slicesIndex_ok .nil))
  refine callOk_awp (ctx_ok eqOk hG) mixed (live := [true, true, true, false, true, true, true, true, true, true, true, true, true, false, false, false, false, true, true, true, false, false, false, false, false, false, false, false, false, false, false, false, false, false, false, false, false, false, false, false, true]) (dt := [(8, ⟨[], [], []⟩)]) Tryd.func85 rfl (by kernel_rfl) (by kernel_rfl) fun w0 hlens => ?_
  clear hlens
  obtain ⟨hk, hr, hry, hn1, hn5⟩ := mar_ok h
  have hyl := hk.len
  have hz0 : blI xs ys l 0 = [] := rfl
  have ht : ys.take xs.length = ys := List.take_of_length_le (by omega)
  simp [Tryd.f85, List.range, List.range.loop, ints, intss, int, bool, row, frac, fracs, ← List.map_take, ← List.map_drop, mkt, hll]
  refine awp_range (live := [true, true, true, false, true, true, true, true, true, true, true, true, true, false, false, false, false, true, true, true, false, false, false, false, false, false, false, false, false, false, false, false, false, false, false, false, false, false, false, false, true]) (ctx_ok eqOk hG) mixed [false, true, true, false, false, true, false, false, false, true, true, true] (xs.length) (fun i => True) (fun i => ⟨[.junk, ints nl l, .ptr 0 [] 0 0, .junk, .junk, apB (blI xs ys l i), .junk, .junk, .junk, ints nl l, int xs.length, int i, .junk, .junk, .junk, .junk, .junk, .junk, .junk, .junk, .junk, .junk, .junk, .junk, .junk, .junk, .junk, .junk, .junk, .junk, .junk, .junk, .junk, .junk, .junk, .junk, .junk, .junk, .junk, .junk, .junk, .junk, .junk, .junk, .junk, .junk, .junk, .junk, .junk, .junk], apBt ⟨false, .sl false 2 [.agg [.sl b 1 (xs.map row), .sl c 1 (ys.map row)]]⟩ (blI xs ys l i)⟩) ?_ (by simp [sub, slotsLe, clean, keep, refsL, refs, once, place, renL, ren, List.replicate, int, bool, hz0, apB, apBt, ints, row]) ?_ ?_ ?_
  · omega
  · trivial
  · intro i hi _ hwi
    have hli : i < l.length := by omega
    have hown : l[i] = at1 l (i : Int) := by unfold at1; simp [List.getD_eq_getElem?_getD, hli]
    have hli2 : l[i]? = some (at1 l (i : Int)) := by rw [List.getElem?_eq_getElem hli, hown]
    have hz := blT_zero (xs := xs) (ys := ys) (l := l) (i := i)
    have hall := blT_all (xs := xs) (ys := ys) (l := l) (i := i)
    rw [hll] at hall
    have hrr := hr xs[i] (List.getElem_mem hi)
    have tr : List.take xs.length xs[i].2 = xs[i].2 := List.take_of_length_le (by omega)
    rcases hA : blI xs ys l i with _ | ⟨r0, A⟩
    · simp [List.range, List.range.loop, ints, intss, int, bool, row, frac, fracs, ← List.map_take, ← List.map_drop, hi, hli, hown, hli2, hwi, hA, apB, apBt, hll]
      refine awp_range (live := [true, true, true, false, true, true, true, true, true, true, true, true, true, false, false, false, false, true, true, true, false, false, false, false, false, false, false, false, false, false, false, false, false, false, false, false, false, false, false, false, true]) (ctx_ok eqOk hG) mixed [false, true, true, false, false, true, true, true, false, true, true, true, false, false, false, false, false, true, true] (xs.length) (fun w => True) (fun w => ⟨[.junk, ints nl l, .ptr 0 [] 0 0, .junk, .junk, apB (blT xs ys l i w), int i, int (at1 l (i : Int)), .junk, ints nl l, int xs.length, int i, .junk, .junk, .junk, .junk, .junk, int xs.length, int w, .junk, .junk, .junk, .junk, .junk, .junk, .junk, .junk, .junk, .junk, .junk, .junk, .junk, .junk, .junk, .junk, .junk, .junk, .junk, .junk, .junk, .junk, .junk, .junk, .junk, .junk, .junk, .junk, .junk, .junk, .junk], apBt ⟨false, .sl false 2 [.agg [.sl b 1 (xs.map row), .sl c 1 (ys.map row)]]⟩ (blT xs ys l i w)⟩) ?_ (by simp [sub, slotsLe, clean, keep, refsL, refs, once, place, renL, ren, List.replicate, int, bool, hz, hA, apB, apBt, ints, hll, row]) ?_ ?_ ?_
      · omega
      · trivial
      · intro w hw _ hww
        have hwy : w < ys.length := by omega
        have hs := blT_succ (xs := xs) (ys := ys) (l := l) (i := i) (w := w)
        have hbk : bkB xs ys l (i : Int) (w : Int) = (pfB xs[i].2 w (at1 l (i : Int)) && pfB ys[w].2 i (pos l w)) := by unfold bkB; rw [rw2_nat hi, rw2_nat hwy]
        rw [hbk] at hs
        have hqr := hry ys[w] (List.getElem_mem hwy)
        have tq : List.take xs.length ys[w].2 = ys[w].2 := List.take_of_length_le (by omega)
        have p1 := mPref_at xs[i].1 xs[i].2 w (at1 l (i : Int))
        have p2 := mPref_at ys[w].1 ys[w].2 i (pos l w)
        have p3 := mPos_at nl l w
        have hl30 := blT_len (xs := xs) (ys := ys) (l := l) (i := i) (w := w) (by omega) (by omega) (by omega)
        cases q1 : pfB xs[i].2 w (at1 l (i : Int)) with
        | false =>
          rw [q1] at p1 hs
          rw [Bool.false_and, if_neg (by decide), List.append_nil] at hs
          rcases hB : blT xs ys l i w with _ | ⟨r1, B⟩
          · simp [List.range, List.range.loop, ints, intss, int, bool, row, frac, fracs, ← List.map_take, ← List.map_drop, row, hi, hw, hww, hyl, hrr, hqr, tr, tq, hwy, p1, p2, p3, hs, hB, apB, apBt]
          · simp [List.range, List.range.loop, ints, intss, int, bool, row, frac, fracs, ← List.map_take, ← List.map_drop, row, hi, hw, hww, hyl, hrr, hqr, tr, tq, hwy, p1, p2, p3, hs, hB, apB, apBt]
        | true =>
          cases q2 : pfB ys[w].2 i (pos l w) with
          | false =>
            rw [q1] at p1 hs
            rw [q2] at p2 hs
            rw [Bool.and_false, if_neg (by decide), List.append_nil] at hs
            rcases hB : blT xs ys l i w with _ | ⟨r1, B⟩
            · simp [List.range, List.range.loop, ints, intss, int, bool, row, frac, fracs, ← List.map_take, ← List.map_drop, row, hi, hw, hww, hyl, hrr, hqr, tr, tq, hwy, p1, p2, p3, hs, hB, apB, apBt]
            · simp [List.range, List.range.loop, ints, intss, int, bool, row, frac, fracs, ← List.map_take, ← List.map_drop, row, hi, hw, hww, hyl, hrr, hqr, tr, tq, hwy, p1, p2, p3, hs, hB, apB, apBt]
          | true =>
            rw [q1] at p1 hs
            rw [q2] at p2 hs
            rw [Bool.and_self, if_pos rfl] at hs
            rcases hB : blT xs ys l i w with _ | ⟨r1, B⟩
            · simp [List.range, List.range.loop, ints, intss, int, bool, row, frac, fracs, ← List.map_take, ← List.map_drop, row, hi, hw, hww, hyl, hrr, hqr, tr, tq, hwy, p1, p2, p3, hs, hB, apB, apBt]
            · rw [hB, List.length_cons] at hl30
              have hl4 : B.length ≤ 4611686018427387902 ∧ (B.length + 1 + 1) * 24 ≤ 140737488355328 := by omega
              simp [List.range, List.range.loop, ints, intss, int, bool, row, frac, fracs, ← List.map_take, ← List.map_drop, row, hi, hw, hww, hyl, hrr, hqr, tr, tq, hwy, p1, p2, p3, hs, hB, apB, apBt, hl4]
      · intro _
        rcases hD : blI xs ys l (i + 1) with _ | ⟨r2, D⟩ <;> simp [List.range, List.range.loop, ints, intss, int, bool, row, frac, fracs, ← List.map_take, ← List.map_drop, hi, hwi, hall, hD, apB, apBt, hll]
    · simp [List.range, List.range.loop, ints, intss, int, bool, row, frac, fracs, ← List.map_take, ← List.map_drop, hi, hli, hown, hli2, hwi, hA, apB, apBt, hll]
      refine awp_range (live := [true, true, true, false, true, true, true, true, true, true, true, true, true, false, false, false, false, true, true, true, false, false, false, false, false, false, false, false, false, false, false, false, false, false, false, false, false, false, false, false, true]) (ctx_ok eqOk hG) mixed [false, true, true, false, false, true, true, true, false, true, true, true, false, false, false, false, false, true, true] (xs.length) (fun w => True) (fun w => ⟨[.junk, ints nl l, .ptr 0 [] 0 0, .junk, .junk, apB (blT xs ys l i w), int i, int (at1 l (i : Int)), .junk, ints nl l, int xs.length, int i, .junk, .junk, .junk, .junk, .junk, int xs.length, int w, .junk, .junk, .junk, .junk, .junk, .junk, .junk, .junk, .junk, .junk, .junk, .junk, .junk, .junk, .junk, .junk, .junk, .junk, .junk, .junk, .junk, .junk, .junk, .junk, .junk, .junk, .junk, .junk, .junk, .junk, .junk], apBt ⟨false, .sl false 2 [.agg [.sl b 1 (xs.map row), .sl c 1 (ys.map row)]]⟩ (blT xs ys l i w)⟩) ?_ (by simp [sub, slotsLe, clean, keep, refsL, refs, once, place, renL, ren, List.replicate, int, bool, hz, hA, apB, apBt, ints, hll, row]) ?_ ?_ ?_
      · omega
      · trivial
      · intro w hw _ hww
        have hwy : w < ys.length := by omega
        have hs := blT_succ (xs := xs) (ys := ys) (l := l) (i := i) (w := w)
        have hbk : bkB xs ys l (i : Int) (w : Int) = (pfB xs[i].2 w (at1 l (i : Int)) && pfB ys[w].2 i (pos l w)) := by unfold bkB; rw [rw2_nat hi, rw2_nat hwy]
        rw [hbk] at hs
        have hqr := hry ys[w] (List.getElem_mem hwy)
        have tq : List.take xs.length ys[w].2 = ys[w].2 := List.take_of_length_le (by omega)
        have p1 := mPref_at xs[i].1 xs[i].2 w (at1 l (i : Int))
        have p2 := mPref_at ys[w].1 ys[w].2 i (pos l w)
        have p3 := mPos_at nl l w
        have hl30 := blT_len (xs := xs) (ys := ys) (l := l) (i := i) (w := w) (by omega) (by omega) (by omega)
        cases q1 : pfB xs[i].2 w (at1 l (i : Int)) with
        | false =>
          rw [q1] at p1 hs
          rw [Bool.false_and, if_neg (by decide), List.append_nil] at hs
          rcases hB : blT xs ys l i w with _ | ⟨r1, B⟩
          · simp [List.range, List.range.loop, ints, intss, int, bool, row, frac, fracs, ← List.map_take, ← List.map_drop, row, hi, hw, hww, hyl, hrr, hqr, tr, tq, hwy, p1, p2, p3, hs, hB, apB, apBt]
          · simp [List.range, List.range.loop, ints, intss, int, bool, row, frac, fracs, ← List.map_take, ← List.map_drop, row, hi, hw, hww, hyl, hrr, hqr, tr, tq, hwy, p1, p2, p3, hs, hB, apB, apBt]
        | true =>
          cases q2 : pfB ys[w].2 i (pos l w) with
          | false =>
            rw [q1] at p1 hs
            rw [q2] at p2 hs
            rw [Bool.and_false, if_neg (by decide), List.append_nil] at hs
            rcases hB : blT xs ys l i w with _ | ⟨r1, B⟩
            · simp [List.range, List.range.loop, ints, intss, int, bool, row, frac, fracs, ← List.map_take, ← List.map_drop, row, hi, hw, hww, hyl, hrr, hqr, tr, tq, hwy, p1, p2, p3, hs, hB, apB, apBt]
            · simp [List.range, List.range.loop, ints, intss, int, bool, row, frac, fracs, ← List.map_take, ← List.map_drop, row, hi, hw, hww, hyl, hrr, hqr, tr, tq, hwy, p1, p2, p3, hs, hB, apB, apBt]
          | true =>
            rw [q1] at p1 hs
            rw [q2] at p2 hs
            rw [Bool.and_self, if_pos rfl] at hs
            rcases hB : blT xs ys l i w with _ | ⟨r1, B⟩
            · simp [List.range, List.range.loop, ints, intss, int, bool, row, frac, fracs, ← List.map_take, ← List.map_drop, row, hi, hw, hww, hyl, hrr, hqr, tr, tq, hwy, p1, p2, p3, hs, hB, apB, apBt]
            · rw [hB, List.length_cons] at hl30
              have hl4 : B.length ≤ 4611686018427387902 ∧ (B.length + 1 + 1) * 24 ≤ 140737488355328 := by omega
              simp [List.range, List.range.loop, ints, intss, int, bool, row, frac, fracs, ← List.map_take, ← List.map_drop, row, hi, hw, hww, hyl, hrr, hqr, tr, tq, hwy, p1, p2, p3, hs, hB, apB, apBt, hl4]
      · intro _
        rcases hD : blI xs ys l (i + 1) with _ | ⟨r2, D⟩ <;> simp [List.range, List.range.loop, ints, intss, int, bool, row, frac, fracs, ← List.map_take, ← List.map_drop, hi, hwi, hall, hD, apB, apBt, hll]
  · intro _
    rcases hD : blI xs ys l xs.length with _ | ⟨r2, D⟩ <;> simp [List.range, List.range.loop, ints, intss, int, bool, row, frac, fracs, ← List.map_take, ← List.map_drop, hD, apB, apBt]

/-- The same in the order of the lists. -/
def blU (xs ys : List (Bool × List Int)) (l : List Int) (i w : Nat) : List (Bool × List Int) := blS xs ys l i ++ bkR xs ys l i ((rw2 xs i).take w)
theorem blU_zero {xs ys : List (Bool × List Int)} {l : List Int} {i : Nat} : blU xs ys l i 0 = blS xs ys l i := by simp [blU, bkR]
theorem blU_all {xs ys : List (Bool × List Int)} {l : List Int} {i w : Nat} (h : (rw2 xs i).length ≤ w) : blU xs ys l i w = blS xs ys l (i + 1) := by rw [blS_succ]; unfold blU; rw [List.take_of_length_le h]
theorem blU_succ {xs ys : List (Bool × List Int)} {l : List Int} {i w : Nat} (h : w < (rw2 xs i).length) : blU xs ys l i (w + 1) = blU xs ys l i w ++ (if bkB xs ys l (i : Int) (rw2 xs i)[w] = true then [(false, [(i : Int), (rw2 xs i)[w]])] else []) := by
  unfold blU; rw [List.take_succ_eq_append_getElem h, bkR_snoc, List.append_assoc]
theorem blS_len {xs ys : List (Bool × List Int)} {l : List Int} : ∀ {k : Nat}, (∀ i, i < k → (rw2 xs (i : Int)).length ≤ 5) → (blS xs ys l k).length ≤ k * 5
  | 0, _ => by simp [blS]
  | k + 1, h => by
    have := blS_len (xs := xs) (ys := ys) (l := l) (k := k) fun i hi => h i (by omega)
    have h2 := bkR_len (xs := xs) (ys := ys) (l := l) (i := k) (c := rw2 xs k)
    have h3 := h k (by omega)
    rw [blS_succ, List.length_append, Nat.succ_mul]
    omega

set_option maxRecDepth 8000 in
set_option maxHeartbeats 4000000 in
theorem l17Blocks_ok : FnOk Tryd.prog 77 mBlkS := by
  refine mk_ok fun ⟨b, xs, c, ys, nl, l⟩ ⟨h, hll, hlb⟩ => ?_
  simp only at h hll hlb
  have hG : FnsOk Tryd.prog [(73, mPref), (72, mPos)] := (.cons specPref_ok (.cons placeOf_ok .nil))
  refine callOk_awp (ctx_ok eqOk hG) mixed (live := [true, true, true, false, true, true, true, true, false, true, false, false, true, true, true, true, false, false, false, true, true, true, true, false, false, false, false, false, false, false, false, false, false, false, false, false, false, false, false, false, false, false, false, false, false, false, false, false, false, false, false, true]) (dt := [(8, ⟨[], [], []⟩)]) Tryd.func77 rfl (by kernel_rfl) (by kernel_rfl) fun w0 hlens => ?_
  clear hlens
  obtain ⟨hk, hr, hry, hn1, hn5⟩ := mar_ok h
  have hyl := hk.len
  have hz0 : blS xs ys l 0 = [] := rfl
  have ht : ys.take xs.length = ys := List.take_of_length_le (by omega)
  have hrl : ∀ i, i < xs.length → (rw2 xs (i : Int)).length = xs.length := fun i hi => by rw [rw2_nat hi]; exact hr _ (List.getElem_mem hi)
  simp [Tryd.f77, List.range, List.range.loop, ints, intss, int, bool, row, frac, fracs, ← List.map_take, ← List.map_drop, mkt]
  refine awp_range (live := [true, true, true, false, true, true, true, true, false, true, false, false, true, true, true, true, false, false, false, true, true, true, true, false, false, false, false, false, false, false, false, false, false, false, false, false, false, false, false, false, false, false, false, false, false, false, false, false, false, false, false, true]) (ctx_ok eqOk hG) mixed [false, true, true, false, false, true, false, false, false, false, false, false, true, true, true] (xs.length) (fun i => True) (fun i => ⟨[.junk, ints nl l, .ptr 0 [] 0 0, .junk, .junk, .ref 1 [] 0 (blS xs ys l i).length, .junk, .junk, .junk, .junk, .junk, .junk, .ref 0 [(0, 0)] 0 xs.length, int xs.length, int i, .junk, .junk, .junk, .junk, .junk, .junk, .junk, .junk, .junk, .junk, .junk, .junk, .junk, .junk, .junk, .junk, .junk, .junk, .junk, .junk, .junk, .junk, .junk, .junk, .junk, .junk, .junk, .junk, .junk, .junk, .junk, .junk, .junk, .junk, .junk, .junk, .junk, .junk, .junk, .junk, .junk, .junk, .junk, .junk, .junk, .junk], [⟨false, .sl false 2 [.agg [.sl b 1 (xs.map row), .sl c 1 (ys.map row)]]⟩, ⟨true, .sl false 1 ((blS xs ys l i).map row)⟩]⟩) ?_ (by simp [sub, slotsLe, clean, keep, refsL, refs, once, place, renL, ren, List.replicate, int, bool, hz0, ints]) ?_ ?_ ?_
  · omega
  · trivial
  · intro i hi _ hwi
    have hli : i < l.length := by omega
    have hown : l[i] = at1 l (i : Int) := by unfold at1; simp [List.getD_eq_getElem?_getD, hli]
    have hli2 : l[i]? = some (at1 l (i : Int)) := by rw [List.getElem?_eq_getElem hli, hown]
    have hz := blU_zero (xs := xs) (ys := ys) (l := l) (i := i)
    have hrr := hr xs[i] (List.getElem_mem hi)
    have hall := blU_all (xs := xs) (ys := ys) (l := l) (i := i) (w := xs.length) (by rw [hrl i hi]; exact Nat.le_refl _)
    have tr : List.take xs.length xs[i].2 = xs[i].2 := List.take_of_length_le (by omega)
    simp [List.range, List.range.loop, ints, intss, int, bool, row, frac, fracs, ← List.map_take, ← List.map_drop, row, hi, hwi, hrr]
    refine awp_range (live := [true, true, true, false, true, true, true, true, false, true, false, false, true, true, true, true, false, false, false, true, true, true, true, false, false, false, false, false, false, false, false, false, false, false, false, false, false, false, false, false, false, false, false, false, false, false, false, false, false, false, false, true]) (ctx_ok eqOk hG) mixed [false, true, true, false, false, true, true, true, false, false, false, false, true, true, true, false, false, false, false, true, true, true] (xs.length) (fun w => True) (fun w => ⟨[.junk, ints nl l, .ptr 0 [] 0 0, .junk, .junk, .ref 1 [] 0 (blU xs ys l i w).length, int i, .ref 0 [(0, 0), (i, 0)] 0 xs.length, .junk, .junk, .junk, .junk, .ref 0 [(0, 0)] 0 xs.length, int xs.length, int i, .junk, .junk, .junk, .junk, .ref 0 [(0, 0), (i, 0)] 0 xs.length, int xs.length, int w, .junk, .junk, .junk, .junk, .junk, .junk, .junk, .junk, .junk, .junk, .junk, .junk, .junk, .junk, .junk, .junk, .junk, .junk, .junk, .junk, .junk, .junk, .junk, .junk, .junk, .junk, .junk, .junk, .junk, .junk, .junk, .junk, .junk, .junk, .junk, .junk, .junk, .junk, .junk], [⟨false, .sl false 2 [.agg [.sl b 1 (xs.map row), .sl c 1 (ys.map row)]]⟩, ⟨true, .sl false 1 ((blU xs ys l i w).map row)⟩]⟩) ?_ (by simp [sub, slotsLe, clean, keep, refsL, refs, once, place, renL, ren, List.replicate, int, bool, hz, ints, hrr]) ?_ ?_ ?_
    · omega
    · trivial
    · intro w hw _ hww
      have hwr : w < xs[i].2.length := by omega
      have hs := blU_succ (xs := xs) (ys := ys) (l := l) (i := i) (w := w) (by rw [hrl i hi]; exact hw)
      have hv := (hk.hx.all i hi).1 _ (List.getElem_mem hwr)
      obtain ⟨v, hvn⟩ : ∃ v : Nat, xs[i].2[w] = (v : Int) := ⟨xs[i].2[w].toNat, by omega⟩
      have hvx : v < xs.length := by omega
      have hvy : v < ys.length := by omega
      have gv : xs[i].2[w]? = some (v : Int) := by rw [List.getElem?_eq_getElem hwr, hvn]
      have hrv : (rw2 xs (i : Int))[w]'(by rw [hrl i hi]; exact hw) = (v : Int) := by simp only [rw2_nat hi]; exact hvn
      have hbk : bkB xs ys l (i : Int) (v : Int) = (pfB xs[i].2 v (at1 l (i : Int)) && pfB ys[v].2 i (pos l v)) := by unfold bkB; rw [rw2_nat hi, rw2_nat hvy]
      rw [hrv, hbk] at hs
      have hqr := hry ys[v] (List.getElem_mem hvy)
      have tq : List.take xs.length ys[v].2 = ys[v].2 := List.take_of_length_le (by omega)
      have p1 := mPref_at xs[i].1 xs[i].2 v (at1 l (i : Int))
      have p2 := mPref_at ys[v].1 ys[v].2 i (pos l v)
      have p3 := mPos_at nl l v
      have hl30 : (blU xs ys l i w).length ≤ 50 := by
        have h1 := blS_len (xs := xs) (ys := ys) (l := l) (k := i) fun j hj => by rw [hrl j (by omega)]; exact hn5
        have h2 := bkR_len (xs := xs) (ys := ys) (l := l) (i := i) (c := (rw2 xs i).take w)
        unfold blU
        rw [List.length_append]
        rw [List.length_take] at h2
        omega
      have hb4 : (blU xs ys l i w).length + 1 ≤ 4611686018427387904 ∧ ((blU xs ys l i w).length + 1) * 24 ≤ 140737488355328 := by omega
      by_cases q0 : (v : Int) = at1 l (i : Int)
      · have e0 : pfB xs[i].2 v (at1 l (i : Int)) = false := by rw [q0]; exact pfB_self
        rw [e0, Bool.false_and, if_neg (by decide), List.append_nil] at hs
        have q0b : ((v : Int) != at1 l (i : Int)) = false := by simp [q0]
        simp [List.range, List.range.loop, ints, intss, int, bool, row, frac, fracs, ← List.map_take, ← List.map_drop, row, hi, hw, hww, hwr, hvn, gv, hli, hli2, hown, hyl, hrr, hs, q0, q0b]
      · have q0b : ((v : Int) != at1 l (i : Int)) = true := by simpa using q0
        cases q1 : pfB xs[i].2 v (at1 l (i : Int)) with
        | false =>
          rw [q1] at p1 hs
          rw [Bool.false_and, if_neg (by decide), List.append_nil] at hs
          simp [List.range, List.range.loop, ints, intss, int, bool, row, frac, fracs, ← List.map_take, ← List.map_drop, row, hi, hw, hww, hwr, hvn, gv, hli, hli2, hown, hyl, hrr, hqr, tr, tq, hvx, hvy, p1, p2, p3, hs, q0, q0b]
        | true =>
          cases q2 : pfB ys[v].2 i (pos l v) with
          | false =>
            rw [q1] at p1 hs
            rw [q2] at p2 hs
            rw [Bool.and_false, if_neg (by decide), List.append_nil] at hs
            simp [List.range, List.range.loop, ints, intss, int, bool, row, frac, fracs, ← List.map_take, ← List.map_drop, row, hi, hw, hww, hwr, hvn, gv, hli, hli2, hown, hyl, hrr, hqr, tr, tq, hvx, hvy, p1, p2, p3, hs, q0, q0b]
          | true =>
            rw [q1] at p1 hs
            rw [q2] at p2 hs
            rw [Bool.and_self, if_pos rfl] at hs
            simp [List.range, List.range.loop, ints, intss, int, bool, row, frac, fracs, ← List.map_take, ← List.map_drop, row, hi, hw, hww, hwr, hvn, gv, hli, hli2, hown, hyl, hrr, hqr, tr, tq, hvx, hvy, p1, p2, p3, hs, q0, q0b, hb4]
    · intro _
      simp [List.range, List.range.loop, ints, intss, int, bool, row, frac, fracs, ← List.map_take, ← List.map_drop, hi, hwi, hall]
  · intro _
    simp [List.range, List.range.loop, ints, intss, int, bool, row, frac, fracs, ← List.map_take, ← List.map_drop]

end Go.Proofs.YtakladjlnkojjaaDoor.Ax

/-
  Contracts: slices.Grow of nil, slices.Concat of ints. No condition.
-/
namespace Go.Proofs.YtakladjlnkojjaaDoor.Ax
open Go Go.RowKit
set_option linter.unusedSimpArgs false

noncomputable def mGrow : List AV → Option AV := mk (fun p => p ≤ 1000000) (fun (p : Nat) => [.sl true 1 [], int (p : Int)]) (fun p => .sl (decide (p = 0)) 1 [])
theorem mGrow_at (n : Nat) (h : n ≤ 1000000) : mGrow [.sl true 1 [], .v (.int .i64 (n : Int))] = some (.sl (decide (n = 0)) 1 []) :=
  mk_eq (enc := fun (p : Nat) => [.sl true 1 [], int (p : Int)]) (x := n) (by intro a b h; simp [int] at h; exact (by omega : a = b) ▸ rfl) h

theorem growI_ok : FnOk Tryd.prog 142 mGrow := by
  refine mk_ok fun n hn => ?_
  have hG : FnsOk Tryd.prog [] := .nil
  refine callOk_awp (ctx_ok eqOk hG) mixed (live := [true, true, false, false, true, false, true, false, false, false, false, false, false, false, false, false, true]) (dt := []) Tryd.func142 rfl (by kernel_rfl) (by kernel_rfl) fun w0 hlens => ?_
  clear hlens
  have h1 : ¬ ((n : Int) < 0) := by omega
  have h2 : IntKind.i64.wrap (n : Int) = (n : Int) := wrapI (by omega) (by omega)
  have hz : IntKind.i64.wrap 0 = 0 := by decide
  by_cases h0 : n = 0
  · subst h0
    simp (config := {contextual := true}) [Tryd.f142, List.range, List.range.loop, ints, intss, int, bool, row, frac, fracs, ← List.map_take, ← List.map_drop, h1, h2, hz]
  · have h3 : 0 < n := by omega
    have h4 : n ≤ 4611686018427387904 ∧ n * 8 ≤ 140737488355328 := by omega
    have h0' : ¬ (0 = n) := by omega
    simp (config := {contextual := true}) [Tryd.f142, List.range, List.range.loop, ints, intss, int, bool, row, frac, fracs, ← List.map_take, ← List.map_drop, h0, h0', h1, h2, hz, h3, h4]

/-- The rows, one behind the other. -/
def cat (xss : List (Bool × List Int)) : List Int := xss.flatMap (·.2)
def catTo (xss : List (Bool × List Int)) (k : Nat) : List Int := (xss.take k).flatMap (·.2)
theorem catTo_succ {xss : List (Bool × List Int)} {k : Nat} (h : k < xss.length) : catTo xss (k + 1) = catTo xss k ++ xss[k].2 := by
  unfold catTo
  rw [List.take_succ_eq_append_getElem h, List.flatMap_append]; simp
theorem catTo_all {xss : List (Bool × List Int)} : catTo xss xss.length = cat xss := by simp [catTo, cat]
theorem catTo_le {xss : List (Bool × List Int)} : ∀ {k : Nat}, (catTo xss k).length ≤ (cat xss).length := by
  intro k
  unfold catTo cat
  conv => rhs; rw [← List.take_append_drop k xss, List.flatMap_append]
  simp

noncomputable def mConcat : List AV → Option AV := mk (fun p => p.2.length ≤ 1000 ∧ (cat p.2).length ≤ 1000000) (fun (p : Bool × List (Bool × List Int)) => [intss p.1 p.2]) (fun p => .sl (decide (cat p.2 = [])) 1 ((cat p.2).map int))
theorem mConcat_at (nl : Bool) (xss : List (Bool × List Int)) (h : xss.length ≤ 1000 ∧ (cat xss).length ≤ 1000000) : mConcat [.sl nl 1 (xss.map row)] = some (.sl (decide (cat xss = [])) 1 ((cat xss).map int)) :=
  mk_eq (enc := fun (p : Bool × List (Bool × List Int)) => [intss p.1 p.2]) (x := (nl, xss)) (by rintro ⟨a, b⟩ ⟨c, d⟩ h; simp [intss, map_row_inj] at h; simp [h]) h

set_option maxHeartbeats 1000000 in
theorem concatI_ok : FnOk Tryd.prog 126 mConcat := by
  refine mk_ok fun ⟨nl, xss⟩ ⟨hl, ht⟩ => ?_
  simp only at hl ht
  have hG : FnsOk Tryd.prog [(142, mGrow)] := (.cons growI_ok .nil)
  refine callOk_awp (ctx_ok eqOk hG) mixed (live := [true, false, true, true, false, true, true, false, true, true, true, true, true, false, false, false, false, false, false, false, true, false, false, false, false, true, true, true, true]) (dt := []) Tryd.func126 rfl (by kernel_rfl) (by kernel_rfl) fun w0 hlens => ?_
  clear hlens
  simp (config := {contextual := true}) [Tryd.f126, List.range, List.range.loop, ints, intss, int, bool, row, frac, fracs, ← List.map_take, ← List.map_drop]
  refine awp_range (live := [true, false, true, true, false, true, true, false, true, true, true, true, true, false, false, false, false, false, false, false, true, false, false, false, false, true, true, true, true]) (ctx_ok eqOk hG) mixed [true, false, false, true, false, false, false, false, false, true, true, true] (xss.length) (fun k => True) (fun k => ⟨[intss nl xss, .junk, .junk, int ((catTo xss k).length : Int), .junk, .junk, .junk, .junk, .junk, intss nl xss, int xss.length, int k, .junk, .junk, .junk, .junk, .junk, .junk, .junk, .junk, .junk, .junk, .junk, .junk, .junk, .junk, .junk, .junk, .junk, .junk, .junk, .junk, .junk, .junk, .junk, .junk], []⟩) ?_ (by simp [sub, slotsLe, clean, keep, refsL, refs, once, place, renL, ren, List.replicate, int, bool, intss, catTo]) ?_ ?_ ?_
  · omega
  · trivial
  · intro k hk _ hwk
    have hs := catTo_succ hk
    have hle := catTo_le (xss := xss) (k := k + 1)
    rw [hs, List.length_append] at hle
    have hw2 : IntKind.i64.wrap (((catTo xss k).length : Int) + (xss[k].2.length : Int)) = ((catTo xss k).length : Int) + (xss[k].2.length : Int) := wrapI (by omega) (by omega)
    have hno : ¬ (((catTo xss k).length : Int) + (xss[k].2.length : Int) < 0) := by omega
    simp (config := {contextual := true}) [List.range, List.range.loop, ints, intss, int, bool, row, frac, fracs, ← List.map_take, ← List.map_drop, hk, hwk, hs, hw2, hno]
  · intro _
    rw [catTo_all]
    have hg := mGrow_at _ ht
    have hd : decide ((cat xss).length = 0) = decide (cat xss = []) := decide_eq_decide.2 List.length_eq_zero_iff
    rw [hd] at hg
    simp (config := {contextual := true}) [List.range, List.range.loop, ints, intss, int, bool, row, frac, fracs, ← List.map_take, ← List.map_drop, hg]
    generalize hD : decide (cat xss = []) = D at hg
    have hDk : ∀ k (hk : k < xss.length), D = true → xss[k].2 = [] := fun k hk hd => by
      subst hD
      have h0 : cat xss = [] := by simpa using hd
      have : xss[k].2 ∈ xss.map (·.2) := List.mem_map.2 ⟨_, List.getElem_mem hk, rfl⟩
      simp only [cat, List.flatMap_eq_nil_iff] at h0
      exact h0 _ (List.getElem_mem hk)
    refine awp_range (live := [true, false, true, true, false, true, true, false, true, true, true, true, true, false, false, false, false, false, false, false, true, false, false, false, false, true, true, true, true]) (ctx_ok eqOk hG) mixed [false, false, false, false, false, false, true, false, false, false, false, false, false, false, false, false, false, false, false, false, false, false, false, false, false, true, true, true] (xss.length) (fun k => True) (fun k => ⟨[.junk, .junk, .junk, .junk, .junk, .junk, .ref 0 [] 0 (catTo xss k).length, .junk, .junk, .junk, .junk, .junk, .junk, .junk, .junk, .junk, .junk, .junk, .junk, .junk, .junk, .junk, .junk, .junk, .junk, intss nl xss, int xss.length, int k, .junk, .junk, .junk, .junk, .junk, .junk, .junk, .junk], [⟨true, .sl D 1 ((catTo xss k).map int)⟩]⟩) ?_ (by simp [sub, slotsLe, clean, keep, refsL, refs, once, place, renL, ren, List.replicate, int, bool, intss, catTo]) ?_ ?_ ?_
    · omega
    · trivial
    · intro k hk _ hwk
      have hs := catTo_succ hk
      have hle := catTo_le (xss := xss) (k := k + 1)
      rw [hs, List.length_append] at hle
      have hb : (catTo xss k).length + xss[k].2.length ≤ 4611686018427387904 ∧ ((catTo xss k).length + xss[k].2.length) * 8 ≤ 140737488355328 := by omega
      cases hDD : D with
      | true =>
        have hx0 := hDk k hk hDD
        have hb2 : (catTo xss k).length ≤ 4611686018427387904 ∧ (catTo xss k).length * 8 ≤ 140737488355328 := by omega
        simp (config := {contextual := true}) [List.range, List.range.loop, ints, intss, int, bool, row, frac, fracs, ← List.map_take, ← List.map_drop, hk, hwk, hs, hb2, hx0]
      | false =>
        simp (config := {contextual := true}) [List.range, List.range.loop, ints, intss, int, bool, row, frac, fracs, ← List.map_take, ← List.map_drop, hk, hwk, hs, hb]
    · intro _
      simp (config := {contextual := true}) [List.range, List.range.loop, ints, intss, int, bool, row, frac, fracs, ← List.map_take, ← List.map_drop, catTo_all]

end Go.Proofs.YtakladjlnkojjaaDoor.Ax

/-
  Contract: indices (the program). No condition.
-/
namespace Go.Proofs.YtakladjlnkojjaaDoor.Ax
open Go Go.RowKit
set_option linter.unusedSimpArgs false

/-- 0, 1, .. -/
def idx (n : Nat) : List Int := (List.range n).map fun (i : Nat) => (i : Int)
def idxTo (n k : Nat) : List Int := idx k ++ List.replicate (n - k) 0
theorem idx_len {n : Nat} : (idx n).length = n := by simp [idx]
theorem idxTo_len {n k : Nat} (h : k ≤ n) : (idxTo n k).length = n := by simp [idxTo, idx_len]; omega
theorem idxTo_set {n k : Nat} (h : k < n) : (idxTo n k).set k (k : Int) = idxTo n (k + 1) := by
  unfold idxTo
  rw [List.set_append_right _ _ (by simp [idx_len]), idx_len, Nat.sub_self, show n - k = (n - (k + 1)) + 1 by omega, List.replicate_succ, List.set_cons_zero]
  simp [idx, List.range_succ]
theorem idxTo_all {n : Nat} : idxTo n n = idx n := by simp [idxTo]

noncomputable def mIdx : List AV → Option AV := mk (fun p => p ≤ 1000) (fun (p : Nat) => [int (p : Int)]) (fun p => ints false (idx p))
theorem mIdx_at (n : Nat) (h : n ≤ 1000) : mIdx [.v (.int .i64 (n : Int))] = some (.sl false 1 ((idx n).map int)) :=
  mk_eq (enc := fun (p : Nat) => [int (p : Int)]) (x := n) (by intro a b h; simp [int] at h; exact (by omega : a = b) ▸ rfl) h

set_option maxHeartbeats 1000000 in
theorem indices_ok : FnOk Tryd.prog 36 mIdx := by
  refine mk_ok fun n hn => ?_
  have hG : FnsOk Tryd.prog [] := .nil
  refine callOk_awp (ctx_ok eqOk hG) mixed (live := [true, false, true, true, true, false, false, false, true, true, true]) (dt := []) Tryd.func36 rfl (by kernel_rfl) (by kernel_rfl) fun w0 hlens => ?_
  clear hlens
  have h1 : 8 * n ≤ 281474976710656 := by omega
  have h2 : n ≤ 4611686018427387904 := by omega
  simp (config := {contextual := true}) [Tryd.f36, List.range, List.range.loop, ints, intss, int, bool, row, frac, fracs, ← List.map_take, ← List.map_drop, h1, h2]
  refine awp_range (live := [true, false, true, true, true, false, false, false, true, true, true]) (ctx_ok eqOk hG) mixed [false, false, false, true, false, false, false, false, true, true] (n) (fun k => True) (fun k => ⟨[.junk, .junk, .junk, .ref 0 [] 0 n, .junk, .junk, .junk, .junk, int n, int k, .junk, .junk, .junk, .junk, .junk, .junk, .junk, .junk], [⟨true, .sl false 1 ((idxTo n k).map int)⟩]⟩) ?_ (by simp [sub, slotsLe, clean, keep, refsL, refs, once, place, renL, ren, List.replicate, int, bool, idxTo, idx]) ?_ ?_ ?_
  · omega
  · trivial
  · intro k hk _ hwk
    have hl := idxTo_len (n := n) (k := k) (by omega)
    have hs := idxTo_set hk
    have hl2 := idxTo_len (n := n) (k := k + 1) (by omega)
    have hs' : ((idxTo n k).map int).set k (.v (.int .i64 (k : Int))) = (idxTo n (k + 1)).map int := by rw [← hs, List.map_set]; rfl
    simp (config := {contextual := true}) [List.range, List.range.loop, ints, intss, int, bool, row, frac, fracs, ← List.map_take, ← List.map_drop, hk, hwk, hl, hl2, hs', -List.map_set]
    done
  · intro _
    have hl := idxTo_len (n := n) (k := n) (by omega)
    rw [idxTo_all] at hl
    simp (config := {contextual := true}) [List.range, List.range.loop, ints, intss, int, bool, row, frac, fracs, ← List.map_take, ← List.map_drop, hl, idxTo_all]
    done

end Go.Proofs.YtakladjlnkojjaaDoor.Ax
