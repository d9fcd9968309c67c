/-
  All divisions that begin with some pieces, in order; the reference's search for them. No condition.
-/
import Derived.Test.YtkfgmpmeipilnaaCG38
import Derived.Test.YtkfgmpmeipilnaaCG9
namespace Go.Proofs.Ytkfgmpmeipilnaa.Ax
open Go Go.RowKit
set_option linter.unusedSimpArgs false

/-- Person i may get the next piece. -/
def okD (l : List Int) (i : Nat) : Bool := decide (pos l (i : Int) < 0) || decide (at0 l (l.length - 1) = (i : Int))
def dvL (n : Nat) : Nat → List Int → List (Bool × List Int)
  | 0, l => [(false, l)]
  | r + 1, l => (List.range n).flatMap fun (i : Nat) => if okD l i = true then dvL n r (l ++ [(i : Int)]) else []
def dvTo (n r : Nat) (l : List Int) (k : Nat) : List (Bool × List Int) := (List.range k).flatMap fun (i : Nat) => if okD l i = true then dvL n r (l ++ [(i : Int)]) else []
theorem dvTo_zero {n r : Nat} {l : List Int} : dvTo n r l 0 = [] := rfl
theorem dvTo_succ {n r : Nat} {l : List Int} {k : Nat} : dvTo n r l (k + 1) = dvTo n r l k ++ (if okD l k = true then dvL n r (l ++ [(k : Int)]) else []) := by
  unfold dvTo; rw [List.range_succ, List.flatMap_append]; simp
theorem dvTo_all {n r : Nat} {l : List Int} : dvTo n r l n = dvL n (r + 1) l := rfl
theorem dvTo_le {n r : Nat} {l : List Int} : ∀ {k j : Nat}, k ≤ j → (dvTo n r l k).length ≤ (dvTo n r l j).length
  | k, 0, h => by rw [Nat.le_zero.1 h]; exact Nat.le_refl _
  | k, j + 1, h => by
    rcases Nat.lt_or_ge k (j + 1) with h' | h'
    · have := dvTo_le (n := n) (r := r) (l := l) (show k ≤ j by omega)
      rw [dvTo_succ, List.length_append]; omega
    · rw [show k = j + 1 by omega]; exact Nat.le_refl _
theorem dvL_pow {n : Nat} : ∀ {r : Nat} {l : List Int}, (dvL n r l).length ≤ n ^ r
  | 0, l => by simp [dvL]
  | r + 1, l => by
    have key : ∀ k, (dvTo n r l k).length ≤ n ^ r * k := by
      intro k
      induction k with
      | zero => simp [dvTo]
      | succ k ih =>
        rw [dvTo_succ, List.length_append, Nat.mul_succ]
        have : (if okD l k = true then dvL n r (l ++ [(k : Int)]) else []).length ≤ n ^ r := by
          split
          · exact dvL_pow
          · simp
        omega
    rw [← dvTo_all, Nat.pow_succ]
    exact key n
theorem dvL_small {n r : Nat} {l : List Int} (hn : n ≤ 3) (hr : r ≤ 10) : (dvL n r l).length ≤ 59049 := by
  refine Nat.le_trans dvL_pow ?_
  calc n ^ r ≤ 3 ^ r := Nat.pow_le_pow_left hn r
    _ ≤ 3 ^ 10 := Nat.pow_le_pow_right (by omega) hr
    _ = 59049 := by decide
theorem dvL_flag {n : Nat} : ∀ {r : Nat} {l : List Int}, ∀ x ∈ dvL n r l, x.1 = false ∧ x.2.length = l.length + r
  | 0, l, x, hx => by simp only [dvL, List.mem_singleton] at hx; subst hx; simp
  | r + 1, l, x, hx => by
    simp only [dvL, List.mem_flatMap, List.mem_range] at hx
    obtain ⟨i, _, hx⟩ := hx
    split at hx
    · have := dvL_flag (r := r) (l := l ++ [(i : Int)]) x hx
      simp only [List.length_append, List.length_cons, List.length_nil] at this
      exact ⟨this.1, by omega⟩
    · simp at hx
theorem okD_nil {i : Nat} : okD [] i = true := by simp [okD, pos, posFrom]
theorem last_snoc {l : List Int} {i : Int} : at0 (l ++ [i]) ((l ++ [i]).length - 1) = i := by simp [at0, List.getD_eq_getElem?_getD]
/-- There is a division: the last one goes on. -/
theorem dvL_ne {n : Nat} : ∀ {r : Nat} {l : List Int} {i : Nat}, i < n → (l = [] ∨ at0 l (l.length - 1) = (i : Int)) → dvL n r l ≠ []
  | 0, l, i, _, _ => by simp [dvL]
  | r + 1, l, i, hi, hl => by
    have hok : okD l i = true := by
      rcases hl with rfl | hl
      · exact okD_nil
      · simp [okD, hl]
    have := dvL_ne (n := n) (r := r) (l := l ++ [(i : Int)]) hi (.inr last_snoc)
    intro h
    simp only [dvL, List.flatMap_eq_nil_iff, List.mem_range] at h
    have := h i hi
    rw [if_pos hok] at this
    contradiction

/-- What the search is asked. -/
structure DvS (xss : List (Bool × List Int)) (o : List (Bool × List Int)) (l : List Int) (r : Nat) : Prop where
  cake : rectB xss 3 10 100 = true
  ln : l.length + r = wid xss
  few : o.length + (dvL xss.length r l).length ≤ 100000
noncomputable def mL26 (r : Nat) : List AV → Option (List Nat × AV) := mkV (fun p => DvS p.2.1 p.2.2.1 p.2.2.2 r) (fun (p : Bool × List (Bool × List Int) × List (Bool × List Int) × List Int) => [intss p.1 p.2.1, intss false p.2.2.1, ints false p.2.2.2]) [1, 2] (fun p => intss false (p.2.2.1 ++ dvL p.2.1.length r p.2.2.2))
theorem mL26_at (r : Nat) (nl : Bool) (xss o : List (Bool × List Int)) (l : List Int) (h : DvS xss o l r) : mL26 r [.sl nl 1 (xss.map row), .sl false 1 (o.map row), .sl false 1 (l.map int)] = some ([1, 2], .sl false 1 ((o ++ dvL xss.length r l).map row)) :=
  mkV_eq (enc := fun (p : Bool × List (Bool × List Int) × List (Bool × List Int) × List Int) => [intss p.1 p.2.1, intss false p.2.2.1, ints false p.2.2.2]) (f := fun p => intss false (p.2.2.1 ++ dvL p.2.1.length r p.2.2.2)) (x := (nl, xss, o, l)) (by rintro ⟨a, b, c, d⟩ ⟨e, f, g, i⟩ h; simp [intss, ints, map_row_inj, map_int_inj] at h; simp [h]) h

set_option maxHeartbeats 1000000 in
theorem l26_zero : (FnMov Try.prog 93 (mL26 0)) := by
  refine mkV_ok fun ⟨nl, xss, o, l⟩ h => ?_
  simp only at h
  have hG : FnsOk Try.prog [(129, mPos)] := (.cons placeOf_ok .nil)
  refine movOk_awp (ctx_ok eqOk hG) mixed (live := [true, true, true, false, false, false, true, true, false, false, false, false, false, false, true, false, false, false, false, false, true, true, true, false, false, false, false, false, false, false, false, false, false, false, false, false, false, true]) (dt := []) (mv := [1,2]) Try.func93 rfl (by kernel_rfl) (by kernel_rfl) fun US w0 hlens => ?_
  simp only [List.map, List.getD_cons_zero, List.getD_cons_succ, internL, intern, setSl, List.set, List.length_nil, List.nil_append, List.length_map]
  clear hlens
  have hl := rect_len h.cake
  have hp := rect_pos h.cake
  have hw : (xss[0]'hp).2.length = l.length := by have := (rect_row h.cake hp).1; have := h.ln; omega
  have hb := h.few
  simp only [dvL, List.length_cons, List.length_nil] at hb
  have hb2 : o.length + 1 ≤ 4611686018427387904 ∧ (o.length + 1) * 24 ≤ 140737488355328 := by omega
  simp (config := {contextual := true, maxSteps := 1000000}) [Try.f93, List.range, List.range.loop, ints, intss, int, bool, row, frac, fracs, ← List.map_take, ← List.map_drop, List.all, hp, hw, dvL, hb2]
  done

set_option maxHeartbeats 2000000 in
theorem l26_succ {r : Nat} (ih : FnMov Try.prog 93 (mL26 r)) : (FnMov Try.prog 93 (mL26 (r + 1))) := by
  refine mkV_ok fun ⟨nl, xss, o, l⟩ h => ?_
  simp only at h
  have hG : FnsOk Try.prog [(129, mPos)] := (.cons placeOf_ok .nil)
  have hM : FnsMut Try.prog [] := .nil
  have hV : FnsMov Try.prog [(93, mL26 r)] := (.cons ih .nil)
  refine movOk_awp (ctxV_ok eqOk hG hM hV) mixed (live := [true, true, true, false, false, false, true, true, false, false, false, false, false, false, true, false, false, false, false, false, true, true, true, false, false, false, false, false, false, false, false, false, false, false, false, false, false, true]) (dt := []) (mv := [1,2]) Try.func93 rfl (by kernel_rfl) (by kernel_rfl) fun US w0 hlens => ?_
  simp only [List.map, List.getD_cons_zero, List.getD_cons_succ, internL, intern, setSl, List.set, List.length_nil, List.nil_append, List.length_map]
  clear hlens
  have hl3 := rect_len h.cake
  have hp := rect_pos h.cake
  have hw : (xss[0]'hp).2.length = wid xss := (rect_row h.cake hp).1
  have hln := h.ln
  have hne : ¬ l.length = wid xss := by omega
  have hne' : ¬ (l.length : Int) = (wid xss : Int) := by omega
  have hb := h.few
  have h0 := dvTo_zero (n := xss.length) (r := r) (l := l)
  simp (config := {contextual := true, maxSteps := 1000000}) [Try.f93, List.range, List.range.loop, ints, intss, int, bool, row, frac, fracs, ← List.map_take, ← List.map_drop, List.all, hp, hw, hne, hne']
  refine awp_range (live := [true, true, true, false, false, false, true, true, false, false, false, false, false, false, true, false, false, false, false, false, true, true, true, false, false, false, false, false, false, false, false, false, false, false, false, false, false, true]) (ctxV_ok eqOk hG hM hV) mixed [true, true, true, false, false, false, false, false, false, false, false, false, false, false, false, false, false, false, false, false, true, true] (xss.length) (fun k => True) (fun k => ⟨[intss nl xss, .ref 0 [] 0 (o ++ dvTo xss.length r l k).length, .ref 1 [] 0 l.length, .junk, .junk, .junk, .junk, .junk, .junk, .junk, .junk, .junk, .junk, .junk, .junk, .junk, .junk, .junk, .junk, .junk, int xss.length, int k, .junk, .junk, .junk, .junk, .junk, .junk, .junk, .junk, .junk, .junk, .junk, .junk, .junk, .junk, .junk, .junk, .junk, .junk, .junk, .junk, .junk, .junk, .junk, .junk, .junk, .junk, .junk], [⟨true, .sl false 1 ((o ++ dvTo xss.length r l k).map row)⟩, ⟨true, .sl false 1 (l.map int)⟩]⟩) ?_ (by simp [sub, slotsLe, clean, keep, refsL, refs, once, place, renL, ren, List.replicate, int, bool, h0, intss]) ?_ ?_ ?_
  · omega
  · trivial
  · intro k hk _ hwk
    have hsucc := dvTo_succ (n := xss.length) (r := r) (l := l) (k := k)
    have hlb : l.length ≤ 4611686018427387904 ∧ l.length * 8 ≤ 140737488355328 := by omega
    have hlb2 : l.length + 1 ≤ 4611686018427387904 ∧ (l.length + 1) * 8 ≤ 140737488355328 := by omega
    have htk : List.take (l.length + 1) (l.map int ++ [AV.v (.int .i64 k)]) = l.map int ++ [AV.v (.int .i64 k)] := List.take_of_length_le (by simp)
    have hto : List.take (o.length + (dvTo xss.length r l k).length) (o.map row ++ (dvTo xss.length r l k).map row) = o.map row ++ (dvTo xss.length r l k).map row := List.take_of_length_le (by simp)
    have hcall : okD l k = true → mL26 r [.sl nl 1 (xss.map row), .sl false 1 (o.map row ++ (dvTo xss.length r l k).map row), .sl false 1 (l.map int ++ [AV.v (.int .i64 k)])] = some ([1, 2], .sl false 1 (o.map row ++ (dvTo xss.length r l (k + 1)).map row)) := fun hok => by
      rw [if_pos hok] at hsucc
      have hle := dvTo_le (n := xss.length) (r := r) (l := l) (k := k + 1) (j := xss.length) (by omega)
      rw [dvTo_all, hsucc, List.length_append] at hle
      have := mL26_at r nl xss (o ++ dvTo xss.length r l k) (l ++ [(k : Int)]) ⟨h.cake, by simp; omega, by simp only [List.length_append] at hb ⊢; omega⟩
      simpa [List.append_assoc, ← hsucc, int] using this
    by_cases hpos : 0 ≤ pos l (k : Int)
    · have hl0 : 0 < l.length := by
        rcases Nat.eq_zero_or_pos l.length with e | e
        · rw [List.length_eq_zero_iff.1 e] at hpos; simp [pos, posFrom] at hpos
        · exact e
      have hlast : l[l.length - 1] = at0 l (l.length - 1) := (at0_eq (by omega)).symm
      have hll : l.length - 1 < l.length := by omega
      have hcast : IntKind.i64.wrap ((l.length : Int) - 1) = ((l.length - 1 : Nat) : Int) := by rw [wrapI (by omega) (by omega)]; omega
      by_cases hq : at0 l (l.length - 1) = (k : Int)
      · have hok : okD l k = true := by simp [okD, hq]
        have hc := hcall hok
        simp (config := {maxSteps := 1000000}) [List.range, List.range.loop, ints, intss, int, bool, row, frac, fracs, ← List.map_take, ← List.map_drop, List.all, hk, hwk, mPos_at, hpos, hl0, hll, hcast, hlast, hq, hlb, hlb2, htk, hto, hc]
        done
      · have hok : okD l k = false := by simp [okD, hq, hpos]
        rw [hok] at hsucc
        simp only [Bool.false_eq_true, if_false, List.append_nil] at hsucc
        simp (config := {maxSteps := 1000000}) [List.range, List.range.loop, ints, intss, int, bool, row, frac, fracs, ← List.map_take, ← List.map_drop, List.all, hk, hwk, mPos_at, hpos, hl0, hll, hcast, hlast, hq, hsucc]
        done
    · have hok : okD l k = true := by simp [okD]; omega
      have hc := hcall hok
      simp (config := {maxSteps := 1000000}) [List.range, List.range.loop, ints, intss, int, bool, row, frac, fracs, ← List.map_take, ← List.map_drop, List.all, hk, hwk, mPos_at, hpos, hlb, hlb2, htk, hto, hc]
      done
  · intro _
    have hto : List.take (o.length + (dvTo xss.length r l xss.length).length) (o.map row ++ (dvTo xss.length r l xss.length).map row) = o.map row ++ (dvTo xss.length r l xss.length).map row := List.take_of_length_le (by simp)
    simp (config := {maxSteps := 1000000}) [List.range, List.range.loop, ints, intss, int, bool, row, frac, fracs, ← List.map_take, ← List.map_drop, List.all, hto, dvTo_all]
    done

theorem l26_all : ∀ r, FnMov Try.prog 93 (mL26 r)
  | 0 => l26_zero
  | r + 1 => l26_succ (l26_all r)

end Go.Proofs.Ytkfgmpmeipilnaa.Ax
