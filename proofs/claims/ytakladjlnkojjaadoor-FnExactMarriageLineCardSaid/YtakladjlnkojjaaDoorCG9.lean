/-
  Contracts: all orders (the program). No condition.
-/
import Derived.Test.YtakladjlnkojjaaDoorCG8
import Derived.Test.YtakladjlnkojjaaDoorCG1
import Derived.Test.YtakladjlnkojjaaDoorCG2
import Derived.Test.YtakladjlnkojjaaDoorCK4
namespace Go.Proofs.YtakladjlnkojjaaDoor.Ax
open Go Go.RowKit
set_option linter.unusedSimpArgs false

/-- All orders of a list. -/
def ordR : Nat → List Int → List (Bool × List Int)
  | 0, _ => [(true, [])]
  | n + 1, l => (List.range l.length).flatMap fun i => (ordR n (l.take i ++ l.drop (i + 1))).map fun r => (false, l.getD i 0 :: r.2)

/-- Those that begin with one of the first k, and j more. -/
def ordTo (n : Nat) (l : List Int) (k : Nat) : List (Bool × List Int) := (List.range k).flatMap fun i => (ordR n (l.take i ++ l.drop (i + 1))).map fun r => (false, l.getD i 0 :: r.2)
def ordTo2 (n : Nat) (l : List Int) (k j : Nat) : List (Bool × List Int) := ordTo n l k ++ ((ordR n (l.take k ++ l.drop (k + 1))).take j).map fun r => (false, l.getD k 0 :: r.2)
theorem ordTo2_zero {n : Nat} {l : List Int} {k : Nat} : ordTo2 n l k 0 = ordTo n l k := by simp [ordTo2]
theorem ordTo2_all {n : Nat} {l : List Int} {k : Nat} : ordTo2 n l k (ordR n (l.take k ++ l.drop (k + 1))).length = ordTo n l (k + 1) := by
  simp [ordTo2, ordTo, List.range_succ]
theorem ordTo2_succ {n : Nat} {l : List Int} {k j : Nat} (h : j < (ordR n (l.take k ++ l.drop (k + 1))).length) : ordTo2 n l k (j + 1) = ordTo2 n l k j ++ [(false, l.getD k 0 :: (ordR n (l.take k ++ l.drop (k + 1)))[j].2)] := by
  unfold ordTo2
  rw [List.take_succ_eq_append_getElem h, List.map_append, ← List.append_assoc]; rfl
theorem ordR_succ {n : Nat} {l : List Int} : ordR (n + 1) l = ordTo n l l.length := rfl
theorem ordR_row : ∀ {n : Nat} {l : List Int}, l.length = n → ∀ r ∈ ordR n l, r.2.length = n
  | 0, l, _, r, hr => by simp [ordR] at hr; subst hr; rfl
  | n + 1, l, hl, r, hr => by
    simp only [ordR, List.mem_flatMap, List.mem_map, List.mem_range] at hr
    obtain ⟨i, hi, r', hr', rfl⟩ := hr
    have := ordR_row (n := n) (l := l.take i ++ l.drop (i + 1)) (by simp; omega) r' hr'
    simp [this]
theorem ordR_flag : ∀ {n : Nat} {l : List Int}, ∀ r ∈ ordR n l, r = (true, []) ∨ r = (false, r.2)
  | 0, _, r, hr => by simp [ordR] at hr; exact Or.inl hr
  | n + 1, l, r, hr => by
    simp only [ordR, List.mem_flatMap, List.mem_map, List.mem_range] at hr
    obtain ⟨i, hi, r', hr', rfl⟩ := hr
    exact Or.inr rfl
def fact : Nat → Nat
  | 0 => 1
  | n + 1 => (n + 1) * fact n
theorem ordTo_len {n : Nat} {l : List Int} (ih : ∀ l' : List Int, l'.length = n → (ordR n l').length = fact n) (hl : l.length = n + 1) : ∀ {k : Nat}, k ≤ n + 1 → (ordTo n l k).length = k * fact n
  | 0, _ => by simp [ordTo]
  | k + 1, hk => by
    have := ordTo_len ih hl (k := k) (by omega)
    rw [← ordTo2_all]
    unfold ordTo2
    rw [List.length_append, this, List.length_map, List.take_length, ih _ (by simp; omega), Nat.add_mul]
    omega
theorem ordR_len : ∀ {n : Nat} {l : List Int}, l.length = n → (ordR n l).length = fact n
  | 0, l, _ => rfl
  | n + 1, l, hl => by
    rw [ordR_succ, hl]
    exact ordTo_len (fun l' h => ordR_len h) hl (Nat.le_refl _)

noncomputable def mOrd (n : Nat) : List AV → Option AV := mk (fun p => p.2.length = n ∧ n ≤ 5 ∧ (p.1 = true → n = 0)) (fun (p : Bool × List Int) => [ints p.1 p.2]) (fun p => .sl false 1 ((ordR n p.2).map row))
theorem mOrd_at (n : Nat) (nl : Bool) (l : List Int) (h : l.length = n ∧ n ≤ 5 ∧ (nl = true → n = 0)) : mOrd n [.sl nl 1 (l.map int)] = some (.sl false 1 ((ordR n l).map row)) :=
  mk_eq (enc := fun (p : Bool × List Int) => [ints p.1 p.2]) (x := (nl, l)) (by rintro ⟨a, b⟩ ⟨c, d⟩ h; simp [ints, map_int_inj] at h; simp [h]) h

theorem orders_zero : (FnOk Tryd.prog 110 (mOrd 0)) := by
  refine mk_ok fun ⟨nl, l⟩ ⟨hl, _⟩ => ?_
  simp only at hl
  have hG : FnsOk Tryd.prog [(126, mConcat)] := (.cons concatI_ok .nil)
  refine callOk_awp (ctx_ok eqOk hG) mixed (live := [true, false, true, true, true, true, false, true, false, false, true, false, true, true, true, true, false, false, false, false, false, false, false, false, false, false, false, false, true, true, true, true]) (dt := [(7, ⟨[], [0, 0, 0, 0, 0, 0, 0, 1, 1, 1], []⟩)]) Tryd.func110 rfl (by kernel_rfl) (by kernel_rfl) fun w0 hlens => ?_
  clear hlens
  have hl0 : l = [] := List.length_eq_zero_iff.1 hl
  subst hl0
  simp (config := {contextual := true}) [Tryd.f110, List.range, List.range.loop, ints, intss, int, bool, row, frac, fracs, ← List.map_take, ← List.map_drop, ordR]

/-- The slot of the rows so far; the row. -/
def apO (R : List (Bool × List Int)) : AV := match R with
  | [] => .sl true 1 []
  | _ :: R => .ref 0 [] 0 (R.length + 1)
def apT1 (R : List (Bool × List Int)) : List Tok := match R with
  | [] => []
  | r :: R => [⟨true, .sl false 1 ((r :: R).map row)⟩]

theorem fact_pos : ∀ {n : Nat}, 0 < fact n
  | 0 => Nat.one_pos
  | n + 1 => Nat.mul_pos (Nat.succ_pos n) fact_pos
theorem fact_le : ∀ {n : Nat}, n ≤ 4 → fact n ≤ 24 := by decide

set_option maxHeartbeats 2000000 in
theorem orders_succ {n : Nat} (hn : n ≤ 4) (ih : FnOk Tryd.prog 110 (mOrd n)) : FnOk Tryd.prog 110 (mOrd (n + 1)) := by
  refine mk_ok fun ⟨nl, l⟩ ⟨hl, _, hnl⟩ => ?_
  simp only at hl hnl
  have hnl' : nl = false := by cases nl; rfl; exact absurd (hnl rfl) (by omega)
  subst hnl'
  clear hnl
  have hG : FnsOk Tryd.prog [(126, mConcat)] := (.cons concatI_ok .nil)
  have hM : FnsMut Tryd.prog [] := .nil
  have hV : FnsMov Tryd.prog [] := .nil
  have hK : FnsFrz Tryd.prog [(110, false, mOrd n)] := (.cons (FnOk.frz ih) .nil)
  refine callOk_awp (ctxH_ok eqOk hG hM hV hK) mixed (live := [true, false, true, true, true, true, false, true, false, false, true, false, true, true, true, true, false, false, false, false, false, false, false, false, false, false, false, false, true, true, true, true]) (dt := [(7, ⟨[], [0, 0, 0, 0, 0, 0, 0, 1, 1, 1], []⟩)]) Tryd.func110 rfl (by kernel_rfl) (by kernel_rfl) fun w0 hlens => ?_
  clear hlens
  have hl0 : ¬ ((l.length : Int) = 0) := by omega
  rw [ordR_succ, hl]
  have hf := fact_le hn
  simp (config := {contextual := true}) [Tryd.f110, List.range, List.range.loop, ints, intss, int, bool, row, frac, fracs, ← List.map_take, ← List.map_drop, List.all, hl0, hl]
  refine awp_range (live := [true, false, true, true, true, true, false, true, false, false, true, false, true, true, true, true, false, false, false, false, false, false, false, false, false, false, false, false, true, true, true, true]) (ctxH_ok eqOk hG hM hV hK) mixed [true, false, false, true, false, false, false, false, false, false, false, false, true, true, true] (n + 1) (fun k => True) (fun k => ⟨[ints false l, .junk, .junk, apO (ordTo n l k), .junk, .junk, .junk, .junk, .junk, .junk, .junk, .junk, ints false l, int ((n : Int) + 1), int k, .junk, .junk, .junk, .junk, .junk, .junk, .junk, .junk, .junk, .junk, .junk, .junk, .junk, .junk, .junk, .junk, .junk, .junk, .junk, .junk, .junk, .junk, .junk, .junk, .junk, .junk, .junk, .junk, .junk, .junk], apT1 (ordTo n l k)⟩) ?_ (by simp [sub, slotsLe, clean, keep, refsL, refs, once, place, renL, ren, List.replicate, int, bool, ordTo, apO, apT1, ints, hl]) ?_ ?_ ?_
  · omega
  · trivial
  · intro k hk _ hwk
    have hkl : k < l.length := by omega
    have hx : l.getD k 0 = l[k] := getD_at hkl
    have hlen : (l.take k ++ l.drop (k + 1)).length = n := by simp; omega
    have htd : List.take (n + 1 - (k + 1)) (List.drop (k + 1) l) = List.drop (k + 1) l := List.take_of_length_le (by simp; omega)
    have htd2 : List.take (n - k) (List.drop (k + 1) l) = List.drop (k + 1) l := List.take_of_length_le (by simp; omega)
    have hcc := mConcat_at false [(false, l.take k), (false, l.drop (k + 1))] ⟨by simp, by simp [cat]; omega⟩
    simp only [List.map_cons, List.map_nil, row, cat, List.flatMap_cons, List.flatMap_nil, List.append_nil] at hcc
    have hoo := mOrd_at n (decide (l.take k ++ l.drop (k + 1) = [])) (l.take k ++ l.drop (k + 1)) ⟨hlen, by omega, fun h => by simpa [hlen] using congrArg List.length (of_decide_eq_true h)⟩
    have h2all := ordTo2_all (n := n) (l := l) (k := k)
    have h2z := ordTo2_zero (n := n) (l := l) (k := k)
    have h2s := fun j => ordTo2_succ (n := n) (l := l) (k := k) (j := j)
    have hRrow := ordR_row hlen
    have hRl := ordR_len hlen
    have hRf := ordR_flag (n := n) (l := l.take k ++ l.drop (k + 1))
    have hAl := ordTo_len (n := n) (l := l) (fun l' h => ordR_len h) hl (k := k) (by omega)
    have h2l : ∀ j, j ≤ (ordR n (l.take k ++ l.drop (k + 1))).length → (ordTo2 n l k j).length ≤ 120 := fun j hj => by
      simp only [ordTo2, List.length_append, List.length_map, List.length_take, hAl]
      have := Nat.mul_le_mul (show k ≤ 4 by omega) hf
      omega
    have hk2 : k ≤ n + 1 := by omega
    have hk3 : k ≤ n := by omega
    have hki : (k : Int) < (n : Int) + 1 := by omega
    have hinit : ∀ (P : Bool), apO (ordTo2 n l k 0) = apO (ordTo n l k) := fun _ => by rw [h2z]
    generalize hLL : l.take k ++ l.drop (k + 1) = L at *
    have htL : List.take n L = L := List.take_of_length_le (by omega)
    generalize decide (L = []) = b at *
    generalize hRR : ordR n L = R at *
    have hgo : ∀ A0 : List (Bool × List Int), ordTo n l k = A0 → ordTo n l k = A0 := fun _ h => h
    have hcc2 := fun (j : Nat) (h : j < R.length) => mConcat_at false [(false, [l[k]]), R[j]] ⟨by simp, by simp [cat]; have := hRrow _ (List.getElem_mem h); omega⟩
    simp only [List.map_cons, List.map_nil, row, cat, List.flatMap_cons, List.flatMap_nil, List.append_nil, List.cons_append, List.nil_append, int] at hcc2
    cases hA : ordTo n l k with
    | nil =>
      simp (config := {contextual := true}) [List.range, List.range.loop, ints, intss, int, bool, row, frac, fracs, ← List.map_take, ← List.map_drop, List.all, hk, hkl, hwk, hl, htd, htd2, htL, hcc, hoo, hlen, apO, apT1, hki, hk2, hk3]
      refine awp_range (live := [true, false, true, true, true, true, false, true, false, false, true, false, true, true, true, true, false, false, false, false, false, false, false, false, false, false, false, false, true, true, true, true]) (ctxH_ok eqOk hG hM hV hK) mixed [true, false, false, true, false, true, false, false, false, false, false, false, true, true, true, false, false, false, false, false, false, false, false, false, false, false, false, false, true, true, true] (R.length) (fun j => True) (fun j => ⟨[ints false l, .junk, .junk, apO (ordTo2 n l k j), .junk, int l[k], .junk, .junk, .junk, .junk, .junk, .junk, ints false l, int ((n : Int) + 1), int k, .junk, .junk, .junk, .junk, .junk, .junk, .junk, .junk, .junk, .junk, .junk, .junk, .junk, .sl false 1 (R.map row), int R.length, int j, .junk, .junk, .junk, .junk, .junk, .junk, .junk, .junk, .junk, .junk, .junk, .junk, .junk, .junk], apT1 (ordTo2 n l k j)⟩) ?_ (by simp [sub, slotsLe, clean, keep, refsL, refs, once, place, renL, ren, List.replicate, int, bool, h2z, hA, row, apO, apT1, ints, hl, hRl]) ?_ ?_ ?_
      · omega
      · trivial
      · intro j hj _ hwj
        have hs := h2s j hj
        have hc := hcc2 j hj
        have hl2 := h2l (j + 1) (by omega)
        have hr := hRrow _ (List.getElem_mem hj)
        have hf := hRf _ (List.getElem_mem hj)
        have hxg : l[k]?.getD 0 = l[k] := by rw [List.getElem?_eq_getElem hkl]; rfl
        generalize hrj : R[j] = r at *
        have hl3 := h2l j (by omega)
        rcases hf with hf | hf
        all_goals rw [hf] at hc hs hr hrj
        all_goals simp only [List.map_nil] at hc hs hr hrj
        all_goals rcases hB : ordTo2 n l k j with _ | ⟨r1, B⟩
        · simp (config := {contextual := true}) [List.range, List.range.loop, ints, intss, int, bool, row, frac, fracs, ← List.map_take, ← List.map_drop, List.all, hj, hwj, hs, hc, hr, apO, apT1, hB, hxg, hrj]
          done
        · have hl4 : B.length ≤ 4611686018427387902 ∧ (B.length + 1 + 1) * 24 ≤ 140737488355328 := by rw [hB, List.length_cons] at hl3; omega
          simp (config := {contextual := true}) [List.range, List.range.loop, ints, intss, int, bool, row, frac, fracs, ← List.map_take, ← List.map_drop, List.all, hj, hwj, hs, hc, hr, apO, apT1, hB, hxg, hrj, hl4]
          done
        · simp (config := {contextual := true}) [List.range, List.range.loop, ints, intss, int, bool, row, frac, fracs, ← List.map_take, ← List.map_drop, List.all, hj, hwj, hs, hc, hr, apO, apT1, hB, hxg, hrj]
          done
        · have hl4 : B.length ≤ 4611686018427387902 ∧ (B.length + 1 + 1) * 24 ≤ 140737488355328 := by rw [hB, List.length_cons] at hl3; omega
          simp (config := {contextual := true}) [List.range, List.range.loop, ints, intss, int, bool, row, frac, fracs, ← List.map_take, ← List.map_drop, List.all, hj, hwj, hs, hc, hr, apO, apT1, hB, hxg, hrj, hl4]
          done
      · intro _
        cases hD : ordTo n l (k + 1) <;> simp (config := {contextual := true}) [List.range, List.range.loop, ints, intss, int, bool, row, frac, fracs, ← List.map_take, ← List.map_drop, List.all, h2all, hD, hwk, apO, apT1]
        done
    | cons r0 A =>
      simp (config := {contextual := true}) [List.range, List.range.loop, ints, intss, int, bool, row, frac, fracs, ← List.map_take, ← List.map_drop, List.all, hk, hkl, hwk, hl, htd, htd2, htL, hcc, hoo, hlen, apO, apT1, hki, hk2, hk3]
      refine awp_range (live := [true, false, true, true, true, true, false, true, false, false, true, false, true, true, true, true, false, false, false, false, false, false, false, false, false, false, false, false, true, true, true, true]) (ctxH_ok eqOk hG hM hV hK) mixed [true, false, false, true, false, true, false, false, false, false, false, false, true, true, true, false, false, false, false, false, false, false, false, false, false, false, false, false, true, true, true] (R.length) (fun j => True) (fun j => ⟨[ints false l, .junk, .junk, apO (ordTo2 n l k j), .junk, int l[k], .junk, .junk, .junk, .junk, .junk, .junk, ints false l, int ((n : Int) + 1), int k, .junk, .junk, .junk, .junk, .junk, .junk, .junk, .junk, .junk, .junk, .junk, .junk, .junk, .sl false 1 (R.map row), int R.length, int j, .junk, .junk, .junk, .junk, .junk, .junk, .junk, .junk, .junk, .junk, .junk, .junk, .junk, .junk], apT1 (ordTo2 n l k j)⟩) ?_ (by simp [sub, slotsLe, clean, keep, refsL, refs, once, place, renL, ren, List.replicate, int, bool, h2z, hA, row, apO, apT1, ints, hl, hRl]) ?_ ?_ ?_
      · omega
      · trivial
      · intro j hj _ hwj
        have hs := h2s j hj
        have hc := hcc2 j hj
        have hl2 := h2l (j + 1) (by omega)
        have hr := hRrow _ (List.getElem_mem hj)
        have hf := hRf _ (List.getElem_mem hj)
        have hxg : l[k]?.getD 0 = l[k] := by rw [List.getElem?_eq_getElem hkl]; rfl
        generalize hrj : R[j] = r at *
        have hl3 := h2l j (by omega)
        rcases hf with hf | hf
        all_goals rw [hf] at hc hs hr hrj
        all_goals simp only [List.map_nil] at hc hs hr hrj
        all_goals rcases hB : ordTo2 n l k j with _ | ⟨r1, B⟩
        · simp (config := {contextual := true}) [List.range, List.range.loop, ints, intss, int, bool, row, frac, fracs, ← List.map_take, ← List.map_drop, List.all, hj, hwj, hs, hc, hr, apO, apT1, hB, hxg, hrj]
          done
        · have hl4 : B.length ≤ 4611686018427387902 ∧ (B.length + 1 + 1) * 24 ≤ 140737488355328 := by rw [hB, List.length_cons] at hl3; omega
          simp (config := {contextual := true}) [List.range, List.range.loop, ints, intss, int, bool, row, frac, fracs, ← List.map_take, ← List.map_drop, List.all, hj, hwj, hs, hc, hr, apO, apT1, hB, hxg, hrj, hl4]
          done
        · simp (config := {contextual := true}) [List.range, List.range.loop, ints, intss, int, bool, row, frac, fracs, ← List.map_take, ← List.map_drop, List.all, hj, hwj, hs, hc, hr, apO, apT1, hB, hxg, hrj]
          done
        · have hl4 : B.length ≤ 4611686018427387902 ∧ (B.length + 1 + 1) * 24 ≤ 140737488355328 := by rw [hB, List.length_cons] at hl3; omega
          simp (config := {contextual := true}) [List.range, List.range.loop, ints, intss, int, bool, row, frac, fracs, ← List.map_take, ← List.map_drop, List.all, hj, hwj, hs, hc, hr, apO, apT1, hB, hxg, hrj, hl4]
          done
      · intro _
        cases hD : ordTo n l (k + 1) <;> simp (config := {contextual := true}) [List.range, List.range.loop, ints, intss, int, bool, row, frac, fracs, ← List.map_take, ← List.map_drop, List.all, h2all, hD, hwk, apO, apT1]
        done
  · intro _
    cases hA : ordTo n l (n + 1) with
    | nil =>
      have := ordTo_len (n := n) (l := l) (fun l' h => ordR_len h) hl (k := n + 1) (by omega)
      have h0 : 0 < fact n := fact_pos
      rw [hA] at this
      have h1 := Nat.mul_pos (Nat.succ_pos n) h0
      simp only [List.length_nil] at this
      have h2 : (n + 1) * fact n = n.succ * fact n := rfl
      omega
    | cons r0 A =>
      simp (config := {contextual := true}) [List.range, List.range.loop, ints, intss, int, bool, row, frac, fracs, ← List.map_take, ← List.map_drop, List.all, hl, apO, apT1, hA]
      done

end Go.Proofs.YtakladjlnkojjaaDoor.Ax

/-
  Contracts: RentOk, valid rents (both programs). No condition.
-/
namespace Go.Proofs.YtakladjlnkojjaaDoor.Ax
open Go Go.RowKit
set_option linter.unusedSimpArgs false

def rentAt (l : List Int) (m : Nat) : Bool := inR 0 1000 (l.getD m 0)
/-- Row k is as long as there are rows, all its values in the range. -/
def rentRow (xss : List (Bool × List Int)) (k : Nat) : Bool := decide ((xss.getD k (true, [])).2.length = xss.length) && allR (xss.getD k (true, [])).2.length (rentAt (xss.getD k (true, [])).2)
def rentB (xss : List (Bool × List Int)) : Bool := inR 1 4 xss.length && allR xss.length (rentRow xss)

noncomputable def mRent : List AV → Option AV := mk (fun _ => True) (fun (p : (Bool) × (List (Bool × List Int))) => [intss p.1 p.2]) (fun p => bool (rentB p.2))
theorem mRent_at (nl : Bool) (xss : List (Bool × List Int)) : mRent [.sl nl 1 (xss.map row)] = some (.v (.bool (rentB xss))) :=
  mk_eq (enc := fun (p : (Bool) × (List (Bool × List Int))) => [intss p.1 p.2]) (x := (nl, xss)) (by rintro ⟨a0, a1⟩ ⟨b0, b1⟩ h; simp [ints, intss, int, bool, row, frac, fracs, map_int_inj, map_row_inj, frac_inj, map_frac_inj] at h; simp [h]) trivial

theorem allR_iff {n : Nat} {f : Nat → Bool} : allR n f = true ↔ ∀ i, i < n → f i = true := by
  unfold allR; rw [List.all_eq_true]; simp
theorem rentRow_at {xss : List (Bool × List Int)} {k : Nat} (h : k < xss.length) : rentRow xss k = (decide (xss[k].2.length = xss.length) && allR xss[k].2.length (rentAt xss[k].2)) := by
  unfold rentRow; simp [List.getD_eq_getElem?_getD, h]
theorem rentAt_at {l : List Int} {m : Nat} (h : m < l.length) : rentAt l m = inR 0 1000 l[m] := by unfold rentAt; rw [getD_at h]
theorem rent_facts {xss : List (Bool × List Int)} (h : rentB xss = true) : 1 ≤ xss.length ∧ xss.length ≤ 4 ∧ ∀ i (hi : i < xss.length), xss[i].2.length = xss.length ∧ ∀ x ∈ xss[i].2, 0 ≤ x ∧ x ≤ 1000 := by
  simp only [rentB, Bool.and_eq_true, inR, decide_eq_true_eq] at h
  refine ⟨by omega, by omega, fun i hi => ?_⟩
  have hr := allR_iff.1 h.2 i hi
  rw [rentRow_at hi, Bool.and_eq_true, decide_eq_true_eq] at hr
  refine ⟨hr.1, fun x hx => ?_⟩
  obtain ⟨j, hj, rfl⟩ := List.getElem_of_mem hx
  have := allR_iff.1 hr.2 j hj
  rw [rentAt_at hj] at this
  simpa [inR] using this
theorem rent_rect {xss : List (Bool × List Int)} : (rectB xss 4 4 1000 && decide (wid xss = xss.length)) = rentB xss := by
  rw [Bool.eq_iff_iff, Bool.and_eq_true, decide_eq_true_eq]
  constructor
  · rintro ⟨h, hw⟩
    have hl := rect_len h
    have hp := rect_pos h
    simp only [rentB, Bool.and_eq_true, inR, decide_eq_true_eq]
    refine ⟨⟨by omega, by omega⟩, allR_iff.2 fun i hi => ?_⟩
    have hr := rect_row h hi
    rw [rentRow_at hi, Bool.and_eq_true, decide_eq_true_eq]
    refine ⟨by omega, allR_iff.2 fun j hj => ?_⟩
    rw [rentAt_at hj]
    have := hr.2 _ (List.getElem_mem hj)
    simpa [inR] using this
  · intro h
    obtain ⟨h1, h2, h3⟩ := rent_facts h
    cases xss with
    | nil => simp at h1
    | cons r l =>
      have h0 := (h3 0 (by simp)).1
      simp only [List.getElem_cons_zero] at h0
      refine ⟨?_, by simpa [wid] using h0⟩
      simp only [rectB, Bool.and_eq_true, List.all_eq_true, inR, decide_eq_true_eq]
      refine ⟨⟨⟨by simp only [List.length_cons] at h1 ⊢; omega, by omega⟩, by omega, by omega⟩, fun x hx => ?_⟩
      obtain ⟨j, hj, rfl⟩ := List.getElem_of_mem hx
      obtain ⟨k1, k2⟩ := h3 j hj
      simp only [rowIs, Bool.and_eq_true, decide_eq_true_eq, List.all_eq_true, inR]
      exact ⟨by omega, k2⟩

/-- Values, a choice of rooms, rents. -/
def rentsB (xss : List (Bool × List Int)) (l : List Int) (fs : List (Int × Int)) : Bool := rentB xss && rankB xss.length l && decide (fs.length = xss.length) && fs.all fracOk

noncomputable def mRents : List AV → Option AV := mk (fun _ => True) (fun (p : (Bool) × (List (Bool × List Int)) × (Bool) × (List Int) × (Bool) × (List (Int × Int))) => [intss p.1 p.2.1, ints p.2.2.1 p.2.2.2.1, fracs p.2.2.2.2.1 p.2.2.2.2.2]) (fun p => bool (rentsB p.2.1 p.2.2.2.1 p.2.2.2.2.2))
theorem mRents_at (nl : Bool) (xss : List (Bool × List Int)) (nl1 : Bool) (l : List Int) (nl2 : Bool) (fs : List (Int × Int)) : mRents [.sl nl 1 (xss.map row), .sl nl1 1 (l.map int), .sl nl2 2 (fs.map frac)] = some (.v (.bool (rentsB xss l fs))) :=
  mk_eq (enc := fun (p : (Bool) × (List (Bool × List Int)) × (Bool) × (List Int) × (Bool) × (List (Int × Int))) => [intss p.1 p.2.1, ints p.2.2.1 p.2.2.2.1, fracs p.2.2.2.2.1 p.2.2.2.2.2]) (x := (nl, xss, nl1, l, nl2, fs)) (by rintro ⟨a0, a1, a2, a3, a4, a5⟩ ⟨b0, b1, b2, b3, b4, b5⟩ h; simp [ints, intss, int, bool, row, frac, fracs, map_int_inj, map_row_inj, frac_inj, map_frac_inj] at h; simp [h]) trivial
noncomputable def mL25Ok : List AV → Option AV := mk (fun _ => True) (fun (p : (Bool) × (List (Bool × List Int)) × (Bool) × (List Int)) => [intss p.1 p.2.1, ints p.2.2.1 p.2.2.2]) (fun p => bool (rentB p.2.1 && rankB p.2.1.length p.2.2.2))
theorem mL25Ok_at (nl : Bool) (xss : List (Bool × List Int)) (nl1 : Bool) (l : List Int) : mL25Ok [.sl nl 1 (xss.map row), .sl nl1 1 (l.map int)] = some (.v (.bool (rentB xss && rankB xss.length l))) :=
  mk_eq (enc := fun (p : (Bool) × (List (Bool × List Int)) × (Bool) × (List Int)) => [intss p.1 p.2.1, ints p.2.2.1 p.2.2.2]) (x := (nl, xss, nl1, l)) (by rintro ⟨a0, a1, a2, a3⟩ ⟨b0, b1, b2, b3⟩ h; simp [ints, intss, int, bool, row, frac, fracs, map_int_inj, map_row_inj, frac_inj, map_frac_inj] at h; simp [h]) trivial

theorem rank_len {m : Int} {l : List Int} (h : rankB m l = true) : (l.length : Int) = m := by
  simp only [rankB, Bool.and_eq_true, decide_eq_true_eq] at h; exact h.1.2
theorem rank_in {m : Int} {l : List Int} (h : rankB m l = true) {i : Nat} (hi : i < l.length) : 0 ≤ l[i] ∧ l[i] < m := by
  simp only [rankB, Bool.and_eq_true] at h
  have := allR_iff.1 h.2 i hi
  rw [rankAt_at hi, Bool.and_eq_true] at this
  have h2 := this.1
  simp only [inR, Bool.and_eq_true, decide_eq_true_eq] at h2
  omega

end Go.Proofs.YtakladjlnkojjaaDoor.Ax

/-
  Contracts: all rankings (both programs), the worth of a choice of rooms (both programs). No condition.
-/
namespace Go.Proofs.YtakladjlnkojjaaDoor.Ax
open Go Go.RowKit
set_option linter.unusedSimpArgs false

/-- Each person a room, no more. -/
def rmPre (xss : List (Bool × List Int)) (l : List Int) : Prop := l.length ≤ xss.length ∧ ∀ i, i < l.length → 0 ≤ l.getD i 0 ∧ l.getD i 0 < ((xss.getD i (true, [])).2.length : Int)

noncomputable def mRoomV : List AV → Option AV := mk (fun p => rmPre p.2.1 p.2.2.2) (fun (p : (Bool) × (List (Bool × List Int)) × (Bool) × (List Int)) => [intss p.1 p.2.1, ints p.2.2.1 p.2.2.2]) (fun p => int (awTo p.2.1 p.2.2.2 p.2.2.2.length))
theorem mRoomV_at (nl : Bool) (xss : List (Bool × List Int)) (nl' : Bool) (l : List Int) (hpre : rmPre xss l) : mRoomV [.sl nl 1 (xss.map row), .sl nl' 1 (l.map int)] = some (.v (.int .i64 (awTo xss l l.length))) :=
  mk_eq (enc := fun (p : (Bool) × (List (Bool × List Int)) × (Bool) × (List Int)) => [intss p.1 p.2.1, ints p.2.2.1 p.2.2.2]) (x := (nl, xss, nl', l)) (by rintro ⟨a0, a1, a2, a3⟩ ⟨b0, b1, b2, b3⟩ h; simp [ints, intss, int, bool, row, frac, fracs, map_int_inj, map_row_inj, frac_inj, map_frac_inj] at h; simp [h]) hpre

theorem orders_all : ∀ n, n ≤ 5 → FnOk Tryd.prog 110 (mOrd n)
  | 0, _ => orders_zero
  | n + 1, h => orders_succ (by omega) (orders_all n (by omega))

/-- The rankings that begin with l and have r more places, in the reference's order. -/
def l03L (m : Nat) : Nat → List Int → List (Bool × List Int)
  | 0, l => [(false, l)]
  | r + 1, l => (List.range m).flatMap fun (i : Nat) => if pos l (i : Int) < 0 then l03L m r (l ++ [(i : Int)]) else []
def l03To (m r : Nat) (l : List Int) (k : Nat) : List (Bool × List Int) := (List.range k).flatMap fun (i : Nat) => if pos l (i : Int) < 0 then l03L m r (l ++ [(i : Int)]) else []
theorem l03To_succ {m r : Nat} {l : List Int} {k : Nat} : l03To m r l (k + 1) = l03To m r l k ++ (if pos l (k : Int) < 0 then l03L m r (l ++ [(k : Int)]) else []) := by
  unfold l03To; rw [List.range_succ, List.flatMap_append]; simp
theorem l03To_all {m r : Nat} {l : List Int} : l03To m r l m = l03L m (r + 1) l := rfl
theorem l03To_le {m r : Nat} {l : List Int} : ∀ {k j : Nat}, k ≤ j → (l03To m r l k).length ≤ (l03To m r l j).length
  | k, 0, h => by rw [Nat.le_zero.1 h]; exact Nat.le_refl _
  | k, j + 1, h => by
    rcases Nat.lt_or_ge k (j + 1) with h' | h'
    · have := l03To_le (m := m) (r := r) (l := l) (show k ≤ j by omega)
      rw [l03To_succ, List.length_append]; omega
    · rw [show k = j + 1 by omega]; exact Nat.le_refl _

theorem rankings_eq : ∀ m, m ≤ 5 → 1 ≤ m → ordR m (idx m) = l03L m m []
  | 1, _, _ => by decide +kernel
  | 2, _, _ => by decide +kernel
  | 3, _, _ => by decide +kernel
  | 4, _, _ => by decide +kernel
  | 5, _, _ => by decide +kernel
  | 0, _, h => by omega
  | m + 6, h, _ => by omega

/-- What the search from the front is asked; o: the rows so far. -/
def LR (o : List (Bool × List Int)) (l : List Int) (m : Int) (r : Nat) : Prop := ((l.length + r : Nat) : Int) = m ∧ m ≤ 5 ∧ o.length + (l03L m.toNat r l).length ≤ 100000

noncomputable def mL03 (r : Nat) : List AV → Option (List Nat × AV) := mkV (fun p => LR p.1 p.2.1 p.2.2 r) (fun (p : List (Bool × List Int) × List Int × Int) => [intss false p.1, ints false p.2.1, int p.2.2]) [0, 1] (fun p => intss false (p.1 ++ l03L p.2.2.toNat r p.2.1))
theorem mL03_at (r : Nat) (o : List (Bool × List Int)) (l : List Int) (m : Int) (h : LR o l m r) : mL03 r [.sl false 1 (o.map row), .sl false 1 (l.map int), .v (.int .i64 m)] = some ([0, 1], .sl false 1 ((o ++ l03L m.toNat r l).map row)) :=
  mkV_eq (enc := fun (p : List (Bool × List Int) × List Int × Int) => [intss false p.1, ints false p.2.1, int p.2.2]) (x := (o, l, m)) (by rintro ⟨a, b, c⟩ ⟨e, f, g⟩ h; simp [intss, ints, int, map_row_inj, map_int_inj] at h; simp [h]) h

set_option maxHeartbeats 1000000 in
theorem l03All_zero : (FnMov Tryd.prog 105 (mL03 0)) := by
  refine mkV_ok fun ⟨o, l, m⟩ h => ?_
  simp only at h
  have hG : FnsOk Tryd.prog [(72, mPos)] := (.cons placeOf_ok .nil)
  refine movOk_awp (ctx_ok eqOk hG) mixed (live := [true, true, true, false, false, false, true, true, false, false, false, true, false, false, false, false, false, false, true, false, false, false, false, false, true]) (dt := []) (mv := [0,1]) Tryd.func105 rfl (by kernel_rfl) (by kernel_rfl) fun US w0 hlens => ?_
  simp only [List.map, List.getD_cons_zero, List.getD_cons_succ, internL, intern, setSl, List.set, List.length_nil, List.nil_append, List.length_map]
  clear hlens
  have hl : (l.length : Int) = m := h.1
  have hb := h.2.2
  simp only [l03L, List.length_cons, List.length_nil] at hb
  have hb2 : o.length + 1 ≤ 4611686018427387904 ∧ (o.length + 1) * 24 ≤ 140737488355328 := by omega
  simp (config := {contextual := true, maxSteps := 1000000}) [Tryd.f105, List.range, List.range.loop, ints, intss, int, bool, row, frac, fracs, ← List.map_take, ← List.map_drop, List.all, hl, l03L, hb2]
  done

set_option maxHeartbeats 2000000 in
theorem l03All_succ {r : Nat} (ih : FnMov Tryd.prog 105 (mL03 r)) : (FnMov Tryd.prog 105 (mL03 (r + 1))) := by
  refine mkV_ok fun ⟨o, l, m'⟩ h => ?_
  simp only at h
  have hG : FnsOk Tryd.prog [(72, mPos)] := (.cons placeOf_ok .nil)
  have hM : FnsMut Tryd.prog [] := .nil
  have hV : FnsMov Tryd.prog [(105, mL03 r)] := (.cons ih .nil)
  refine movOk_awp (ctxV_ok eqOk hG hM hV) mixed (live := [true, true, true, false, false, false, true, true, false, false, false, true, false, false, false, false, false, false, true, false, false, false, false, false, true]) (dt := []) (mv := [0,1]) Tryd.func105 rfl (by kernel_rfl) (by kernel_rfl) fun US w0 hlens => ?_
  simp only [List.map, List.getD_cons_zero, List.getD_cons_succ, internL, intern, setSl, List.set, List.length_nil, List.nil_append, List.length_map]
  clear hlens
  obtain ⟨m, rfl⟩ : ∃ m : Nat, m' = (m : Int) := ⟨l.length + (r + 1), h.1.symm⟩
  have hm : l.length + (r + 1) = m := by have := h.1; omega
  have hm5 : m ≤ 5 := by have := h.2.1; omega
  have hb := h.2.2
  simp only [Int.toNat_natCast] at hb
  have hl : ¬ ((l.length : Int) = (m : Int)) := by omega
  simp (config := {contextual := true, maxSteps := 1000000}) [Tryd.f105, List.range, List.range.loop, ints, intss, int, bool, row, frac, fracs, ← List.map_take, ← List.map_drop, List.all, hl]
  refine awp_loop_of (live := [true, true, true, false, false, false, true, true, false, false, false, true, false, false, false, false, false, false, true, false, false, false, false, false, true]) (ctxV_ok eqOk hG hM hV) mixed [true, true, true, false, false, false, false, true] (α := {k : Nat // k ≤ m}) (fun k => ⟨[.ref 0 [] 0 (o ++ l03To m r l k.1).length, .ref 1 [] 0 l.length, int m, .junk, .junk, .junk, .junk, int (k.1 : Int), .junk, .junk, .junk, .junk, .junk, .junk, .junk, .junk, .junk, .junk, .junk, .junk, .junk, .junk, .junk, .junk, .junk, .junk, .junk, .junk, .junk, .junk, .junk, .junk, .junk, .junk, .junk], [⟨true, .sl false 1 ((o ++ l03To m r l k.1).map row)⟩, ⟨true, .sl false 1 (l.map int)⟩]⟩) (fun k => m - k.1) ⟨0, by omega⟩ (by simp [sub, slotsLe, clean, keep, refsL, refs, once, place, renL, ren, List.replicate, int, bool, l03To, intss]) ?_
  rintro ⟨k, hk⟩
  simp only
  have hsucc := l03To_succ (m := m) (r := r) (l := l) (k := k)
  by_cases hkm : k = m
  · subst hkm
    simp (config := {contextual := true, maxSteps := 1000000}) [List.range, List.range.loop, ints, intss, int, bool, row, frac, fracs, ← List.map_take, ← List.map_drop, List.all, l03To_all]
    done
  have hkm2 : k < m := by omega
  have hw : IntKind.i64.wrap ((k : Int) + 1) = (k : Int) + 1 := by rw [wrapI (by omega) (by omega)]
  have hlb : l.length ≤ 4611686018427387904 ∧ l.length * 8 ≤ 140737488355328 := by omega
  have hlb2 : l.length + 1 ≤ 4611686018427387904 ∧ (l.length + 1) * 8 ≤ 140737488355328 := by omega
  by_cases hp : pos l (k : Int) < 0
  · rw [if_pos hp] at hsucc
    have hle := l03To_le (m := m) (r := r) (l := l) (k := k + 1) (j := m) (by omega)
    rw [l03To_all, hsucc, List.length_append] at hle
    have hcall := mL03_at r (o ++ l03To m r l k) (l ++ [(k : Int)]) m ⟨by simp; omega, by omega, by simp only [Int.toNat_natCast, List.length_append] at hb ⊢; omega⟩
    simp only [Int.toNat_natCast, List.append_assoc, ← hsucc, List.map_append, List.map_cons, List.map_nil, int] at hcall
    have htk : List.take (l.length + 1) (l.map int ++ [AV.v (.int .i64 k)]) = l.map int ++ [AV.v (.int .i64 k)] := List.take_of_length_le (by simp)
    have hto : List.take (o.length + (l03To m r l k).length) (o.map row ++ (l03To m r l k).map row) = o.map row ++ (l03To m r l k).map row := List.take_of_length_le (by simp)
    simp (config := {contextual := true, maxSteps := 1000000}) [List.range, List.range.loop, ints, intss, int, bool, row, frac, fracs, ← List.map_take, ← List.map_drop, List.all, hkm2, hw, mPos_at, hp, hlb, hlb2, htk, hto, hcall]
    exact ⟨⟨k + 1, by omega⟩, by simp [sub, slotsLe, clean, keep, refsL, refs, once, place, renL, ren, List.replicate, int, bool], by simp; omega⟩
  · rw [if_neg hp, List.append_nil] at hsucc
    simp (config := {contextual := true, maxSteps := 1000000}) [List.range, List.range.loop, ints, intss, int, bool, row, frac, fracs, ← List.map_take, ← List.map_drop, List.all, hkm2, hw, mPos_at, hp]
    exact ⟨⟨k + 1, by omega⟩, by simp [sub, slotsLe, clean, keep, refsL, refs, once, place, renL, ren, List.replicate, int, bool, hsucc], by simp; omega⟩

end Go.Proofs.YtakladjlnkojjaaDoor.Ax

/-
  Contracts: all rankings, the best choice of rooms (both programs). No condition.
-/
namespace Go.Proofs.YtakladjlnkojjaaDoor.Ax
open Go Go.RowKit
set_option linter.unusedSimpArgs false

/-- All rankings of m, when m is in its range. -/
def allRk (m : Int) : List (Bool × List Int) := if inR 1 5 m = true then l03L m.toNat m.toNat [] else []

noncomputable def mOrdA : List AV → Option AV := mk (fun p => 1 ≤ p.length ∧ p.length ≤ 5) (fun p => [ints false p]) (fun p => .sl false 1 ((ordR p.length p).map row))
theorem mOrdA_at (l : List Int) (h : 1 ≤ l.length ∧ l.length ≤ 5) : mOrdA [.sl false 1 (l.map int)] = some (.sl false 1 ((ordR l.length l).map row)) :=
  mk_eq (enc := fun (p : List Int) => [ints false p]) (x := l) (by intro a b h; simp [ints, map_int_inj] at h; rw [h]) h
theorem ordersA_ok : FnOk Tryd.prog 110 mOrdA := by
  refine mk_ok fun l h => ?_
  exact orders_all l.length h.2 _ _ (mOrd_at l.length false l ⟨rfl, h.2, fun h => by simp at h⟩)

noncomputable def mL03S : List AV → Option (List Nat × AV) := mkV (fun m => 0 ≤ m ∧ m ≤ 5) (fun (m : Int) => [intss false [], ints false [], int m]) [0, 1] (fun m => intss false (l03L m.toNat m.toNat []))
theorem mL03S_at (m : Int) (h : 0 ≤ m ∧ m ≤ 5) : mL03S [.sl false 1 [], .sl false 1 [], .v (.int .i64 m)] = some ([0, 1], .sl false 1 ((l03L m.toNat m.toNat []).map row)) :=
  mkV_eq (enc := fun (m : Int) => [intss false [], ints false [], int m]) (x := m) (by intro a b h; simp [int] at h; rw [h]) h

theorem l03All_all : ∀ r, FnMov Tryd.prog 105 (mL03 r)
  | 0 => l03All_zero
  | r + 1 => l03All_succ (l03All_all r)

def rkB (m : Nat) : Bool := decide ((l03L m m []).length ≤ 120) && decide ((l03L m m []).length ≠ 0) && (l03L m m []).all fun r => !r.1 && rankB m r.2
theorem rkB_at : ∀ m, 1 ≤ m → m ≤ 5 → rkB m = true
  | 1, _, _ => by decide +kernel
  | 2, _, _ => by decide +kernel
  | 3, _, _ => by decide +kernel
  | 4, _, _ => by decide +kernel
  | 5, _, _ => by decide +kernel
  | 0, h, _ => by omega
  | m + 6, _, h => by omega

theorem l03L_facts {m : Nat} (h1 : 1 ≤ m) (h5 : m ≤ 5) : (l03L m m []).length ≤ 120 ∧ (l03L m m []).length ≠ 0 ∧ ∀ r ∈ l03L m m [], r.1 = false ∧ rankB m r.2 = true := by
  have := rkB_at m h1 h5
  simp only [rkB, Bool.and_eq_true, decide_eq_true_eq, List.all_eq_true, Bool.not_eq_true'] at this
  exact ⟨this.1.1, this.1.2, this.2⟩

theorem l03AllS_ok : FnMov Tryd.prog 105 mL03S := by
  refine mkV_ok fun m h => ?_
  have hl : (l03L m.toNat m.toNat []).length ≤ 100000 := by
    rcases Int.lt_or_le 0 m with h0 | h0
    · have := (l03L_facts (m := m.toNat) (by omega) (by omega)).1; omega
    · rw [show m.toNat = 0 by omega]; simp [l03L]
  exact l03All_all m.toNat _ _ _ (mL03_at m.toNat [] [] m ⟨by simp; omega, h.2, by simpa using hl⟩)

noncomputable def mAllRk : List AV → Option AV := mk (fun _ => True) (fun (p : (Int)) => [int p]) (fun p => .sl (!inR 1 5 p) 1 ((allRk p).map row))
theorem mAllRk_at (m : Int) : mAllRk [.v (.int .i64 m)] = some (.sl (!inR 1 5 m) 1 ((allRk m).map row)) :=
  mk_eq (enc := fun (p : (Int)) => [int p]) (x := (m)) (by rintro a0 b0 h; simp [ints, intss, int, bool, row, frac, fracs, map_int_inj, map_row_inj, frac_inj, map_frac_inj] at h; simp [h]) trivial

theorem implAllRankings_ok : FnOk Tryd.prog 84 mAllRk := by
  refine mk_ok fun m _ => ?_
  have hG : FnsOk Tryd.prog [(78, mWithin), (36, mIdx), (110, mOrdA)] := (.cons within_ok (.cons indices_ok (.cons ordersA_ok .nil)))
  refine callOk_awp (ctx_ok eqOk hG) mixed (live := [true, false, true, false, false, true]) (dt := []) Tryd.func84 rfl (by kernel_rfl) (by kernel_rfl) fun w0 hlens => ?_
  clear hlens
  cases h : inR 1 5 m with
  | false => simp (config := {contextual := true}) [Tryd.f84, List.range, List.range.loop, ints, intss, int, bool, row, frac, fracs, ← List.map_take, ← List.map_drop, mWithin_in, h, allRk]
  | true =>
    have h2 : 1 ≤ m ∧ m ≤ 5 := by simpa [inR] using h
    obtain ⟨n, rfl⟩ : ∃ n : Nat, m = (n : Int) := ⟨m.toNat, by omega⟩
    have hi := mIdx_at n (by omega)
    have ho := mOrdA_at (idx n) (by rw [idx_len]; omega)
    rw [idx_len, rankings_eq n (by omega) (by omega)] at ho
    have htk : List.take n ((idx n).map int) = (idx n).map int := List.take_of_length_le (by simp [idx_len])
    simp (config := {contextual := true}) [Tryd.f84, List.range, List.range.loop, ints, intss, int, bool, row, frac, fracs, ← List.map_take, ← List.map_drop, mWithin_in, h, allRk, hi, ho, idx_len, htk]

theorem specAllRankings_ok : FnOk Tryd.prog 76 mAllRk := by
  refine mk_ok fun m _ => ?_
  have hG : FnsOk Tryd.prog [(54, mWithin)] := (.cons l01In_ok .nil)
  have hM : FnsMut Tryd.prog [] := .nil
  have hV : FnsMov Tryd.prog [(105, mL03S)] := (.cons l03AllS_ok .nil)
  refine callOk_awp (ctxV_ok eqOk hG hM hV) mixed (live := [true, false, true, false, false, true]) (dt := []) Tryd.func76 rfl (by kernel_rfl) (by kernel_rfl) fun w0 hlens => ?_
  clear hlens
  cases h : inR 1 5 m with
  | false => simp (config := {contextual := true}) [Tryd.f76, List.range, List.range.loop, ints, intss, int, bool, row, frac, fracs, ← List.map_take, ← List.map_drop, List.all, mWithin_in, h, allRk]
  | true =>
    have h2 : 1 ≤ m ∧ m ≤ 5 := by simpa [inR] using h
    have ho := mL03S_at m (by omega)
    simp (config := {contextual := true}) [Tryd.f76, List.range, List.range.loop, ints, intss, int, bool, row, frac, fracs, ← List.map_take, ← List.map_drop, List.all, mWithin_in, h, allRk, ho]

/-- The place of the first best so far and how many are as good. -/
def bstep (W : Nat → Int) (k : Nat) : Option (Nat × Int) → Option (Nat × Int)
  | none => some (k, 1)
  | some (i, n) => if W i < W k then some (k, 1) else if W k = W i then some (i, n + 1) else some (i, n)
def bstTo (W : Nat → Int) : Nat → Option (Nat × Int)
  | 0 => none
  | k + 1 => bstep W k (bstTo W k)
theorem bstTo_succ {W : Nat → Int} {k : Nat} : bstTo W (k + 1) = bstep W k (bstTo W k) := rfl
theorem bstTo_facts {W : Nat → Int} : ∀ {k : Nat}, (k = 0 ∧ bstTo W k = none) ∨ ∃ i n, bstTo W k = some (i, n) ∧ 0 ≤ n ∧ n ≤ k ∧ i < k
  | 0 => .inl ⟨rfl, rfl⟩
  | k + 1 => by
    right
    rcases bstTo_facts (W := W) (k := k) with ⟨_, h0⟩ | ⟨b, n, h0, h1, h2, h3⟩
    · simp only [bstTo, bstep, h0]; exact ⟨_, _, rfl, by omega, by omega, by omega⟩
    · simp only [bstTo, bstep, h0]
      split
      · exact ⟨_, _, rfl, by omega, by omega, by omega⟩
      · split
        · exact ⟨_, _, rfl, by omega, by omega, by omega⟩
        · exact ⟨_, _, rfl, by omega, by omega, by omega⟩

/-- The k-th ranking; what it is worth. -/
def nth (L : List (Bool × List Int)) (k : Nat) : List Int := (L.getD k (true, [])).2
theorem nth_at {L : List (Bool × List Int)} {k : Nat} (h : k < L.length) : nth L k = L[k].2 := by simp [nth, List.getD_eq_getElem?_getD, h]
def wR (xss : List (Bool × List Int)) (l : List Int) : Int := awTo xss l l.length
def wK (xss L : List (Bool × List Int)) (k : Nat) : Int := wR xss (nth L k)
/-- The first best choice of rooms and how many are as good. -/
def brOf (L : List (Bool × List Int)) : Option (Nat × Int) → List Int × Int
  | none => ([], 0)
  | some (i, n) => (nth L i, n)
def bR (xss : List (Bool × List Int)) : List Int × Int := if rentB xss = true then brOf (allRk xss.length) (bstTo (wK xss (allRk xss.length)) (allRk xss.length).length) else ([], 0)

theorem rent_rm {xss : List (Bool × List Int)} (h : rentB xss = true) {l : List Int} (hl : rankB xss.length l = true) : rmPre xss l := by
  obtain ⟨h1, h2, h3⟩ := rent_facts h
  have hlen := rank_len hl
  refine ⟨by omega, fun i hi => ?_⟩
  have hr := (h3 i (by omega)).1
  have := rank_in hl hi
  rw [getD_at hi, List.getD_eq_getElem?_getD, List.getElem?_eq_getElem (by omega)]
  simp only [Option.getD_some]; omega

noncomputable def mBestRms : List AV → Option AV := mk (fun _ => True) (fun (p : (Bool) × (List (Bool × List Int))) => [intss p.1 p.2]) (fun p => .tup [.sl (!rentB p.2) 1 ((bR p.2).1.map int), .v (.int .i64 (bR p.2).2)])
theorem mBestRms_at (nl : Bool) (xss : List (Bool × List Int)) : mBestRms [.sl nl 1 (xss.map row)] = some (.tup [.sl (!rentB xss) 1 ((bR xss).1.map int), .v (.int .i64 (bR xss).2)]) :=
  mk_eq (enc := fun (p : (Bool) × (List (Bool × List Int))) => [intss p.1 p.2]) (x := (nl, xss)) (by rintro ⟨a0, a1⟩ ⟨b0, b1⟩ h; simp [ints, intss, int, bool, row, frac, fracs, map_int_inj, map_row_inj, frac_inj, map_frac_inj] at h; simp [h]) trivial
noncomputable def mL25Best : List AV → Option AV := mk (fun p => rentB p.2 = true) (fun (p : (Bool) × (List (Bool × List Int))) => [intss p.1 p.2]) (fun p => .tup [.sl (!rentB p.2) 1 ((bR p.2).1.map int), .v (.int .i64 (bR p.2).2)])
theorem mL25Best_at (nl : Bool) (xss : List (Bool × List Int)) (hpre : rentB xss = true) : mL25Best [.sl nl 1 (xss.map row)] = some (.tup [.sl (!rentB xss) 1 ((bR xss).1.map int), .v (.int .i64 (bR xss).2)]) :=
  mk_eq (enc := fun (p : (Bool) × (List (Bool × List Int))) => [intss p.1 p.2]) (x := (nl, xss)) (by rintro ⟨a0, a1⟩ ⟨b0, b1⟩ h; simp [ints, intss, int, bool, row, frac, fracs, map_int_inj, map_row_inj, frac_inj, map_frac_inj] at h; simp [h]) hpre
noncomputable def mBestRooms : List AV → Option AV := mk (fun _ => True) (fun (p : (Bool) × (List (Bool × List Int))) => [intss p.1 p.2]) (fun p => .sl (!rentB p.2) 1 ((bR p.2).1.map int))
theorem mBestRooms_at (nl : Bool) (xss : List (Bool × List Int)) : mBestRooms [.sl nl 1 (xss.map row)] = some (.sl (!rentB xss) 1 ((bR xss).1.map int)) :=
  mk_eq (enc := fun (p : (Bool) × (List (Bool × List Int))) => [intss p.1 p.2]) (x := (nl, xss)) (by rintro ⟨a0, a1⟩ ⟨b0, b1⟩ h; simp [ints, intss, int, bool, row, frac, fracs, map_int_inj, map_row_inj, frac_inj, map_frac_inj] at h; simp [h]) trivial

def apRm (m : Nat) : Option (Nat × Int) → AV
  | none => .sl true 1 []
  | some (i, _) => .ref 0 [(i, 0)] 0 m
def apQm (m : Nat) : Option (Nat × Int) → AV
  | none => .ref 0 [] 0 0
  | some (i, _) => .ref 0 [(i, 0)] 0 m
def apR (n : Nat) : Option (Nat × Int) → AV
  | none => .ref 1 [] 0 n
  | some _ => .ref 0 [] 0 n
def apQt (L : List (Bool × List Int)) : Option (Nat × Int) → List Tok
  | none => [⟨true, .sl false 1 []⟩, ⟨true, .sl false 1 (L.map row)⟩]
  | some _ => [⟨true, .sl false 1 (L.map row)⟩]
def apN : Option (Nat × Int) → AV
  | none => int 0
  | some (_, n) => int n

theorem best_facts {xss : List (Bool × List Int)} (h1 : rentB xss = true) : (allRk xss.length).length ≤ 120 ∧ (allRk xss.length).length ≠ 0 ∧ ∀ r ∈ allRk xss.length, r.1 = false ∧ rankB xss.length r.2 = true := by
  obtain ⟨r1, r2, _⟩ := rent_facts h1
  have h : allRk xss.length = l03L xss.length xss.length [] := by
    have : inR 1 5 (xss.length : Int) = true := by simp [inR]; omega
    simp [allRk, this]
  rw [h]
  exact l03L_facts r1 (by omega)

end Go.Proofs.YtakladjlnkojjaaDoor.Ax
