/-
  Contracts: all orders (the program). No condition.
-/
import Derived.Test.YtkfmhpgnhkdebaaGreatDoorCG12
import Derived.Test.YtkfmhpgnhkdebaaGreatDoorCG7
import Derived.Test.YtkfmhpgnhkdebaaGreatDoorCG3
import Derived.Test.YtkfmhpgnhkdebaaGreatDoorCG5
import Derived.Test.YtkfmhpgnhkdebaaGreatDoorCG6
namespace Go.Proofs.YtkfmhpgnhkdebaaGreatDoor.Ax
open Go Go.RowKit
set_option linter.unusedSimpArgs false
def ordR : Nat → List Int → List (Bool × List Int)
  | 0, _ => [(true, [])]
  | n + 1, l => (List.range l.length).flatMap fun i => (ordR n (l.take i ++ l.drop (i + 1))).map fun r => (false, l.getD i 0 :: r.2)
def ordTo (n : Nat) (l : List Int) (k : Nat) : List (Bool × List Int) := (List.range k).flatMap fun i => (ordR n (l.take i ++ l.drop (i + 1))).map fun r => (false, l.getD i 0 :: r.2)
def ordTo2 (n : Nat) (l : List Int) (k j : Nat) : List (Bool × List Int) := ordTo n l k ++ ((ordR n (l.take k ++ l.drop (k + 1))).take j).map fun r => (false, l.getD k 0 :: r.2)
theorem ordTo2_zero {n : Nat} {l : List Int} {k : Nat} : ordTo2 n l k 0 = ordTo n l k := by simp [ordTo2]
theorem ordTo2_all {n : Nat} {l : List Int} {k : Nat} : ordTo2 n l k (ordR n (l.take k ++ l.drop (k + 1))).length = ordTo n l (k + 1) := by
  simp [ordTo2, ordTo, List.range_succ]
theorem ordTo2_succ {n : Nat} {l : List Int} {k j : Nat} (h : j < (ordR n (l.take k ++ l.drop (k + 1))).length) : ordTo2 n l k (j + 1) = ordTo2 n l k j ++ [(false, l.getD k 0 :: (ordR n (l.take k ++ l.drop (k + 1)))[j].2)] := by
  unfold ordTo2
  rw [List.take_succ_eq_append_getElem h, List.map_append, ← List.append_assoc]; rfl
theorem ordR_succ {n : Nat} {l : List Int} : ordR (n + 1) l = ordTo n l l.length := rfl
theorem ordR_row : ∀ {n : Nat} {l : List Int}, l.length = n → ∀ r ∈ ordR n l, r.2.length = n
  | 0, l, _, r, hr => by simp [ordR] at hr; subst hr; rfl
  | n + 1, l, hl, r, hr => by
    simp only [ordR, List.mem_flatMap, List.mem_map, List.mem_range] at hr
    obtain ⟨i, hi, r', hr', rfl⟩ := hr
    have := ordR_row (n := n) (l := l.take i ++ l.drop (i + 1)) (by simp; omega) r' hr'
    simp [this]
theorem ordR_flag : ∀ {n : Nat} {l : List Int}, ∀ r ∈ ordR n l, r = (true, []) ∨ r = (false, r.2)
  | 0, _, r, hr => by simp [ordR] at hr; exact Or.inl hr
  | n + 1, l, r, hr => by
    simp only [ordR, List.mem_flatMap, List.mem_map, List.mem_range] at hr
    obtain ⟨i, hi, r', hr', rfl⟩ := hr
    exact Or.inr rfl
def fact : Nat → Nat
  | 0 => 1
  | n + 1 => (n + 1) * fact n
theorem ordTo_len {n : Nat} {l : List Int} (ih : ∀ l' : List Int, l'.length = n → (ordR n l').length = fact n) (hl : l.length = n + 1) : ∀ {k : Nat}, k ≤ n + 1 → (ordTo n l k).length = k * fact n
  | 0, _ => by simp [ordTo]
  | k + 1, hk => by
    have := ordTo_len ih hl (k := k) (by omega)
    rw [← ordTo2_all]
    unfold ordTo2
    rw [List.length_append, this, List.length_map, List.take_length, ih _ (by simp; omega), Nat.add_mul]
    omega
theorem ordR_len : ∀ {n : Nat} {l : List Int}, l.length = n → (ordR n l).length = fact n
  | 0, l, _ => rfl
  | n + 1, l, hl => by
    rw [ordR_succ, hl]
    exact ordTo_len (fun l' h => ordR_len h) hl (Nat.le_refl _)
noncomputable def mOrd (n : Nat) : List AV → Option AV := mk (fun p => p.2.length = n ∧ n ≤ 5 ∧ (p.1 = true → n = 0)) (fun (p : Bool × List Int) => [ints p.1 p.2]) (fun p => .sl false 1 ((ordR n p.2).map row))
theorem mOrd_at (n : Nat) (nl : Bool) (l : List Int) (h : l.length = n ∧ n ≤ 5 ∧ (nl = true → n = 0)) : mOrd n [.sl nl 1 (l.map int)] = some (.sl false 1 ((ordR n l).map row)) :=
  mk_eq (enc := fun (p : Bool × List Int) => [ints p.1 p.2]) (x := (nl, l)) (by rintro ⟨a, b⟩ ⟨c, d⟩ h; simp [ints, map_int_inj] at h; simp [h]) h
theorem orders_zero : (FnOk Tryz.prog 165 (mOrd 0)) := by
  refine mk_ok fun ⟨nl, l⟩ ⟨hl, _⟩ => ?_
  simp only at hl
  have hG : FnsOk Tryz.prog [(227, mConcat)] := (.cons concatI_ok .nil)
  refine callOk_awp (ctx_ok eqOk hG) mixed (live := [true, false, true, true, true, true, false, true, false, false, true, false, true, true, true, true, false, false, false, false, false, false, false, false, false, false, false, false, true, true, true, true]) (dt := [(7, ⟨[], [0, 0, 0, 0, 0, 0, 0, 1, 1, 1], []⟩)]) Tryz.func165 rfl (by kernel_rfl) (by kernel_rfl) fun w0 hlens => ?_
  clear hlens
  have hl0 : l = [] := List.length_eq_zero_iff.1 hl
  subst hl0
  simp (config := {contextual := true}) [Tryz.f165, List.range, List.range.loop, ints, intss, int, bool, row, frac, fracs, ← List.map_take, ← List.map_drop, ordR]
def apO (R : List (Bool × List Int)) : AV := match R with
  | [] => .sl true 1 []
  | _ :: R => .ref 0 [] 0 (R.length + 1)
def apT1 (R : List (Bool × List Int)) : List Tok := match R with
  | [] => []
  | r :: R => [⟨true, .sl false 1 ((r :: R).map row)⟩]
theorem fact_pos : ∀ {n : Nat}, 0 < fact n
  | 0 => Nat.one_pos
  | n + 1 => Nat.mul_pos (Nat.succ_pos n) fact_pos
theorem fact_le : ∀ {n : Nat}, n ≤ 4 → fact n ≤ 24 := by decide
set_option maxHeartbeats 2000000 in
theorem orders_succ {n : Nat} (hn : n ≤ 4) (ih : FnOk Tryz.prog 165 (mOrd n)) : FnOk Tryz.prog 165 (mOrd (n + 1)) := by
  refine mk_ok fun ⟨nl, l⟩ ⟨hl, _, hnl⟩ => ?_
  simp only at hl hnl
  have hnl' : nl = false := by cases nl; rfl; exact absurd (hnl rfl) (by omega)
  subst hnl'
  clear hnl
  have hG : FnsOk Tryz.prog [(227, mConcat)] := (.cons concatI_ok .nil)
  have hM : FnsMut Tryz.prog [] := .nil
  have hV : FnsMov Tryz.prog [] := .nil
  have hK : FnsFrz Tryz.prog [(165, false, mOrd n)] := (.cons (FnOk.frz ih) .nil)
  refine callOk_awp (ctxH_ok eqOk hG hM hV hK) mixed (live := [true, false, true, true, true, true, false, true, false, false, true, false, true, true, true, true, false, false, false, false, false, false, false, false, false, false, false, false, true, true, true, true]) (dt := [(7, ⟨[], [0, 0, 0, 0, 0, 0, 0, 1, 1, 1], []⟩)]) Tryz.func165 rfl (by kernel_rfl) (by kernel_rfl) fun w0 hlens => ?_
  clear hlens
  have hl0 : ¬ ((l.length : Int) = 0) := by omega
  rw [ordR_succ, hl]
  have hf := fact_le hn
  simp (config := {contextual := true}) [Tryz.f165, List.range, List.range.loop, ints, intss, int, bool, row, frac, fracs, ← List.map_take, ← List.map_drop, List.all, hl0, hl]
  refine awp_range (live := [true, false, true, true, true, true, false, true, false, false, true, false, true, true, true, true, false, false, false, false, false, false, false, false, false, false, false, false, true, true, true, true]) (ctxH_ok eqOk hG hM hV hK) mixed [true, false, false, true, false, false, false, false, false, false, false, false, true, true, true] (n + 1) (fun k => True) (fun k => ⟨[ints false l, .junk, .junk, apO (ordTo n l k), .junk, .junk, .junk, .junk, .junk, .junk, .junk, .junk, ints false l, int ((n : Int) + 1), int k, .junk, .junk, .junk, .junk, .junk, .junk, .junk, .junk, .junk, .junk, .junk, .junk, .junk, .junk, .junk, .junk, .junk, .junk, .junk, .junk, .junk, .junk, .junk, .junk, .junk, .junk, .junk, .junk, .junk, .junk], apT1 (ordTo n l k)⟩) ?_ (by simp [sub, slotsLe, clean, keep, refsL, refs, once, place, renL, ren, List.replicate, int, bool, ordTo, apO, apT1, ints, hl]) ?_ ?_ ?_
  · omega
  · trivial
  · intro k hk _ hwk
    have hkl : k < l.length := by omega
    have hx : l.getD k 0 = l[k] := getD_at hkl
    have hlen : (l.take k ++ l.drop (k + 1)).length = n := by simp; omega
    have htd : List.take (n + 1 - (k + 1)) (List.drop (k + 1) l) = List.drop (k + 1) l := List.take_of_length_le (by simp; omega)
    have htd2 : List.take (n - k) (List.drop (k + 1) l) = List.drop (k + 1) l := List.take_of_length_le (by simp; omega)
    have hcc := mConcat_at false [(false, l.take k), (false, l.drop (k + 1))] ⟨by simp, by simp [cat]; omega⟩
    simp only [List.map_cons, List.map_nil, row, cat, List.flatMap_cons, List.flatMap_nil, List.append_nil] at hcc
    have hoo := mOrd_at n (decide (l.take k ++ l.drop (k + 1) = [])) (l.take k ++ l.drop (k + 1)) ⟨hlen, by omega, fun h => by simpa [hlen] using congrArg List.length (of_decide_eq_true h)⟩
    have h2all := ordTo2_all (n := n) (l := l) (k := k)
    have h2z := ordTo2_zero (n := n) (l := l) (k := k)
    have h2s := fun j => ordTo2_succ (n := n) (l := l) (k := k) (j := j)
    have hRrow := ordR_row hlen
    have hRl := ordR_len hlen
    have hRf := ordR_flag (n := n) (l := l.take k ++ l.drop (k + 1))
    have hAl := ordTo_len (n := n) (l := l) (fun l' h => ordR_len h) hl (k := k) (by omega)
    have h2l : ∀ j, j ≤ (ordR n (l.take k ++ l.drop (k + 1))).length → (ordTo2 n l k j).length ≤ 120 := fun j hj => by
      simp only [ordTo2, List.length_append, List.length_map, List.length_take, hAl]
      have := Nat.mul_le_mul (show k ≤ 4 by omega) hf
      omega
    have hk2 : k ≤ n + 1 := by omega
    have hk3 : k ≤ n := by omega
    have hki : (k : Int) < (n : Int) + 1 := by omega
    have hinit : ∀ (P : Bool), apO (ordTo2 n l k 0) = apO (ordTo n l k) := fun _ => by rw [h2z]
    generalize hLL : l.take k ++ l.drop (k + 1) = L at *
    have htL : List.take n L = L := List.take_of_length_le (by omega)
    generalize decide (L = []) = b at *
    generalize hRR : ordR n L = R at *
    have hgo : ∀ A0 : List (Bool × List Int), ordTo n l k = A0 → ordTo n l k = A0 := fun _ h => h
    have hcc2 := fun (j : Nat) (h : j < R.length) => mConcat_at false [(false, [l[k]]), R[j]] ⟨by simp, by simp [cat]; have := hRrow _ (List.getElem_mem h); omega⟩
    simp only [List.map_cons, List.map_nil, row, cat, List.flatMap_cons, List.flatMap_nil, List.append_nil, List.cons_append, List.nil_append, int] at hcc2
    cases hA : ordTo n l k with
    | nil =>
      simp (config := {contextual := true}) [List.range, List.range.loop, ints, intss, int, bool, row, frac, fracs, ← List.map_take, ← List.map_drop, List.all, hk, hkl, hwk, hl, htd, htd2, htL, hcc, hoo, hlen, apO, apT1, hki, hk2, hk3]
      refine awp_range (live := [true, false, true, true, true, true, false, true, false, false, true, false, true, true, true, true, false, false, false, false, false, false, false, false, false, false, false, false, true, true, true, true]) (ctxH_ok eqOk hG hM hV hK) mixed [true, false, false, true, false, true, false, false, false, false, false, false, true, true, true, false, false, false, false, false, false, false, false, false, false, false, false, false, true, true, true] (R.length) (fun j => True) (fun j => ⟨[ints false l, .junk, .junk, apO (ordTo2 n l k j), .junk, int l[k], .junk, .junk, .junk, .junk, .junk, .junk, ints false l, int ((n : Int) + 1), int k, .junk, .junk, .junk, .junk, .junk, .junk, .junk, .junk, .junk, .junk, .junk, .junk, .junk, .sl false 1 (R.map row), int R.length, int j, .junk, .junk, .junk, .junk, .junk, .junk, .junk, .junk, .junk, .junk, .junk, .junk, .junk, .junk], apT1 (ordTo2 n l k j)⟩) ?_ (by simp [sub, slotsLe, clean, keep, refsL, refs, once, place, renL, ren, List.replicate, int, bool, h2z, hA, row, apO, apT1, ints, hl, hRl]) ?_ ?_ ?_
      · omega
      · trivial
      · intro j hj _ hwj
        have hs := h2s j hj
        have hc := hcc2 j hj
        have hl2 := h2l (j + 1) (by omega)
        have hr := hRrow _ (List.getElem_mem hj)
        have hf := hRf _ (List.getElem_mem hj)
        have hxg : l[k]?.getD 0 = l[k] := by rw [List.getElem?_eq_getElem hkl]; rfl
        generalize hrj : R[j] = r at *
        have hl3 := h2l j (by omega)
        rcases hf with hf | hf
        all_goals rw [hf] at hc hs hr hrj
        all_goals simp only [List.map_nil] at hc hs hr hrj
        all_goals rcases hB : ordTo2 n l k j with _ | ⟨r1, B⟩
        · simp (config := {contextual := true}) [List.range, List.range.loop, ints, intss, int, bool, row, frac, fracs, ← List.map_take, ← List.map_drop, List.all, hj, hwj, hs, hc, hr, apO, apT1, hB, hxg, hrj]
          done
        · have hl4 : B.length ≤ 4611686018427387902 ∧ (B.length + 1 + 1) * 24 ≤ 140737488355328 := by rw [hB, List.length_cons] at hl3; omega
          simp (config := {contextual := true}) [List.range, List.range.loop, ints, intss, int, bool, row, frac, fracs, ← List.map_take, ← List.map_drop, List.all, hj, hwj, hs, hc, hr, apO, apT1, hB, hxg, hrj, hl4]
          done
        · simp (config := {contextual := true}) [List.range, List.range.loop, ints, intss, int, bool, row, frac, fracs, ← List.map_take, ← List.map_drop, List.all, hj, hwj, hs, hc, hr, apO, apT1, hB, hxg, hrj]
          done
        · have hl4 : B.length ≤ 4611686018427387902 ∧ (B.length + 1 + 1) * 24 ≤ 140737488355328 := by rw [hB, List.length_cons] at hl3; omega
          simp (config := {contextual := true}) [List.range, List.range.loop, ints, intss, int, bool, row, frac, fracs, ← List.map_take, ← List.map_drop, List.all, hj, hwj, hs, hc, hr, apO, apT1, hB, hxg, hrj, hl4]
          done
      · intro _
        cases hD : ordTo n l (k + 1) <;> simp (config := {contextual := true}) [List.range, List.range.loop, ints, intss, int, bool, row, frac, fracs, ← List.map_take, ← List.map_drop, List.all, h2all, hD, hwk, apO, apT1]
        done
    | cons r0 A =>
      simp (config := {contextual := true}) [List.range, List.range.loop, ints, intss, int, bool, row, frac, fracs, ← List.map_take, ← List.map_drop, List.all, hk, hkl, hwk, hl, htd, htd2, htL, hcc, hoo, hlen, apO, apT1, hki, hk2, hk3]
      refine awp_range (live := [true, false, true, true, true, true, false, true, false, false, true, false, true, true, true, true, false, false, false, false, false, false, false, false, false, false, false, false, true, true, true, true]) (ctxH_ok eqOk hG hM hV hK) mixed [true, false, false, true, false, true, false, false, false, false, false, false, true, true, true, false, false, false, false, false, false, false, false, false, false, false, false, false, true, true, true] (R.length) (fun j => True) (fun j => ⟨[ints false l, .junk, .junk, apO (ordTo2 n l k j), .junk, int l[k], .junk, .junk, .junk, .junk, .junk, .junk, ints false l, int ((n : Int) + 1), int k, .junk, .junk, .junk, .junk, .junk, .junk, .junk, .junk, .junk, .junk, .junk, .junk, .junk, .sl false 1 (R.map row), int R.length, int j, .junk, .junk, .junk, .junk, .junk, .junk, .junk, .junk, .junk, .junk, .junk, .junk, .junk, .junk], apT1 (ordTo2 n l k j)⟩) ?_ (by simp [sub, slotsLe, clean, keep, refsL, refs, once, place, renL, ren, List.replicate, int, bool, h2z, hA, row, apO, apT1, ints, hl, hRl]) ?_ ?_ ?_
      · omega
      · trivial
      · intro j hj _ hwj
        have hs := h2s j hj
        have hc := hcc2 j hj
        have hl2 := h2l (j + 1) (by omega)
        have hr := hRrow _ (List.getElem_mem hj)
        have hf := hRf _ (List.getElem_mem hj)
        have hxg : l[k]?.getD 0 = l[k] := by rw [List.getElem?_eq_getElem hkl]; rfl
        generalize hrj : R[j] = r at *
        have hl3 := h2l j (by omega)
        rcases hf with hf | hf
        all_goals rw [hf] at hc hs hr hrj
        all_goals simp only [List.map_nil] at hc hs hr hrj
        all_goals rcases hB : ordTo2 n l k j with _ | ⟨r1, B⟩
        · simp (config := {contextual := true}) [List.range, List.range.loop, ints, intss, int, bool, row, frac, fracs, ← List.map_take, ← List.map_drop, List.all, hj, hwj, hs, hc, hr, apO, apT1, hB, hxg, hrj]
          done
        · have hl4 : B.length ≤ 4611686018427387902 ∧ (B.length + 1 + 1) * 24 ≤ 140737488355328 := by rw [hB, List.length_cons] at hl3; omega
          simp (config := {contextual := true}) [List.range, List.range.loop, ints, intss, int, bool, row, frac, fracs, ← List.map_take, ← List.map_drop, List.all, hj, hwj, hs, hc, hr, apO, apT1, hB, hxg, hrj, hl4]
          done
        · simp (config := {contextual := true}) [List.range, List.range.loop, ints, intss, int, bool, row, frac, fracs, ← List.map_take, ← List.map_drop, List.all, hj, hwj, hs, hc, hr, apO, apT1, hB, hxg, hrj]
          done
        · have hl4 : B.length ≤ 4611686018427387902 ∧ (B.length + 1 + 1) * 24 ≤ 140737488355328 := by rw [hB, List.length_cons] at hl3; omega
          simp (config := {contextual := true}) [List.range, List.range.loop, ints, intss, int, bool, row, frac, fracs, ← List.map_take, ← List.map_drop, List.all, hj, hwj, hs, hc, hr, apO, apT1, hB, hxg, hrj, hl4]
          done
      · intro _
        cases hD : ordTo n l (k + 1) <;> simp (config := {contextual := true}) [List.range, List.range.loop, ints, intss, int, bool, row, frac, fracs, ← List.map_take, ← List.map_drop, List.all, h2all, hD, hwk, apO, apT1]
        done
  · intro _
    cases hA : ordTo n l (n + 1) with
    | nil =>
      have := ordTo_len (n := n) (l := l) (fun l' h => ordR_len h) hl (k := n + 1) (by omega)
      have h0 : 0 < fact n := fact_pos
      rw [hA] at this
      have h1 := Nat.mul_pos (Nat.succ_pos n) h0
      simp only [List.length_nil] at this
      have h2 : (n + 1) * fact n = n.succ * fact n := rfl
      omega
    | cons r0 A =>
      simp (config := {contextual := true}) [List.range, List.range.loop, ints, intss, int, bool, row, frac, fracs, ← List.map_take, ← List.map_drop, List.all, hl, apO, apT1, hA]
      done
end Go.Proofs.YtkfmhpgnhkdebaaGreatDoor.Ax
namespace Go.Proofs.YtkfmhpgnhkdebaaGreatDoor.Ax
open Go Go.RowKit
set_option linter.unusedSimpArgs false
theorem fracOk_whole {k : Int} (h : 1 ≤ k ∧ k ≤ 1000000000) : fracOk (k, 1) = true := by
  simp [fracOk]; omega
noncomputable def mDivK : List AV → Option AV := mk (fun p => fracOk (p.1, p.2.1) = true ∧ p.2.2.2 = 1 ∧ 1 ≤ p.2.2.1 ∧ p.2.2.1 ≤ 1000) (fun (p : (Int) × (Int) × (Int) × (Int)) => [frac (p.1, p.2.1), frac (p.2.2.1, p.2.2.2)]) (fun p => .tup [.agg [.v (.int .i64 (mkF p.1 (p.2.1 * p.2.2.1)).1.1), .v (.int .i64 (mkF p.1 (p.2.1 * p.2.2.1)).1.2)], .v (.bool (mkF p.1 (p.2.1 * p.2.2.1)).2)])
theorem mDivK_at (a : Int) (b : Int) (k : Int) (d : Int) (hpre : fracOk (a, b) = true ∧ d = 1 ∧ 1 ≤ k ∧ k ≤ 1000) : mDivK [.agg [.v (.int .i64 a), .v (.int .i64 b)], .agg [.v (.int .i64 k), .v (.int .i64 d)]] = some (.tup [.agg [.v (.int .i64 (mkF a (b * k)).1.1), .v (.int .i64 (mkF a (b * k)).1.2)], .v (.bool (mkF a (b * k)).2)]) :=
  mk_eq (enc := fun (p : (Int) × (Int) × (Int) × (Int)) => [frac (p.1, p.2.1), frac (p.2.2.1, p.2.2.2)]) (x := (a, b, k, d)) (by rintro ⟨a0, a1, a2, a3⟩ ⟨b0, b1, b2, b3⟩ h; simp [ints, intss, int, bool, row, frac, fracs, map_int_inj, map_row_inj, frac_inj, map_frac_inj] at h; simp [h]) hpre
set_option maxHeartbeats 2000000 in
theorem implDivK_ok : FnOk Tryz.prog 173 mDivK := by
  refine mk_ok fun ⟨a, b, k, d⟩ hp => ?_
  obtain ⟨h1, hd, hk1, hk2⟩ := hp
  simp only at h1 hd hk1 hk2
  subst hd
  have h2 := fracOk_whole (k := k) ⟨hk1, by omega⟩
  have b1 := fracOk_bd h1
  simp only at b1
  have m3 := mul_bd (x := b) (y := k) (m := 1000000000) (n := 1000) (by omega) (by omega) (by omega) (by omega)
  have p3 := mul_pos1 (x := b) (y := k) (by omega) (by omega)
  have w1 : IntKind.i64.wrap a = a := wrapI (by omega) (by omega)
  have w3 : IntKind.i64.wrap (b * k) = b * k := wrapI (by omega) (by omega)
  have hz := mMk_at a (b * k) ⟨by omega, by omega, by omega, by omega⟩
  have hz2 := mRed_at a (b * k) ⟨by omega, by omega, by omega, by omega, by omega⟩
  have hrr : redF a (b * k) = mkF a (b * k) := by unfold redF; rw [if_neg (by omega)]
  rw [hrr] at hz2
  have n1 : ¬ k = 0 := by omega
  have n2 : ¬ k < 0 := by omega
  have hG : FnsOk Tryz.prog [(111, mFracOk), (93, mRed)] := (.cons implFractionOk_ok (.cons reduced_ok .nil))
  refine callOk_awp (ctx_ok eqOk hG) mixed (live := [true, true, true, true, true, true, false, false, false, false, false, false, false, false, false, false, false, false, true]) (dt := []) Tryz.func173 rfl (by kernel_rfl) (by kernel_rfl) fun w0 hlens => ?_
  simp (config := {contextual := true}) [Tryz.f173, List.range, List.range.loop, ints, intss, int, bool, row, frac, fracs, ← List.map_take, ← List.map_drop, mFracOk_at, mTwo_at, h1, h2, w1, w3, hz, hz2, n1, n2]
def lesF (x y : Int × Int) : Int × Int := if cmpF y x < 0 then y else x
end Go.Proofs.YtkfmhpgnhkdebaaGreatDoor.Ax
namespace Go.Proofs.YtkfmhpgnhkdebaaGreatDoor.Ax
open Go Go.RowKit
set_option linter.unusedSimpArgs false
def repF (x : Int × Int) (n m : Nat) : List AV := List.replicate m (frac x) ++ List.replicate (n - m) (frac (0, 0))
theorem repF_len {x : Int × Int} {n m : Nat} (h : m ≤ n) : (repF x n m).length = n := by simp [repF]; omega
theorem repF_scal {x : Int × Int} {n m : Nat} : allS (repF x n m) = true := by
  rw [allS, List.all_eq_true]
  intro e he
  simp only [repF, List.mem_append, List.mem_replicate] at he
  rcases he with ⟨_, rfl⟩ | ⟨_, rfl⟩ <;> rfl
theorem repF_step {x : Int × Int} {n m k : Nat} (hk : k ≤ m) : (repF x n m).take m ++ (viewEs (repF x n m) 0 m).take k ++ (repF x n m).drop (m + k) = repF x n (m + k) := by
  have e1 : (repF x n m).take m = List.replicate m (frac x) := by simp [repF]
  have e2 : viewEs (repF x n m) 0 m = List.replicate m (frac x) := by simp [viewEs, e1]
  have e3 : (repF x n m).drop (m + k) = List.replicate (n - (m + k)) (frac (0, 0)) := by
    simp [repF, List.drop_append]; omega
  rw [e1, e2, e3, List.take_replicate, Nat.min_eq_left hk]
  simp [repF, List.replicate_append_replicate]
noncomputable def mRepeatF : List AV → Option AV := mk (fun p => p.2.2 ≤ 1000) (fun (p : Bool × (Int × Int) × Nat) => [fracs p.1 [p.2.1], int (p.2.2 : Int)]) (fun p => fracs false (List.replicate p.2.2 p.2.1))
theorem mRepeatF_at (nl : Bool) (x : Int × Int) (n : Nat) (h : n ≤ 1000) : mRepeatF [.sl nl 2 [.agg [.v (.int .i64 x.1), .v (.int .i64 x.2)]], .v (.int .i64 (n : Int))] = some (.sl false 2 ((List.replicate n x).map frac)) :=
  mk_eq (enc := fun (p : Bool × (Int × Int) × Nat) => [fracs p.1 [p.2.1], int (p.2.2 : Int)]) (x := (nl, x, n)) (by
    rintro ⟨a, b, c⟩ ⟨d, e, f⟩ h
    simp [fracs, int, frac_inj] at h
    obtain ⟨⟨_, rfl⟩, h⟩ := h
    simp only
    rw [show c = f by omega]) h
set_option maxHeartbeats 2000000 in
theorem repeatF_ok : FnOk Tryz.prog 171 mRepeatF := by
  refine mk_ok fun ⟨nl, x, n⟩ hn => ?_
  simp only at hn
  have hG : FnsOk Tryz.prog [(230, mMul)] := (.cons mul_ok .nil)
  refine callOk_awp (ctx_ok eqOk hG) mixed (live := [true, true, false, false, true, true, true, true, true, false, true, false, false, false, false, false, false, false, false, false, false, false, false, false, false, false, true, false, false, false, false, false, false, false, false, false, false, true]) (dt := [(9, ⟨[], [], []⟩)]) Tryz.func171 rfl (by kernel_rfl) (by kernel_rfl) fun w0 hlens => ?_
  clear hlens
  have hw1 : IntKind.u64.wrap (n : Int) = (n : Int) := by rw [IntKind.wrap_u64]; omega
  have hw0 : IntKind.u64.wrap 1 = 1 := by decide
  have hn0 : ¬ ((n : Int) < 0) := by omega
  have hn1 : ¬ ((9223372036854775807 : Int) < (n : Int)) := by omega
  have hb : 16 * n ≤ 281474976710656 := by omega
  have hb2 : n ≤ 4611686018427387904 := by omega
  have hw2 : IntKind.i64.wrap (n : Int) = (n : Int) := wrapI (by omega) (by omega)
  have hd : (1 * n / 18446744073709551616) = 0 := by omega
  have he : (1 * n % 18446744073709551616) = n := by omega
  have hm : mMul [.v (.int .u64 1), .v (.int .u64 (n : Int))] = some (.tup [.v (.int .u64 0), .v (.int .u64 (n : Int))]) := by
    have := mMul_at 1 n (by omega)
    rw [hd, he] at this; exact this
  have h0e : AV.agg [.v (.int .i64 0), .v (.int .i64 0)] = frac (0, 0) := rfl
  have hsx : allS [AV.agg [.v (.int .i64 x.1), .v (.int .i64 x.2)]] = true := rfl
  have hs0 : allS (List.replicate n (AV.agg [.v (.int .i64 0), .v (.int .i64 0)])) = true := by
    rw [allS, List.all_eq_true]
    intro e he
    rw [(List.mem_replicate.1 he).2]; rfl
  simp (config := {contextual := true}) [Tryz.f171, List.range, List.range.loop, ints, intss, int, bool, row, frac, fracs, ← List.map_take, ← List.map_drop, hw0, hw1, hw2, hn0, hn1, hb, hb2, hm, hn, hsx, hs0]
  refine awp_loop_of (live := [true, true, false, false, true, true, true, true, true, false, true, false, false, false, false, false, false, false, false, false, false, false, false, false, false, false, true, false, false, false, false, false, false, false, false, false, false, true]) (ctx_ok eqOk hG) mixed [false, false, false, false, false, false, false, true, true] (α := {m : Nat // m ≤ n ∧ (0 < n → 0 < m)}) (fun m => ⟨[.junk, .junk, .junk, .junk, .junk, .junk, .junk, .ref 0 [] 0 n, int (m.1 : Int), .junk, .junk, .junk, .junk, .junk, .junk, .junk, .junk, .junk, .junk, .junk, .junk, .junk, .junk, .junk, .junk, .junk, .junk, .junk, .junk, .junk, .junk, .junk, .junk, .junk, .junk, .junk, .junk, .junk, .junk, .junk, .junk, .junk, .junk, .junk, .junk, .junk, .junk, .junk], [⟨true, .sl false 2 (repF x n m.1)⟩]⟩) (fun m => n - m.1) ⟨min 1 n, by omega⟩ (by simp [sub, slotsLe, clean, keep, refsL, refs, once, place, renL, ren, List.replicate, int, bool, repF, rep1, frac]) ?_
  rintro ⟨m, hmn, hm0⟩
  have hl := repF_len (x := x) hmn
  have hsc := repF_scal (x := x) (n := n) (m := m)
  have hst := repF_step (x := x) (n := n) (m := m) (k := min m (n - m)) (by omega)
  have hsc2 := allS_take (n := m) hsc
  simp only [viewEs, List.drop_zero, List.append_assoc] at hst
  have hwm : IntKind.i64.wrap ((m : Int) + ((min m (n - m) : Nat) : Int)) = ((m + min m (n - m) : Nat) : Int) := by rw [wrapI (by omega) (by omega)]; omega
  simp (config := {contextual := true}) [List.range, List.range.loop, ints, intss, int, bool, row, frac, fracs, ← List.map_take, ← List.map_drop, hl, hsc, hsc2, hmn]
  refine ⟨fun hlt => ⟨⟨m + min m (n - m), by omega⟩, ?_, ?_⟩, fun hle => ?_⟩
  · simp only [hst, hwm]
    simp [sub, slotsLe, clean, keep, refsL, refs, once, place, renL, ren, List.replicate, int, bool]
  · have := hm0 (by omega)
    simp only []
    omega
  · have : m = n := by omega
    subst this
    simp [repF, frac]
end Go.Proofs.YtkfmhpgnhkdebaaGreatDoor.Ax
