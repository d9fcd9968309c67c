/-
  Contracts: indices, all orders (the program). No condition.
-/
import Derived.Test.YtkfgmpmeipilnaaCG1
import Derived.Test.YtkfgmpmeipilnaaCB2
import Derived.Test.YtkfgmpmeipilnaaCB3
namespace Go.Proofs.Ytkfgmpmeipilnaa.Ax
open Go Go.RowKit
set_option linter.unusedSimpArgs false

/-- 0, 1, .. -/
def idx (n : Nat) : List Int := (List.range n).map fun (i : Nat) => (i : Int)
def idxTo (n k : Nat) : List Int := idx k ++ List.replicate (n - k) 0
theorem idx_len {n : Nat} : (idx n).length = n := by simp [idx]
theorem idxTo_len {n k : Nat} (h : k ≤ n) : (idxTo n k).length = n := by simp [idxTo, idx_len]; omega
theorem idxTo_set {n k : Nat} (h : k < n) : (idxTo n k).set k (k : Int) = idxTo n (k + 1) := by
  unfold idxTo
  rw [List.set_append_right _ _ (by simp [idx_len]), idx_len, Nat.sub_self, show n - k = (n - (k + 1)) + 1 by omega, List.replicate_succ, List.set_cons_zero]
  simp [idx, List.range_succ]
theorem idxTo_all {n : Nat} : idxTo n n = idx n := by simp [idxTo]

noncomputable def mIdx : List AV → Option AV := mk (fun p => p ≤ 1000) (fun (p : Nat) => [int (p : Int)]) (fun p => ints false (idx p))
theorem mIdx_at (n : Nat) (h : n ≤ 1000) : mIdx [.v (.int .i64 (n : Int))] = some (.sl false 1 ((idx n).map int)) :=
  mk_eq (enc := fun (p : Nat) => [int (p : Int)]) (x := n) (by intro a b h; simp [int] at h; exact (by omega : a = b) ▸ rfl) h

set_option maxHeartbeats 1000000 in
theorem indices_ok : FnOk Try.prog 119 mIdx := by
  refine mk_ok fun n hn => ?_
  have hG : FnsOk Try.prog [] := .nil
  refine callOk_awp (ctx_ok eqOk hG) mixed (live := [true, false, true, true, true, false, false, false, true, true, true]) (dt := []) Try.func119 rfl (by kernel_rfl) (by kernel_rfl) fun w0 hlens => ?_
  clear hlens
  have h1 : 8 * n ≤ 281474976710656 := by omega
  have h2 : n ≤ 4611686018427387904 := by omega
  simp (config := {contextual := true}) [Try.f119, List.range, List.range.loop, ints, intss, int, bool, row, frac, fracs, ← List.map_take, ← List.map_drop, h1, h2]
  refine awp_range (live := [true, false, true, true, true, false, false, false, true, true, true]) (ctx_ok eqOk hG) mixed [false, false, false, true, false, false, false, false, true, true] (n) (fun k => True) (fun k => ⟨[.junk, .junk, .junk, .ref 0 [] 0 n, .junk, .junk, .junk, .junk, int n, int k, .junk, .junk, .junk, .junk, .junk, .junk, .junk, .junk], [⟨true, .sl false 1 ((idxTo n k).map int)⟩]⟩) ?_ (by simp [sub, slotsLe, clean, keep, refsL, refs, once, place, renL, ren, List.replicate, int, bool, idxTo, idx]) ?_ ?_ ?_
  · omega
  · trivial
  · intro k hk _ hwk
    have hl := idxTo_len (n := n) (k := k) (by omega)
    have hs := idxTo_set hk
    have hl2 := idxTo_len (n := n) (k := k + 1) (by omega)
    have hs' : ((idxTo n k).map int).set k (.v (.int .i64 (k : Int))) = (idxTo n (k + 1)).map int := by rw [← hs, List.map_set]; rfl
    simp (config := {contextual := true}) [List.range, List.range.loop, ints, intss, int, bool, row, frac, fracs, ← List.map_take, ← List.map_drop, hk, hwk, hl, hl2, hs', -List.map_set]
    done
  · intro _
    have hl := idxTo_len (n := n) (k := n) (by omega)
    rw [idxTo_all] at hl
    simp (config := {contextual := true}) [List.range, List.range.loop, ints, intss, int, bool, row, frac, fracs, ← List.map_take, ← List.map_drop, hl, idxTo_all]
    done

/-- All orders of a list. -/
def ordR : Nat → List Int → List (Bool × List Int)
  | 0, _ => [(true, [])]
  | n + 1, l => (List.range l.length).flatMap fun i => (ordR n (l.take i ++ l.drop (i + 1))).map fun r => (false, l.getD i 0 :: r.2)

/-- Those that begin with one of the first k, and j more. -/
def ordTo (n : Nat) (l : List Int) (k : Nat) : List (Bool × List Int) := (List.range k).flatMap fun i => (ordR n (l.take i ++ l.drop (i + 1))).map fun r => (false, l.getD i 0 :: r.2)
def ordTo2 (n : Nat) (l : List Int) (k j : Nat) : List (Bool × List Int) := ordTo n l k ++ ((ordR n (l.take k ++ l.drop (k + 1))).take j).map fun r => (false, l.getD k 0 :: r.2)
theorem ordTo2_zero {n : Nat} {l : List Int} {k : Nat} : ordTo2 n l k 0 = ordTo n l k := by simp [ordTo2]
theorem ordTo2_all {n : Nat} {l : List Int} {k : Nat} : ordTo2 n l k (ordR n (l.take k ++ l.drop (k + 1))).length = ordTo n l (k + 1) := by
  simp [ordTo2, ordTo, List.range_succ]
theorem ordTo2_succ {n : Nat} {l : List Int} {k j : Nat} (h : j < (ordR n (l.take k ++ l.drop (k + 1))).length) : ordTo2 n l k (j + 1) = ordTo2 n l k j ++ [(false, l.getD k 0 :: (ordR n (l.take k ++ l.drop (k + 1)))[j].2)] := by
  unfold ordTo2
  rw [List.take_succ_eq_append_getElem h, List.map_append, ← List.append_assoc]; rfl
theorem ordR_succ {n : Nat} {l : List Int} : ordR (n + 1) l = ordTo n l l.length := rfl
theorem ordR_row : ∀ {n : Nat} {l : List Int}, l.length = n → ∀ r ∈ ordR n l, r.2.length = n
  | 0, l, _, r, hr => by simp [ordR] at hr; subst hr; rfl
  | n + 1, l, hl, r, hr => by
    simp only [ordR, List.mem_flatMap, List.mem_map, List.mem_range] at hr
    obtain ⟨i, hi, r', hr', rfl⟩ := hr
    have := ordR_row (n := n) (l := l.take i ++ l.drop (i + 1)) (by simp; omega) r' hr'
    simp [this]
theorem ordR_flag : ∀ {n : Nat} {l : List Int}, ∀ r ∈ ordR n l, r = (true, []) ∨ r = (false, r.2)
  | 0, _, r, hr => by simp [ordR] at hr; exact Or.inl hr
  | n + 1, l, r, hr => by
    simp only [ordR, List.mem_flatMap, List.mem_map, List.mem_range] at hr
    obtain ⟨i, hi, r', hr', rfl⟩ := hr
    exact Or.inr rfl
def fact : Nat → Nat
  | 0 => 1
  | n + 1 => (n + 1) * fact n
theorem ordTo_len {n : Nat} {l : List Int} (ih : ∀ l' : List Int, l'.length = n → (ordR n l').length = fact n) (hl : l.length = n + 1) : ∀ {k : Nat}, k ≤ n + 1 → (ordTo n l k).length = k * fact n
  | 0, _ => by simp [ordTo]
  | k + 1, hk => by
    have := ordTo_len ih hl (k := k) (by omega)
    rw [← ordTo2_all]
    unfold ordTo2
    rw [List.length_append, this, List.length_map, List.take_length, ih _ (by simp; omega), Nat.add_mul]
    omega
theorem ordR_len : ∀ {n : Nat} {l : List Int}, l.length = n → (ordR n l).length = fact n
  | 0, l, _ => rfl
  | n + 1, l, hl => by
    rw [ordR_succ, hl]
    exact ordTo_len (fun l' h => ordR_len h) hl (Nat.le_refl _)

noncomputable def mOrd (n : Nat) : List AV → Option AV := mk (fun p => p.2.length = n ∧ n ≤ 5 ∧ (p.1 = true → n = 0)) (fun (p : Bool × List Int) => [ints p.1 p.2]) (fun p => .sl false 1 ((ordR n p.2).map row))
theorem mOrd_at (n : Nat) (nl : Bool) (l : List Int) (h : l.length = n ∧ n ≤ 5 ∧ (nl = true → n = 0)) : mOrd n [.sl nl 1 (l.map int)] = some (.sl false 1 ((ordR n l).map row)) :=
  mk_eq (enc := fun (p : Bool × List Int) => [ints p.1 p.2]) (x := (nl, l)) (by rintro ⟨a, b⟩ ⟨c, d⟩ h; simp [ints, map_int_inj] at h; simp [h]) h

theorem orders_zero : (FnOk Try.prog 118 (mOrd 0)) := by
  refine mk_ok fun ⟨nl, l⟩ ⟨hl, _⟩ => ?_
  simp only at hl
  have hG : FnsOk Try.prog [(144, mConcat)] := (.cons concatI_ok .nil)
  refine callOk_awp (ctx_ok eqOk hG) mixed (live := [true, false, true, true, true, true, false, true, false, false, true, false, true, true, true, true, false, false, false, false, false, false, false, false, false, false, false, false, true, true, true, true]) (dt := [(7, ⟨[], [0, 0, 0, 0, 0, 0, 0, 1, 1, 1], []⟩)]) Try.func118 rfl (by kernel_rfl) (by kernel_rfl) fun w0 hlens => ?_
  clear hlens
  have hl0 : l = [] := List.length_eq_zero_iff.1 hl
  subst hl0
  simp (config := {contextual := true}) [Try.f118, List.range, List.range.loop, ints, intss, int, bool, row, frac, fracs, ← List.map_take, ← List.map_drop, ordR]

/-- The slot of the rows so far; the row. -/
def apO (R : List (Bool × List Int)) : AV := match R with
  | [] => .sl true 1 []
  | _ :: R => .ref 0 [] 0 (R.length + 1)
def apT1 (R : List (Bool × List Int)) : List Tok := match R with
  | [] => []
  | r :: R => [⟨true, .sl false 1 ((r :: R).map row)⟩]

theorem fact_pos : ∀ {n : Nat}, 0 < fact n
  | 0 => Nat.one_pos
  | n + 1 => Nat.mul_pos (Nat.succ_pos n) fact_pos
theorem fact_le : ∀ {n : Nat}, n ≤ 4 → fact n ≤ 24 := by decide

set_option maxHeartbeats 2000000 in
theorem orders_succ {n : Nat} (hn : n ≤ 4) (ih : FnOk Try.prog 118 (mOrd n)) : FnOk Try.prog 118 (mOrd (n + 1)) := by
  refine mk_ok fun ⟨nl, l⟩ ⟨hl, _, hnl⟩ => ?_
  simp only at hl hnl
  have hnl' : nl = false := by cases nl; rfl; exact absurd (hnl rfl) (by omega)
  subst hnl'
  clear hnl
  have hG : FnsOk Try.prog [(144, mConcat)] := (.cons concatI_ok .nil)
  have hM : FnsMut Try.prog [] := .nil
  have hV : FnsMov Try.prog [] := .nil
  have hK : FnsFrz Try.prog [(118, false, mOrd n)] := (.cons (FnOk.frz ih) .nil)
  refine callOk_awp (ctxH_ok eqOk hG hM hV hK) mixed (live := [true, false, true, true, true, true, false, true, false, false, true, false, true, true, true, true, false, false, false, false, false, false, false, false, false, false, false, false, true, true, true, true]) (dt := [(7, ⟨[], [0, 0, 0, 0, 0, 0, 0, 1, 1, 1], []⟩)]) Try.func118 rfl (by kernel_rfl) (by kernel_rfl) fun w0 hlens => ?_
  clear hlens
  have hl0 : ¬ ((l.length : Int) = 0) := by omega
  rw [ordR_succ, hl]
  have hf := fact_le hn
  simp (config := {contextual := true}) [Try.f118, List.range, List.range.loop, ints, intss, int, bool, row, frac, fracs, ← List.map_take, ← List.map_drop, List.all, hl0, hl]
  refine awp_range (live := [true, false, true, true, true, true, false, true, false, false, true, false, true, true, true, true, false, false, false, false, false, false, false, false, false, false, false, false, true, true, true, true]) (ctxH_ok eqOk hG hM hV hK) mixed [true, false, false, true, false, false, false, false, false, false, false, false, true, true, true] (n + 1) (fun k => True) (fun k => ⟨[ints false l, .junk, .junk, apO (ordTo n l k), .junk, .junk, .junk, .junk, .junk, .junk, .junk, .junk, ints false l, int ((n : Int) + 1), int k, .junk, .junk, .junk, .junk, .junk, .junk, .junk, .junk, .junk, .junk, .junk, .junk, .junk, .junk, .junk, .junk, .junk, .junk, .junk, .junk, .junk, .junk, .junk, .junk, .junk, .junk, .junk, .junk, .junk, .junk], apT1 (ordTo n l k)⟩) ?_ (by simp [sub, slotsLe, clean, keep, refsL, refs, once, place, renL, ren, List.replicate, int, bool, ordTo, apO, apT1, ints, hl]) ?_ ?_ ?_
  · omega
  · trivial
  · intro k hk _ hwk
    have hkl : k < l.length := by omega
    have hx : l.getD k 0 = l[k] := getD_at hkl
    have hlen : (l.take k ++ l.drop (k + 1)).length = n := by simp; omega
    have htd : List.take (n + 1 - (k + 1)) (List.drop (k + 1) l) = List.drop (k + 1) l := List.take_of_length_le (by simp; omega)
    have htd2 : List.take (n - k) (List.drop (k + 1) l) = List.drop (k + 1) l := List.take_of_length_le (by simp; omega)
    have hcc := mConcat_at false [(false, l.take k), (false, l.drop (k + 1))] ⟨by simp, by simp [cat]; omega⟩
    simp only [List.map_cons, List.map_nil, row, cat, List.flatMap_cons, List.flatMap_nil, List.append_nil] at hcc
    have hoo := mOrd_at n (decide (l.take k ++ l.drop (k + 1) = [])) (l.take k ++ l.drop (k + 1)) ⟨hlen, by omega, fun h => by simpa [hlen] using congrArg List.length (of_decide_eq_true h)⟩
    have h2all := ordTo2_all (n := n) (l := l) (k := k)
    have h2z := ordTo2_zero (n := n) (l := l) (k := k)
    have h2s := fun j => ordTo2_succ (n := n) (l := l) (k := k) (j := j)
    have hRrow := ordR_row hlen
    have hRl := ordR_len hlen
    have hRf := ordR_flag (n := n) (l := l.take k ++ l.drop (k + 1))
    have hAl := ordTo_len (n := n) (l := l) (fun l' h => ordR_len h) hl (k := k) (by omega)
    have h2l : ∀ j, j ≤ (ordR n (l.take k ++ l.drop (k + 1))).length → (ordTo2 n l k j).length ≤ 120 := fun j hj => by
      simp only [ordTo2, List.length_append, List.length_map, List.length_take, hAl]
      have := Nat.mul_le_mul (show k ≤ 4 by omega) hf
      omega
    have hk2 : k ≤ n + 1 := by omega
    have hk3 : k ≤ n := by omega
    have hki : (k : Int) < (n : Int) + 1 := by omega
    have hinit : ∀ (P : Bool), apO (ordTo2 n l k 0) = apO (ordTo n l k) := fun _ => by rw [h2z]
    generalize hLL : l.take k ++ l.drop (k + 1) = L at *
    have htL : List.take n L = L := List.take_of_length_le (by omega)
    generalize decide (L = []) = b at *
    generalize hRR : ordR n L = R at *
    have hgo : ∀ A0 : List (Bool × List Int), ordTo n l k = A0 → ordTo n l k = A0 := fun _ h => h
    have hcc2 := fun (j : Nat) (h : j < R.length) => mConcat_at false [(false, [l[k]]), R[j]] ⟨by simp, by simp [cat]; have := hRrow _ (List.getElem_mem h); omega⟩
    simp only [List.map_cons, List.map_nil, row, cat, List.flatMap_cons, List.flatMap_nil, List.append_nil, List.cons_append, List.nil_append, int] at hcc2
    cases hA : ordTo n l k with
    | nil =>
      simp (config := {contextual := true}) [List.range, List.range.loop, ints, intss, int, bool, row, frac, fracs, ← List.map_take, ← List.map_drop, List.all, hk, hkl, hwk, hl, htd, htd2, htL, hcc, hoo, hlen, apO, apT1, hki, hk2, hk3]
      refine awp_range (live := [true, false, true, true, true, true, false, true, false, false, true, false, true, true, true, true, false, false, false, false, false, false, false, false, false, false, false, false, true, true, true, true]) (ctxH_ok eqOk hG hM hV hK) mixed [true, false, false, true, false, true, false, false, false, false, false, false, true, true, true, false, false, false, false, false, false, false, false, false, false, false, false, false, true, true, true] (R.length) (fun j => True) (fun j => ⟨[ints false l, .junk, .junk, apO (ordTo2 n l k j), .junk, int l[k], .junk, .junk, .junk, .junk, .junk, .junk, ints false l, int ((n : Int) + 1), int k, .junk, .junk, .junk, .junk, .junk, .junk, .junk, .junk, .junk, .junk, .junk, .junk, .junk, .sl false 1 (R.map row), int R.length, int j, .junk, .junk, .junk, .junk, .junk, .junk, .junk, .junk, .junk, .junk, .junk, .junk, .junk, .junk], apT1 (ordTo2 n l k j)⟩) ?_ (by simp [sub, slotsLe, clean, keep, refsL, refs, once, place, renL, ren, List.replicate, int, bool, h2z, hA, row, apO, apT1, ints, hl, hRl]) ?_ ?_ ?_
      · omega
      · trivial
      · intro j hj _ hwj
        have hs := h2s j hj
        have hc := hcc2 j hj
        have hl2 := h2l (j + 1) (by omega)
        have hr := hRrow _ (List.getElem_mem hj)
        have hf := hRf _ (List.getElem_mem hj)
        have hxg : l[k]?.getD 0 = l[k] := by rw [List.getElem?_eq_getElem hkl]; rfl
        generalize hrj : R[j] = r at *
        have hl3 := h2l j (by omega)
        rcases hf with hf | hf
        all_goals rw [hf] at hc hs hr hrj
        all_goals simp only [List.map_nil] at hc hs hr hrj
        all_goals rcases hB : ordTo2 n l k j with _ | ⟨r1, B⟩
        · simp (config := {contextual := true}) [List.range, List.range.loop, ints, intss, int, bool, row, frac, fracs, ← List.map_take, ← List.map_drop, List.all, hj, hwj, hs, hc, hr, apO, apT1, hB, hxg, hrj]
          done
        · have hl4 : B.length ≤ 4611686018427387902 ∧ (B.length + 1 + 1) * 24 ≤ 140737488355328 := by rw [hB, List.length_cons] at hl3; omega
          simp (config := {contextual := true}) [List.range, List.range.loop, ints, intss, int, bool, row, frac, fracs, ← List.map_take, ← List.map_drop, List.all, hj, hwj, hs, hc, hr, apO, apT1, hB, hxg, hrj, hl4]
          done
        · simp (config := {contextual := true}) [List.range, List.range.loop, ints, intss, int, bool, row, frac, fracs, ← List.map_take, ← List.map_drop, List.all, hj, hwj, hs, hc, hr, apO, apT1, hB, hxg, hrj]
          done
        · have hl4 : B.length ≤ 4611686018427387902 ∧ (B.length + 1 + 1) * 24 ≤ 140737488355328 := by rw [hB, List.length_cons] at hl3; omega
          simp (config := {contextual := true}) [List.range, List.range.loop, ints, intss, int, bool, row, frac, fracs, ← List.map_take, ← List.map_drop, List.all, hj, hwj, hs, hc, hr, apO, apT1, hB, hxg, hrj, hl4]
          done
      · intro _
        cases hD : ordTo n l (k + 1) <;> simp (config := {contextual := true}) [List.range, List.range.loop, ints, intss, int, bool, row, frac, fracs, ← List.map_take, ← List.map_drop, List.all, h2all, hD, hwk, apO, apT1]
        done
    | cons r0 A =>
      simp (config := {contextual := true}) [List.range, List.range.loop, ints, intss, int, bool, row, frac, fracs, ← List.map_take, ← List.map_drop, List.all, hk, hkl, hwk, hl, htd, htd2, htL, hcc, hoo, hlen, apO, apT1, hki, hk2, hk3]
      refine awp_range (live := [true, false, true, true, true, true, false, true, false, false, true, false, true, true, true, true, false, false, false, false, false, false, false, false, false, false, false, false, true, true, true, true]) (ctxH_ok eqOk hG hM hV hK) mixed [true, false, false, true, false, true, false, false, false, false, false, false, true, true, true, false, false, false, false, false, false, false, false, false, false, false, false, false, true, true, true] (R.length) (fun j => True) (fun j => ⟨[ints false l, .junk, .junk, apO (ordTo2 n l k j), .junk, int l[k], .junk, .junk, .junk, .junk, .junk, .junk, ints false l, int ((n : Int) + 1), int k, .junk, .junk, .junk, .junk, .junk, .junk, .junk, .junk, .junk, .junk, .junk, .junk, .junk, .sl false 1 (R.map row), int R.length, int j, .junk, .junk, .junk, .junk, .junk, .junk, .junk, .junk, .junk, .junk, .junk, .junk, .junk, .junk], apT1 (ordTo2 n l k j)⟩) ?_ (by simp [sub, slotsLe, clean, keep, refsL, refs, once, place, renL, ren, List.replicate, int, bool, h2z, hA, row, apO, apT1, ints, hl, hRl]) ?_ ?_ ?_
      · omega
      · trivial
      · intro j hj _ hwj
        have hs := h2s j hj
        have hc := hcc2 j hj
        have hl2 := h2l (j + 1) (by omega)
        have hr := hRrow _ (List.getElem_mem hj)
        have hf := hRf _ (List.getElem_mem hj)
        have hxg : l[k]?.getD 0 = l[k] := by rw [List.getElem?_eq_getElem hkl]; rfl
        generalize hrj : R[j] = r at *
        have hl3 := h2l j (by omega)
        rcases hf with hf | hf
        all_goals rw [hf] at hc hs hr hrj
        all_goals simp only [List.map_nil] at hc hs hr hrj
        all_goals rcases hB : ordTo2 n l k j with _ | ⟨r1, B⟩
        · simp (config := {contextual := true}) [List.range, List.range.loop, ints, intss, int, bool, row, frac, fracs, ← List.map_take, ← List.map_drop, List.all, hj, hwj, hs, hc, hr, apO, apT1, hB, hxg, hrj]
          done
        · have hl4 : B.length ≤ 4611686018427387902 ∧ (B.length + 1 + 1) * 24 ≤ 140737488355328 := by rw [hB, List.length_cons] at hl3; omega
          simp (config := {contextual := true}) [List.range, List.range.loop, ints, intss, int, bool, row, frac, fracs, ← List.map_take, ← List.map_drop, List.all, hj, hwj, hs, hc, hr, apO, apT1, hB, hxg, hrj, hl4]
          done
        · simp (config := {contextual := true}) [List.range, List.range.loop, ints, intss, int, bool, row, frac, fracs, ← List.map_take, ← List.map_drop, List.all, hj, hwj, hs, hc, hr, apO, apT1, hB, hxg, hrj]
          done
        · have hl4 : B.length ≤ 4611686018427387902 ∧ (B.length + 1 + 1) * 24 ≤ 140737488355328 := by rw [hB, List.length_cons] at hl3; omega
          simp (config := {contextual := true}) [List.range, List.range.loop, ints, intss, int, bool, row, frac, fracs, ← List.map_take, ← List.map_drop, List.all, hj, hwj, hs, hc, hr, apO, apT1, hB, hxg, hrj, hl4]
          done
      · intro _
        cases hD : ordTo n l (k + 1) <;> simp (config := {contextual := true}) [List.range, List.range.loop, ints, intss, int, bool, row, frac, fracs, ← List.map_take, ← List.map_drop, List.all, h2all, hD, hwk, apO, apT1]
        done
  · intro _
    cases hA : ordTo n l (n + 1) with
    | nil =>
      have := ordTo_len (n := n) (l := l) (fun l' h => ordR_len h) hl (k := n + 1) (by omega)
      have h0 : 0 < fact n := fact_pos
      rw [hA] at this
      have h1 := Nat.mul_pos (Nat.succ_pos n) h0
      simp only [List.length_nil] at this
      have h2 : (n + 1) * fact n = n.succ * fact n := rfl
      omega
    | cons r0 A =>
      simp (config := {contextual := true}) [List.range, List.range.loop, ints, intss, int, bool, row, frac, fracs, ← List.map_take, ← List.map_drop, List.all, hl, apO, apT1, hA]
      done

end Go.Proofs.Ytkfgmpmeipilnaa.Ax

/-
  Contracts: sums of fractions (both programs). No condition.
-/
namespace Go.Proofs.Ytkfgmpmeipilnaa.Ax
open Go Go.RowKit
set_option linter.unusedSimpArgs false

/-- A quotient in lowest terms, if it is valid (b: more than 0). -/
def mkF (t b : Int) : (Int × Int) × Bool := if fracOk (t.tdiv (Int.gcd t b), b.tdiv (Int.gcd t b)) = true then ((t.tdiv (Int.gcd t b), b.tdiv (Int.gcd t b)), true) else ((0, 0), false)
def redF (t b : Int) : (Int × Int) × Bool := if b < 0 then mkF (-t) (-b) else mkF t b

theorem tdiv_bd {x y m : Int} (h1 : -m ≤ x) (h2 : x ≤ m) : -m ≤ x.tdiv y ∧ x.tdiv y ≤ m := by
  have : (x.tdiv y).natAbs ≤ x.natAbs := by rw [Int.natAbs_tdiv]; exact Nat.div_le_self _ _
  omega
theorem gcd_bd {x y : Int} (h : y ≠ 0) : 0 < (Int.gcd x y : Int) ∧ (Int.gcd x y : Int) ≤ y.natAbs := by
  have h1 : 0 < Int.gcd x y := Int.gcd_pos_of_ne_zero_right _ h
  have h2 : Int.gcd x y ∣ y.natAbs := Nat.gcd_dvd_right _ _
  have := Nat.le_of_dvd (by omega) h2
  omega


noncomputable def mRed : List AV → Option AV := mk (fun p => -4611686018427387904 ≤ p.1 ∧ p.1 ≤ 4611686018427387904 ∧ -4611686018427387904 ≤ p.2 ∧ p.2 ≤ 4611686018427387904 ∧ p.2 ≠ 0) (fun (p : (Int) × (Int)) => [int p.1, int p.2]) (fun p => .tup [.agg [.v (.int .i64 (redF p.1 p.2).1.1), .v (.int .i64 (redF p.1 p.2).1.2)], .v (.bool (redF p.1 p.2).2)])
theorem mRed_at (t : Int) (b : Int) (hpre : -4611686018427387904 ≤ t ∧ t ≤ 4611686018427387904 ∧ -4611686018427387904 ≤ b ∧ b ≤ 4611686018427387904 ∧ b ≠ 0) : mRed [.v (.int .i64 t), .v (.int .i64 b)] = some (.tup [.agg [.v (.int .i64 (redF t b).1.1), .v (.int .i64 (redF t b).1.2)], .v (.bool (redF t b).2)]) :=
  mk_eq (enc := fun (p : (Int) × (Int)) => [int p.1, int p.2]) (x := (t, b)) (by rintro ⟨a0, a1⟩ ⟨b0, b1⟩ h; simp [ints, intss, int, bool, row, frac, fracs, map_int_inj, map_row_inj, frac_inj, map_frac_inj] at h; simp [h]) hpre

noncomputable def mMk : List AV → Option AV := mk (fun p => -4611686018427387904 ≤ p.1 ∧ p.1 ≤ 4611686018427387904 ∧ 0 < p.2 ∧ p.2 ≤ 4611686018427387904) (fun (p : (Int) × (Int)) => [int p.1, int p.2]) (fun p => .tup [.agg [.v (.int .i64 (mkF p.1 p.2).1.1), .v (.int .i64 (mkF p.1 p.2).1.2)], .v (.bool (mkF p.1 p.2).2)])
theorem mMk_at (t : Int) (b : Int) (hpre : -4611686018427387904 ≤ t ∧ t ≤ 4611686018427387904 ∧ 0 < b ∧ b ≤ 4611686018427387904) : mMk [.v (.int .i64 t), .v (.int .i64 b)] = some (.tup [.agg [.v (.int .i64 (mkF t b).1.1), .v (.int .i64 (mkF t b).1.2)], .v (.bool (mkF t b).2)]) :=
  mk_eq (enc := fun (p : (Int) × (Int)) => [int p.1, int p.2]) (x := (t, b)) (by rintro ⟨a0, a1⟩ ⟨b0, b1⟩ h; simp [ints, intss, int, bool, row, frac, fracs, map_int_inj, map_row_inj, frac_inj, map_frac_inj] at h; simp [h]) hpre

set_option maxHeartbeats 1000000 in
theorem reduced_ok : FnOk Try.prog 70 mRed := by
  refine mk_ok fun ⟨t, b⟩ ⟨h1, h2, h3, h4, h5⟩ => ?_
  simp only at h1 h2 h3 h4 h5
  obtain ⟨g1, g2⟩ := gcd_bd (x := t) h5
  have hg := mGcd_at (-4611686018427387904) t b h1 h2 h3 h4
  have hG : FnsOk Try.prog [(112, (mGcd (-4611686018427387904))), (63, mFracOk)] := (.cons gcd_ok (.cons implFractionOk_ok .nil))
  refine callOk_awp (ctx_ok eqOk hG) mixed (live := [true, true, false, false, true, true, true, true, false, false, false, false, true, false, false, false, false, false, false, false, false, false, false, false, true]) (dt := [(4, ⟨[], [0, 0, 0, 0, 0, 0, 0, 1], []⟩)]) Try.func70 rfl (by kernel_rfl) (by kernel_rfl) fun w0 hlens => ?_
  by_cases hb : b < 0
  · have hr : redF t b = mkF (-t) (-b) := by simp [redF, hb]
    have e1 : t.tdiv (-(Int.gcd t b : Int)) = (-t).tdiv (Int.gcd t b) := by rw [Int.tdiv_neg, Int.neg_tdiv]
    have e2 : b.tdiv (-(Int.gcd t b : Int)) = (-b).tdiv (Int.gcd t b) := by rw [Int.tdiv_neg, Int.neg_tdiv]
    have eg : Int.gcd (-t) (-b) = Int.gcd t b := by simp [Int.gcd]
    rw [hr]; unfold mkF; rw [eg]
    have w0 : IntKind.i64.wrap (-(Int.gcd t b : Int)) = -(Int.gcd t b : Int) := wrapI (by omega) (by omega)
    have w1 : IntKind.i64.wrap ((-t).tdiv (Int.gcd t b)) = (-t).tdiv (Int.gcd t b) := by have := tdiv_bd (x := -t) (y := Int.gcd t b) (m := 4611686018427387904) (by omega) (by omega); exact wrapI (by omega) (by omega)
    have w2 : IntKind.i64.wrap ((-b).tdiv (Int.gcd t b)) = (-b).tdiv (Int.gcd t b) := by have := tdiv_bd (x := -b) (y := Int.gcd t b) (m := 4611686018427387904) (by omega) (by omega); exact wrapI (by omega) (by omega)
    generalize (Int.gcd t b : Int) = g at *
    have hne : ¬ -g = 0 := by omega
    have hne' : ¬ g = 0 := by omega
    generalize (-t).tdiv g = p at *
    generalize (-b).tdiv g = q at *
    cases hf : fracOk (p, q) <;> simp (config := {contextual := true}) [Try.f70, List.range, List.range.loop, ints, intss, int, bool, row, frac, fracs, ← List.map_take, ← List.map_drop, hg, hb, w0, hne, hne', e1, e2, w1, w2, mFracOk_at, hf]
  · have hr : redF t b = mkF t b := by simp [redF, hb]
    rw [hr]; unfold mkF
    have w1 : IntKind.i64.wrap (t.tdiv (Int.gcd t b)) = t.tdiv (Int.gcd t b) := by have := tdiv_bd (x := t) (y := Int.gcd t b) (m := 4611686018427387904) (by omega) (by omega); exact wrapI (by omega) (by omega)
    have w2 : IntKind.i64.wrap (b.tdiv (Int.gcd t b)) = b.tdiv (Int.gcd t b) := by have := tdiv_bd (x := b) (y := Int.gcd t b) (m := 4611686018427387904) (by omega) (by omega); exact wrapI (by omega) (by omega)
    generalize (Int.gcd t b : Int) = g at *
    have hne' : ¬ g = 0 := by omega
    generalize hp1 : t.tdiv g = p at *
    generalize hq1 : b.tdiv g = q at *
    cases hf : fracOk (p, q) <;> simp (config := {contextual := true}) [Try.f70, List.range, List.range.loop, ints, intss, int, bool, row, frac, fracs, ← List.map_take, ← List.map_drop, hg, hb, hne', hp1, hq1, w1, w2, mFracOk_at, hf]

set_option maxHeartbeats 1000000 in
theorem l02Make_ok : FnOk Try.prog 100 mMk := by
  refine mk_ok fun ⟨t, b⟩ ⟨h1, h2, h3, h4⟩ => ?_
  simp only at h1 h2 h3 h4
  obtain ⟨g1, g2⟩ := gcd_bd (x := t) (show b ≠ 0 by omega)
  have hg := mGcd_at 0 (max t (-t)) b (by omega) (by omega) (by omega) h4
  rw [gcd_abs] at hg
  have wn : IntKind.i64.wrap (-t) = -t := wrapI (by omega) (by omega)
  have hG : FnsOk Try.prog [(108, (mGcd 0)), (58, mFracOk)] := (.cons l02Gcd_ok (.cons specFractionOk_ok .nil))
  refine callOk_awp (ctx_ok eqOk hG) mixed (live := [true, true, false, false, true, true, true, true, false, false, false, false, false, false, false, false, false, false, false, false, false, false, false, true]) (dt := [(2, ⟨[], [0, 0, 0, 0, 0, 0, 0, 1], []⟩)]) Try.func100 rfl (by kernel_rfl) (by kernel_rfl) fun w0 hlens => ?_
  unfold mkF
  have w1 : IntKind.i64.wrap (t.tdiv (Int.gcd t b)) = t.tdiv (Int.gcd t b) := by have := tdiv_bd (x := t) (y := Int.gcd t b) (m := 4611686018427387904) (by omega) (by omega); exact wrapI (by omega) (by omega)
  have w2 : IntKind.i64.wrap (b.tdiv (Int.gcd t b)) = b.tdiv (Int.gcd t b) := by have := tdiv_bd (x := b) (y := Int.gcd t b) (m := 4611686018427387904) (by omega) (by omega); exact wrapI (by omega) (by omega)
  generalize (Int.gcd t b : Int) = g at *
  have hne' : ¬ g = 0 := by omega
  generalize hp1 : t.tdiv g = p at *
  generalize hq1 : b.tdiv g = q at *
  cases hf : fracOk (p, q) <;> simp (config := {contextual := true}) [Try.f100, List.range, List.range.loop, ints, intss, int, bool, row, frac, fracs, ← List.map_take, ← List.map_drop, hg, wn, hne', hp1, hq1, w1, w2, mFracOk_at, hf]

noncomputable def mTwo : List AV → Option AV := mk (fun _ => True) (fun (p : (Int) × (Int) × (Int) × (Int)) => [frac (p.1, p.2.1), frac (p.2.2.1, p.2.2.2)]) (fun p => bool (fracOk (p.1, p.2.1) && fracOk (p.2.2.1, p.2.2.2)))
theorem mTwo_at (a : Int) (b : Int) (c : Int) (d : Int) : mTwo [.agg [.v (.int .i64 a), .v (.int .i64 b)], .agg [.v (.int .i64 c), .v (.int .i64 d)]] = some (.v (.bool (fracOk (a, b) && fracOk (c, d)))) :=
  mk_eq (enc := fun (p : (Int) × (Int) × (Int) × (Int)) => [frac (p.1, p.2.1), frac (p.2.2.1, p.2.2.2)]) (x := (a, b, c, d)) (by rintro ⟨a0, a1, a2, a3⟩ ⟨b0, b1, b2, b3⟩ h; simp [ints, intss, int, bool, row, frac, fracs, map_int_inj, map_row_inj, frac_inj, map_frac_inj] at h; simp [h]) trivial
theorem l02Two_ok : FnOk Try.prog 99 mTwo := by
  refine mk_ok fun ⟨a, b, c, d⟩ _ => ?_
  have hG : FnsOk Try.prog [(58, mFracOk)] := (.cons specFractionOk_ok .nil)
  refine callOk_awp (ctx_ok eqOk hG) mixed (live := [true, true, true, true, true]) (dt := []) Try.func99 rfl (by kernel_rfl) (by kernel_rfl) fun w0 hlens => ?_
  cases h1 : fracOk (a, b) <;> simp (config := {contextual := true}) [Try.f99, List.range, List.range.loop, ints, intss, int, bool, row, frac, fracs, ← List.map_take, ← List.map_drop, mFracOk_at, h1]

/-- The sum of two fractions, and whether it is valid. -/
def addF (x y : Int × Int) : (Int × Int) × Bool := if fracOk x && fracOk y then mkF (x.1 * y.2 + y.1 * x.2) (x.2 * y.2) else ((0, 0), false)
noncomputable def mAdd : List AV → Option AV := mk (fun _ => True) (fun (p : (Int) × (Int) × (Int) × (Int)) => [frac (p.1, p.2.1), frac (p.2.2.1, p.2.2.2)]) (fun p => .tup [.agg [.v (.int .i64 (addF (p.1, p.2.1) (p.2.2.1, p.2.2.2)).1.1), .v (.int .i64 (addF (p.1, p.2.1) (p.2.2.1, p.2.2.2)).1.2)], .v (.bool (addF (p.1, p.2.1) (p.2.2.1, p.2.2.2)).2)])
theorem mAdd_at (a : Int) (b : Int) (c : Int) (d : Int) : mAdd [.agg [.v (.int .i64 a), .v (.int .i64 b)], .agg [.v (.int .i64 c), .v (.int .i64 d)]] = some (.tup [.agg [.v (.int .i64 (addF (a, b) (c, d)).1.1), .v (.int .i64 (addF (a, b) (c, d)).1.2)], .v (.bool (addF (a, b) (c, d)).2)]) :=
  mk_eq (enc := fun (p : (Int) × (Int) × (Int) × (Int)) => [frac (p.1, p.2.1), frac (p.2.2.1, p.2.2.2)]) (x := (a, b, c, d)) (by rintro ⟨a0, a1, a2, a3⟩ ⟨b0, b1, b2, b3⟩ h; simp [ints, intss, int, bool, row, frac, fracs, map_int_inj, map_row_inj, frac_inj, map_frac_inj] at h; simp [h]) trivial

theorem fracOk_bd {x : Int × Int} (h : fracOk x = true) : -1000000000 ≤ x.1 ∧ x.1 ≤ 1000000000 ∧ 1 ≤ x.2 ∧ x.2 ≤ 1000000000 := by
  simp only [fracOk, Bool.and_eq_true, decide_eq_true_eq] at h; omega
theorem mul_bd {x y m n : Int} (h1 : -m ≤ x) (h2 : x ≤ m) (h3 : -n ≤ y) (h4 : y ≤ n) : -(m * n) ≤ x * y ∧ x * y ≤ m * n := by
  have hx : (x.natAbs : Int) ≤ m := by omega
  have hy : (y.natAbs : Int) ≤ n := by omega
  have : (x * y).natAbs = x.natAbs * y.natAbs := Int.natAbs_mul _ _
  have h5 : (x.natAbs : Int) * y.natAbs ≤ m * n := Int.mul_le_mul hx hy (by omega) (by omega)
  have h6 : ((x * y).natAbs : Int) = (x.natAbs : Int) * y.natAbs := by rw [this]; simp
  omega
theorem mul_pos1 {x y : Int} (h1 : 1 ≤ x) (h2 : 1 ≤ y) : 0 < x * y := Int.mul_pos (by omega) (by omega)

set_option maxHeartbeats 2000000 in
theorem implAdd_ok : FnOk Try.prog 107 mAdd := by
  refine mk_ok fun ⟨a, b, c, d⟩ _ => ?_
  have hG : FnsOk Try.prog [(63, mFracOk), (70, mRed)] := (.cons implFractionOk_ok (.cons reduced_ok .nil))
  refine callOk_awp (ctx_ok eqOk hG) mixed (live := [true, true, true, true, true, true, false, false, false, false, false, false, false, true]) (dt := []) Try.func107 rfl (by kernel_rfl) (by kernel_rfl) fun w0 hlens => ?_
  cases h1 : fracOk (a, b) with
  | false => simp (config := {contextual := true}) [Try.f107, List.range, List.range.loop, ints, intss, int, bool, row, frac, fracs, ← List.map_take, ← List.map_drop, mFracOk_at, mTwo_at, h1, addF]
  | true =>
  cases h2 : fracOk (c, d) with
  | false => simp (config := {contextual := true}) [Try.f107, List.range, List.range.loop, ints, intss, int, bool, row, frac, fracs, ← List.map_take, ← List.map_drop, mFracOk_at, mTwo_at, h1, h2, addF]
  | true =>
  have b1 := fracOk_bd h1
  have b2 := fracOk_bd h2
  simp only at b1 b2
  have m1 := mul_bd (x := a) (y := d) (m := 1000000000) (n := 1000000000) (by omega) (by omega) (by omega) (by omega)
  have m2 := mul_bd (x := c) (y := b) (m := 1000000000) (n := 1000000000) (by omega) (by omega) (by omega) (by omega)
  have m3 := mul_bd (x := b) (y := d) (m := 1000000000) (n := 1000000000) (by omega) (by omega) (by omega) (by omega)
  have p3 := mul_pos1 (x := b) (y := d) (by omega) (by omega)
  have ha : addF (a, b) (c, d) = mkF (a * d + c * b) (b * d) := by simp [addF, h1, h2]
  rw [ha]
  have w1 : IntKind.i64.wrap (a * d) = a * d := wrapI (by omega) (by omega)
  have w2 : IntKind.i64.wrap (c * b) = c * b := wrapI (by omega) (by omega)
  have w3 : IntKind.i64.wrap (b * d) = b * d := wrapI (by omega) (by omega)
  have w4 : IntKind.i64.wrap (a * d + c * b) = a * d + c * b := wrapI (by omega) (by omega)
  have hz := mMk_at (a * d + c * b) (b * d) ⟨by omega, by omega, by omega, by omega⟩
  have hz2 := mRed_at (a * d + c * b) (b * d) ⟨by omega, by omega, by omega, by omega, by omega⟩
  have hrr : redF (a * d + c * b) (b * d) = mkF (a * d + c * b) (b * d) := by unfold redF; rw [if_neg (by omega)]
  rw [hrr] at hz2
  simp (config := {contextual := true}) [Try.f107, List.range, List.range.loop, ints, intss, int, bool, row, frac, fracs, ← List.map_take, ← List.map_drop, mFracOk_at, mTwo_at, h1, h2, w1, w2, w3, w4, hz, hz2]

set_option maxHeartbeats 2000000 in
theorem specAdd_ok : FnOk Try.prog 48 mAdd := by
  refine mk_ok fun ⟨a, b, c, d⟩ _ => ?_
  have hG : FnsOk Try.prog [(99, mTwo), (100, mMk)] := (.cons l02Two_ok (.cons l02Make_ok .nil))
  refine callOk_awp (ctx_ok eqOk hG) mixed (live := [true, true, true, true, true, true, false, false, false, true]) (dt := []) Try.func48 rfl (by kernel_rfl) (by kernel_rfl) fun w0 hlens => ?_
  cases h1 : fracOk (a, b) with
  | false => simp (config := {contextual := true}) [Try.f48, List.range, List.range.loop, ints, intss, int, bool, row, frac, fracs, ← List.map_take, ← List.map_drop, mFracOk_at, mTwo_at, h1, addF]
  | true =>
  cases h2 : fracOk (c, d) with
  | false => simp (config := {contextual := true}) [Try.f48, List.range, List.range.loop, ints, intss, int, bool, row, frac, fracs, ← List.map_take, ← List.map_drop, mFracOk_at, mTwo_at, h1, h2, addF]
  | true =>
  have b1 := fracOk_bd h1
  have b2 := fracOk_bd h2
  simp only at b1 b2
  have m1 := mul_bd (x := a) (y := d) (m := 1000000000) (n := 1000000000) (by omega) (by omega) (by omega) (by omega)
  have m2 := mul_bd (x := c) (y := b) (m := 1000000000) (n := 1000000000) (by omega) (by omega) (by omega) (by omega)
  have m3 := mul_bd (x := b) (y := d) (m := 1000000000) (n := 1000000000) (by omega) (by omega) (by omega) (by omega)
  have p3 := mul_pos1 (x := b) (y := d) (by omega) (by omega)
  have ha : addF (a, b) (c, d) = mkF (a * d + c * b) (b * d) := by simp [addF, h1, h2]
  rw [ha]
  have w1 : IntKind.i64.wrap (a * d) = a * d := wrapI (by omega) (by omega)
  have w2 : IntKind.i64.wrap (c * b) = c * b := wrapI (by omega) (by omega)
  have w3 : IntKind.i64.wrap (b * d) = b * d := wrapI (by omega) (by omega)
  have w4 : IntKind.i64.wrap (a * d + c * b) = a * d + c * b := wrapI (by omega) (by omega)
  have hz := mMk_at (a * d + c * b) (b * d) ⟨by omega, by omega, by omega, by omega⟩
  have hz2 := mRed_at (a * d + c * b) (b * d) ⟨by omega, by omega, by omega, by omega, by omega⟩
  have hrr : redF (a * d + c * b) (b * d) = mkF (a * d + c * b) (b * d) := by unfold redF; rw [if_neg (by omega)]
  rw [hrr] at hz2
  simp (config := {contextual := true}) [Try.f48, List.range, List.range.loop, ints, intss, int, bool, row, frac, fracs, ← List.map_take, ← List.map_drop, mFracOk_at, mTwo_at, h1, h2, w1, w2, w3, w4, hz, hz2]

theorem addF_ok {x y : Int × Int} (h : (addF x y).2 = false) : addF x y = ((0, 0), false) := by
  unfold addF mkF at h ⊢
  split
  · rename_i h1
    rw [if_pos h1] at h
    split
    · rename_i h2; rw [if_pos h2] at h; simp at h
    · rfl
  · rfl

/-- The sum of the first k fractions, and whether all sums up to there are valid. -/
def sumTo (fs : List (Int × Int)) : Nat → (Int × Int) × Bool
  | 0 => ((0, 1), true)
  | k + 1 => if (sumTo fs k).2 = true then addF (sumTo fs k).1 (fs.getD k (0, 0)) else ((0, 0), false)
def sumF (fs : List (Int × Int)) : (Int × Int) × Bool := if 100 < fs.length then ((0, 0), false) else sumTo fs fs.length
theorem sumTo_false {fs : List (Int × Int)} {k : Nat} (h : (sumTo fs k).2 = false) : ∀ n, k ≤ n → (sumTo fs n) = ((0, 0), false) ∨ (n = k ∧ (sumTo fs n).2 = false)
  | 0, hn => by
    have : k = 0 := by omega
    subst this; exact .inr ⟨rfl, h⟩
  | n + 1, hn => by
    by_cases e : k = n + 1
    · subst e; exact .inr ⟨rfl, h⟩
    · rcases sumTo_false h n (by omega) with h1 | ⟨_, h1⟩
      · left; rw [sumTo, h1]; simp
      · left; rw [sumTo, h1]; simp
theorem sumTo_bad {fs : List (Int × Int)} {k n : Nat} (hk : 0 < k) (h : (sumTo fs k).2 = false) (hn : k ≤ n) : sumTo fs n = ((0, 0), false) := by
  rcases sumTo_false h n hn with h1 | ⟨rfl, _⟩
  · exact h1
  · obtain ⟨m, rfl⟩ : ∃ m, n = m + 1 := ⟨n - 1, by omega⟩
    rw [sumTo] at h ⊢
    split
    · rename_i h1; rw [if_pos h1] at h; exact addF_ok h
    · rfl

noncomputable def mSumF : List AV → Option AV := mk (fun _ => True) (fun (p : (Bool) × (List (Int × Int))) => [fracs p.1 p.2]) (fun p => .tup [.agg [.v (.int .i64 (sumF p.2).1.1), .v (.int .i64 (sumF p.2).1.2)], .v (.bool (sumF p.2).2)])
theorem mSumF_at (nl : Bool) (fs : List (Int × Int)) : mSumF [.sl nl 2 (fs.map frac)] = some (.tup [.agg [.v (.int .i64 (sumF fs).1.1), .v (.int .i64 (sumF fs).1.2)], .v (.bool (sumF fs).2)]) :=
  mk_eq (enc := fun (p : (Bool) × (List (Int × Int))) => [fracs p.1 p.2]) (x := (nl, fs)) (by rintro ⟨a0, a1⟩ ⟨b0, b1⟩ h; simp [ints, intss, int, bool, row, frac, fracs, map_int_inj, map_row_inj, frac_inj, map_frac_inj] at h; simp [h]) trivial

set_option maxHeartbeats 2000000 in
theorem implSumF_ok : FnOk Try.prog 64 mSumF := by
  refine mk_ok fun ⟨nl, fs⟩ _ => ?_
  have hG : FnsOk Try.prog [(80, mWhole), (107, mAdd)] := (.cons whole_ok (.cons implAdd_ok .nil))
  refine callOk_awp (ctx_ok eqOk hG) mixed (live := [true, false, true, true, true, true, false, true, false, false, true, false, false, true, true, true, true, false, false, false, false, false, false, false, false, false, true]) (dt := []) Try.func64 rfl (by kernel_rfl) (by kernel_rfl) fun w0 hlens => ?_
  have hll : fs.length ≤ 9223372036854775807 := (lens_fracs.1 hlens.1).1
  clear hlens
  by_cases h1 : 100 < fs.length
  · have h1' : (100 : Int) < (fs.length : Int) := by omega
    simp (config := {contextual := true}) [Try.f64, List.range, List.range.loop, ints, intss, int, bool, row, frac, fracs, ← List.map_take, ← List.map_drop, h1, h1', sumF]
  have h1' : ¬ (100 : Int) < (fs.length : Int) := by omega
  have hs : sumF fs = sumTo fs fs.length := by simp [sumF, h1]
  rw [hs]
  generalize hr : sumTo fs fs.length = r
  simp (config := {contextual := true}) [Try.f64, List.range, List.range.loop, ints, intss, int, bool, row, frac, fracs, ← List.map_take, ← List.map_drop, h1, h1', mWhole_at]
  refine awp_range (live := [true, false, true, true, true, true, false, true, false, false, true, false, false, true, true, true, true, false, false, false, false, false, false, false, false, false, true]) (ctx_ok eqOk hG) mixed [false, false, true, false, true, false, false, false, false, false, false, false, false, true, true, true] (fs.length) (fun k => (sumTo fs k).2 = true) (fun k => ⟨[.junk, .junk, .ptr 0 [] 0 0, .junk, .ptr 1 [] 0 0, .junk, .junk, .junk, .junk, .junk, .junk, .junk, .junk, fracs nl fs, int fs.length, int k, .junk, .junk, .junk, .junk, .junk, .junk, .junk, .junk, .junk, .junk, .junk, .junk, .junk, .junk], [⟨true, .sl false 2 [frac (0, 0)]⟩, ⟨true, .sl false 2 [frac (sumTo fs k).1]⟩]⟩) ?_ (by simp [sub, slotsLe, clean, keep, refsL, refs, once, place, renL, ren, List.replicate, int, bool, fracs, frac, sumTo]) ?_ ?_ ?_
  · exact hll
  · rfl
  · intro k h hp hwk
    have e : sumTo fs (k + 1) = addF (sumTo fs k).1 fs[k] := by rw [sumTo, if_pos hp]; congr 1; simp [List.getD_eq_getElem?_getD, h]
    have hbad : (sumTo fs (k + 1)).2 = false → r = ((0, 0), false) := fun hb => by rw [← hr]; exact sumTo_bad (by omega) hb (by omega)
    generalize sumTo fs k = x at *
    generalize sumTo fs (k + 1) = y at *
    obtain ⟨⟨x1, x2⟩, xb⟩ := x
    obtain ⟨⟨y1, y2⟩, yb⟩ := y
    have ha := mAdd_at x1 x2 fs[k].1 fs[k].2
    rw [show ((fs[k].1, fs[k].2) : Int × Int) = fs[k] from rfl] at ha
    simp only at e
    rw [← e] at ha
    simp only at ha hbad
    cases yb with
    | true =>
      simp (config := {contextual := true}) [List.range, List.range.loop, ints, intss, int, bool, row, frac, fracs, ← List.map_take, ← List.map_drop, h, hwk, ha]
    | false =>
      rw [hbad rfl]
      simp (config := {contextual := true}) [List.range, List.range.loop, ints, intss, int, bool, row, frac, fracs, ← List.map_take, ← List.map_drop, h, hwk, ha]
  · intro hp
    rw [hr] at hp
    obtain ⟨⟨r1, r2⟩, rb⟩ := r
    simp only at hp
    subst hp
    simp (config := {contextual := true}) [List.range, List.range.loop, ints, intss, int, bool, row, frac, fracs, ← List.map_take, ← List.map_drop, hr]

set_option maxHeartbeats 2000000 in
theorem specSumF_ok : FnOk Try.prog 109 mSumF := by
  refine mk_ok fun ⟨nl, fs⟩ _ => ?_
  have hG : FnsOk Try.prog [(48, mAdd)] := (.cons specAdd_ok .nil)
  refine callOk_awp (ctx_ok eqOk hG) mixed (live := [true, false, true, true, true, false, true, true, true, false, false, true, false, false, true, true, true, true, false, false, false, false, false, false, false, false, false, true]) (dt := []) Try.func109 rfl (by kernel_rfl) (by kernel_rfl) fun w0 hlens => ?_
  have hll : fs.length ≤ 9223372036854775807 := (lens_fracs.1 hlens.1).1
  clear hlens
  by_cases h1 : 100 < fs.length
  · have h1' : (100 : Int) < (fs.length : Int) := by omega
    simp (config := {contextual := true}) [Try.f109, List.range, List.range.loop, ints, intss, int, bool, row, frac, fracs, ← List.map_take, ← List.map_drop, h1, h1', sumF]
  have h1' : ¬ (100 : Int) < (fs.length : Int) := by omega
  have hs : sumF fs = sumTo fs fs.length := by simp [sumF, h1]
  rw [hs]
  generalize hr : sumTo fs fs.length = r
  simp (config := {contextual := true}) [Try.f109, List.range, List.range.loop, ints, intss, int, bool, row, frac, fracs, ← List.map_take, ← List.map_drop, h1, h1', mWhole_at]
  refine awp_range (live := [true, false, true, true, true, false, true, true, true, false, false, true, false, false, true, true, true, true, false, false, false, false, false, false, false, false, false, true]) (ctx_ok eqOk hG) mixed [false, false, true, false, true, false, false, false, false, false, false, false, false, false, true, true, true] (fs.length) (fun k => (sumTo fs k).2 = true) (fun k => ⟨[.junk, .junk, .ptr 0 [] 0 0, .junk, .ptr 1 [] 0 0, .junk, .junk, .junk, .junk, .junk, .junk, .junk, .junk, .junk, fracs nl fs, int fs.length, int k, .junk, .junk, .junk, .junk, .junk, .junk, .junk, .junk, .junk, .junk, .junk, .junk, .junk, .junk, .junk], [⟨true, .sl false 2 [frac (0, 0)]⟩, ⟨true, .sl false 2 [frac (sumTo fs k).1]⟩]⟩) ?_ (by simp [sub, slotsLe, clean, keep, refsL, refs, once, place, renL, ren, List.replicate, int, bool, fracs, frac, sumTo]) ?_ ?_ ?_
  · exact hll
  · rfl
  · intro k h hp hwk
    have e : sumTo fs (k + 1) = addF (sumTo fs k).1 fs[k] := by rw [sumTo, if_pos hp]; congr 1; simp [List.getD_eq_getElem?_getD, h]
    have hbad : (sumTo fs (k + 1)).2 = false → r = ((0, 0), false) := fun hb => by rw [← hr]; exact sumTo_bad (by omega) hb (by omega)
    generalize sumTo fs k = x at *
    generalize sumTo fs (k + 1) = y at *
    obtain ⟨⟨x1, x2⟩, xb⟩ := x
    obtain ⟨⟨y1, y2⟩, yb⟩ := y
    have ha := mAdd_at x1 x2 fs[k].1 fs[k].2
    rw [show ((fs[k].1, fs[k].2) : Int × Int) = fs[k] from rfl] at ha
    simp only at e
    rw [← e] at ha
    simp only at ha hbad
    cases yb with
    | true =>
      simp (config := {contextual := true}) [List.range, List.range.loop, ints, intss, int, bool, row, frac, fracs, ← List.map_take, ← List.map_drop, h, hwk, ha]
    | false =>
      rw [hbad rfl]
      simp (config := {contextual := true}) [List.range, List.range.loop, ints, intss, int, bool, row, frac, fracs, ← List.map_take, ← List.map_drop, h, hwk, ha]
  · intro hp
    rw [hr] at hp
    obtain ⟨⟨r1, r2⟩, rb⟩ := r
    simp only at hp
    subst hp
    simp (config := {contextual := true}) [List.range, List.range.loop, ints, intss, int, bool, row, frac, fracs, ← List.map_take, ← List.map_drop, hr]

end Go.Proofs.Ytkfgmpmeipilnaa.Ax
