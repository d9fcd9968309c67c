/-
  Contracts: indices, all orders (the program). No condition.
-/
import Derived.Test.YtkfgmpmeipilnaaCG7
import Derived.Test.YtkfgmpmeipilnaaCG5
import Derived.Test.YtkfgmpmeipilnaaCG6
import Derived.Test.YtkfgmpmeipilnaaCK4
namespace Go.Proofs.Ytkfgmpmeipilnaa.Ax
open Go Go.RowKit
set_option linter.unusedSimpArgs false

/-- 0, 1, .. -/
def idx (n : Nat) : List Int := (List.range n).map fun (i : Nat) => (i : Int)
def idxTo (n k : Nat) : List Int := idx k ++ List.replicate (n - k) 0
theorem idx_len {n : Nat} : (idx n).length = n := by simp [idx]
theorem idxTo_len {n k : Nat} (h : k ≤ n) : (idxTo n k).length = n := by simp [idxTo, idx_len]; omega
theorem idxTo_set {n k : Nat} (h : k < n) : (idxTo n k).set k (k : Int) = idxTo n (k + 1) := by
  unfold idxTo
  rw [List.set_append_right _ _ (by simp [idx_len]), idx_len, Nat.sub_self, show n - k = (n - (k + 1)) + 1 by omega, List.replicate_succ, List.set_cons_zero]
  simp [idx, List.range_succ]
theorem idxTo_all {n : Nat} : idxTo n n = idx n := by simp [idxTo]

noncomputable def mIdx : List AV → Option AV := mk (fun p => p ≤ 1000) (fun (p : Nat) => [int (p : Int)]) (fun p => ints false (idx p))
theorem mIdx_at (n : Nat) (h : n ≤ 1000) : mIdx [.v (.int .i64 (n : Int))] = some (.sl false 1 ((idx n).map int)) :=
  mk_eq (enc := fun (p : Nat) => [int (p : Int)]) (x := n) (by intro a b h; simp [int] at h; exact (by omega : a = b) ▸ rfl) h

set_option maxHeartbeats 1000000 in
theorem indices_ok : FnOk Try.prog 119 mIdx := by
  refine mk_ok fun n hn => ?_
  have hG : FnsOk Try.prog [] := .nil
  refine callOk_awp (ctx_ok eqOk hG) mixed (live := [true, false, true, true, true, false, false, false, true, true, true]) (dt := []) Try.func119 rfl (by kernel_rfl) (by kernel_rfl) fun w0 hlens => ?_
  clear hlens
  have h1 : 8 * n ≤ 281474976710656 := by omega
  have h2 : n ≤ 4611686018427387904 := by omega
  simp (config := {contextual := true}) [Try.f119, List.range, List.range.loop, ints, intss, int, bool, row, frac, fracs, ← List.map_take, ← List.map_drop, h1, h2]
  refine awp_range (live := [true, false, true, true, true, false, false, false, true, true, true]) (ctx_ok eqOk hG) mixed [false, false, false, true, false, false, false, false, true, true] (n) (fun k => True) (fun k => ⟨[.junk, .junk, .junk, .ref 0 [] 0 n, .junk, .junk, .junk, .junk, int n, int k, .junk, .junk, .junk, .junk, .junk, .junk, .junk, .junk], [⟨true, .sl false 1 ((idxTo n k).map int)⟩]⟩) ?_ (by simp [sub, slotsLe, clean, keep, refsL, refs, once, place, renL, ren, List.replicate, int, bool, idxTo, idx]) ?_ ?_ ?_
  · omega
  · trivial
  · intro k hk _ hwk
    have hl := idxTo_len (n := n) (k := k) (by omega)
    have hs := idxTo_set hk
    have hl2 := idxTo_len (n := n) (k := k + 1) (by omega)
    have hs' : ((idxTo n k).map int).set k (.v (.int .i64 (k : Int))) = (idxTo n (k + 1)).map int := by rw [← hs, List.map_set]; rfl
    simp (config := {contextual := true}) [List.range, List.range.loop, ints, intss, int, bool, row, frac, fracs, ← List.map_take, ← List.map_drop, hk, hwk, hl, hl2, hs', -List.map_set]
    done
  · intro _
    have hl := idxTo_len (n := n) (k := n) (by omega)
    rw [idxTo_all] at hl
    simp (config := {contextual := true}) [List.range, List.range.loop, ints, intss, int, bool, row, frac, fracs, ← List.map_take, ← List.map_drop, hl, idxTo_all]
    done

/-- All orders of a list. -/
def ordR : Nat → List Int → List (Bool × List Int)
  | 0, _ => [(true, [])]
  | n + 1, l => (List.range l.length).flatMap fun i => (ordR n (l.take i ++ l.drop (i + 1))).map fun r => (false, l.getD i 0 :: r.2)

/-- Those that begin with one of the first k, and j more. -/
def ordTo (n : Nat) (l : List Int) (k : Nat) : List (Bool × List Int) := (List.range k).flatMap fun i => (ordR n (l.take i ++ l.drop (i + 1))).map fun r => (false, l.getD i 0 :: r.2)
def ordTo2 (n : Nat) (l : List Int) (k j : Nat) : List (Bool × List Int) := ordTo n l k ++ ((ordR n (l.take k ++ l.drop (k + 1))).take j).map fun r => (false, l.getD k 0 :: r.2)
theorem ordTo2_zero {n : Nat} {l : List Int} {k : Nat} : ordTo2 n l k 0 = ordTo n l k := by simp [ordTo2]
theorem ordTo2_all {n : Nat} {l : List Int} {k : Nat} : ordTo2 n l k (ordR n (l.take k ++ l.drop (k + 1))).length = ordTo n l (k + 1) := by
  simp [ordTo2, ordTo, List.range_succ]
theorem ordTo2_succ {n : Nat} {l : List Int} {k j : Nat} (h : j < (ordR n (l.take k ++ l.drop (k + 1))).length) : ordTo2 n l k (j + 1) = ordTo2 n l k j ++ [(false, l.getD k 0 :: (ordR n (l.take k ++ l.drop (k + 1)))[j].2)] := by
  unfold ordTo2
  rw [List.take_succ_eq_append_getElem h, List.map_append, ← List.append_assoc]; rfl
theorem ordR_succ {n : Nat} {l : List Int} : ordR (n + 1) l = ordTo n l l.length := rfl
theorem ordR_row : ∀ {n : Nat} {l : List Int}, l.length = n → ∀ r ∈ ordR n l, r.2.length = n
  | 0, l, _, r, hr => by simp [ordR] at hr; subst hr; rfl
  | n + 1, l, hl, r, hr => by
    simp only [ordR, List.mem_flatMap, List.mem_map, List.mem_range] at hr
    obtain ⟨i, hi, r', hr', rfl⟩ := hr
    have := ordR_row (n := n) (l := l.take i ++ l.drop (i + 1)) (by simp; omega) r' hr'
    simp [this]
theorem ordR_flag : ∀ {n : Nat} {l : List Int}, ∀ r ∈ ordR n l, r = (true, []) ∨ r = (false, r.2)
  | 0, _, r, hr => by simp [ordR] at hr; exact Or.inl hr
  | n + 1, l, r, hr => by
    simp only [ordR, List.mem_flatMap, List.mem_map, List.mem_range] at hr
    obtain ⟨i, hi, r', hr', rfl⟩ := hr
    exact Or.inr rfl
def fact : Nat → Nat
  | 0 => 1
  | n + 1 => (n + 1) * fact n
theorem ordTo_len {n : Nat} {l : List Int} (ih : ∀ l' : List Int, l'.length = n → (ordR n l').length = fact n) (hl : l.length = n + 1) : ∀ {k : Nat}, k ≤ n + 1 → (ordTo n l k).length = k * fact n
  | 0, _ => by simp [ordTo]
  | k + 1, hk => by
    have := ordTo_len ih hl (k := k) (by omega)
    rw [← ordTo2_all]
    unfold ordTo2
    rw [List.length_append, this, List.length_map, List.take_length, ih _ (by simp; omega), Nat.add_mul]
    omega
theorem ordR_len : ∀ {n : Nat} {l : List Int}, l.length = n → (ordR n l).length = fact n
  | 0, l, _ => rfl
  | n + 1, l, hl => by
    rw [ordR_succ, hl]
    exact ordTo_len (fun l' h => ordR_len h) hl (Nat.le_refl _)

noncomputable def mOrd (n : Nat) : List AV → Option AV := mk (fun p => p.2.length = n ∧ n ≤ 5 ∧ (p.1 = true → n = 0)) (fun (p : Bool × List Int) => [ints p.1 p.2]) (fun p => .sl false 1 ((ordR n p.2).map row))
theorem mOrd_at (n : Nat) (nl : Bool) (l : List Int) (h : l.length = n ∧ n ≤ 5 ∧ (nl = true → n = 0)) : mOrd n [.sl nl 1 (l.map int)] = some (.sl false 1 ((ordR n l).map row)) :=
  mk_eq (enc := fun (p : Bool × List Int) => [ints p.1 p.2]) (x := (nl, l)) (by rintro ⟨a, b⟩ ⟨c, d⟩ h; simp [ints, map_int_inj] at h; simp [h]) h

theorem orders_zero : (FnOk Try.prog 118 (mOrd 0)) := by
  refine mk_ok fun ⟨nl, l⟩ ⟨hl, _⟩ => ?_
  simp only at hl
  have hG : FnsOk Try.prog [(144, mConcat)] := (.cons concatI_ok .nil)
  refine callOk_awp (ctx_ok eqOk hG) mixed (live := [true, false, true, true, true, true, false, true, false, false, true, false, true, true, true, true, false, false, false, false, false, false, false, false, false, false, false, false, true, true, true, true]) (dt := [(7, ⟨[], [0, 0, 0, 0, 0, 0, 0, 1, 1, 1], []⟩)]) Try.func118 rfl (by kernel_rfl) (by kernel_rfl) fun w0 hlens => ?_
  clear hlens
  have hl0 : l = [] := List.length_eq_zero_iff.1 hl
  subst hl0
  simp (config := {contextual := true}) [Try.f118, List.range, List.range.loop, ints, intss, int, bool, row, frac, fracs, ← List.map_take, ← List.map_drop, ordR]

/-- The slot of the rows so far; the row. -/
def apO (R : List (Bool × List Int)) : AV := match R with
  | [] => .sl true 1 []
  | _ :: R => .ref 0 [] 0 (R.length + 1)
def apT1 (R : List (Bool × List Int)) : List Tok := match R with
  | [] => []
  | r :: R => [⟨true, .sl false 1 ((r :: R).map row)⟩]

theorem fact_pos : ∀ {n : Nat}, 0 < fact n
  | 0 => Nat.one_pos
  | n + 1 => Nat.mul_pos (Nat.succ_pos n) fact_pos
theorem fact_le : ∀ {n : Nat}, n ≤ 4 → fact n ≤ 24 := by decide

set_option maxHeartbeats 2000000 in
theorem orders_succ {n : Nat} (hn : n ≤ 4) (ih : FnOk Try.prog 118 (mOrd n)) : FnOk Try.prog 118 (mOrd (n + 1)) := by
  refine mk_ok fun ⟨nl, l⟩ ⟨hl, _, hnl⟩ => ?_
  simp only at hl hnl
  have hnl' : nl = false := by cases nl; rfl; exact absurd (hnl rfl) (by omega)
  subst hnl'
  clear hnl
  have hG : FnsOk Try.prog [(144, mConcat)] := (.cons concatI_ok .nil)
  have hM : FnsMut Try.prog [] := .nil
  have hV : FnsMov Try.prog [] := .nil
  have hK : FnsFrz Try.prog [(118, false, mOrd n)] := (.cons (FnOk.frz ih) .nil)
  refine callOk_awp (ctxH_ok eqOk hG hM hV hK) mixed (live := [true, false, true, true, true, true, false, true, false, false, true, false, true, true, true, true, false, false, false, false, false, false, false, false, false, false, false, false, true, true, true, true]) (dt := [(7, ⟨[], [0, 0, 0, 0, 0, 0, 0, 1, 1, 1], []⟩)]) Try.func118 rfl (by kernel_rfl) (by kernel_rfl) fun w0 hlens => ?_
  clear hlens
  have hl0 : ¬ ((l.length : Int) = 0) := by omega
  rw [ordR_succ, hl]
  have hf := fact_le hn
  simp (config := {contextual := true}) [Try.f118, List.range, List.range.loop, ints, intss, int, bool, row, frac, fracs, ← List.map_take, ← List.map_drop, List.all, hl0, hl]
  refine awp_range (live := [true, false, true, true, true, true, false, true, false, false, true, false, true, true, true, true, false, false, false, false, false, false, false, false, false, false, false, false, true, true, true, true]) (ctxH_ok eqOk hG hM hV hK) mixed [true, false, false, true, false, false, false, false, false, false, false, false, true, true, true] (n + 1) (fun k => True) (fun k => ⟨[ints false l, .junk, .junk, apO (ordTo n l k), .junk, .junk, .junk, .junk, .junk, .junk, .junk, .junk, ints false l, int ((n : Int) + 1), int k, .junk, .junk, .junk, .junk, .junk, .junk, .junk, .junk, .junk, .junk, .junk, .junk, .junk, .junk, .junk, .junk, .junk, .junk, .junk, .junk, .junk, .junk, .junk, .junk, .junk, .junk, .junk, .junk, .junk, .junk], apT1 (ordTo n l k)⟩) ?_ (by simp [sub, slotsLe, clean, keep, refsL, refs, once, place, renL, ren, List.replicate, int, bool, ordTo, apO, apT1, ints, hl]) ?_ ?_ ?_
  · omega
  · trivial
  · intro k hk _ hwk
    have hkl : k < l.length := by omega
    have hx : l.getD k 0 = l[k] := getD_at hkl
    have hlen : (l.take k ++ l.drop (k + 1)).length = n := by simp; omega
    have htd : List.take (n + 1 - (k + 1)) (List.drop (k + 1) l) = List.drop (k + 1) l := List.take_of_length_le (by simp; omega)
    have htd2 : List.take (n - k) (List.drop (k + 1) l) = List.drop (k + 1) l := List.take_of_length_le (by simp; omega)
    have hcc := mConcat_at false [(false, l.take k), (false, l.drop (k + 1))] ⟨by simp, by simp [cat]; omega⟩
    simp only [List.map_cons, List.map_nil, row, cat, List.flatMap_cons, List.flatMap_nil, List.append_nil] at hcc
    have hoo := mOrd_at n (decide (l.take k ++ l.drop (k + 1) = [])) (l.take k ++ l.drop (k + 1)) ⟨hlen, by omega, fun h => by simpa [hlen] using congrArg List.length (of_decide_eq_true h)⟩
    have h2all := ordTo2_all (n := n) (l := l) (k := k)
    have h2z := ordTo2_zero (n := n) (l := l) (k := k)
    have h2s := fun j => ordTo2_succ (n := n) (l := l) (k := k) (j := j)
    have hRrow := ordR_row hlen
    have hRl := ordR_len hlen
    have hRf := ordR_flag (n := n) (l := l.take k ++ l.drop (k + 1))
    have hAl := ordTo_len (n := n) (l := l) (fun l' h => ordR_len h) hl (k := k) (by omega)
    have h2l : ∀ j, j ≤ (ordR n (l.take k ++ l.drop (k + 1))).length → (ordTo2 n l k j).length ≤ 120 := fun j hj => by
      simp only [ordTo2, List.length_append, List.length_map, List.length_take, hAl]
      have := Nat.mul_le_mul (show k ≤ 4 by omega) hf
      omega
    have hk2 : k ≤ n + 1 := by omega
    have hk3 : k ≤ n := by omega
    have hki : (k : Int) < (n : Int) + 1 := by omega
    have hinit : ∀ (P : Bool), apO (ordTo2 n l k 0) = apO (ordTo n l k) := fun _ => by rw [h2z]
    generalize hLL : l.take k ++ l.drop (k + 1) = L at *
    have htL : List.take n L = L := List.take_of_length_le (by omega)
    generalize decide (L = []) = b at *
    generalize hRR : ordR n L = R at *
    have hgo : ∀ A0 : List (Bool × List Int), ordTo n l k = A0 → ordTo n l k = A0 := fun _ h => h
    have hcc2 := fun (j : Nat) (h : j < R.length) => mConcat_at false [(false, [l[k]]), R[j]] ⟨by simp, by simp [cat]; have := hRrow _ (List.getElem_mem h); omega⟩
    simp only [List.map_cons, List.map_nil, row, cat, List.flatMap_cons, List.flatMap_nil, List.append_nil, List.cons_append, List.nil_append, int] at hcc2
    cases hA : ordTo n l k with
    | nil =>
      simp (config := {contextual := true}) [List.range, List.range.loop, ints, intss, int, bool, row, frac, fracs, ← List.map_take, ← List.map_drop, List.all, hk, hkl, hwk, hl, htd, htd2, htL, hcc, hoo, hlen, apO, apT1, hki, hk2, hk3]
      refine awp_range (live := [true, false, true, true, true, true, false, true, false, false, true, false, true, true, true, true, false, false, false, false, false, false, false, false, false, false, false, false, true, true, true, true]) (ctxH_ok eqOk hG hM hV hK) mixed [true, false, false, true, false, true, false, false, false, false, false, false, true, true, true, false, false, false, false, false, false, false, false, false, false, false, false, false, true, true, true] (R.length) (fun j => True) (fun j => ⟨[ints false l, .junk, .junk, apO (ordTo2 n l k j), .junk, int l[k], .junk, .junk, .junk, .junk, .junk, .junk, ints false l, int ((n : Int) + 1), int k, .junk, .junk, .junk, .junk, .junk, .junk, .junk, .junk, .junk, .junk, .junk, .junk, .junk, .sl false 1 (R.map row), int R.length, int j, .junk, .junk, .junk, .junk, .junk, .junk, .junk, .junk, .junk, .junk, .junk, .junk, .junk, .junk], apT1 (ordTo2 n l k j)⟩) ?_ (by simp [sub, slotsLe, clean, keep, refsL, refs, once, place, renL, ren, List.replicate, int, bool, h2z, hA, row, apO, apT1, ints, hl, hRl]) ?_ ?_ ?_
      · omega
      · trivial
      · intro j hj _ hwj
        have hs := h2s j hj
        have hc := hcc2 j hj
        have hl2 := h2l (j + 1) (by omega)
        have hr := hRrow _ (List.getElem_mem hj)
        have hf := hRf _ (List.getElem_mem hj)
        have hxg : l[k]?.getD 0 = l[k] := by rw [List.getElem?_eq_getElem hkl]; rfl
        generalize hrj : R[j] = r at *
        have hl3 := h2l j (by omega)
        rcases hf with hf | hf
        all_goals rw [hf] at hc hs hr hrj
        all_goals simp only [List.map_nil] at hc hs hr hrj
        all_goals rcases hB : ordTo2 n l k j with _ | ⟨r1, B⟩
        · simp (config := {contextual := true}) [List.range, List.range.loop, ints, intss, int, bool, row, frac, fracs, ← List.map_take, ← List.map_drop, List.all, hj, hwj, hs, hc, hr, apO, apT1, hB, hxg, hrj]
          done
        · have hl4 : B.length ≤ 4611686018427387902 ∧ (B.length + 1 + 1) * 24 ≤ 140737488355328 := by rw [hB, List.length_cons] at hl3; omega
          simp (config := {contextual := true}) [List.range, List.range.loop, ints, intss, int, bool, row, frac, fracs, ← List.map_take, ← List.map_drop, List.all, hj, hwj, hs, hc, hr, apO, apT1, hB, hxg, hrj, hl4]
          done
        · simp (config := {contextual := true}) [List.range, List.range.loop, ints, intss, int, bool, row, frac, fracs, ← List.map_take, ← List.map_drop, List.all, hj, hwj, hs, hc, hr, apO, apT1, hB, hxg, hrj]
          done
        · have hl4 : B.length ≤ 4611686018427387902 ∧ (B.length + 1 + 1) * 24 ≤ 140737488355328 := by rw [hB, List.length_cons] at hl3; omega
          simp (config := {contextual := true}) [List.range, List.range.loop, ints, intss, int, bool, row, frac, fracs, ← List.map_take, ← List.map_drop, List.all, hj, hwj, hs, hc, hr, apO, apT1, hB, hxg, hrj, hl4]
          done
      · intro _
        cases hD : ordTo n l (k + 1) <;> simp (config := {contextual := true}) [List.range, List.range.loop, ints, intss, int, bool, row, frac, fracs, ← List.map_take, ← List.map_drop, List.all, h2all, hD, hwk, apO, apT1]
        done
    | cons r0 A =>
      simp (config := {contextual := true}) [List.range, List.range.loop, ints, intss, int, bool, row, frac, fracs, ← List.map_take, ← List.map_drop, List.all, hk, hkl, hwk, hl, htd, htd2, htL, hcc, hoo, hlen, apO, apT1, hki, hk2, hk3]
      refine awp_range (live := [true, false, true, true, true, true, false, true, false, false, true, false, true, true, true, true, false, false, false, false, false, false, false, false, false, false, false, false, true, true, true, true]) (ctxH_ok eqOk hG hM hV hK) mixed [true, false, false, true, false, true, false, false, false, false, false, false, true, true, true, false, false, false, false, false, false, false, false, false, false, false, false, false, true, true, true] (R.length) (fun j => True) (fun j => ⟨[ints false l, .junk, .junk, apO (ordTo2 n l k j), .junk, int l[k], .junk, .junk, .junk, .junk, .junk, .junk, ints false l, int ((n : Int) + 1), int k, .junk, .junk, .junk, .junk, .junk, .junk, .junk, .junk, .junk, .junk, .junk, .junk, .junk, .sl false 1 (R.map row), int R.length, int j, .junk, .junk, .junk, .junk, .junk, .junk, .junk, .junk, .junk, .junk, .junk, .junk, .junk, .junk], apT1 (ordTo2 n l k j)⟩) ?_ (by simp [sub, slotsLe, clean, keep, refsL, refs, once, place, renL, ren, List.replicate, int, bool, h2z, hA, row, apO, apT1, ints, hl, hRl]) ?_ ?_ ?_
      · omega
      · trivial
      · intro j hj _ hwj
        have hs := h2s j hj
        have hc := hcc2 j hj
        have hl2 := h2l (j + 1) (by omega)
        have hr := hRrow _ (List.getElem_mem hj)
        have hf := hRf _ (List.getElem_mem hj)
        have hxg : l[k]?.getD 0 = l[k] := by rw [List.getElem?_eq_getElem hkl]; rfl
        generalize hrj : R[j] = r at *
        have hl3 := h2l j (by omega)
        rcases hf with hf | hf
        all_goals rw [hf] at hc hs hr hrj
        all_goals simp only [List.map_nil] at hc hs hr hrj
        all_goals rcases hB : ordTo2 n l k j with _ | ⟨r1, B⟩
        · simp (config := {contextual := true}) [List.range, List.range.loop, ints, intss, int, bool, row, frac, fracs, ← List.map_take, ← List.map_drop, List.all, hj, hwj, hs, hc, hr, apO, apT1, hB, hxg, hrj]
          done
        · have hl4 : B.length ≤ 4611686018427387902 ∧ (B.length + 1 + 1) * 24 ≤ 140737488355328 := by rw [hB, List.length_cons] at hl3; omega
          simp (config := {contextual := true}) [List.range, List.range.loop, ints, intss, int, bool, row, frac, fracs, ← List.map_take, ← List.map_drop, List.all, hj, hwj, hs, hc, hr, apO, apT1, hB, hxg, hrj, hl4]
          done
        · simp (config := {contextual := true}) [List.range, List.range.loop, ints, intss, int, bool, row, frac, fracs, ← List.map_take, ← List.map_drop, List.all, hj, hwj, hs, hc, hr, apO, apT1, hB, hxg, hrj]
          done
        · have hl4 : B.length ≤ 4611686018427387902 ∧ (B.length + 1 + 1) * 24 ≤ 140737488355328 := by rw [hB, List.length_cons] at hl3; omega
          simp (config := {contextual := true}) [List.range, List.range.loop, ints, intss, int, bool, row, frac, fracs, ← List.map_take, ← List.map_drop, List.all, hj, hwj, hs, hc, hr, apO, apT1, hB, hxg, hrj, hl4]
          done
      · intro _
        cases hD : ordTo n l (k + 1) <;> simp (config := {contextual := true}) [List.range, List.range.loop, ints, intss, int, bool, row, frac, fracs, ← List.map_take, ← List.map_drop, List.all, h2all, hD, hwk, apO, apT1]
        done
  · intro _
    cases hA : ordTo n l (n + 1) with
    | nil =>
      have := ordTo_len (n := n) (l := l) (fun l' h => ordR_len h) hl (k := n + 1) (by omega)
      have h0 : 0 < fact n := fact_pos
      rw [hA] at this
      have h1 := Nat.mul_pos (Nat.succ_pos n) h0
      simp only [List.length_nil] at this
      have h2 : (n + 1) * fact n = n.succ * fact n := rfl
      omega
    | cons r0 A =>
      simp (config := {contextual := true}) [List.range, List.range.loop, ints, intss, int, bool, row, frac, fracs, ← List.map_take, ← List.map_drop, List.all, hl, apO, apT1, hA]
      done

end Go.Proofs.Ytkfgmpmeipilnaa.Ax

/-
  Contracts: DivideFractions by a whole number (both programs), the lesser of two fractions, differences, the first house of a list that is left (both programs). No condition.
-/
namespace Go.Proofs.Ytkfgmpmeipilnaa.Ax
open Go Go.RowKit
set_option linter.unusedSimpArgs false

theorem fracOk_whole {k : Int} (h : 1 ≤ k ∧ k ≤ 1000000000) : fracOk (k, 1) = true := by
  simp [fracOk]; omega

noncomputable def mDivK : List AV → Option AV := mk (fun p => fracOk (p.1, p.2.1) = true ∧ p.2.2.2 = 1 ∧ 1 ≤ p.2.2.1 ∧ p.2.2.1 ≤ 1000) (fun (p : (Int) × (Int) × (Int) × (Int)) => [frac (p.1, p.2.1), frac (p.2.2.1, p.2.2.2)]) (fun p => .tup [.agg [.v (.int .i64 (mkF p.1 (p.2.1 * p.2.2.1)).1.1), .v (.int .i64 (mkF p.1 (p.2.1 * p.2.2.1)).1.2)], .v (.bool (mkF p.1 (p.2.1 * p.2.2.1)).2)])
theorem mDivK_at (a : Int) (b : Int) (k : Int) (d : Int) (hpre : fracOk (a, b) = true ∧ d = 1 ∧ 1 ≤ k ∧ k ≤ 1000) : mDivK [.agg [.v (.int .i64 a), .v (.int .i64 b)], .agg [.v (.int .i64 k), .v (.int .i64 d)]] = some (.tup [.agg [.v (.int .i64 (mkF a (b * k)).1.1), .v (.int .i64 (mkF a (b * k)).1.2)], .v (.bool (mkF a (b * k)).2)]) :=
  mk_eq (enc := fun (p : (Int) × (Int) × (Int) × (Int)) => [frac (p.1, p.2.1), frac (p.2.2.1, p.2.2.2)]) (x := (a, b, k, d)) (by rintro ⟨a0, a1, a2, a3⟩ ⟨b0, b1, b2, b3⟩ h; simp [ints, intss, int, bool, row, frac, fracs, map_int_inj, map_row_inj, frac_inj, map_frac_inj] at h; simp [h]) hpre
set_option maxHeartbeats 2000000 in
theorem implDivK_ok : FnOk Try.prog 105 mDivK := by
  refine mk_ok fun ⟨a, b, k, d⟩ hp => ?_
  obtain ⟨h1, hd, hk1, hk2⟩ := hp
  simp only at h1 hd hk1 hk2
  subst hd
  have h2 := fracOk_whole (k := k) ⟨hk1, by omega⟩
  have b1 := fracOk_bd h1
  simp only at b1
  have m3 := mul_bd (x := b) (y := k) (m := 1000000000) (n := 1000) (by omega) (by omega) (by omega) (by omega)
  have p3 := mul_pos1 (x := b) (y := k) (by omega) (by omega)
  have w1 : IntKind.i64.wrap a = a := wrapI (by omega) (by omega)
  have w3 : IntKind.i64.wrap (b * k) = b * k := wrapI (by omega) (by omega)
  have hz := mMk_at a (b * k) ⟨by omega, by omega, by omega, by omega⟩
  have hz2 := mRed_at a (b * k) ⟨by omega, by omega, by omega, by omega, by omega⟩
  have hrr : redF a (b * k) = mkF a (b * k) := by unfold redF; rw [if_neg (by omega)]
  rw [hrr] at hz2
  have n1 : ¬ k = 0 := by omega
  have n2 : ¬ k < 0 := by omega
  have hG : FnsOk Try.prog [(63, mFracOk), (70, mRed)] := (.cons implFractionOk_ok (.cons reduced_ok .nil))
  refine callOk_awp (ctx_ok eqOk hG) mixed (live := [true, true, true, true, true, true, false, false, false, false, false, false, false, false, false, false, false, false, true]) (dt := []) Try.func105 rfl (by kernel_rfl) (by kernel_rfl) fun w0 hlens => ?_
  simp (config := {contextual := true}) [Try.f105, List.range, List.range.loop, ints, intss, int, bool, row, frac, fracs, ← List.map_take, ← List.map_drop, mFracOk_at, mTwo_at, h1, h2, w1, w3, hz, hz2, n1, n2]

set_option maxHeartbeats 2000000 in
theorem specDivK_ok : FnOk Try.prog 46 mDivK := by
  refine mk_ok fun ⟨a, b, k, d⟩ hp => ?_
  obtain ⟨h1, hd, hk1, hk2⟩ := hp
  simp only at h1 hd hk1 hk2
  subst hd
  have h2 := fracOk_whole (k := k) ⟨hk1, by omega⟩
  have b1 := fracOk_bd h1
  simp only at b1
  have m3 := mul_bd (x := b) (y := k) (m := 1000000000) (n := 1000) (by omega) (by omega) (by omega) (by omega)
  have p3 := mul_pos1 (x := b) (y := k) (by omega) (by omega)
  have w1 : IntKind.i64.wrap a = a := wrapI (by omega) (by omega)
  have w3 : IntKind.i64.wrap (b * k) = b * k := wrapI (by omega) (by omega)
  have hz := mMk_at a (b * k) ⟨by omega, by omega, by omega, by omega⟩
  have hz2 := mRed_at a (b * k) ⟨by omega, by omega, by omega, by omega, by omega⟩
  have hrr : redF a (b * k) = mkF a (b * k) := by unfold redF; rw [if_neg (by omega)]
  rw [hrr] at hz2
  have n1 : ¬ k = 0 := by omega
  have n2 : ¬ k < 0 := by omega
  have hG : FnsOk Try.prog [(99, mTwo), (100, mMk)] := (.cons l02Two_ok (.cons l02Make_ok .nil))
  refine callOk_awp (ctx_ok eqOk hG) mixed (live := [true, true, true, true, true, true, false, false, false, false, false, false, false, false, true, false, false, false, true]) (dt := []) Try.func46 rfl (by kernel_rfl) (by kernel_rfl) fun w0 hlens => ?_
  simp (config := {contextual := true}) [Try.f46, List.range, List.range.loop, ints, intss, int, bool, row, frac, fracs, ← List.map_take, ← List.map_drop, mFracOk_at, mTwo_at, h1, h2, w1, w3, hz, hz2, n1, n2]

def lesF (x y : Int × Int) : Int × Int := if cmpF y x < 0 then y else x
noncomputable def mLesF : List AV → Option AV := mk (fun _ => True) (fun (p : (Int) × (Int) × (Int) × (Int)) => [frac (p.1, p.2.1), frac (p.2.2.1, p.2.2.2)]) (fun p => .agg [.v (.int .i64 (lesF (p.1, p.2.1) (p.2.2.1, p.2.2.2)).1), .v (.int .i64 (lesF (p.1, p.2.1) (p.2.2.1, p.2.2.2)).2)])
theorem mLesF_at (a : Int) (b : Int) (c : Int) (d : Int) : mLesF [.agg [.v (.int .i64 a), .v (.int .i64 b)], .agg [.v (.int .i64 c), .v (.int .i64 d)]] = some (.agg [.v (.int .i64 (lesF (a, b) (c, d)).1), .v (.int .i64 (lesF (a, b) (c, d)).2)]) :=
  mk_eq (enc := fun (p : (Int) × (Int) × (Int) × (Int)) => [frac (p.1, p.2.1), frac (p.2.2.1, p.2.2.2)]) (x := (a, b, c, d)) (by rintro ⟨a0, a1, a2, a3⟩ ⟨b0, b1, b2, b3⟩ h; simp [ints, intss, int, bool, row, frac, fracs, map_int_inj, map_row_inj, frac_inj, map_frac_inj] at h; simp [h]) trivial
theorem l29Less_ok : FnOk Try.prog 47 mLesF := by
  refine mk_ok fun ⟨a, b, c, d⟩ _ => ?_
  have hG : FnsOk Try.prog [(101, mCmpF)] := (.cons specCmpF_ok .nil)
  refine callOk_awp (ctx_ok eqOk hG) mixed (live := [true, true, true, true, true, false, false, false, true]) (dt := []) Try.func47 rfl (by kernel_rfl) (by kernel_rfl) fun w0 hlens => ?_
  by_cases h : cmpF (c, d) (a, b) < 0 <;> simp (config := {contextual := true}) [Try.f47, List.range, List.range.loop, ints, intss, int, bool, row, frac, fracs, ← List.map_take, ← List.map_drop, mCmpF_at, lesF, h]

theorem l29Minus_ok : FnOk Try.prog 49 mMinus := by
  refine mk_ok fun ⟨a, b, c, d⟩ h => ?_
  have hb := fracOk_bd h
  simp only at hb
  have w1 : IntKind.i64.wrap (-c) = -c := wrapI (by omega) (by omega)
  have hG : FnsOk Try.prog [(48, mAdd)] := (.cons specAdd_ok .nil)
  refine callOk_awp (ctx_ok eqOk hG) mixed (live := [true, true, true, true, true, true]) (dt := []) Try.func49 rfl (by kernel_rfl) (by kernel_rfl) fun w0 hlens => ?_
  simp (config := {contextual := true}) [Try.f49, List.range, List.range.loop, ints, intss, int, bool, row, frac, fracs, ← List.map_take, ← List.map_drop, mAdd_at, subF, w1]

/-- The first number of a list for which something holds. -/
def fstI (p : Int → Bool) (l : List Int) : Option Int := l.find? p
theorem fstI_idx {p : Int → Bool} {l : List Int} {x : Int} (h : fstI p l = some x) : ∃ k : Nat, ∃ hk : k < l.length, idxOf p l = k ∧ l[k] = x ∧ p x = true := by
  unfold fstI at h
  obtain ⟨hp, k, hk, e, hno⟩ := List.find?_eq_some_iff_getElem.1 h
  refine ⟨k, hk, idxOf_found hk (fun j hj hjk => by simpa using hno j hjk) (by rw [e]; exact hp), e, hp⟩

theorem firstOf1 (nl : Bool) (xs : List Int) (x : Int) : CallOk Try.prog 141 [int x, .fp (ints nl xs) 0] (.v (.bool (decide (0 ≤ pos xs x)))) := by
  have hG : FnsOk Try.prog [(111, mHas)] := (.cons slicesContains_ok .nil)
  refine callOk_awp (ctx_ok eqOk hG) mixed (live := [true, true, false, true]) (dt := []) Try.func141 rfl (by kernel_rfl) (by kernel_rfl) fun w0 hlens => ?_
  simp (config := {contextual := true}) [Try.f141, List.range, List.range.loop, ints, intss, int, bool, row, frac, fracs, ← List.map_take, ← List.map_drop, mHas_at]

noncomputable def mFstL : List AV → Option AV := mk (fun (p : Bool × List Int × Bool × List Int × Int) => fstI (fun h => decide (0 ≤ pos p.2.2.2.1 h)) p.2.1 = some p.2.2.2.2) (fun p => [ints p.1 p.2.1, ints p.2.2.1 p.2.2.2.1]) (fun p => int p.2.2.2.2)
theorem mFstL_at (nl : Bool) (l : List Int) (nl' : Bool) (xs : List Int) (x : Int) (h : fstI (fun h => decide (0 ≤ pos xs h)) l = some x) : mFstL [.sl nl 1 (l.map int), .sl nl' 1 (xs.map int)] = some (.v (.int .i64 x)) := by
  unfold mFstL mk
  have hex : ∃ p : Bool × List Int × Bool × List Int × Int, fstI (fun h => decide (0 ≤ pos p.2.2.2.1 h)) p.2.1 = some p.2.2.2.2 ∧ [ints p.1 p.2.1, ints p.2.2.1 p.2.2.2.1] = [.sl nl 1 (l.map int), .sl nl' 1 (xs.map int)] := ⟨(nl, l, nl', xs, x), h, rfl⟩
  rw [dif_pos hex]
  have key : ∀ q : Bool × List Int × Bool × List Int × Int, fstI (fun h => decide (0 ≤ pos q.2.2.2.1 h)) q.2.1 = some q.2.2.2.2 → [ints q.1 q.2.1, ints q.2.2.1 q.2.2.2.1] = [AV.sl nl 1 (l.map int), .sl nl' 1 (xs.map int)] → q.2.2.2.2 = x := by
    rintro ⟨a, b, c, d, e⟩ k1 k2
    simp only [ints, List.cons.injEq, AV.sl.injEq, true_and, and_true, map_int_inj] at k1 k2
    obtain ⟨⟨_, rfl⟩, _, rfl⟩ := k2
    rw [h] at k1
    exact (Option.some.inj k1).symm
  show some (int hex.choose.2.2.2.2) = some (int x)
  rw [key _ hex.choose_spec.1 hex.choose_spec.2]

set_option maxHeartbeats 1000000 in
theorem firstOfLeft_ok : FnOk Try.prog 104 mFstL := by
  refine mk_ok fun ⟨nl, l, nl', xs, x⟩ h => ?_
  simp only at h
  obtain ⟨k, hk, e1, e2, _⟩ := fstI_idx h
  have hI := indexInts (g := 141) (caps := [.fp (ints nl' xs) 0]) ⟨fun _ => rfl, rfl, fun _ => rfl⟩ (fun h => decide (0 ≤ pos xs h)) nl l (fun x _ => firstOf1 nl' xs x)
  rw [e1] at hI
  have hat : only [ints nl l, .fn 141 [.fp (ints nl' xs) 0]] (int (k : Int)) [.sl nl 1 (l.map int), .fn 141 [.fp (.sl nl' 1 (xs.map int)) 0]] = some (.v (.int .i64 (k : Int))) := only_at
  have hIm := only_ok hI
  generalize only [ints nl l, .fn 141 [.fp (ints nl' xs) 0]] (int (k : Int)) = m at hIm hat
  have hG : FnsOk Try.prog [(140, m)] := (.cons hIm .nil)
  refine callOk_awp (ctx_ok eqOk hG) mixed (live := [true, true, false, true, true]) (dt := []) Try.func104 rfl (by kernel_rfl) (by kernel_rfl) fun w0 hlens => ?_
  clear hlens
  simp (config := {contextual := true}) [Try.f104, List.range, List.range.loop, ints, intss, int, bool, row, frac, fracs, ← List.map_take, ← List.map_drop, hat, hk, e2]

/-- The first that is left, or -1. -/
def fstB (bs : List Bool) (l : List Int) : Int := (fstI (fun h => bs.getD h.toNat false) l).getD (-1)
noncomputable def mFstB : List AV → Option AV := mk (fun (p : Bool × List Int × List Bool) => ∀ x ∈ p.2.1, 0 ≤ x ∧ x.toNat < p.2.2.length) (fun p => [ints p.1 p.2.1, bools false p.2.2]) (fun p => int (fstB p.2.2 p.2.1))
theorem mFstB_at (nl : Bool) (l : List Int) (bs : List Bool) (h : ∀ x ∈ l, 0 ≤ x ∧ x.toNat < bs.length) : mFstB [.sl nl 1 (l.map int), .sl false 1 (bs.map bool)] = some (.v (.int .i64 (fstB bs l))) :=
  mk_eq (enc := fun (p : Bool × List Int × List Bool) => [ints p.1 p.2.1, bools false p.2.2]) (x := (nl, l, bs)) (by rintro ⟨a, b, c⟩ ⟨d, e, f⟩ h; simp [ints, bools, map_int_inj, map_bool_inj] at h; simp [h]) h

set_option maxHeartbeats 1000000 in
theorem l22First_ok : FnOk Try.prog 45 mFstB := by
  refine mk_ok fun ⟨nl, l, bs⟩ hp => ?_
  simp only at hp
  have hG : FnsOk Try.prog [] := .nil
  refine callOk_awp (ctx_ok eqOk hG) mixed (live := [true, true, false, false, true, false, true, true, true, true, true, false, false, false, false, false, true]) (dt := []) Try.func45 rfl (by kernel_rfl) (by kernel_rfl) fun w0 hlens => ?_
  have hll : l.length ≤ 9223372036854775807 := (lens_ints.1 hlens.1).1
  clear hlens
  simp (config := {contextual := true}) [Try.f45, List.range, List.range.loop, ints, intss, int, bool, row, frac, fracs, ← List.map_take, ← List.map_drop, bools]
  refine awp_range (live := [true, true, false, false, true, false, true, true, true, true, true, false, false, false, false, false, true]) (ctx_ok eqOk hG) mixed [false, true, false, false, false, false, false, true, true, true] (l.length) (fun k => ∀ j (h : j < l.length), j < k → bs.getD l[j].toNat false = false) (fun k => ⟨[.junk, bools false bs, .junk, .junk, .junk, .junk, .junk, ints nl l, int l.length, int k, .junk, .junk, .junk, .junk, .junk, .junk, .junk, .junk, .junk], []⟩) ?_ (by simp [sub, slotsLe, clean, keep, refsL, refs, once, place, renL, ren, List.replicate, int, bool, ints, bools, bool]) ?_ ?_ ?_
  · exact hll
  · intro j _ hj; omega
  · intro k hk hno hwk
    obtain ⟨a, ha, hal⟩ : ∃ a : Nat, l[k] = a ∧ a < bs.length := by
      have := hp _ (List.getElem_mem hk)
      exact ⟨l[k].toNat, by omega, this.2⟩
    have hbg : bs.getD a false = bs[a] := by simp [List.getD_eq_getElem?_getD, hal]
    cases hb : bs[a] with
    | true =>
      have hf : fstI (fun h => bs.getD h.toNat false) l = some (a : Int) := by
        unfold fstI
        refine List.find?_eq_some_iff_getElem.2 ⟨by simp only [Int.toNat_natCast]; rw [hbg, hb], k, hk, ha, fun j hj => by simp only [hno j (by omega) hj]; rfl⟩
      have hf : fstB bs l = a := by unfold fstB; rw [hf]; rfl
      simp (config := {contextual := true}) [List.range, List.range.loop, ints, intss, int, bool, row, frac, fracs, ← List.map_take, ← List.map_drop, bools, hk, ha, hal, hb, hf]
    | false =>
      simp (config := {contextual := true}) [List.range, List.range.loop, ints, intss, int, bool, row, frac, fracs, ← List.map_take, ← List.map_drop, bools, hk, ha, hal, hb, hwk]
      intro j h hj
      by_cases e : j = k
      · subst e; rw [ha, Int.toNat_natCast]; have := hbg; rw [hb] at this; simpa [List.getD_eq_getElem?_getD] using this
      · simpa [List.getD_eq_getElem?_getD] using hno j h (by omega)
  · intro hno
    have hf : fstI (fun h => bs.getD h.toNat false) l = none := by
      unfold fstI
      rw [List.find?_eq_none]
      intro x hx
      obtain ⟨j, hj, rfl⟩ := List.getElem_of_mem hx
      simp only [hno j hj hj]; simp
    have hf : fstB bs l = -1 := by unfold fstB; rw [hf]; rfl
    simp (config := {contextual := true}) [List.range, List.range.loop, ints, intss, int, bool, row, frac, fracs, ← List.map_take, ← List.map_drop, bools, hf]

end Go.Proofs.Ytkfgmpmeipilnaa.Ax

/-
  Contracts: the best award (the program's own search). No condition.
-/
namespace Go.Proofs.Ytkfgmpmeipilnaa.Ax
open Go Go.RowKit
set_option linter.unusedSimpArgs false

/-- The best so far, as it lies in memory. -/
def bestAV : Option (List Int) → AV
  | none => .sl true 1 []
  | some l => .sl false 1 (l.map int)

/-- The worth of a whole award. -/
def wAw (xss : List (Bool × List Int)) (l : List Int) : Int := awTo xss l l.length

noncomputable def mBestA : List AV → Option AV := mk (fun p => rectB p.2.1 4 4 1000 = true ∧ -1 ≤ p.2.2 ∧ p.2.2 < p.2.1.length) (fun (p : Bool × List (Bool × List Int) × Int) => [intss p.1 p.2.1, int p.2.2])
  (fun p => bestAV (bestO (wAw p.2.1) (okP p.2.2) (allL (-1) ((wid p.2.1 : Int) - 1) p.2.1.length)))
theorem mBestA_at (nl : Bool) (xss : List (Bool × List Int)) (wo : Int) (h : rectB xss 4 4 1000 = true ∧ -1 ≤ wo ∧ wo < xss.length) : mBestA [.sl nl 1 (xss.map row), .v (.int .i64 wo)] = some (bestAV (bestO (wAw xss) (okP wo) (allL (-1) ((wid xss : Int) - 1) xss.length))) :=
  mk_eq (enc := fun (p : Bool × List (Bool × List Int) × Int) => [intss p.1 p.2.1, int p.2.2]) (x := (nl, xss, wo)) (by rintro ⟨a, b, c⟩ ⟨d, e, f⟩ h; simp [intss, int, map_row_inj] at h; simp [h]) h

theorem wAw_pre {xss : List (Bool × List Int)} (h : rectB xss 4 4 1000 = true) {l : List Int} (hl : l ∈ allL (-1) ((wid xss : Int) - 1) xss.length) : l.length ≤ xss.length ∧ ∀ i, i < l.length → l.getD i 0 < ((xss.getD i (true, [])).2.length : Int) := by
  obtain ⟨h1, h2⟩ := allL_mem hl
  refine ⟨by omega, fun i hi => ?_⟩
  have := (h2 _ (List.getElem_mem hi)).2
  have hr := (rect_row h (i := i) (by omega)).1
  rw [getD_at hi, List.getD_eq_getElem?_getD, List.getElem?_eq_getElem (by omega)]
  simp only [Option.getD_some]; omega

end Go.Proofs.Ytkfgmpmeipilnaa.Ax

/-
  Contracts: the best award (the reference's search). No condition.
-/
namespace Go.Proofs.Ytkfgmpmeipilnaa.Ax
open Go Go.RowKit
set_option linter.unusedSimpArgs false

/-- What the search from the front is asked. -/
def LB (xss : List (Bool × List Int)) (l : List Int) (wo : Int) (r : Nat) : Prop := rectB xss 4 4 1000 = true ∧ -1 ≤ wo ∧ l.length + r = xss.length ∧ okP wo l = true ∧ ∀ x ∈ l, -1 ≤ x ∧ x ≤ (wid xss : Int) - 1

noncomputable def bs (xss : List (Bool × List Int)) (wo : Int) (r : Nat) (l : List Int) : Option (List Int) := bestS (wAw xss) (skP wo) (-1) (wid xss + 1) r l

theorem bs_eq {xss : List (Bool × List Int)} {l : List Int} {wo : Int} {r : Nat} (h : LB xss l wo r) : bs xss wo r l = bestO (wAw xss) (okP wo) ((allL (-1) ((wid xss : Int) - 1) r).map (l ++ ·)) := by
  have := bestS_eq (W := wAw xss) (ok := okP wo) (sk := skP wo) (low := -1) (high := (wid xss : Int) - 1) (n := xss.length) (by omega) (fun l x m _ _ hs => okP_skip hs) (fun l x h _ hs => okP_keep h hs) r l h.2.2.2.1 h.2.2.1
  rw [← this]
  unfold bs
  congr 1; omega

theorem lb_pre {xss : List (Bool × List Int)} (h : rectB xss 4 4 1000 = true) {l : List Int} (hl : l.length ≤ xss.length) (hr : ∀ x ∈ l, -1 ≤ x ∧ x ≤ (wid xss : Int) - 1) : l.length ≤ xss.length ∧ ∀ i, i < l.length → l.getD i 0 < ((xss.getD i (true, [])).2.length : Int) := by
  refine ⟨hl, fun i hi => ?_⟩
  have := (hr _ (List.getElem_mem hi)).2
  have hr := (rect_row h (i := i) (by omega)).1
  rw [getD_at hi, List.getD_eq_getElem?_getD, List.getElem?_eq_getElem (by omega)]
  simp only [Option.getD_some]; omega

/-- The first number of the range is never passed over: something is found. -/
theorem bs_some {xss : List (Bool × List Int)} {wo : Int} : ∀ (r : Nat) (l : List Int), ∃ l', bs xss wo r l = some l'
  | 0, l => ⟨l, rfl⟩
  | r + 1, l => by
    obtain ⟨l1, h1⟩ := bs_some r (l ++ [-1])
    unfold bs at h1 ⊢
    simp only [bestS]
    rw [List.range_succ_eq_map, List.foldl_cons]
    have hs : skP wo l (-1 + ((0 : Nat) : Int)) = false := by simp [skP]
    rw [hs]
    simp only [Bool.false_eq_true, if_false]
    have h1' : bestS (wAw xss) (skP wo) (-1) (wid xss + 1) r (l ++ [-1 + ((0 : Nat) : Int)]) = some l1 := h1
    rw [h1']
    have key : ∀ (L : List Nat) (g : Option (List Int) → Nat → Option (List Int)) (a : List Int), (∀ a i, ∃ b, g (some a) i = some b) → ∃ b, L.foldl g (some a) = some b := by
      intro L
      induction L with
      | nil => intro g a _; exact ⟨a, rfl⟩
      | cons i L ih =>
        intro g a hg
        obtain ⟨b, hb⟩ := hg a i
        rw [List.foldl_cons, hb]; exact ih g b hg
    refine key _ _ l1 fun a i => ?_
    split
    · exact ⟨a, rfl⟩
    · cases bestS (wAw xss) (skP wo) (-1) (wid xss + 1) r (l ++ [-1 + (i : Int)]) with
      | none => exact ⟨a, rfl⟩
      | some b => simp only [comb]; split <;> exact ⟨_, rfl⟩

theorem bs_mem {xss : List (Bool × List Int)} {l : List Int} {wo : Int} {r : Nat} (h : LB xss l wo r) {l' : List Int} (hl : bs xss wo r l = some l') : l'.length = xss.length ∧ (∀ x ∈ l', -1 ≤ x ∧ x ≤ (wid xss : Int) - 1) ∧ okP wo l' = true := by
  rw [bs_eq h] at hl
  obtain ⟨h1, h2⟩ := bestO_mem hl
  obtain ⟨l2, h3, rfl⟩ := List.mem_map.1 h1
  obtain ⟨h4, h5⟩ := allL_mem h3
  refine ⟨by rw [List.length_append, h4]; exact h.2.2.1, fun x hx => ?_, h2⟩
  rcases List.mem_append.1 hx with hx | hx
  · exact h.2.2.2.2 x hx
  · exact h5 x hx

theorem LB.step {xss : List (Bool × List Int)} {l : List Int} {wo : Int} {r : Nat} (h : LB xss l wo (r + 1)) {x : Int} (hx : -1 ≤ x ∧ x ≤ (wid xss : Int) - 1) (hs : skP wo l x = false) : LB xss (l ++ [x]) wo r := by
  obtain ⟨h1, h2, h3, h4, h5⟩ := h
  refine ⟨h1, h2, by simp; omega, okP_keep h4 hs, fun y hy => ?_⟩
  rcases List.mem_append.1 hy with hy | hy
  · exact h5 y hy
  · simp at hy; subst hy; exact hx

noncomputable def mLB (r : Nat) : List AV → Option (List Nat × AV) := mkV (fun p => LB p.2.1 p.2.2.1 p.2.2.2 r) (fun (p : Bool × List (Bool × List Int) × List Int × Int) => [intss p.1 p.2.1, ints false p.2.2.1, int p.2.2.2]) [1] (fun p => ints false ((bs p.2.1 p.2.2.2 r p.2.2.1).getD []))
theorem mLB_at (r : Nat) (nl : Bool) (xss : List (Bool × List Int)) (l : List Int) (wo : Int) (h : LB xss l wo r) : mLB r [.sl nl 1 (xss.map row), .sl false 1 (l.map int), .v (.int .i64 wo)] = some ([1], .sl false 1 (((bs xss wo r l).getD []).map int)) :=
  mkV_eq (enc := fun (p : Bool × List (Bool × List Int) × List Int × Int) => [intss p.1 p.2.1, ints false p.2.2.1, int p.2.2.2]) (x := (nl, xss, l, wo)) (by rintro ⟨a, b, c, d⟩ ⟨e, f, g, h'⟩ h; simp [intss, ints, int, map_row_inj, map_int_inj] at h; simp [h]) h

/-- The best so far. -/
noncomputable def bsTo (xss : List (Bool × List Int)) (wo : Int) (r : Nat) (l : List Int) (k : Nat) : Option (List Int) :=
  (List.range k).foldl (fun o (i : Nat) => if skP wo l (-1 + (i : Int)) = true then o else comb (wAw xss) o (bs xss wo r (l ++ [-1 + (i : Int)]))) none
theorem bsTo_succ {xss : List (Bool × List Int)} {wo : Int} {r : Nat} {l : List Int} {k : Nat} : bsTo xss wo r l (k + 1) = if skP wo l (-1 + (k : Int)) = true then bsTo xss wo r l k else comb (wAw xss) (bsTo xss wo r l k) (bs xss wo r (l ++ [-1 + (k : Int)])) := by
  unfold bsTo
  rw [List.range_succ, List.foldl_append]; rfl
theorem bsTo_all {xss : List (Bool × List Int)} {wo : Int} {r : Nat} {l : List Int} : bsTo xss wo r l (wid xss + 1) = bs xss wo (r + 1) l := rfl
theorem bsTo_mem {xss : List (Bool × List Int)} {l : List Int} {wo : Int} {r : Nat} (h : LB xss l wo (r + 1)) : ∀ {k : Nat}, k ≤ wid xss + 1 → ∀ {b : List Int}, bsTo xss wo r l k = some b → b.length = xss.length ∧ ∀ x ∈ b, -1 ≤ x ∧ x ≤ (wid xss : Int) - 1
  | 0, _, b, hb => by simp [bsTo] at hb
  | k + 1, hk, b, hb => by
    rw [bsTo_succ] at hb
    split at hb
    · exact bsTo_mem h (by omega) hb
    · rename_i hs
      have hs' : skP wo l (-1 + (k : Int)) = false := by simpa using hs
      have hst := h.step (x := -1 + (k : Int)) ⟨by omega, by omega⟩ hs'
      obtain ⟨l1, h1⟩ := bs_some (xss := xss) (wo := wo) r (l ++ [-1 + (k : Int)])
      rw [h1] at hb
      have hm := bs_mem hst h1
      cases ho : bsTo xss wo r l k with
      | none => rw [ho] at hb; simp only [comb, Option.some.injEq] at hb; subst hb; exact ⟨hm.1, hm.2.1⟩
      | some a =>
        rw [ho] at hb
        simp only [comb] at hb
        split at hb
        · simp only [Option.some.injEq] at hb; subst hb; exact ⟨hm.1, hm.2.1⟩
        · simp only [Option.some.injEq] at hb; subst hb; exact bsTo_mem h (by omega) ho

end Go.Proofs.Ytkfgmpmeipilnaa.Ax
