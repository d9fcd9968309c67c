/-
  Contracts: slices.Grow of nil, slices.Concat of ints. No condition.
-/
import Derived.Test.YtigepnpiofcooaaGreatCG4
import Derived.Test.YtigepnpiofcooaaGreatCG6
import Derived.Test.YtigepnpiofcooaaGreatCG2
import Derived.Test.YtigepnpiofcooaaGreatCK4
namespace Go.Proofs.YtigepnpiofcooaaGreat.Ax
open Go Go.RowKit
set_option linter.unusedSimpArgs false
noncomputable def mGrow : List AV → Option AV := mk (fun p => p ≤ 1000000) (fun (p : Nat) => [.sl true 1 [], int (p : Int)]) (fun p => .sl (decide (p = 0)) 1 [])
theorem mGrow_at (n : Nat) (h : n ≤ 1000000) : mGrow [.sl true 1 [], .v (.int .i64 (n : Int))] = some (.sl (decide (n = 0)) 1 []) :=
  mk_eq (enc := fun (p : Nat) => [.sl true 1 [], int (p : Int)]) (x := n) (by intro a b h; simp [int] at h; exact (by omega : a = b) ▸ rfl) h
theorem growI_ok : FnOk Tryz.prog 168 mGrow := by
  refine mk_ok fun n hn => ?_
  have hG : FnsOk Tryz.prog [] := .nil
  refine callOk_awp (ctx_ok eqOk hG) mixed (live := [true, true, false, false, true, false, true, false, false, false, false, false, false, false, false, false, true]) (dt := []) Tryz.func168 rfl (by kernel_rfl) (by kernel_rfl) fun w0 hlens => ?_
  clear hlens
  have h1 : ¬ ((n : Int) < 0) := by omega
  have h2 : IntKind.i64.wrap (n : Int) = (n : Int) := wrapI (by omega) (by omega)
  have hz : IntKind.i64.wrap 0 = 0 := by decide
  by_cases h0 : n = 0
  · subst h0
    simp (config := {contextual := true}) [Tryz.f168, List.range, List.range.loop, ints, intss, int, bool, row, frac, fracs, ← List.map_take, ← List.map_drop, h1, h2, hz]
  · have h3 : 0 < n := by omega
    have h4 : n ≤ 4611686018427387904 ∧ n * 8 ≤ 140737488355328 := by omega
    have h0' : ¬ (0 = n) := by omega
    simp (config := {contextual := true}) [Tryz.f168, List.range, List.range.loop, ints, intss, int, bool, row, frac, fracs, ← List.map_take, ← List.map_drop, h0, h0', h1, h2, hz, h3, h4]
def cat (xss : List (Bool × List Int)) : List Int := xss.flatMap (·.2)
def catTo (xss : List (Bool × List Int)) (k : Nat) : List Int := (xss.take k).flatMap (·.2)
theorem catTo_succ {xss : List (Bool × List Int)} {k : Nat} (h : k < xss.length) : catTo xss (k + 1) = catTo xss k ++ xss[k].2 := by
  unfold catTo
  rw [List.take_succ_eq_append_getElem h, List.flatMap_append]; simp
theorem catTo_all {xss : List (Bool × List Int)} : catTo xss xss.length = cat xss := by simp [catTo, cat]
theorem catTo_le {xss : List (Bool × List Int)} : ∀ {k : Nat}, (catTo xss k).length ≤ (cat xss).length := by
  intro k
  unfold catTo cat
  conv => rhs; rw [← List.take_append_drop k xss, List.flatMap_append]
  simp
noncomputable def mConcat : List AV → Option AV := mk (fun p => p.2.length ≤ 1000 ∧ (cat p.2).length ≤ 1000000) (fun (p : Bool × List (Bool × List Int)) => [intss p.1 p.2]) (fun p => .sl (decide (cat p.2 = [])) 1 ((cat p.2).map int))
theorem mConcat_at (nl : Bool) (xss : List (Bool × List Int)) (h : xss.length ≤ 1000 ∧ (cat xss).length ≤ 1000000) : mConcat [.sl nl 1 (xss.map row)] = some (.sl (decide (cat xss = [])) 1 ((cat xss).map int)) :=
  mk_eq (enc := fun (p : Bool × List (Bool × List Int)) => [intss p.1 p.2]) (x := (nl, xss)) (by rintro ⟨a, b⟩ ⟨c, d⟩ h; simp [intss, map_row_inj] at h; simp [h]) h
set_option maxHeartbeats 1000000 in
theorem concatI_ok : FnOk Tryz.prog 164 mConcat := by
  refine mk_ok fun ⟨nl, xss⟩ ⟨hl, ht⟩ => ?_
  simp only at hl ht
  have hG : FnsOk Tryz.prog [(168, mGrow)] := (.cons growI_ok .nil)
  refine callOk_awp (ctx_ok eqOk hG) mixed (live := [true, false, true, true, false, true, true, false, true, true, true, true, true, false, false, false, false, false, false, false, true, false, false, false, false, true, true, true, true]) (dt := []) Tryz.func164 rfl (by kernel_rfl) (by kernel_rfl) fun w0 hlens => ?_
  clear hlens
  simp (config := {contextual := true}) [Tryz.f164, List.range, List.range.loop, ints, intss, int, bool, row, frac, fracs, ← List.map_take, ← List.map_drop]
  refine awp_range (live := [true, false, true, true, false, true, true, false, true, true, true, true, true, false, false, false, false, false, false, false, true, false, false, false, false, true, true, true, true]) (ctx_ok eqOk hG) mixed [true, false, false, true, false, false, false, false, false, true, true, true] (xss.length) (fun k => True) (fun k => ⟨[intss nl xss, .junk, .junk, int ((catTo xss k).length : Int), .junk, .junk, .junk, .junk, .junk, intss nl xss, int xss.length, int k, .junk, .junk, .junk, .junk, .junk, .junk, .junk, .junk, .junk, .junk, .junk, .junk, .junk, .junk, .junk, .junk, .junk, .junk, .junk, .junk, .junk, .junk, .junk, .junk], []⟩) ?_ (by simp [sub, slotsLe, clean, keep, refsL, refs, once, place, renL, ren, List.replicate, int, bool, intss, catTo]) ?_ ?_ ?_
  · omega
  · trivial
  · intro k hk _ hwk
    have hs := catTo_succ hk
    have hle := catTo_le (xss := xss) (k := k + 1)
    rw [hs, List.length_append] at hle
    have hw2 : IntKind.i64.wrap (((catTo xss k).length : Int) + (xss[k].2.length : Int)) = ((catTo xss k).length : Int) + (xss[k].2.length : Int) := wrapI (by omega) (by omega)
    have hno : ¬ (((catTo xss k).length : Int) + (xss[k].2.length : Int) < 0) := by omega
    simp (config := {contextual := true}) [List.range, List.range.loop, ints, intss, int, bool, row, frac, fracs, ← List.map_take, ← List.map_drop, hk, hwk, hs, hw2, hno]
  · intro _
    rw [catTo_all]
    have hg := mGrow_at _ ht
    have hd : decide ((cat xss).length = 0) = decide (cat xss = []) := decide_eq_decide.2 List.length_eq_zero_iff
    rw [hd] at hg
    simp (config := {contextual := true}) [List.range, List.range.loop, ints, intss, int, bool, row, frac, fracs, ← List.map_take, ← List.map_drop, hg]
    generalize hD : decide (cat xss = []) = D at hg
    have hDk : ∀ k (hk : k < xss.length), D = true → xss[k].2 = [] := fun k hk hd => by
      subst hD
      have h0 : cat xss = [] := by simpa using hd
      have : xss[k].2 ∈ xss.map (·.2) := List.mem_map.2 ⟨_, List.getElem_mem hk, rfl⟩
      simp only [cat, List.flatMap_eq_nil_iff] at h0
      exact h0 _ (List.getElem_mem hk)
    refine awp_range (live := [true, false, true, true, false, true, true, false, true, true, true, true, true, false, false, false, false, false, false, false, true, false, false, false, false, true, true, true, true]) (ctx_ok eqOk hG) mixed [false, false, false, false, false, false, true, false, false, false, false, false, false, false, false, false, false, false, false, false, false, false, false, false, false, true, true, true] (xss.length) (fun k => True) (fun k => ⟨[.junk, .junk, .junk, .junk, .junk, .junk, .ref 0 [] 0 (catTo xss k).length, .junk, .junk, .junk, .junk, .junk, .junk, .junk, .junk, .junk, .junk, .junk, .junk, .junk, .junk, .junk, .junk, .junk, .junk, intss nl xss, int xss.length, int k, .junk, .junk, .junk, .junk, .junk, .junk, .junk, .junk], [⟨true, .sl D 1 ((catTo xss k).map int)⟩]⟩) ?_ (by simp [sub, slotsLe, clean, keep, refsL, refs, once, place, renL, ren, List.replicate, int, bool, intss, catTo]) ?_ ?_ ?_
    · omega
    · trivial
    · intro k hk _ hwk
      have hs := catTo_succ hk
      have hle := catTo_le (xss := xss) (k := k + 1)
      rw [hs, List.length_append] at hle
      have hb : (catTo xss k).length + xss[k].2.length ≤ 4611686018427387904 ∧ ((catTo xss k).length + xss[k].2.length) * 8 ≤ 140737488355328 := by omega
      cases hDD : D with
      | true =>
        have hx0 := hDk k hk hDD
        have hb2 : (catTo xss k).length ≤ 4611686018427387904 ∧ (catTo xss k).length * 8 ≤ 140737488355328 := by omega
        simp (config := {contextual := true}) [List.range, List.range.loop, ints, intss, int, bool, row, frac, fracs, ← List.map_take, ← List.map_drop, hk, hwk, hs, hb2, hx0]
      | false =>
        simp (config := {contextual := true}) [List.range, List.range.loop, ints, intss, int, bool, row, frac, fracs, ← List.map_take, ← List.map_drop, hk, hwk, hs, hb]
    · intro _
      simp (config := {contextual := true}) [List.range, List.range.loop, ints, intss, int, bool, row, frac, fracs, ← List.map_take, ← List.map_drop, catTo_all]
end Go.Proofs.YtigepnpiofcooaaGreat.Ax
namespace Go.Proofs.YtigepnpiofcooaaGreat.Ax
open Go Go.RowKit
set_option linter.unusedSimpArgs false
def ordR : Nat → List Int → List (Bool × List Int)
  | 0, _ => [(true, [])]
  | n + 1, l => (List.range l.length).flatMap fun i => (ordR n (l.take i ++ l.drop (i + 1))).map fun r => (false, l.getD i 0 :: r.2)
def ordTo (n : Nat) (l : List Int) (k : Nat) : List (Bool × List Int) := (List.range k).flatMap fun i => (ordR n (l.take i ++ l.drop (i + 1))).map fun r => (false, l.getD i 0 :: r.2)
def ordTo2 (n : Nat) (l : List Int) (k j : Nat) : List (Bool × List Int) := ordTo n l k ++ ((ordR n (l.take k ++ l.drop (k + 1))).take j).map fun r => (false, l.getD k 0 :: r.2)
theorem ordTo2_zero {n : Nat} {l : List Int} {k : Nat} : ordTo2 n l k 0 = ordTo n l k := by simp [ordTo2]
theorem ordTo2_all {n : Nat} {l : List Int} {k : Nat} : ordTo2 n l k (ordR n (l.take k ++ l.drop (k + 1))).length = ordTo n l (k + 1) := by
  simp [ordTo2, ordTo, List.range_succ]
theorem ordTo2_succ {n : Nat} {l : List Int} {k j : Nat} (h : j < (ordR n (l.take k ++ l.drop (k + 1))).length) : ordTo2 n l k (j + 1) = ordTo2 n l k j ++ [(false, l.getD k 0 :: (ordR n (l.take k ++ l.drop (k + 1)))[j].2)] := by
  unfold ordTo2
  rw [List.take_succ_eq_append_getElem h, List.map_append, ← List.append_assoc]; rfl
theorem ordR_succ {n : Nat} {l : List Int} : ordR (n + 1) l = ordTo n l l.length := rfl
theorem ordR_row : ∀ {n : Nat} {l : List Int}, l.length = n → ∀ r ∈ ordR n l, r.2.length = n
  | 0, l, _, r, hr => by simp [ordR] at hr; subst hr; rfl
  | n + 1, l, hl, r, hr => by
    simp only [ordR, List.mem_flatMap, List.mem_map, List.mem_range] at hr
    obtain ⟨i, hi, r', hr', rfl⟩ := hr
    have := ordR_row (n := n) (l := l.take i ++ l.drop (i + 1)) (by simp; omega) r' hr'
    simp [this]
theorem ordR_flag : ∀ {n : Nat} {l : List Int}, ∀ r ∈ ordR n l, r = (true, []) ∨ r = (false, r.2)
  | 0, _, r, hr => by simp [ordR] at hr; exact Or.inl hr
  | n + 1, l, r, hr => by
    simp only [ordR, List.mem_flatMap, List.mem_map, List.mem_range] at hr
    obtain ⟨i, hi, r', hr', rfl⟩ := hr
    exact Or.inr rfl
def fact : Nat → Nat
  | 0 => 1
  | n + 1 => (n + 1) * fact n
theorem ordTo_len {n : Nat} {l : List Int} (ih : ∀ l' : List Int, l'.length = n → (ordR n l').length = fact n) (hl : l.length = n + 1) : ∀ {k : Nat}, k ≤ n + 1 → (ordTo n l k).length = k * fact n
  | 0, _ => by simp [ordTo]
  | k + 1, hk => by
    have := ordTo_len ih hl (k := k) (by omega)
    rw [← ordTo2_all]
    unfold ordTo2
    rw [List.length_append, this, List.length_map, List.take_length, ih _ (by simp; omega), Nat.add_mul]
    omega
theorem ordR_len : ∀ {n : Nat} {l : List Int}, l.length = n → (ordR n l).length = fact n
  | 0, l, _ => rfl
  | n + 1, l, hl => by
    rw [ordR_succ, hl]
    exact ordTo_len (fun l' h => ordR_len h) hl (Nat.le_refl _)
noncomputable def mOrd (n : Nat) : List AV → Option AV := mk (fun p => p.2.length = n ∧ n ≤ 5 ∧ (p.1 = true → n = 0)) (fun (p : Bool × List Int) => [ints p.1 p.2]) (fun p => .sl false 1 ((ordR n p.2).map row))
theorem mOrd_at (n : Nat) (nl : Bool) (l : List Int) (h : l.length = n ∧ n ≤ 5 ∧ (nl = true → n = 0)) : mOrd n [.sl nl 1 (l.map int)] = some (.sl false 1 ((ordR n l).map row)) :=
  mk_eq (enc := fun (p : Bool × List Int) => [ints p.1 p.2]) (x := (nl, l)) (by rintro ⟨a, b⟩ ⟨c, d⟩ h; simp [ints, map_int_inj] at h; simp [h]) h
theorem orders_zero : (FnOk Tryz.prog 152 (mOrd 0)) := by
  refine mk_ok fun ⟨nl, l⟩ ⟨hl, _⟩ => ?_
  simp only at hl
  have hG : FnsOk Tryz.prog [(164, mConcat)] := (.cons concatI_ok .nil)
  refine callOk_awp (ctx_ok eqOk hG) mixed (live := [true, false, true, true, true, true, false, true, false, false, true, false, true, true, true, true, false, false, false, false, false, false, false, false, false, false, false, false, true, true, true, true]) (dt := [(7, ⟨[], [0, 0, 0, 0, 0, 0, 0, 1, 1, 1], []⟩)]) Tryz.func152 rfl (by kernel_rfl) (by kernel_rfl) fun w0 hlens => ?_
  clear hlens
  have hl0 : l = [] := List.length_eq_zero_iff.1 hl
  subst hl0
  simp (config := {contextual := true}) [Tryz.f152, List.range, List.range.loop, ints, intss, int, bool, row, frac, fracs, ← List.map_take, ← List.map_drop, ordR]
def apO (R : List (Bool × List Int)) : AV := match R with
  | [] => .sl true 1 []
  | _ :: R => .ref 0 [] 0 (R.length + 1)
def apT1 (R : List (Bool × List Int)) : List Tok := match R with
  | [] => []
  | r :: R => [⟨true, .sl false 1 ((r :: R).map row)⟩]
theorem fact_pos : ∀ {n : Nat}, 0 < fact n
  | 0 => Nat.one_pos
  | n + 1 => Nat.mul_pos (Nat.succ_pos n) fact_pos
theorem fact_le : ∀ {n : Nat}, n ≤ 4 → fact n ≤ 24 := by decide
set_option maxHeartbeats 2000000 in
theorem orders_succ {n : Nat} (hn : n ≤ 4) (ih : FnOk Tryz.prog 152 (mOrd n)) : FnOk Tryz.prog 152 (mOrd (n + 1)) := by
  refine mk_ok fun ⟨nl, l⟩ ⟨hl, _, hnl⟩ => ?_
  simp only at hl hnl
  have hnl' : nl = false := by cases nl; rfl; exact absurd (hnl rfl) (by omega)
  subst hnl'
  clear hnl
  have hG : FnsOk Tryz.prog [(164, mConcat)] := (.cons concatI_ok .nil)
  have hM : FnsMut Tryz.prog [] := .nil
  have hV : FnsMov Tryz.prog [] := .nil
  have hK : FnsFrz Tryz.prog [(152, false, mOrd n)] := (.cons (FnOk.frz ih) .nil)
  refine callOk_awp (ctxH_ok eqOk hG hM hV hK) mixed (live := [true, false, true, true, true, true, false, true, false, false, true, false, true, true, true, true, false, false, false, false, false, false, false, false, false, false, false, false, true, true, true, true]) (dt := [(7, ⟨[], [0, 0, 0, 0, 0, 0, 0, 1, 1, 1], []⟩)]) Tryz.func152 rfl (by kernel_rfl) (by kernel_rfl) fun w0 hlens => ?_
  clear hlens
  have hl0 : ¬ ((l.length : Int) = 0) := by omega
  rw [ordR_succ, hl]
  have hf := fact_le hn
  simp (config := {contextual := true}) [Tryz.f152, List.range, List.range.loop, ints, intss, int, bool, row, frac, fracs, ← List.map_take, ← List.map_drop, List.all, hl0, hl]
  refine awp_range (live := [true, false, true, true, true, true, false, true, false, false, true, false, true, true, true, true, false, false, false, false, false, false, false, false, false, false, false, false, true, true, true, true]) (ctxH_ok eqOk hG hM hV hK) mixed [true, false, false, true, false, false, false, false, false, false, false, false, true, true, true] (n + 1) (fun k => True) (fun k => ⟨[ints false l, .junk, .junk, apO (ordTo n l k), .junk, .junk, .junk, .junk, .junk, .junk, .junk, .junk, ints false l, int ((n : Int) + 1), int k, .junk, .junk, .junk, .junk, .junk, .junk, .junk, .junk, .junk, .junk, .junk, .junk, .junk, .junk, .junk, .junk, .junk, .junk, .junk, .junk, .junk, .junk, .junk, .junk, .junk, .junk, .junk, .junk, .junk, .junk], apT1 (ordTo n l k)⟩) ?_ (by simp [sub, slotsLe, clean, keep, refsL, refs, once, place, renL, ren, List.replicate, int, bool, ordTo, apO, apT1, ints, hl]) ?_ ?_ ?_
  · omega
  · trivial
  · intro k hk _ hwk
    have hkl : k < l.length := by omega
    have hx : l.getD k 0 = l[k] := getD_at hkl
    have hlen : (l.take k ++ l.drop (k + 1)).length = n := by simp; omega
    have htd : List.take (n + 1 - (k + 1)) (List.drop (k + 1) l) = List.drop (k + 1) l := List.take_of_length_le (by simp; omega)
    have htd2 : List.take (n - k) (List.drop (k + 1) l) = List.drop (k + 1) l := List.take_of_length_le (by simp; omega)
    have hcc := mConcat_at false [(false, l.take k), (false, l.drop (k + 1))] ⟨by simp, by simp [cat]; omega⟩
    simp only [List.map_cons, List.map_nil, row, cat, List.flatMap_cons, List.flatMap_nil, List.append_nil] at hcc
    have hoo := mOrd_at n (decide (l.take k ++ l.drop (k + 1) = [])) (l.take k ++ l.drop (k + 1)) ⟨hlen, by omega, fun h => by simpa [hlen] using congrArg List.length (of_decide_eq_true h)⟩
    have h2all := ordTo2_all (n := n) (l := l) (k := k)
    have h2z := ordTo2_zero (n := n) (l := l) (k := k)
    have h2s := fun j => ordTo2_succ (n := n) (l := l) (k := k) (j := j)
    have hRrow := ordR_row hlen
    have hRl := ordR_len hlen
    have hRf := ordR_flag (n := n) (l := l.take k ++ l.drop (k + 1))
    have hAl := ordTo_len (n := n) (l := l) (fun l' h => ordR_len h) hl (k := k) (by omega)
    have h2l : ∀ j, j ≤ (ordR n (l.take k ++ l.drop (k + 1))).length → (ordTo2 n l k j).length ≤ 120 := fun j hj => by
      simp only [ordTo2, List.length_append, List.length_map, List.length_take, hAl]
      have := Nat.mul_le_mul (show k ≤ 4 by omega) hf
      omega
    have hk2 : k ≤ n + 1 := by omega
    have hk3 : k ≤ n := by omega
    have hki : (k : Int) < (n : Int) + 1 := by omega
    have hinit : ∀ (P : Bool), apO (ordTo2 n l k 0) = apO (ordTo n l k) := fun _ => by rw [h2z]
    generalize hLL : l.take k ++ l.drop (k + 1) = L at *
    have htL : List.take n L = L := List.take_of_length_le (by omega)
    generalize decide (L = []) = b at *
    generalize hRR : ordR n L = R at *
    have hgo : ∀ A0 : List (Bool × List Int), ordTo n l k = A0 → ordTo n l k = A0 := fun _ h => h
    have hcc2 := fun (j : Nat) (h : j < R.length) => mConcat_at false [(false, [l[k]]), R[j]] ⟨by simp, by simp [cat]; have := hRrow _ (List.getElem_mem h); omega⟩
    simp only [List.map_cons, List.map_nil, row, cat, List.flatMap_cons, List.flatMap_nil, List.append_nil, List.cons_append, List.nil_append, int] at hcc2
    cases hA : ordTo n l k with
    | nil =>
      simp (config := {contextual := true}) [List.range, List.range.loop, ints, intss, int, bool, row, frac, fracs, ← List.map_take, ← List.map_drop, List.all, hk, hkl, hwk, hl, htd, htd2, htL, hcc, hoo, hlen, apO, apT1, hki, hk2, hk3]
      refine awp_range (live := [true, false, true, true, true, true, false, true, false, false, true, false, true, true, true, true, false, false, false, false, false, false, false, false, false, false, false, false, true, true, true, true]) (ctxH_ok eqOk hG hM hV hK) mixed [true, false, false, true, false, true, false, false, false, false, false, false, true, true, true, false, false, false, false, false, false, false, false, false, false, false, false, false, true, true, true] (R.length) (fun j => True) (fun j => ⟨[ints false l, .junk, .junk, apO (ordTo2 n l k j), .junk, int l[k], .junk, .junk, .junk, .junk, .junk, .junk, ints false l, int ((n : Int) + 1), int k, .junk, .junk, .junk, .junk, .junk, .junk, .junk, .junk, .junk, .junk, .junk, .junk, .junk, .sl false 1 (R.map row), int R.length, int j, .junk, .junk, .junk, .junk, .junk, .junk, .junk, .junk, .junk, .junk, .junk, .junk, .junk, .junk], apT1 (ordTo2 n l k j)⟩) ?_ (by simp [sub, slotsLe, clean, keep, refsL, refs, once, place, renL, ren, List.replicate, int, bool, h2z, hA, row, apO, apT1, ints, hl, hRl]) ?_ ?_ ?_
      · omega
      · trivial
      · intro j hj _ hwj
        have hs := h2s j hj
        have hc := hcc2 j hj
        have hl2 := h2l (j + 1) (by omega)
        have hr := hRrow _ (List.getElem_mem hj)
        have hf := hRf _ (List.getElem_mem hj)
        have hxg : l[k]?.getD 0 = l[k] := by rw [List.getElem?_eq_getElem hkl]; rfl
        generalize hrj : R[j] = r at *
        have hl3 := h2l j (by omega)
        rcases hf with hf | hf
        all_goals rw [hf] at hc hs hr hrj
        all_goals simp only [List.map_nil] at hc hs hr hrj
        all_goals rcases hB : ordTo2 n l k j with _ | ⟨r1, B⟩
        · simp (config := {contextual := true}) [List.range, List.range.loop, ints, intss, int, bool, row, frac, fracs, ← List.map_take, ← List.map_drop, List.all, hj, hwj, hs, hc, hr, apO, apT1, hB, hxg, hrj]
          done
        · have hl4 : B.length ≤ 4611686018427387902 ∧ (B.length + 1 + 1) * 24 ≤ 140737488355328 := by rw [hB, List.length_cons] at hl3; omega
          simp (config := {contextual := true}) [List.range, List.range.loop, ints, intss, int, bool, row, frac, fracs, ← List.map_take, ← List.map_drop, List.all, hj, hwj, hs, hc, hr, apO, apT1, hB, hxg, hrj, hl4]
          done
        · simp (config := {contextual := true}) [List.range, List.range.loop, ints, intss, int, bool, row, frac, fracs, ← List.map_take, ← List.map_drop, List.all, hj, hwj, hs, hc, hr, apO, apT1, hB, hxg, hrj]
          done
        · have hl4 : B.length ≤ 4611686018427387902 ∧ (B.length + 1 + 1) * 24 ≤ 140737488355328 := by rw [hB, List.length_cons] at hl3; omega
          simp (config := {contextual := true}) [List.range, List.range.loop, ints, intss, int, bool, row, frac, fracs, ← List.map_take, ← List.map_drop, List.all, hj, hwj, hs, hc, hr, apO, apT1, hB, hxg, hrj, hl4]
          done
      · intro _
        cases hD : ordTo n l (k + 1) <;> simp (config := {contextual := true}) [List.range, List.range.loop, ints, intss, int, bool, row, frac, fracs, ← List.map_take, ← List.map_drop, List.all, h2all, hD, hwk, apO, apT1]
        done
    | cons r0 A =>
      simp (config := {contextual := true}) [List.range, List.range.loop, ints, intss, int, bool, row, frac, fracs, ← List.map_take, ← List.map_drop, List.all, hk, hkl, hwk, hl, htd, htd2, htL, hcc, hoo, hlen, apO, apT1, hki, hk2, hk3]
      refine awp_range (live := [true, false, true, true, true, true, false, true, false, false, true, false, true, true, true, true, false, false, false, false, false, false, false, false, false, false, false, false, true, true, true, true]) (ctxH_ok eqOk hG hM hV hK) mixed [true, false, false, true, false, true, false, false, false, false, false, false, true, true, true, false, false, false, false, false, false, false, false, false, false, false, false, false, true, true, true] (R.length) (fun j => True) (fun j => ⟨[ints false l, .junk, .junk, apO (ordTo2 n l k j), .junk, int l[k], .junk, .junk, .junk, .junk, .junk, .junk, ints false l, int ((n : Int) + 1), int k, .junk, .junk, .junk, .junk, .junk, .junk, .junk, .junk, .junk, .junk, .junk, .junk, .junk, .sl false 1 (R.map row), int R.length, int j, .junk, .junk, .junk, .junk, .junk, .junk, .junk, .junk, .junk, .junk, .junk, .junk, .junk, .junk], apT1 (ordTo2 n l k j)⟩) ?_ (by simp [sub, slotsLe, clean, keep, refsL, refs, once, place, renL, ren, List.replicate, int, bool, h2z, hA, row, apO, apT1, ints, hl, hRl]) ?_ ?_ ?_
      · omega
      · trivial
      · intro j hj _ hwj
        have hs := h2s j hj
        have hc := hcc2 j hj
        have hl2 := h2l (j + 1) (by omega)
        have hr := hRrow _ (List.getElem_mem hj)
        have hf := hRf _ (List.getElem_mem hj)
        have hxg : l[k]?.getD 0 = l[k] := by rw [List.getElem?_eq_getElem hkl]; rfl
        generalize hrj : R[j] = r at *
        have hl3 := h2l j (by omega)
        rcases hf with hf | hf
        all_goals rw [hf] at hc hs hr hrj
        all_goals simp only [List.map_nil] at hc hs hr hrj
        all_goals rcases hB : ordTo2 n l k j with _ | ⟨r1, B⟩
        · simp (config := {contextual := true}) [List.range, List.range.loop, ints, intss, int, bool, row, frac, fracs, ← List.map_take, ← List.map_drop, List.all, hj, hwj, hs, hc, hr, apO, apT1, hB, hxg, hrj]
          done
        · have hl4 : B.length ≤ 4611686018427387902 ∧ (B.length + 1 + 1) * 24 ≤ 140737488355328 := by rw [hB, List.length_cons] at hl3; omega
          simp (config := {contextual := true}) [List.range, List.range.loop, ints, intss, int, bool, row, frac, fracs, ← List.map_take, ← List.map_drop, List.all, hj, hwj, hs, hc, hr, apO, apT1, hB, hxg, hrj, hl4]
          done
        · simp (config := {contextual := true}) [List.range, List.range.loop, ints, intss, int, bool, row, frac, fracs, ← List.map_take, ← List.map_drop, List.all, hj, hwj, hs, hc, hr, apO, apT1, hB, hxg, hrj]
          done
        · have hl4 : B.length ≤ 4611686018427387902 ∧ (B.length + 1 + 1) * 24 ≤ 140737488355328 := by rw [hB, List.length_cons] at hl3; omega
          simp (config := {contextual := true}) [List.range, List.range.loop, ints, intss, int, bool, row, frac, fracs, ← List.map_take, ← List.map_drop, List.all, hj, hwj, hs, hc, hr, apO, apT1, hB, hxg, hrj, hl4]
          done
      · intro _
        cases hD : ordTo n l (k + 1) <;> simp (config := {contextual := true}) [List.range, List.range.loop, ints, intss, int, bool, row, frac, fracs, ← List.map_take, ← List.map_drop, List.all, h2all, hD, hwk, apO, apT1]
        done
  · intro _
    cases hA : ordTo n l (n + 1) with
    | nil =>
      have := ordTo_len (n := n) (l := l) (fun l' h => ordR_len h) hl (k := n + 1) (by omega)
      have h0 : 0 < fact n := fact_pos
      rw [hA] at this
      have h1 := Nat.mul_pos (Nat.succ_pos n) h0
      simp only [List.length_nil] at this
      have h2 : (n + 1) * fact n = n.succ * fact n := rfl
      omega
    | cons r0 A =>
      simp (config := {contextual := true}) [List.range, List.range.loop, ints, intss, int, bool, row, frac, fracs, ← List.map_take, ← List.map_drop, List.all, hl, apO, apT1, hA]
      done
end Go.Proofs.YtigepnpiofcooaaGreat.Ax
namespace Go.Proofs.YtigepnpiofcooaaGreat.Ax
open Go Go.RowKit
set_option linter.unusedSimpArgs false
end Go.Proofs.YtigepnpiofcooaaGreat.Ax
namespace Go.Proofs.YtigepnpiofcooaaGreat.Ax
open Go Go.RowKit
set_option linter.unusedSimpArgs false
theorem orders_all : ∀ n, n ≤ 5 → FnOk Tryz.prog 152 (mOrd n)
  | 0, _ => orders_zero
  | n + 1, h => orders_succ (by omega) (orders_all n (by omega))
def l03L (m : Nat) : Nat → List Int → List (Bool × List Int)
  | 0, l => [(false, l)]
  | r + 1, l => (List.range m).flatMap fun (i : Nat) => if pos l (i : Int) < 0 then l03L m r (l ++ [(i : Int)]) else []
def l03To (m r : Nat) (l : List Int) (k : Nat) : List (Bool × List Int) := (List.range k).flatMap fun (i : Nat) => if pos l (i : Int) < 0 then l03L m r (l ++ [(i : Int)]) else []
theorem l03To_succ {m r : Nat} {l : List Int} {k : Nat} : l03To m r l (k + 1) = l03To m r l k ++ (if pos l (k : Int) < 0 then l03L m r (l ++ [(k : Int)]) else []) := by
  unfold l03To; rw [List.range_succ, List.flatMap_append]; simp
theorem l03To_all {m r : Nat} {l : List Int} : l03To m r l m = l03L m (r + 1) l := rfl
theorem l03To_le {m r : Nat} {l : List Int} : ∀ {k j : Nat}, k ≤ j → (l03To m r l k).length ≤ (l03To m r l j).length
  | k, 0, h => by rw [Nat.le_zero.1 h]; exact Nat.le_refl _
  | k, j + 1, h => by
    rcases Nat.lt_or_ge k (j + 1) with h' | h'
    · have := l03To_le (m := m) (r := r) (l := l) (show k ≤ j by omega)
      rw [l03To_succ, List.length_append]; omega
    · rw [show k = j + 1 by omega]; exact Nat.le_refl _
theorem rankings_eq : ∀ m, m ≤ 5 → 1 ≤ m → ordR m (idx m) = l03L m m []
  | 1, _, _ => by decide +kernel
  | 2, _, _ => by decide +kernel
  | 3, _, _ => by decide +kernel
  | 4, _, _ => by decide +kernel
  | 5, _, _ => by decide +kernel
  | 0, _, h => by omega
  | m + 6, h, _ => by omega
def LR (o : List (Bool × List Int)) (l : List Int) (m : Int) (r : Nat) : Prop := ((l.length + r : Nat) : Int) = m ∧ m ≤ 5 ∧ o.length + (l03L m.toNat r l).length ≤ 100000
noncomputable def mL03 (r : Nat) : List AV → Option (List Nat × AV) := mkV (fun p => LR p.1 p.2.1 p.2.2 r) (fun (p : List (Bool × List Int) × List Int × Int) => [intss false p.1, ints false p.2.1, int p.2.2]) [0, 1] (fun p => intss false (p.1 ++ l03L p.2.2.toNat r p.2.1))
theorem mL03_at (r : Nat) (o : List (Bool × List Int)) (l : List Int) (m : Int) (h : LR o l m r) : mL03 r [.sl false 1 (o.map row), .sl false 1 (l.map int), .v (.int .i64 m)] = some ([0, 1], .sl false 1 ((o ++ l03L m.toNat r l).map row)) :=
  mkV_eq (enc := fun (p : List (Bool × List Int) × List Int × Int) => [intss false p.1, ints false p.2.1, int p.2.2]) (x := (o, l, m)) (by rintro ⟨a, b, c⟩ ⟨e, f, g⟩ h; simp [intss, ints, int, map_row_inj, map_int_inj] at h; simp [h]) h
set_option maxHeartbeats 1000000 in
theorem l03All_zero : (FnMov Tryz.prog 157 (mL03 0)) := by
  refine mkV_ok fun ⟨o, l, m⟩ h => ?_
  simp only at h
  have hG : FnsOk Tryz.prog [(141, mPos)] := (.cons placeOf_ok .nil)
  refine movOk_awp (ctx_ok eqOk hG) mixed (live := [true, true, true, false, false, false, true, true, false, false, false, true, false, false, false, false, false, false, true, false, false, false, false, false, true]) (dt := []) (mv := [0,1]) Tryz.func157 rfl (by kernel_rfl) (by kernel_rfl) fun US w0 hlens => ?_
  simp only [List.map, List.getD_cons_zero, List.getD_cons_succ, internL, intern, setSl, List.set, List.length_nil, List.nil_append, List.length_map]
  clear hlens
  have hl : (l.length : Int) = m := h.1
  have hb := h.2.2
  simp only [l03L, List.length_cons, List.length_nil] at hb
  have hb2 : o.length + 1 ≤ 4611686018427387904 ∧ (o.length + 1) * 24 ≤ 140737488355328 := by omega
  simp (config := {contextual := true, maxSteps := 1000000}) [Tryz.f157, List.range, List.range.loop, ints, intss, int, bool, row, frac, fracs, ← List.map_take, ← List.map_drop, List.all, hl, l03L, hb2]
  done
set_option maxHeartbeats 2000000 in
theorem l03All_succ {r : Nat} (ih : FnMov Tryz.prog 157 (mL03 r)) : (FnMov Tryz.prog 157 (mL03 (r + 1))) := by
  refine mkV_ok fun ⟨o, l, m'⟩ h => ?_
  simp only at h
  have hG : FnsOk Tryz.prog [(141, mPos)] := (.cons placeOf_ok .nil)
  have hM : FnsMut Tryz.prog [] := .nil
  have hV : FnsMov Tryz.prog [(157, mL03 r)] := (.cons ih .nil)
  refine movOk_awp (ctxV_ok eqOk hG hM hV) mixed (live := [true, true, true, false, false, false, true, true, false, false, false, true, false, false, false, false, false, false, true, false, false, false, false, false, true]) (dt := []) (mv := [0,1]) Tryz.func157 rfl (by kernel_rfl) (by kernel_rfl) fun US w0 hlens => ?_
  simp only [List.map, List.getD_cons_zero, List.getD_cons_succ, internL, intern, setSl, List.set, List.length_nil, List.nil_append, List.length_map]
  clear hlens
  obtain ⟨m, rfl⟩ : ∃ m : Nat, m' = (m : Int) := ⟨l.length + (r + 1), h.1.symm⟩
  have hm : l.length + (r + 1) = m := by have := h.1; omega
  have hm5 : m ≤ 5 := by have := h.2.1; omega
  have hb := h.2.2
  simp only [Int.toNat_natCast] at hb
  have hl : ¬ ((l.length : Int) = (m : Int)) := by omega
  simp (config := {contextual := true, maxSteps := 1000000}) [Tryz.f157, List.range, List.range.loop, ints, intss, int, bool, row, frac, fracs, ← List.map_take, ← List.map_drop, List.all, hl]
  refine awp_loop_of (live := [true, true, true, false, false, false, true, true, false, false, false, true, false, false, false, false, false, false, true, false, false, false, false, false, true]) (ctxV_ok eqOk hG hM hV) mixed [true, true, true, false, false, false, false, true] (α := {k : Nat // k ≤ m}) (fun k => ⟨[.ref 0 [] 0 (o ++ l03To m r l k.1).length, .ref 1 [] 0 l.length, int m, .junk, .junk, .junk, .junk, int (k.1 : Int), .junk, .junk, .junk, .junk, .junk, .junk, .junk, .junk, .junk, .junk, .junk, .junk, .junk, .junk, .junk, .junk, .junk, .junk, .junk, .junk, .junk, .junk, .junk, .junk, .junk, .junk, .junk], [⟨true, .sl false 1 ((o ++ l03To m r l k.1).map row)⟩, ⟨true, .sl false 1 (l.map int)⟩]⟩) (fun k => m - k.1) ⟨0, by omega⟩ (by simp [sub, slotsLe, clean, keep, refsL, refs, once, place, renL, ren, List.replicate, int, bool, l03To, intss]) ?_
  rintro ⟨k, hk⟩
  simp only
  have hsucc := l03To_succ (m := m) (r := r) (l := l) (k := k)
  by_cases hkm : k = m
  · subst hkm
    simp (config := {contextual := true, maxSteps := 1000000}) [List.range, List.range.loop, ints, intss, int, bool, row, frac, fracs, ← List.map_take, ← List.map_drop, List.all, l03To_all]
    done
  have hkm2 : k < m := by omega
  have hw : IntKind.i64.wrap ((k : Int) + 1) = (k : Int) + 1 := by rw [wrapI (by omega) (by omega)]
  have hlb : l.length ≤ 4611686018427387904 ∧ l.length * 8 ≤ 140737488355328 := by omega
  have hlb2 : l.length + 1 ≤ 4611686018427387904 ∧ (l.length + 1) * 8 ≤ 140737488355328 := by omega
  by_cases hp : pos l (k : Int) < 0
  · rw [if_pos hp] at hsucc
    have hle := l03To_le (m := m) (r := r) (l := l) (k := k + 1) (j := m) (by omega)
    rw [l03To_all, hsucc, List.length_append] at hle
    have hcall := mL03_at r (o ++ l03To m r l k) (l ++ [(k : Int)]) m ⟨by simp; omega, by omega, by simp only [Int.toNat_natCast, List.length_append] at hb ⊢; omega⟩
    simp only [Int.toNat_natCast, List.append_assoc, ← hsucc, List.map_append, List.map_cons, List.map_nil, int] at hcall
    have htk : List.take (l.length + 1) (l.map int ++ [AV.v (.int .i64 k)]) = l.map int ++ [AV.v (.int .i64 k)] := List.take_of_length_le (by simp)
    have hto : List.take (o.length + (l03To m r l k).length) (o.map row ++ (l03To m r l k).map row) = o.map row ++ (l03To m r l k).map row := List.take_of_length_le (by simp)
    simp (config := {contextual := true, maxSteps := 1000000}) [List.range, List.range.loop, ints, intss, int, bool, row, frac, fracs, ← List.map_take, ← List.map_drop, List.all, hkm2, hw, mPos_at, hp, hlb, hlb2, htk, hto, hcall]
    exact ⟨⟨k + 1, by omega⟩, by simp [sub, slotsLe, clean, keep, refsL, refs, once, place, renL, ren, List.replicate, int, bool], by simp; omega⟩
  · rw [if_neg hp, List.append_nil] at hsucc
    simp (config := {contextual := true, maxSteps := 1000000}) [List.range, List.range.loop, ints, intss, int, bool, row, frac, fracs, ← List.map_take, ← List.map_drop, List.all, hkm2, hw, mPos_at, hp]
    exact ⟨⟨k + 1, by omega⟩, by simp [sub, slotsLe, clean, keep, refsL, refs, once, place, renL, ren, List.replicate, int, bool, hsucc], by simp; omega⟩
end Go.Proofs.YtigepnpiofcooaaGreat.Ax
