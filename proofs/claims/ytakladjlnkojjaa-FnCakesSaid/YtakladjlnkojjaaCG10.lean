/-
  All divisions are divisions; contracts: CountCalm of both. No condition.
-/
import Derived.Test.YtakladjlnkojjaaCG9
import Derived.Test.YtakladjlnkojjaaCG7
import Derived.Test.YtakladjlnkojjaaCG6
import Derived.Test.YtakladjlnkojjaaCG3
import Derived.Test.YtakladjlnkojjaaCG5
import Derived.Test.YtakladjlnkojjaaCG8
import Derived.Test.YtakladjlnkojjaaCB1
import Derived.Test.YtakladjlnkojjaaCK4
namespace Go.Proofs.Ytakladjlnkojjaa.Ax
open Go Go.RowKit
set_option linter.unusedSimpArgs false

theorem gd_app {l m : List Int} {i : Nat} (h : i < l.length) : (l ++ m).getD i 0 = l.getD i 0 := by
  rw [List.getD_eq_getElem?_getD, List.getD_eq_getElem?_getD, List.getElem?_append_left h]

structure DvG (n : Nat) (l : List Int) : Prop where
  bd : ∀ y ∈ l, 0 ≤ y ∧ y < (n : Int)
  dv : ∀ i, i < l.length → divAt l i = true

theorem dvg_snoc {n : Nat} {l : List Int} (h : DvG n l) {i : Nat} (hi : i < n) (ho : okD l i = true) : DvG n (l ++ [(i : Int)]) := by
  refine ⟨fun y hy => ?_, fun j hj => ?_⟩
  · rcases List.mem_append.1 hy with hy | hy
    · exact h.bd y hy
    · rw [List.mem_singleton] at hy; omega
  · rw [List.length_append, List.length_cons, List.length_nil] at hj
    rcases Nat.lt_or_ge j l.length with hj' | hj'
    · have := h.dv j hj'
      unfold divAt at this ⊢
      rw [List.take_append_of_le_length (by omega), gd_app hj', gd_app (show j - 1 < l.length by omega)]
      exact this
    · have e : j = l.length := by omega
      subst e
      have e1 : (l ++ [(i : Int)]).getD l.length 0 = (i : Int) := by simp [List.getD_eq_getElem?_getD]
      simp only [okD, Bool.or_eq_true, decide_eq_true_eq] at ho
      unfold divAt
      rw [e1, List.take_left]
      rcases ho with ho | ho
      · simp; right; omega
      · rcases Nat.eq_zero_or_pos l.length with hz | hz
        · rw [List.length_eq_zero_iff.1 hz]; simp [pos, posFrom]
        · rw [gd_app (show l.length - 1 < l.length by omega)]
          have : l.getD (l.length - 1) 0 = (i : Int) := ho
          rw [this]
          simp; left; intro e; rw [e] at hz; simp at hz
theorem dvg_all {n : Nat} : ∀ {r : Nat} {l : List Int}, DvG n l → ∀ x ∈ dvL n r l, DvG n x.2
  | 0, l, h, x, hx => by simp only [dvL, List.mem_singleton] at hx; subst hx; exact h
  | r + 1, l, h, x, hx => by
    simp only [dvL, List.mem_flatMap, List.mem_range] at hx
    obtain ⟨i, hi, hx⟩ := hx
    split at hx
    · rename_i ho
      exact dvg_all (dvg_snoc h hi ho) x hx
    · simp at hx
theorem divs_div {xss : List (Bool × List Int)} (h : rectB xss 3 10 100 = true) {x : Bool × List Int} (hx : x ∈ divs xss) : x.1 = false ∧ divB xss x.2 = true := by
  unfold divs at hx
  rw [if_pos h] at hx
  have h1 := dvL_flag x hx
  have h2 := dvg_all (n := xss.length) (l := []) ⟨by simp, by simp⟩ x hx
  refine ⟨h1.1, ?_⟩
  simp only [divB, h, Bool.true_and, Bool.and_eq_true, decide_eq_true_eq]
  refine ⟨⟨by have := h1.2; simp at this; omega, ?_⟩, ?_⟩
  · unfold allIn
    rw [List.all_eq_true]
    intro y hy
    have := h2.bd y hy
    simp [inR]; omega
  · exact allR_yes fun i hi => h2.dv i hi

theorem rowSum_leD {xss : List (Bool × List Int)} {c : Nat} (h : ∀ i (hi : i < xss.length), xss[i].2.length ≤ c) : ∀ {k : Nat}, k ≤ xss.length → rowSum xss k ≤ c * k
  | 0, _ => by simp [rowSum_zero]
  | k + 1, hk => by
    have := rowSum_leD h (k := k) (by omega)
    have h1 := h k (by omega)
    rw [rowSum_succ (by omega), Nat.mul_succ]; omega
theorem divs_need {xss : List (Bool × List Int)} : need (divs xss) ≤ 1048576 := by
  have h1 := divs_len (xss := xss)
  have h2 := rowSum_leD (xss := divs xss) (c := 10) (fun i hi => by
    have hm := List.getElem_mem hi
    cases h : rectB xss 3 10 100 with
    | false => have he : divs xss = [] := by simp [divs, h]
               rw [he] at hi; simp at hi
    | true =>
      have h3 := (div_rect (divs_div h hm).2).2
      have h4 := rect_len h
      omega) (Nat.le_refl _)
  simp only [need]; omega
def divsP (xss : List (Bool × List Int)) : Bool × List (Bool × List Int) := (!rectB xss 3 10 100, divs xss)
theorem mAllD_atP (nl : Bool) (xss : List (Bool × List Int)) : mAllD [.sl nl 1 (xss.map row)] = some (.sl (divsP xss).1 1 ((divsP xss).2.map row)) := mAllD_at nl xss
theorem divsP_need {xss : List (Bool × List Int)} : need (divsP xss).2 ≤ 1048576 := divs_need

/-- The first k of them that are calm. -/
def calmTo (xss : List (Bool × List Int)) (k : Nat) : Nat := ((divs xss).take k).countP fun x => envB xss x.2
theorem calmTo_zero {xss : List (Bool × List Int)} : calmTo xss 0 = 0 := by simp [calmTo]
theorem calmTo_succ {xss : List (Bool × List Int)} {k : Nat} (h : k < (divs xss).length) : calmTo xss (k + 1) = calmTo xss k + (if envB xss (divs xss)[k].2 = true then 1 else 0) := by
  unfold calmTo; rw [List.take_succ_eq_append_getElem h, List.countP_append]; simp [List.countP_cons]
theorem calmTo_le {xss : List (Bool × List Int)} {k : Nat} : calmTo xss k ≤ 59049 := by
  have h1 := divs_len (xss := xss)
  have h2 := List.countP_le_length (p := fun x : Bool × List Int => envB xss x.2) (l := (divs xss).take k)
  rw [List.length_take] at h2
  unfold calmTo; omega
noncomputable def mCalm : List AV → Option AV := mk (fun _ => True) (fun (p : (Bool) × (List (Bool × List Int))) => [intss p.1 p.2]) (fun p => int (if rectB p.2 3 10 100 = true then (calmTo p.2 (divs p.2).length : Int) else -1))
theorem mCalm_at (nl : Bool) (xss : List (Bool × List Int)) : mCalm [.sl nl 1 (xss.map row)] = some (.v (.int .i64 (if rectB xss 3 10 100 = true then (calmTo xss (divs xss).length : Int) else -1))) :=
  mk_eq (enc := fun (p : (Bool) × (List (Bool × List Int))) => [intss p.1 p.2]) (x := (nl, xss)) (by rintro ⟨a0, a1⟩ ⟨b0, b1⟩ h; simp [ints, intss, int, bool, row, frac, fracs, map_int_inj, map_row_inj, frac_inj, map_frac_inj] at h; simp [h]) trivial

set_option maxHeartbeats 1000000 in
theorem implCountCalm_ok : FnOk Try.prog 34 mCalm := by
  refine mk_ok fun ⟨nl, xss⟩ _ => ?_
  have hG : FnsOk Try.prog [(72, (mGrid 3 10 100)), (31, mAllD), (79, mEnvB)] := (.cons implCakeOk_ok (.cons implAllDivisions_ok (.cons hasOuterEnvy_ok .nil)))
  refine callOk_awp (ctx_ok eqOk hG) mixed (live := [true, false, true, true, false, true, false, false, true, false, true, true, true, true, false, false, false, false, false, true]) (dt := []) Try.func34 rfl (by kernel_rfl) (by kernel_rfl) fun w0 hlens => ?_
  clear hlens
  have hc := mAllD_at nl xss
  cases h : rectB xss 3 10 100 with
  | false => simp (config := {contextual := true, maxSteps := 1000000}) [Try.f34, List.range, List.range.loop, ints, intss, int, bool, row, frac, fracs, ← List.map_take, ← List.map_drop, mGrid_at, h]
  | true =>
  have h0 := calmTo_zero (xss := xss)
  have hn := divs_len (xss := xss)
  have he : ∀ k, ∀ hk : k < (divs xss).length, mEnvB [.sl nl 1 (xss.map row), .sl false 1 (((divs xss)[k]).2.map int)] = some (.v (.bool (!envB xss ((divs xss)[k]).2))) := fun k hk => mEnvB_at nl xss false ((divs xss)[k]).2 (divs_div h (List.getElem_mem hk)).2
  have hf : ∀ k, ∀ hk : k < (divs xss).length, ((divs xss)[k]).1 = false := fun k hk => (divs_div h (List.getElem_mem hk)).1
  have hsucc : ∀ k, ∀ hk : k < (divs xss).length, _ := fun k hk => calmTo_succ (xss := xss) (k := k) hk
  have hle := fun k => calmTo_le (xss := xss) (k := k)
  rw [h] at hc
  generalize calmTo xss = C at *
  generalize divs xss = D at *
  simp (config := {contextual := true, maxSteps := 1000000}) [Try.f34, List.range, List.range.loop, ints, intss, int, bool, row, frac, fracs, ← List.map_take, ← List.map_drop, mGrid_at, h, hc]
  refine awp_range (live := [true, false, true, true, false, true, false, false, true, false, true, true, true, true, false, false, false, false, false, true]) (ctx_ok eqOk hG) mixed [true, false, false, true, false, false, false, false, false, false, true, true, true] (D.length) (fun k => True) (fun k => ⟨[intss nl xss, .junk, .junk, int (C k), .junk, .junk, .junk, .junk, .junk, .junk, .ref 0 [] 0 D.length, int D.length, int k, .junk, .junk, .junk, .junk, .junk, .junk, .junk, .junk, .junk, .junk, .junk], [⟨true, .sl false 1 (D.map row)⟩]⟩) ?_ (by simp [sub, slotsLe, clean, keep, refsL, refs, once, place, renL, ren, List.replicate, int, bool, h0, intss]) ?_ ?_ ?_
  · omega
  · trivial
  · intro k hk _ hwk
    have h1 := he k hk
    have h2 := hf k hk
    have h3 := hsucc k hk
    have h4 := hle k
    have hwc : IntKind.i64.wrap ((C k : Int) + 1) = (C k : Int) + 1 := wrapI (by omega) (by omega)
    cases hb : envB xss (D[k]).2 with
    | false =>
      rw [hb] at h1 h3
      simp at h3
      simp (config := {contextual := true, maxSteps := 1000000}) [List.range, List.range.loop, ints, intss, int, bool, row, frac, fracs, ← List.map_take, ← List.map_drop, hk, hwk, row, h2, h1, h3]
      done
    | true =>
      rw [hb] at h1 h3
      simp at h3
      simp (config := {contextual := true, maxSteps := 1000000}) [List.range, List.range.loop, ints, intss, int, bool, row, frac, fracs, ← List.map_take, ← List.map_drop, hk, hwk, row, h2, h1, h3, hwc]
      done
  · intro _
    simp (config := {contextual := true, maxSteps := 1000000}) [List.range, List.range.loop, ints, intss, int, bool, row, frac, fracs, ← List.map_take, ← List.map_drop]
    done

end Go.Proofs.Ytakladjlnkojjaa.Ax

/-
  Some division is calm up to an outer piece: from the cuts to one of all divisions. Plain Lean, no program in sight.
-/
namespace Go.Proofs.Ytakladjlnkojjaa.Ax
open Go Go.RowKit
set_option linter.unusedSimpArgs false
set_option linter.unusedVariables false

theorem okD_of {l : List Int} {i : Nat} {t : List Int} (h : divAt (l ++ (i : Int) :: t) l.length = true) : okD l i = true := by
  unfold divAt at h
  have e1 : (l ++ (i : Int) :: t).getD l.length 0 = (i : Int) := by simp [List.getD_eq_getElem?_getD]
  rw [e1, List.take_left] at h
  simp only [okD, Bool.or_eq_true, decide_eq_true_eq, Bool.and_eq_true, Bool.not_eq_true', decide_eq_false_iff_not] at h ⊢
  rcases h with ⟨h1, h2⟩ | h
  · right
    rw [gd_app (show l.length - 1 < l.length by omega)] at h2
    exact h2
  · left; omega
theorem dvL_mem {n : Nat} : ∀ {t l : List Int}, (∀ y ∈ t, 0 ≤ y ∧ y < (n : Int)) → (∀ i, i < (l ++ t).length → divAt (l ++ t) i = true) → (false, l ++ t) ∈ dvL n t.length l
  | [], l, _, _ => by simp [dvL]
  | y :: t, l, hb, hd => by
    have h1 := hb y (by simp)
    obtain ⟨i, hi, hin⟩ : ∃ i : Nat, y = (i : Int) ∧ i < n := ⟨y.toNat, by omega, by omega⟩
    subst hi
    have e : l ++ (i : Int) :: t = (l ++ [(i : Int)]) ++ t := by simp
    simp only [List.length_cons, dvL, List.mem_flatMap, List.mem_range]
    refine ⟨i, hin, ?_⟩
    rw [if_pos (okD_of (hd l.length (by simp)))]
    rw [e]
    exact dvL_mem (fun y hy => hb y (by simp [hy])) (by rw [← e]; exact hd)
theorem divs_mem {xss : List (Bool × List Int)} {l : List Int} (h : divB xss l = true) : (false, l) ∈ divs xss := by
  simp only [divB, Bool.and_eq_true, decide_eq_true_eq] at h
  obtain ⟨⟨⟨hr, hl⟩, hin⟩, hall⟩ := h
  unfold divs
  rw [if_pos hr, ← hl]
  have := dvL_mem (n := xss.length) (t := l) (l := []) (fun y hy => by
    have := allIn_mem hin hy; omega) (fun i hi => by
    unfold allR at hall; rw [List.all_eq_true] at hall; exact hall i (by simpa using hi))
  exact this
theorem calm_pos {xss : List (Bool × List Int)} {l : List Int} (h : divB xss l = true) (he : envB xss l = true) : 1 ≤ calmTo xss (divs xss).length := by
  unfold calmTo
  rw [List.take_length]
  exact List.countP_pos_iff.2 ⟨_, divs_mem h, he⟩

theorem pre_up {xss : List (Bool × List Int)} (h : rectB xss 3 10 100 = true) {i : Nat} (hi : i < xss.length) {a b : Nat} (hab : a ≤ b) (hb : b ≤ wid xss) : pre xss i a ≤ pre xss i b := by
  have := (pre_bd h hi (m := a) (n := b - a) (by omega)).1
  rw [show a + (b - a) = b by omega] at this
  omega
/-- Sums that go on beyond the end. -/
def pw (xss : List (Bool × List Int)) (i k : Nat) : Int := pre xss i (min k (wid xss))
theorem pw_up {xss : List (Bool × List Int)} (h : rectB xss 3 10 100 = true) {i : Nat} (hi : i < xss.length) : up (pw xss i) := fun a b hab => pre_up h hi (by omega) (by omega)

/-- What lies in one block, and is fine, is no envy. -/
theorem outer_fine {xss : List (Bool × List Int)} {l : List Int} (hd : divB xss l = true) {i : Nat} (hi : i < xss.length) {a b : Nat → Nat}
    (hblk : ∀ k, k < xss.length → ∀ j (hj : j < l.length), l[j] = (k : Int) ↔ (a k ≤ j ∧ j < b k)) (hb : ∀ k, k < xss.length → b k ≤ l.length) {k : Nat} (hk : k < xss.length)
    (hf : k ≠ i → fineB (pw xss i) (blk (pw xss i) (a i) (b i)) (a k) (b k)) : outerB xss l i k = false := by
  obtain ⟨hr, hl⟩ := div_rect hd
  have hpw : ∀ x, x ≤ wid xss → pw xss i x = pre xss i x := fun x hx => by unfold pw; rw [Nat.min_eq_left hx]
  -- a block's first and last piece
  have ends : ∀ v : Nat, v < xss.length → 0 ≤ pos l (v : Int) → pos l (v : Int) = (a v : Int) ∧ a v + tw l v (a v + 1) + 1 = b v ∧ a v < b v := fun v hv h0 => by
    obtain ⟨p, h1, ⟨h2, h3⟩, h4⟩ := pos_facts (xs := l) (v := (v : Int)) h0
    have hp := (hblk v hv p h2).1 h3
    have hpa : p = a v := by
      rcases Nat.lt_or_ge (a v) p with h | h
      · exact absurd ((hblk v hv (a v) (by omega)).2 ⟨Nat.le_refl _, by omega⟩) (h4 (a v) (by omega) h)
      · omega
    subst hpa
    refine ⟨h1, ?_, by omega⟩
    have hbl := hb v hv
    have hin := fun j h1 h2 => tw_in (l := l) (v := (v : Int)) (n := tw l v (a v + 1)) (j := a v + 1) rfl j h1 h2
    have hend := tw_end (l := l) (v := (v : Int)) (n := tw l v (a v + 1)) (j := a v + 1) rfl
    have hle := tw_le (l := l) (v := (v : Int)) (j := a v + 1) (by omega)
    generalize tw l v (a v + 1) = t at *
    rcases Nat.lt_trichotomy (a v + t + 1) (b v) with h | h | h
    · exfalso
      exact hend (by omega) ((hblk v hv _ (by omega)).2 ⟨by omega, by omega⟩)
    · exact h
    · exfalso
      obtain ⟨hj, e⟩ := hin (a v + t) (by omega) (by omega)
      have := (hblk v hv _ hj).1 e
      omega
  by_cases hp : 0 ≤ pos l (k : Int)
  rotate_left
  · simp [outerB, hp]
  obtain ⟨e1, e2, e3⟩ := ends k hk hp
  obtain ⟨_, g1, _, g3, g4⟩ := outer_facts hd hi (k := (k : Int)) (f := a k) (e := a k + tw l k (a k + 1)) e1 rfl
  have hbk := hb k hk
  have he : a k + tw l k (a k + 1) = b k - 1 := by omega
  rw [he] at g3 g4
  rw [g4]
  -- what is his own
  have hown : blk (pw xss i) (a i) (b i) ≤ wo xss l i i := by
    by_cases hpi : 0 ≤ pos l (i : Int)
    · obtain ⟨k1, k2, k3⟩ := ends i hi hpi
      obtain ⟨_, _, _, q3, _⟩ := outer_facts hd hi (k := (i : Int)) (f := a i) (e := a i + tw l i (a i + 1)) k1 rfl
      have hbi := hb i hi
      rw [q3, show a i + tw l i (a i + 1) + 1 = b i by omega]
      unfold blk
      rw [if_pos k3, hpw _ (by omega), hpw _ (by omega)]
      exact Int.le_refl _
    · have hn : ¬ a i < b i := fun h => by
        have hbi := hb i hi
        have hm := (hblk i hi (a i) (by omega)).2 ⟨Nat.le_refl _, h⟩
        exact hpi (pos_mem (by rw [← hm]; exact List.getElem_mem _))
      unfold blk
      rw [if_neg hn]
      unfold wo; exact (woTo_bd hr hi (by omega)).1
  have u1 := pre_up hr hi (a := a k) (b := b k - 1) (by omega) (by omega)
  have u2 := pre_up hr hi (a := a k + 1) (b := b k) (by omega) (by omega)
  have u3 := pre_up hr hi (a := b k - 1) (b := b k) (by omega) (by omega)
  by_cases hki : k = i
  · subst hki
    rw [show b k - 1 + 1 = b k by omega] at g3 ⊢
    rw [g3]
    simp; omega
  · have hf := hf hki
    rw [show b k - 1 + 1 = b k by omega]
    unfold fineB at hf
    rcases hf with hf | hf | hf
    · omega
    · have : pre xss i (b k) - pre xss i (a k + 1) ≤ blk (pw xss i) (a k + 1) (b k) := by
        unfold blk
        split
        · rw [hpw _ (by omega), hpw _ (by omega)]; exact Int.le_refl _
        · rw [show a k + 1 = b k by omega]; omega
      simp; omega
    · have : pre xss i (b k - 1) - pre xss i (a k) ≤ blk (pw xss i) (a k) (b k - 1) := by
        unfold blk
        split
        · rw [hpw _ (by omega), hpw _ (by omega)]; exact Int.le_refl _
        · rw [show a k = b k - 1 by omega]; omega
      simp; omega

/-- Three rows of pieces. -/
def rows3 (m c d : Nat) (x y z : Int) : List Int := List.replicate c x ++ (List.replicate (d - c) y ++ List.replicate (m - d) z)
theorem rows3_len {m c d : Nat} {x y z : Int} (h : c ≤ d) (hd : d ≤ m) : (rows3 m c d x y z).length = m := by simp [rows3]; omega
theorem rows3_get {m c d : Nat} {x y z : Int} (h : c ≤ d) (hd : d ≤ m) {j : Nat} (hj : j < (rows3 m c d x y z).length) : (rows3 m c d x y z)[j] = if j < c then x else if j < d then y else z := by
  simp only [rows3]
  by_cases h1 : j < c
  · rw [if_pos h1, List.getElem_append_left (by simpa using h1), List.getElem_replicate]
  · rw [if_neg h1, List.getElem_append_right (by simpa using h1)]
    by_cases h2 : j < d
    · rw [if_pos h2, List.getElem_append_left (by simp; omega), List.getElem_replicate]
    · rw [if_neg h2, List.getElem_append_right (by simp; omega), List.getElem_replicate]
/-- Three rows of different owners are a division. -/
theorem rows3_div {xss : List (Bool × List Int)} (hr : rectB xss 3 10 100 = true) {c d : Nat} {x y z : Nat} (h : c ≤ d) (hd : d ≤ wid xss) (hx : c = 0 ∨ x < xss.length) (hy : c = d ∨ y < xss.length) (hz : d = wid xss ∨ z < xss.length)
    (hxy : c = 0 ∨ c = d ∨ x ≠ y) (hyz : c = d ∨ d = wid xss ∨ y ≠ z) (hxz : c = 0 ∨ d = wid xss ∨ x ≠ z) : divB xss (rows3 (wid xss) c d x y z) = true := by
  have hlen := rows3_len (x := (x : Int)) (y := (y : Int)) (z := (z : Int)) h hd
  have hget := fun j (hj : j < (rows3 (wid xss) c d (x : Int) y z).length) => rows3_get (x := (x : Int)) (y := (y : Int)) (z := (z : Int)) h hd hj
  generalize rows3 (wid xss) c d (x : Int) y z = l at *
  simp only [divB, hr, Bool.true_and, Bool.and_eq_true, decide_eq_true_eq]
  refine ⟨⟨hlen, ?_⟩, allR_yes fun i hi => ?_⟩
  · unfold allIn
    rw [List.all_eq_true]
    intro v hv
    obtain ⟨j, hj, rfl⟩ := List.getElem_of_mem hv
    rw [hget j hj]
    simp only [inR, decide_eq_true_eq, Bool.and_eq_true]
    split
    · omega
    · split <;> omega
  · by_cases h0 : i = 0
    · rw [h0]; exact divAt_zero
    have hi1 : i - 1 < l.length := by omega
    unfold divAt
    rw [getD_at hi, getD_at hi1]
    by_cases e : l[i - 1] = l[i]
    · simp [e, h0]
    · have hno : ¬ 0 ≤ pos (l.take i) l[i] := by
        rw [pos_iff]
        intro hm
        obtain ⟨j, hj, ej⟩ := List.getElem_of_mem hm
        rw [List.getElem_take] at ej
        have hj' : j < i := by simp at hj; omega
        rw [hget j (by omega), hget i hi] at ej
        rw [hget (i - 1) hi1, hget i hi] at e
        by_cases q1 : i < c
        · rw [if_pos q1, if_pos (by omega)] at e; exact e rfl
        · rw [if_neg q1] at e ej
          by_cases q2 : i < d
          · rw [if_pos q2] at e ej
            by_cases q3 : i - 1 < c
            · by_cases q4 : j < c
              · rw [if_pos q4] at ej; omega
              · omega
            · rw [if_neg q3, if_pos (by omega)] at e; exact e rfl
          · rw [if_neg q2] at e ej
            by_cases q3 : i - 1 < c
            · rw [if_pos (by omega)] at ej; omega
            · by_cases q4 : i - 1 < d
              · by_cases q5 : j < c
                · rw [if_pos q5] at ej; omega
                · rw [if_neg q5, if_pos (by omega)] at ej; omega
              · rw [if_neg q3, if_neg q4] at e; exact e rfl
      simp [hno]

/-- Some division is calm up to an outer piece. -/
theorem some_calm {xss : List (Bool × List Int)} (hr : rectB xss 3 10 100 = true) : 1 ≤ calmTo xss (divs xss).length := by
  have hl := rect_len hr
  have hn := rect_pos hr
  have fin : ∀ (l : List Int) (a b : Nat → Nat), divB xss l = true → (∀ k, k < xss.length → ∀ j (hj : j < l.length), l[j] = (k : Int) ↔ (a k ≤ j ∧ j < b k)) → (∀ k, k < xss.length → b k ≤ l.length) →
      (∀ i k, i < xss.length → k < xss.length → k ≠ i → fineB (pw xss i) (blk (pw xss i) (a i) (b i)) (a k) (b k)) → 1 ≤ calmTo xss (divs xss).length := fun l a b hd h1 h2 h3 =>
    calm_pos hd (allR_yes fun i hi => allR_yes fun k hk => by rw [outer_fine hd hi h1 h2 hk (h3 i k hi hk)]; rfl)
  have hn3 : xss.length = 1 ∨ xss.length = 2 ∨ xss.length = 3 := by omega
  have hP : ∀ p, up (fun k => if p < xss.length then pw xss p k else 0) := fun p a b hab => by
    simp only
    split
    · rename_i h; exact pw_up hr h a b hab
    · exact Int.le_refl _
  have hPe : ∀ p, p < xss.length → (fun k => if p < xss.length then pw xss p k else 0) = pw xss p := fun p hp => funext fun k => if_pos hp
  rcases hn3 with e | e | e
  · have hd := rows3_div hr (c := wid xss) (d := wid xss) (x := 0) (y := 0) (z := 0) (Nat.le_refl _) (Nat.le_refl _) (.inr (by omega)) (.inl rfl) (.inl rfl) (.inr (.inl rfl)) (.inl rfl) (.inr (.inl rfl))
    have hlen := rows3_len (m := wid xss) (c := wid xss) (d := wid xss) (x := ((0 : Nat) : Int)) (y := ((0 : Nat) : Int)) (z := ((0 : Nat) : Int)) (Nat.le_refl _) (Nat.le_refl _)
    refine fin _ (fun _ => 0) (fun _ => wid xss) hd (fun k hk j hj => ?_) (fun k hk => by rw [hlen]; exact Nat.le_refl _) (fun i k hi hk hne => by omega)
    rw [rows3_get (Nat.le_refl _) (Nat.le_refl _) hj, if_pos (by omega)]
    omega
  · obtain ⟨c, w0, w1, h1, h2, h3, h4, f0, f1⟩ := calm2 (P := fun p k => if p < xss.length then pw xss p k else 0) hP (m := wid xss)
    rw [hPe w0 (by omega)] at f0
    rw [hPe w1 (by omega)] at f1
    have hd := rows3_div hr (c := c) (d := wid xss) (x := w0) (y := w1) (z := 0) h1 (Nat.le_refl _) (.inr (by omega)) (.inr (by omega)) (.inl rfl) (.inr (.inr h4)) (.inr (.inl rfl)) (.inr (.inl rfl))
    have hlen := rows3_len (m := wid xss) (c := c) (d := wid xss) (x := (w0 : Int)) (y := (w1 : Int)) (z := ((0 : Nat) : Int)) h1 (Nat.le_refl _)
    refine fin _ (fun k => if k = w0 then 0 else c) (fun k => if k = w0 then c else wid xss) hd (fun k hk j hj => ?_) (fun k hk => by rw [hlen]; (try simp only); split <;> omega) (fun i k hi hk hne => ?_)
    · rw [rows3_get h1 (Nat.le_refl _) hj]
      try simp only
      by_cases q : k = w0
      · rw [if_pos q, if_pos q]
        split
        · omega
        · rw [if_pos (by omega)]; omega
      · rw [if_neg q, if_neg q]
        split
        · omega
        · rw [if_pos (by omega)]; omega
    · try simp only
      by_cases q : i = w0
      · subst q
        rw [if_pos rfl, if_pos rfl, if_neg hne, if_neg hne]
        exact f0
      · have : k = w0 := by omega
        have qi : i = w1 := by omega
        subst this
        rw [if_neg q, if_neg q, if_pos rfl, if_pos rfl, qi]
        exact f1
  · obtain ⟨c, d, w0, w1, w2, h1, h2, h3, h4, h5, n1, n2, n3, f0, f1, f2⟩ := calm3' (P := fun p k => if p < xss.length then pw xss p k else 0) hP (m := wid xss)
    rw [hPe w0 (by omega)] at f0
    rw [hPe w1 (by omega)] at f1
    rw [hPe w2 (by omega)] at f2
    have hd := rows3_div hr (c := c) (d := d) (x := w0) (y := w1) (z := w2) h1 h2 (.inr (by omega)) (.inr (by omega)) (.inr (by omega)) (.inr (.inr n1)) (.inr (.inr n2)) (.inr (.inr n3))
    have hlen := rows3_len (m := wid xss) (c := c) (d := d) (x := (w0 : Int)) (y := (w1 : Int)) (z := (w2 : Int)) h1 h2
    refine fin _ (fun k => if k = w0 then 0 else if k = w1 then c else d) (fun k => if k = w0 then c else if k = w1 then d else wid xss) hd (fun k hk j hj => ?_) (fun k hk => by rw [hlen]; (try simp only); split; omega; split <;> omega) (fun i k hi hk hne => ?_)
    · rw [rows3_get h1 h2 hj]
      try simp only
      by_cases q : k = w0
      · rw [if_pos q, if_pos q]
        split
        · omega
        · split <;> omega
      · rw [if_neg q, if_neg q]
        by_cases q2 : k = w1
        · rw [if_pos q2, if_pos q2]
          split
          · omega
          · split <;> omega
        · rw [if_neg q2, if_neg q2]
          split
          · omega
          · split <;> omega
    · try simp only
      have hik : (i = w0 ∨ i = w1 ∨ i = w2) ∧ (k = w0 ∨ k = w1 ∨ k = w2) := by omega
      have s1 : ¬ w1 = w0 := fun h => n1 h.symm
      have s2 : ¬ w2 = w1 := fun h => n2 h.symm
      have s3 : ¬ w2 = w0 := fun h => n3 h.symm
      rcases hik with ⟨q | q | q, r | r | r⟩ <;> subst q <;> subst r <;> first
        | exact absurd rfl hne
        | (simp only [if_pos, if_neg, s1, s2, s3, if_false, if_true]; first | exact f0.1 | exact f0.2 | exact f1.1 | exact f1.2 | exact f2.1 | exact f2.2)

end Go.Proofs.Ytakladjlnkojjaa.Ax

/-
  The cakes' law: what its calls answer. Plain Lean, no program in sight.
-/
namespace Go.Proofs.Ytakladjlnkojjaa.Ax
open Go Go.RowKit
set_option linter.unusedSimpArgs false
set_option linter.unusedVariables false

theorem divAt_pre {l m : List Int} {i : Nat} (h : i < l.length) : divAt (l ++ m) i = divAt l i := by
  unfold divAt
  have e1 : ∀ j, j < l.length → (l ++ m).getD j 0 = l.getD j 0 := fun j hj => by
    rw [List.getD_eq_getElem?_getD, List.getElem?_append_left hj, ← List.getD_eq_getElem?_getD]
  rw [e1 i h, e1 (i - 1) (by omega), List.take_append_of_le_length (by omega)]
/-- One more block, of somebody new. -/
theorem div_rep {l : List Int} {t : Int} {c : Nat} (h : upto (divAt l) l.length) (ht : t ∉ l) : upto (divAt (l ++ List.replicate c t)) (l ++ List.replicate c t).length := by
  intro i hi
  rcases Nat.lt_or_ge i l.length with hl | hl
  · rw [divAt_pre hl]; exact h i hl
  · have hic : i < l.length + c := by simpa using hi
    have e : ∀ j, l.length ≤ j → j < l.length + c → (l ++ List.replicate c t).getD j 0 = t := fun j h1 h2 => by
      rw [List.getD_eq_getElem?_getD, List.getElem?_append_right h1]
      simp [show j - l.length < c by omega]
    unfold divAt
    rw [e i hl hic]
    by_cases hil : i = l.length
    · subst hil
      have : ¬ 0 ≤ pos l t := fun h => ht (pos_iff.1 h)
      rw [List.take_left' rfl]
      simp [this]
    · rw [e (i - 1) (by omega) (by omega)]
      simp; omega

/-- The people who have pieces are done. -/
structure KnD (xss : List (Bool × List Int)) (s : Kn) : Prop where
  dv : upto (divAt s.out) s.out.length
  dn : ∀ v ∈ s.out, ∃ i : Nat, v = i ∧ i < xss.length ∧ s.dn.getD i true = true
theorem kSt_d {xss : List (Bool × List Int)} (h0 : 0 < xss.length) : ∀ k, KnD xss (kSt xss k)
  | 0 => ⟨by intro i hi; simp [kSt] at hi, by simp [kSt]⟩
  | k + 1 => by
    have ih := kSt_d h0 k
    have hs := kSt_ok h0 k
    rw [kSt]
    generalize kSt xss k = s at *
    unfold kStep
    split
    · rename_i hc
      obtain ⟨a, ha, e1, e2⟩ := tkAt_get hc.2
      obtain ⟨t, et, htl, htd⟩ := lf_mem (List.getElem_mem ha)
      have hdl := hs.len
      rw [e2, et, Int.toNat_natCast]
      refine ⟨div_rep ih.dv fun hm => ?_, fun v hv => ?_⟩
      · obtain ⟨i, e, _, hd⟩ := ih.dn _ hm
        have : t = i := by omega
        subst this
        rw [htd] at hd; cases hd
      · simp only [List.mem_append, List.mem_replicate] at hv
        rcases hv with hv | ⟨_, rfl⟩
        · obtain ⟨i, e, hi, hd⟩ := ih.dn v hv
          refine ⟨i, e, hi, ?_⟩
          by_cases hit : i = t
          · subst hit; simp [List.getD_eq_getElem?_getD, htl]
          · simp only
            rw [List.getD_eq_getElem?_getD, List.getElem?_set_ne (fun h => hit h.symm), ← List.getD_eq_getElem?_getD]; exact hd
        · exact ⟨t, rfl, by omega, by simp [List.getD_eq_getElem?_getD, htl]⟩
    · exact ih
/-- What the knife gives is a division. -/
theorem knife_div {xss : List (Bool × List Int)} (h : rectB xss 3 10 100 = true) : divB xss (knL xss) = true ∧ (knL xss).length = wid xss := by
  have h0 := rect_pos h
  have hd := kSt_d h0 (wid xss)
  have hs := kSt_ok h0 (wid xss)
  have hlen : (knL xss).length = wid xss := by
    rw [knL_yes h, List.length_append, List.length_replicate, hs.out]
    have := hs.fr; omega
  refine ⟨?_, hlen⟩
  simp only [divB, h, Bool.true_and, Bool.and_eq_true, decide_eq_true_eq]
  rw [knL_yes h] at hlen ⊢
  generalize kSt xss (wid xss) = s at *
  have hsm := hs.some
  have hsl := hs.len
  obtain ⟨w, ew, hwl, hwd⟩ := lf_mem (dn := s.dn) (List.getElem_mem (show 0 < (lf s.dn).length by omega))
  have ew' : (lf s.dn).getD 0 0 = (w : Int) := by rw [List.getD_eq_getElem?_getD, List.getElem?_eq_getElem (show 0 < (lf s.dn).length by omega)]; exact ew
  rw [ew'] at hlen ⊢
  refine ⟨⟨hlen, ?_⟩, allR_yes (div_rep hd.dv fun hm => ?_)⟩
  · unfold allIn
    rw [List.all_eq_true]
    intro v hv
    simp only [List.mem_append, List.mem_replicate] at hv
    simp only [inR, decide_eq_true_eq, Bool.and_eq_true]
    rcases hv with hv | ⟨_, rfl⟩
    · obtain ⟨i, e, hi, _⟩ := hd.dn v hv; omega
    · omega
  · obtain ⟨i, e, _, hdn⟩ := hd.dn _ hm
    have : w = i := by omega
    subst this
    rw [hwd] at hdn; cases hdn

/-- The cut: two rows of pieces. -/
theorem cut_rows {r0 r1 : List Int} : ∃ c f : Nat, c ≤ r0.length ∧ (f = 0 ∨ f = 1) ∧ cutList r0 r1 = List.replicate c (f : Int) ++ List.replicate (r0.length - c) ((1 - f : Nat) : Int) ∧ (f = 1 → sumW (r1.drop c) ≤ sumW (r1.take c)) ∧ (f = 0 → sumW (r1.take c) ≤ sumW (r1.drop c)) := by
  have hc := bestTo_le (r := r0) (m := r0.length)
  refine ⟨bestTo r0 (r0.length + 1), if sumW (r1.drop (bestTo r0 (r0.length + 1))) < sumW (r1.take (bestTo r0 (r0.length + 1))) then 1 else 0, hc, by split <;> simp, ?_, ?_, ?_⟩
  · apply List.ext_getElem
    · simp [cutList]; omega
    · intro i h1 h2
      have hi : i < r0.length := by simpa [cutList] using h1
      simp only [cutList, List.getElem_map, List.getElem_range, cutP]
      generalize bestTo r0 (r0.length + 1) = c at *
      by_cases hic : i < c
      · rw [if_pos hic, List.getElem_append_left (by simpa using hic), List.getElem_replicate]
        split <;> rfl
      · rw [if_neg hic, List.getElem_append_right (by simpa using hic), List.getElem_replicate]
        split <;> rfl
  · split
    · intro _; omega
    · intro h; omega
  · split
    · intro h; omega
    · intro _; omega
/-- What the cut gives: a division, in which nobody gets less than the other one by his own values. -/
theorem cut_facts {xss : List (Bool × List Int)} (h : rectB xss 3 10 100 = true) (h2 : xss.length = 2) : (cutL xss).1 = false ∧ divB xss (cutL xss).2 = true ∧ (cutL xss).2.length = wid xss ∧ wo xss (cutL xss).2 1 0 ≤ wo xss (cutL xss).2 1 1 ∧ ∀ x ∈ (cutL xss).2, x = 0 ∨ x = 1 := by
  obtain ⟨a0, a1, rfl⟩ : ∃ a0 a1, xss = [a0, a1] := by
    match xss, h2 with
    | [a0, a1], _ => exact ⟨a0, a1, rfl⟩
  have hL : cutL [a0, a1] = (false, cutList a0.2 a1.2) := by simp [cutL, h]
  rw [hL]
  obtain ⟨c, f, hc, hf, e, s1, s0⟩ := cut_rows (r0 := a0.2) (r1 := a1.2)
  have hw : wid [a0, a1] = a0.2.length := rfl
  have hl := rect_len h
  simp only
  have hlen : (cutList a0.2 a1.2).length = wid [a0, a1] := by rw [cutList_len, hw]
  have hr1 := (rect_row h (i := 1) (by simp)).1
  have hr1' : a1.2.length = a0.2.length := hr1
  have hwo : ∀ v : Int, wo [a0, a1] (cutList a0.2 a1.2) 1 v = (if (f : Int) = v then pre [a0, a1] 1 c else 0) + (if ((1 - f : Nat) : Int) = v then pre [a0, a1] 1 a0.2.length - pre [a0, a1] 1 c else 0) := fun v => by
    unfold wo
    rw [hlen, e, hw]
    have q1 := woTo_rep h (i := 1) (by simp) (l := List.replicate c (f : Int)) (v := v) (w := ((1 - f : Nat) : Int)) (c := a0.2.length - c) (j := a0.2.length - c) (Nat.le_refl _) (by simp [hw]; omega)
    have q2 := woTo_rep h (i := 1) (by simp) (l := []) (v := v) (w := (f : Int)) (c := c) (j := c) (Nat.le_refl _) (by simp [hw]; omega)
    simp only [List.length_replicate, List.length_nil, Nat.zero_add, List.nil_append] at q1 q2
    rw [show c + (a0.2.length - c) = a0.2.length by omega] at q1
    rw [q1, q2]
    simp [woTo, pre]
  have p1 := sum_pre (b := 0) (c := 0) h (i := 1) (by simp) (f := 0) (n := c) (by rw [hw]; omega)
  have p2 := sum_pre (b := 0) (c := 0) h (i := 1) (by simp) (f := c) (n := a0.2.length - c) (by rw [hw]; omega)
  have g1 : ([a0, a1] : List (Bool × List Int))[1] = a1 := rfl
  rw [show c + (a0.2.length - c) = a0.2.length by omega, g1, List.take_of_length_le (by simp; omega)] at p2
  rw [Nat.zero_add, g1, List.drop_zero] at p1
  have p0 : pre [a0, a1] 1 0 = 0 := rfl
  rw [p0] at p1
  refine ⟨trivial, ?_, hlen, ?_, ?_⟩
  · simp only [divB, h, Bool.true_and, Bool.and_eq_true, decide_eq_true_eq]
    refine ⟨⟨hlen, ?_⟩, ?_⟩
    · unfold allIn
      rw [List.all_eq_true]
      intro v hv
      rw [e] at hv
      simp only [List.mem_append, List.mem_replicate] at hv
      simp only [inR, decide_eq_true_eq, Bool.and_eq_true, List.length_cons, List.length_nil]
      rcases hv with ⟨_, rfl⟩ | ⟨_, rfl⟩ <;> omega
    · rw [e]
      refine allR_yes (div_rep ?_ ?_)
      · have := div_rep (l := []) (t := (f : Int)) (c := c) (fun i hi => by simp at hi) (by simp)
        simpa using this
      · simp only [List.mem_replicate, not_and]
        intro _; omega
  · rw [hwo, hwo]
    rcases hf with rfl | rfl
    · have := s0 rfl; simp; omega
    · have := s1 rfl; simp; omega
  · intro x hx
    rw [e] at hx
    simp only [List.mem_append, List.mem_replicate] at hx
    rcases hx with ⟨_, rfl⟩ | ⟨_, rfl⟩ <;> omega

theorem peRow_le {xss : List (Bool × List Int)} {l : List Int} {i : Nat} {m : Int} : ∀ {n k : Nat}, k < n → envD xss l i k ≤ peRow xss l i m n ∧ m ≤ peRow xss l i m n
  | n + 1, k, h => by
    rw [peRow]
    have hm : m ≤ peRow xss l i m n := by
      cases n with
      | zero => exact Int.le_refl _
      | succ n => exact (peRow_le (Nat.succ_pos n)).2
    by_cases e : k = n
    · subst e; omega
    · have := (peRow_le (xss := xss) (l := l) (i := i) (m := m) (show k < n by omega)).1; omega
theorem peTo_le {xss : List (Bool × List Int)} {l : List Int} : ∀ {n i k : Nat}, i < n → k < xss.length → envD xss l i k ≤ peTo xss l n
  | n + 1, i, k, hi, hk => by
    rw [peTo]
    have h := peRow_le (xss := xss) (l := l) (i := n) (m := peTo xss l n) hk
    by_cases e : i = n
    · subst e; exact h.1
    · have := peTo_le (xss := xss) (l := l) (show i < n by omega) hk; omega
/-- Where no piece is envied, no outer one is. -/
theorem pe_env {xss : List (Bool × List Int)} {l : List Int} (hd : divB xss l = true) (h0 : ¬ 0 < peTo xss l xss.length) : envB xss l = true := by
  obtain ⟨hr, hl⟩ := div_rect hd
  have hlen := rect_len hr
  refine allR_yes fun i hi => allR_yes fun k hk => ?_
  have he := peTo_le (l := l) hi hk
  have b1 := woTo_bd hr hi (l := l) (v := (k : Int)) (m := l.length) (by omega)
  have b2 := woTo_bd hr hi (l := l) (v := (i : Int)) (m := l.length) (by omega)
  have hle : wo xss l i k ≤ wo xss l i i := by
    unfold envD at he
    unfold wo at he ⊢
    rw [wrapI (by omega) (by omega)] at he
    omega
  by_cases hp : 0 ≤ pos l (k : Int)
  rotate_left
  · simp [outerB, hp]
  obtain ⟨f, hf⟩ : ∃ f : Nat, pos l (k : Int) = f := ⟨(pos l (k : Int)).toNat, by omega⟩
  obtain ⟨g1, g2, g3, g4, g5⟩ := outer_facts hd hi hf rfl
  rw [g5]
  have u1 := pre_up hr hi (a := f + tw l k (f + 1)) (b := f + tw l k (f + 1) + 1) (by omega) (by omega)
  have : ¬ wo xss l i i < pre xss i (f + tw l k (f + 1)) - pre xss i f := by omega
  simp [this]

/-- The whole of a person. -/
theorem sum_all {xss : List (Bool × List Int)} (h : rectB xss 3 10 100 = true) {i : Nat} (hi : i < xss.length) : sumW xss[i].2 = pre xss i (wid xss) := by
  have hr := (rect_row h hi).1
  have := sum_pre (b := 0) (c := 0) h hi (f := 0) (n := wid xss) (by omega)
  rw [List.drop_zero, List.take_of_length_le (by omega), Nat.zero_add] at this
  have p0 : pre xss i 0 = 0 := rfl
  rw [this, p0]; omega

theorem topE_bd {xss : List (Bool × List Int)} (h : rectB xss 3 10 100 = true) {i : Nat} (hi : i < xss.length) : ∀ {m : Nat}, m ≤ wid xss → 0 ≤ topE xss i m ∧ topE xss i m ≤ 100
  | 0, _ => by simp [topE]
  | m + 1, hm => by
    have h1 := topE_bd h hi (m := m) (by omega)
    have h2 := ent_bd h hi (k := m) (by omega)
    rw [topE]; omega

end Go.Proofs.Ytakladjlnkojjaa.Ax

/-
  Contracts: slices.Grow of nil, slices.Concat of ints. No condition.
-/
namespace Go.Proofs.Ytakladjlnkojjaa.Ax
open Go Go.RowKit
set_option linter.unusedSimpArgs false

noncomputable def mGrow : List AV → Option AV := mk (fun p => p ≤ 1000000) (fun (p : Nat) => [.sl true 1 [], int (p : Int)]) (fun p => .sl (decide (p = 0)) 1 [])
theorem mGrow_at (n : Nat) (h : n ≤ 1000000) : mGrow [.sl true 1 [], .v (.int .i64 (n : Int))] = some (.sl (decide (n = 0)) 1 []) :=
  mk_eq (enc := fun (p : Nat) => [.sl true 1 [], int (p : Int)]) (x := n) (by intro a b h; simp [int] at h; exact (by omega : a = b) ▸ rfl) h

/-- The rows, one behind the other. -/
def cat (xss : List (Bool × List Int)) : List Int := xss.flatMap (·.2)
def catTo (xss : List (Bool × List Int)) (k : Nat) : List Int := (xss.take k).flatMap (·.2)
theorem catTo_succ {xss : List (Bool × List Int)} {k : Nat} (h : k < xss.length) : catTo xss (k + 1) = catTo xss k ++ xss[k].2 := by
  unfold catTo
  rw [List.take_succ_eq_append_getElem h, List.flatMap_append]; simp
theorem catTo_all {xss : List (Bool × List Int)} : catTo xss xss.length = cat xss := by simp [catTo, cat]
theorem catTo_le {xss : List (Bool × List Int)} : ∀ {k : Nat}, (catTo xss k).length ≤ (cat xss).length := by
  intro k
  unfold catTo cat
  conv => rhs; rw [← List.take_append_drop k xss, List.flatMap_append]
  simp

noncomputable def mConcat : List AV → Option AV := mk (fun p => p.2.length ≤ 1000 ∧ (cat p.2).length ≤ 1000000) (fun (p : Bool × List (Bool × List Int)) => [intss p.1 p.2]) (fun p => .sl (decide (cat p.2 = [])) 1 ((cat p.2).map int))
theorem mConcat_at (nl : Bool) (xss : List (Bool × List Int)) (h : xss.length ≤ 1000 ∧ (cat xss).length ≤ 1000000) : mConcat [.sl nl 1 (xss.map row)] = some (.sl (decide (cat xss = [])) 1 ((cat xss).map int)) :=
  mk_eq (enc := fun (p : Bool × List (Bool × List Int)) => [intss p.1 p.2]) (x := (nl, xss)) (by rintro ⟨a, b⟩ ⟨c, d⟩ h; simp [intss, map_row_inj] at h; simp [h]) h

end Go.Proofs.Ytakladjlnkojjaa.Ax

/-
  Contract: indices (the program). No condition.
-/
namespace Go.Proofs.Ytakladjlnkojjaa.Ax
open Go Go.RowKit
set_option linter.unusedSimpArgs false

/-- 0, 1, .. -/
def idx (n : Nat) : List Int := (List.range n).map fun (i : Nat) => (i : Int)
def idxTo (n k : Nat) : List Int := idx k ++ List.replicate (n - k) 0
theorem idx_len {n : Nat} : (idx n).length = n := by simp [idx]
theorem idxTo_len {n k : Nat} (h : k ≤ n) : (idxTo n k).length = n := by simp [idxTo, idx_len]; omega
theorem idxTo_set {n k : Nat} (h : k < n) : (idxTo n k).set k (k : Int) = idxTo n (k + 1) := by
  unfold idxTo
  rw [List.set_append_right _ _ (by simp [idx_len]), idx_len, Nat.sub_self, show n - k = (n - (k + 1)) + 1 by omega, List.replicate_succ, List.set_cons_zero]
  simp [idx, List.range_succ]
theorem idxTo_all {n : Nat} : idxTo n n = idx n := by simp [idxTo]

noncomputable def mIdx : List AV → Option AV := mk (fun p => p ≤ 1000) (fun (p : Nat) => [int (p : Int)]) (fun p => ints false (idx p))
theorem mIdx_at (n : Nat) (h : n ≤ 1000) : mIdx [.v (.int .i64 (n : Int))] = some (.sl false 1 ((idx n).map int)) :=
  mk_eq (enc := fun (p : Nat) => [int (p : Int)]) (x := n) (by intro a b h; simp [int] at h; exact (by omega : a = b) ▸ rfl) h

set_option maxHeartbeats 1000000 in
theorem indices_ok : FnOk Try.prog 73 mIdx := by
  refine mk_ok fun n hn => ?_
  have hG : FnsOk Try.prog [] := .nil
  refine callOk_awp (ctx_ok eqOk hG) mixed (live := [true, false, true, true, true, false, false, false, true, true, true]) (dt := []) Try.func73 rfl (by kernel_rfl) (by kernel_rfl) fun w0 hlens => ?_
  clear hlens
  have h1 : 8 * n ≤ 281474976710656 := by omega
  have h2 : n ≤ 4611686018427387904 := by omega
  simp (config := {contextual := true}) [Try.f73, List.range, List.range.loop, ints, intss, int, bool, row, frac, fracs, ← List.map_take, ← List.map_drop, h1, h2]
  refine awp_range (live := [true, false, true, true, true, false, false, false, true, true, true]) (ctx_ok eqOk hG) mixed [false, false, false, true, false, false, false, false, true, true] (n) (fun k => True) (fun k => ⟨[.junk, .junk, .junk, .ref 0 [] 0 n, .junk, .junk, .junk, .junk, int n, int k, .junk, .junk, .junk, .junk, .junk, .junk, .junk, .junk], [⟨true, .sl false 1 ((idxTo n k).map int)⟩]⟩) ?_ (by simp [sub, slotsLe, clean, keep, refsL, refs, once, place, renL, ren, List.replicate, int, bool, idxTo, idx]) ?_ ?_ ?_
  · omega
  · trivial
  · intro k hk _ hwk
    have hl := idxTo_len (n := n) (k := k) (by omega)
    have hs := idxTo_set hk
    have hl2 := idxTo_len (n := n) (k := k + 1) (by omega)
    have hs' : ((idxTo n k).map int).set k (.v (.int .i64 (k : Int))) = (idxTo n (k + 1)).map int := by rw [← hs, List.map_set]; rfl
    simp (config := {contextual := true}) [List.range, List.range.loop, ints, intss, int, bool, row, frac, fracs, ← List.map_take, ← List.map_drop, hk, hwk, hl, hl2, hs', -List.map_set]
    done
  · intro _
    have hl := idxTo_len (n := n) (k := n) (by omega)
    rw [idxTo_all] at hl
    simp (config := {contextual := true}) [List.range, List.range.loop, ints, intss, int, bool, row, frac, fracs, ← List.map_take, ← List.map_drop, hl, idxTo_all]
    done

end Go.Proofs.Ytakladjlnkojjaa.Ax
