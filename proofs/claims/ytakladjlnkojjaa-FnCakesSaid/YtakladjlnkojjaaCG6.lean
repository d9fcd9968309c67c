/-
  Contracts: envy beyond an outer piece (both programs). No condition.
-/
import Derived.Test.YtakladjlnkojjaaCG5
namespace Go.Proofs.Ytakladjlnkojjaa.Ax
open Go Go.RowKit
set_option linter.unusedSimpArgs false

/-- How many numbers from place j on are v, in a row. -/
def tw (l : List Int) (v : Int) (j : Nat) : Nat := ((l.drop j).takeWhile fun x => decide (x = v)).length
theorem tw_yes {l : List Int} {v : Int} {j : Nat} (h : j < l.length) (e : l[j] = v) : tw l v j = tw l v (j + 1) + 1 := by
  unfold tw; rw [drop_get h, List.takeWhile_cons]; simp [e]
theorem tw_no {l : List Int} {v : Int} {j : Nat} (h : ∀ hj : j < l.length, l[j] ≠ v) : tw l v j = 0 := by
  unfold tw
  by_cases hj : j < l.length
  · rw [drop_get hj, List.takeWhile_cons]; simp [h hj]
  · rw [List.drop_eq_nil_of_le (by omega)]; simp
theorem tw_le {l : List Int} {v : Int} {j : Nat} (h : j ≤ l.length) : j + tw l v j ≤ l.length := by
  have h1 : tw l v j ≤ (l.drop j).length := (List.takeWhile_sublist _).length_le
  rw [List.length_drop] at h1; omega
theorem tw_in {l : List Int} {v : Int} : ∀ {n j : Nat}, tw l v j = n → ∀ i, j ≤ i → i < j + n → ∃ h : i < l.length, l[i] = v := by
  intro n
  induction n with
  | zero => intro j _ i h1 h2; omega
  | succ n ih =>
    intro j h i h1 h2
    by_cases hj : ∃ hj : j < l.length, l[j] = v
    · obtain ⟨hj, e⟩ := hj
      rw [tw_yes hj e] at h
      by_cases e2 : i = j
      · subst e2; exact ⟨hj, e⟩
      · exact ih (by omega : tw l v (j + 1) = n) i (by omega) (by omega)
    · rw [tw_no (fun hj' e => hj ⟨hj', e⟩)] at h; omega
theorem tw_end {l : List Int} {v : Int} : ∀ {n j : Nat}, tw l v j = n → ∀ h : j + n < l.length, l[j + n] ≠ v := by
  intro n
  induction n with
  | zero =>
    intro j h hj e
    rw [tw_yes (by simpa using hj) (by simpa using e)] at h; omega
  | succ n ih =>
    intro j h hj
    by_cases hj' : ∃ hj : j < l.length, l[j] = v
    · obtain ⟨hj2, e⟩ := hj'
      rw [tw_yes hj2 e] at h
      have := ih (by omega : tw l v (j + 1) = n) (by omega)
      simpa [Nat.add_assoc, Nat.add_comm 1] using this
    · rw [tw_no (fun hj2 e => hj' ⟨hj2, e⟩)] at h; omega

theorem posFrom_facts {v : Int} : ∀ {xs : List Int} {k : Nat}, 0 ≤ posFrom v xs k → ∃ p, posFrom v xs k = ((k + p : Nat) : Int) ∧ (∃ h : p < xs.length, xs[p] = v) ∧ ∀ j (h : j < xs.length), j < p → xs[j] ≠ v
  | [], k, h => by simp [posFrom] at h
  | x :: xs, k, h => by
    simp only [posFrom] at h ⊢
    by_cases e : x = v
    · rw [if_pos e]; exact ⟨0, by simp, ⟨by simp, by simpa using e⟩, fun j _ hj => by omega⟩
    · rw [if_neg e] at h ⊢
      obtain ⟨p, h1, ⟨h2, h3⟩, h4⟩ := posFrom_facts h
      refine ⟨p + 1, by rw [h1]; omega, ⟨by simp; omega, by simpa using h3⟩, fun j hj hjp => ?_⟩
      cases j with
      | zero => simpa using e
      | succ j => simpa using h4 j (by simpa using hj) (by omega)
theorem pos_facts {v : Int} {xs : List Int} (h : 0 ≤ pos xs v) : ∃ p : Nat, pos xs v = p ∧ (∃ h : p < xs.length, xs[p] = v) ∧ ∀ j (h : j < xs.length), j < p → xs[j] ≠ v := by
  obtain ⟨p, h1, h2⟩ := posFrom_facts h
  exact ⟨p, by unfold pos; rw [h1]; omega, h2⟩
theorem posFrom_mem {v : Int} : ∀ {xs : List Int} {k : Nat}, v ∈ xs → 0 ≤ posFrom v xs k
  | x :: xs, k, h => by
    simp only [posFrom]
    by_cases e : x = v
    · rw [if_pos e]; omega
    · rw [if_neg e]
      rcases List.mem_cons.1 h with h | h
      · exact (e h.symm).elim
      · exact posFrom_mem h
theorem pos_mem {v : Int} {xs : List Int} (h : v ∈ xs) : 0 ≤ pos xs v := posFrom_mem h

/-- Behind the row of an owner's pieces there is none of them. -/
theorem div_after {l : List Int} (hd : upto (divAt l) l.length) {v : Int} {p : Nat} (hp : ∃ h : p < l.length, l[p] = v) {e : Nat} (he : e = p + tw l v (p + 1)) : ∀ j (h : j < l.length), e < j → l[j] ≠ v := by
  obtain ⟨hp1, hp2⟩ := hp
  intro j
  induction j with
  | zero => intro _ h; omega
  | succ j ih =>
    intro h hj hv
    by_cases hje : e = j
    · subst hje
      have := tw_end (l := l) (v := v) (j := p + 1) rfl
      have e2 : p + 1 + tw l v (p + 1) = e + 1 := by omega
      simp only [e2] at this
      exact this h hv
    · have h1 := ih (by omega) (by omega)
      have h2 := hd (j + 1) h
      unfold divAt at h2
      rw [getD_at h, show j + 1 - 1 = j from rfl, getD_at (show j < l.length by omega), hv] at h2
      have hm : 0 ≤ pos (l.take (j + 1)) v := pos_mem (by
        rw [List.mem_take_iff_getElem]
        exact ⟨p, by omega, hp2⟩)
      simp [hm] at h2
      exact h1 h2

/-- What the first m pieces are worth to person i. -/
def pre (xss : List (Bool × List Int)) (i : Nat) : Nat → Int
  | 0 => 0
  | m + 1 => pre xss i m + ent xss i m

theorem pre_bd {xss : List (Bool × List Int)} {a b c : Int} (h : rectB xss a b c = true) {i : Nat} (hi : i < xss.length) {m : Nat} : ∀ {n : Nat}, m + n ≤ wid xss → 0 ≤ pre xss i (m + n) - pre xss i m ∧ pre xss i (m + n) - pre xss i m ≤ c * n
  | 0, _ => by simp
  | n + 1, hn => by
    have h1 := pre_bd h hi (m := m) (n := n) (by omega)
    have h2 := ent_bd h hi (k := m + n) (by omega)
    rw [show m + (n + 1) = m + n + 1 by omega, pre]
    have : c * ((n + 1 : Nat) : Int) = c * n + c := by rw [Int.natCast_add, Int.mul_add]; simp
    rw [this]; omega

theorem sum_pre {xss : List (Bool × List Int)} {b c : Int} (h : rectB xss 3 10 100 = true) {i : Nat} (hi : i < xss.length) {f : Nat} : ∀ {n : Nat}, f + n ≤ wid xss → sumW ((xss[i].2.drop f).take n) = pre xss i (f + n) - pre xss i f
  | 0, _ => by simp [sumW]
  | n + 1, hn => by
    have hr := (rect_row h hi).1
    have hl := rect_len h
    have hlt : n < (xss[i].2.drop f).length := by rw [List.length_drop]; omega
    rw [sumW_succ hlt, sum_pre (b := b) (c := c) h hi (by omega)]
    have h1 := pre_bd h hi (m := f) (n := n) (by omega)
    have h2 := ent_bd h hi (k := f + n) (by omega)
    have e : (xss[i].2.drop f)[n] = ent xss i (f + n) := by
      rw [List.getElem_drop]
      have := ent_at hi (k := f + n) (by omega)
      push_cast at this; rw [this]
    rw [e, show f + (n + 1) = f + n + 1 by omega, pre]
    have hw := wrapI (x := pre xss i (f + n) - pre xss i f + ent xss i ((f : Int) + (n : Int))) (by push_cast at h2; omega) (by push_cast at h2; omega)
    rw [hw]; push_cast; omega

/-- What the pieces of one owner, which lie from f to e, are worth. -/
theorem wo_pre_eq {xss : List (Bool × List Int)} {l : List Int} (h : rectB xss 3 10 100 = true) (hl : l.length = wid xss) {i : Nat} (hi : i < xss.length) {v : Int} {f e : Nat} (hfe : f ≤ e) (he : e < l.length)
    (h1 : ∀ j (h : j < l.length), j < f → l[j] ≠ v) (h2 : ∀ j (h : j < l.length), f ≤ j → j ≤ e → l[j] = v) (h3 : ∀ j (h : j < l.length), e < j → l[j] ≠ v) :
    ∀ m, m ≤ l.length → woTo xss l i v m = pre xss i (max f (min m (e + 1))) - pre xss i f
  | 0, _ => by simp [woTo]
  | m + 1, hm => by
    have hml : m < l.length := by omega
    have ih := wo_pre_eq h hl hi hfe he h1 h2 h3 m (by omega)
    have hw := rect_len h
    rw [woTo, getD_at hml, ih]
    by_cases c1 : m < f
    · rw [if_neg (h1 m hml c1)]
      congr 2; omega
    · by_cases c2 : m ≤ e
      · rw [if_pos (h2 m hml (by omega) c2)]
        have e1 : max f (min m (e + 1)) = f + (m - f) := by omega
        have e2 : max f (min (m + 1) (e + 1)) = f + (m - f) + 1 := by omega
        have e3 : (m : Int) = ((f + (m - f) : Nat) : Int) := by omega
        rw [e1, e2, pre]
        have b1 := pre_bd h hi (m := f) (n := m - f) (by omega)
        have b2 := ent_bd h hi (k := f + (m - f)) (by omega)
        rw [← e3] at b2 ⊢
        rw [wrapI (by omega) (by omega)]; omega
      · rw [if_neg (h3 m hml (by omega))]
        congr 2; omega

def outerB (xss : List (Bool × List Int)) (l : List Int) (i : Nat) (k : Int) : Bool :=
  decide (0 ≤ pos l k) && (decide (wo xss l i i < pre xss i ((pos l k).toNat + tw l k ((pos l k).toNat + 1)) - pre xss i (pos l k).toNat) &&
    decide (wo xss l i i < pre xss i ((pos l k).toNat + tw l k ((pos l k).toNat + 1) + 1) - pre xss i ((pos l k).toNat + 1)))

theorem outer_facts {xss : List (Bool × List Int)} {l : List Int} (hd : divB xss l = true) {i : Nat} (hi : i < xss.length) {k : Int} {f e : Nat} (hf : pos l k = f) (he : e = f + tw l k (f + 1)) :
    f < l.length ∧ e < l.length ∧ f ≤ e ∧ wo xss l i k = pre xss i (e + 1) - pre xss i f ∧
    outerB xss l i k = (decide (wo xss l i i < pre xss i e - pre xss i f) && decide (wo xss l i i < pre xss i (e + 1) - pre xss i (f + 1))) := by
  have hd' := hd
  simp only [divB, Bool.and_eq_true, decide_eq_true_eq] at hd'
  obtain ⟨⟨⟨hr, hl⟩, hin⟩, hall⟩ := hd'
  have hup : upto (divAt l) l.length := fun j hj => by
    unfold allR at hall; rw [List.all_eq_true] at hall; exact hall j (by simpa using hj)
  obtain ⟨p, hp, ⟨hp1, hp2⟩, hp3⟩ := pos_facts (xs := l) (v := k) (by omega)
  have hpf : p = f := by omega
  subst hpf
  have hle := tw_le (l := l) (v := k) (j := p + 1) (by omega)
  have hafter := div_after hup ⟨hp1, hp2⟩ he
  have hmid : ∀ j (h : j < l.length), p ≤ j → j ≤ e → l[j] = k := fun j hj h1 h2 => by
    by_cases ej : j = p
    · subst ej; exact hp2
    · obtain ⟨_, h⟩ := tw_in (l := l) (v := k) (j := p + 1) rfl j (by omega) (by omega)
      exact h
  refine ⟨hp1, by omega, by omega, ?_, ?_⟩
  · have := wo_pre_eq hr hl hi (f := p) (e := e) (by omega) (by omega) hp3 hmid hafter l.length (Nat.le_refl _)
    unfold wo; rw [this]; congr 2; omega
  · unfold outerB; rw [hf]; simp [he]

noncomputable def mOuter : List AV → Option AV := mk (fun p => 0 ≤ p.2.2.2.2.1 ∧ p.2.2.2.2.1.toNat < p.2.1.length ∧ divB p.2.1 p.2.2.2.1 = true) (fun (p : (Bool) × (List (Bool × List Int)) × (Bool) × (List Int) × (Int) × (Int)) => [intss p.1 p.2.1, ints p.2.2.1 p.2.2.2.1, int p.2.2.2.2.1, int p.2.2.2.2.2]) (fun p => bool (outerB p.2.1 p.2.2.2.1 p.2.2.2.2.1.toNat p.2.2.2.2.2))
theorem mOuter_at (nl : Bool) (xss : List (Bool × List Int)) (nl' : Bool) (l : List Int) (i : Int) (k : Int) (hpre : 0 ≤ i ∧ i.toNat < xss.length ∧ divB xss l = true) : mOuter [.sl nl 1 (xss.map row), .sl nl' 1 (l.map int), .v (.int .i64 i), .v (.int .i64 k)] = some (.v (.bool (outerB xss l i.toNat k))) :=
  mk_eq (enc := fun (p : (Bool) × (List (Bool × List Int)) × (Bool) × (List Int) × (Int) × (Int)) => [intss p.1 p.2.1, ints p.2.2.1 p.2.2.2.1, int p.2.2.2.2.1, int p.2.2.2.2.2]) (x := (nl, xss, nl', l, i, k)) (by rintro ⟨a0, a1, a2, a3, a4, a5⟩ ⟨b0, b1, b2, b3, b4, b5⟩ h; simp [ints, intss, int, bool, row, frac, fracs, map_int_inj, map_row_inj, frac_inj, map_frac_inj] at h; simp [h]) hpre

def rowEnv (xss : List (Bool × List Int)) (l : List Int) (i : Nat) : Bool := allR xss.length fun k => !outerB xss l i k
def envB (xss : List (Bool × List Int)) (l : List Int) : Bool := allR xss.length (rowEnv xss l)

noncomputable def mEnvB : List AV → Option AV := mk (fun p => divB p.2.1 p.2.2.2 = true) (fun (p : (Bool) × (List (Bool × List Int)) × (Bool) × (List Int)) => [intss p.1 p.2.1, ints p.2.2.1 p.2.2.2]) (fun p => bool (!envB p.2.1 p.2.2.2))
theorem mEnvB_at (nl : Bool) (xss : List (Bool × List Int)) (nl' : Bool) (l : List Int) (hpre : divB xss l = true) : mEnvB [.sl nl 1 (xss.map row), .sl nl' 1 (l.map int)] = some (.v (.bool (!envB xss l))) :=
  mk_eq (enc := fun (p : (Bool) × (List (Bool × List Int)) × (Bool) × (List Int)) => [intss p.1 p.2.1, ints p.2.2.1 p.2.2.2]) (x := (nl, xss, nl', l)) (by rintro ⟨a0, a1, a2, a3⟩ ⟨b0, b1, b2, b3⟩ h; simp [ints, intss, int, bool, row, frac, fracs, map_int_inj, map_row_inj, frac_inj, map_frac_inj] at h; simp [h]) hpre

set_option maxHeartbeats 4000000 in
theorem hasOuterEnvy_ok : FnOk Try.prog 79 mEnvB := by
  refine mk_ok fun ⟨nl, xss, nl', l⟩ hd => ?_
  simp only at hd
  obtain ⟨h1, h2⟩ := div_rect hd
  have hl := rect_len h1
  have hG : FnsOk Try.prog [(80, mWorth), (86, mPos), (63, mSum)] := (.cons worth_ok (.cons slicesIndex_ok (.cons sumOf_ok .nil)))
  refine callOk_awp (ctx_ok eqOk hG) mixed (live := [true, true, false, false, true, true, true, true, true, true, true, true, true, true, true, false, false, false, false, false, false, false, false, false, true, true, true, false, false, false, false, false, true, false, false, false, false, false, false, false, false, false, false, false, false, false, false, true, false, false, false, false, false, false, false, false, false, false, false, false, false, false, false, false, false, false, false, true]) (dt := []) Try.func79 rfl (by kernel_rfl) (by kernel_rfl) fun w0 hlens => ?_
  clear hlens
  generalize hm : envB xss l = r
  unfold envB at hm
  simp (config := {contextual := true}) [Try.f79, List.range, List.range.loop, ints, intss, int, bool, row, frac, fracs, ← List.map_take, ← List.map_drop]
  refine awp_range (live := [true, true, false, false, true, true, true, true, true, true, true, true, true, true, true, false, false, false, false, false, false, false, false, false, true, true, true, false, false, false, false, false, true, false, false, false, false, false, false, false, false, false, false, false, false, false, false, true, false, false, false, false, false, false, false, false, false, false, false, false, false, false, false, false, false, false, false, true]) (ctx_ok eqOk hG) mixed [true, true, false, false, false, false, false, false, false, false, false, true, true, true] (xss.length) (fun i => upto (rowEnv xss l) i) (fun i => ⟨[intss nl xss, ints nl' l, .junk, .junk, .junk, .junk, .junk, .junk, .junk, .junk, .junk, intss nl xss, int xss.length, int i, .junk, .junk, .junk, .junk, .junk, .junk, .junk, .junk, .junk, .junk, .junk, .junk, .junk, .junk, .junk, .junk, .junk, .junk, .junk, .junk, .junk, .junk, .junk, .junk, .junk, .junk, .junk, .junk, .junk, .junk, .junk, .junk, .junk, .junk, .junk, .junk, .junk, .junk, .junk, .junk, .junk, .junk, .junk, .junk, .junk, .junk, .junk, .junk, .junk, .junk, .junk, .junk, .junk, .junk, .junk, .junk], []⟩) ?_ (by simp [sub, slotsLe, clean, keep, refsL, refs, once, place, renL, ren, List.replicate, int, bool, intss, ints]) ?_ ?_ ?_
  · omega
  · exact upto_zero
  · intro i hi hpi hwi
    have hf : rowEnv xss l i = false → r = false := fun hf => by rw [← hm]; exact allR_no hi hf
    have ht := upto_succ hpi
    have hrow := (rect_row h1 hi).1
    have z2 := mWorth_at nl xss nl' l i i (wo_pre h1 (by omega) hi)
    rw [Int.toNat_natCast] at z2
    simp (config := {contextual := true}) [List.range, List.range.loop, ints, intss, int, bool, row, frac, fracs, ← List.map_take, ← List.map_drop, hi, hwi, z2]
    refine awp_range (live := [true, true, false, false, true, true, true, true, true, true, true, true, true, true, true, false, false, false, false, false, false, false, false, false, true, true, true, false, false, false, false, false, true, false, false, false, false, false, false, false, false, false, false, false, false, false, false, true, false, false, false, false, false, false, false, false, false, false, false, false, false, false, false, false, false, false, false, true]) (ctx_ok eqOk hG) mixed [true, true, false, false, false, false, true, true, false, false, false, true, true, true, false, false, false, false, false, false, false, false, false, false, true, true] (xss.length) (fun k => upto (fun k => !outerB xss l i k) k) (fun k => ⟨[intss nl xss, ints nl' l, .junk, .junk, .junk, .junk, row xss[i], int (wo xss l i i), .junk, .junk, .junk, intss nl xss, int xss.length, int i, .junk, .junk, .junk, .junk, .junk, .junk, .junk, .junk, .junk, .junk, int xss.length, int k, .junk, .junk, .junk, .junk, .junk, .junk, .junk, .junk, .junk, .junk, .junk, .junk, .junk, .junk, .junk, .junk, .junk, .junk, .junk, .junk, .junk, .junk, .junk, .junk, .junk, .junk, .junk, .junk, .junk, .junk, .junk, .junk, .junk, .junk, .junk, .junk, .junk, .junk, .junk, .junk, .junk, .junk, .junk, .junk], []⟩) ?_ (by simp [sub, slotsLe, clean, keep, refsL, refs, once, place, renL, ren, List.replicate, int, bool, intss, ints, row]) ?_ ?_ ?_
    · omega
    · exact upto_zero
    · intro k hk hpk hwk
      have hf2 : outerB xss l i k = true → r = false := fun hg => hf (allR_no hk (by simp [hg]))
      have ht2 := upto_succ hpk
      by_cases hpos : 0 ≤ pos l k
      rotate_left
      · have hneg : pos l k < 0 := by omega
        have ho : outerB xss l i k = false := by simp [outerB, hpos]
        have ht3 := ht2 (by simp [ho])
        generalize (fun k => !outerB xss l i k) = g at *
        simp (config := {contextual := true}) [List.range, List.range.loop, ints, intss, int, bool, row, frac, fracs, ← List.map_take, ← List.map_drop, hk, hwk, mPos_at, hneg, ht3]
      obtain ⟨f, hf0⟩ := Int.eq_ofNat_of_zero_le hpos
      obtain ⟨f1, f2, f3, f4, f5⟩ := outer_facts hd hi hf0 rfl
      generalize he : f + tw l k (f + 1) = e at *
      have hnn : ¬ (f : Int) < 0 := by omega
      generalize hob : outerB xss l i k = ob at f5
      have ht3 : ob = false → upto (fun k => !outerB xss l i k) (k + 1) := fun h => ht2 (by simp [hob, h])
      have hf3 : ob = true → r = false := fun h => hf2 (by rw [hob, h])
      generalize (fun k => !outerB xss l i k) = g at *
      simp (config := {contextual := true}) [List.range, List.range.loop, ints, intss, int, bool, row, frac, fracs, ← List.map_take, ← List.map_drop, hk, hwk, mPos_at, hf0, hnn]
      refine awp_loop_of (live := [true, true, false, false, true, true, true, true, true, true, true, true, true, true, true, false, false, false, false, false, false, false, false, false, true, true, true, false, false, false, false, false, true, false, false, false, false, false, false, false, false, false, false, false, false, false, false, true, false, false, false, false, false, false, false, false, false, false, false, false, false, false, false, false, false, false, false, true]) (ctx_ok eqOk hG) mixed [true, true, false, false, false, false, true, true, true, true, true, true, true, true, false, false, false, false, false, false, false, false, false, false, true, true] (α := {m : Nat // m < l.length ∧ m + tw l k (m + 1) = e}) (fun m => ⟨[intss nl xss, ints nl' l, .junk, .junk, .junk, .junk, row xss[i], int (wo xss l i i), int k, int f, int m.1, intss nl xss, int xss.length, int i, .junk, .junk, .junk, .junk, .junk, .junk, .junk, .junk, .junk, .junk, int xss.length, int k, .junk, .junk, .junk, .junk, .junk, .junk, .junk, .junk, .junk, .junk, .junk, .junk, .junk, .junk, .junk, .junk, .junk, .junk, .junk, .junk, .junk, .junk, .junk, .junk, .junk, .junk, .junk, .junk, .junk, .junk, .junk, .junk, .junk, .junk, .junk, .junk, .junk, .junk, .junk, .junk, .junk, .junk, .junk, .junk], []⟩) (fun m => l.length - m.1) ⟨f, f1, he⟩ (by simp [sub, slotsLe, clean, keep, refsL, refs, once, place, renL, ren, List.replicate, int, bool, intss, ints, row]) ?_
      rintro ⟨m, hm, hme⟩
      have hw1 : IntKind.i64.wrap ((m : Int) + 1) = (m : Int) + 1 := wrapI (by omega) (by omega)
      by_cases c : ∃ c1 : m + 1 < l.length, l[m + 1] = k
      · obtain ⟨c1, c2⟩ := c
        have := tw_yes c1 c2
        simp (config := {contextual := true}) [List.range, List.range.loop, ints, intss, int, bool, row, frac, fracs, ← List.map_take, ← List.map_drop, hw1, c1, c2]
        exact ⟨⟨m + 1, c1, by omega⟩, by simp [sub, slotsLe, clean, keep, refsL, refs, once, place, renL, ren, List.replicate, int, bool], by simp; omega⟩
      · have := tw_no (l := l) (v := k) (j := m + 1) (fun h e => c ⟨h, e⟩)
        have hme' : m = e := by omega
        subst hme'
        have s1 := sum_pre (b := 0) (c := 0) h1 hi (f := f) (n := m - f) (by omega)
        have s2 := sum_pre (b := 0) (c := 0) h1 hi (f := f + 1) (n := m + 1 - (f + 1)) (by omega)
        rw [show f + (m - f) = m by omega] at s1
        rw [show f + 1 + (m + 1 - (f + 1)) = m + 1 by omega] at s2
        rw [Nat.add_sub_add_right] at s2
        have q1 : f ≤ m := by omega
        have q2 : m ≤ xss[i].2.length := by omega
        have q3 : m < xss[i].2.length := by omega
        have q4 : m + 1 ≤ xss[i].2.length := by omega
        have hw2 : IntKind.i64.wrap ((f : Int) + 1) = (f : Int) + 1 := wrapI (by omega) (by omega)
        by_cases c1 : m + 1 < l.length
        · have c2 : ¬ l[m + 1] = k := fun e => c ⟨c1, e⟩
          simp (config := {contextual := true}) [List.range, List.range.loop, ints, intss, int, bool, row, frac, fracs, ← List.map_take, ← List.map_drop, hw1, hw2, c1, c2, mSum_at, s1, s2, q1, q2, q3, q4]
          exact ⟨fun a => ⟨fun b => hf3 (by rw [f5]; simp [a, b]), fun b => ⟨hwk, ht3 (by rw [f5]; simp; intro _; omega)⟩⟩, fun a => ⟨hwk, ht3 (by rw [f5]; simp; intro _; omega)⟩⟩
        · simp (config := {contextual := true}) [List.range, List.range.loop, ints, intss, int, bool, row, frac, fracs, ← List.map_take, ← List.map_drop, hw1, hw2, c1, mSum_at, s1, s2, q1, q2, q3, q4]
          exact ⟨fun a => ⟨fun b => hf3 (by rw [f5]; simp [a, b]), fun b => ⟨hwk, ht3 (by rw [f5]; simp; intro _; omega)⟩⟩, fun a => ⟨hwk, ht3 (by rw [f5]; simp; intro _; omega)⟩⟩
    · intro hpk
      have := ht (allR_yes hpk)
      simp (config := {contextual := true}) [List.range, List.range.loop, ints, intss, int, bool, row, frac, fracs, ← List.map_take, ← List.map_drop, hi, hwi, this]
  · intro hpi
    rw [allR_yes hpi] at hm
    subst hm
    simp (config := {contextual := true}) [List.range, List.range.loop, ints, intss, int, bool, row, frac, fracs, ← List.map_take, ← List.map_drop]

noncomputable def mHasOuter : List AV → Option AV := mk (fun _ => True) (fun (p : (Bool) × (List (Bool × List Int)) × (Bool) × (List Int)) => [intss p.1 p.2.1, ints p.2.2.1 p.2.2.2]) (fun p => bool (divB p.2.1 p.2.2.2 && !envB p.2.1 p.2.2.2))
theorem mHasOuter_at (nl : Bool) (xss : List (Bool × List Int)) (nl' : Bool) (l : List Int) : mHasOuter [.sl nl 1 (xss.map row), .sl nl' 1 (l.map int)] = some (.v (.bool (divB xss l && !envB xss l))) :=
  mk_eq (enc := fun (p : (Bool) × (List (Bool × List Int)) × (Bool) × (List Int)) => [intss p.1 p.2.1, ints p.2.2.1 p.2.2.2]) (x := (nl, xss, nl', l)) (by rintro ⟨a0, a1, a2, a3⟩ ⟨b0, b1, b2, b3⟩ h; simp [ints, intss, int, bool, row, frac, fracs, map_int_inj, map_row_inj, frac_inj, map_frac_inj] at h; simp [h]) trivial

theorem implHasOuterEnvy_ok : FnOk Try.prog 37 mHasOuter := by
  refine mk_ok fun ⟨nl, xss, nl', l⟩ _ => ?_
  have hG : FnsOk Try.prog [(33, mDiv), (79, mEnvB)] := (.cons implIsDivision_ok (.cons hasOuterEnvy_ok .nil))
  refine callOk_awp (ctx_ok eqOk hG) mixed (live := [true, true, false, false, true]) (dt := []) Try.func37 rfl (by kernel_rfl) (by kernel_rfl) fun w0 hlens => ?_
  clear hlens
  cases h : divB xss l with
  | false => simp (config := {contextual := true}) [Try.f37, List.range, List.range.loop, ints, intss, int, bool, row, frac, fracs, ← List.map_take, ← List.map_drop, mDiv_at, h]
  | true => simp (config := {contextual := true}) [Try.f37, List.range, List.range.loop, ints, intss, int, bool, row, frac, fracs, ← List.map_take, ← List.map_drop, mDiv_at, mEnvB_at, h]

end Go.Proofs.Ytakladjlnkojjaa.Ax

/-
  The plain side of MovingKnife: who is left, who takes the next strip. No condition.
-/
namespace Go.Proofs.Ytakladjlnkojjaa.Ax
open Go Go.RowKit
set_option linter.unusedSimpArgs false

/-- Whether the pieces from fr up to to are worth a share to person i. -/
def shB (xss : List (Bool × List Int)) (fr to : Nat) (i : Nat) : Bool := decide (sumW (xss.getD i (true, [])).2 ≤ IntKind.i64.wrap (sumW (((xss.getD i (true, [])).2.drop fr).take (to - fr)) * xss.length))
/-- Who is left. -/
def lf (dn : List Bool) : List Int := selTo (fun i => !dn.getD i true) dn.length
/-- The place among those who are left of the next taker, or -1. -/
def tkAt (xss : List (Bool × List Int)) (dn : List Bool) (fr to : Nat) : Int := idxOf (fun i => shB xss fr to i.toNat) (lf dn)
/-- The next taker, or -1. -/
def tkr (xss : List (Bool × List Int)) (dn : List Bool) (fr to : Nat) : Int := if 0 ≤ tkAt xss dn fr to then (lf dn).getD (tkAt xss dn fr to).toNat 0 else -1

theorem idxOf_lt {α : Type} {p : α → Bool} {xs : List α} (h : 0 ≤ idxOf p xs) : (idxOf p xs).toNat < xs.length ∧ ∃ hl : (idxOf p xs).toNat < xs.length, p xs[(idxOf p xs).toNat] = true := by
  unfold idxOf at *
  cases hf : xs.findIdx? p with
  | none => rw [hf] at h; simp at h
  | some k =>
    obtain ⟨hk, hp, _⟩ := List.findIdx?_eq_some_iff_getElem.1 hf
    simp only [Option.elim]
    exact ⟨by simpa using hk, by simpa using hk, by simpa using hp⟩

theorem selTo_split {q : Nat → Bool} {k : Nat} (hq : q k = true) : ∀ {n : Nat}, k < n → ∃ r, selTo q n = selTo q k ++ (k : Int) :: r
  | 0, h => by omega
  | n + 1, h => by
    by_cases e : k = n
    · subst e; exact ⟨[], selTo_yes hq⟩
    · obtain ⟨r, hr⟩ := selTo_split hq (n := n) (by omega)
      cases hn : q n with
      | true => exact ⟨r ++ [(n : Int)], by rw [selTo_yes hn, hr]; simp⟩
      | false => exact ⟨r, by rw [selTo_no hn, hr]⟩

/-- The first of those who are left, and for whom something holds. -/
theorem first_sel {q : Nat → Bool} {p : Int → Bool} {n k : Nat} (hk : k < n) (hq : q k = true) (hp : p k = true) (hno : ∀ j, j < k → q j = true → p j = false) :
    idxOf p (selTo q n) = (selTo q k).length ∧ (selTo q n).getD (selTo q k).length 0 = k := by
  obtain ⟨r, hr⟩ := selTo_split hq hk
  have hlt : (selTo q k).length < (selTo q n).length := by rw [hr]; simp
  refine ⟨idxOf_found hlt (fun j hj hjk => ?_) ?_, ?_⟩
  · have : (selTo q n)[j] = (selTo q k)[j] := by simp only [hr]; rw [List.getElem_append_left hjk]
    rw [this]
    obtain ⟨i, e, h1, h2⟩ := selTo_mem (List.getElem_mem hjk)
    rw [e]; exact hno i h1 h2
  · have : (selTo q n)[(selTo q k).length] = (k : Int) := by simp only [hr]; rw [List.getElem_append_right (Nat.le_refl _)]; simp
    rw [this]; exact hp
  · rw [hr, List.getD_eq_getElem?_getD, List.getElem?_append_right (Nat.le_refl _)]; simp
theorem none_sel {q : Nat → Bool} {p : Int → Bool} {n : Nat} (hno : ∀ j, j < n → q j = true → p j = false) : idxOf p (selTo q n) = -1 :=
  idxOf_none fun j hj _ => by
    obtain ⟨i, e, h1, h2⟩ := selTo_mem (List.getElem_mem hj)
    rw [e]; exact hno i h1 h2

theorem selTo_congr {q q' : Nat → Bool} {n : Nat} (h : ∀ i, i < n → q i = q' i) : selTo q n = selTo q' n := by
  unfold selTo
  congr 1
  exact List.filter_congr fun i hi => h i (by simpa using hi)

/-- One of those who are left goes. -/
theorem sel_del {q : Nat → Bool} {n a : Nat} (ha : a < (selTo q n).length) : (selTo q n).take a ++ (selTo q n).drop (a + 1) = selTo (fun i => q i && decide ((i : Int) ≠ (selTo q n)[a])) n := by
  obtain ⟨k, e, hk, hq⟩ := selTo_mem (List.getElem_mem ha)
  simp only [e]
  induction n with
  | zero => simp [selTo] at ha
  | succ n ih =>
    by_cases hkn : k = n
    · subst hkn
      have hs := selTo_yes hq
      have hal : a = (selTo q k).length := by
        rcases Nat.lt_or_ge a (selTo q k).length with h | h
        · exfalso
          have : (selTo q (k + 1))[a] = (selTo q k)[a] := by simp only [hs]; rw [List.getElem_append_left h]
          rw [this] at e
          obtain ⟨i, e2, h2, _⟩ := selTo_mem (List.getElem_mem h)
          rw [e2] at e
          omega
        · rw [hs] at ha; simp at ha; omega
      have hno : selTo (fun i => q i && decide ((i : Int) ≠ (k : Int))) (k + 1) = selTo (fun i => q i && decide ((i : Int) ≠ (k : Int))) k := selTo_no (by simp)
      rw [hno, hs, hal]
      rw [show (selTo q k).length + 1 = (selTo q k ++ [(k : Int)]).length by simp, List.drop_length, List.append_nil, List.take_left]
      exact selTo_congr fun i hi => by
        have : ¬ ((i : Int) = (k : Int)) := by omega
        simp [this]
    · have hkn' : k < n := by omega
      cases hn : q n with
      | true =>
        have hs := selTo_yes hn
        have han : a < (selTo q n).length := by
          rcases Nat.lt_or_ge a (selTo q n).length with h | h
          · exact h
          · exfalso
            rw [hs] at ha; simp at ha
            have hal : a = (selTo q n).length := by omega
            subst hal
            have : (selTo q (n + 1))[(selTo q n).length]'(by rw [hs]; simp) = (n : Int) := by simp only [hs]; rw [List.getElem_append_right (Nat.le_refl _)]; simp
            rw [this] at e
            omega
        have e' : (selTo q n)[a] = (k : Int) := by rw [← e]; simp only [hs]; rw [List.getElem_append_left han]
        have := ih han e' hkn'
        rw [selTo_yes (p := fun i => q i && decide ((i : Int) ≠ (k : Int))) (by simp [hn]; omega), ← this, hs, List.take_append_of_le_length (by omega), List.drop_append_of_le_length (by omega)]
        simp
      | false =>
        have hs := selTo_no hn
        have han : a < (selTo q n).length := by rw [← hs]; exact ha
        have e' : (selTo q n)[a] = (k : Int) := by rw [← e]; simp only [hs]
        have := ih han e' hkn'
        rw [selTo_no (p := fun i => q i && decide ((i : Int) ≠ (k : Int))) (by simp [hn]), ← this, hs]

theorem lf_mem {dn : List Bool} {x : Int} (h : x ∈ lf dn) : ∃ i : Nat, x = i ∧ i < dn.length ∧ dn.getD i true = false := by
  obtain ⟨i, e, h1, h2⟩ := selTo_mem h
  exact ⟨i, e, h1, by simpa using h2⟩
theorem lf_del {dn : List Bool} {a : Nat} (ha : a < (lf dn).length) : (lf dn).take a ++ (lf dn).drop (a + 1) = lf (dn.set (lf dn)[a].toNat true) := by
  obtain ⟨k, e, hk, hd⟩ := lf_mem (List.getElem_mem ha)
  unfold lf at *
  rw [sel_del ha, List.length_set]
  refine selTo_congr fun i hi => ?_
  rw [e]
  simp only [Int.toNat_natCast]
  by_cases hik : i = k
  · subst hik; simp [List.getD_eq_getElem?_getD, hi]
  · have h1 : ¬ ((i : Int) = (k : Int)) := by omega
    have h2 : ¬ k = i := fun h => hik h.symm
    simp [List.getD_eq_getElem?_getD, List.getElem?_set_ne h2, h1, hik]
theorem lf_len {dn : List Bool} : (lf dn).length ≤ dn.length := selTo_len
theorem lf_all {n : Nat} : lf (List.replicate n false) = selTo (fun _ => true) n := by
  unfold lf
  rw [List.length_replicate]
  exact selTo_congr fun i hi => by simp [List.getD_eq_getElem?_getD, hi]

/-- Who is done, up to where the pieces are given, who has them. -/
structure Kn where
  dn : List Bool
  fr : Nat
  out : List Int
def kStep (xss : List (Bool × List Int)) (s : Kn) (to : Nat) : Kn :=
  if 2 ≤ (lf s.dn).length ∧ 0 ≤ tkAt xss s.dn s.fr to then ⟨s.dn.set (tkr xss s.dn s.fr to).toNat true, to, s.out ++ List.replicate (to - s.fr) (tkr xss s.dn s.fr to)⟩ else s
def kSt (xss : List (Bool × List Int)) : Nat → Kn
  | 0 => ⟨List.replicate xss.length false, 0, []⟩
  | k + 1 => kStep xss (kSt xss k) (k + 1)
structure KnOk (xss : List (Bool × List Int)) (k : Nat) (s : Kn) : Prop where
  len : s.dn.length = xss.length
  fr : s.fr ≤ k
  out : s.out.length = s.fr
  some : 1 ≤ (lf s.dn).length
  cnt : (lf s.dn).length = s.dn.count false
theorem tkAt_get {xss : List (Bool × List Int)} {dn : List Bool} {fr to : Nat} (h : 0 ≤ tkAt xss dn fr to) : ∃ a : Nat, ∃ ha : a < (lf dn).length, tkAt xss dn fr to = a ∧ tkr xss dn fr to = (lf dn)[a] := by
  have h1 : (tkAt xss dn fr to).toNat < (lf dn).length := by
    unfold tkAt at h ⊢
    exact (idxOf_lt h).1
  refine ⟨(tkAt xss dn fr to).toNat, h1, by omega, ?_⟩
  unfold tkr
  rw [if_pos h]
  generalize (tkAt xss dn fr to).toNat = a at h1
  rw [List.getD_eq_getElem?_getD, List.getElem?_eq_getElem h1]
  rfl
theorem sel_count {q : Nat → Bool} {n : Nat} : (selTo q n).length = ((List.range n).map q).count true := by
  unfold selTo
  rw [List.length_map, List.count, List.countP_map, List.countP_eq_length_filter]
  congr 1
  exact List.filter_congr fun i _ => by simp
theorem lf_count {dn : List Bool} : (lf dn).length = dn.count false := by
  unfold lf
  rw [sel_count]
  have : (List.range dn.length).map (fun i => !dn.getD i true) = dn.map (!·) := by
    apply List.ext_getElem
    · simp
    · intro i h1 h2
      have h3 : i < dn.length := by simpa using h2
      simp [List.getD_eq_getElem?_getD, h3]
  rw [this]
  clear this
  induction dn with
  | nil => rfl
  | cons b dn ih => cases b <;> simp [ih]
theorem kStep_ok {xss : List (Bool × List Int)} {k : Nat} {s : Kn} (h : KnOk xss k s) : KnOk xss (k + 1) (kStep xss s (k + 1)) := by
  unfold kStep
  split
  · rename_i hc
    obtain ⟨a, ha, e1, e2⟩ := tkAt_get hc.2
    have hd := lf_del ha
    have hl : (lf (s.dn.set (lf s.dn)[a].toNat true)).length = (lf s.dn).length - 1 := by rw [← hd]; simp; omega
    rw [e2]
    have h2 := hc.1
    refine ⟨by simpa using h.len, Nat.le_refl _, ?_, by simp only [hl]; omega, lf_count⟩
    have := h.fr
    simp [h.out]
    omega
  · exact ⟨h.len, Nat.le_succ_of_le h.fr, h.out, h.some, h.cnt⟩
theorem kSt_ok {xss : List (Bool × List Int)} (h0 : 0 < xss.length) : ∀ k, KnOk xss k (kSt xss k)
  | 0 => by
    refine ⟨by simp [kSt], Nat.le_refl _, rfl, ?_, lf_count⟩
    rw [lf_count]
    simp only [kSt, List.count_replicate_self]
    exact h0
  | k + 1 => kStep_ok (kSt_ok h0 k)
theorem kSt_stay {xss : List (Bool × List Int)} {k : Nat} (h : ¬ 2 ≤ (lf (kSt xss k).dn).length) : ∀ n, k ≤ n → kSt xss n = kSt xss k
  | 0, hn => by obtain rfl : k = 0 := by omega
                rfl
  | n + 1, hn => by
    by_cases e : k = n + 1
    · rw [e]
    · have ih := kSt_stay h n (by omega)
      rw [kSt, ih, kStep, if_neg (fun hc => h hc.1)]

/-- What the knife gives. -/
def knL (xss : List (Bool × List Int)) : List Int := if rectB xss 3 10 100 = true then (kSt xss (wid xss)).out ++ List.replicate (wid xss - (kSt xss (wid xss)).fr) ((lf (kSt xss (wid xss)).dn).getD 0 0) else []
theorem knL_yes {xss : List (Bool × List Int)} (h : rectB xss 3 10 100 = true) : knL xss = (kSt xss (wid xss)).out ++ List.replicate (wid xss - (kSt xss (wid xss)).fr) ((lf (kSt xss (wid xss)).dn).getD 0 0) := if_pos h
theorem knL_no {xss : List (Bool × List Int)} (h : rectB xss 3 10 100 = false) : knL xss = [] := if_neg (by simp [h])
theorem knL_len {xss : List (Bool × List Int)} : (knL xss).length ≤ 10 := by
  cases h : rectB xss 3 10 100 with
  | false => rw [knL_no h]; simp
  | true =>
    have h1 := rect_len h
    have h2 := kSt_ok (rect_pos h) (wid xss)
    rw [knL_yes h, List.length_append, List.length_replicate, h2.out]
    have := h2.fr
    omega

end Go.Proofs.Ytakladjlnkojjaa.Ax
