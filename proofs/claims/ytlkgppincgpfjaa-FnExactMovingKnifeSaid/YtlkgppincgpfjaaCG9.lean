/-
  Contracts: envy beyond an outer piece (both programs). No condition.
-/
import Derived.Test.YtlkgppincgpfjaaCG6
namespace Go.Proofs.Ytlkgppincgpfjaa.Ax
open Go Go.RowKit
set_option linter.unusedSimpArgs false

/-- How many numbers from place j on are v, in a row. -/
def tw (l : List Int) (v : Int) (j : Nat) : Nat := ((l.drop j).takeWhile fun x => decide (x = v)).length
theorem tw_yes {l : List Int} {v : Int} {j : Nat} (h : j < l.length) (e : l[j] = v) : tw l v j = tw l v (j + 1) + 1 := by
  unfold tw; rw [drop_get h, List.takeWhile_cons]; simp [e]
theorem tw_no {l : List Int} {v : Int} {j : Nat} (h : ∀ hj : j < l.length, l[j] ≠ v) : tw l v j = 0 := by
  unfold tw
  by_cases hj : j < l.length
  · rw [drop_get hj, List.takeWhile_cons]; simp [h hj]
  · rw [List.drop_eq_nil_of_le (by omega)]; simp
theorem tw_le {l : List Int} {v : Int} {j : Nat} (h : j ≤ l.length) : j + tw l v j ≤ l.length := by
  have h1 : tw l v j ≤ (l.drop j).length := (List.takeWhile_sublist _).length_le
  rw [List.length_drop] at h1; omega
theorem tw_in {l : List Int} {v : Int} : ∀ {n j : Nat}, tw l v j = n → ∀ i, j ≤ i → i < j + n → ∃ h : i < l.length, l[i] = v := by
  intro n
  induction n with
  | zero => intro j _ i h1 h2; omega
  | succ n ih =>
    intro j h i h1 h2
    by_cases hj : ∃ hj : j < l.length, l[j] = v
    · obtain ⟨hj, e⟩ := hj
      rw [tw_yes hj e] at h
      by_cases e2 : i = j
      · subst e2; exact ⟨hj, e⟩
      · exact ih (by omega : tw l v (j + 1) = n) i (by omega) (by omega)
    · rw [tw_no (fun hj' e => hj ⟨hj', e⟩)] at h; omega
theorem tw_end {l : List Int} {v : Int} : ∀ {n j : Nat}, tw l v j = n → ∀ h : j + n < l.length, l[j + n] ≠ v := by
  intro n
  induction n with
  | zero =>
    intro j h hj e
    rw [tw_yes (by simpa using hj) (by simpa using e)] at h; omega
  | succ n ih =>
    intro j h hj
    by_cases hj' : ∃ hj : j < l.length, l[j] = v
    · obtain ⟨hj2, e⟩ := hj'
      rw [tw_yes hj2 e] at h
      have := ih (by omega : tw l v (j + 1) = n) (by omega)
      simpa [Nat.add_assoc, Nat.add_comm 1] using this
    · rw [tw_no (fun hj2 e => hj' ⟨hj2, e⟩)] at h; omega

theorem posFrom_facts {v : Int} : ∀ {xs : List Int} {k : Nat}, 0 ≤ posFrom v xs k → ∃ p, posFrom v xs k = ((k + p : Nat) : Int) ∧ (∃ h : p < xs.length, xs[p] = v) ∧ ∀ j (h : j < xs.length), j < p → xs[j] ≠ v
  | [], k, h => by simp [posFrom] at h
  | x :: xs, k, h => by
    simp only [posFrom] at h ⊢
    by_cases e : x = v
    · rw [if_pos e]; exact ⟨0, by simp, ⟨by simp, by simpa using e⟩, fun j _ hj => by omega⟩
    · rw [if_neg e] at h ⊢
      obtain ⟨p, h1, ⟨h2, h3⟩, h4⟩ := posFrom_facts h
      refine ⟨p + 1, by rw [h1]; omega, ⟨by simp; omega, by simpa using h3⟩, fun j hj hjp => ?_⟩
      cases j with
      | zero => simpa using e
      | succ j => simpa using h4 j (by simpa using hj) (by omega)
theorem pos_facts {v : Int} {xs : List Int} (h : 0 ≤ pos xs v) : ∃ p : Nat, pos xs v = p ∧ (∃ h : p < xs.length, xs[p] = v) ∧ ∀ j (h : j < xs.length), j < p → xs[j] ≠ v := by
  obtain ⟨p, h1, h2⟩ := posFrom_facts h
  exact ⟨p, by unfold pos; rw [h1]; omega, h2⟩
theorem posFrom_mem {v : Int} : ∀ {xs : List Int} {k : Nat}, v ∈ xs → 0 ≤ posFrom v xs k
  | x :: xs, k, h => by
    simp only [posFrom]
    by_cases e : x = v
    · rw [if_pos e]; omega
    · rw [if_neg e]
      rcases List.mem_cons.1 h with h | h
      · exact (e h.symm).elim
      · exact posFrom_mem h
theorem pos_mem {v : Int} {xs : List Int} (h : v ∈ xs) : 0 ≤ pos xs v := posFrom_mem h

/-- Behind the row of an owner's pieces there is none of them. -/
theorem div_after {l : List Int} (hd : upto (divAt l) l.length) {v : Int} {p : Nat} (hp : ∃ h : p < l.length, l[p] = v) {e : Nat} (he : e = p + tw l v (p + 1)) : ∀ j (h : j < l.length), e < j → l[j] ≠ v := by
  obtain ⟨hp1, hp2⟩ := hp
  intro j
  induction j with
  | zero => intro _ h; omega
  | succ j ih =>
    intro h hj hv
    by_cases hje : e = j
    · subst hje
      have := tw_end (l := l) (v := v) (j := p + 1) rfl
      have e2 : p + 1 + tw l v (p + 1) = e + 1 := by omega
      simp only [e2] at this
      exact this h hv
    · have h1 := ih (by omega) (by omega)
      have h2 := hd (j + 1) h
      unfold divAt at h2
      rw [getD_at h, show j + 1 - 1 = j from rfl, getD_at (show j < l.length by omega), hv] at h2
      have hm : 0 ≤ pos (l.take (j + 1)) v := pos_mem (by
        rw [List.mem_take_iff_getElem]
        exact ⟨p, by omega, hp2⟩)
      simp [hm] at h2
      exact h1 h2

/-- What the first m pieces are worth to person i. -/
def pre (xss : List (Bool × List Int)) (i : Nat) : Nat → Int
  | 0 => 0
  | m + 1 => pre xss i m + ent xss i m

theorem pre_bd {xss : List (Bool × List Int)} {a b c : Int} (h : rectB xss a b c = true) {i : Nat} (hi : i < xss.length) {m : Nat} : ∀ {n : Nat}, m + n ≤ wid xss → 0 ≤ pre xss i (m + n) - pre xss i m ∧ pre xss i (m + n) - pre xss i m ≤ c * n
  | 0, _ => by simp
  | n + 1, hn => by
    have h1 := pre_bd h hi (m := m) (n := n) (by omega)
    have h2 := ent_bd h hi (k := m + n) (by omega)
    rw [show m + (n + 1) = m + n + 1 by omega, pre]
    have : c * ((n + 1 : Nat) : Int) = c * n + c := by rw [Int.natCast_add, Int.mul_add]; simp
    rw [this]; omega

theorem sum_pre {xss : List (Bool × List Int)} {b c : Int} (h : rectB xss 3 10 100 = true) {i : Nat} (hi : i < xss.length) {f : Nat} : ∀ {n : Nat}, f + n ≤ wid xss → sumW ((xss[i].2.drop f).take n) = pre xss i (f + n) - pre xss i f
  | 0, _ => by simp [sumW]
  | n + 1, hn => by
    have hr := (rect_row h hi).1
    have hl := rect_len h
    have hlt : n < (xss[i].2.drop f).length := by rw [List.length_drop]; omega
    rw [sumW_succ hlt, sum_pre (b := b) (c := c) h hi (by omega)]
    have h1 := pre_bd h hi (m := f) (n := n) (by omega)
    have h2 := ent_bd h hi (k := f + n) (by omega)
    have e : (xss[i].2.drop f)[n] = ent xss i (f + n) := by
      rw [List.getElem_drop]
      have := ent_at hi (k := f + n) (by omega)
      push_cast at this; rw [this]
    rw [e, show f + (n + 1) = f + n + 1 by omega, pre]
    have hw := wrapI (x := pre xss i (f + n) - pre xss i f + ent xss i ((f : Int) + (n : Int))) (by push_cast at h2; omega) (by push_cast at h2; omega)
    rw [hw]; push_cast; omega

/-- What the pieces of one owner, which lie from f to e, are worth. -/
theorem wo_pre_eq {xss : List (Bool × List Int)} {l : List Int} (h : rectB xss 3 10 100 = true) (hl : l.length = wid xss) {i : Nat} (hi : i < xss.length) {v : Int} {f e : Nat} (hfe : f ≤ e) (he : e < l.length)
    (h1 : ∀ j (h : j < l.length), j < f → l[j] ≠ v) (h2 : ∀ j (h : j < l.length), f ≤ j → j ≤ e → l[j] = v) (h3 : ∀ j (h : j < l.length), e < j → l[j] ≠ v) :
    ∀ m, m ≤ l.length → woTo xss l i v m = pre xss i (max f (min m (e + 1))) - pre xss i f
  | 0, _ => by simp [woTo]
  | m + 1, hm => by
    have hml : m < l.length := by omega
    have ih := wo_pre_eq h hl hi hfe he h1 h2 h3 m (by omega)
    have hw := rect_len h
    rw [woTo, getD_at hml, ih]
    by_cases c1 : m < f
    · rw [if_neg (h1 m hml c1)]
      congr 2; omega
    · by_cases c2 : m ≤ e
      · rw [if_pos (h2 m hml (by omega) c2)]
        have e1 : max f (min m (e + 1)) = f + (m - f) := by omega
        have e2 : max f (min (m + 1) (e + 1)) = f + (m - f) + 1 := by omega
        have e3 : (m : Int) = ((f + (m - f) : Nat) : Int) := by omega
        rw [e1, e2, pre]
        have b1 := pre_bd h hi (m := f) (n := m - f) (by omega)
        have b2 := ent_bd h hi (k := f + (m - f)) (by omega)
        rw [← e3] at b2 ⊢
        rw [wrapI (by omega) (by omega)]; omega
      · rw [if_neg (h3 m hml (by omega))]
        congr 2; omega

def outerB (xss : List (Bool × List Int)) (l : List Int) (i : Nat) (k : Int) : Bool :=
  decide (0 ≤ pos l k) && (decide (wo xss l i i < pre xss i ((pos l k).toNat + tw l k ((pos l k).toNat + 1)) - pre xss i (pos l k).toNat) &&
    decide (wo xss l i i < pre xss i ((pos l k).toNat + tw l k ((pos l k).toNat + 1) + 1) - pre xss i ((pos l k).toNat + 1)))

theorem outer_facts {xss : List (Bool × List Int)} {l : List Int} (hd : divB xss l = true) {i : Nat} (hi : i < xss.length) {k : Int} {f e : Nat} (hf : pos l k = f) (he : e = f + tw l k (f + 1)) :
    f < l.length ∧ e < l.length ∧ f ≤ e ∧ wo xss l i k = pre xss i (e + 1) - pre xss i f ∧
    outerB xss l i k = (decide (wo xss l i i < pre xss i e - pre xss i f) && decide (wo xss l i i < pre xss i (e + 1) - pre xss i (f + 1))) := by
  have hd' := hd
  simp only [divB, Bool.and_eq_true, decide_eq_true_eq] at hd'
  obtain ⟨⟨⟨hr, hl⟩, hin⟩, hall⟩ := hd'
  have hup : upto (divAt l) l.length := fun j hj => by
    unfold allR at hall; rw [List.all_eq_true] at hall; exact hall j (by simpa using hj)
  obtain ⟨p, hp, ⟨hp1, hp2⟩, hp3⟩ := pos_facts (xs := l) (v := k) (by omega)
  have hpf : p = f := by omega
  subst hpf
  have hle := tw_le (l := l) (v := k) (j := p + 1) (by omega)
  have hafter := div_after hup ⟨hp1, hp2⟩ he
  have hmid : ∀ j (h : j < l.length), p ≤ j → j ≤ e → l[j] = k := fun j hj h1 h2 => by
    by_cases ej : j = p
    · subst ej; exact hp2
    · obtain ⟨_, h⟩ := tw_in (l := l) (v := k) (j := p + 1) rfl j (by omega) (by omega)
      exact h
  refine ⟨hp1, by omega, by omega, ?_, ?_⟩
  · have := wo_pre_eq hr hl hi (f := p) (e := e) (by omega) (by omega) hp3 hmid hafter l.length (Nat.le_refl _)
    unfold wo; rw [this]; congr 2; omega
  · unfold outerB; rw [hf]; simp [he]

noncomputable def mOuter : List AV → Option AV := mk (fun p => 0 ≤ p.2.2.2.2.1 ∧ p.2.2.2.2.1.toNat < p.2.1.length ∧ divB p.2.1 p.2.2.2.1 = true) (fun (p : (Bool) × (List (Bool × List Int)) × (Bool) × (List Int) × (Int) × (Int)) => [intss p.1 p.2.1, ints p.2.2.1 p.2.2.2.1, int p.2.2.2.2.1, int p.2.2.2.2.2]) (fun p => bool (outerB p.2.1 p.2.2.2.1 p.2.2.2.2.1.toNat p.2.2.2.2.2))
theorem mOuter_at (nl : Bool) (xss : List (Bool × List Int)) (nl' : Bool) (l : List Int) (i : Int) (k : Int) (hpre : 0 ≤ i ∧ i.toNat < xss.length ∧ divB xss l = true) : mOuter [.sl nl 1 (xss.map row), .sl nl' 1 (l.map int), .v (.int .i64 i), .v (.int .i64 k)] = some (.v (.bool (outerB xss l i.toNat k))) :=
  mk_eq (enc := fun (p : (Bool) × (List (Bool × List Int)) × (Bool) × (List Int) × (Int) × (Int)) => [intss p.1 p.2.1, ints p.2.2.1 p.2.2.2.1, int p.2.2.2.2.1, int p.2.2.2.2.2]) (x := (nl, xss, nl', l, i, k)) (by rintro ⟨a0, a1, a2, a3, a4, a5⟩ ⟨b0, b1, b2, b3, b4, b5⟩ h; simp [ints, intss, int, bool, row, frac, fracs, map_int_inj, map_row_inj, frac_inj, map_frac_inj] at h; simp [h]) hpre

def rowEnv (xss : List (Bool × List Int)) (l : List Int) (i : Nat) : Bool := allR xss.length fun k => !outerB xss l i k
def envB (xss : List (Bool × List Int)) (l : List Int) : Bool := allR xss.length (rowEnv xss l)

noncomputable def mEnvB : List AV → Option AV := mk (fun p => divB p.2.1 p.2.2.2 = true) (fun (p : (Bool) × (List (Bool × List Int)) × (Bool) × (List Int)) => [intss p.1 p.2.1, ints p.2.2.1 p.2.2.2]) (fun p => bool (!envB p.2.1 p.2.2.2))
theorem mEnvB_at (nl : Bool) (xss : List (Bool × List Int)) (nl' : Bool) (l : List Int) (hpre : divB xss l = true) : mEnvB [.sl nl 1 (xss.map row), .sl nl' 1 (l.map int)] = some (.v (.bool (!envB xss l))) :=
  mk_eq (enc := fun (p : (Bool) × (List (Bool × List Int)) × (Bool) × (List Int)) => [intss p.1 p.2.1, ints p.2.2.1 p.2.2.2]) (x := (nl, xss, nl', l)) (by rintro ⟨a0, a1, a2, a3⟩ ⟨b0, b1, b2, b3⟩ h; simp [ints, intss, int, bool, row, frac, fracs, map_int_inj, map_row_inj, frac_inj, map_frac_inj] at h; simp [h]) hpre

noncomputable def mHasOuter : List AV → Option AV := mk (fun _ => True) (fun (p : (Bool) × (List (Bool × List Int)) × (Bool) × (List Int)) => [intss p.1 p.2.1, ints p.2.2.1 p.2.2.2]) (fun p => bool (divB p.2.1 p.2.2.2 && !envB p.2.1 p.2.2.2))
theorem mHasOuter_at (nl : Bool) (xss : List (Bool × List Int)) (nl' : Bool) (l : List Int) : mHasOuter [.sl nl 1 (xss.map row), .sl nl' 1 (l.map int)] = some (.v (.bool (divB xss l && !envB xss l))) :=
  mk_eq (enc := fun (p : (Bool) × (List (Bool × List Int)) × (Bool) × (List Int)) => [intss p.1 p.2.1, ints p.2.2.1 p.2.2.2]) (x := (nl, xss, nl', l)) (by rintro ⟨a0, a1, a2, a3⟩ ⟨b0, b1, b2, b3⟩ h; simp [ints, intss, int, bool, row, frac, fracs, map_int_inj, map_row_inj, frac_inj, map_frac_inj] at h; simp [h]) trivial

end Go.Proofs.Ytlkgppincgpfjaa.Ax
