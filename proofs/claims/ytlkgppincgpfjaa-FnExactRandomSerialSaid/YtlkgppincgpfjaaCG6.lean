/-
  Contracts: envy beyond an outer piece (both programs). No condition.
-/
import Derived.Test.YtlkgppincgpfjaaCG4
import Derived.Test.YtlkgppincgpfjaaCG5
import Derived.Test.YtlkgppincgpfjaaCG1
import Derived.Test.YtlkgppincgpfjaaCB2
import Derived.Test.YtlkgppincgpfjaaCK4
namespace Go.Proofs.Ytlkgppincgpfjaa.Ax
open Go Go.RowKit
set_option linter.unusedSimpArgs false

/-- How many numbers from place j on are v, in a row. -/
def tw (l : List Int) (v : Int) (j : Nat) : Nat := ((l.drop j).takeWhile fun x => decide (x = v)).length
theorem tw_yes {l : List Int} {v : Int} {j : Nat} (h : j < l.length) (e : l[j] = v) : tw l v j = tw l v (j + 1) + 1 := by
  unfold tw; rw [drop_get h, List.takeWhile_cons]; simp [e]
theorem tw_no {l : List Int} {v : Int} {j : Nat} (h : ∀ hj : j < l.length, l[j] ≠ v) : tw l v j = 0 := by
  unfold tw
  by_cases hj : j < l.length
  · rw [drop_get hj, List.takeWhile_cons]; simp [h hj]
  · rw [List.drop_eq_nil_of_le (by omega)]; simp
theorem tw_le {l : List Int} {v : Int} {j : Nat} (h : j ≤ l.length) : j + tw l v j ≤ l.length := by
  have h1 : tw l v j ≤ (l.drop j).length := (List.takeWhile_sublist _).length_le
  rw [List.length_drop] at h1; omega
theorem tw_in {l : List Int} {v : Int} : ∀ {n j : Nat}, tw l v j = n → ∀ i, j ≤ i → i < j + n → ∃ h : i < l.length, l[i] = v := by
  intro n
  induction n with
  | zero => intro j _ i h1 h2; omega
  | succ n ih =>
    intro j h i h1 h2
    by_cases hj : ∃ hj : j < l.length, l[j] = v
    · obtain ⟨hj, e⟩ := hj
      rw [tw_yes hj e] at h
      by_cases e2 : i = j
      · subst e2; exact ⟨hj, e⟩
      · exact ih (by omega : tw l v (j + 1) = n) i (by omega) (by omega)
    · rw [tw_no (fun hj' e => hj ⟨hj', e⟩)] at h; omega
theorem tw_end {l : List Int} {v : Int} : ∀ {n j : Nat}, tw l v j = n → ∀ h : j + n < l.length, l[j + n] ≠ v := by
  intro n
  induction n with
  | zero =>
    intro j h hj e
    rw [tw_yes (by simpa using hj) (by simpa using e)] at h; omega
  | succ n ih =>
    intro j h hj
    by_cases hj' : ∃ hj : j < l.length, l[j] = v
    · obtain ⟨hj2, e⟩ := hj'
      rw [tw_yes hj2 e] at h
      have := ih (by omega : tw l v (j + 1) = n) (by omega)
      simpa [Nat.add_assoc, Nat.add_comm 1] using this
    · rw [tw_no (fun hj2 e => hj' ⟨hj2, e⟩)] at h; omega

theorem posFrom_facts {v : Int} : ∀ {xs : List Int} {k : Nat}, 0 ≤ posFrom v xs k → ∃ p, posFrom v xs k = ((k + p : Nat) : Int) ∧ (∃ h : p < xs.length, xs[p] = v) ∧ ∀ j (h : j < xs.length), j < p → xs[j] ≠ v
  | [], k, h => by simp [posFrom] at h
  | x :: xs, k, h => by
    simp only [posFrom] at h ⊢
    by_cases e : x = v
    · rw [if_pos e]; exact ⟨0, by simp, ⟨by simp, by simpa using e⟩, fun j _ hj => by omega⟩
    · rw [if_neg e] at h ⊢
      obtain ⟨p, h1, ⟨h2, h3⟩, h4⟩ := posFrom_facts h
      refine ⟨p + 1, by rw [h1]; omega, ⟨by simp; omega, by simpa using h3⟩, fun j hj hjp => ?_⟩
      cases j with
      | zero => simpa using e
      | succ j => simpa using h4 j (by simpa using hj) (by omega)
theorem pos_facts {v : Int} {xs : List Int} (h : 0 ≤ pos xs v) : ∃ p : Nat, pos xs v = p ∧ (∃ h : p < xs.length, xs[p] = v) ∧ ∀ j (h : j < xs.length), j < p → xs[j] ≠ v := by
  obtain ⟨p, h1, h2⟩ := posFrom_facts h
  exact ⟨p, by unfold pos; rw [h1]; omega, h2⟩
theorem posFrom_mem {v : Int} : ∀ {xs : List Int} {k : Nat}, v ∈ xs → 0 ≤ posFrom v xs k
  | x :: xs, k, h => by
    simp only [posFrom]
    by_cases e : x = v
    · rw [if_pos e]; omega
    · rw [if_neg e]
      rcases List.mem_cons.1 h with h | h
      · exact (e h.symm).elim
      · exact posFrom_mem h
theorem pos_mem {v : Int} {xs : List Int} (h : v ∈ xs) : 0 ≤ pos xs v := posFrom_mem h

/-- Behind the row of an owner's pieces there is none of them. -/
theorem div_after {l : List Int} (hd : upto (divAt l) l.length) {v : Int} {p : Nat} (hp : ∃ h : p < l.length, l[p] = v) {e : Nat} (he : e = p + tw l v (p + 1)) : ∀ j (h : j < l.length), e < j → l[j] ≠ v := by
  obtain ⟨hp1, hp2⟩ := hp
  intro j
  induction j with
  | zero => intro _ h; omega
  | succ j ih =>
    intro h hj hv
    by_cases hje : e = j
    · subst hje
      have := tw_end (l := l) (v := v) (j := p + 1) rfl
      have e2 : p + 1 + tw l v (p + 1) = e + 1 := by omega
      simp only [e2] at this
      exact this h hv
    · have h1 := ih (by omega) (by omega)
      have h2 := hd (j + 1) h
      unfold divAt at h2
      rw [getD_at h, show j + 1 - 1 = j from rfl, getD_at (show j < l.length by omega), hv] at h2
      have hm : 0 ≤ pos (l.take (j + 1)) v := pos_mem (by
        rw [List.mem_take_iff_getElem]
        exact ⟨p, by omega, hp2⟩)
      simp [hm] at h2
      exact h1 h2

/-- What the first m pieces are worth to person i. -/
def pre (xss : List (Bool × List Int)) (i : Nat) : Nat → Int
  | 0 => 0
  | m + 1 => pre xss i m + ent xss i m

theorem pre_bd {xss : List (Bool × List Int)} {a b c : Int} (h : rectB xss a b c = true) {i : Nat} (hi : i < xss.length) {m : Nat} : ∀ {n : Nat}, m + n ≤ wid xss → 0 ≤ pre xss i (m + n) - pre xss i m ∧ pre xss i (m + n) - pre xss i m ≤ c * n
  | 0, _ => by simp
  | n + 1, hn => by
    have h1 := pre_bd h hi (m := m) (n := n) (by omega)
    have h2 := ent_bd h hi (k := m + n) (by omega)
    rw [show m + (n + 1) = m + n + 1 by omega, pre]
    have : c * ((n + 1 : Nat) : Int) = c * n + c := by rw [Int.natCast_add, Int.mul_add]; simp
    rw [this]; omega

theorem sum_pre {xss : List (Bool × List Int)} {b c : Int} (h : rectB xss 3 10 100 = true) {i : Nat} (hi : i < xss.length) {f : Nat} : ∀ {n : Nat}, f + n ≤ wid xss → sumW ((xss[i].2.drop f).take n) = pre xss i (f + n) - pre xss i f
  | 0, _ => by simp [sumW]
  | n + 1, hn => by
    have hr := (rect_row h hi).1
    have hl := rect_len h
    have hlt : n < (xss[i].2.drop f).length := by rw [List.length_drop]; omega
    rw [sumW_succ hlt, sum_pre (b := b) (c := c) h hi (by omega)]
    have h1 := pre_bd h hi (m := f) (n := n) (by omega)
    have h2 := ent_bd h hi (k := f + n) (by omega)
    have e : (xss[i].2.drop f)[n] = ent xss i (f + n) := by
      rw [List.getElem_drop]
      have := ent_at hi (k := f + n) (by omega)
      push_cast at this; rw [this]
    rw [e, show f + (n + 1) = f + n + 1 by omega, pre]
    have hw := wrapI (x := pre xss i (f + n) - pre xss i f + ent xss i ((f : Int) + (n : Int))) (by push_cast at h2; omega) (by push_cast at h2; omega)
    rw [hw]; push_cast; omega

/-- What the pieces of one owner, which lie from f to e, are worth. -/
theorem wo_pre_eq {xss : List (Bool × List Int)} {l : List Int} (h : rectB xss 3 10 100 = true) (hl : l.length = wid xss) {i : Nat} (hi : i < xss.length) {v : Int} {f e : Nat} (hfe : f ≤ e) (he : e < l.length)
    (h1 : ∀ j (h : j < l.length), j < f → l[j] ≠ v) (h2 : ∀ j (h : j < l.length), f ≤ j → j ≤ e → l[j] = v) (h3 : ∀ j (h : j < l.length), e < j → l[j] ≠ v) :
    ∀ m, m ≤ l.length → woTo xss l i v m = pre xss i (max f (min m (e + 1))) - pre xss i f
  | 0, _ => by simp [woTo]
  | m + 1, hm => by
    have hml : m < l.length := by omega
    have ih := wo_pre_eq h hl hi hfe he h1 h2 h3 m (by omega)
    have hw := rect_len h
    rw [woTo, getD_at hml, ih]
    by_cases c1 : m < f
    · rw [if_neg (h1 m hml c1)]
      congr 2; omega
    · by_cases c2 : m ≤ e
      · rw [if_pos (h2 m hml (by omega) c2)]
        have e1 : max f (min m (e + 1)) = f + (m - f) := by omega
        have e2 : max f (min (m + 1) (e + 1)) = f + (m - f) + 1 := by omega
        have e3 : (m : Int) = ((f + (m - f) : Nat) : Int) := by omega
        rw [e1, e2, pre]
        have b1 := pre_bd h hi (m := f) (n := m - f) (by omega)
        have b2 := ent_bd h hi (k := f + (m - f)) (by omega)
        rw [← e3] at b2 ⊢
        rw [wrapI (by omega) (by omega)]; omega
      · rw [if_neg (h3 m hml (by omega))]
        congr 2; omega

def outerB (xss : List (Bool × List Int)) (l : List Int) (i : Nat) (k : Int) : Bool :=
  decide (0 ≤ pos l k) && (decide (wo xss l i i < pre xss i ((pos l k).toNat + tw l k ((pos l k).toNat + 1)) - pre xss i (pos l k).toNat) &&
    decide (wo xss l i i < pre xss i ((pos l k).toNat + tw l k ((pos l k).toNat + 1) + 1) - pre xss i ((pos l k).toNat + 1)))

theorem outer_facts {xss : List (Bool × List Int)} {l : List Int} (hd : divB xss l = true) {i : Nat} (hi : i < xss.length) {k : Int} {f e : Nat} (hf : pos l k = f) (he : e = f + tw l k (f + 1)) :
    f < l.length ∧ e < l.length ∧ f ≤ e ∧ wo xss l i k = pre xss i (e + 1) - pre xss i f ∧
    outerB xss l i k = (decide (wo xss l i i < pre xss i e - pre xss i f) && decide (wo xss l i i < pre xss i (e + 1) - pre xss i (f + 1))) := by
  have hd' := hd
  simp only [divB, Bool.and_eq_true, decide_eq_true_eq] at hd'
  obtain ⟨⟨⟨hr, hl⟩, hin⟩, hall⟩ := hd'
  have hup : upto (divAt l) l.length := fun j hj => by
    unfold allR at hall; rw [List.all_eq_true] at hall; exact hall j (by simpa using hj)
  obtain ⟨p, hp, ⟨hp1, hp2⟩, hp3⟩ := pos_facts (xs := l) (v := k) (by omega)
  have hpf : p = f := by omega
  subst hpf
  have hle := tw_le (l := l) (v := k) (j := p + 1) (by omega)
  have hafter := div_after hup ⟨hp1, hp2⟩ he
  have hmid : ∀ j (h : j < l.length), p ≤ j → j ≤ e → l[j] = k := fun j hj h1 h2 => by
    by_cases ej : j = p
    · subst ej; exact hp2
    · obtain ⟨_, h⟩ := tw_in (l := l) (v := k) (j := p + 1) rfl j (by omega) (by omega)
      exact h
  refine ⟨hp1, by omega, by omega, ?_, ?_⟩
  · have := wo_pre_eq hr hl hi (f := p) (e := e) (by omega) (by omega) hp3 hmid hafter l.length (Nat.le_refl _)
    unfold wo; rw [this]; congr 2; omega
  · unfold outerB; rw [hf]; simp [he]

noncomputable def mOuter : List AV → Option AV := mk (fun p => 0 ≤ p.2.2.2.2.1 ∧ p.2.2.2.2.1.toNat < p.2.1.length ∧ divB p.2.1 p.2.2.2.1 = true) (fun (p : (Bool) × (List (Bool × List Int)) × (Bool) × (List Int) × (Int) × (Int)) => [intss p.1 p.2.1, ints p.2.2.1 p.2.2.2.1, int p.2.2.2.2.1, int p.2.2.2.2.2]) (fun p => bool (outerB p.2.1 p.2.2.2.1 p.2.2.2.2.1.toNat p.2.2.2.2.2))
theorem mOuter_at (nl : Bool) (xss : List (Bool × List Int)) (nl' : Bool) (l : List Int) (i : Int) (k : Int) (hpre : 0 ≤ i ∧ i.toNat < xss.length ∧ divB xss l = true) : mOuter [.sl nl 1 (xss.map row), .sl nl' 1 (l.map int), .v (.int .i64 i), .v (.int .i64 k)] = some (.v (.bool (outerB xss l i.toNat k))) :=
  mk_eq (enc := fun (p : (Bool) × (List (Bool × List Int)) × (Bool) × (List Int) × (Int) × (Int)) => [intss p.1 p.2.1, ints p.2.2.1 p.2.2.2.1, int p.2.2.2.2.1, int p.2.2.2.2.2]) (x := (nl, xss, nl', l, i, k)) (by rintro ⟨a0, a1, a2, a3, a4, a5⟩ ⟨b0, b1, b2, b3, b4, b5⟩ h; simp [ints, intss, int, bool, row, frac, fracs, map_int_inj, map_row_inj, frac_inj, map_frac_inj] at h; simp [h]) hpre

def rowEnv (xss : List (Bool × List Int)) (l : List Int) (i : Nat) : Bool := allR xss.length fun k => !outerB xss l i k
def envB (xss : List (Bool × List Int)) (l : List Int) : Bool := allR xss.length (rowEnv xss l)

noncomputable def mEnvB : List AV → Option AV := mk (fun p => divB p.2.1 p.2.2.2 = true) (fun (p : (Bool) × (List (Bool × List Int)) × (Bool) × (List Int)) => [intss p.1 p.2.1, ints p.2.2.1 p.2.2.2]) (fun p => bool (!envB p.2.1 p.2.2.2))
theorem mEnvB_at (nl : Bool) (xss : List (Bool × List Int)) (nl' : Bool) (l : List Int) (hpre : divB xss l = true) : mEnvB [.sl nl 1 (xss.map row), .sl nl' 1 (l.map int)] = some (.v (.bool (!envB xss l))) :=
  mk_eq (enc := fun (p : (Bool) × (List (Bool × List Int)) × (Bool) × (List Int)) => [intss p.1 p.2.1, ints p.2.2.1 p.2.2.2]) (x := (nl, xss, nl', l)) (by rintro ⟨a0, a1, a2, a3⟩ ⟨b0, b1, b2, b3⟩ h; simp [ints, intss, int, bool, row, frac, fracs, map_int_inj, map_row_inj, frac_inj, map_frac_inj] at h; simp [h]) hpre

noncomputable def mHasOuter : List AV → Option AV := mk (fun _ => True) (fun (p : (Bool) × (List (Bool × List Int)) × (Bool) × (List Int)) => [intss p.1 p.2.1, ints p.2.2.1 p.2.2.2]) (fun p => bool (divB p.2.1 p.2.2.2 && !envB p.2.1 p.2.2.2))
theorem mHasOuter_at (nl : Bool) (xss : List (Bool × List Int)) (nl' : Bool) (l : List Int) : mHasOuter [.sl nl 1 (xss.map row), .sl nl' 1 (l.map int)] = some (.v (.bool (divB xss l && !envB xss l))) :=
  mk_eq (enc := fun (p : (Bool) × (List (Bool × List Int)) × (Bool) × (List Int)) => [intss p.1 p.2.1, ints p.2.2.1 p.2.2.2]) (x := (nl, xss, nl', l)) (by rintro ⟨a0, a1, a2, a3⟩ ⟨b0, b1, b2, b3⟩ h; simp [ints, intss, int, bool, row, frac, fracs, map_int_inj, map_row_inj, frac_inj, map_frac_inj] at h; simp [h]) trivial

end Go.Proofs.Ytlkgppincgpfjaa.Ax

/-
  The plain side of MovingKnife: who is left, who takes the next strip. No condition.
-/
namespace Go.Proofs.Ytlkgppincgpfjaa.Ax
open Go Go.RowKit
set_option linter.unusedSimpArgs false

/-- Whether the pieces from fr up to to are worth a share to person i. -/
def shB (xss : List (Bool × List Int)) (fr to : Nat) (i : Nat) : Bool := decide (sumW (xss.getD i (true, [])).2 ≤ IntKind.i64.wrap (sumW (((xss.getD i (true, [])).2.drop fr).take (to - fr)) * xss.length))
/-- Who is left. -/
def lf (dn : List Bool) : List Int := selTo (fun i => !dn.getD i true) dn.length
/-- The place among those who are left of the next taker, or -1. -/
def tkAt (xss : List (Bool × List Int)) (dn : List Bool) (fr to : Nat) : Int := idxOf (fun i => shB xss fr to i.toNat) (lf dn)
/-- The next taker, or -1. -/
def tkr (xss : List (Bool × List Int)) (dn : List Bool) (fr to : Nat) : Int := if 0 ≤ tkAt xss dn fr to then (lf dn).getD (tkAt xss dn fr to).toNat 0 else -1

theorem idxOf_lt {α : Type} {p : α → Bool} {xs : List α} (h : 0 ≤ idxOf p xs) : (idxOf p xs).toNat < xs.length ∧ ∃ hl : (idxOf p xs).toNat < xs.length, p xs[(idxOf p xs).toNat] = true := by
  unfold idxOf at *
  cases hf : xs.findIdx? p with
  | none => rw [hf] at h; simp at h
  | some k =>
    obtain ⟨hk, hp, _⟩ := List.findIdx?_eq_some_iff_getElem.1 hf
    simp only [Option.elim]
    exact ⟨by simpa using hk, by simpa using hk, by simpa using hp⟩

theorem selTo_split {q : Nat → Bool} {k : Nat} (hq : q k = true) : ∀ {n : Nat}, k < n → ∃ r, selTo q n = selTo q k ++ (k : Int) :: r
  | 0, h => by omega
  | n + 1, h => by
    by_cases e : k = n
    · subst e; exact ⟨[], selTo_yes hq⟩
    · obtain ⟨r, hr⟩ := selTo_split hq (n := n) (by omega)
      cases hn : q n with
      | true => exact ⟨r ++ [(n : Int)], by rw [selTo_yes hn, hr]; simp⟩
      | false => exact ⟨r, by rw [selTo_no hn, hr]⟩

/-- The first of those who are left, and for whom something holds. -/
theorem first_sel {q : Nat → Bool} {p : Int → Bool} {n k : Nat} (hk : k < n) (hq : q k = true) (hp : p k = true) (hno : ∀ j, j < k → q j = true → p j = false) :
    idxOf p (selTo q n) = (selTo q k).length ∧ (selTo q n).getD (selTo q k).length 0 = k := by
  obtain ⟨r, hr⟩ := selTo_split hq hk
  have hlt : (selTo q k).length < (selTo q n).length := by rw [hr]; simp
  refine ⟨idxOf_found hlt (fun j hj hjk => ?_) ?_, ?_⟩
  · have : (selTo q n)[j] = (selTo q k)[j] := by simp only [hr]; rw [List.getElem_append_left hjk]
    rw [this]
    obtain ⟨i, e, h1, h2⟩ := selTo_mem (List.getElem_mem hjk)
    rw [e]; exact hno i h1 h2
  · have : (selTo q n)[(selTo q k).length] = (k : Int) := by simp only [hr]; rw [List.getElem_append_right (Nat.le_refl _)]; simp
    rw [this]; exact hp
  · rw [hr, List.getD_eq_getElem?_getD, List.getElem?_append_right (Nat.le_refl _)]; simp
theorem none_sel {q : Nat → Bool} {p : Int → Bool} {n : Nat} (hno : ∀ j, j < n → q j = true → p j = false) : idxOf p (selTo q n) = -1 :=
  idxOf_none fun j hj _ => by
    obtain ⟨i, e, h1, h2⟩ := selTo_mem (List.getElem_mem hj)
    rw [e]; exact hno i h1 h2

theorem selTo_congr {q q' : Nat → Bool} {n : Nat} (h : ∀ i, i < n → q i = q' i) : selTo q n = selTo q' n := by
  unfold selTo
  congr 1
  exact List.filter_congr fun i hi => h i (by simpa using hi)

/-- One of those who are left goes. -/
theorem sel_del {q : Nat → Bool} {n a : Nat} (ha : a < (selTo q n).length) : (selTo q n).take a ++ (selTo q n).drop (a + 1) = selTo (fun i => q i && decide ((i : Int) ≠ (selTo q n)[a])) n := by
  obtain ⟨k, e, hk, hq⟩ := selTo_mem (List.getElem_mem ha)
  simp only [e]
  induction n with
  | zero => simp [selTo] at ha
  | succ n ih =>
    by_cases hkn : k = n
    · subst hkn
      have hs := selTo_yes hq
      have hal : a = (selTo q k).length := by
        rcases Nat.lt_or_ge a (selTo q k).length with h | h
        · exfalso
          have : (selTo q (k + 1))[a] = (selTo q k)[a] := by simp only [hs]; rw [List.getElem_append_left h]
          rw [this] at e
          obtain ⟨i, e2, h2, _⟩ := selTo_mem (List.getElem_mem h)
          rw [e2] at e
          omega
        · rw [hs] at ha; simp at ha; omega
      have hno : selTo (fun i => q i && decide ((i : Int) ≠ (k : Int))) (k + 1) = selTo (fun i => q i && decide ((i : Int) ≠ (k : Int))) k := selTo_no (by simp)
      rw [hno, hs, hal]
      rw [show (selTo q k).length + 1 = (selTo q k ++ [(k : Int)]).length by simp, List.drop_length, List.append_nil, List.take_left]
      exact selTo_congr fun i hi => by
        have : ¬ ((i : Int) = (k : Int)) := by omega
        simp [this]
    · have hkn' : k < n := by omega
      cases hn : q n with
      | true =>
        have hs := selTo_yes hn
        have han : a < (selTo q n).length := by
          rcases Nat.lt_or_ge a (selTo q n).length with h | h
          · exact h
          · exfalso
            rw [hs] at ha; simp at ha
            have hal : a = (selTo q n).length := by omega
            subst hal
            have : (selTo q (n + 1))[(selTo q n).length]'(by rw [hs]; simp) = (n : Int) := by simp only [hs]; rw [List.getElem_append_right (Nat.le_refl _)]; simp
            rw [this] at e
            omega
        have e' : (selTo q n)[a] = (k : Int) := by rw [← e]; simp only [hs]; rw [List.getElem_append_left han]
        have := ih han e' hkn'
        rw [selTo_yes (p := fun i => q i && decide ((i : Int) ≠ (k : Int))) (by simp [hn]; omega), ← this, hs, List.take_append_of_le_length (by omega), List.drop_append_of_le_length (by omega)]
        simp
      | false =>
        have hs := selTo_no hn
        have han : a < (selTo q n).length := by rw [← hs]; exact ha
        have e' : (selTo q n)[a] = (k : Int) := by rw [← e]; simp only [hs]
        have := ih han e' hkn'
        rw [selTo_no (p := fun i => q i && decide ((i : Int) ≠ (k : Int))) (by simp [hn]), ← this, hs]

theorem lf_mem {dn : List Bool} {x : Int} (h : x ∈ lf dn) : ∃ i : Nat, x = i ∧ i < dn.length ∧ dn.getD i true = false := by
  obtain ⟨i, e, h1, h2⟩ := selTo_mem h
  exact ⟨i, e, h1, by simpa using h2⟩
theorem lf_del {dn : List Bool} {a : Nat} (ha : a < (lf dn).length) : (lf dn).take a ++ (lf dn).drop (a + 1) = lf (dn.set (lf dn)[a].toNat true) := by
  obtain ⟨k, e, hk, hd⟩ := lf_mem (List.getElem_mem ha)
  unfold lf at *
  rw [sel_del ha, List.length_set]
  refine selTo_congr fun i hi => ?_
  rw [e]
  simp only [Int.toNat_natCast]
  by_cases hik : i = k
  · subst hik; simp [List.getD_eq_getElem?_getD, hi]
  · have h1 : ¬ ((i : Int) = (k : Int)) := by omega
    have h2 : ¬ k = i := fun h => hik h.symm
    simp [List.getD_eq_getElem?_getD, List.getElem?_set_ne h2, h1, hik]
theorem lf_len {dn : List Bool} : (lf dn).length ≤ dn.length := selTo_len
theorem lf_all {n : Nat} : lf (List.replicate n false) = selTo (fun _ => true) n := by
  unfold lf
  rw [List.length_replicate]
  exact selTo_congr fun i hi => by simp [List.getD_eq_getElem?_getD, hi]

/-- Who is done, up to where the pieces are given, who has them. -/
structure Kn where
  dn : List Bool
  fr : Nat
  out : List Int
def kStep (xss : List (Bool × List Int)) (s : Kn) (to : Nat) : Kn :=
  if 2 ≤ (lf s.dn).length ∧ 0 ≤ tkAt xss s.dn s.fr to then ⟨s.dn.set (tkr xss s.dn s.fr to).toNat true, to, s.out ++ List.replicate (to - s.fr) (tkr xss s.dn s.fr to)⟩ else s
def kSt (xss : List (Bool × List Int)) : Nat → Kn
  | 0 => ⟨List.replicate xss.length false, 0, []⟩
  | k + 1 => kStep xss (kSt xss k) (k + 1)
structure KnOk (xss : List (Bool × List Int)) (k : Nat) (s : Kn) : Prop where
  len : s.dn.length = xss.length
  fr : s.fr ≤ k
  out : s.out.length = s.fr
  some : 1 ≤ (lf s.dn).length
  cnt : (lf s.dn).length = s.dn.count false
theorem tkAt_get {xss : List (Bool × List Int)} {dn : List Bool} {fr to : Nat} (h : 0 ≤ tkAt xss dn fr to) : ∃ a : Nat, ∃ ha : a < (lf dn).length, tkAt xss dn fr to = a ∧ tkr xss dn fr to = (lf dn)[a] := by
  have h1 : (tkAt xss dn fr to).toNat < (lf dn).length := by
    unfold tkAt at h ⊢
    exact (idxOf_lt h).1
  refine ⟨(tkAt xss dn fr to).toNat, h1, by omega, ?_⟩
  unfold tkr
  rw [if_pos h]
  generalize (tkAt xss dn fr to).toNat = a at h1
  rw [List.getD_eq_getElem?_getD, List.getElem?_eq_getElem h1]
  rfl
theorem sel_count {q : Nat → Bool} {n : Nat} : (selTo q n).length = ((List.range n).map q).count true := by
  unfold selTo
  rw [List.length_map, List.count, List.countP_map, List.countP_eq_length_filter]
  congr 1
  exact List.filter_congr fun i _ => by simp
theorem lf_count {dn : List Bool} : (lf dn).length = dn.count false := by
  unfold lf
  rw [sel_count]
  have : (List.range dn.length).map (fun i => !dn.getD i true) = dn.map (!·) := by
    apply List.ext_getElem
    · simp
    · intro i h1 h2
      have h3 : i < dn.length := by simpa using h2
      simp [List.getD_eq_getElem?_getD, h3]
  rw [this]
  clear this
  induction dn with
  | nil => rfl
  | cons b dn ih => cases b <;> simp [ih]
theorem kStep_ok {xss : List (Bool × List Int)} {k : Nat} {s : Kn} (h : KnOk xss k s) : KnOk xss (k + 1) (kStep xss s (k + 1)) := by
  unfold kStep
  split
  · rename_i hc
    obtain ⟨a, ha, e1, e2⟩ := tkAt_get hc.2
    have hd := lf_del ha
    have hl : (lf (s.dn.set (lf s.dn)[a].toNat true)).length = (lf s.dn).length - 1 := by rw [← hd]; simp; omega
    rw [e2]
    have h2 := hc.1
    refine ⟨by simpa using h.len, Nat.le_refl _, ?_, by simp only [hl]; omega, lf_count⟩
    have := h.fr
    simp [h.out]
    omega
  · exact ⟨h.len, Nat.le_succ_of_le h.fr, h.out, h.some, h.cnt⟩
theorem kSt_ok {xss : List (Bool × List Int)} (h0 : 0 < xss.length) : ∀ k, KnOk xss k (kSt xss k)
  | 0 => by
    refine ⟨by simp [kSt], Nat.le_refl _, rfl, ?_, lf_count⟩
    rw [lf_count]
    simp only [kSt, List.count_replicate_self]
    exact h0
  | k + 1 => kStep_ok (kSt_ok h0 k)
theorem kSt_stay {xss : List (Bool × List Int)} {k : Nat} (h : ¬ 2 ≤ (lf (kSt xss k).dn).length) : ∀ n, k ≤ n → kSt xss n = kSt xss k
  | 0, hn => by obtain rfl : k = 0 := by omega
                rfl
  | n + 1, hn => by
    by_cases e : k = n + 1
    · rw [e]
    · have ih := kSt_stay h n (by omega)
      rw [kSt, ih, kStep, if_neg (fun hc => h hc.1)]

/-- What the knife gives. -/
def knL (xss : List (Bool × List Int)) : List Int := if rectB xss 3 10 100 = true then (kSt xss (wid xss)).out ++ List.replicate (wid xss - (kSt xss (wid xss)).fr) ((lf (kSt xss (wid xss)).dn).getD 0 0) else []
theorem knL_yes {xss : List (Bool × List Int)} (h : rectB xss 3 10 100 = true) : knL xss = (kSt xss (wid xss)).out ++ List.replicate (wid xss - (kSt xss (wid xss)).fr) ((lf (kSt xss (wid xss)).dn).getD 0 0) := if_pos h
theorem knL_no {xss : List (Bool × List Int)} (h : rectB xss 3 10 100 = false) : knL xss = [] := if_neg (by simp [h])
theorem knL_len {xss : List (Bool × List Int)} : (knL xss).length ≤ 10 := by
  cases h : rectB xss 3 10 100 with
  | false => rw [knL_no h]; simp
  | true =>
    have h1 := rect_len h
    have h2 := kSt_ok (rect_pos h) (wid xss)
    rw [knL_yes h, List.length_append, List.length_replicate, h2.out]
    have := h2.fr
    omega

end Go.Proofs.Ytlkgppincgpfjaa.Ax

/-
  Lists of truth values. No condition.
-/
namespace Go.Proofs.Ytlkgppincgpfjaa.Ax
open Go Go.RowKit

def bools (nl : Bool) (bs : List Bool) : AV := .sl nl 1 (bs.map bool)
theorem map_bool_inj {a b : List Bool} : a.map bool = b.map bool ↔ a = b := (List.map_inj_right (fun x y h => by simpa [bool] using h))

end Go.Proofs.Ytlkgppincgpfjaa.Ax

/-
  Lists of truth values. No condition.
-/
namespace Go.Proofs.Ytlkgppincgpfjaa.Ax
open Go Go.RowKit

end Go.Proofs.Ytlkgppincgpfjaa.Ax

/-
  All lists of a length over a range of numbers, in lexicographic order; the list behind one of them. No condition.
-/
namespace Go.Proofs.Ytlkgppincgpfjaa.Ax
open Go Go.RowKit

/-- low, low + 1, .. : m numbers; behind each of them the lists of L. -/
def blocks (L : List (List Int)) (x : Int) : Nat → List (List Int)
  | 0 => []
  | m + 1 => L.map (x :: ·) ++ blocks L (x + 1) m

/-- All lists of length n over low .. high. -/
def allL (low high : Int) : Nat → List (List Int)
  | 0 => [[]]
  | n + 1 => blocks (allL low high n) low (high + 1 - low).toNat

/-- The next list. -/
def next (low high : Int) : List Int → Option (List Int)
  | [] => none
  | x :: l => match next low high l with
    | some l' => some (x :: l')
    | none => if x < high then some ((x + 1) :: List.replicate l.length low) else none

theorem next_last {low high : Int} : ∀ n, next low high (List.replicate n high) = none
  | 0 => rfl
  | n + 1 => by rw [List.replicate_succ, next, next_last n]; simp

theorem next_step {low high x : Int} (hx : x < high) {m : Nat} : ∀ (p : List Int), next low high (p ++ x :: List.replicate m high) = some (p ++ (x + 1) :: List.replicate m low)
  | [] => by simp [next, next_last, hx]
  | y :: p => by simp only [List.cons_append, next, next_step hx p]

theorem next_len {low high : Int} : ∀ {l l' : List Int}, next low high l = some l' → l'.length = l.length
  | [], l', h => by simp [next] at h
  | x :: l, l', h => by
    simp only [next] at h
    split at h
    · rename_i l2 h2
      simp only [Option.some.injEq] at h; subst h
      simp [next_len h2]
    · split at h
      · simp only [Option.some.injEq] at h; subst h; simp
      · simp at h

/-- 'Behind each list of L stands its next one.' -/
def Ch (low high : Int) (L : List (List Int)) : Prop := ∀ (k : Nat) (l : List Int), L[k]? = some l → L[k + 1]? = next low high l

theorem blocks_ch {low high : Int} {L : List (List Int)} {n : Nat} (hL : Ch low high L) (h0 : L[0]? = some (List.replicate n low)) (hlen : ∀ l ∈ L, l.length = n) :
    ∀ (m : Nat) (x : Int), x + (m : Int) = high + 1 → Ch low high (blocks L x m)
  | 0, x, _ => by intro k l h; simp [blocks] at h
  | m + 1, x, hx => by
    intro k l h
    have ih := blocks_ch hL h0 hlen m (x + 1) (by omega)
    simp only [blocks] at h ⊢
    have hll : (L.map (x :: ·)).length = L.length := by simp
    by_cases hk : k < L.length
    · rw [List.getElem?_append_left (by rw [hll]; exact hk)] at h
      rw [List.getElem?_map, Option.map_eq_some_iff] at h
      obtain ⟨l0, hl0, rfl⟩ := h
      have hn := hL k l0 hl0
      by_cases hk1 : k + 1 < L.length
      · rw [List.getElem?_append_left (by rw [hll]; exact hk1), List.getElem?_map]
        rw [List.getElem?_eq_getElem hk1] at hn ⊢
        simp only [next, ← hn, Option.map_some]
      · have hnone : next low high l0 = none := by rw [← hn]; exact List.getElem?_eq_none (by omega)
        have hl0n := hlen l0 (List.mem_of_getElem? hl0)
        rw [List.getElem?_append_right (by rw [hll]; omega), hll, show k + 1 - L.length = 0 by omega]
        simp only [next, hnone]
        cases m with
        | zero =>
          rw [if_neg (by omega)]
          simp [blocks]
        | succ m =>
          rw [if_pos (by omega), hl0n]
          simp only [blocks]
          rw [List.getElem?_append_left (by simp; have := (List.getElem?_eq_some_iff.1 h0).1; omega), List.getElem?_map, h0]
          rfl
    · rw [List.getElem?_append_right (by rw [hll]; omega), hll] at h
      rw [List.getElem?_append_right (by rw [hll]; omega), hll, show k + 1 - L.length = k - L.length + 1 by omega]
      exact ih _ l h

theorem blocks_mem {L : List (List Int)} {l : List Int} : ∀ {m : Nat} {x : Int}, l ∈ blocks L x m → ∃ y l0, l = y :: l0 ∧ l0 ∈ L ∧ x ≤ y ∧ y < x + m
  | 0, x, h => by simp [blocks] at h
  | m + 1, x, h => by
    simp only [blocks, List.mem_append, List.mem_map] at h
    rcases h with ⟨l0, h1, rfl⟩ | h
    · exact ⟨x, l0, rfl, h1, Int.le_refl _, by omega⟩
    · obtain ⟨y, l0, h1, h2, h3, h4⟩ := blocks_mem h
      exact ⟨y, l0, h1, h2, by omega, by omega⟩

theorem allL_mem {low high : Int} : ∀ {n : Nat} {l : List Int}, l ∈ allL low high n → l.length = n ∧ ∀ x ∈ l, low ≤ x ∧ x ≤ high
  | 0, l, h => by simp [allL] at h; subst h; simp
  | n + 1, l, h => by
    simp only [allL] at h
    obtain ⟨y, l0, rfl, h2, h3, h4⟩ := blocks_mem h
    obtain ⟨g1, g2⟩ := allL_mem h2
    refine ⟨by simp [g1], fun z hz => ?_⟩
    rcases List.mem_cons.1 hz with rfl | hz
    · omega
    · exact g2 z hz

theorem allL_head {low high : Int} (h : low ≤ high) : ∀ n, (allL low high n)[0]? = some (List.replicate n low)
  | 0 => rfl
  | n + 1 => by
    obtain ⟨m, hm⟩ : ∃ m, (high + 1 - low).toNat = m + 1 := ⟨(high - low).toNat, by omega⟩
    have ih := allL_head h n
    simp only [allL, hm, blocks]
    rw [List.getElem?_append_left (by simp; exact (List.getElem?_eq_some_iff.1 ih).1), List.getElem?_map, ih]
    rfl

theorem allL_ch {low high : Int} (h : low ≤ high) : ∀ n, Ch low high (allL low high n)
  | 0 => by
    intro k l hk
    cases k with
    | zero => simp [allL] at hk ⊢; subst hk; rfl
    | succ k => simp [allL] at hk
  | n + 1 => by
    simp only [allL]
    exact blocks_ch (allL_ch h n) (allL_head h n) (fun l hl => (allL_mem hl).1) _ _ (by omega)

/-- From the end of the list back to the first number that is not the highest. -/
theorem next_at {low high : Int} {l : List Int} {j : Nat} (hj : j < l.length) (hx : l[j] < high) (hd : l.drop (j + 1) = List.replicate (l.length - (j + 1)) high) : next low high l = some (l.take j ++ (l[j] + 1) :: List.replicate (l.length - (j + 1)) low) := by
  have : l = l.take j ++ l[j] :: List.replicate (l.length - (j + 1)) high := by
    rw [← hd]
    conv => lhs; rw [← List.take_append_drop j l, List.drop_eq_getElem_cons hj]
  conv => lhs; rw [this]
  exact next_step hx _

end Go.Proofs.Ytlkgppincgpfjaa.Ax

/-
  Contracts: the lists over a range of numbers, one after the other, as the program yields them. No condition.
-/
namespace Go.Proofs.Ytlkgppincgpfjaa.Ax
open Go Go.RowKit
set_option linter.unusedSimpArgs false


/-- Behind the search from the end: the first j numbers as they were. -/
def lowTo (low : Int) (l : List Int) (j : Nat) : List Int := l.take j ++ List.replicate (l.length - j) low
theorem lowTo_len {low : Int} {l : List Int} {j : Nat} (h : j ≤ l.length) : (lowTo low l j).length = l.length := by simp [lowTo]; omega

theorem lowTo_set {low v : Int} {l : List Int} {j : Nat} (h : j < l.length) : ((lowTo low l (j + 1)).map int).set j (.v (.int .i64 v)) = (l.take j ++ v :: List.replicate (l.length - (j + 1)) low).map int := by
  have hi : (AV.v (.int .i64 v)) = int v := rfl
  rw [hi, ← List.map_set]
  congr 1
  unfold lowTo
  rw [List.take_succ_eq_append_getElem h, List.append_assoc, List.set_append_right _ _ (by simp; omega)]
  simp [Nat.min_eq_left (Nat.le_of_lt h)]
theorem lowTo_low {low : Int} {l : List Int} {j : Nat} (h : j < l.length) : lowTo low l j = l.take j ++ low :: List.replicate (l.length - (j + 1)) low := by
  unfold lowTo
  rw [show l.length - j = l.length - (j + 1) + 1 by omega, List.replicate_succ]
theorem lowTo_get {low : Int} {l : List Int} {j : Nat} (h : j < l.length) (h' : j < (lowTo low l (j + 1)).length) : (lowTo low l (j + 1))[j] = l[j] := by
  simp only [lowTo, List.getElem_append]
  rw [dif_pos (by simp; omega)]
  simp

end Go.Proofs.Ytlkgppincgpfjaa.Ax

/-
  The first best one of some lists; the same by a search from the front. No condition.
-/
namespace Go.Proofs.Ytlkgppincgpfjaa.Ax
open Go Go.RowKit

/-- Of two the better one; the first, where they are as good. -/
def comb (W : List Int → Int) : Option (List Int) → Option (List Int) → Option (List Int)
  | none, b => b
  | some a, none => some a
  | some a, some b => if W b > W a then some b else some a

theorem comb_none {W : List Int → Int} {a : Option (List Int)} : comb W a none = a := by cases a <;> rfl

theorem comb_assoc {W : List Int → Int} (a b c : Option (List Int)) : comb W (comb W a b) c = comb W a (comb W b c) := by
  cases a with
  | none => rfl
  | some a => cases b with
    | none => rfl
    | some b => cases c with
      | none => simp only [comb_none]
      | some c =>
        simp only [comb]
        by_cases h1 : W b > W a <;> by_cases h2 : W c > W b <;> by_cases h3 : W c > W a <;> simp [h1, h2, h3] <;> omega

/-- The first best one of those that are good. -/
def bestO (W : List Int → Int) (ok : List Int → Bool) : List (List Int) → Option (List Int)
  | [] => none
  | l :: L => comb W (if ok l = true then some l else none) (bestO W ok L)

theorem bestO_app {W : List Int → Int} {ok : List Int → Bool} : ∀ {A B : List (List Int)}, bestO W ok (A ++ B) = comb W (bestO W ok A) (bestO W ok B)
  | [], B => rfl
  | l :: A, B => by simp only [List.cons_append, bestO, bestO_app, comb_assoc]

/-- One more. -/
def pick1 (W : List Int → Int) (ok : List Int → Bool) (o : Option (List Int)) (l : List Int) : Option (List Int) := comb W o (if ok l = true then some l else none)

theorem bestO_take {W : List Int → Int} {ok : List Int → Bool} {L : List (List Int)} {k : Nat} (h : k < L.length) : bestO W ok (L.take (k + 1)) = pick1 W ok (bestO W ok (L.take k)) L[k] := by
  rw [List.take_succ_eq_append_getElem h, bestO_app]
  simp only [bestO, pick1, comb_none]

theorem bestO_mem {W : List Int → Int} {ok : List Int → Bool} : ∀ {L : List (List Int)} {l : List Int}, bestO W ok L = some l → l ∈ L ∧ ok l = true
  | [], l, h => by simp [bestO] at h
  | x :: L, l, h => by
    simp only [bestO] at h
    have key : ∀ {a b : Option (List Int)}, comb W a b = some l → a = some l ∨ b = some l := by
      intro a b
      cases a with
      | none => exact .inr
      | some a => cases b with
        | none => exact .inl
        | some b =>
          simp only [comb]
          split
          · exact .inr
          · exact .inl
    rcases key h with h | h
    · split at h
      · simp only [Option.some.injEq] at h; subst h; exact ⟨by simp, by assumption⟩
      · simp at h
    · obtain ⟨h1, h2⟩ := bestO_mem h; exact ⟨by simp [h1], h2⟩

theorem bestO_none {W : List Int → Int} {ok : List Int → Bool} : ∀ {L : List (List Int)}, (∀ l ∈ L, ok l = false) → bestO W ok L = none
  | [], _ => rfl
  | x :: L, h => by
    simp only [bestO, h x (by simp), Bool.false_eq_true, if_false]
    rw [bestO_none fun l hl => h l (by simp [hl])]; rfl

/-- The search: 'list' is continued by r numbers from low on (m: how many numbers there are); 'sk' says which number is passed over. -/
def bestS (W : List Int → Int) (sk : List Int → Int → Bool) (low : Int) (m : Nat) : Nat → List Int → Option (List Int)
  | 0, l => some l
  | r + 1, l => (List.range m).foldl (fun o (i : Nat) => if sk l (low + i) = true then o else comb W o (bestS W sk low m r (l ++ [low + i]))) none

theorem foldl_comb {W : List Int → Int} {f : Nat → Option (List Int)} {g : Option (List Int) → Nat → Option (List Int)} (hg : ∀ o i, g o i = comb W o (f i)) : ∀ {l : List Nat} {o : Option (List Int)}, l.foldl g o = comb W o (l.foldl g none)
  | [], o => by simp [comb_none]
  | i :: l, o => by
    simp only [List.foldl_cons, hg]
    rw [foldl_comb hg (l := l) (o := comb W o (f i)), foldl_comb hg (l := l) (o := comb W none (f i)), comb_assoc]; rfl

/-- Both searches find the same. -/
theorem bestS_eq {W : List Int → Int} {ok : List Int → Bool} {sk : List Int → Int → Bool} {low high : Int} {n : Nat} (hlh : low ≤ high + 1) (hsk : ∀ l x m, ok l = true → l.length < n → sk l x = true → ok (l ++ x :: m) = false) (hkp : ∀ l x, ok l = true → l.length < n → sk l x = false → ok (l ++ [x]) = true) :
    ∀ (r : Nat) (l : List Int), ok l = true → l.length + r = n → bestS W sk low (high + 1 - low).toNat r l = bestO W ok ((allL low high r).map (l ++ ·))
  | 0, l, hl, _ => by simp [bestS, allL, bestO, hl, comb]
  | r + 1, l, hl, hn => by
    have ih := bestS_eq (W := W) hlh hsk hkp r
    simp only [bestS, allL]
    -- the blocks, from number i on
    have key : ∀ (m i : Nat), ((List.range' i m).foldl (fun o (i : Nat) => if sk l (low + i) = true then o else comb W o (bestS W sk low (high + 1 - low).toNat r (l ++ [low + i]))) none) = bestO W ok ((blocks (allL low high r) (low + i) m).map (l ++ ·)) := by
      intro m
      induction m with
      | zero => intro i; simp [blocks, bestO]
      | succ m im =>
        intro i
        rw [List.range'_succ, List.foldl_cons, foldl_comb (W := W) (f := fun i => if sk l (low + i) = true then none else bestS W sk low (high + 1 - low).toNat r (l ++ [low + i])) (fun o i => by split <;> simp [comb_none])]
        rw [im (i + 1), blocks, List.map_append, bestO_app]
        congr 1
        · rw [List.map_map]
          have e : ((l ++ ·) ∘ ((low + (i : Int)) :: ·)) = fun l' => l ++ (low + (i : Int)) :: l' := rfl
          rw [e]
          by_cases hs : sk l (low + i) = true
          · rw [if_pos hs, bestO_none]
            intro l' hl'
            obtain ⟨l0, _, rfl⟩ := List.mem_map.1 hl'
            exact hsk l _ l0 hl (by omega) hs
          · rw [if_neg hs]
            have hs' : sk l (low + i) = false := by simpa using hs
            have : comb W none (bestS W sk low (high + 1 - low).toNat r (l ++ [low + (i : Int)])) = bestS W sk low (high + 1 - low).toNat r (l ++ [low + (i : Int)]) := rfl
            rw [this, ih (l ++ [low + (i : Int)]) (hkp l _ hl (by omega) hs') (by simp; omega)]
            congr 1
            exact List.map_congr_left fun l' _ => by simp
        · congr 3; push_cast; omega
    have := key (high + 1 - low).toNat 0
    rw [← List.range_eq_range'] at this
    rw [this]
    congr 2
    simp

/-! The awards. -/

/-- 'No thing twice; the bidder wo gets nothing', of a list that may go on. -/
def okP (wo : Int) (l : List Int) : Bool := isAwd l && !(decide (0 ≤ wo) && decide (wo < l.length) && decide (0 ≤ l.getD wo.toNat 0))
/-- Number x may not come next. -/
def skP (wo : Int) (l : List Int) (x : Int) : Bool := decide (0 ≤ x) && (decide (0 ≤ pos l x) || decide ((l.length : Int) = wo))

theorem getD_app {l m : List Int} {i : Nat} (h : i < l.length) : (l ++ m).getD i 0 = l.getD i 0 := by
  rw [List.getD_eq_getElem?_getD, List.getD_eq_getElem?_getD, List.getElem?_append_left h]

theorem awAt_app {l m : List Int} {i : Nat} (h : i < l.length) : awAt (l ++ m) i = awAt l i := by
  unfold awAt
  rw [getD_app h, List.take_append_of_le_length (by omega)]

theorem awAt_last {l : List Int} {x : Int} {m : List Int} : awAt (l ++ x :: m) l.length = !(decide (0 ≤ x) && decide (0 ≤ pos l x)) := by
  unfold awAt
  rw [List.take_append_of_le_length (Nat.le_refl _), List.take_length]
  simp [List.getD_eq_getElem?_getD]

theorem isAwd_app {l : List Int} {x : Int} : isAwd (l ++ [x]) = (isAwd l && !(decide (0 ≤ x) && decide (0 ≤ pos l x))) := by
  unfold isAwd allR
  rw [List.length_append, List.length_singleton, List.range_succ, List.all_append]
  congr 1
  · rw [Bool.eq_iff_iff, List.all_eq_true, List.all_eq_true]
    exact ⟨fun h i hi => by rw [← awAt_app (m := [x]) (by simpa using hi)]; exact h i hi, fun h i hi => by rw [awAt_app (by simpa using hi)]; exact h i hi⟩
  · simp [awAt_last]

theorem okP_nil {wo : Int} : okP wo [] = true := by
  simp only [okP, Bool.and_eq_true, Bool.not_eq_true']
  refine ⟨rfl, ?_⟩
  simp only [List.length_nil, Bool.and_eq_false_iff, decide_eq_false_iff_not]
  omega

theorem okP_keep {wo : Int} {l : List Int} {x : Int} (h : okP wo l = true) (hs : skP wo l x = false) : okP wo (l ++ [x]) = true := by
  simp only [okP, skP, isAwd_app, Bool.and_eq_true, Bool.not_eq_true', Bool.and_eq_false_iff, Bool.or_eq_false_iff, decide_eq_false_iff_not, List.length_append, List.length_singleton] at h hs ⊢
  obtain ⟨h1, h2⟩ := h
  refine ⟨⟨h1, ?_⟩, ?_⟩
  · rcases hs with hs | ⟨hs, _⟩
    · exact .inl hs
    · exact .inr hs
  · by_cases h0 : 0 ≤ wo
    · by_cases hw : wo < l.length
      · rw [getD_app (by omega)]
        rcases h2 with (h2 | h2) | h2
        · exact (h2 h0).elim
        · exact (h2 hw).elim
        · exact .inr h2
      · by_cases he : wo = l.length
        · right
          subst he
          rcases hs with hs | ⟨_, hs⟩
          · simp [List.getD_eq_getElem?_getD]; omega
          · exact (hs rfl).elim
        · left; right; push_cast; omega
    · exact .inl (.inl h0)

theorem okP_skip {wo : Int} {l : List Int} {x : Int} {m : List Int} (hs : skP wo l x = true) : okP wo (l ++ x :: m) = false := by
  simp only [skP, Bool.and_eq_true, Bool.or_eq_true, decide_eq_true_eq] at hs
  obtain ⟨hx, hs⟩ := hs
  simp only [okP, Bool.and_eq_false_iff, Bool.not_eq_false', Bool.and_eq_true, decide_eq_true_eq]
  rcases hs with hs | hs
  · left
    exact allR_no (k := l.length) (by simp) (by rw [awAt_last]; simp [hx, hs])
  · right
    subst hs
    refine ⟨⟨by omega, by simp; omega⟩, ?_⟩
    simp [List.getD_eq_getElem?_getD, hx]

theorem bestS_award {W : List Int → Int} {wo high : Int} {n : Nat} (hh : -1 ≤ high + 1) : bestS W (skP wo) (-1) (high + 1 - -1).toNat n [] = bestO W (okP wo) (allL (-1) high n) := by
  have := bestS_eq (W := W) (ok := okP wo) (sk := skP wo) (low := -1) (high := high) (n := n) hh (fun l x m _ _ hs => okP_skip hs) (fun l x h _ hs => okP_keep h hs) n [] okP_nil (by simp)
  rw [this]; simp

end Go.Proofs.Ytlkgppincgpfjaa.Ax

/-
  Contracts: slices.Clone, the lists, the best award of the program. No condition.
-/
namespace Go.Proofs.Ytlkgppincgpfjaa.Ax
open Go Go.RowKit
set_option linter.unusedSimpArgs false

noncomputable def mClone : List AV → Option AV := mk (fun p => p.2.length ≤ 1000000) (fun (p : (Bool) × (List Int)) => [ints p.1 p.2]) (fun p => ints p.1 p.2)
theorem mClone_at (nl : Bool) (xs : List Int) (hpre : xs.length ≤ 1000000) : mClone [.sl nl 1 (xs.map int)] = some (.sl nl 1 ((xs).map int)) :=
  mk_eq (enc := fun (p : (Bool) × (List Int)) => [ints p.1 p.2]) (x := (nl, xs)) (by rintro ⟨a0, a1⟩ ⟨b0, b1⟩ h; simp [ints, intss, int, bool, row, frac, fracs, map_int_inj, map_row_inj, frac_inj, map_frac_inj] at h; simp [h]) hpre

end Go.Proofs.Ytlkgppincgpfjaa.Ax
