/-
  The plain side of MovingKnife: who is left, who takes the next strip. No condition.
-/
import Derived.Test.YtlkgppincgpfjaaCG81
import Derived.Test.YtlkgppincgpfjaaCG86
import Derived.Test.YtlkgppincgpfjaaCG9
namespace Go.Proofs.Ytlkgppincgpfjaa.Ax
open Go Go.RowKit
set_option linter.unusedSimpArgs false

/-- Whether the pieces from fr up to to are worth a share to person i. -/
def shB (xss : List (Bool × List Int)) (fr to : Nat) (i : Nat) : Bool := decide (sumW (xss.getD i (true, [])).2 ≤ IntKind.i64.wrap (sumW (((xss.getD i (true, [])).2.drop fr).take (to - fr)) * xss.length))
/-- Who is left. -/
def lf (dn : List Bool) : List Int := selTo (fun i => !dn.getD i true) dn.length
/-- The place among those who are left of the next taker, or -1. -/
def tkAt (xss : List (Bool × List Int)) (dn : List Bool) (fr to : Nat) : Int := idxOf (fun i => shB xss fr to i.toNat) (lf dn)
/-- The next taker, or -1. -/
def tkr (xss : List (Bool × List Int)) (dn : List Bool) (fr to : Nat) : Int := if 0 ≤ tkAt xss dn fr to then (lf dn).getD (tkAt xss dn fr to).toNat 0 else -1

theorem idxOf_lt {α : Type} {p : α → Bool} {xs : List α} (h : 0 ≤ idxOf p xs) : (idxOf p xs).toNat < xs.length ∧ ∃ hl : (idxOf p xs).toNat < xs.length, p xs[(idxOf p xs).toNat] = true := by
  unfold idxOf at *
  cases hf : xs.findIdx? p with
  | none => rw [hf] at h; simp at h
  | some k =>
    obtain ⟨hk, hp, _⟩ := List.findIdx?_eq_some_iff_getElem.1 hf
    simp only [Option.elim]
    exact ⟨by simpa using hk, by simpa using hk, by simpa using hp⟩

theorem selTo_split {q : Nat → Bool} {k : Nat} (hq : q k = true) : ∀ {n : Nat}, k < n → ∃ r, selTo q n = selTo q k ++ (k : Int) :: r
  | 0, h => by omega
  | n + 1, h => by
    by_cases e : k = n
    · subst e; exact ⟨[], selTo_yes hq⟩
    · obtain ⟨r, hr⟩ := selTo_split hq (n := n) (by omega)
      cases hn : q n with
      | true => exact ⟨r ++ [(n : Int)], by rw [selTo_yes hn, hr]; simp⟩
      | false => exact ⟨r, by rw [selTo_no hn, hr]⟩

/-- The first of those who are left, and for whom something holds. -/
theorem first_sel {q : Nat → Bool} {p : Int → Bool} {n k : Nat} (hk : k < n) (hq : q k = true) (hp : p k = true) (hno : ∀ j, j < k → q j = true → p j = false) :
    idxOf p (selTo q n) = (selTo q k).length ∧ (selTo q n).getD (selTo q k).length 0 = k := by
  obtain ⟨r, hr⟩ := selTo_split hq hk
  have hlt : (selTo q k).length < (selTo q n).length := by rw [hr]; simp
  refine ⟨idxOf_found hlt (fun j hj hjk => ?_) ?_, ?_⟩
  · have : (selTo q n)[j] = (selTo q k)[j] := by simp only [hr]; rw [List.getElem_append_left hjk]
    rw [this]
    obtain ⟨i, e, h1, h2⟩ := selTo_mem (List.getElem_mem hjk)
    rw [e]; exact hno i h1 h2
  · have : (selTo q n)[(selTo q k).length] = (k : Int) := by simp only [hr]; rw [List.getElem_append_right (Nat.le_refl _)]; simp
    rw [this]; exact hp
  · rw [hr, List.getD_eq_getElem?_getD, List.getElem?_append_right (Nat.le_refl _)]; simp
theorem none_sel {q : Nat → Bool} {p : Int → Bool} {n : Nat} (hno : ∀ j, j < n → q j = true → p j = false) : idxOf p (selTo q n) = -1 :=
  idxOf_none fun j hj _ => by
    obtain ⟨i, e, h1, h2⟩ := selTo_mem (List.getElem_mem hj)
    rw [e]; exact hno i h1 h2

theorem selTo_congr {q q' : Nat → Bool} {n : Nat} (h : ∀ i, i < n → q i = q' i) : selTo q n = selTo q' n := by
  unfold selTo
  congr 1
  exact List.filter_congr fun i hi => h i (by simpa using hi)

/-- One of those who are left goes. -/
theorem sel_del {q : Nat → Bool} {n a : Nat} (ha : a < (selTo q n).length) : (selTo q n).take a ++ (selTo q n).drop (a + 1) = selTo (fun i => q i && decide ((i : Int) ≠ (selTo q n)[a])) n := by
  obtain ⟨k, e, hk, hq⟩ := selTo_mem (List.getElem_mem ha)
  simp only [e]
  induction n with
  | zero => simp [selTo] at ha
  | succ n ih =>
    by_cases hkn : k = n
    · subst hkn
      have hs := selTo_yes hq
      have hal : a = (selTo q k).length := by
        rcases Nat.lt_or_ge a (selTo q k).length with h | h
        · exfalso
          have : (selTo q (k + 1))[a] = (selTo q k)[a] := by simp only [hs]; rw [List.getElem_append_left h]
          rw [this] at e
          obtain ⟨i, e2, h2, _⟩ := selTo_mem (List.getElem_mem h)
          rw [e2] at e
          omega
        · rw [hs] at ha; simp at ha; omega
      have hno : selTo (fun i => q i && decide ((i : Int) ≠ (k : Int))) (k + 1) = selTo (fun i => q i && decide ((i : Int) ≠ (k : Int))) k := selTo_no (by simp)
      rw [hno, hs, hal]
      rw [show (selTo q k).length + 1 = (selTo q k ++ [(k : Int)]).length by simp, List.drop_length, List.append_nil, List.take_left]
      exact selTo_congr fun i hi => by
        have : ¬ ((i : Int) = (k : Int)) := by omega
        simp [this]
    · have hkn' : k < n := by omega
      cases hn : q n with
      | true =>
        have hs := selTo_yes hn
        have han : a < (selTo q n).length := by
          rcases Nat.lt_or_ge a (selTo q n).length with h | h
          · exact h
          · exfalso
            rw [hs] at ha; simp at ha
            have hal : a = (selTo q n).length := by omega
            subst hal
            have : (selTo q (n + 1))[(selTo q n).length]'(by rw [hs]; simp) = (n : Int) := by simp only [hs]; rw [List.getElem_append_right (Nat.le_refl _)]; simp
            rw [this] at e
            omega
        have e' : (selTo q n)[a] = (k : Int) := by rw [← e]; simp only [hs]; rw [List.getElem_append_left han]
        have := ih han e' hkn'
        rw [selTo_yes (p := fun i => q i && decide ((i : Int) ≠ (k : Int))) (by simp [hn]; omega), ← this, hs, List.take_append_of_le_length (by omega), List.drop_append_of_le_length (by omega)]
        simp
      | false =>
        have hs := selTo_no hn
        have han : a < (selTo q n).length := by rw [← hs]; exact ha
        have e' : (selTo q n)[a] = (k : Int) := by rw [← e]; simp only [hs]
        have := ih han e' hkn'
        rw [selTo_no (p := fun i => q i && decide ((i : Int) ≠ (k : Int))) (by simp [hn]), ← this, hs]

theorem lf_mem {dn : List Bool} {x : Int} (h : x ∈ lf dn) : ∃ i : Nat, x = i ∧ i < dn.length ∧ dn.getD i true = false := by
  obtain ⟨i, e, h1, h2⟩ := selTo_mem h
  exact ⟨i, e, h1, by simpa using h2⟩
theorem lf_del {dn : List Bool} {a : Nat} (ha : a < (lf dn).length) : (lf dn).take a ++ (lf dn).drop (a + 1) = lf (dn.set (lf dn)[a].toNat true) := by
  obtain ⟨k, e, hk, hd⟩ := lf_mem (List.getElem_mem ha)
  unfold lf at *
  rw [sel_del ha, List.length_set]
  refine selTo_congr fun i hi => ?_
  rw [e]
  simp only [Int.toNat_natCast]
  by_cases hik : i = k
  · subst hik; simp [List.getD_eq_getElem?_getD, hi]
  · have h1 : ¬ ((i : Int) = (k : Int)) := by omega
    have h2 : ¬ k = i := fun h => hik h.symm
    simp [List.getD_eq_getElem?_getD, List.getElem?_set_ne h2, h1, hik]
theorem lf_len {dn : List Bool} : (lf dn).length ≤ dn.length := selTo_len
theorem lf_all {n : Nat} : lf (List.replicate n false) = selTo (fun _ => true) n := by
  unfold lf
  rw [List.length_replicate]
  exact selTo_congr fun i hi => by simp [List.getD_eq_getElem?_getD, hi]

/-- Who is done, up to where the pieces are given, who has them. -/
structure Kn where
  dn : List Bool
  fr : Nat
  out : List Int
def kStep (xss : List (Bool × List Int)) (s : Kn) (to : Nat) : Kn :=
  if 2 ≤ (lf s.dn).length ∧ 0 ≤ tkAt xss s.dn s.fr to then ⟨s.dn.set (tkr xss s.dn s.fr to).toNat true, to, s.out ++ List.replicate (to - s.fr) (tkr xss s.dn s.fr to)⟩ else s
def kSt (xss : List (Bool × List Int)) : Nat → Kn
  | 0 => ⟨List.replicate xss.length false, 0, []⟩
  | k + 1 => kStep xss (kSt xss k) (k + 1)
structure KnOk (xss : List (Bool × List Int)) (k : Nat) (s : Kn) : Prop where
  len : s.dn.length = xss.length
  fr : s.fr ≤ k
  out : s.out.length = s.fr
  some : 1 ≤ (lf s.dn).length
  cnt : (lf s.dn).length = s.dn.count false
theorem tkAt_get {xss : List (Bool × List Int)} {dn : List Bool} {fr to : Nat} (h : 0 ≤ tkAt xss dn fr to) : ∃ a : Nat, ∃ ha : a < (lf dn).length, tkAt xss dn fr to = a ∧ tkr xss dn fr to = (lf dn)[a] := by
  have h1 : (tkAt xss dn fr to).toNat < (lf dn).length := by
    unfold tkAt at h ⊢
    exact (idxOf_lt h).1
  refine ⟨(tkAt xss dn fr to).toNat, h1, by omega, ?_⟩
  unfold tkr
  rw [if_pos h]
  generalize (tkAt xss dn fr to).toNat = a at h1
  rw [List.getD_eq_getElem?_getD, List.getElem?_eq_getElem h1]
  rfl
theorem sel_count {q : Nat → Bool} {n : Nat} : (selTo q n).length = ((List.range n).map q).count true := by
  unfold selTo
  rw [List.length_map, List.count, List.countP_map, List.countP_eq_length_filter]
  congr 1
  exact List.filter_congr fun i _ => by simp
theorem lf_count {dn : List Bool} : (lf dn).length = dn.count false := by
  unfold lf
  rw [sel_count]
  have : (List.range dn.length).map (fun i => !dn.getD i true) = dn.map (!·) := by
    apply List.ext_getElem
    · simp
    · intro i h1 h2
      have h3 : i < dn.length := by simpa using h2
      simp [List.getD_eq_getElem?_getD, h3]
  rw [this]
  clear this
  induction dn with
  | nil => rfl
  | cons b dn ih => cases b <;> simp [ih]
theorem kStep_ok {xss : List (Bool × List Int)} {k : Nat} {s : Kn} (h : KnOk xss k s) : KnOk xss (k + 1) (kStep xss s (k + 1)) := by
  unfold kStep
  split
  · rename_i hc
    obtain ⟨a, ha, e1, e2⟩ := tkAt_get hc.2
    have hd := lf_del ha
    have hl : (lf (s.dn.set (lf s.dn)[a].toNat true)).length = (lf s.dn).length - 1 := by rw [← hd]; simp; omega
    rw [e2]
    have h2 := hc.1
    refine ⟨by simpa using h.len, Nat.le_refl _, ?_, by simp only [hl]; omega, lf_count⟩
    have := h.fr
    simp [h.out]
    omega
  · exact ⟨h.len, Nat.le_succ_of_le h.fr, h.out, h.some, h.cnt⟩
theorem kSt_ok {xss : List (Bool × List Int)} (h0 : 0 < xss.length) : ∀ k, KnOk xss k (kSt xss k)
  | 0 => by
    refine ⟨by simp [kSt], Nat.le_refl _, rfl, ?_, lf_count⟩
    rw [lf_count]
    simp only [kSt, List.count_replicate_self]
    exact h0
  | k + 1 => kStep_ok (kSt_ok h0 k)
theorem kSt_stay {xss : List (Bool × List Int)} {k : Nat} (h : ¬ 2 ≤ (lf (kSt xss k).dn).length) : ∀ n, k ≤ n → kSt xss n = kSt xss k
  | 0, hn => by obtain rfl : k = 0 := by omega
                rfl
  | n + 1, hn => by
    by_cases e : k = n + 1
    · rw [e]
    · have ih := kSt_stay h n (by omega)
      rw [kSt, ih, kStep, if_neg (fun hc => h hc.1)]

/-- What the knife gives. -/
def knL (xss : List (Bool × List Int)) : List Int := if rectB xss 3 10 100 = true then (kSt xss (wid xss)).out ++ List.replicate (wid xss - (kSt xss (wid xss)).fr) ((lf (kSt xss (wid xss)).dn).getD 0 0) else []
theorem knL_yes {xss : List (Bool × List Int)} (h : rectB xss 3 10 100 = true) : knL xss = (kSt xss (wid xss)).out ++ List.replicate (wid xss - (kSt xss (wid xss)).fr) ((lf (kSt xss (wid xss)).dn).getD 0 0) := if_pos h
theorem knL_no {xss : List (Bool × List Int)} (h : rectB xss 3 10 100 = false) : knL xss = [] := if_neg (by simp [h])
theorem knL_len {xss : List (Bool × List Int)} : (knL xss).length ≤ 10 := by
  cases h : rectB xss 3 10 100 with
  | false => rw [knL_no h]; simp
  | true =>
    have h1 := rect_len h
    have h2 := kSt_ok (rect_pos h) (wid xss)
    rw [knL_yes h, List.length_append, List.length_replicate, h2.out]
    have := h2.fr
    omega

end Go.Proofs.Ytlkgppincgpfjaa.Ax
