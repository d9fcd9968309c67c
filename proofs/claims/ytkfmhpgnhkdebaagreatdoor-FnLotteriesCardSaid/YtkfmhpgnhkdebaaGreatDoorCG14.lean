/-
  The plain side of EatTogether: rounds of eating, in parts of a common divisor. No condition.
-/
import Derived.Test.YtkfmhpgnhkdebaaGreatDoorCG13
import Derived.Test.YtkfmhpgnhkdebaaGreatDoorCG3
namespace Go.Proofs.YtkfmhpgnhkdebaaGreatDoor.Ax
open Go Go.RowKit
set_option linter.unusedSimpArgs false
set_option linter.unusedVariables false
structure Es where
  D : Int
  lf : List Int
  out : List (List Int)
def opn (s : Es) : List Int := selTo (fun x => decide (0 < at0 s.lf x)) s.lf.length
def hxl (s : Es) (l : List Int) : Int := (fstI (fun h => decide (0 < at0 s.lf h.toNat)) l).getD (-1)
def hxi (xss : List (Bool × List Int)) (s : Es) (i : Nat) : Nat := (hxl s (xss.getD i (true, [])).2).toNat
def cn (xss : List (Bool × List Int)) (s : Es) (x : Nat) : Nat → Int
  | 0 => 0
  | k + 1 => cn xss s x k + if hxi xss s k = x then 1 else 0
def tmx (xss : List (Bool × List Int)) (s : Es) (x : Nat) : Int := (12 / cn xss s x xss.length) * at0 s.lf x
def stpF (xss : List (Bool × List Int)) (s : Es) (st : Int) (x : Int) : Int := if 0 < cn xss s x.toNat xss.length ∧ tmx xss s x.toNat < st then tmx xss s x.toNat else st
def stp (xss : List (Bool × List Int)) (s : Es) : Int := (idx xss.length).foldl (stpF xss s) (12 * s.D)
def el (xss : List (Bool × List Int)) (s : Es) : Nat → List Int
  | 0 => s.lf.map fun a => 12 * a
  | k + 1 => (el xss s k).set (hxi xss s k) (at0 (el xss s k) (hxi xss s k) - stp xss s)
def eo (xss : List (Bool × List Int)) (s : Es) : Nat → List (List Int)
  | 0 => s.out.map fun r => r.map fun a => 12 * a
  | k + 1 => (eo xss s k).set k (((eo xss s k).getD k []).set (hxi xss s k) (at0 ((eo xss s k).getD k []) (hxi xss s k) + stp xss s))
def rndE (xss : List (Bool × List Int)) (s : Es) : Es := ⟨12 * s.D, el xss s xss.length, eo xss s xss.length⟩
def es (xss : List (Bool × List Int)) : Nat → Es
  | 0 => ⟨1, List.replicate xss.length 1, List.replicate xss.length (List.replicate xss.length 0)⟩
  | r + 1 => if opn (es xss r) = [] then es xss r else rndE xss (es xss r)
structure Hs (xss : List (Bool × List Int)) : Prop where
  n1 : 1 ≤ xss.length
  n4 : xss.length ≤ 4
  all : ∀ i (hi : i < xss.length), (∀ x ∈ xss[i].2, 0 ≤ x ∧ x < xss.length) ∧ ∀ x : Nat, x < xss.length → (x : Int) ∈ xss[i].2
structure EOk (xss : List (Bool × List Int)) (s : Es) (r : Nat) : Prop where
  D : s.D = 12 ^ r
  ll : s.lf.length = xss.length
  ol : s.out.length = xss.length
  or : ∀ i (hi : i < s.out.length), s.out[i].length = xss.length
  lb : ∀ x, x < xss.length → 0 ≤ at0 s.lf x ∧ at0 s.lf x ≤ s.D
  ob : ∀ i (hi : i < s.out.length), ∀ x, x < xss.length → 0 ≤ at0 s.out[i] x ∧ at0 s.out[i] x ≤ r * s.D
  op : (opn s).length + r ≤ xss.length
section
variable {xss : List (Bool × List Int)} {s : Es}
theorem opn_mem {x : Int} : x ∈ opn s ↔ ∃ i : Nat, x = i ∧ i < s.lf.length ∧ 0 < at0 s.lf i := by
  constructor
  · intro h
    obtain ⟨i, e, h1, h2⟩ := selTo_mem h
    exact ⟨i, e, h1, by simpa using h2⟩
  · rintro ⟨i, rfl, h1, h2⟩
    simp only [opn, selTo, List.mem_map, List.mem_filter, List.mem_range]
    exact ⟨i, ⟨h1, by simpa using h2⟩, rfl⟩
theorem hx_ok (h : Hs xss) (hl : s.lf.length = xss.length) (ho : opn s ≠ []) {i : Nat} (hi : i < xss.length) : ∃ x : Nat, fstI (fun h => decide (0 < at0 s.lf h.toNat)) xss[i].2 = some (x : Int) ∧ hxi xss s i = x ∧ x < xss.length ∧ 0 < at0 s.lf x := by
  obtain ⟨h1, h2⟩ := h.all i hi
  obtain ⟨y, hy⟩ := List.exists_mem_of_ne_nil _ ho
  obtain ⟨j, rfl, hj, hp⟩ := opn_mem.1 hy
  have hsome : (fstI (fun h => decide (0 < at0 s.lf h.toNat)) xss[i].2).isSome = true := by
    unfold fstI
    rw [List.find?_isSome]
    exact ⟨(j : Int), h2 j (by omega), by simpa using hp⟩
  obtain ⟨z, hz⟩ := Option.isSome_iff_exists.1 hsome
  have hzm : z ∈ xss[i].2 := List.mem_of_find?_eq_some hz
  have hzp := List.find?_some hz
  have hzb := h1 z hzm
  refine ⟨z.toNat, ?_, ?_, by omega, by simpa using hzp⟩
  · rw [hz]; congr 1; omega
  · unfold hxi hxl
    have : xss.getD i (true, []) = xss[i] := by simp [List.getD_eq_getElem?_getD, hi]
    rw [this, hz]; rfl
theorem cn_bd {x : Nat} : ∀ {k : Nat}, 0 ≤ cn xss s x k ∧ cn xss s x k ≤ k
  | 0 => by simp [cn]
  | k + 1 => by
    have := cn_bd (x := x) (k := k)
    unfold cn
    split <;> (push_cast; omega)
theorem cn_mono {x : Nat} {j : Nat} : ∀ {k : Nat}, j ≤ k → cn xss s x j ≤ cn xss s x k
  | 0, h => by obtain rfl : j = 0 := by omega
               exact Int.le_refl _
  | k + 1, h => by
    by_cases e : j = k + 1
    · subst e; exact Int.le_refl _
    · have := cn_mono (x := x) (j := j) (k := k) (by omega)
      rw [cn]
      split <;> omega
theorem cn_pos {i : Nat} {k : Nat} (hi : i < k) : 0 < cn xss s (hxi xss s i) k := by
  have h1 := cn_mono (xss := xss) (s := s) (x := hxi xss s i) (j := i + 1) (k := k) hi
  have h2 := cn_bd (xss := xss) (s := s) (x := hxi xss s i) (k := i)
  have h3 : cn xss s (hxi xss s i) (i + 1) = cn xss s (hxi xss s i) i + 1 := by simp [cn]
  omega
theorem stpF_le {st : Int} {x : Int} : stpF xss s st x ≤ st := by unfold stpF; split <;> omega
theorem fold_le : ∀ {L : List Int} {st : Int}, L.foldl (stpF xss s) st ≤ st
  | [], _ => Int.le_refl _
  | x :: L, st => by
    simp only [List.foldl_cons]
    exact Int.le_trans fold_le stpF_le
theorem fold_ge {x : Int} : ∀ {L : List Int} {st : Int}, x ∈ L → 0 < cn xss s x.toNat xss.length → L.foldl (stpF xss s) st ≤ tmx xss s x.toNat
  | [], _, h, _ => by simp at h
  | y :: L, st, h, hc => by
    simp only [List.foldl_cons]
    rcases List.mem_cons.1 h with rfl | h
    · refine Int.le_trans fold_le ?_
      unfold stpF
      split
      · exact Int.le_refl _
      · rename_i hn
        rcases Int.lt_or_le (tmx xss s x.toNat) st with h | h
        · exact absurd ⟨hc, h⟩ hn
        · exact h
    · exact fold_ge h hc
theorem fold_att : ∀ {L : List Int} {st : Int}, L.foldl (stpF xss s) st = st ∨ ∃ x ∈ L, 0 < cn xss s x.toNat xss.length ∧ L.foldl (stpF xss s) st = tmx xss s x.toNat
  | [], _ => .inl rfl
  | y :: L, st => by
    simp only [List.foldl_cons]
    rcases fold_att (L := L) (st := stpF xss s st y) with h | ⟨x, h1, h2, h3⟩
    · rw [h]
      unfold stpF
      split
      · rename_i hc
        exact .inr ⟨y, by simp, hc.1, rfl⟩
      · exact .inl rfl
    · exact .inr ⟨x, by simp [h1], h2, h3⟩
theorem twelve {e : Int} (h1 : 1 ≤ e) (h4 : e ≤ 4) : e * (12 / e) = 12 ∧ 1 ≤ 12 / e ∧ 12 / e ≤ 12 := by
  rcases (show e = 1 ∨ e = 2 ∨ e = 3 ∨ e = 4 by omega) with rfl | rfl | rfl | rfl <;> decide
theorem stp_ok (h : Hs xss) {r : Nat} (hs : EOk xss s r) (ho : opn s ≠ []) : 0 < stp xss s ∧ stp xss s ≤ 12 * s.D ∧ (∀ x : Nat, x < xss.length → 0 < cn xss s x xss.length → cn xss s x xss.length * stp xss s ≤ 12 * at0 s.lf x) ∧
    ∃ x : Nat, x < xss.length ∧ 0 < at0 s.lf x ∧ cn xss s x xss.length * stp xss s = 12 * at0 s.lf x := by
  have hn4 := h.n4
  have hn1 := h.n1
  have hpos : ∀ x : Nat, 0 < cn xss s x xss.length → x < xss.length → 0 < at0 s.lf x := fun x hc hx => by
    rcases Int.lt_or_le 0 (at0 s.lf x) with hp | hp
    · exact hp
    · exfalso
      have key : ∀ k, k ≤ xss.length → cn xss s x k = 0 := by
        intro k
        induction k with
        | zero => intro _; rfl
        | succ k ih =>
          intro hk
          obtain ⟨y, _, e1, _, e2⟩ := hx_ok h hs.ll ho (i := k) hk
          rw [cn, ih (by omega), if_neg (fun e => by rw [e1] at e; subst e; omega)]; rfl
      rw [key _ (Nat.le_refl _)] at hc; omega
  have htm : ∀ x : Nat, x < xss.length → 0 < cn xss s x xss.length → 0 < tmx xss s x ∧ cn xss s x xss.length * tmx xss s x = 12 * at0 s.lf x ∧ tmx xss s x ≤ 12 * s.D := fun x hx hc => by
    have hb := (cn_bd (xss := xss) (s := s) (x := x) (k := xss.length)).2
    obtain ⟨t1, t2, t3⟩ := twelve (e := cn xss s x xss.length) (by omega) (by omega)
    have hp := hpos x hc hx
    have hl := (hs.lb x hx).2
    refine ⟨Int.mul_pos (by omega) hp, ?_, ?_⟩
    · unfold tmx
      rw [← Int.mul_assoc, t1]
    · unfold tmx
      exact Int.mul_le_mul t3 hl (by omega) (by omega)
  have hD : 0 < s.D := by rw [hs.D]; exact Int.pow_pos (by omega)
  obtain ⟨y0, _, e0, hy0, hp0⟩ := hx_ok h hs.ll ho (i := 0) (by omega)
  have hc0 : 0 < cn xss s y0 xss.length := by rw [← e0]; exact cn_pos (by omega)
  have hidx : ∀ x : Nat, x < xss.length → (x : Int) ∈ idx xss.length := fun x hx => by simp only [idx, List.mem_map, List.mem_range]; exact ⟨x, hx, rfl⟩
  have hge : ∀ x : Nat, x < xss.length → 0 < cn xss s x xss.length → stp xss s ≤ tmx xss s x := fun x hx hc => fold_ge (x := (x : Int)) (hidx x hx) (by simpa using hc)
  have hle : stp xss s ≤ 12 * s.D := fold_le
  have hatt : ∃ x : Nat, x < xss.length ∧ 0 < cn xss s x xss.length ∧ stp xss s = tmx xss s x := by
    rcases fold_att (xss := xss) (s := s) (L := idx xss.length) (st := 12 * s.D) with h1 | ⟨x, h1, h2, h3⟩
    · have h1' : stp xss s = 12 * s.D := h1
      refine ⟨y0, hy0, hc0, ?_⟩
      have := hge y0 hy0 hc0
      have := (htm y0 hy0 hc0).2.2
      omega
    · simp only [idx, List.mem_map, List.mem_range] at h1
      obtain ⟨i, hi, rfl⟩ := h1
      exact ⟨i, hi, by simpa using h2, h3⟩
  obtain ⟨x, hx, hc, e⟩ := hatt
  obtain ⟨a1, a2, a3⟩ := htm x hx hc
  refine ⟨by omega, hle, fun z hz hcz => ?_, x, hx, hpos x hc hx, by rw [e]; exact a2⟩
  obtain ⟨b1, b2, _⟩ := htm z hz hcz
  rw [← b2]
  exact Int.mul_le_mul_of_nonneg_left (hge z hz hcz) (by omega)
theorem at0_setE {l : List Int} {x y : Nat} {v : Int} (hx : x < l.length) : at0 (l.set x v) y = if x = y then v else at0 l y := by
  unfold at0
  rw [List.getD_eq_getElem?_getD, List.getD_eq_getElem?_getD]
  by_cases e : x = y
  · subst e; rw [if_pos rfl, List.getElem?_set_self hx]; rfl
  · rw [if_neg e, List.getElem?_set_ne e]
theorem at0_map12 {l : List Int} {x : Nat} : at0 (l.map fun a => 12 * a) x = 12 * at0 l x := by
  unfold at0
  rw [List.getD_eq_getElem?_getD, List.getD_eq_getElem?_getD, List.getElem?_map]
  cases l[x]? <;> simp
theorem el_len : ∀ {k : Nat}, (el xss s k).length = s.lf.length
  | 0 => by simp [el]
  | k + 1 => by rw [el, List.length_set, el_len]
theorem el_at (h : Hs xss) (hl : s.lf.length = xss.length) (ho : opn s ≠ []) : ∀ {k : Nat}, k ≤ xss.length → ∀ x, at0 (el xss s k) x = 12 * at0 s.lf x - cn xss s x k * stp xss s
  | 0, _, x => by simp only [el, cn]; rw [at0_map12]; omega
  | k + 1, hk, x => by
    obtain ⟨y, _, e1, e2, _⟩ := hx_ok h hl ho (i := k) hk
    rw [el, at0_setE (by rw [el_len, hl, e1]; exact e2), cn]
    have ih := el_at h hl ho (k := k) (by omega)
    by_cases e : hxi xss s k = x
    · rw [if_pos e, if_pos e, ih, e, Int.add_mul]; omega
    · rw [if_neg e, if_neg e, ih, Int.add_zero]
theorem eo_len : ∀ {k : Nat}, (eo xss s k).length = s.out.length
  | 0 => by simp [eo]
  | k + 1 => by rw [eo, List.length_set, eo_len]
def eor (xss : List (Bool × List Int)) (s : Es) (i k : Nat) : List Int := (eo xss s k).getD i []
theorem eor_zero {i : Nat} (hi : i < s.out.length) : eor xss s i 0 = (s.out.getD i []).map fun a => 12 * a := by
  unfold eor eo
  rw [List.getD_eq_getElem?_getD, List.getD_eq_getElem?_getD, List.getElem?_map, List.getElem?_eq_getElem hi]; rfl
theorem eor_succ {i k : Nat} (hk : k < s.out.length) : eor xss s i (k + 1) = if k = i then (eor xss s k k).set (hxi xss s k) (at0 (eor xss s k k) (hxi xss s k) + stp xss s) else eor xss s i k := by
  unfold eor
  rw [eo, List.getD_eq_getElem?_getD]
  by_cases e : k = i
  · subst e
    rw [if_pos rfl, List.getElem?_set_self (by rw [eo_len]; exact hk)]; rfl
  · rw [if_neg e, List.getElem?_set_ne e, List.getD_eq_getElem?_getD]
theorem eor_stay {i : Nat} (hi : i < s.out.length) : ∀ {k : Nat}, k ≤ i → eor xss s i k = (s.out.getD i []).map fun a => 12 * a
  | 0, _ => eor_zero hi
  | k + 1, hk => by rw [eor_succ (by omega), if_neg (by omega), eor_stay hi (by omega)]
theorem eor_done {i : Nat} (hi : i < s.out.length) : ∀ {k : Nat}, i < k → k ≤ s.out.length → eor xss s i k = ((s.out.getD i []).map fun a => 12 * a).set (hxi xss s i) (12 * at0 (s.out.getD i []) (hxi xss s i) + stp xss s)
  | 0, h, _ => by omega
  | k + 1, h, hk => by
    rw [eor_succ hk]
    by_cases e : k = i
    · subst e
      rw [if_pos rfl, eor_stay hi (Nat.le_refl _), at0_map12]
    · rw [if_neg e, eor_done hi (by omega) (by omega)]
theorem sel_lt {q q' : Nat → Bool} {z : Nat} (hz : q z = true) (hz' : q' z = false) (hsub : ∀ x, q' x = true → q x = true) : ∀ {n : Nat}, z < n → (selTo q' n).length < (selTo q n).length
  | 0, h => by omega
  | n + 1, h => by
    have hle : ∀ m, (selTo q' m).length ≤ (selTo q m).length := by
      intro m
      induction m with
      | zero => exact Nat.le_refl _
      | succ m ih =>
        cases h1 : q' m with
        | true => rw [selTo_yes h1, selTo_yes (hsub m h1)]; simp; exact ih
        | false =>
          rw [selTo_no h1]
          cases h2 : q m with
          | true => rw [selTo_yes h2]; simp; omega
          | false => rw [selTo_no h2]; exact ih
    by_cases e : z = n
    · subst e
      rw [selTo_yes hz, selTo_no hz']
      have := hle z
      simp; omega
    · have ih := sel_lt hz hz' hsub (n := n) (by omega)
      cases h1 : q' n with
      | true => rw [selTo_yes h1, selTo_yes (hsub n h1)]; simp; exact ih
      | false =>
        rw [selTo_no h1]
        cases h2 : q n with
        | true => rw [selTo_yes h2]; simp; omega
        | false => rw [selTo_no h2]; exact ih
theorem rnd_lf (h : Hs xss) {r : Nat} (hs : EOk xss s r) (ho : opn s ≠ []) {x : Nat} (hx : x < xss.length) : 0 ≤ at0 (rndE xss s).lf x ∧ at0 (rndE xss s).lf x ≤ 12 * at0 s.lf x := by
  obtain ⟨a1, a2, a3, _⟩ := stp_ok h hs ho
  have e := el_at h hs.ll ho (Nat.le_refl _) x
  have hb := (cn_bd (xss := xss) (s := s) (x := x) (k := xss.length)).1
  show 0 ≤ at0 (el xss s xss.length) x ∧ at0 (el xss s xss.length) x ≤ _
  have hn := Int.mul_nonneg hb (show 0 ≤ stp xss s by omega)
  rcases Int.lt_or_le 0 (cn xss s x xss.length) with hc | hc
  · have := a3 x hx hc; omega
  · have hz : cn xss s x xss.length = 0 := by omega
    rw [hz, Int.zero_mul] at e
    have := (hs.lb x hx).1
    omega
theorem rnd_opn (h : Hs xss) {r : Nat} (hs : EOk xss s r) (ho : opn s ≠ []) : (opn (rndE xss s)).length < (opn s).length := by
  obtain ⟨_, _, _, x, hx, hp, hz⟩ := stp_ok h hs ho
  have hlen : (rndE xss s).lf.length = s.lf.length := el_len
  unfold opn
  rw [hlen]
  have hxz : at0 (rndE xss s).lf x = 0 := by
    have e := el_at h hs.ll ho (Nat.le_refl _) x
    show at0 (el xss s xss.length) x = 0
    omega
  refine sel_lt (z := x) (by simpa using hp) (by rw [hxz]; rfl) (fun y hy => ?_) (by rw [hs.ll]; exact hx)
  simp only [decide_eq_true_eq] at hy ⊢
  rcases Nat.lt_or_ge y xss.length with hyl | hyl
  · have := (rnd_lf h hs ho hyl).2; omega
  · exfalso
    have : at0 (rndE xss s).lf y = 0 := by
      unfold at0
      rw [List.getD_eq_getElem?_getD, List.getElem?_eq_none (by rw [hlen, hs.ll]; exact hyl)]; rfl
    omega
theorem rnd_ok2 (h : Hs xss) {r : Nat} (hs : EOk xss s r) (ho : opn s ≠ []) : EOk xss (rndE xss s) (r + 1) := by
  obtain ⟨a1, a2, a3, _⟩ := stp_ok h hs ho
  have hD : 0 < s.D := by rw [hs.D]; exact Int.pow_pos (by omega)
  have hol : (rndE xss s).out.length = s.out.length := eo_len
  have hrow : ∀ i (hi : i < (rndE xss s).out.length), (rndE xss s).out[i] = ((s.out.getD i []).map fun a => 12 * a).set (hxi xss s i) (12 * at0 (s.out.getD i []) (hxi xss s i) + stp xss s) := fun i hi => by
    have hi' : i < s.out.length := by omega
    have := eor_done (xss := xss) (s := s) hi' (k := xss.length) (by rw [← hs.ol]; exact hi') (by rw [hs.ol]; exact Nat.le_refl _)
    rw [← this]
    unfold eor
    rw [List.getD_eq_getElem?_getD, List.getElem?_eq_getElem (by rw [eo_len]; exact hi')]
    rfl
  refine ⟨by show 12 * s.D = _; rw [hs.D, Int.pow_succ]; omega, by show (el xss s xss.length).length = _; rw [el_len]; exact hs.ll, by rw [hol]; exact hs.ol, fun i hi => ?_, fun x hx => ?_, fun i hi x hx => ?_, ?_⟩
  · rw [hrow i hi]
    have hi' : i < s.out.length := by omega
    simp [List.getD_eq_getElem?_getD, hi', hs.or i hi']
  · have := rnd_lf h hs ho hx
    have := hs.lb x hx
    show _ ∧ _ ≤ 12 * s.D
    omega
  · have hi' : i < s.out.length := by omega
    have hgi : s.out.getD i [] = s.out[i] := by simp [List.getD_eq_getElem?_getD, hi']
    obtain ⟨y, _, e1, e2, _⟩ := hx_ok h hs.ll ho (i := i) (by rw [← hs.ol]; exact hi')
    rw [hrow i hi, at0_setE (by rw [hgi, e1]; simp [hs.or i hi', e2]), hgi, at0_map12, e1]
    have b1 := hs.ob i hi' x hx
    have b2 := hs.ob i hi' y e2
    have e3 : ((r : Int) + 1) * (12 * s.D) = 12 * (r * s.D) + 12 * s.D := by rw [Int.add_mul, Int.mul_left_comm]; omega
    show 0 ≤ _ ∧ _ ≤ ((r + 1 : Nat) : Int) * (12 * s.D)
    push_cast
    rw [e3]
    split <;> omega
  · have := rnd_opn h hs ho
    have := hs.op
    omega
theorem es_ok (h : Hs xss) : ∀ r, ∃ k, k ≤ r ∧ EOk xss (es xss r) k
  | 0 => by
    have hz : ∀ x, x < xss.length → at0 (List.replicate xss.length (1 : Int)) x = 1 := fun x hx => by
      unfold at0; rw [List.getD_eq_getElem?_getD, List.getElem?_replicate, if_pos hx]; rfl
    refine ⟨0, Nat.le_refl _, rfl, by simp [es], by simp [es], fun i hi => by simp [es], fun x hx => ?_, fun i hi x hx => ?_, ?_⟩
    · show 0 ≤ at0 (List.replicate xss.length (1 : Int)) x ∧ at0 (List.replicate xss.length (1 : Int)) x ≤ 1
      rw [hz x hx]; omega
    · simp only [es, List.getElem_replicate]
      unfold at0; rw [List.getD_eq_getElem?_getD, List.getElem?_replicate, if_pos hx]; simp
    · have := selTo_len (p := fun x => decide (0 < at0 (es xss 0).lf x)) (k := (es xss 0).lf.length)
      have e : (es xss 0).lf.length = xss.length := by simp [es]
      rw [e] at this
      unfold opn; rw [e]; omega
  | r + 1 => by
    obtain ⟨k, hk, hs⟩ := es_ok h r
    by_cases ho : opn (es xss r) = []
    · rw [show es xss (r + 1) = es xss r from if_pos ho]
      exact ⟨k, by omega, hs⟩
    · rw [show es xss (r + 1) = rndE xss (es xss r) from if_neg ho]
      exact ⟨k + 1, by omega, rnd_ok2 h hs ho⟩
theorem es_stay {r : Nat} (h : opn (es xss r) = []) : ∀ n, r ≤ n → es xss n = es xss r
  | 0, hn => by obtain rfl : r = 0 := by omega
                rfl
  | n + 1, hn => by
    by_cases e : r = n + 1
    · rw [e]
    · have ih := es_stay h n (by omega)
      show (if opn (es xss n) = [] then es xss n else rndE xss (es xss n)) = _
      rw [ih, if_pos h]
theorem es_end (h : Hs xss) : opn (es xss xss.length) = [] := by
  have key : ∀ r, (opn (es xss r)).length + r ≤ xss.length ∨ opn (es xss r) = [] := by
    intro r
    induction r with
    | zero =>
      obtain ⟨k, hk, hs⟩ := es_ok h 0
      left; have := hs.op; omega
    | succ r ih =>
      by_cases ho : opn (es xss r) = []
      · right; rw [show es xss (r + 1) = es xss r from if_pos ho]; exact ho
      · left
        obtain ⟨k, hk, hs⟩ := es_ok h r
        have h1 := rnd_opn h hs ho
        have h2 := ih.resolve_right ho
        rw [show es xss (r + 1) = rndE xss (es xss r) from if_neg ho]; omega
  rcases key xss.length with h1 | h1
  · exact List.length_eq_zero_iff.1 (by omega)
  · exact h1
end
end Go.Proofs.YtkfmhpgnhkdebaaGreatDoor.Ax
namespace Go.Proofs.YtkfmhpgnhkdebaaGreatDoor.Ax
open Go Go.RowKit
set_option linter.unusedSimpArgs false
set_option linter.unusedVariables false
theorem hs_of {xss : List (Bool × List Int)} (h : housesB xss = true) (h5 : xss.length ≠ 5) : Hs xss := by
  simp only [housesB, Bool.and_eq_true, inR, decide_eq_true_eq] at h
  obtain ⟨⟨h1, h2⟩, h3⟩ := h
  refine ⟨by omega, by omega, fun i hi => ?_⟩
  have hr : rankB xss.length xss[i].2 = true := List.all_eq_true.1 h3 _ (List.getElem_mem hi)
  constructor
  · intro x hx
    obtain ⟨j, hj, rfl⟩ := List.getElem_of_mem hx
    exact (rank_facts hr).2.2.2.1 j hj
  · intro x hx
    obtain ⟨k, hk, e⟩ := rank_all hr (i := x) (by omega)
    rw [← e]; exact List.getElem_mem hk
def fl (D : Int) (l : List Int) : List (Int × Int) := l.map fun a => qd a D
def ft (D : Int) (t : List (List Int)) : List (Bool × List (Int × Int)) := t.map fun r => (false, fl D r)
theorem fl_len {D : Int} {l : List Int} : (fl D l).length = l.length := by simp [fl]
theorem ft_len {D : Int} {t : List (List Int)} : (ft D t).length = t.length := by simp [ft]
theorem fl_get {D : Int} {l : List Int} {x : Nat} (h : x < (fl D l).length) : (fl D l)[x] = qd (at0 l x) D := by
  have h' : x < l.length := by rw [fl_len] at h; exact h
  rw [at0_eq h']; simp [fl]
theorem ft_get {D : Int} {t : List (List Int)} {i : Nat} (h : i < (ft D t).length) : (ft D t)[i] = (false, fl D (t.getD i [])) := by
  have h' : i < t.length := by rw [ft_len] at h; exact h
  simp [ft, List.getD_eq_getElem?_getD, h']
theorem fl_set {D : Int} {l : List Int} {x : Nat} {a : Int} : ((fl D l).map frac).set x (.agg [.v (.int .i64 (qd a D).1), .v (.int .i64 (qd a D).2)]) = (fl D (l.set x a)).map frac := by
  have : AV.agg [.v (.int .i64 (qd a D).1), .v (.int .i64 (qd a D).2)] = frac (qd a D) := rfl
  rw [this, ← List.map_set]
  congr 1
  simp [fl, List.map_set]
theorem ft_set {D : Int} {t : List (List Int)} {i : Nat} {r : List Int} : ((ft D t).map frow).set i (.sl false 2 ((fl D r).map frac)) = (ft D (t.set i r)).map frow := by
  have : AV.sl false 2 ((fl D r).map frac) = frow (false, fl D r) := rfl
  rw [this, ← List.map_set]
  congr 1
  simp [ft, List.map_set]
theorem fl_up {D : Int} {l : List Int} : fl (12 * D) (l.map fun a => 12 * a) = fl D l := by
  unfold fl
  rw [List.map_map]
  exact List.map_congr_left fun a _ => qd_scale (by omega)
theorem ft_up {D : Int} {t : List (List Int)} : ft (12 * D) (t.map fun r => r.map fun a => 12 * a) = ft D t := by
  unfold ft
  rw [List.map_map]
  exact List.map_congr_left fun a _ => by simp only [Function.comp]; rw [fl_up]
theorem fl_one {n : Nat} : fl 1 (List.replicate n 1) = List.replicate n (1, 1) := by
  unfold fl
  rw [List.map_replicate]
  congr 1
theorem fl_zero {n : Nat} : fl 1 (List.replicate n 0) = List.replicate n (0, 1) := by
  unfold fl
  rw [List.map_replicate]
  congr 1
theorem ft_zero {n m : Nat} : ft 1 (List.replicate n (List.replicate m 0)) = List.replicate n (false, List.replicate m (0, 1)) := by
  unfold ft
  rw [List.map_replicate, fl_zero]
theorem qd_one {D : Int} (h : 0 < D) : qd D D = (1, 1) := by
  have := qd_scale (a := 1) (D := 1) h
  rw [Int.mul_one] at this
  rw [this]; rfl
section
variable {xss : List (Bool × List Int)} {s : Es}
def etr (xss : List (Bool × List Int)) (s : Es) (k : Nat) : List Int := (List.range xss.length).map fun x => cn xss s x k
theorem etr_len {k : Nat} : (etr xss s k).length = xss.length := by simp [etr]
theorem etr_zero : etr xss s 0 = List.replicate xss.length 0 := by
  apply List.ext_getElem
  · simp [etr]
  · intro i h1 h2; simp [etr, cn]
theorem etr_get {k x : Nat} (h : x < (etr xss s k).length) : (etr xss s k)[x] = cn xss s x k := by simp [etr]
theorem etr_set {k : Nat} (h : hxi xss s k < xss.length) : (etr xss s k).set (hxi xss s k) (cn xss s (hxi xss s k) k + 1) = etr xss s (k + 1) := by
  apply List.ext_getElem
  · simp [etr]
  · intro i h1 h2
    rw [List.getElem_set]
    split
    · rename_i e
      subst e
      simp [etr, cn]
    · rename_i e
      simp [etr, cn, e]
structure Rd (xss : List (Bool × List Int)) (s : Es) : Prop where
  D0 : 0 < s.D
  D1 : s.D ≤ 1728
  ll : s.lf.length = xss.length
  ol : s.out.length = xss.length
  or : ∀ i (hi : i < s.out.length), s.out[i].length = xss.length
  lb : ∀ x, 0 ≤ at0 s.lf x ∧ at0 s.lf x ≤ s.D
  ob : ∀ i, ∀ x, 0 ≤ at0 (s.out.getD i []) x ∧ at0 (s.out.getD i []) x ≤ 10000
  st0 : 0 < stp xss s
  st1 : stp xss s ≤ 12 * s.D
  el : ∀ k, k ≤ xss.length → ∀ x, 0 ≤ at0 (el xss s k) x ∧ at0 (Ax.el xss s k) x ≤ 12 * s.D
  hx : ∀ i (hi : i < xss.length), ∃ x : Nat, fstI (fun h => decide (0 < at0 s.lf h.toNat)) xss[i].2 = some (x : Int) ∧ hxi xss s i = x ∧ x < xss.length ∧ 0 < at0 s.lf x
  cn : ∀ i (hi : i < xss.length), stp xss s ≤ at0 (Ax.el xss s i) (hxi xss s i)
theorem at0_out {l : List Int} {x : Nat} (h : l.length ≤ x) : at0 l x = 0 := by
  unfold at0; rw [List.getD_eq_getElem?_getD, List.getElem?_eq_none h]; rfl
theorem rd_of (h : Hs xss) {r : Nat} (hs : EOk xss s r) (ho : opn s ≠ []) : Rd xss s := by
  have hn4 := h.n4
  have hn1 := h.n1
  obtain ⟨a1, a2, a3, _⟩ := stp_ok h hs ho
  have hpos : 0 < (opn s).length := List.length_pos_iff.2 ho
  have hop := hs.op
  have hD : s.D = 12 ^ r := hs.D
  have hr3 : r ≤ 3 := by omega
  have hD0 : 0 < s.D := by rw [hD]; exact Int.pow_pos (by omega)
  have hD1 : s.D ≤ 1728 ∧ (r : Int) * s.D ≤ 10000 := by
    rw [hD]
    rcases (show r = 0 ∨ r = 1 ∨ r = 2 ∨ r = 3 by omega) with rfl | rfl | rfl | rfl <;> decide
  have hlb : ∀ x, 0 ≤ at0 s.lf x ∧ at0 s.lf x ≤ s.D := fun x => by
    rcases Nat.lt_or_ge x xss.length with hx | hx
    · exact hs.lb x hx
    · rw [at0_out (by rw [hs.ll]; exact hx)]; omega
  have hel : ∀ k, k ≤ xss.length → ∀ x, 0 ≤ at0 (Ax.el xss s k) x ∧ at0 (Ax.el xss s k) x ≤ 12 * s.D := fun k hk x => by
    have e := el_at h hs.ll ho hk x
    have hb := (cn_bd (xss := xss) (s := s) (x := x) (k := k)).1
    have hm := cn_mono (xss := xss) (s := s) (x := x) hk
    have hn := Int.mul_nonneg hb (show 0 ≤ stp xss s by omega)
    have hl := hlb x
    rcases Nat.lt_or_ge x xss.length with hx | hx
    · rcases Int.lt_or_le 0 (Ax.cn xss s x xss.length) with hc | hc
      · have h3 := a3 x hx hc
        have h4 := Int.mul_le_mul_of_nonneg_right hm (show 0 ≤ stp xss s by omega)
        omega
      · have hz : Ax.cn xss s x k = 0 := by omega
        rw [hz, Int.zero_mul] at e
        omega
    · rw [at0_out (by rw [el_len, hs.ll]; exact hx)]; omega
  refine ⟨hD0, hD1.1, hs.ll, hs.ol, hs.or, hlb, fun i x => ?_, a1, a2, hel, fun i hi => hx_ok h hs.ll ho hi, fun i hi => ?_⟩
  · rcases Nat.lt_or_ge i s.out.length with hi | hi
    · have e : s.out.getD i [] = s.out[i] := by simp [List.getD_eq_getElem?_getD, hi]
      rw [e]
      rcases Nat.lt_or_ge x xss.length with hx | hx
      · have := hs.ob i hi x hx; omega
      · rw [at0_out (by rw [hs.or i hi]; exact hx)]; omega
    · have e : s.out.getD i [] = [] := by rw [List.getD_eq_getElem?_getD, List.getElem?_eq_none hi]; rfl
      rw [e]; simp [at0]
  · obtain ⟨x, _, e1, e2, _⟩ := hx_ok h hs.ll ho hi
    have h1 := hel (i + 1) hi x
    rw [Ax.el, at0_setE (by rw [el_len, hs.ll, e1]; exact e2), e1, if_pos rfl] at h1
    rw [e1]; omega
theorem rd_es (h : Hs xss) {r : Nat} (ho : opn (es xss r) ≠ []) : Rd xss (es xss r) := by
  obtain ⟨k, _, hs⟩ := es_ok h r
  exact rd_of h hs ho
theorem es_lens (h : Hs xss) (r : Nat) : 0 < (es xss r).D ∧ (es xss r).lf.length = xss.length ∧ (es xss r).out.length = xss.length := by
  obtain ⟨k, _, hs⟩ := es_ok h r
  exact ⟨by rw [hs.D]; exact Int.pow_pos (by omega), hs.ll, hs.ol⟩
theorem eo_row (hR : Rd xss s) {i : Nat} (hi : i < xss.length) : (eo xss s i).getD i [] = (s.out.getD i []).map fun a => 12 * a := by
  have := eor_stay (xss := xss) (s := s) (i := i) (by rw [hR.ol]; exact hi) (Nat.le_refl _)
  exact this
theorem eo_bd (hR : Rd xss s) {i : Nat} (hi : i < xss.length) {x : Nat} : 0 ≤ at0 ((eo xss s i).getD i []) x ∧ at0 ((eo xss s i).getD i []) x ≤ 120000 := by
  rw [eo_row hR hi, at0_map12]
  have := hR.ob i x
  omega
theorem eo_rlen (hR : Rd xss s) {i : Nat} (hi : i < xss.length) : ((eo xss s i).getD i []).length = xss.length := by
  rw [eo_row hR hi, List.length_map]
  have hi' : i < s.out.length := by rw [hR.ol]; exact hi
  have e : s.out.getD i [] = s.out[i] := by simp [List.getD_eq_getElem?_getD, hi']
  rw [e]; exact hR.or i hi'
def stTo (xss : List (Bool × List Int)) (s : Es) (k : Nat) : Int := (idx k).foldl (stpF xss s) (12 * s.D)
theorem stTo_succ {k : Nat} : stTo xss s (k + 1) = stpF xss s (stTo xss s k) (k : Int) := by
  unfold stTo idx
  rw [List.range_succ, List.map_append, List.foldl_append]; rfl
theorem stp_open (h : Hs xss) (hR : Rd xss s) : stp xss s = (opn s).foldl (stpF xss s) (12 * s.D) := by
  have key : ∀ k, k ≤ xss.length → (idx k).foldl (stpF xss s) (12 * s.D) = (selTo (fun x => decide (0 < at0 s.lf x)) k).foldl (stpF xss s) (12 * s.D) := by
    intro k
    induction k with
    | zero => intro _; rfl
    | succ k ih =>
      intro hk
      have ih := ih (by omega)
      have e : (idx (k + 1)).foldl (stpF xss s) (12 * s.D) = stpF xss s ((idx k).foldl (stpF xss s) (12 * s.D)) (k : Int) := stTo_succ
      rw [e]
      by_cases hp : 0 < at0 s.lf k
      · rw [selTo_yes (by simpa using hp), List.foldl_append, ih]; rfl
      · rw [selTo_no (by simpa using hp), ← ih]
        have hz : cn xss s k xss.length = 0 := by
          have key2 : ∀ j, j ≤ xss.length → cn xss s k j = 0 := by
            intro j
            induction j with
            | zero => intro _; rfl
            | succ j ihj =>
              intro hj
              obtain ⟨y, _, e1, _, e2⟩ := hR.hx j (by omega)
              rw [Ax.cn, ihj (by omega), if_neg (fun e => by rw [e1] at e; subst e; omega)]; rfl
          exact key2 _ (Nat.le_refl _)
        unfold stpF
        rw [if_neg (by rw [Int.toNat_natCast, hz]; omega)]
  have := key xss.length (Nat.le_refl _)
  unfold stp opn
  rw [this, hR.ll]
theorem tm_qd (h : Hs xss) (hR : Rd xss s) {x : Nat} (hc : 0 < cn xss s x xss.length) : qd (at0 s.lf x) (s.D * cn xss s x xss.length) = qd (tmx xss s x) (12 * s.D) ∧ 0 ≤ tmx xss s x ∧ tmx xss s x ≤ 12 * s.D := by
  have hb := (cn_bd (xss := xss) (s := s) (x := x) (k := xss.length)).2
  have hn4 := h.n4
  obtain ⟨t1, t2, t3⟩ := twelve (e := cn xss s x xss.length) (by omega) (by omega)
  have hl := hR.lb x
  refine ⟨?_, ?_, ?_⟩
  · have := qd_scale (a := at0 s.lf x) (D := s.D * cn xss s x xss.length) (c := 12 / cn xss s x xss.length) (by omega)
    rw [← this]
    have e : 12 / cn xss s x xss.length * (s.D * cn xss s x xss.length) = 12 * s.D := by
      rw [Int.mul_comm s.D, ← Int.mul_assoc, Int.mul_comm (12 / _), t1]
    rw [e]; rfl
  · exact Int.mul_nonneg (by omega) hl.1
  · exact Int.mul_le_mul t3 hl.2 hl.1 (by omega)
end
end Go.Proofs.YtkfmhpgnhkdebaaGreatDoor.Ax
namespace Go.Proofs.YtkfmhpgnhkdebaaGreatDoor.Ax
open Go Go.RowKit
set_option linter.unusedSimpArgs false
set_option linter.unusedVariables false
theorem fstI_same {p q : Int → Bool} : ∀ {l : List Int}, (∀ x ∈ l, p x = q x) → fstI p l = fstI q l
  | [], _ => rfl
  | a :: l, h => by
    have ih := fstI_same (l := l) fun x hx => h x (List.mem_cons_of_mem _ hx)
    unfold fstI at ih ⊢
    rw [List.find?_cons, List.find?_cons, h a (by simp), ih]
def scS (xss : List (Bool × List Int)) (i : Nat) (s : List Bool × List Int) : List Bool × List Int :=
  (s.1.set (fstB s.1 (xss.getD i (true, [])).2).toNat false, s.2.set i (fstB s.1 (xss.getD i (true, [])).2))
def scT (xss : List (Bool × List Int)) (ord : List Int) : Nat → List Bool × List Int
  | 0 => (List.replicate xss.length true, List.replicate xss.length 0)
  | k + 1 => scS xss (ord.getD k 0).toNat (scT xss ord k)
structure ScOk (xss : List (Bool × List Int)) (s : List Bool × List Int) (k : Nat) : Prop where
  bl : s.1.length = xss.length
  ol : s.2.length = xss.length
  cnt : s.1.count true + k = xss.length
def lq (bs : List Bool) : List Int := selTo (fun i => bs.getD i false) bs.length
theorem lq_mem {bs : List Bool} {x : Int} : x ∈ lq bs ↔ ∃ i : Nat, x = i ∧ i < bs.length ∧ bs.getD i false = true := by
  constructor
  · intro h
    obtain ⟨i, e, h1, h2⟩ := selTo_mem h
    exact ⟨i, e, h1, h2⟩
  · rintro ⟨i, rfl, h1, h2⟩
    simp only [lq, selTo, List.mem_map, List.mem_filter, List.mem_range]
    exact ⟨i, ⟨h1, h2⟩, rfl⟩
theorem lq_len {bs : List Bool} : (lq bs).length ≤ bs.length := selTo_len
theorem lq_all {n : Nat} : lq (List.replicate n true) = idx n := by
  unfold lq idx selTo
  rw [List.length_replicate, List.filter_eq_self.2]
  intro i hi
  have : i < n := by simpa using hi
  simp [List.getD_eq_getElem?_getD, this]
theorem lq_del {bs : List Bool} {a : Nat} (ha : a < bs.length) : (lq bs).filter (fun x => !decide (x = (a : Int))) = lq (bs.set a false) := by
  unfold lq selTo
  rw [List.filter_map, List.filter_filter, List.length_set]
  congr 1
  apply List.filter_congr
  intro i hi
  have hi' : i < bs.length := by simpa using hi
  by_cases e : i = a
  · subst e; simp [List.getD_eq_getElem?_getD, hi']
  · have e1 : ¬ ((i : Int) = (a : Int)) := by omega
    have e2 : ¬ a = i := fun h => e h.symm
    simp [List.getD_eq_getElem?_getD, List.getElem?_set_ne e2, e1]
theorem sc_fst {xss : List (Bool × List Int)} {s : List Bool × List Int} {k : Nat} (h : Hs xss) (hs : ScOk xss s k) (hk : k < xss.length) {i : Nat} (hi : i < xss.length) :
    ∃ a : Nat, a < xss.length ∧ fstI (fun h => decide (0 ≤ pos (lq s.1) h)) xss[i].2 = some (a : Int) ∧ fstB s.1 xss[i].2 = (a : Int) ∧ ∃ ha : a < s.1.length, s.1[a] = true := by
  obtain ⟨h1, h2⟩ := h.all i hi
  have hbl := hs.bl
  have hcnt := hs.cnt
  have hpos : 0 < s.1.count true := by omega
  obtain ⟨j, hj, e⟩ := List.getElem_of_mem (List.count_pos_iff.1 hpos)
  have hsome : (fstI (fun h => s.1.getD h.toNat false) xss[i].2).isSome = true := by
    unfold fstI
    rw [List.find?_isSome]
    exact ⟨(j : Int), h2 j (by omega), by simp [List.getD_eq_getElem?_getD, hj, e]⟩
  obtain ⟨z, hz⟩ := Option.isSome_iff_exists.1 hsome
  have hzm : z ∈ xss[i].2 := List.mem_of_find?_eq_some hz
  have hzp := List.find?_some hz
  have hzb := h1 z hzm
  have hzl : z.toNat < s.1.length := by omega
  have hcg : fstI (fun h => decide (0 ≤ pos (lq s.1) h)) xss[i].2 = fstI (fun h => s.1.getD h.toNat false) xss[i].2 := fstI_same fun x hx => by
    have hxb := h1 x hx
    cases hb : s.1.getD x.toNat false with
    | true => exact decide_eq_true (pos_iff.2 (lq_mem.2 ⟨x.toNat, by omega, by omega, hb⟩))
    | false =>
      refine decide_eq_false fun hp => ?_
      obtain ⟨y, e1, _, e3⟩ := lq_mem.1 (pos_iff.1 hp)
      have : x.toNat = y := by omega
      rw [this, e3] at hb
      exact Bool.noConfusion hb
  refine ⟨z.toNat, by omega, ?_, ?_, hzl, ?_⟩
  · rw [hcg, hz]; congr 1; omega
  · unfold fstB; rw [hz]; simp only [Option.getD_some]; omega
  · simpa [List.getD_eq_getElem?_getD, hzl] using hzp
theorem scS_ok {xss : List (Bool × List Int)} {s : List Bool × List Int} {k : Nat} (h : Hs xss) (hs : ScOk xss s k) (hk : k < xss.length) {i : Nat} (hi : i < xss.length) : ScOk xss (scS xss i s) (k + 1) := by
  obtain ⟨a, ha, _, e, hl, ht⟩ := sc_fst h hs hk hi
  have hg : xss.getD i (true, []) = xss[i] := by simp [List.getD_eq_getElem?_getD, hi]
  have hcnt := hs.cnt
  have hpos : 0 < s.1.count true := List.count_pos_iff.2 (by rw [← ht]; exact List.getElem_mem hl)
  refine ⟨by simp [scS, hs.bl], by simp [scS, hs.ol], ?_⟩
  simp only [scS, hg, e, Int.toNat_natCast]
  have : (s.1.set a false).count true = s.1.count true - 1 := by
    rw [List.count_set hl]
    simp [ht]
  omega
theorem scT_ok {xss : List (Bool × List Int)} {ord : List Int} (h : Hs xss) (ho : rankB xss.length ord = true) : ∀ {k : Nat}, k ≤ xss.length → ScOk xss (scT xss ord k) k
  | 0, _ => ⟨by simp [scT], by simp [scT], by simp [scT]⟩
  | k + 1, hk => by
    obtain ⟨_, _, hl, hb, _⟩ := rank_facts ho
    have hkl : k < ord.length := by omega
    have hx := hb k hkl
    have e : ord.getD k 0 = ord[k] := by simp [List.getD_eq_getElem?_getD, hkl]
    rw [scT, e]
    exact scS_ok h (scT_ok h ho (by omega)) (by omega) (by omega)
end Go.Proofs.YtkfmhpgnhkdebaaGreatDoor.Ax
