/-
  What a moving knife gives: everyone nearly a share. Plain Lean, no program in sight.
-/
import Derived.Test.YtakladjlnkojjaaCG6
import Derived.Test.YtakladjlnkojjaaCB2
import Derived.Test.YtakladjlnkojjaaCG5
namespace Go.Proofs.Ytakladjlnkojjaa.Ax
open Go Go.RowKit
set_option linter.unusedSimpArgs false
set_option linter.unusedVariables false

theorem woTo_bd {xss : List (Bool × List Int)} (h : rectB xss 3 10 100 = true) {i : Nat} (hi : i < xss.length) {l : List Int} {v : Int} : ∀ {m : Nat}, m ≤ wid xss → 0 ≤ woTo xss l i v m ∧ woTo xss l i v m ≤ 100 * m ∧ (∀ k, k < m → woTo xss l i v (k + 1) = if l.getD k 0 = v then woTo xss l i v k + ent xss i k else woTo xss l i v k)
  | 0, _ => ⟨by simp [woTo], by simp [woTo], fun k hk => by omega⟩
  | m + 1, hm => by
    obtain ⟨h1, h2, h3⟩ := woTo_bd h hi (l := l) (v := v) (m := m) (by omega)
    have h4 := ent_bd h hi (k := m) (by omega)
    have hw := rect_len h
    have e : woTo xss l i v (m + 1) = if l.getD m 0 = v then woTo xss l i v m + ent xss i m else woTo xss l i v m := by
      rw [woTo]
      split
      · exact wrapI (by omega) (by omega)
      · rfl
    refine ⟨by rw [e]; split <;> omega, by rw [e]; split <;> omega, fun k hk => ?_⟩
    by_cases ek : k = m
    · subst ek; exact e
    · exact h3 k (by omega)
theorem woTo_pre {xss : List (Bool × List Int)} {l l2 : List Int} {i : Nat} {v : Int} : ∀ {m : Nat}, m ≤ l.length → woTo xss (l ++ l2) i v m = woTo xss l i v m
  | 0, _ => rfl
  | m + 1, hm => by
    rw [woTo, woTo, woTo_pre (by omega)]
    have : (l ++ l2).getD m 0 = l.getD m 0 := by rw [List.getD_eq_getElem?_getD, List.getElem?_append_left (by omega), ← List.getD_eq_getElem?_getD]
    rw [this]
theorem woTo_rep {xss : List (Bool × List Int)} (h : rectB xss 3 10 100 = true) {i : Nat} (hi : i < xss.length) {l : List Int} {v w : Int} {c : Nat} : ∀ {j : Nat}, j ≤ c → l.length + j ≤ wid xss →
    woTo xss (l ++ List.replicate c w) i v (l.length + j) = woTo xss l i v l.length + (if w = v then pre xss i (l.length + j) - pre xss i l.length else 0)
  | 0, _, _ => by rw [Nat.add_zero, woTo_pre (Nat.le_refl _)]; split <;> omega
  | j + 1, hj, hw => by
    have ih := woTo_rep h hi (l := l) (v := v) (w := w) (c := c) (j := j) (by omega) (by omega)
    have h3 := (woTo_bd h hi (l := l ++ List.replicate c w) (v := v) (m := l.length + j + 1) (by omega)).2.2 (l.length + j) (by omega)
    have hg : (l ++ List.replicate c w).getD (l.length + j) 0 = w := by
      rw [List.getD_eq_getElem?_getD, List.getElem?_append_right (by omega)]
      simp [show j < c by omega]
    rw [show l.length + (j + 1) = l.length + j + 1 by omega, h3, hg, ih]
    split
    · rw [pre]; omega
    · rfl

/-- The greatest piece of a person. -/
def topE (xss : List (Bool × List Int)) (i : Nat) : Nat → Int
  | 0 => 0
  | k + 1 => max (topE xss i k) (ent xss i k)
theorem topE_ge {xss : List (Bool × List Int)} {i : Nat} : ∀ {m k : Nat}, k < m → ent xss i k ≤ topE xss i m
  | m + 1, k, h => by
    rw [topE]
    by_cases e : k = m
    · subst e; omega
    · have := topE_ge (xss := xss) (i := i) (m := m) (k := k) (by omega); omega
theorem topE_nn {xss : List (Bool × List Int)} {i : Nat} : ∀ {m : Nat}, 0 ≤ topE xss i m
  | 0 => by simp [topE]
  | m + 1 => by rw [topE]; have := topE_nn (xss := xss) (i := i) (m := m); omega

theorem shB_iff {xss : List (Bool × List Int)} (h : rectB xss 3 10 100 = true) {i : Nat} (hi : i < xss.length) {fr to : Nat} (h1 : fr ≤ to) (h2 : to ≤ wid xss) : shB xss fr to i = decide (pre xss i (wid xss) ≤ (pre xss i to - pre xss i fr) * xss.length) := by
  have hg : xss.getD i (true, []) = xss[i] := by simp [List.getD_eq_getElem?_getD, hi]
  have hr := (rect_row h hi).1
  have hl := rect_len h
  have hn := rect_pos h
  have e1 := sum_pre (b := 0) (c := 0) h hi (f := fr) (n := to - fr) (by omega)
  have e2 := sum_pre (b := 0) (c := 0) h hi (f := 0) (n := wid xss) (by omega)
  have e3 : (xss[i].2.drop 0).take (wid xss) = xss[i].2 := by rw [List.drop_zero]; exact List.take_of_length_le (by omega)
  rw [e3] at e2
  rw [show fr + (to - fr) = to by omega] at e1
  have b1 := pre_bd h hi (m := fr) (n := to - fr) (by omega)
  rw [show fr + (to - fr) = to by omega] at b1
  have p0 : pre xss i 0 = 0 := rfl
  rw [Nat.zero_add, p0, Int.sub_zero] at e2
  unfold shB
  rw [hg, e1, e2]
  have hm : IntKind.i64.wrap ((pre xss i to - pre xss i fr) * xss.length) = (pre xss i to - pre xss i fr) * xss.length := by
    have hn3 : xss.length = 1 ∨ xss.length = 2 ∨ xss.length = 3 := by omega
    have hb : pre xss i to - pre xss i fr ≤ 1000 := by
      have : ((to - fr : Nat) : Int) ≤ 10 := by omega
      omega
    rcases hn3 with e | e | e <;> rw [e] <;> exact wrapI (by omega) (by omega)
  rw [hm]

theorem shB_yes {xss : List (Bool × List Int)} (h : rectB xss 3 10 100 = true) {i : Nat} (hi : i < xss.length) {fr to : Nat} (h1 : fr ≤ to) (h2 : to ≤ wid xss) : shB xss fr to i = true ↔ pre xss i (wid xss) ≤ (pre xss i to - pre xss i fr) * xss.length := by
  rw [shB_iff h hi h1 h2, decide_eq_true_eq]
theorem shB_no {xss : List (Bool × List Int)} (h : rectB xss 3 10 100 = true) {i : Nat} (hi : i < xss.length) {fr to : Nat} (h1 : fr ≤ to) (h2 : to ≤ wid xss) : shB xss fr to i = false ↔ ¬ pre xss i (wid xss) ≤ (pre xss i to - pre xss i fr) * xss.length := by
  rw [shB_iff h hi h1 h2, decide_eq_false_iff_not]
theorem tk_yes {xss : List (Bool × List Int)} {dn : List Bool} {fr to a : Nat} {t : Nat} (h : 0 ≤ tkAt xss dn fr to) (ha : a < (lf dn).length) (e1 : tkAt xss dn fr to = a) (et : (lf dn)[a] = (t : Int)) : shB xss fr to t = true := by
  unfold tkAt at h e1
  obtain ⟨_, hx, hy⟩ := idxOf_lt h
  have e : (idxOf (fun i => shB xss fr to i.toNat) (lf dn)).toNat = a := by omega
  simp only [e] at hy
  rw [et, Int.toNat_natCast] at hy
  exact hy
theorem tk_no {xss : List (Bool × List Int)} {dn : List Bool} {fr to : Nat} {i : Nat} (hi : i < dn.length) (hd : dn.getD i true = false) (h : ¬ 0 ≤ tkAt xss dn fr to) : shB xss fr to i = false := by
  rcases hb : shB xss fr to i with _ | _
  · rfl
  · exfalso
    apply h
    unfold tkAt
    have hmem : (i : Int) ∈ lf dn := by
      unfold lf selTo
      exact List.mem_map.2 ⟨i, List.mem_filter.2 ⟨List.mem_range.2 hi, by simp only [hd]; rfl⟩, rfl⟩
    have := idxOf_nonneg (p := fun i => shB xss fr to i.toNat) (xs := lf dn)
    have ha : (lf dn).any (fun i => shB xss fr to i.toNat) = true := List.any_eq_true.2 ⟨_, hmem, by simpa using hb⟩
    rw [ha] at this
    exact of_decide_eq_true this

/-- A knife's state: who is done has a share; to the others not much is gone. -/
structure KnP (xss : List (Bool × List Int)) (k : Nat) (s : Kn) : Prop where
  dne : ∀ i, i < xss.length → s.dn.getD i true = true → pre xss i (wid xss) ≤ xss.length * woTo xss s.out i i s.fr
  few : ∀ i, i < xss.length → s.dn.getD i true = false → xss.length * pre xss i s.fr ≤ (s.dn.count true) * (pre xss i (wid xss) + xss.length * topE xss i (wid xss))
  yet : 2 ≤ (lf s.dn).length → ∀ i, i < xss.length → s.dn.getD i true = false → s.fr < k → xss.length * (pre xss i k - pre xss i s.fr) < pre xss i (wid xss)

theorem cnt_dn {dn : List Bool} : dn.count true + dn.count false = dn.length := by
  induction dn with
  | nil => rfl
  | cons b l ih => cases b <;> simp <;> omega

theorem ar1 {n : Nat} {S W A : Int} (hn : n = 1 ∨ n = 2 ∨ n = 3) (h : S ≤ A * n) (hW : 0 ≤ W) : S ≤ n * (W + A) := by
  rcases hn with rfl | rfl | rfl <;> omega
theorem ar2 {n : Nat} {R P E M S D : Int} (hn : n = 1 ∨ n = 2 ∨ n = 3) (h4 : n * R ≤ D) (h5 : n * (P - R) ≤ S) (h6 : E ≤ M) : n * (P + E) ≤ D + (S + n * M) := by
  rcases hn with rfl | rfl | rfl <;> omega
theorem ar3 {n : Nat} {S P R : Int} (hn : n = 1 ∨ n = 2 ∨ n = 3) (h : ¬ S ≤ (P - R) * n) : n * (P - R) < S := by
  rcases hn with rfl | rfl | rfl <;> omega

set_option maxHeartbeats 2000000 in
theorem kStep_p {xss : List (Bool × List Int)} (h : rectB xss 3 10 100 = true) {k : Nat} (hk : k + 1 ≤ wid xss) {s : Kn} (hs : KnOk xss k s) (hp : KnP xss k s) : KnP xss (k + 1) (kStep xss s (k + 1)) := by
  have hl := rect_len h
  have hn := rect_pos h
  have hfr := hs.fr
  have hout := hs.out
  have hdl := hs.len
  have hn3 : xss.length = 1 ∨ xss.length = 2 ∨ xss.length = 3 := by omega
  unfold kStep
  split
  · rename_i hc
    obtain ⟨a, ha, e1, e2⟩ := tkAt_get hc.2
    obtain ⟨t, et, htl, htd⟩ := lf_mem (List.getElem_mem ha)
    have htn : t < xss.length := by omega
    have hyes := (shB_yes h htn (fr := s.fr) (to := k + 1) (by omega) hk).1 (tk_yes hc.2 ha e1 et)
    rw [e2, et, Int.toNat_natCast]
    have hset : ∀ i, (s.dn.set t true).getD i true = if i = t then true else s.dn.getD i true := fun i => by
      by_cases e : i = t
      · subst e; rw [if_pos rfl]; simp [List.getD_eq_getElem?_getD, htl]
      · rw [if_neg e, List.getD_eq_getElem?_getD, List.getElem?_set_ne (fun h => e h.symm), ← List.getD_eq_getElem?_getD]
    have hcnt : (s.dn.set t true).count true = s.dn.count true + 1 := by
      have hf : s.dn[t] = false := by simpa [List.getD_eq_getElem?_getD, htl] using htd
      rw [List.count_set htl]
      simp [hf]
    have hwo : ∀ i, i < xss.length → woTo xss (s.out ++ List.replicate (k + 1 - s.fr) (t : Int)) i i (k + 1) = woTo xss s.out i i s.fr + (if (t : Int) = (i : Int) then pre xss i (k + 1) - pre xss i s.fr else 0) := fun i hi => by
      have := woTo_rep h hi (l := s.out) (v := (i : Int)) (w := (t : Int)) (c := k + 1 - s.fr) (j := k + 1 - s.fr) (Nat.le_refl _) (by omega)
      rw [hout, show s.fr + (k + 1 - s.fr) = k + 1 by omega] at this
      exact this
    refine ⟨fun i hi hd => ?_, fun i hi hd => ?_, fun _ i hi hd hlt => absurd hlt (Nat.lt_irrefl _)⟩
    · simp only at hd ⊢
      rw [hwo i hi]
      rw [hset i] at hd
      by_cases e : i = t
      · subst e
        rw [if_pos rfl]
        have b := (woTo_bd h hi (l := s.out) (v := (i : Int)) (m := s.fr) (by omega)).1
        exact ar1 hn3 hyes b
      · rw [if_neg e] at hd
        rw [if_neg (show ¬ (t : Int) = (i : Int) by omega), Int.add_zero]
        exact hp.dne i hi hd
    · simp only at hd ⊢
      rw [hset i] at hd
      by_cases e : i = t
      · rw [if_pos e] at hd; cases hd
      rw [if_neg e] at hd
      have h4 := hp.few i hi hd
      have h5 : xss.length * (pre xss i k - pre xss i s.fr) ≤ pre xss i (wid xss) := by
        by_cases e : s.fr < k
        · have := hp.yet hc.1 i hi hd e; omega
        · have : s.fr = k := by omega
          rw [this, Int.sub_self, Int.mul_zero]
          have := (pre_bd h hi (m := 0) (n := wid xss) (by omega)).1
          have p0 : pre xss i 0 = 0 := rfl
          rw [Nat.zero_add, p0] at this; omega
      have h6 := topE_ge (xss := xss) (i := i) (m := wid xss) (k := k) (by omega)
      have h7 : pre xss i (k + 1) = pre xss i k + ent xss i k := rfl
      rw [hcnt]
      have h8 : (((s.dn.count true + 1 : Nat) : Int)) * (pre xss i (wid xss) + xss.length * topE xss i (wid xss)) = (s.dn.count true : Int) * (pre xss i (wid xss) + xss.length * topE xss i (wid xss)) + (pre xss i (wid xss) + xss.length * topE xss i (wid xss)) := by
        rw [Int.natCast_add, Int.add_mul]; simp
      rw [h8, h7]
      exact ar2 hn3 h4 h5 h6
  · rename_i hc
    refine ⟨hp.dne, hp.few, fun h2 i hi hd hlt => ?_⟩
    have hno : ¬ 0 ≤ tkAt xss s.dn s.fr (k + 1) := fun h3 => hc ⟨h2, h3⟩
    exact ar3 hn3 ((shB_no h hi (fr := s.fr) (to := k + 1) (by omega) hk).1 (tk_no (by omega) hd hno))

theorem kSt_p {xss : List (Bool × List Int)} (h : rectB xss 3 10 100 = true) : ∀ k, k ≤ wid xss → KnP xss k (kSt xss k)
  | 0, _ => by
    refine ⟨fun i hi hd => ?_, fun i hi hd => ?_, fun _ i hi hd hlt => absurd hlt (Nat.lt_irrefl _)⟩
    · simp [kSt, List.getD_eq_getElem?_getD, hi] at hd
    · have : (List.replicate xss.length false).count true = 0 := by rw [List.count_eq_zero]; simp
      simp [kSt, pre, this]
  | k + 1, hk => kStep_p h hk (kSt_ok (rect_pos h) k) (kSt_p h k (by omega))

set_option maxHeartbeats 8000000 in
/-- Everyone gets nearly a share. -/
theorem knife_share {xss : List (Bool × List Int)} (h : rectB xss 3 10 100 = true) {i : Nat} (hi : i < xss.length) :
    pre xss i (wid xss) - xss.length * (xss.length - 1) * topE xss i (wid xss) ≤ xss.length * wo xss (knL xss) i i := by
  have hl := rect_len h
  have hn := rect_pos h
  have hs := kSt_ok hn (wid xss)
  have hp := kSt_p h (wid xss) (Nat.le_refl _)
  have hn3 : xss.length = 1 ∨ xss.length = 2 ∨ xss.length = 3 := by omega
  have hlen : (knL xss).length = wid xss := by
    rw [knL_yes h, List.length_append, List.length_replicate, hs.out]
    have := hs.fr; omega
  unfold wo
  rw [hlen, knL_yes h]
  generalize kSt xss (wid xss) = s at *
  have hfr := hs.fr
  have hout := hs.out
  have hrep := woTo_rep h hi (l := s.out) (v := (i : Int)) (w := (lf s.dn).getD 0 0) (c := wid xss - s.fr) (j := wid xss - s.fr) (Nat.le_refl _) (by omega)
  rw [hout, show s.fr + (wid xss - s.fr) = wid xss by omega] at hrep
  rw [hrep]
  have b1 := (woTo_bd h hi (l := s.out) (v := (i : Int)) (m := s.fr) (by omega)).1
  have b2 := pre_bd h hi (m := s.fr) (n := wid xss - s.fr) (by omega)
  rw [show s.fr + (wid xss - s.fr) = wid xss by omega] at b2
  have b3 := pre_bd h hi (m := 0) (n := s.fr) (by omega)
  have p0 : pre xss i 0 = 0 := rfl
  rw [Nat.zero_add, p0] at b3
  have b4 := topE_nn (xss := xss) (i := i) (m := wid xss)
  have hc := cnt_dn (dn := s.dn)
  have hlc := lf_count (dn := s.dn)
  have hsl := hs.len
  have hsm := hs.some
  cases hd : s.dn.getD i true with
  | true =>
    have h1 := hp.dne i hi hd
    generalize woTo xss s.out i i s.fr = W at *
    generalize topE xss i (wid xss) = M at *
    generalize pre xss i (wid xss) = S at *
    rcases hn3 with e | e | e <;> rw [e] at h1 ⊢ <;> split <;> omega
  | false =>
    have h1 := hp.few i hi hd
    have hd3 : s.dn.count true = 0 ∨ s.dn.count true = 1 ∨ s.dn.count true = 2 := by omega
    by_cases h2 : (lf s.dn).getD 0 0 = (i : Int)
    · rw [if_pos h2]
      generalize woTo xss s.out i i s.fr = W at *
      generalize topE xss i (wid xss) = M at *
      generalize pre xss i (wid xss) = S at *
      generalize pre xss i s.fr = R at *
      rcases hn3 with e | e | e <;> rw [e] at h1 ⊢ <;> rcases hd3 with e2 | e2 | e2 <;> rw [e2] at h1 <;> omega
    · rw [if_neg h2]
      have hmem : (i : Int) ∈ lf s.dn := by
        unfold lf selTo
        exact List.mem_map.2 ⟨i, List.mem_filter.2 ⟨List.mem_range.2 (by omega), by simp only [hd]; rfl⟩, rfl⟩
      have h2l : 2 ≤ (lf s.dn).length := by
        rcases Nat.lt_or_ge (lf s.dn).length 2 with h3 | h3
        · exfalso
          obtain ⟨j, hj, e⟩ := List.getElem_of_mem hmem
          have : j = 0 := by omega
          subst this
          exact h2 (by rw [List.getD_eq_getElem?_getD, List.getElem?_eq_getElem hj]; exact e)
        · exact h3
      have h3 : s.fr < wid xss → xss.length * (pre xss i (wid xss) - pre xss i s.fr) < pre xss i (wid xss) := hp.yet h2l i hi hd
      by_cases h4 : s.fr < wid xss
      · have h5 := h3 h4
        generalize woTo xss s.out i i s.fr = W at *
        generalize topE xss i (wid xss) = M at *
        generalize pre xss i (wid xss) = S at *
        generalize pre xss i s.fr = R at *
        rcases hn3 with e | e | e <;> rw [e] at h1 h5 ⊢ <;> rcases hd3 with e2 | e2 | e2 <;> rw [e2] at h1 <;> omega
      · have h5 : s.fr = wid xss := by omega
        rw [h5] at h1 b1 ⊢
        generalize woTo xss s.out i i (wid xss) = W at *
        generalize topE xss i (wid xss) = M at *
        generalize pre xss i (wid xss) = S at *
        rcases hn3 with e | e | e <;> rw [e] at h1 ⊢ <;> rcases hd3 with e2 | e2 | e2 <;> rw [e2] at h1 <;> omega

end Go.Proofs.Ytakladjlnkojjaa.Ax

/-
  Sperner's lemma on a triangle of points (i, j), i at most j. No condition.
-/
namespace Go.Proofs.Ytakladjlnkojjaa.Ax
set_option linter.unusedSimpArgs false

/-- The two labels are 1 and 2. -/
def spE (p q : Nat) : Bool := (p == 1 && q == 2) || (p == 2 && q == 1)
def spF (a b c : Nat) : Bool := (a != b) && (b != c) && (a != c)
theorem spE_tri : ∀ {a b c : Nat}, a < 3 → b < 3 → c < 3 → spF a b c = false → (spE a b ^^ spE b c) = spE a c := by
  intro a b c ha hb hc
  have : ∀ a ∈ List.range 3, ∀ b ∈ List.range 3, ∀ c ∈ List.range 3, spF a b c = false → (spE a b ^^ spE b c) = spE a c := by decide
  exact this a (by simpa using ha) b (by simpa using hb) c (by simpa using hc)
def spW (lab : Nat → Nat → Nat) (i : Nat) : Nat → Bool
  | 0 => false
  | d + 1 => spW lab i d ^^ spE (lab i (i + d)) (lab i (i + d + 1))

theorem sperner {N : Nat} {lab : Nat → Nat → Nat} (h3 : ∀ i j, lab i j < 3) (hL : ∀ j, j ≤ N → lab 0 j ≠ 0) (hM : ∀ i, i ≤ N → lab i i ≠ 1) (hR : ∀ i, i ≤ N → lab i N ≠ 2) :
    ∃ i j, j < N ∧ ((i < j ∧ spF (lab i j) (lab (i + 1) j) (lab (i + 1) (j + 1)) = true) ∨ (i ≤ j ∧ spF (lab i j) (lab i (j + 1)) (lab (i + 1) (j + 1)) = true)) := by
  apply Classical.byContradiction
  intro hno
  have t1 : ∀ i j, i < j → j < N → spF (lab i j) (lab (i + 1) j) (lab (i + 1) (j + 1)) = false := fun i j h1 h2 => by
    cases h : spF (lab i j) (lab (i + 1) j) (lab (i + 1) (j + 1)) with
    | false => rfl
    | true => exact (hno ⟨i, j, h2, .inl ⟨h1, h⟩⟩).elim
  have t2 : ∀ i j, i ≤ j → j < N → spF (lab i j) (lab i (j + 1)) (lab (i + 1) (j + 1)) = false := fun i j h1 h2 => by
    cases h : spF (lab i j) (lab i (j + 1)) (lab (i + 1) (j + 1)) with
    | false => rfl
    | true => exact (hno ⟨i, j, h2, .inr ⟨h1, h⟩⟩).elim
  have strip : ∀ i d, i + 1 + d ≤ N → spW lab i (d + 1) = (spW lab (i + 1) d ^^ spE (lab i (i + 1 + d)) (lab (i + 1) (i + 1 + d))) := by
    intro i d
    induction d with
    | zero =>
      intro h
      have h1 := spE_tri (h3 _ _) (h3 _ _) (h3 _ _) (t2 i i (Nat.le_refl _) (by omega))
      have h2 : spE (lab i i) (lab (i + 1) (i + 1)) = false := by
        have := hM i (by omega)
        have := hM (i + 1) (by omega)
        simp [spE]; omega
      rw [h2] at h1
      simp only [spW, Nat.add_zero, Bool.false_xor]
      have : ∀ x y : Bool, (x ^^ y) = false → x = y := by decide
      exact this _ _ h1
    | succ d ih =>
      intro h
      have h0 := ih (by omega)
      have h1 := spE_tri (h3 _ _) (h3 _ _) (h3 _ _) (t1 i (i + 1 + d) (by omega) (by omega))
      have h2 := spE_tri (h3 _ _) (h3 _ _) (h3 _ _) (t2 i (i + 1 + d) (by omega) (by omega))
      rw [spW, h0]
      rw [show i + (d + 1) = i + 1 + d by omega, show i + 1 + (d + 1) = i + 1 + d + 1 by omega, spW]
      rw [← h1] at h2
      have key : ∀ A B C D X : Bool, (C ^^ D) = (A ^^ B) → ((X ^^ A) ^^ C) = ((X ^^ B) ^^ D) := by decide
      exact key _ _ _ _ _ h2
  have cols : ∀ i, i ≤ N → spW lab 0 N = spW lab i (N - i) := by
    intro i
    induction i with
    | zero => intro _; rfl
    | succ i ih =>
      intro h
      rw [ih (by omega)]
      have := strip i (N - (i + 1)) (by omega)
      rw [show N - (i + 1) + 1 = N - i by omega, show i + 1 + (N - (i + 1)) = N by omega] at this
      rw [this]
      have h2 : spE (lab i N) (lab (i + 1) N) = false := by
        have := hR i (by omega)
        have := hR (i + 1) (by omega)
        simp [spE]; omega
      rw [h2, Bool.xor_false]
  have h0 : lab 0 0 = 2 := by have := h3 0 0; have := hL 0 (by omega); have := hM 0 (by omega); omega
  have hN : lab 0 N = 1 := by have := h3 0 N; have := hL N (by omega); have := hR 0 (by omega); omega
  have col0 : ∀ d, d ≤ N → spW lab 0 d = (lab 0 d == 1) := by
    intro d
    induction d with
    | zero => intro _; simp [spW, h0]
    | succ d ih =>
      intro h
      rw [spW, ih (by omega), Nat.zero_add]
      have a1 := h3 0 d
      have a2 := hL d (by omega)
      have b1 := h3 0 (d + 1)
      have b2 := hL (d + 1) (by omega)
      have a3 : lab 0 d = 1 ∨ lab 0 d = 2 := by omega
      have b3 : lab 0 (d + 1) = 1 ∨ lab 0 (d + 1) = 2 := by omega
      rcases a3 with e | e <;> rcases b3 with e' | e' <;> rw [e, e'] <;> decide
  have e1 := cols N (Nat.le_refl _)
  rw [col0 N (Nat.le_refl _), hN, Nat.sub_self] at e1
  simp [spW] at e1

end Go.Proofs.Ytakladjlnkojjaa.Ax

/-
  Cakes for three: from a full triangle of half-integral cuts to a division that is calm up to an outer piece. No condition.
-/
namespace Go.Proofs.Ytakladjlnkojjaa.Ax
set_option linter.unusedSimpArgs false

/-- The worth of the pieces from a on, below b, from sums from the front. -/
def blk (P : Nat → Int) (a b : Nat) : Int := if a < b then P b - P a else 0
/-- Somebody with so much does not envy these pieces without an outer one. -/
def fineB (P : Nat → Int) (own : Int) (a b : Nat) : Prop := b ≤ a ∨ blk P (a + 1) b ≤ own ∨ blk P a (b - 1) ≤ own
def up (P : Nat → Int) : Prop := ∀ i j, i ≤ j → P i ≤ P j
theorem blk_mono {P : Nat → Int} (hP : up P) {a b c d : Nat} (h1 : c ≤ a) (h2 : b ≤ d) : blk P a b ≤ blk P c d := by
  unfold blk
  have h3 := hP c a h1
  have h4 := hP b d h2
  split
  · rw [if_pos (by omega)]; omega
  · split
    · have := hP c d (by omega); omega
    · omega
/-- The blocks of the cuts c and d: somebody with block k is fine with all others. -/
def fine3 (P : Nat → Int) (m c d : Nat) : Nat → Prop
  | 0 => fineB P (blk P 0 c) c d ∧ fineB P (blk P 0 c) d m
  | 1 => fineB P (blk P c d) 0 c ∧ fineB P (blk P c d) d m
  | _ => fineB P (blk P d m) 0 c ∧ fineB P (blk P d m) c d
/-- The worth of block k at the vertex (i, j) of half-integral cuts. -/
def bv (P : Nat → Int) (m i j : Nat) : Nat → Int
  | 0 => blk P 0 (i / 2)
  | 1 => blk P ((i + 1) / 2) (j / 2)
  | _ => blk P ((j + 1) / 2) m
def pref (P : Nat → Int) (m i j k : Nat) : Prop := bv P m i j 0 ≤ bv P m i j k ∧ bv P m i j 1 ≤ bv P m i j k ∧ bv P m i j 2 ≤ bv P m i j k

theorem fine_first {P : Nat → Int} {own : Int} {a b : Nat} (h : blk P (a + 1) b ≤ own) : fineB P own a b := .inr (.inl h)
theorem fine_last {P : Nat → Int} {own : Int} {a b : Nat} (h : blk P a (b - 1) ≤ own) : fineB P own a b := .inr (.inr h)
/-- Fine, if some block that holds all but an outer piece is worth no more. -/
theorem fine_of {P : Nat → Int} (hP : up P) {own : Int} {a b c d : Nat} (hv : blk P c d ≤ own) (h : (c ≤ a + 1 ∧ b ≤ d) ∨ (c ≤ a ∧ b ≤ d + 1)) : fineB P own a b := by
  rcases h with h | h
  · exact fine_first (Int.le_trans (blk_mono hP (by omega) (by omega)) hv)
  · exact fine_last (Int.le_trans (blk_mono hP (by omega) (by omega)) hv)
/-- A person who likes block k best at vertex (i, j) is fine with it by the cuts c and d: his block is no smaller, the others hold at most an outer piece more. -/
theorem fine3_of {P : Nat → Int} (hP : up P) {m i j c d : Nat} : ∀ {k : Nat}, k < 3 → pref P m i j k →
    (k = 0 → i / 2 ≤ c ∧ (((i + 1) / 2 ≤ c + 1 ∧ d ≤ j / 2) ∨ ((i + 1) / 2 ≤ c ∧ d ≤ j / 2 + 1)) ∧ (j + 1) / 2 ≤ d + 1) →
    (k = 1 → c ≤ (i + 1) / 2 ∧ j / 2 ≤ d ∧ c ≤ i / 2 + 1 ∧ (j + 1) / 2 ≤ d + 1) →
    (k = 2 → d ≤ (j + 1) / 2 ∧ (((i + 1) / 2 ≤ c + 1 ∧ d ≤ j / 2) ∨ ((i + 1) / 2 ≤ c ∧ d ≤ j / 2 + 1)) ∧ c ≤ i / 2 + 1) → fine3 P m c d k
  | 0, _, h, h0, _, _ => by
    obtain ⟨a1, a2, a3⟩ := h0 rfl
    have hown : bv P m i j 0 ≤ blk P 0 c := blk_mono hP (by omega) a1
    exact ⟨fine_of hP (Int.le_trans h.2.1 hown) a2, fine_of hP (c := (j + 1) / 2) (d := m) (Int.le_trans h.2.2 hown) (.inl ⟨a3, by omega⟩)⟩
  | 1, _, h, _, h1, _ => by
    obtain ⟨a1, a2, a3, a4⟩ := h1 rfl
    have hown : bv P m i j 1 ≤ blk P c d := blk_mono hP a1 a2
    exact ⟨fine_of hP (c := 0) (d := i / 2) (Int.le_trans h.1 hown) (.inr ⟨by omega, a3⟩), fine_of hP (c := (j + 1) / 2) (d := m) (Int.le_trans h.2.2 hown) (.inl ⟨a4, by omega⟩)⟩
  | 2, _, h, _, _, h2 => by
    obtain ⟨a1, a2, a3⟩ := h2 rfl
    have hown : bv P m i j 2 ≤ blk P d m := blk_mono hP a1 (by omega)
    exact ⟨fine_of hP (c := 0) (d := i / 2) (Int.le_trans h.1 hown) (.inr ⟨by omega, a3⟩), fine_of hP (Int.le_trans h.2.1 hown) a2⟩
  | k + 3, hk, _, _, _, _ => by omega

/-- Three people who like three blocks at the vertices of a triangle: there are cuts by which all are fine. -/
theorem round3 {P : Nat → Nat → Int} (hP : ∀ p, up (P p)) {m i j : Nat} {w0 w1 w2 : Nat} {i0 j0 i1 j1 i2 j2 : Nat} (hj : j < 2 * m) (hij : i ≤ j)
    (hv : (i < j ∧ (∀ x y, (x, y) ∈ [(i0, j0), (i1, j1), (i2, j2)] → (x, y) ∈ [(i, j), (i + 1, j), (i + 1, j + 1)])) ∨ (∀ x y, (x, y) ∈ [(i0, j0), (i1, j1), (i2, j2)] → (x, y) ∈ [(i, j), (i, j + 1), (i + 1, j + 1)]))
    (hM : (i1 + 1) / 2 < j1 / 2)
    (h0 : pref (P w0) m i0 j0 0) (h1 : pref (P w1) m i1 j1 1) (h2 : pref (P w2) m i2 j2 2) :
    ∃ c d, c ≤ d ∧ d ≤ m ∧ fine3 (P w0) m c d 0 ∧ fine3 (P w1) m c d 1 ∧ fine3 (P w2) m c d 2 := by
  have key : ∀ c d, (i0 / 2 ≤ c ∧ (((i0 + 1) / 2 ≤ c + 1 ∧ d ≤ j0 / 2) ∨ ((i0 + 1) / 2 ≤ c ∧ d ≤ j0 / 2 + 1)) ∧ (j0 + 1) / 2 ≤ d + 1) →
      (c ≤ (i1 + 1) / 2 ∧ j1 / 2 ≤ d ∧ c ≤ i1 / 2 + 1 ∧ (j1 + 1) / 2 ≤ d + 1) →
      (d ≤ (j2 + 1) / 2 ∧ (((i2 + 1) / 2 ≤ c + 1 ∧ d ≤ j2 / 2) ∨ ((i2 + 1) / 2 ≤ c ∧ d ≤ j2 / 2 + 1)) ∧ c ≤ i2 / 2 + 1) → c ≤ d → d ≤ m →
      ∃ c d, c ≤ d ∧ d ≤ m ∧ fine3 (P w0) m c d 0 ∧ fine3 (P w1) m c d 1 ∧ fine3 (P w2) m c d 2 := fun c d a0 a1 a2 hcd hdm =>
    ⟨c, d, hcd, hdm, fine3_of (hP w0) (by omega) h0 (fun _ => a0) (by omega) (by omega), fine3_of (hP w1) (by omega) h1 (by omega) (fun _ => a1) (by omega), fine3_of (hP w2) (by omega) h2 (by omega) (by omega) (fun _ => a2)⟩
  have hp : i % 2 = 0 ∨ i % 2 = 1 := by omega
  have hq : j % 2 = 0 ∨ j % 2 = 1 := by omega
  rcases hv with ⟨hlt, hv⟩ | hv
  · have e0 : (i0 = i ∧ j0 = j) ∨ (i0 = i + 1 ∧ j0 = j) ∨ (i0 = i + 1 ∧ j0 = j + 1) := by simpa using hv i0 j0 (by simp)
    have e1 : (i1 = i ∧ j1 = j) ∨ (i1 = i + 1 ∧ j1 = j) ∨ (i1 = i + 1 ∧ j1 = j + 1) := by simpa using hv i1 j1 (by simp)
    have e2 : (i2 = i ∧ j2 = j) ∨ (i2 = i + 1 ∧ j2 = j) ∨ (i2 = i + 1 ∧ j2 = j + 1) := by simpa using hv i2 j2 (by simp)
    clear hv h0 h1 h2
    rcases hp with hp | hp <;> rcases hq with hq | hq
    · exact key (i / 2) (j / 2) (by omega) (by omega) (by omega) (by omega) (by omega)
    · rcases e1 with e1 | e1
      · exact key (i / 2) (j / 2) (by omega) (by omega) (by omega) (by omega) (by omega)
      · exact key (i / 2 + 1) (j / 2 + 1) (by omega) (by omega) (by omega) (by omega) (by omega)
    · exact key (i / 2 + 1) (j / 2) (by omega) (by omega) (by omega) (by omega) (by omega)
    · exact key (i / 2 + 1) (j / 2 + 1) (by omega) (by omega) (by omega) (by omega) (by omega)
  · have e0 : (i0 = i ∧ j0 = j) ∨ (i0 = i ∧ j0 = j + 1) ∨ (i0 = i + 1 ∧ j0 = j + 1) := by simpa using hv i0 j0 (by simp)
    have e1 : (i1 = i ∧ j1 = j) ∨ (i1 = i ∧ j1 = j + 1) ∨ (i1 = i + 1 ∧ j1 = j + 1) := by simpa using hv i1 j1 (by simp)
    have e2 : (i2 = i ∧ j2 = j) ∨ (i2 = i ∧ j2 = j + 1) ∨ (i2 = i + 1 ∧ j2 = j + 1) := by simpa using hv i2 j2 (by simp)
    clear hv h0 h1 h2
    rcases hp with hp | hp <;> rcases hq with hq | hq
    · exact key (i / 2) (j / 2) (by omega) (by omega) (by omega) (by omega) (by omega)
    · exact key (i / 2) (j / 2 + 1) (by omega) (by omega) (by omega) (by omega) (by omega)
    · exact key (i / 2 + 1) (j / 2) (by omega) (by omega) (by omega) (by omega) (by omega)
    · exact key (i / 2 + 1) (j / 2 + 1) (by omega) (by omega) (by omega) (by omega) (by omega)

end Go.Proofs.Ytakladjlnkojjaa.Ax

/-
  Cakes for three: some division is calm up to an outer piece (three pieces at least). No condition.
-/
namespace Go.Proofs.Ytakladjlnkojjaa.Ax
set_option linter.unusedSimpArgs false
set_option linter.unusedVariables false

/-- The block that the owner of a vertex likes best, never an empty one. -/
def labC (P : Nat → Nat → Int) (m i j : Nat) : Nat :=
  if 0 < i / 2 ∧ bv (P ((i + j) % 3)) m i j 1 ≤ bv (P ((i + j) % 3)) m i j 0 ∧ bv (P ((i + j) % 3)) m i j 2 ≤ bv (P ((i + j) % 3)) m i j 0 then 0
  else if (i + 1) / 2 < j / 2 ∧ bv (P ((i + j) % 3)) m i j 0 ≤ bv (P ((i + j) % 3)) m i j 1 ∧ bv (P ((i + j) % 3)) m i j 2 ≤ bv (P ((i + j) % 3)) m i j 1 then 1 else 2
theorem labC_lt {P : Nat → Nat → Int} {m i j : Nat} : labC P m i j < 3 := by unfold labC; split; omega; split <;> omega
theorem blk_nn {P : Nat → Int} (hP : up P) {a b : Nat} : 0 ≤ blk P a b := by
  unfold blk; split
  · have := hP a b (by omega); omega
  · omega
theorem blk_no {P : Nat → Int} {a b : Nat} (h : b ≤ a) : blk P a b = 0 := by unfold blk; rw [if_neg (by omega)]
theorem labC_ok {P : Nat → Nat → Int} (hP : ∀ p, up (P p)) {m i j : Nat} (hm : 3 ≤ m) (hij : i ≤ j) (hj : j ≤ 2 * m) :
    pref (P ((i + j) % 3)) m i j (labC P m i j) ∧ (labC P m i j = 1 → (i + 1) / 2 < j / 2) ∧ (labC P m i j = 2 → (j + 1) / 2 < m) := by
  unfold labC pref
  generalize hp : P ((i + j) % 3) = p
  have hup : up p := by rw [← hp]; exact hP _
  have n0 : 0 ≤ bv p m i j 0 := blk_nn hup
  have n1 : 0 ≤ bv p m i j 1 := blk_nn hup
  have n2 : 0 ≤ bv p m i j 2 := blk_nn hup
  have z0 : ¬ 0 < i / 2 → bv p m i j 0 = 0 := fun h => blk_no (by omega)
  have z1 : ¬ (i + 1) / 2 < j / 2 → bv p m i j 1 = 0 := fun h => blk_no (by omega)
  have z2 : ¬ (j + 1) / 2 < m → bv p m i j 2 = 0 := fun h => blk_no (by omega)
  have some : 0 < i / 2 ∨ (i + 1) / 2 < j / 2 ∨ (j + 1) / 2 < m := by omega
  by_cases c0 : 0 < i / 2 ∧ bv p m i j 1 ≤ bv p m i j 0 ∧ bv p m i j 2 ≤ bv p m i j 0
  · rw [if_pos c0]
    exact ⟨⟨Int.le_refl _, c0.2.1, c0.2.2⟩, by omega, by omega⟩
  · rw [if_neg c0]
    by_cases c1 : (i + 1) / 2 < j / 2 ∧ bv p m i j 0 ≤ bv p m i j 1 ∧ bv p m i j 2 ≤ bv p m i j 1
    · rw [if_pos c1]
      exact ⟨⟨c1.2.1, Int.le_refl _, c1.2.2⟩, fun _ => c1.1, by omega⟩
    · rw [if_neg c1]
      have key : bv p m i j 0 ≤ bv p m i j 2 ∧ bv p m i j 1 ≤ bv p m i j 2 ∧ (j + 1) / 2 < m := by omega
      exact ⟨⟨key.1, key.2.1, Int.le_refl _⟩, by omega, fun _ => key.2.2⟩

theorem spF_ne {a b c : Nat} (h : spF a b c = true) : a ≠ b ∧ b ≠ c ∧ a ≠ c := by simp [spF] at h; omega
/-- Three people, three pieces at least: cuts and an order of the people by which all are fine. -/
theorem calm3 {P : Nat → Nat → Int} (hP : ∀ p, up (P p)) {m : Nat} (hm : 3 ≤ m) : ∃ c d w0 w1 w2, c ≤ d ∧ d ≤ m ∧ w0 < 3 ∧ w1 < 3 ∧ w2 < 3 ∧ w0 ≠ w1 ∧ w1 ≠ w2 ∧ w0 ≠ w2 ∧ fine3 (P w0) m c d 0 ∧ fine3 (P w1) m c d 1 ∧ fine3 (P w2) m c d 2 := by
  obtain ⟨i, j, hj, h⟩ := sperner (N := 2 * m) (lab := labC P m) (fun _ _ => labC_lt) (fun j hj => by
      unfold labC; rw [if_neg (by omega)]; split <;> omega) (fun i hi => by
      have := (labC_ok hP hm (Nat.le_refl i) hi).2.1; omega) (fun i hi => by
      have := (labC_ok hP hm hi (Nat.le_refl _)).2.2; omega)
  have hij : i ≤ j := by omega
  have key : ∀ q : Fin 3 → Nat × Nat, (∀ x, (q x).1 ≤ (q x).2 ∧ (q x).2 ≤ 2 * m) → ((i < j ∧ ∀ x, q x ∈ [(i, j), (i + 1, j), (i + 1, j + 1)]) ∨ ∀ x, q x ∈ [(i, j), (i, j + 1), (i + 1, j + 1)]) →
      (∀ x y, x ≠ y → labC P m (q x).1 (q x).2 ≠ labC P m (q y).1 (q y).2) → (∀ x y, x ≠ y → ((q x).1 + (q x).2) % 3 ≠ ((q y).1 + (q y).2) % 3) →
      ∃ c d w0 w1 w2, c ≤ d ∧ d ≤ m ∧ w0 < 3 ∧ w1 < 3 ∧ w2 < 3 ∧ w0 ≠ w1 ∧ w1 ≠ w2 ∧ w0 ≠ w2 ∧ fine3 (P w0) m c d 0 ∧ fine3 (P w1) m c d 1 ∧ fine3 (P w2) m c d 2 := by
    intro q hq hv hl ho
    have hex : ∀ k, k < 3 → ∃ x, labC P m (q x).1 (q x).2 = k := by
      intro k hk
      have l0 := labC_lt (P := P) (m := m) (i := (q 0).1) (j := (q 0).2)
      have l1 := labC_lt (P := P) (m := m) (i := (q 1).1) (j := (q 1).2)
      have l2 := labC_lt (P := P) (m := m) (i := (q 2).1) (j := (q 2).2)
      have d1 := hl 0 1 (by decide)
      have d2 := hl 1 2 (by decide)
      have d3 := hl 0 2 (by decide)
      have : labC P m (q 0).1 (q 0).2 = k ∨ labC P m (q 1).1 (q 1).2 = k ∨ labC P m (q 2).1 (q 2).2 = k := by omega
      rcases this with e | e | e <;> exact ⟨_, e⟩
    obtain ⟨x0, e0⟩ := hex 0 (by omega)
    obtain ⟨x1, e1⟩ := hex 1 (by omega)
    obtain ⟨x2, e2⟩ := hex 2 (by omega)
    have n01 : x0 ≠ x1 := fun e => by subst e; omega
    have n12 : x1 ≠ x2 := fun e => by subst e; omega
    have n02 : x0 ≠ x2 := fun e => by subst e; omega
    have p0 := labC_ok hP hm (hq x0).1 (hq x0).2
    have p1 := labC_ok hP hm (hq x1).1 (hq x1).2
    have p2 := labC_ok hP hm (hq x2).1 (hq x2).2
    rw [e0] at p0
    rw [e1] at p1
    rw [e2] at p2
    have hv' : (i < j ∧ (∀ x y, (x, y) ∈ [((q x0).1, (q x0).2), ((q x1).1, (q x1).2), ((q x2).1, (q x2).2)] → (x, y) ∈ [(i, j), (i + 1, j), (i + 1, j + 1)])) ∨ (∀ x y, (x, y) ∈ [((q x0).1, (q x0).2), ((q x1).1, (q x1).2), ((q x2).1, (q x2).2)] → (x, y) ∈ [(i, j), (i, j + 1), (i + 1, j + 1)]) := by
      rcases hv with ⟨a, hv⟩ | hv
      · refine .inl ⟨a, fun x y hxy => ?_⟩
        simp only [List.mem_cons, List.not_mem_nil, or_false] at hxy
        rcases hxy with e | e | e <;> rw [e] <;> exact hv _
      · refine .inr fun x y hxy => ?_
        simp only [List.mem_cons, List.not_mem_nil, or_false] at hxy
        rcases hxy with e | e | e <;> rw [e] <;> exact hv _
    obtain ⟨c, d, h1, h2, h3⟩ := round3 hP hj hij hv' (p1.2.1 rfl) p0.1 p1.1 p2.1
    exact ⟨c, d, _, _, _, h1, h2, Nat.mod_lt _ (by omega), Nat.mod_lt _ (by omega), Nat.mod_lt _ (by omega), ho _ _ n01, ho _ _ n12, ho _ _ n02, h3⟩
  rcases h with ⟨hlt, h⟩ | ⟨_, h⟩
  · obtain ⟨f1, f2, f3⟩ := spF_ne h
    refine key (fun x => match x with | 0 => (i, j) | 1 => (i + 1, j) | 2 => (i + 1, j + 1)) ?_ (.inl ⟨hlt, ?_⟩) ?_ ?_
    · intro x; match x with | 0 => exact ⟨by simp only; omega, by simp only; omega⟩ | 1 => exact ⟨by simp only; omega, by simp only; omega⟩ | 2 => exact ⟨by simp only; omega, by simp only; omega⟩
    · intro x; match x with | 0 => simp | 1 => simp | 2 => simp
    · intro x y hxy; match x, y with | 0, 0 => exact (hxy rfl).elim | 1, 1 => exact (hxy rfl).elim | 2, 2 => exact (hxy rfl).elim | 0, 1 => exact f1 | 1, 0 => exact f1.symm | 1, 2 => exact f2 | 2, 1 => exact f2.symm | 0, 2 => exact f3 | 2, 0 => exact f3.symm
    · intro x y hxy; match x, y with | 0, 0 => exact (hxy rfl).elim | 1, 1 => exact (hxy rfl).elim | 2, 2 => exact (hxy rfl).elim | 0, 1 => simp only; omega | 1, 0 => simp only; omega | 1, 2 => simp only; omega | 2, 1 => simp only; omega | 0, 2 => simp only; omega | 2, 0 => simp only; omega
  · obtain ⟨f1, f2, f3⟩ := spF_ne h
    refine key (fun x => match x with | 0 => (i, j) | 1 => (i, j + 1) | 2 => (i + 1, j + 1)) ?_ (.inr ?_) ?_ ?_
    · intro x; match x with | 0 => exact ⟨by simp only; omega, by simp only; omega⟩ | 1 => exact ⟨by simp only; omega, by simp only; omega⟩ | 2 => exact ⟨by simp only; omega, by simp only; omega⟩
    · intro x; match x with | 0 => simp | 1 => simp | 2 => simp
    · intro x y hxy; match x, y with | 0, 0 => exact (hxy rfl).elim | 1, 1 => exact (hxy rfl).elim | 2, 2 => exact (hxy rfl).elim | 0, 1 => exact f1 | 1, 0 => exact f1.symm | 1, 2 => exact f2 | 2, 1 => exact f2.symm | 0, 2 => exact f3 | 2, 0 => exact f3.symm
    · intro x y hxy; match x, y with | 0, 0 => exact (hxy rfl).elim | 1, 1 => exact (hxy rfl).elim | 2, 2 => exact (hxy rfl).elim | 0, 1 => simp only; omega | 1, 0 => simp only; omega | 1, 2 => simp only; omega | 2, 1 => simp only; omega | 0, 2 => simp only; omega | 2, 0 => simp only; omega

end Go.Proofs.Ytakladjlnkojjaa.Ax

/-
  Cakes for two: some division is calm up to an outer piece. No condition.
-/
namespace Go.Proofs.Ytakladjlnkojjaa.Ax
set_option linter.unusedSimpArgs false
set_option linter.unusedVariables false

def fine2 (P : Nat → Int) (m c : Nat) : Nat → Prop
  | 0 => fineB P (blk P 0 c) c m
  | _ => fineB P (blk P c m) 0 c
/-- The owner of the vertex i likes the first block. -/
def likes (P : Nat → Nat → Int) (m i : Nat) : Prop := blk (P (i % 2)) ((i + 1) / 2) m ≤ blk (P (i % 2)) 0 (i / 2)
theorem calm2 {P : Nat → Nat → Int} (hP : ∀ p, up (P p)) {m : Nat} : ∃ c w0 w1, c ≤ m ∧ w0 < 2 ∧ w1 < 2 ∧ w0 ≠ w1 ∧ fine2 (P w0) m c 0 ∧ fine2 (P w1) m c 1 := by
  by_cases h0 : likes P m 0
  · -- nothing is worth anything to person 0
    refine ⟨m, 1, 0, Nat.le_refl _, by omega, by omega, by omega, .inl (Nat.le_refl _), ?_⟩
    have := blk_no (P := P 0) (a := 0) (b := 0) (Nat.le_refl _)
    unfold likes at h0
    simp only [Nat.zero_mod, Nat.zero_div, this, show (0 + 1) / 2 = 0 from rfl] at h0
    exact fine_of (hP 0) (c := 0) (d := m) (Int.le_trans h0 (blk_nn (hP 0))) (.inl ⟨by omega, by omega⟩)
  have hN : likes P m (2 * m) := by
    unfold likes
    rw [blk_no (a := (2 * m + 1) / 2) (by omega)]
    exact blk_nn (hP _)
  have : ∃ i, i < 2 * m ∧ ¬ likes P m i ∧ likes P m (i + 1) := by
    apply Classical.byContradiction
    intro hno
    have : ∀ i, i ≤ 2 * m → ¬ likes P m i := by
      intro i
      induction i with
      | zero => intro _; exact h0
      | succ i ih => intro hi hl; exact hno ⟨i, by omega, ih (by omega), hl⟩
    exact this _ (Nat.le_refl _) hN
  obtain ⟨i, hi, hn, hl⟩ := this
  unfold likes at hn hl
  have hn' : blk (P (i % 2)) 0 (i / 2) ≤ blk (P (i % 2)) ((i + 1) / 2) m := by omega
  refine ⟨(i + 1) / 2, (i + 1) % 2, i % 2, by omega, by omega, by omega, by omega, ?_, ?_⟩
  · refine fine_of (hP _) (c := (i + 1 + 1) / 2) (d := m) (Int.le_trans hl (blk_mono (hP _) (by omega) (by omega))) (.inl ⟨by omega, by omega⟩)
  · refine fine_of (hP _) (c := 0) (d := i / 2) hn' (.inr ⟨by omega, by omega⟩)

theorem fine_small {P : Nat → Int} (hP : up P) {a b c d : Nat} (h : b ≤ a + 1) : fineB P (blk P c d) a b := fine_first (by rw [blk_no h]; exact blk_nn hP)
/-- The same for any number of pieces. -/
theorem calm3' {P : Nat → Nat → Int} (hP : ∀ p, up (P p)) {m : Nat} : ∃ c d w0 w1 w2, c ≤ d ∧ d ≤ m ∧ w0 < 3 ∧ w1 < 3 ∧ w2 < 3 ∧ w0 ≠ w1 ∧ w1 ≠ w2 ∧ w0 ≠ w2 ∧ fine3 (P w0) m c d 0 ∧ fine3 (P w1) m c d 1 ∧ fine3 (P w2) m c d 2 := by
  by_cases hm : 3 ≤ m
  · exact calm3 hP hm
  · refine ⟨m - 1, m, 0, 1, 2, by omega, by omega, by omega, by omega, by omega, by omega, by omega, by omega, ?_, ?_, ?_⟩
    · exact ⟨fine_small (hP _) (by omega), fine_small (hP _) (by omega)⟩
    · exact ⟨fine_small (hP _) (by omega), fine_small (hP _) (by omega)⟩
    · exact ⟨fine_small (hP _) (by omega), fine_small (hP _) (by omega)⟩

end Go.Proofs.Ytakladjlnkojjaa.Ax

/-
  All divisions that begin with some pieces, in order; the reference's search for them. No condition.
-/
namespace Go.Proofs.Ytakladjlnkojjaa.Ax
open Go Go.RowKit
set_option linter.unusedSimpArgs false

/-- Person i may get the next piece. -/
def okD (l : List Int) (i : Nat) : Bool := decide (pos l (i : Int) < 0) || decide (at0 l (l.length - 1) = (i : Int))
def dvL (n : Nat) : Nat → List Int → List (Bool × List Int)
  | 0, l => [(false, l)]
  | r + 1, l => (List.range n).flatMap fun (i : Nat) => if okD l i = true then dvL n r (l ++ [(i : Int)]) else []
def dvTo (n r : Nat) (l : List Int) (k : Nat) : List (Bool × List Int) := (List.range k).flatMap fun (i : Nat) => if okD l i = true then dvL n r (l ++ [(i : Int)]) else []
theorem dvTo_zero {n r : Nat} {l : List Int} : dvTo n r l 0 = [] := rfl
theorem dvTo_succ {n r : Nat} {l : List Int} {k : Nat} : dvTo n r l (k + 1) = dvTo n r l k ++ (if okD l k = true then dvL n r (l ++ [(k : Int)]) else []) := by
  unfold dvTo; rw [List.range_succ, List.flatMap_append]; simp
theorem dvTo_all {n r : Nat} {l : List Int} : dvTo n r l n = dvL n (r + 1) l := rfl
theorem dvTo_le {n r : Nat} {l : List Int} : ∀ {k j : Nat}, k ≤ j → (dvTo n r l k).length ≤ (dvTo n r l j).length
  | k, 0, h => by rw [Nat.le_zero.1 h]; exact Nat.le_refl _
  | k, j + 1, h => by
    rcases Nat.lt_or_ge k (j + 1) with h' | h'
    · have := dvTo_le (n := n) (r := r) (l := l) (show k ≤ j by omega)
      rw [dvTo_succ, List.length_append]; omega
    · rw [show k = j + 1 by omega]; exact Nat.le_refl _
theorem dvL_pow {n : Nat} : ∀ {r : Nat} {l : List Int}, (dvL n r l).length ≤ n ^ r
  | 0, l => by simp [dvL]
  | r + 1, l => by
    have key : ∀ k, (dvTo n r l k).length ≤ n ^ r * k := by
      intro k
      induction k with
      | zero => simp [dvTo]
      | succ k ih =>
        rw [dvTo_succ, List.length_append, Nat.mul_succ]
        have : (if okD l k = true then dvL n r (l ++ [(k : Int)]) else []).length ≤ n ^ r := by
          split
          · exact dvL_pow
          · simp
        omega
    rw [← dvTo_all, Nat.pow_succ]
    exact key n
theorem dvL_small {n r : Nat} {l : List Int} (hn : n ≤ 3) (hr : r ≤ 10) : (dvL n r l).length ≤ 59049 := by
  refine Nat.le_trans dvL_pow ?_
  calc n ^ r ≤ 3 ^ r := Nat.pow_le_pow_left hn r
    _ ≤ 3 ^ 10 := Nat.pow_le_pow_right (by omega) hr
    _ = 59049 := by decide
theorem dvL_flag {n : Nat} : ∀ {r : Nat} {l : List Int}, ∀ x ∈ dvL n r l, x.1 = false ∧ x.2.length = l.length + r
  | 0, l, x, hx => by simp only [dvL, List.mem_singleton] at hx; subst hx; simp
  | r + 1, l, x, hx => by
    simp only [dvL, List.mem_flatMap, List.mem_range] at hx
    obtain ⟨i, _, hx⟩ := hx
    split at hx
    · have := dvL_flag (r := r) (l := l ++ [(i : Int)]) x hx
      simp only [List.length_append, List.length_cons, List.length_nil] at this
      exact ⟨this.1, by omega⟩
    · simp at hx
theorem okD_nil {i : Nat} : okD [] i = true := by simp [okD, pos, posFrom]
theorem last_snoc {l : List Int} {i : Int} : at0 (l ++ [i]) ((l ++ [i]).length - 1) = i := by simp [at0, List.getD_eq_getElem?_getD]
/-- There is a division: the last one goes on. -/
theorem dvL_ne {n : Nat} : ∀ {r : Nat} {l : List Int} {i : Nat}, i < n → (l = [] ∨ at0 l (l.length - 1) = (i : Int)) → dvL n r l ≠ []
  | 0, l, i, _, _ => by simp [dvL]
  | r + 1, l, i, hi, hl => by
    have hok : okD l i = true := by
      rcases hl with rfl | hl
      · exact okD_nil
      · simp [okD, hl]
    have := dvL_ne (n := n) (r := r) (l := l ++ [(i : Int)]) hi (.inr last_snoc)
    intro h
    simp only [dvL, List.flatMap_eq_nil_iff, List.mem_range] at h
    have := h i hi
    rw [if_pos hok] at this
    contradiction

/-- What the search is asked. -/
structure DvS (xss : List (Bool × List Int)) (o : List (Bool × List Int)) (l : List Int) (r : Nat) : Prop where
  cake : rectB xss 3 10 100 = true
  ln : l.length + r = wid xss
  few : o.length + (dvL xss.length r l).length ≤ 100000
noncomputable def mL26 (r : Nat) : List AV → Option (List Nat × AV) := mkV (fun p => DvS p.2.1 p.2.2.1 p.2.2.2 r) (fun (p : Bool × List (Bool × List Int) × List (Bool × List Int) × List Int) => [intss p.1 p.2.1, intss false p.2.2.1, ints false p.2.2.2]) [1, 2] (fun p => intss false (p.2.2.1 ++ dvL p.2.1.length r p.2.2.2))
theorem mL26_at (r : Nat) (nl : Bool) (xss o : List (Bool × List Int)) (l : List Int) (h : DvS xss o l r) : mL26 r [.sl nl 1 (xss.map row), .sl false 1 (o.map row), .sl false 1 (l.map int)] = some ([1, 2], .sl false 1 ((o ++ dvL xss.length r l).map row)) :=
  mkV_eq (enc := fun (p : Bool × List (Bool × List Int) × List (Bool × List Int) × List Int) => [intss p.1 p.2.1, intss false p.2.2.1, ints false p.2.2.2]) (f := fun p => intss false (p.2.2.1 ++ dvL p.2.1.length r p.2.2.2)) (x := (nl, xss, o, l)) (by rintro ⟨a, b, c, d⟩ ⟨e, f, g, i⟩ h; simp [intss, ints, map_row_inj, map_int_inj] at h; simp [h]) h

end Go.Proofs.Ytakladjlnkojjaa.Ax
