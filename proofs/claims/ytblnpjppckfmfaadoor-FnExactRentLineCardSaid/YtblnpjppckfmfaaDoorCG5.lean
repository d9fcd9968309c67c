/-
  A best choice of rooms leaves nothing to win along a cycle. No condition.
-/
import Derived.Test.YtblnpjppckfmfaaDoorCG4
namespace Go.Proofs.YtblnpjppckfmfaaDoor.Ax
open Go Go.RowKit
set_option linter.unusedSimpArgs false
set_option linter.unusedVariables false

def vR (xss : List (Bool × List Int)) (i x : Nat) : Int := (xss.getD i (true, [])).2.getD x 0
def oR (l : List Int) (i : Nat) : Nat := (l.getD i 0).toNat
theorem ent_vR {xss : List (Bool × List Int)} {i : Nat} {z : Int} : ent xss i z = vR xss i z.toNat := rfl
theorem vR_bd {xss : List (Bool × List Int)} (h : rentB xss = true) {i x : Nat} (hi : i < xss.length) (hx : x < xss.length) : 0 ≤ vR xss i x ∧ vR xss i x ≤ 1000 := by
  obtain ⟨_, _, h3⟩ := rent_facts h
  obtain ⟨h4, h5⟩ := h3 i hi
  have hx' : x < xss[i].2.length := by omega
  have e : vR xss i x = xss[i].2[x] := by unfold vR; simp [List.getD_eq_getElem?_getD, hi, hx']
  rw [e]; exact h5 _ (List.getElem_mem _)

def awS (xss : List (Bool × List Int)) (l : List Int) : Nat → Int
  | 0 => 0
  | k + 1 => awS xss l k + vR xss k (oR l k)
theorem awTo_sum {xss : List (Bool × List Int)} (h : rentB xss = true) {l : List Int} (hl : ∀ i, i < xss.length → 0 ≤ l.getD i 0 ∧ l.getD i 0 < xss.length) : ∀ {k : Nat}, k ≤ xss.length → awTo xss l k = awS xss l k ∧ 0 ≤ awS xss l k ∧ awS xss l k ≤ 1000 * k
  | 0, _ => by simp [awTo, awS]
  | k + 1, hk => by
    obtain ⟨h1, h2, h3⟩ := awTo_sum h hl (k := k) (by omega)
    have h4 := (rent_facts h).2.1
    have hk' : k < xss.length := hk
    have h5 := hl k hk'
    have h6 := vR_bd h (i := k) (x := oR l k) hk' (by unfold oR; omega)
    have e : ent xss k (l.getD k 0) = vR xss k (oR l k) := rfl
    have hw : IntKind.i64.wrap (awS xss l k + vR xss k (oR l k)) = awS xss l k + vR xss k (oR l k) := wrapI (by omega) (by omega)
    rw [awTo, if_pos h5.1, h1, e, hw, awS]
    push_cast
    omega

theorem bst_max {W : Nat → Int} : ∀ {k i : Nat} {n : Int}, bstTo W k = some (i, n) → i < k ∧ ∀ j, j < k → W j ≤ W i
  | 0, i, n, h => by simp [bstTo] at h
  | k + 1, i, n, h => by
    rw [bstTo_succ] at h
    cases hb : bstTo W k with
    | none =>
      rcases bstTo_facts (W := W) (k := k) with ⟨rfl, _⟩ | ⟨_, _, h0, _⟩
      · rw [hb] at h
        simp only [bstep, Option.some.injEq, Prod.mk.injEq] at h
        obtain ⟨rfl, _⟩ := h
        exact ⟨by omega, fun j hj => by obtain rfl : j = 0 := by omega
                                        exact Int.le_refl _⟩
      · rw [hb] at h0; simp at h0
    | some q =>
      obtain ⟨i0, n0⟩ := q
      obtain ⟨h1, h2⟩ := bst_max hb
      rw [hb] at h
      simp only [bstep] at h
      split at h
      · rename_i hlt
        simp only [Option.some.injEq, Prod.mk.injEq] at h
        obtain ⟨rfl, _⟩ := h
        refine ⟨by omega, fun j hj => ?_⟩
        by_cases e : j = k
        · subst e; exact Int.le_refl _
        · have := h2 j (by omega); omega
      · rename_i hnl
        have hi : i = i0 := by split at h <;> simp at h <;> exact h.1.symm
        subst hi
        refine ⟨by omega, fun j hj => ?_⟩
        by_cases e : j = k
        · subst e; omega
        · exact h2 j (by omega)

theorem bR_max {xss : List (Bool × List Int)} (h : rentB xss = true) : (∃ r ∈ allRk xss.length, (bR xss).1 = r.2) ∧ ∀ r ∈ allRk xss.length, wR xss r.2 ≤ wR xss (bR xss).1 := by
  obtain ⟨h1, h2, _⟩ := best_facts h
  rcases bstTo_facts (W := wK xss (allRk xss.length)) (k := (allRk xss.length).length) with ⟨h0, _⟩ | ⟨i, n, h0, _⟩
  · exact absurd h0 h2
  · obtain ⟨hi, hm⟩ := bst_max h0
    have hb : (bR xss).1 = (allRk xss.length)[i].2 := by
      unfold bR; rw [if_pos h, h0]; simp only [brOf]; exact nth_at hi
    refine ⟨⟨_, List.getElem_mem hi, hb⟩, fun r hr => ?_⟩
    obtain ⟨j, hj, rfl⟩ := List.getElem_of_mem hr
    have := hm j hj
    unfold wK at this
    rw [nth_at hj, nth_at hi] at this
    rw [hb]; exact this

/-- The rankings of m, bare. -/
def rkL (m : Nat) : List (List Int) := (l03L m m []).map (·.2)
def comp (s p : List Int) : List Int := p.map fun j => s.getD j.toNat 0
theorem comp_rk : ∀ m, 1 ≤ m → m ≤ 4 → ∀ s ∈ rkL m, ∀ p ∈ rkL m, comp s p ∈ rkL m := by
  intro m h1 h4
  rcases (show m = 1 ∨ m = 2 ∨ m = 3 ∨ m = 4 by omega) with rfl | rfl | rfl | rfl
  · decide +kernel
  · decide +kernel
  · decide +kernel
  · decide +kernel
theorem onto_rk : ∀ m, 1 ≤ m → m ≤ 4 → ∀ s ∈ rkL m, s.length = m ∧ (∀ i, i < m → 0 ≤ s.getD i 0 ∧ s.getD i 0 < m) ∧ ∀ x, x < m → ∃ i, i < m ∧ oR s i = x := by
  intro m h1 h4
  rcases (show m = 1 ∨ m = 2 ∨ m = 3 ∨ m = 4 by omega) with rfl | rfl | rfl | rfl
  · decide +kernel
  · decide +kernel
  · decide +kernel
  · decide +kernel

theorem rk_mem {xss : List (Bool × List Int)} (h : rentB xss = true) {s : List Int} : s ∈ rkL xss.length ↔ ∃ r ∈ allRk xss.length, s = r.2 := by
  obtain ⟨h1, h4, _⟩ := rent_facts h
  have : allRk xss.length = l03L xss.length xss.length [] := by
    unfold allRk
    rw [if_pos (by simp [inR]; omega), Int.toNat_natCast]
  rw [this]
  simp only [rkL, List.mem_map]
  exact ⟨fun ⟨r, h1, h2⟩ => ⟨r, h1, h2.symm⟩, fun ⟨r, h1, h2⟩ => ⟨r, h1, h2.symm⟩⟩

/-- No rearrangement of the rooms is worth more. -/
theorem best_perm {xss : List (Bool × List Int)} (h : rentB xss = true) {p : List Int} (hp : p ∈ rkL xss.length) : awS xss (comp (bR xss).1 p) xss.length ≤ awS xss (bR xss).1 xss.length := by
  obtain ⟨h1, h4, _⟩ := rent_facts h
  obtain ⟨⟨r, hr, hb⟩, hm⟩ := bR_max h
  have hs : (bR xss).1 ∈ rkL xss.length := (rk_mem h).2 ⟨r, hr, hb⟩
  have hc := comp_rk xss.length h1 h4 _ hs _ hp
  obtain ⟨r2, hr2, hc2⟩ := (rk_mem h).1 hc
  have := hm r2 hr2
  rw [← hc2] at this
  unfold wR at this
  have f1 := onto_rk xss.length h1 h4 _ hs
  have f2 := onto_rk xss.length h1 h4 _ hc
  rw [f1.1, f2.1, (awTo_sum h f1.2.1 (Nat.le_refl _)).1, (awTo_sum h f2.2.1 (Nat.le_refl _)).1] at this
  exact this

theorem cyc_one (V : Nat → Nat → Int) (O : Nat → Nat) (i j k l : Nat) (hi : i < 1) (hj : j < 1) (hk : k < 1) (hl : l < 1) :
    (V i (O j) - V i (O i)) + (V j (O k) - V j (O j)) + (V k (O l) - V k (O k)) + (V l (O i) - V l (O l)) ≤ 0 := by
  obtain rfl : i = 0 := by omega
  obtain rfl : j = 0 := by omega
  obtain rfl : k = 0 := by omega
  obtain rfl : l = 0 := by omega
  omega
theorem cyc_two (V : Nat → Nat → Int) (O : Nat → Nat) (h : V 0 (O 1) + V 1 (O 0) ≤ V 0 (O 0) + V 1 (O 1)) (i j k l : Nat) (hi : i < 2) (hj : j < 2) (hk : k < 2) (hl : l < 2) :
    (V i (O j) - V i (O i)) + (V j (O k) - V j (O j)) + (V k (O l) - V k (O k)) + (V l (O i) - V l (O l)) ≤ 0 := by
  rcases (show i = 0 ∨ i = 1 by omega) with rfl | rfl <;> rcases (show j = 0 ∨ j = 1 by omega) with rfl | rfl <;> rcases (show k = 0 ∨ k = 1 by omega) with rfl | rfl <;> rcases (show l = 0 ∨ l = 1 by omega) with rfl | rfl <;> omega

set_option maxHeartbeats 4000000 in
theorem cyc_three (V : Nat → Nat → Int) (O : Nat → Nat) (h0 : V 0 (O 0) + V 1 (O 2) + V 2 (O 1) ≤ V 0 (O 0) + V 1 (O 1) + V 2 (O 2)) (h1 : V 0 (O 1) + V 1 (O 0) + V 2 (O 2) ≤ V 0 (O 0) + V 1 (O 1) + V 2 (O 2)) (h2 : V 0 (O 1) + V 1 (O 2) + V 2 (O 0) ≤ V 0 (O 0) + V 1 (O 1) + V 2 (O 2)) (h3 : V 0 (O 2) + V 1 (O 0) + V 2 (O 1) ≤ V 0 (O 0) + V 1 (O 1) + V 2 (O 2)) (h4 : V 0 (O 2) + V 1 (O 1) + V 2 (O 0) ≤ V 0 (O 0) + V 1 (O 1) + V 2 (O 2)) (i j k l : Nat) (hi : i < 3) (hj : j < 3) (hk : k < 3) (hl : l < 3) :
    (V i (O j) - V i (O i)) + (V j (O k) - V j (O j)) + (V k (O l) - V k (O k)) + (V l (O i) - V l (O l)) ≤ 0 := by
  rcases (show i = 0 ∨ i = 1 ∨ i = 2 by omega) with rfl | rfl | rfl
  · rcases (show j = 0 ∨ j = 1 ∨ j = 2 by omega) with rfl | rfl | rfl
    · rcases (show k = 0 ∨ k = 1 ∨ k = 2 by omega) with rfl | rfl | rfl
      · rcases (show l = 0 ∨ l = 1 ∨ l = 2 by omega) with rfl | rfl | rfl
        · clear h0 h1 h2 h3 h4; omega
        · clear h0 h2 h3 h4; omega
        · clear h0 h1 h2 h3; omega
      · rcases (show l = 0 ∨ l = 1 ∨ l = 2 by omega) with rfl | rfl | rfl
        · clear h0 h2 h3 h4; omega
        · clear h0 h2 h3 h4; omega
        · clear h0 h1 h3 h4; omega
      · rcases (show l = 0 ∨ l = 1 ∨ l = 2 by omega) with rfl | rfl | rfl
        · clear h0 h1 h2 h3; omega
        · clear h0 h1 h2 h4; omega
        · clear h0 h1 h2 h3; omega
    · rcases (show k = 0 ∨ k = 1 ∨ k = 2 by omega) with rfl | rfl | rfl
      · rcases (show l = 0 ∨ l = 1 ∨ l = 2 by omega) with rfl | rfl | rfl
        · clear h0 h2 h3 h4; omega
        · clear h0 h2 h3 h4; omega
        · clear h0 h2 h3; omega
      · rcases (show l = 0 ∨ l = 1 ∨ l = 2 by omega) with rfl | rfl | rfl
        · clear h0 h2 h3 h4; omega
        · clear h0 h2 h3 h4; omega
        · clear h0 h1 h3 h4; omega
      · rcases (show l = 0 ∨ l = 1 ∨ l = 2 by omega) with rfl | rfl | rfl
        · clear h0 h1 h3 h4; omega
        · clear h2 h3 h4; omega
        · clear h0 h1 h3 h4; omega
    · rcases (show k = 0 ∨ k = 1 ∨ k = 2 by omega) with rfl | rfl | rfl
      · rcases (show l = 0 ∨ l = 1 ∨ l = 2 by omega) with rfl | rfl | rfl
        · clear h0 h1 h2 h3; omega
        · clear h0 h2 h3; omega
        · clear h0 h1 h2 h3; omega
      · rcases (show l = 0 ∨ l = 1 ∨ l = 2 by omega) with rfl | rfl | rfl
        · clear h0 h1 h2 h4; omega
        · clear h0 h1 h2 h4; omega
        · clear h1 h2 h3; omega
      · rcases (show l = 0 ∨ l = 1 ∨ l = 2 by omega) with rfl | rfl | rfl
        · clear h0 h1 h2 h3; omega
        · clear h0 h1 h2 h4; omega
        · clear h0 h1 h2 h3; omega
  · rcases (show j = 0 ∨ j = 1 ∨ j = 2 by omega) with rfl | rfl | rfl
    · rcases (show k = 0 ∨ k = 1 ∨ k = 2 by omega) with rfl | rfl | rfl
      · rcases (show l = 0 ∨ l = 1 ∨ l = 2 by omega) with rfl | rfl | rfl
        · clear h0 h2 h3 h4; omega
        · clear h0 h2 h3 h4; omega
        · clear h0 h1 h2 h4; omega
      · rcases (show l = 0 ∨ l = 1 ∨ l = 2 by omega) with rfl | rfl | rfl
        · clear h0 h2 h3 h4; omega
        · clear h0 h2 h3 h4; omega
        · clear h2 h3 h4; omega
      · rcases (show l = 0 ∨ l = 1 ∨ l = 2 by omega) with rfl | rfl | rfl
        · clear h0 h2 h3; omega
        · clear h0 h1 h2 h4; omega
        · clear h0 h1 h2 h4; omega
    · rcases (show k = 0 ∨ k = 1 ∨ k = 2 by omega) with rfl | rfl | rfl
      · rcases (show l = 0 ∨ l = 1 ∨ l = 2 by omega) with rfl | rfl | rfl
        · clear h0 h2 h3 h4; omega
        · clear h0 h2 h3 h4; omega
        · clear h0 h1 h2 h4; omega
      · rcases (show l = 0 ∨ l = 1 ∨ l = 2 by omega) with rfl | rfl | rfl
        · clear h0 h2 h3 h4; omega
        · clear h0 h1 h2 h3 h4; omega
        · clear h1 h2 h3 h4; omega
      · rcases (show l = 0 ∨ l = 1 ∨ l = 2 by omega) with rfl | rfl | rfl
        · clear h0 h1 h3 h4; omega
        · clear h1 h2 h3 h4; omega
        · clear h1 h2 h3 h4; omega
    · rcases (show k = 0 ∨ k = 1 ∨ k = 2 by omega) with rfl | rfl | rfl
      · rcases (show l = 0 ∨ l = 1 ∨ l = 2 by omega) with rfl | rfl | rfl
        · clear h0 h1 h3 h4; omega
        · clear h0 h1 h3 h4; omega
        · clear h1 h2 h3; omega
      · rcases (show l = 0 ∨ l = 1 ∨ l = 2 by omega) with rfl | rfl | rfl
        · clear h2 h3 h4; omega
        · clear h1 h2 h3 h4; omega
        · clear h1 h2 h3 h4; omega
      · rcases (show l = 0 ∨ l = 1 ∨ l = 2 by omega) with rfl | rfl | rfl
        · clear h0 h1 h3 h4; omega
        · clear h1 h2 h3 h4; omega
        · clear h1 h2 h3 h4; omega
  · rcases (show j = 0 ∨ j = 1 ∨ j = 2 by omega) with rfl | rfl | rfl
    · rcases (show k = 0 ∨ k = 1 ∨ k = 2 by omega) with rfl | rfl | rfl
      · rcases (show l = 0 ∨ l = 1 ∨ l = 2 by omega) with rfl | rfl | rfl
        · clear h0 h1 h2 h3; omega
        · clear h0 h1 h3 h4; omega
        · clear h0 h1 h2 h3; omega
      · rcases (show l = 0 ∨ l = 1 ∨ l = 2 by omega) with rfl | rfl | rfl
        · clear h0 h2 h3; omega
        · clear h0 h1 h3 h4; omega
        · clear h0 h1 h3 h4; omega
      · rcases (show l = 0 ∨ l = 1 ∨ l = 2 by omega) with rfl | rfl | rfl
        · clear h0 h1 h2 h3; omega
        · clear h1 h2 h3; omega
        · clear h0 h1 h2 h3; omega
    · rcases (show k = 0 ∨ k = 1 ∨ k = 2 by omega) with rfl | rfl | rfl
      · rcases (show l = 0 ∨ l = 1 ∨ l = 2 by omega) with rfl | rfl | rfl
        · clear h0 h1 h2 h4; omega
        · clear h2 h3 h4; omega
        · clear h0 h1 h2 h4; omega
      · rcases (show l = 0 ∨ l = 1 ∨ l = 2 by omega) with rfl | rfl | rfl
        · clear h0 h1 h2 h4; omega
        · clear h1 h2 h3 h4; omega
        · clear h1 h2 h3 h4; omega
      · rcases (show l = 0 ∨ l = 1 ∨ l = 2 by omega) with rfl | rfl | rfl
        · clear h1 h2 h3; omega
        · clear h1 h2 h3 h4; omega
        · clear h1 h2 h3 h4; omega
    · rcases (show k = 0 ∨ k = 1 ∨ k = 2 by omega) with rfl | rfl | rfl
      · rcases (show l = 0 ∨ l = 1 ∨ l = 2 by omega) with rfl | rfl | rfl
        · clear h0 h1 h2 h3; omega
        · clear h0 h1 h3 h4; omega
        · clear h0 h1 h2 h3; omega
      · rcases (show l = 0 ∨ l = 1 ∨ l = 2 by omega) with rfl | rfl | rfl
        · clear h0 h1 h2 h4; omega
        · clear h1 h2 h3 h4; omega
        · clear h1 h2 h3 h4; omega
      · rcases (show l = 0 ∨ l = 1 ∨ l = 2 by omega) with rfl | rfl | rfl
        · clear h0 h1 h2 h3; omega
        · clear h1 h2 h3 h4; omega
        · clear h0 h1 h2 h3 h4; omega

set_option maxHeartbeats 4000000 in
theorem cyc_four (V : Nat → Nat → Int) (O : Nat → Nat) (h0 : V 0 (O 0) + V 1 (O 1) + V 2 (O 3) + V 3 (O 2) ≤ V 0 (O 0) + V 1 (O 1) + V 2 (O 2) + V 3 (O 3)) (h1 : V 0 (O 0) + V 1 (O 2) + V 2 (O 1) + V 3 (O 3) ≤ V 0 (O 0) + V 1 (O 1) + V 2 (O 2) + V 3 (O 3)) (h2 : V 0 (O 0) + V 1 (O 2) + V 2 (O 3) + V 3 (O 1) ≤ V 0 (O 0) + V 1 (O 1) + V 2 (O 2) + V 3 (O 3)) (h3 : V 0 (O 0) + V 1 (O 3) + V 2 (O 1) + V 3 (O 2) ≤ V 0 (O 0) + V 1 (O 1) + V 2 (O 2) + V 3 (O 3)) (h4 : V 0 (O 0) + V 1 (O 3) + V 2 (O 2) + V 3 (O 1) ≤ V 0 (O 0) + V 1 (O 1) + V 2 (O 2) + V 3 (O 3)) (h5 : V 0 (O 1) + V 1 (O 0) + V 2 (O 2) + V 3 (O 3) ≤ V 0 (O 0) + V 1 (O 1) + V 2 (O 2) + V 3 (O 3)) (h6 : V 0 (O 1) + V 1 (O 0) + V 2 (O 3) + V 3 (O 2) ≤ V 0 (O 0) + V 1 (O 1) + V 2 (O 2) + V 3 (O 3)) (h7 : V 0 (O 1) + V 1 (O 2) + V 2 (O 0) + V 3 (O 3) ≤ V 0 (O 0) + V 1 (O 1) + V 2 (O 2) + V 3 (O 3)) (h8 : V 0 (O 1) + V 1 (O 2) + V 2 (O 3) + V 3 (O 0) ≤ V 0 (O 0) + V 1 (O 1) + V 2 (O 2) + V 3 (O 3)) (h9 : V 0 (O 1) + V 1 (O 3) + V 2 (O 0) + V 3 (O 2) ≤ V 0 (O 0) + V 1 (O 1) + V 2 (O 2) + V 3 (O 3)) (h10 : V 0 (O 1) + V 1 (O 3) + V 2 (O 2) + V 3 (O 0) ≤ V 0 (O 0) + V 1 (O 1) + V 2 (O 2) + V 3 (O 3)) (h11 : V 0 (O 2) + V 1 (O 0) + V 2 (O 1) + V 3 (O 3) ≤ V 0 (O 0) + V 1 (O 1) + V 2 (O 2) + V 3 (O 3)) (h12 : V 0 (O 2) + V 1 (O 0) + V 2 (O 3) + V 3 (O 1) ≤ V 0 (O 0) + V 1 (O 1) + V 2 (O 2) + V 3 (O 3)) (h13 : V 0 (O 2) + V 1 (O 1) + V 2 (O 0) + V 3 (O 3) ≤ V 0 (O 0) + V 1 (O 1) + V 2 (O 2) + V 3 (O 3)) (h14 : V 0 (O 2) + V 1 (O 1) + V 2 (O 3) + V 3 (O 0) ≤ V 0 (O 0) + V 1 (O 1) + V 2 (O 2) + V 3 (O 3)) (h15 : V 0 (O 2) + V 1 (O 3) + V 2 (O 0) + V 3 (O 1) ≤ V 0 (O 0) + V 1 (O 1) + V 2 (O 2) + V 3 (O 3)) (h16 : V 0 (O 2) + V 1 (O 3) + V 2 (O 1) + V 3 (O 0) ≤ V 0 (O 0) + V 1 (O 1) + V 2 (O 2) + V 3 (O 3)) (h17 : V 0 (O 3) + V 1 (O 0) + V 2 (O 1) + V 3 (O 2) ≤ V 0 (O 0) + V 1 (O 1) + V 2 (O 2) + V 3 (O 3)) (h18 : V 0 (O 3) + V 1 (O 0) + V 2 (O 2) + V 3 (O 1) ≤ V 0 (O 0) + V 1 (O 1) + V 2 (O 2) + V 3 (O 3)) (h19 : V 0 (O 3) + V 1 (O 1) + V 2 (O 0) + V 3 (O 2) ≤ V 0 (O 0) + V 1 (O 1) + V 2 (O 2) + V 3 (O 3)) (h20 : V 0 (O 3) + V 1 (O 1) + V 2 (O 2) + V 3 (O 0) ≤ V 0 (O 0) + V 1 (O 1) + V 2 (O 2) + V 3 (O 3)) (h21 : V 0 (O 3) + V 1 (O 2) + V 2 (O 0) + V 3 (O 1) ≤ V 0 (O 0) + V 1 (O 1) + V 2 (O 2) + V 3 (O 3)) (h22 : V 0 (O 3) + V 1 (O 2) + V 2 (O 1) + V 3 (O 0) ≤ V 0 (O 0) + V 1 (O 1) + V 2 (O 2) + V 3 (O 3)) (i j k l : Nat) (hi : i < 4) (hj : j < 4) (hk : k < 4) (hl : l < 4) :
    (V i (O j) - V i (O i)) + (V j (O k) - V j (O j)) + (V k (O l) - V k (O k)) + (V l (O i) - V l (O l)) ≤ 0 := by
  rcases (show i = 0 ∨ i = 1 ∨ i = 2 ∨ i = 3 by omega) with rfl | rfl | rfl | rfl
  · rcases (show j = 0 ∨ j = 1 ∨ j = 2 ∨ j = 3 by omega) with rfl | rfl | rfl | rfl
    · rcases (show k = 0 ∨ k = 1 ∨ k = 2 ∨ k = 3 by omega) with rfl | rfl | rfl | rfl
      · rcases (show l = 0 ∨ l = 1 ∨ l = 2 ∨ l = 3 by omega) with rfl | rfl | rfl | rfl
        · clear h0 h1 h2 h3 h4 h5 h6 h7 h8 h9 h10 h11 h12 h13 h14 h15 h16 h17 h18 h19 h20 h21 h22; omega
        · clear h0 h1 h2 h3 h4 h6 h7 h8 h9 h10 h11 h12 h13 h14 h15 h16 h17 h18 h19 h20 h21 h22; omega
        · clear h0 h1 h2 h3 h4 h5 h6 h7 h8 h9 h10 h11 h12 h14 h15 h16 h17 h18 h19 h20 h21 h22; omega
        · clear h0 h1 h2 h3 h4 h5 h6 h7 h8 h9 h10 h11 h12 h13 h14 h15 h16 h17 h18 h19 h21 h22; omega
      · rcases (show l = 0 ∨ l = 1 ∨ l = 2 ∨ l = 3 by omega) with rfl | rfl | rfl | rfl
        · clear h0 h1 h2 h3 h4 h6 h7 h8 h9 h10 h11 h12 h13 h14 h15 h16 h17 h18 h19 h20 h21 h22; omega
        · clear h0 h1 h2 h3 h4 h6 h7 h8 h9 h10 h11 h12 h13 h14 h15 h16 h17 h18 h19 h20 h21 h22; omega
        · clear h0 h1 h2 h3 h4 h5 h6 h8 h9 h10 h11 h12 h13 h14 h15 h16 h17 h18 h19 h20 h21 h22; omega
        · clear h0 h1 h2 h3 h4 h5 h6 h7 h8 h9 h11 h12 h13 h14 h15 h16 h17 h18 h19 h20 h21 h22; omega
      · rcases (show l = 0 ∨ l = 1 ∨ l = 2 ∨ l = 3 by omega) with rfl | rfl | rfl | rfl
        · clear h0 h1 h2 h3 h4 h5 h6 h7 h8 h9 h10 h11 h12 h14 h15 h16 h17 h18 h19 h20 h21 h22; omega
        · clear h0 h1 h2 h3 h4 h5 h6 h7 h8 h9 h10 h12 h13 h14 h15 h16 h17 h18 h19 h20 h21 h22; omega
        · clear h0 h1 h2 h3 h4 h5 h6 h7 h8 h9 h10 h11 h12 h14 h15 h16 h17 h18 h19 h20 h21 h22; omega
        · clear h0 h1 h2 h3 h4 h5 h6 h7 h8 h9 h10 h11 h12 h13 h15 h16 h17 h18 h19 h20 h21 h22; omega
      · rcases (show l = 0 ∨ l = 1 ∨ l = 2 ∨ l = 3 by omega) with rfl | rfl | rfl | rfl
        · clear h0 h1 h2 h3 h4 h5 h6 h7 h8 h9 h10 h11 h12 h13 h14 h15 h16 h17 h18 h19 h21 h22; omega
        · clear h0 h1 h2 h3 h4 h5 h6 h7 h8 h9 h10 h11 h12 h13 h14 h15 h16 h17 h19 h20 h21 h22; omega
        · clear h0 h1 h2 h3 h4 h5 h6 h7 h8 h9 h10 h11 h12 h13 h14 h15 h16 h17 h18 h20 h21 h22; omega
        · clear h0 h1 h2 h3 h4 h5 h6 h7 h8 h9 h10 h11 h12 h13 h14 h15 h16 h17 h18 h19 h21 h22; omega
    · rcases (show k = 0 ∨ k = 1 ∨ k = 2 ∨ k = 3 by omega) with rfl | rfl | rfl | rfl
      · rcases (show l = 0 ∨ l = 1 ∨ l = 2 ∨ l = 3 by omega) with rfl | rfl | rfl | rfl
        · clear h0 h1 h2 h3 h4 h6 h7 h8 h9 h10 h11 h12 h13 h14 h15 h16 h17 h18 h19 h20 h21 h22; omega
        · clear h0 h1 h2 h3 h4 h6 h7 h8 h9 h10 h11 h12 h13 h14 h15 h16 h17 h18 h19 h20 h21 h22; omega
        · clear h0 h1 h2 h3 h4 h6 h7 h8 h9 h10 h11 h12 h14 h15 h16 h17 h18 h19 h20 h21 h22; omega
        · clear h0 h1 h2 h3 h4 h6 h7 h8 h9 h10 h11 h12 h13 h14 h15 h16 h17 h18 h19 h21 h22; omega
      · rcases (show l = 0 ∨ l = 1 ∨ l = 2 ∨ l = 3 by omega) with rfl | rfl | rfl | rfl
        · clear h0 h1 h2 h3 h4 h6 h7 h8 h9 h10 h11 h12 h13 h14 h15 h16 h17 h18 h19 h20 h21 h22; omega
        · clear h0 h1 h2 h3 h4 h6 h7 h8 h9 h10 h11 h12 h13 h14 h15 h16 h17 h18 h19 h20 h21 h22; omega
        · clear h0 h1 h2 h3 h4 h5 h6 h8 h9 h10 h11 h12 h13 h14 h15 h16 h17 h18 h19 h20 h21 h22; omega
        · clear h0 h1 h2 h3 h4 h5 h6 h7 h8 h9 h11 h12 h13 h14 h15 h16 h17 h18 h19 h20 h21 h22; omega
      · rcases (show l = 0 ∨ l = 1 ∨ l = 2 ∨ l = 3 by omega) with rfl | rfl | rfl | rfl
        · clear h0 h1 h2 h3 h4 h5 h6 h8 h9 h10 h11 h12 h13 h14 h15 h16 h17 h18 h19 h20 h21 h22; omega
        · clear h0 h2 h3 h4 h6 h7 h8 h9 h10 h11 h12 h13 h14 h15 h16 h17 h18 h19 h20 h21 h22; omega
        · clear h0 h1 h2 h3 h4 h5 h6 h8 h9 h10 h11 h12 h13 h14 h15 h16 h17 h18 h19 h20 h21 h22; omega
        · clear h0 h1 h2 h3 h4 h5 h6 h7 h9 h10 h11 h12 h13 h14 h15 h16 h17 h18 h19 h20 h21 h22; omega
      · rcases (show l = 0 ∨ l = 1 ∨ l = 2 ∨ l = 3 by omega) with rfl | rfl | rfl | rfl
        · clear h0 h1 h2 h3 h4 h5 h6 h7 h8 h9 h11 h12 h13 h14 h15 h16 h17 h18 h19 h20 h21 h22; omega
        · clear h0 h1 h2 h3 h6 h7 h8 h9 h10 h11 h12 h13 h14 h15 h16 h17 h18 h19 h20 h21 h22; omega
        · clear h0 h1 h2 h3 h4 h5 h6 h7 h8 h10 h11 h12 h13 h14 h15 h16 h17 h18 h19 h20 h21 h22; omega
        · clear h0 h1 h2 h3 h4 h5 h6 h7 h8 h9 h11 h12 h13 h14 h15 h16 h17 h18 h19 h20 h21 h22; omega
    · rcases (show k = 0 ∨ k = 1 ∨ k = 2 ∨ k = 3 by omega) with rfl | rfl | rfl | rfl
      · rcases (show l = 0 ∨ l = 1 ∨ l = 2 ∨ l = 3 by omega) with rfl | rfl | rfl | rfl
        · clear h0 h1 h2 h3 h4 h5 h6 h7 h8 h9 h10 h11 h12 h14 h15 h16 h17 h18 h19 h20 h21 h22; omega
        · clear h0 h1 h2 h3 h4 h6 h7 h8 h9 h10 h11 h12 h14 h15 h16 h17 h18 h19 h20 h21 h22; omega
        · clear h0 h1 h2 h3 h4 h5 h6 h7 h8 h9 h10 h11 h12 h14 h15 h16 h17 h18 h19 h20 h21 h22; omega
        · clear h0 h1 h2 h3 h4 h5 h6 h7 h8 h9 h10 h11 h12 h14 h15 h16 h17 h18 h19 h21 h22; omega
      · rcases (show l = 0 ∨ l = 1 ∨ l = 2 ∨ l = 3 by omega) with rfl | rfl | rfl | rfl
        · clear h0 h1 h2 h3 h4 h5 h6 h7 h8 h9 h10 h12 h13 h14 h15 h16 h17 h18 h19 h20 h21 h22; omega
        · clear h0 h1 h2 h3 h4 h5 h6 h7 h8 h9 h10 h12 h13 h14 h15 h16 h17 h18 h19 h20 h21 h22; omega
        · clear h0 h2 h3 h4 h5 h6 h7 h8 h9 h10 h11 h12 h14 h15 h16 h17 h18 h19 h20 h21 h22; omega
        · clear h0 h1 h2 h3 h4 h5 h6 h7 h8 h9 h10 h11 h12 h13 h14 h15 h17 h18 h19 h20 h21 h22; omega
      · rcases (show l = 0 ∨ l = 1 ∨ l = 2 ∨ l = 3 by omega) with rfl | rfl | rfl | rfl
        · clear h0 h1 h2 h3 h4 h5 h6 h7 h8 h9 h10 h11 h12 h14 h15 h16 h17 h18 h19 h20 h21 h22; omega
        · clear h0 h1 h2 h3 h4 h5 h6 h7 h8 h9 h10 h12 h13 h14 h15 h16 h17 h18 h19 h20 h21 h22; omega
        · clear h0 h1 h2 h3 h4 h5 h6 h7 h8 h9 h10 h11 h12 h14 h15 h16 h17 h18 h19 h20 h21 h22; omega
        · clear h0 h1 h2 h3 h4 h5 h6 h7 h8 h9 h10 h11 h12 h13 h15 h16 h17 h18 h19 h20 h21 h22; omega
      · rcases (show l = 0 ∨ l = 1 ∨ l = 2 ∨ l = 3 by omega) with rfl | rfl | rfl | rfl
        · clear h0 h1 h2 h3 h4 h5 h6 h7 h8 h9 h10 h11 h12 h13 h15 h16 h17 h18 h19 h20 h21 h22; omega
        · clear h0 h1 h2 h3 h4 h5 h6 h7 h8 h9 h10 h11 h13 h14 h15 h16 h17 h18 h19 h20 h21 h22; omega
        · clear h1 h2 h3 h4 h5 h6 h7 h8 h9 h10 h11 h12 h14 h15 h16 h17 h18 h19 h20 h21 h22; omega
        · clear h0 h1 h2 h3 h4 h5 h6 h7 h8 h9 h10 h11 h12 h13 h15 h16 h17 h18 h19 h20 h21 h22; omega
    · rcases (show k = 0 ∨ k = 1 ∨ k = 2 ∨ k = 3 by omega) with rfl | rfl | rfl | rfl
      · rcases (show l = 0 ∨ l = 1 ∨ l = 2 ∨ l = 3 by omega) with rfl | rfl | rfl | rfl
        · clear h0 h1 h2 h3 h4 h5 h6 h7 h8 h9 h10 h11 h12 h13 h14 h15 h16 h17 h18 h19 h21 h22; omega
        · clear h0 h1 h2 h3 h4 h6 h7 h8 h9 h10 h11 h12 h13 h14 h15 h16 h17 h18 h19 h21 h22; omega
        · clear h0 h1 h2 h3 h4 h5 h6 h7 h8 h9 h10 h11 h12 h14 h15 h16 h17 h18 h19 h21 h22; omega
        · clear h0 h1 h2 h3 h4 h5 h6 h7 h8 h9 h10 h11 h12 h13 h14 h15 h16 h17 h18 h19 h21 h22; omega
      · rcases (show l = 0 ∨ l = 1 ∨ l = 2 ∨ l = 3 by omega) with rfl | rfl | rfl | rfl
        · clear h0 h1 h2 h3 h4 h5 h6 h7 h8 h9 h10 h11 h12 h13 h14 h15 h16 h17 h19 h20 h21 h22; omega
        · clear h0 h1 h2 h3 h4 h5 h6 h7 h8 h9 h10 h11 h12 h13 h14 h15 h16 h17 h19 h20 h21 h22; omega
        · clear h0 h1 h2 h3 h4 h5 h6 h7 h8 h9 h10 h11 h12 h13 h14 h15 h16 h17 h18 h19 h20 h22; omega
        · clear h0 h1 h2 h3 h5 h6 h7 h8 h9 h10 h11 h12 h13 h14 h15 h16 h17 h18 h19 h21 h22; omega
      · rcases (show l = 0 ∨ l = 1 ∨ l = 2 ∨ l = 3 by omega) with rfl | rfl | rfl | rfl
        · clear h0 h1 h2 h3 h4 h5 h6 h7 h8 h9 h10 h11 h12 h13 h14 h15 h16 h17 h18 h20 h21 h22; omega
        · clear h0 h1 h2 h3 h4 h5 h6 h7 h8 h9 h10 h11 h12 h13 h14 h15 h16 h18 h19 h20 h21 h22; omega
        · clear h0 h1 h2 h3 h4 h5 h6 h7 h8 h9 h10 h11 h12 h13 h14 h15 h16 h17 h18 h20 h21 h22; omega
        · clear h1 h2 h3 h4 h5 h6 h7 h8 h9 h10 h11 h12 h13 h14 h15 h16 h17 h18 h19 h21 h22; omega
      · rcases (show l = 0 ∨ l = 1 ∨ l = 2 ∨ l = 3 by omega) with rfl | rfl | rfl | rfl
        · clear h0 h1 h2 h3 h4 h5 h6 h7 h8 h9 h10 h11 h12 h13 h14 h15 h16 h17 h18 h19 h21 h22; omega
        · clear h0 h1 h2 h3 h4 h5 h6 h7 h8 h9 h10 h11 h12 h13 h14 h15 h16 h17 h19 h20 h21 h22; omega
        · clear h0 h1 h2 h3 h4 h5 h6 h7 h8 h9 h10 h11 h12 h13 h14 h15 h16 h17 h18 h20 h21 h22; omega
        · clear h0 h1 h2 h3 h4 h5 h6 h7 h8 h9 h10 h11 h12 h13 h14 h15 h16 h17 h18 h19 h21 h22; omega
  · rcases (show j = 0 ∨ j = 1 ∨ j = 2 ∨ j = 3 by omega) with rfl | rfl | rfl | rfl
    · rcases (show k = 0 ∨ k = 1 ∨ k = 2 ∨ k = 3 by omega) with rfl | rfl | rfl | rfl
      · rcases (show l = 0 ∨ l = 1 ∨ l = 2 ∨ l = 3 by omega) with rfl | rfl | rfl | rfl
        · clear h0 h1 h2 h3 h4 h6 h7 h8 h9 h10 h11 h12 h13 h14 h15 h16 h17 h18 h19 h20 h21 h22; omega
        · clear h0 h1 h2 h3 h4 h6 h7 h8 h9 h10 h11 h12 h13 h14 h15 h16 h17 h18 h19 h20 h21 h22; omega
        · clear h0 h1 h2 h3 h4 h5 h6 h7 h8 h9 h10 h12 h13 h14 h15 h16 h17 h18 h19 h20 h21 h22; omega
        · clear h0 h1 h2 h3 h4 h5 h6 h7 h8 h9 h10 h11 h12 h13 h14 h15 h16 h17 h19 h20 h21 h22; omega
      · rcases (show l = 0 ∨ l = 1 ∨ l = 2 ∨ l = 3 by omega) with rfl | rfl | rfl | rfl
        · clear h0 h1 h2 h3 h4 h6 h7 h8 h9 h10 h11 h12 h13 h14 h15 h16 h17 h18 h19 h20 h21 h22; omega
        · clear h0 h1 h2 h3 h4 h6 h7 h8 h9 h10 h11 h12 h13 h14 h15 h16 h17 h18 h19 h20 h21 h22; omega
        · clear h0 h2 h3 h4 h6 h7 h8 h9 h10 h11 h12 h13 h14 h15 h16 h17 h18 h19 h20 h21 h22; omega
        · clear h0 h1 h2 h3 h6 h7 h8 h9 h10 h11 h12 h13 h14 h15 h16 h17 h18 h19 h20 h21 h22; omega
      · rcases (show l = 0 ∨ l = 1 ∨ l = 2 ∨ l = 3 by omega) with rfl | rfl | rfl | rfl
        · clear h0 h1 h2 h3 h4 h6 h7 h8 h9 h10 h11 h12 h14 h15 h16 h17 h18 h19 h20 h21 h22; omega
        · clear h0 h1 h2 h3 h4 h5 h6 h7 h8 h9 h10 h12 h13 h14 h15 h16 h17 h18 h19 h20 h21 h22; omega
        · clear h0 h1 h2 h3 h4 h5 h6 h7 h8 h9 h10 h12 h13 h14 h15 h16 h17 h18 h19 h20 h21 h22; omega
        · clear h0 h1 h2 h3 h4 h5 h6 h7 h8 h9 h10 h11 h13 h14 h15 h16 h17 h18 h19 h20 h21 h22; omega
      · rcases (show l = 0 ∨ l = 1 ∨ l = 2 ∨ l = 3 by omega) with rfl | rfl | rfl | rfl
        · clear h0 h1 h2 h3 h4 h6 h7 h8 h9 h10 h11 h12 h13 h14 h15 h16 h17 h18 h19 h21 h22; omega
        · clear h0 h1 h2 h3 h4 h5 h6 h7 h8 h9 h10 h11 h12 h13 h14 h15 h16 h17 h19 h20 h21 h22; omega
        · clear h0 h1 h2 h3 h4 h5 h6 h7 h8 h9 h10 h11 h12 h13 h14 h15 h16 h18 h19 h20 h21 h22; omega
        · clear h0 h1 h2 h3 h4 h5 h6 h7 h8 h9 h10 h11 h12 h13 h14 h15 h16 h17 h19 h20 h21 h22; omega
    · rcases (show k = 0 ∨ k = 1 ∨ k = 2 ∨ k = 3 by omega) with rfl | rfl | rfl | rfl
      · rcases (show l = 0 ∨ l = 1 ∨ l = 2 ∨ l = 3 by omega) with rfl | rfl | rfl | rfl
        · clear h0 h1 h2 h3 h4 h6 h7 h8 h9 h10 h11 h12 h13 h14 h15 h16 h17 h18 h19 h20 h21 h22; omega
        · clear h0 h1 h2 h3 h4 h6 h7 h8 h9 h10 h11 h12 h13 h14 h15 h16 h17 h18 h19 h20 h21 h22; omega
        · clear h0 h1 h2 h3 h4 h5 h6 h7 h8 h9 h10 h12 h13 h14 h15 h16 h17 h18 h19 h20 h21 h22; omega
        · clear h0 h1 h2 h3 h4 h5 h6 h7 h8 h9 h10 h11 h12 h13 h14 h15 h16 h17 h19 h20 h21 h22; omega
      · rcases (show l = 0 ∨ l = 1 ∨ l = 2 ∨ l = 3 by omega) with rfl | rfl | rfl | rfl
        · clear h0 h1 h2 h3 h4 h6 h7 h8 h9 h10 h11 h12 h13 h14 h15 h16 h17 h18 h19 h20 h21 h22; omega
        · clear h0 h1 h2 h3 h4 h5 h6 h7 h8 h9 h10 h11 h12 h13 h14 h15 h16 h17 h18 h19 h20 h21 h22; omega
        · clear h0 h2 h3 h4 h5 h6 h7 h8 h9 h10 h11 h12 h13 h14 h15 h16 h17 h18 h19 h20 h21 h22; omega
        · clear h0 h1 h2 h3 h5 h6 h7 h8 h9 h10 h11 h12 h13 h14 h15 h16 h17 h18 h19 h20 h21 h22; omega
      · rcases (show l = 0 ∨ l = 1 ∨ l = 2 ∨ l = 3 by omega) with rfl | rfl | rfl | rfl
        · clear h0 h1 h2 h3 h4 h5 h6 h8 h9 h10 h11 h12 h13 h14 h15 h16 h17 h18 h19 h20 h21 h22; omega
        · clear h0 h2 h3 h4 h5 h6 h7 h8 h9 h10 h11 h12 h13 h14 h15 h16 h17 h18 h19 h20 h21 h22; omega
        · clear h0 h2 h3 h4 h5 h6 h7 h8 h9 h10 h11 h12 h13 h14 h15 h16 h17 h18 h19 h20 h21 h22; omega
        · clear h0 h1 h3 h4 h5 h6 h7 h8 h9 h10 h11 h12 h13 h14 h15 h16 h17 h18 h19 h20 h21 h22; omega
      · rcases (show l = 0 ∨ l = 1 ∨ l = 2 ∨ l = 3 by omega) with rfl | rfl | rfl | rfl
        · clear h0 h1 h2 h3 h4 h5 h6 h7 h8 h9 h11 h12 h13 h14 h15 h16 h17 h18 h19 h20 h21 h22; omega
        · clear h0 h1 h2 h3 h5 h6 h7 h8 h9 h10 h11 h12 h13 h14 h15 h16 h17 h18 h19 h20 h21 h22; omega
        · clear h0 h1 h2 h4 h5 h6 h7 h8 h9 h10 h11 h12 h13 h14 h15 h16 h17 h18 h19 h20 h21 h22; omega
        · clear h0 h1 h2 h3 h5 h6 h7 h8 h9 h10 h11 h12 h13 h14 h15 h16 h17 h18 h19 h20 h21 h22; omega
    · rcases (show k = 0 ∨ k = 1 ∨ k = 2 ∨ k = 3 by omega) with rfl | rfl | rfl | rfl
      · rcases (show l = 0 ∨ l = 1 ∨ l = 2 ∨ l = 3 by omega) with rfl | rfl | rfl | rfl
        · clear h0 h1 h2 h3 h4 h5 h6 h8 h9 h10 h11 h12 h13 h14 h15 h16 h17 h18 h19 h20 h21 h22; omega
        · clear h0 h1 h2 h3 h4 h5 h6 h8 h9 h10 h11 h12 h13 h14 h15 h16 h17 h18 h19 h20 h21 h22; omega
        · clear h0 h2 h3 h4 h5 h6 h7 h8 h9 h10 h11 h12 h14 h15 h16 h17 h18 h19 h20 h21 h22; omega
        · clear h0 h1 h2 h3 h4 h5 h6 h7 h8 h9 h10 h11 h12 h13 h14 h15 h16 h17 h18 h19 h20 h22; omega
      · rcases (show l = 0 ∨ l = 1 ∨ l = 2 ∨ l = 3 by omega) with rfl | rfl | rfl | rfl
        · clear h0 h2 h3 h4 h6 h7 h8 h9 h10 h11 h12 h13 h14 h15 h16 h17 h18 h19 h20 h21 h22; omega
        · clear h0 h2 h3 h4 h5 h6 h7 h8 h9 h10 h11 h12 h13 h14 h15 h16 h17 h18 h19 h20 h21 h22; omega
        · clear h0 h2 h3 h4 h5 h6 h7 h8 h9 h10 h11 h12 h13 h14 h15 h16 h17 h18 h19 h20 h21 h22; omega
        · clear h0 h2 h3 h5 h6 h7 h8 h9 h10 h11 h12 h13 h14 h15 h16 h17 h18 h19 h20 h21 h22; omega
      · rcases (show l = 0 ∨ l = 1 ∨ l = 2 ∨ l = 3 by omega) with rfl | rfl | rfl | rfl
        · clear h0 h1 h2 h3 h4 h5 h6 h8 h9 h10 h11 h12 h13 h14 h15 h16 h17 h18 h19 h20 h21 h22; omega
        · clear h0 h2 h3 h4 h5 h6 h7 h8 h9 h10 h11 h12 h13 h14 h15 h16 h17 h18 h19 h20 h21 h22; omega
        · clear h0 h2 h3 h4 h5 h6 h7 h8 h9 h10 h11 h12 h13 h14 h15 h16 h17 h18 h19 h20 h21 h22; omega
        · clear h0 h1 h3 h4 h5 h6 h7 h8 h9 h10 h11 h12 h13 h14 h15 h16 h17 h18 h19 h20 h21 h22; omega
      · rcases (show l = 0 ∨ l = 1 ∨ l = 2 ∨ l = 3 by omega) with rfl | rfl | rfl | rfl
        · clear h0 h1 h2 h3 h4 h5 h6 h7 h9 h10 h11 h12 h13 h14 h15 h16 h17 h18 h19 h20 h21 h22; omega
        · clear h0 h1 h3 h4 h5 h6 h7 h8 h9 h10 h11 h12 h13 h14 h15 h16 h17 h18 h19 h20 h21 h22; omega
        · clear h2 h3 h4 h5 h6 h7 h8 h9 h10 h11 h12 h13 h14 h15 h16 h17 h18 h19 h20 h21 h22; omega
        · clear h0 h1 h3 h4 h5 h6 h7 h8 h9 h10 h11 h12 h13 h14 h15 h16 h17 h18 h19 h20 h21 h22; omega
    · rcases (show k = 0 ∨ k = 1 ∨ k = 2 ∨ k = 3 by omega) with rfl | rfl | rfl | rfl
      · rcases (show l = 0 ∨ l = 1 ∨ l = 2 ∨ l = 3 by omega) with rfl | rfl | rfl | rfl
        · clear h0 h1 h2 h3 h4 h5 h6 h7 h8 h9 h11 h12 h13 h14 h15 h16 h17 h18 h19 h20 h21 h22; omega
        · clear h0 h1 h2 h3 h4 h5 h6 h7 h8 h9 h11 h12 h13 h14 h15 h16 h17 h18 h19 h20 h21 h22; omega
        · clear h0 h1 h2 h3 h4 h5 h6 h7 h8 h9 h10 h11 h12 h13 h14 h15 h17 h18 h19 h20 h21 h22; omega
        · clear h0 h1 h2 h3 h5 h6 h7 h8 h9 h10 h11 h12 h13 h14 h15 h16 h17 h18 h19 h21 h22; omega
      · rcases (show l = 0 ∨ l = 1 ∨ l = 2 ∨ l = 3 by omega) with rfl | rfl | rfl | rfl
        · clear h0 h1 h2 h3 h6 h7 h8 h9 h10 h11 h12 h13 h14 h15 h16 h17 h18 h19 h20 h21 h22; omega
        · clear h0 h1 h2 h3 h5 h6 h7 h8 h9 h10 h11 h12 h13 h14 h15 h16 h17 h18 h19 h20 h21 h22; omega
        · clear h0 h2 h3 h5 h6 h7 h8 h9 h10 h11 h12 h13 h14 h15 h16 h17 h18 h19 h20 h21 h22; omega
        · clear h0 h1 h2 h3 h5 h6 h7 h8 h9 h10 h11 h12 h13 h14 h15 h16 h17 h18 h19 h20 h21 h22; omega
      · rcases (show l = 0 ∨ l = 1 ∨ l = 2 ∨ l = 3 by omega) with rfl | rfl | rfl | rfl
        · clear h0 h1 h2 h3 h4 h5 h6 h7 h8 h10 h11 h12 h13 h14 h15 h16 h17 h18 h19 h20 h21 h22; omega
        · clear h0 h1 h2 h4 h5 h6 h7 h8 h9 h10 h11 h12 h13 h14 h15 h16 h17 h18 h19 h20 h21 h22; omega
        · clear h0 h1 h2 h4 h5 h6 h7 h8 h9 h10 h11 h12 h13 h14 h15 h16 h17 h18 h19 h20 h21 h22; omega
        · clear h1 h2 h3 h5 h6 h7 h8 h9 h10 h11 h12 h13 h14 h15 h16 h17 h18 h19 h20 h21 h22; omega
      · rcases (show l = 0 ∨ l = 1 ∨ l = 2 ∨ l = 3 by omega) with rfl | rfl | rfl | rfl
        · clear h0 h1 h2 h3 h4 h5 h6 h7 h8 h9 h11 h12 h13 h14 h15 h16 h17 h18 h19 h20 h21 h22; omega
        · clear h0 h1 h2 h3 h5 h6 h7 h8 h9 h10 h11 h12 h13 h14 h15 h16 h17 h18 h19 h20 h21 h22; omega
        · clear h0 h1 h2 h4 h5 h6 h7 h8 h9 h10 h11 h12 h13 h14 h15 h16 h17 h18 h19 h20 h21 h22; omega
        · clear h0 h1 h2 h3 h5 h6 h7 h8 h9 h10 h11 h12 h13 h14 h15 h16 h17 h18 h19 h20 h21 h22; omega
  · rcases (show j = 0 ∨ j = 1 ∨ j = 2 ∨ j = 3 by omega) with rfl | rfl | rfl | rfl
    · rcases (show k = 0 ∨ k = 1 ∨ k = 2 ∨ k = 3 by omega) with rfl | rfl | rfl | rfl
      · rcases (show l = 0 ∨ l = 1 ∨ l = 2 ∨ l = 3 by omega) with rfl | rfl | rfl | rfl
        · clear h0 h1 h2 h3 h4 h5 h6 h7 h8 h9 h10 h11 h12 h14 h15 h16 h17 h18 h19 h20 h21 h22; omega
        · clear h0 h1 h2 h3 h4 h5 h6 h8 h9 h10 h11 h12 h13 h14 h15 h16 h17 h18 h19 h20 h21 h22; omega
        · clear h0 h1 h2 h3 h4 h5 h6 h7 h8 h9 h10 h11 h12 h14 h15 h16 h17 h18 h19 h20 h21 h22; omega
        · clear h0 h1 h2 h3 h4 h5 h6 h7 h8 h9 h10 h11 h12 h13 h14 h15 h16 h17 h18 h20 h21 h22; omega
      · rcases (show l = 0 ∨ l = 1 ∨ l = 2 ∨ l = 3 by omega) with rfl | rfl | rfl | rfl
        · clear h0 h1 h2 h3 h4 h6 h7 h8 h9 h10 h11 h12 h14 h15 h16 h17 h18 h19 h20 h21 h22; omega
        · clear h0 h1 h2 h3 h4 h5 h6 h8 h9 h10 h11 h12 h13 h14 h15 h16 h17 h18 h19 h20 h21 h22; omega
        · clear h0 h1 h2 h3 h4 h5 h6 h8 h9 h10 h11 h12 h13 h14 h15 h16 h17 h18 h19 h20 h21 h22; omega
        · clear h0 h1 h2 h3 h4 h5 h6 h7 h8 h10 h11 h12 h13 h14 h15 h16 h17 h18 h19 h20 h21 h22; omega
      · rcases (show l = 0 ∨ l = 1 ∨ l = 2 ∨ l = 3 by omega) with rfl | rfl | rfl | rfl
        · clear h0 h1 h2 h3 h4 h5 h6 h7 h8 h9 h10 h11 h12 h14 h15 h16 h17 h18 h19 h20 h21 h22; omega
        · clear h0 h2 h3 h4 h5 h6 h7 h8 h9 h10 h11 h12 h14 h15 h16 h17 h18 h19 h20 h21 h22; omega
        · clear h0 h1 h2 h3 h4 h5 h6 h7 h8 h9 h10 h11 h12 h14 h15 h16 h17 h18 h19 h20 h21 h22; omega
        · clear h1 h2 h3 h4 h5 h6 h7 h8 h9 h10 h11 h12 h14 h15 h16 h17 h18 h19 h20 h21 h22; omega
      · rcases (show l = 0 ∨ l = 1 ∨ l = 2 ∨ l = 3 by omega) with rfl | rfl | rfl | rfl
        · clear h0 h1 h2 h3 h4 h5 h6 h7 h8 h9 h10 h11 h12 h14 h15 h16 h17 h18 h19 h21 h22; omega
        · clear h0 h1 h2 h3 h4 h5 h6 h7 h8 h9 h10 h11 h12 h13 h14 h15 h16 h17 h18 h19 h20 h22; omega
        · clear h0 h1 h2 h3 h4 h5 h6 h7 h8 h9 h10 h11 h12 h13 h14 h15 h16 h17 h18 h20 h21 h22; omega
        · clear h0 h1 h2 h3 h4 h5 h6 h7 h8 h9 h10 h11 h12 h13 h14 h15 h16 h17 h18 h20 h21 h22; omega
    · rcases (show k = 0 ∨ k = 1 ∨ k = 2 ∨ k = 3 by omega) with rfl | rfl | rfl | rfl
      · rcases (show l = 0 ∨ l = 1 ∨ l = 2 ∨ l = 3 by omega) with rfl | rfl | rfl | rfl
        · clear h0 h1 h2 h3 h4 h5 h6 h7 h8 h9 h10 h12 h13 h14 h15 h16 h17 h18 h19 h20 h21 h22; omega
        · clear h0 h2 h3 h4 h6 h7 h8 h9 h10 h11 h12 h13 h14 h15 h16 h17 h18 h19 h20 h21 h22; omega
        · clear h0 h1 h2 h3 h4 h5 h6 h7 h8 h9 h10 h12 h13 h14 h15 h16 h17 h18 h19 h20 h21 h22; omega
        · clear h0 h1 h2 h3 h4 h5 h6 h7 h8 h9 h10 h11 h12 h13 h14 h15 h16 h18 h19 h20 h21 h22; omega
      · rcases (show l = 0 ∨ l = 1 ∨ l = 2 ∨ l = 3 by omega) with rfl | rfl | rfl | rfl
        · clear h0 h1 h2 h3 h4 h5 h6 h7 h8 h9 h10 h12 h13 h14 h15 h16 h17 h18 h19 h20 h21 h22; omega
        · clear h0 h2 h3 h4 h5 h6 h7 h8 h9 h10 h11 h12 h13 h14 h15 h16 h17 h18 h19 h20 h21 h22; omega
        · clear h0 h2 h3 h4 h5 h6 h7 h8 h9 h10 h11 h12 h13 h14 h15 h16 h17 h18 h19 h20 h21 h22; omega
        · clear h0 h1 h2 h4 h5 h6 h7 h8 h9 h10 h11 h12 h13 h14 h15 h16 h17 h18 h19 h20 h21 h22; omega
      · rcases (show l = 0 ∨ l = 1 ∨ l = 2 ∨ l = 3 by omega) with rfl | rfl | rfl | rfl
        · clear h0 h2 h3 h4 h5 h6 h7 h8 h9 h10 h11 h12 h14 h15 h16 h17 h18 h19 h20 h21 h22; omega
        · clear h0 h2 h3 h4 h5 h6 h7 h8 h9 h10 h11 h12 h13 h14 h15 h16 h17 h18 h19 h20 h21 h22; omega
        · clear h0 h2 h3 h4 h5 h6 h7 h8 h9 h10 h11 h12 h13 h14 h15 h16 h17 h18 h19 h20 h21 h22; omega
        · clear h2 h3 h4 h5 h6 h7 h8 h9 h10 h11 h12 h13 h14 h15 h16 h17 h18 h19 h20 h21 h22; omega
      · rcases (show l = 0 ∨ l = 1 ∨ l = 2 ∨ l = 3 by omega) with rfl | rfl | rfl | rfl
        · clear h0 h1 h2 h3 h4 h5 h6 h7 h8 h9 h10 h11 h12 h13 h14 h15 h17 h18 h19 h20 h21 h22; omega
        · clear h0 h2 h3 h5 h6 h7 h8 h9 h10 h11 h12 h13 h14 h15 h16 h17 h18 h19 h20 h21 h22; omega
        · clear h0 h1 h2 h4 h5 h6 h7 h8 h9 h10 h11 h12 h13 h14 h15 h16 h17 h18 h19 h20 h21 h22; omega
        · clear h0 h1 h2 h4 h5 h6 h7 h8 h9 h10 h11 h12 h13 h14 h15 h16 h17 h18 h19 h20 h21 h22; omega
    · rcases (show k = 0 ∨ k = 1 ∨ k = 2 ∨ k = 3 by omega) with rfl | rfl | rfl | rfl
      · rcases (show l = 0 ∨ l = 1 ∨ l = 2 ∨ l = 3 by omega) with rfl | rfl | rfl | rfl
        · clear h0 h1 h2 h3 h4 h5 h6 h7 h8 h9 h10 h11 h12 h14 h15 h16 h17 h18 h19 h20 h21 h22; omega
        · clear h0 h1 h2 h3 h4 h5 h6 h8 h9 h10 h11 h12 h13 h14 h15 h16 h17 h18 h19 h20 h21 h22; omega
        · clear h0 h1 h2 h3 h4 h5 h6 h7 h8 h9 h10 h11 h12 h14 h15 h16 h17 h18 h19 h20 h21 h22; omega
        · clear h0 h1 h2 h3 h4 h5 h6 h7 h8 h9 h10 h11 h12 h13 h14 h15 h16 h17 h18 h20 h21 h22; omega
      · rcases (show l = 0 ∨ l = 1 ∨ l = 2 ∨ l = 3 by omega) with rfl | rfl | rfl | rfl
        · clear h0 h1 h2 h3 h4 h5 h6 h7 h8 h9 h10 h12 h13 h14 h15 h16 h17 h18 h19 h20 h21 h22; omega
        · clear h0 h2 h3 h4 h5 h6 h7 h8 h9 h10 h11 h12 h13 h14 h15 h16 h17 h18 h19 h20 h21 h22; omega
        · clear h0 h2 h3 h4 h5 h6 h7 h8 h9 h10 h11 h12 h13 h14 h15 h16 h17 h18 h19 h20 h21 h22; omega
        · clear h0 h1 h2 h4 h5 h6 h7 h8 h9 h10 h11 h12 h13 h14 h15 h16 h17 h18 h19 h20 h21 h22; omega
      · rcases (show l = 0 ∨ l = 1 ∨ l = 2 ∨ l = 3 by omega) with rfl | rfl | rfl | rfl
        · clear h0 h1 h2 h3 h4 h5 h6 h7 h8 h9 h10 h11 h12 h14 h15 h16 h17 h18 h19 h20 h21 h22; omega
        · clear h0 h2 h3 h4 h5 h6 h7 h8 h9 h10 h11 h12 h13 h14 h15 h16 h17 h18 h19 h20 h21 h22; omega
        · clear h0 h1 h2 h3 h4 h5 h6 h7 h8 h9 h10 h11 h12 h13 h14 h15 h16 h17 h18 h19 h20 h21 h22; omega
        · clear h1 h2 h3 h4 h5 h6 h7 h8 h9 h10 h11 h12 h13 h14 h15 h16 h17 h18 h19 h20 h21 h22; omega
      · rcases (show l = 0 ∨ l = 1 ∨ l = 2 ∨ l = 3 by omega) with rfl | rfl | rfl | rfl
        · clear h0 h1 h2 h3 h4 h5 h6 h7 h8 h9 h10 h11 h12 h13 h15 h16 h17 h18 h19 h20 h21 h22; omega
        · clear h0 h1 h3 h4 h5 h6 h7 h8 h9 h10 h11 h12 h13 h14 h15 h16 h17 h18 h19 h20 h21 h22; omega
        · clear h1 h2 h3 h4 h5 h6 h7 h8 h9 h10 h11 h12 h13 h14 h15 h16 h17 h18 h19 h20 h21 h22; omega
        · clear h1 h2 h3 h4 h5 h6 h7 h8 h9 h10 h11 h12 h13 h14 h15 h16 h17 h18 h19 h20 h21 h22; omega
    · rcases (show k = 0 ∨ k = 1 ∨ k = 2 ∨ k = 3 by omega) with rfl | rfl | rfl | rfl
      · rcases (show l = 0 ∨ l = 1 ∨ l = 2 ∨ l = 3 by omega) with rfl | rfl | rfl | rfl
        · clear h0 h1 h2 h3 h4 h5 h6 h7 h8 h9 h10 h11 h12 h13 h15 h16 h17 h18 h19 h20 h21 h22; omega
        · clear h0 h1 h2 h3 h4 h5 h6 h7 h9 h10 h11 h12 h13 h14 h15 h16 h17 h18 h19 h20 h21 h22; omega
        · clear h0 h1 h2 h3 h4 h5 h6 h7 h8 h9 h10 h11 h12 h13 h15 h16 h17 h18 h19 h20 h21 h22; omega
        · clear h1 h2 h3 h4 h5 h6 h7 h8 h9 h10 h11 h12 h13 h14 h15 h16 h17 h18 h19 h21 h22; omega
      · rcases (show l = 0 ∨ l = 1 ∨ l = 2 ∨ l = 3 by omega) with rfl | rfl | rfl | rfl
        · clear h0 h1 h2 h3 h4 h5 h6 h7 h8 h9 h10 h11 h13 h14 h15 h16 h17 h18 h19 h20 h21 h22; omega
        · clear h0 h1 h3 h4 h5 h6 h7 h8 h9 h10 h11 h12 h13 h14 h15 h16 h17 h18 h19 h20 h21 h22; omega
        · clear h0 h1 h3 h4 h5 h6 h7 h8 h9 h10 h11 h12 h13 h14 h15 h16 h17 h18 h19 h20 h21 h22; omega
        · clear h1 h2 h3 h5 h6 h7 h8 h9 h10 h11 h12 h13 h14 h15 h16 h17 h18 h19 h20 h21 h22; omega
      · rcases (show l = 0 ∨ l = 1 ∨ l = 2 ∨ l = 3 by omega) with rfl | rfl | rfl | rfl
        · clear h1 h2 h3 h4 h5 h6 h7 h8 h9 h10 h11 h12 h14 h15 h16 h17 h18 h19 h20 h21 h22; omega
        · clear h2 h3 h4 h5 h6 h7 h8 h9 h10 h11 h12 h13 h14 h15 h16 h17 h18 h19 h20 h21 h22; omega
        · clear h1 h2 h3 h4 h5 h6 h7 h8 h9 h10 h11 h12 h13 h14 h15 h16 h17 h18 h19 h20 h21 h22; omega
        · clear h1 h2 h3 h4 h5 h6 h7 h8 h9 h10 h11 h12 h13 h14 h15 h16 h17 h18 h19 h20 h21 h22; omega
      · rcases (show l = 0 ∨ l = 1 ∨ l = 2 ∨ l = 3 by omega) with rfl | rfl | rfl | rfl
        · clear h0 h1 h2 h3 h4 h5 h6 h7 h8 h9 h10 h11 h12 h13 h15 h16 h17 h18 h19 h20 h21 h22; omega
        · clear h0 h1 h3 h4 h5 h6 h7 h8 h9 h10 h11 h12 h13 h14 h15 h16 h17 h18 h19 h20 h21 h22; omega
        · clear h1 h2 h3 h4 h5 h6 h7 h8 h9 h10 h11 h12 h13 h14 h15 h16 h17 h18 h19 h20 h21 h22; omega
        · clear h1 h2 h3 h4 h5 h6 h7 h8 h9 h10 h11 h12 h13 h14 h15 h16 h17 h18 h19 h20 h21 h22; omega
  · rcases (show j = 0 ∨ j = 1 ∨ j = 2 ∨ j = 3 by omega) with rfl | rfl | rfl | rfl
    · rcases (show k = 0 ∨ k = 1 ∨ k = 2 ∨ k = 3 by omega) with rfl | rfl | rfl | rfl
      · rcases (show l = 0 ∨ l = 1 ∨ l = 2 ∨ l = 3 by omega) with rfl | rfl | rfl | rfl
        · clear h0 h1 h2 h3 h4 h5 h6 h7 h8 h9 h10 h11 h12 h13 h14 h15 h16 h17 h18 h19 h21 h22; omega
        · clear h0 h1 h2 h3 h4 h5 h6 h7 h8 h9 h11 h12 h13 h14 h15 h16 h17 h18 h19 h20 h21 h22; omega
        · clear h0 h1 h2 h3 h4 h5 h6 h7 h8 h9 h10 h11 h12 h13 h15 h16 h17 h18 h19 h20 h21 h22; omega
        · clear h0 h1 h2 h3 h4 h5 h6 h7 h8 h9 h10 h11 h12 h13 h14 h15 h16 h17 h18 h19 h21 h22; omega
      · rcases (show l = 0 ∨ l = 1 ∨ l = 2 ∨ l = 3 by omega) with rfl | rfl | rfl | rfl
        · clear h0 h1 h2 h3 h4 h6 h7 h8 h9 h10 h11 h12 h13 h14 h15 h16 h17 h18 h19 h21 h22; omega
        · clear h0 h1 h2 h3 h4 h5 h6 h7 h8 h9 h11 h12 h13 h14 h15 h16 h17 h18 h19 h20 h21 h22; omega
        · clear h0 h1 h2 h3 h4 h5 h6 h7 h9 h10 h11 h12 h13 h14 h15 h16 h17 h18 h19 h20 h21 h22; omega
        · clear h0 h1 h2 h3 h4 h5 h6 h7 h8 h9 h11 h12 h13 h14 h15 h16 h17 h18 h19 h20 h21 h22; omega
      · rcases (show l = 0 ∨ l = 1 ∨ l = 2 ∨ l = 3 by omega) with rfl | rfl | rfl | rfl
        · clear h0 h1 h2 h3 h4 h5 h6 h7 h8 h9 h10 h11 h12 h14 h15 h16 h17 h18 h19 h21 h22; omega
        · clear h0 h1 h2 h3 h4 h5 h6 h7 h8 h9 h10 h11 h12 h13 h14 h15 h17 h18 h19 h20 h21 h22; omega
        · clear h0 h1 h2 h3 h4 h5 h6 h7 h8 h9 h10 h11 h12 h13 h15 h16 h17 h18 h19 h20 h21 h22; omega
        · clear h0 h1 h2 h3 h4 h5 h6 h7 h8 h9 h10 h11 h12 h13 h15 h16 h17 h18 h19 h20 h21 h22; omega
      · rcases (show l = 0 ∨ l = 1 ∨ l = 2 ∨ l = 3 by omega) with rfl | rfl | rfl | rfl
        · clear h0 h1 h2 h3 h4 h5 h6 h7 h8 h9 h10 h11 h12 h13 h14 h15 h16 h17 h18 h19 h21 h22; omega
        · clear h0 h1 h2 h3 h5 h6 h7 h8 h9 h10 h11 h12 h13 h14 h15 h16 h17 h18 h19 h21 h22; omega
        · clear h1 h2 h3 h4 h5 h6 h7 h8 h9 h10 h11 h12 h13 h14 h15 h16 h17 h18 h19 h21 h22; omega
        · clear h0 h1 h2 h3 h4 h5 h6 h7 h8 h9 h10 h11 h12 h13 h14 h15 h16 h17 h18 h19 h21 h22; omega
    · rcases (show k = 0 ∨ k = 1 ∨ k = 2 ∨ k = 3 by omega) with rfl | rfl | rfl | rfl
      · rcases (show l = 0 ∨ l = 1 ∨ l = 2 ∨ l = 3 by omega) with rfl | rfl | rfl | rfl
        · clear h0 h1 h2 h3 h4 h5 h6 h7 h8 h9 h10 h11 h12 h13 h14 h15 h16 h17 h19 h20 h21 h22; omega
        · clear h0 h1 h2 h3 h6 h7 h8 h9 h10 h11 h12 h13 h14 h15 h16 h17 h18 h19 h20 h21 h22; omega
        · clear h0 h1 h2 h3 h4 h5 h6 h7 h8 h9 h10 h11 h13 h14 h15 h16 h17 h18 h19 h20 h21 h22; omega
        · clear h0 h1 h2 h3 h4 h5 h6 h7 h8 h9 h10 h11 h12 h13 h14 h15 h16 h17 h19 h20 h21 h22; omega
      · rcases (show l = 0 ∨ l = 1 ∨ l = 2 ∨ l = 3 by omega) with rfl | rfl | rfl | rfl
        · clear h0 h1 h2 h3 h4 h5 h6 h7 h8 h9 h10 h11 h12 h13 h14 h15 h16 h17 h19 h20 h21 h22; omega
        · clear h0 h1 h2 h3 h5 h6 h7 h8 h9 h10 h11 h12 h13 h14 h15 h16 h17 h18 h19 h20 h21 h22; omega
        · clear h0 h1 h3 h4 h5 h6 h7 h8 h9 h10 h11 h12 h13 h14 h15 h16 h17 h18 h19 h20 h21 h22; omega
        · clear h0 h1 h2 h3 h5 h6 h7 h8 h9 h10 h11 h12 h13 h14 h15 h16 h17 h18 h19 h20 h21 h22; omega
      · rcases (show l = 0 ∨ l = 1 ∨ l = 2 ∨ l = 3 by omega) with rfl | rfl | rfl | rfl
        · clear h0 h1 h2 h3 h4 h5 h6 h7 h8 h9 h10 h11 h12 h13 h14 h15 h16 h17 h18 h19 h20 h22; omega
        · clear h0 h2 h3 h5 h6 h7 h8 h9 h10 h11 h12 h13 h14 h15 h16 h17 h18 h19 h20 h21 h22; omega
        · clear h0 h1 h3 h4 h5 h6 h7 h8 h9 h10 h11 h12 h13 h14 h15 h16 h17 h18 h19 h20 h21 h22; omega
        · clear h0 h1 h3 h4 h5 h6 h7 h8 h9 h10 h11 h12 h13 h14 h15 h16 h17 h18 h19 h20 h21 h22; omega
      · rcases (show l = 0 ∨ l = 1 ∨ l = 2 ∨ l = 3 by omega) with rfl | rfl | rfl | rfl
        · clear h0 h1 h2 h3 h5 h6 h7 h8 h9 h10 h11 h12 h13 h14 h15 h16 h17 h18 h19 h21 h22; omega
        · clear h0 h1 h2 h3 h5 h6 h7 h8 h9 h10 h11 h12 h13 h14 h15 h16 h17 h18 h19 h20 h21 h22; omega
        · clear h1 h2 h3 h5 h6 h7 h8 h9 h10 h11 h12 h13 h14 h15 h16 h17 h18 h19 h20 h21 h22; omega
        · clear h0 h1 h2 h3 h5 h6 h7 h8 h9 h10 h11 h12 h13 h14 h15 h16 h17 h18 h19 h20 h21 h22; omega
    · rcases (show k = 0 ∨ k = 1 ∨ k = 2 ∨ k = 3 by omega) with rfl | rfl | rfl | rfl
      · rcases (show l = 0 ∨ l = 1 ∨ l = 2 ∨ l = 3 by omega) with rfl | rfl | rfl | rfl
        · clear h0 h1 h2 h3 h4 h5 h6 h7 h8 h9 h10 h11 h12 h13 h14 h15 h16 h17 h18 h20 h21 h22; omega
        · clear h0 h1 h2 h3 h4 h5 h6 h7 h8 h10 h11 h12 h13 h14 h15 h16 h17 h18 h19 h20 h21 h22; omega
        · clear h1 h2 h3 h4 h5 h6 h7 h8 h9 h10 h11 h12 h14 h15 h16 h17 h18 h19 h20 h21 h22; omega
        · clear h0 h1 h2 h3 h4 h5 h6 h7 h8 h9 h10 h11 h12 h13 h14 h15 h16 h17 h18 h20 h21 h22; omega
      · rcases (show l = 0 ∨ l = 1 ∨ l = 2 ∨ l = 3 by omega) with rfl | rfl | rfl | rfl
        · clear h0 h1 h2 h3 h4 h5 h6 h7 h8 h9 h10 h11 h12 h13 h14 h15 h16 h18 h19 h20 h21 h22; omega
        · clear h0 h1 h2 h4 h5 h6 h7 h8 h9 h10 h11 h12 h13 h14 h15 h16 h17 h18 h19 h20 h21 h22; omega
        · clear h2 h3 h4 h5 h6 h7 h8 h9 h10 h11 h12 h13 h14 h15 h16 h17 h18 h19 h20 h21 h22; omega
        · clear h0 h1 h2 h4 h5 h6 h7 h8 h9 h10 h11 h12 h13 h14 h15 h16 h17 h18 h19 h20 h21 h22; omega
      · rcases (show l = 0 ∨ l = 1 ∨ l = 2 ∨ l = 3 by omega) with rfl | rfl | rfl | rfl
        · clear h0 h1 h2 h3 h4 h5 h6 h7 h8 h9 h10 h11 h12 h13 h14 h15 h16 h17 h18 h20 h21 h22; omega
        · clear h0 h1 h2 h4 h5 h6 h7 h8 h9 h10 h11 h12 h13 h14 h15 h16 h17 h18 h19 h20 h21 h22; omega
        · clear h1 h2 h3 h4 h5 h6 h7 h8 h9 h10 h11 h12 h13 h14 h15 h16 h17 h18 h19 h20 h21 h22; omega
        · clear h1 h2 h3 h4 h5 h6 h7 h8 h9 h10 h11 h12 h13 h14 h15 h16 h17 h18 h19 h20 h21 h22; omega
      · rcases (show l = 0 ∨ l = 1 ∨ l = 2 ∨ l = 3 by omega) with rfl | rfl | rfl | rfl
        · clear h1 h2 h3 h4 h5 h6 h7 h8 h9 h10 h11 h12 h13 h14 h15 h16 h17 h18 h19 h21 h22; omega
        · clear h1 h2 h3 h5 h6 h7 h8 h9 h10 h11 h12 h13 h14 h15 h16 h17 h18 h19 h20 h21 h22; omega
        · clear h1 h2 h3 h4 h5 h6 h7 h8 h9 h10 h11 h12 h13 h14 h15 h16 h17 h18 h19 h20 h21 h22; omega
        · clear h1 h2 h3 h4 h5 h6 h7 h8 h9 h10 h11 h12 h13 h14 h15 h16 h17 h18 h19 h20 h21 h22; omega
    · rcases (show k = 0 ∨ k = 1 ∨ k = 2 ∨ k = 3 by omega) with rfl | rfl | rfl | rfl
      · rcases (show l = 0 ∨ l = 1 ∨ l = 2 ∨ l = 3 by omega) with rfl | rfl | rfl | rfl
        · clear h0 h1 h2 h3 h4 h5 h6 h7 h8 h9 h10 h11 h12 h13 h14 h15 h16 h17 h18 h19 h21 h22; omega
        · clear h0 h1 h2 h3 h4 h5 h6 h7 h8 h9 h11 h12 h13 h14 h15 h16 h17 h18 h19 h20 h21 h22; omega
        · clear h0 h1 h2 h3 h4 h5 h6 h7 h8 h9 h10 h11 h12 h13 h15 h16 h17 h18 h19 h20 h21 h22; omega
        · clear h0 h1 h2 h3 h4 h5 h6 h7 h8 h9 h10 h11 h12 h13 h14 h15 h16 h17 h18 h19 h21 h22; omega
      · rcases (show l = 0 ∨ l = 1 ∨ l = 2 ∨ l = 3 by omega) with rfl | rfl | rfl | rfl
        · clear h0 h1 h2 h3 h4 h5 h6 h7 h8 h9 h10 h11 h12 h13 h14 h15 h16 h17 h19 h20 h21 h22; omega
        · clear h0 h1 h2 h3 h5 h6 h7 h8 h9 h10 h11 h12 h13 h14 h15 h16 h17 h18 h19 h20 h21 h22; omega
        · clear h0 h1 h3 h4 h5 h6 h7 h8 h9 h10 h11 h12 h13 h14 h15 h16 h17 h18 h19 h20 h21 h22; omega
        · clear h0 h1 h2 h3 h5 h6 h7 h8 h9 h10 h11 h12 h13 h14 h15 h16 h17 h18 h19 h20 h21 h22; omega
      · rcases (show l = 0 ∨ l = 1 ∨ l = 2 ∨ l = 3 by omega) with rfl | rfl | rfl | rfl
        · clear h0 h1 h2 h3 h4 h5 h6 h7 h8 h9 h10 h11 h12 h13 h14 h15 h16 h17 h18 h20 h21 h22; omega
        · clear h0 h1 h2 h4 h5 h6 h7 h8 h9 h10 h11 h12 h13 h14 h15 h16 h17 h18 h19 h20 h21 h22; omega
        · clear h1 h2 h3 h4 h5 h6 h7 h8 h9 h10 h11 h12 h13 h14 h15 h16 h17 h18 h19 h20 h21 h22; omega
        · clear h1 h2 h3 h4 h5 h6 h7 h8 h9 h10 h11 h12 h13 h14 h15 h16 h17 h18 h19 h20 h21 h22; omega
      · rcases (show l = 0 ∨ l = 1 ∨ l = 2 ∨ l = 3 by omega) with rfl | rfl | rfl | rfl
        · clear h0 h1 h2 h3 h4 h5 h6 h7 h8 h9 h10 h11 h12 h13 h14 h15 h16 h17 h18 h19 h21 h22; omega
        · clear h0 h1 h2 h3 h5 h6 h7 h8 h9 h10 h11 h12 h13 h14 h15 h16 h17 h18 h19 h20 h21 h22; omega
        · clear h1 h2 h3 h4 h5 h6 h7 h8 h9 h10 h11 h12 h13 h14 h15 h16 h17 h18 h19 h20 h21 h22; omega
        · clear h0 h1 h2 h3 h4 h5 h6 h7 h8 h9 h10 h11 h12 h13 h14 h15 h16 h17 h18 h19 h20 h21 h22; omega

theorem rent_ex {xss : List (Bool × List Int)} (h : rentB xss = true) : Ex (vR xss) (oR (bR xss).1) xss.length := by
  obtain ⟨h1, h4, _⟩ := rent_facts h
  obtain ⟨⟨r, hr, hb⟩, _⟩ := bR_max h
  have hs : (bR xss).1 ∈ rkL xss.length := (rk_mem h).2 ⟨r, hr, hb⟩
  have f1 := onto_rk xss.length h1 h4 _ hs
  have hp := fun p => best_perm h (p := p)
  refine ⟨h1, h4, fun i hi => ?_, f1.2.2, fun i x hi hx => vR_bd h hi hx, ?_⟩
  · have := f1.2.1 i hi
    unfold oR; omega
  · clear f1 hs hb hr
    rcases (show xss.length = 1 ∨ xss.length = 2 ∨ xss.length = 3 ∨ xss.length = 4 by omega) with hn | hn | hn | hn <;> rw [hn] at hp ⊢
    · exact cyc_one _ _
    · refine cyc_two _ _ ?_
      · simpa [awS, comp, oR] using hp [1, 0] (by decide +kernel)
    · refine cyc_three _ _ ?_ ?_ ?_ ?_ ?_
      · simpa [awS, comp, oR] using hp [0, 2, 1] (by decide +kernel)
      · simpa [awS, comp, oR] using hp [1, 0, 2] (by decide +kernel)
      · simpa [awS, comp, oR] using hp [1, 2, 0] (by decide +kernel)
      · simpa [awS, comp, oR] using hp [2, 0, 1] (by decide +kernel)
      · simpa [awS, comp, oR] using hp [2, 1, 0] (by decide +kernel)
    · refine cyc_four _ _ ?_ ?_ ?_ ?_ ?_ ?_ ?_ ?_ ?_ ?_ ?_ ?_ ?_ ?_ ?_ ?_ ?_ ?_ ?_ ?_ ?_ ?_ ?_
      · simpa [awS, comp, oR] using hp [0, 1, 3, 2] (by decide +kernel)
      · simpa [awS, comp, oR] using hp [0, 2, 1, 3] (by decide +kernel)
      · simpa [awS, comp, oR] using hp [0, 2, 3, 1] (by decide +kernel)
      · simpa [awS, comp, oR] using hp [0, 3, 1, 2] (by decide +kernel)
      · simpa [awS, comp, oR] using hp [0, 3, 2, 1] (by decide +kernel)
      · simpa [awS, comp, oR] using hp [1, 0, 2, 3] (by decide +kernel)
      · simpa [awS, comp, oR] using hp [1, 0, 3, 2] (by decide +kernel)
      · simpa [awS, comp, oR] using hp [1, 2, 0, 3] (by decide +kernel)
      · simpa [awS, comp, oR] using hp [1, 2, 3, 0] (by decide +kernel)
      · simpa [awS, comp, oR] using hp [1, 3, 0, 2] (by decide +kernel)
      · simpa [awS, comp, oR] using hp [1, 3, 2, 0] (by decide +kernel)
      · simpa [awS, comp, oR] using hp [2, 0, 1, 3] (by decide +kernel)
      · simpa [awS, comp, oR] using hp [2, 0, 3, 1] (by decide +kernel)
      · simpa [awS, comp, oR] using hp [2, 1, 0, 3] (by decide +kernel)
      · simpa [awS, comp, oR] using hp [2, 1, 3, 0] (by decide +kernel)
      · simpa [awS, comp, oR] using hp [2, 3, 0, 1] (by decide +kernel)
      · simpa [awS, comp, oR] using hp [2, 3, 1, 0] (by decide +kernel)
      · simpa [awS, comp, oR] using hp [3, 0, 1, 2] (by decide +kernel)
      · simpa [awS, comp, oR] using hp [3, 0, 2, 1] (by decide +kernel)
      · simpa [awS, comp, oR] using hp [3, 1, 0, 2] (by decide +kernel)
      · simpa [awS, comp, oR] using hp [3, 1, 2, 0] (by decide +kernel)
      · simpa [awS, comp, oR] using hp [3, 2, 0, 1] (by decide +kernel)
      · simpa [awS, comp, oR] using hp [3, 2, 1, 0] (by decide +kernel)

end Go.Proofs.YtblnpjppckfmfaaDoor.Ax
