/-
  The plain side of TopCycles: cycles of a pointing, who is left. Plain Lean, no program in sight.
-/
import Derived.Test.YtiieikknhheffaaGreatDoorCG3
namespace Go.Proofs.YtiieikknhheffaaGreatDoor.Ax
open Go Go.RowKit
set_option linter.unusedSimpArgs false
set_option linter.unusedVariables false

/-- Lists of all houses, at most five. -/
structure H5 (xss : List (Bool × List Int)) : Prop where
  n1 : 1 ≤ xss.length
  n5 : xss.length ≤ 5
  all : ∀ i (hi : i < xss.length), (∀ x ∈ xss[i].2, 0 ≤ x ∧ x < xss.length) ∧ ∀ x : Nat, x < xss.length → (x : Int) ∈ xss[i].2
theorem h5_of {xss : List (Bool × List Int)} (h : housesB xss = true) : H5 xss := by
  simp only [housesB, Bool.and_eq_true, inR, decide_eq_true_eq] at h
  obtain ⟨⟨h1, h2⟩, h3⟩ := h
  refine ⟨by omega, by omega, fun i hi => ?_⟩
  have hr : rankB xss.length xss[i].2 = true := List.all_eq_true.1 h3 _ (List.getElem_mem hi)
  constructor
  · intro x hx
    obtain ⟨j, hj, rfl⟩ := List.getElem_of_mem hx
    exact (rank_facts hr).2.2.2.1 j hj
  · intro x hx
    obtain ⟨k, hk, e⟩ := rank_all hr (i := x) (by omega)
    rw [← e]; exact List.getElem_mem hk

theorem fstI_same5 {p q : Int → Bool} : ∀ {l : List Int}, (∀ x ∈ l, p x = q x) → fstI p l = fstI q l
  | [], _ => rfl
  | a :: l, h => by
    have ih := fstI_same5 (l := l) fun x hx => h x (List.mem_cons_of_mem _ hx)
    unfold fstI at ih ⊢
    rw [List.find?_cons, List.find?_cons, h a (by simp), ih]

/-- Who is left, in order. -/
def lvN (bs : List Bool) : List Nat := (List.range bs.length).filter fun i => bs.getD i false
def lvs (bs : List Bool) : List Int := (lvN bs).map fun (i : Nat) => (i : Int)
theorem lvN_mem {bs : List Bool} {i : Nat} : i ∈ lvN bs ↔ bs.getD i false = true := by
  simp only [lvN, List.mem_filter, List.mem_range]
  constructor
  · exact fun h => h.2
  · intro h
    refine ⟨?_, h⟩
    rcases Nat.lt_or_ge i bs.length with h' | h'
    · exact h'
    · rw [List.getD_eq_getElem?_getD, List.getElem?_eq_none h'] at h; simp at h
theorem lvN_lt {bs : List Bool} {i : Nat} (h : i ∈ lvN bs) : i < bs.length := by
  simp only [lvN, List.mem_filter, List.mem_range] at h; exact h.1
theorem lvs_mem {bs : List Bool} {x : Int} : x ∈ lvs bs ↔ ∃ i : Nat, x = i ∧ bs.getD i false = true := by
  constructor
  · intro h
    obtain ⟨i, h1, rfl⟩ := List.mem_map.1 h
    exact ⟨i, rfl, lvN_mem.1 h1⟩
  · rintro ⟨i, rfl, h⟩
    exact List.mem_map.2 ⟨i, lvN_mem.2 h, rfl⟩
theorem lvs_len {bs : List Bool} : (lvs bs).length ≤ bs.length := by
  unfold lvs lvN
  rw [List.length_map]
  have := List.length_filter_le (fun i => bs.getD i false) (List.range bs.length)
  simpa using this

/-- The first of those who are left on a person's list. -/
def nxL (xss : List (Bool × List Int)) (L : List Int) (i : Int) : Int := (fstI (fun h => decide (0 ≤ pos L h)) (xss.getD i.toNat (true, [])).2).getD (-1)
/-- To whom a person points. -/
def nx (xss : List (Bool × List Int)) (bs : List Bool) (i : Int) : Int := nxL xss (lvs bs) i
theorem nx_at {xss : List (Bool × List Int)} {bs : List Bool} (h : H5 xss) (hb : bs.length = xss.length) (hs : ∃ j : Nat, bs.getD j false = true) {i : Nat} (hi : i < xss.length) :
    ∃ a : Nat, a < xss.length ∧ fstI (fun h => decide (0 ≤ pos (lvs bs) h)) xss[i].2 = some (a : Int) ∧ nx xss bs i = (a : Int) ∧ fstB bs xss[i].2 = (a : Int) ∧ bs.getD a false = true := by
  obtain ⟨h1, h2⟩ := h.all i hi
  obtain ⟨j, e⟩ := hs
  have hj := lvN_lt (lvN_mem.2 e)
  have hsome : (fstI (fun h => bs.getD h.toNat false) xss[i].2).isSome = true := by
    unfold fstI
    rw [List.find?_isSome]
    exact ⟨(j : Int), h2 j (by omega), by simpa using e⟩
  obtain ⟨z, hz⟩ := Option.isSome_iff_exists.1 hsome
  have hzm : z ∈ xss[i].2 := List.mem_of_find?_eq_some hz
  have hzp := List.find?_some hz
  have hzb := h1 z hzm
  have hcg : fstI (fun h => decide (0 ≤ pos (lvs bs) h)) xss[i].2 = fstI (fun h => bs.getD h.toNat false) xss[i].2 := fstI_same5 fun x hx => by
    have hxb := h1 x hx
    cases hb : bs.getD x.toNat false with
    | true => exact decide_eq_true (pos_iff.2 (lvs_mem.2 ⟨x.toNat, by omega, hb⟩))
    | false =>
      refine decide_eq_false fun hp => ?_
      obtain ⟨y, e1, e3⟩ := lvs_mem.1 (pos_iff.1 hp)
      have : x.toNat = y := by omega
      rw [this, e3] at hb
      exact Bool.noConfusion hb
  have hf : fstB bs xss[i].2 = (z.toNat : Int) := by unfold fstB; rw [hz]; simp only [Option.getD_some]; omega
  refine ⟨z.toNat, by omega, ?_, ?_, hf, hzp⟩
  · rw [hcg, hz]; congr 1; omega
  · unfold nx nxL; rw [Int.toNat_natCast, show xss.getD i (true, []) = xss[i] by simp [List.getD_eq_getElem?_getD, hi], hcg, hz]
    simp only [Option.getD_some]; omega

/-- The way of a person until it closes, or comes to one who was met. -/
def cyI (f : Int → Int) (i : Int) : Nat → List Int → Int → Option (List Int)
  | 0, _, _ => none
  | k + 1, pre, cur => if cur ∈ pre then none else if f cur = i then some (pre ++ [cur]) else cyI f i k (pre ++ [cur]) (f cur)
/-- .. or to a lesser one than the first. -/
def cyS (f : Int → Int) (i : Int) : Nat → List Int → Int → Option (List Int)
  | 0, _, _ => none
  | k + 1, pre, cur => if f cur = i then some (pre ++ [cur]) else if f cur < i ∨ f cur ∈ pre ++ [cur] then none else cyS f i k (pre ++ [cur]) (f cur)

theorem cyI_sup {f : Int → Int} {i : Int} : ∀ {k : Nat} {pre : List Int} {cur : Int} {r : List Int}, cyI f i k pre cur = some r → ∀ x ∈ pre ++ [cur], x ∈ r
  | 0, _, _, _, h => by simp [cyI] at h
  | k + 1, pre, cur, r, h => by
    unfold cyI at h
    split at h
    · cases h
    · split at h
      · cases h; exact fun x hx => hx
      · exact fun x hx => cyI_sup h x (List.mem_append_left _ hx)
theorem cy_link {f : Int → Int} {i : Int} : ∀ {k : Nat} {pre : List Int} {cur : Int}, cur ∉ pre → (∀ x ∈ pre ++ [cur], i ≤ x) →
    cyS f i k pre cur = (cyI f i k pre cur).filter fun r => r.all fun x => decide (i ≤ x)
  | 0, _, _, _, _ => rfl
  | k + 1, pre, cur, hn, h => by
    unfold cyI cyS
    rw [if_neg hn]
    by_cases e : f cur = i
    · rw [if_pos e, if_pos e, Option.filter_some, if_pos]
      exact List.all_eq_true.2 fun x hx => decide_eq_true (h x hx)
    rw [if_neg e, if_neg e]
    by_cases e1 : f cur ∈ pre ++ [cur]
    · rw [if_pos (Or.inr e1)]
      cases k with
      | zero => rfl
      | succ k => unfold cyI; rw [if_pos e1]; rfl
    by_cases e2 : f cur < i
    · rw [if_pos (Or.inl e2)]
      cases hc : cyI f i k (pre ++ [cur]) (f cur) with
      | none => rfl
      | some r =>
        have := cyI_sup hc (f cur) (by simp)
        rw [Option.filter_some, if_neg]
        intro ha
        have := of_decide_eq_true (List.all_eq_true.1 ha _ this)
        omega
    rw [if_neg (fun h => h.elim e2 e1)]
    refine cy_link e1 fun x hx => ?_
    rcases List.mem_append.1 hx with hx | hx
    · exact h x hx
    · obtain rfl : x = f cur := by simpa using hx
      omega

/-- What a cycle is: it starts with its least member, each member but the last points to the next one, the last to the first; nobody stands twice. -/
structure Cyc (f : Int → Int) (i : Int) (r : List Int) : Prop where
  hd : r.head? = some i
  nd : r.Nodup
  ge : ∀ x ∈ r, i ≤ x
  cl : ∀ x ∈ r, f x ∈ r
  dn : ∀ S : Int → Prop, (∀ x, S x → S (f x)) → ∀ x ∈ r, S x → S i
theorem cyS_cyc {f : Int → Int} {i : Int} : ∀ {k : Nat} {pre : List Int} {cur : Int} {r : List Int}, cyS f i k pre cur = some r → (pre ++ [cur]).Nodup → (∀ x ∈ pre ++ [cur], i ≤ x) → (pre ++ [cur]).head? = some i →
    (∀ x ∈ pre, f x ∈ pre ++ [cur]) → (∀ S : Int → Prop, (∀ x, S x → S (f x)) → ∀ x ∈ pre, S x → S cur) → Cyc f i r
  | 0, _, _, _, h, _, _, _, _, _ => by simp [cyS] at h
  | k + 1, pre, cur, r, h, h1, h2, h3, h4, h5 => by
    unfold cyS at h
    split at h
    · rename_i e
      cases h
      refine ⟨h3, h1, h2, fun x hx => ?_, fun S hS x hx hs => ?_⟩
      · rcases List.mem_append.1 hx with hx | hx
        · exact h4 x hx
        · obtain rfl : x = cur := by simpa using hx
          rw [e]
          exact List.mem_of_mem_head? h3
      · have : S cur := by
          rcases List.mem_append.1 hx with hx | hx
          · exact h5 S hS x hx hs
          · obtain rfl : x = cur := by simpa using hx
            exact hs
        have := hS _ this
        rwa [e] at this
    · split at h
      · cases h
      · rename_i e1 e2
        rw [not_or] at e2
        refine cyS_cyc h ?_ ?_ ?_ ?_ ?_
        · rw [List.nodup_append]
          exact ⟨h1, by simp, fun a ha b hb => by obtain rfl : b = f cur := by simpa using hb
                                                  exact fun e => e2.2 (e ▸ ha)⟩
        · intro x hx
          rcases List.mem_append.1 hx with hx | hx
          · exact h2 x hx
          · obtain rfl : x = f cur := by simpa using hx
            omega
        · rw [List.head?_append, h3]; rfl
        · intro x hx
          rcases List.mem_append.1 hx with hx | hx
          · exact List.mem_append_left _ (h4 x hx)
          · obtain rfl : x = cur := by simpa using hx
            simp
        · intro S hS x hx hs
          rcases List.mem_append.1 hx with hx | hx
          · exact hS _ (h5 S hS x hx hs)
          · obtain rfl : x = cur := by simpa using hx
            exact hS _ hs
theorem cyS_in {f : Int → Int} {i : Int} {L : Int → Prop} (hL : ∀ x, L x → L (f x)) : ∀ {k : Nat} {pre : List Int} {cur : Int} {r : List Int}, cyS f i k pre cur = some r → (∀ x ∈ pre ++ [cur], L x) → ∀ x ∈ r, L x
  | 0, _, _, _, h, _ => by simp [cyS] at h
  | k + 1, pre, cur, r, h, h1 => by
    unfold cyS at h
    split at h
    · cases h; exact h1
    · split at h
      · cases h
      · refine cyS_in hL h fun x hx => ?_
        rcases List.mem_append.1 hx with hx | hx
        · exact h1 x hx
        · obtain rfl : x = f cur := by simpa using hx
          exact hL _ (h1 cur (by simp))
theorem cyc_of {f : Int → Int} {i : Int} {k : Nat} {r : List Int} (h : cyS f i k [] i = some r) : Cyc f i r :=
  cyS_cyc h (by simp) (by simp) rfl (by simp) (by simp)

/-- Two cycles that share a member are one. -/
theorem cyc_one {f : Int → Int} {i j : Int} {r s : List Int} (hr : Cyc f i r) (hs : Cyc f j s) {x : Int} (h1 : x ∈ r) (h2 : x ∈ s) : i = j := by
  have a := hs.ge i (hr.dn (fun x => x ∈ s) hs.cl x h1 h2)
  have b := hr.ge j (hs.dn (fun x => x ∈ r) hr.cl x h2 h1)
  omega

theorem nodup_leI : ∀ {L M : List Int}, L.Nodup → (∀ x ∈ L, x ∈ M) → L.length ≤ M.length
  | [], _, _, _ => Nat.zero_le _
  | a :: L, M, h, hs => by
    have ha : a ∈ M := hs a (by simp)
    have h1 := List.nodup_cons.1 h
    have := nodup_leI (L := L) (M := M.erase a) h1.2 fun x hx => by
      have hxa : x ≠ a := fun e => h1.1 (e ▸ hx)
      exact (List.mem_erase_of_ne hxa).2 (hs x (by simp [hx]))
    rw [List.length_erase_of_mem ha] at this
    have hp : 0 < M.length := List.length_pos_of_mem ha
    simp; omega

/-- Where the way of m does not close, a lesser closed set does without m. -/
theorem way_small {f : Int → Int} {m : Int} {S S0 : List Int} (hS : ∀ x ∈ S, x ∈ S0) (hm : m ∈ S) (hmin : ∀ x ∈ S, m ≤ x) (hcl : ∀ x ∈ S, f x ∈ S) : ∀ {k : Nat} {pre : List Int} {cur : Int},
    cyS f m k pre cur = none → (pre ++ [cur]).Nodup → (∀ x ∈ pre ++ [cur], x ∈ S) → (pre ++ [cur]).head? = some m → S0.length < k + pre.length →
    (∀ a (ha : a + 1 < (pre ++ [cur]).length), f ((pre ++ [cur])[a]'(by omega)) = (pre ++ [cur])[a + 1]) →
    ∃ T : List Int, T ≠ [] ∧ (∀ x ∈ T, x ∈ S) ∧ m ∉ T ∧ ∀ x ∈ T, f x ∈ T
  | 0, pre, cur, _, h1, h2, _, h4, _ => by
    have := nodup_leI h1 (fun x hx => hS x (h2 x hx))
    simp at this; omega
  | k + 1, pre, cur, h, h1, h2, h3, h4, h5 => by
    unfold cyS at h
    split at h
    · cases h
    rename_i e
    have hfc : f cur ∈ S := hcl _ (h2 _ (by simp))
    split at h
    · rename_i e2
      have e3 : f cur ∈ pre ++ [cur] := by
        rcases e2 with e2 | e2
        · have := hmin _ hfc; omega
        · exact e2
      obtain ⟨b, hb, eb⟩ := List.getElem_of_mem e3
      have hb0 : b ≠ 0 := by
        intro h0
        subst h0
        rw [List.head?_eq_getElem?, List.getElem?_eq_getElem hb] at h3
        have := Option.some.inj h3
        omega
      have hml : ∃ h0 : 0 < (pre ++ [cur]).length, (pre ++ [cur])[0] = m := by
        rw [List.head?_eq_getElem?] at h3
        have h0 : 0 < (pre ++ [cur]).length := by simp
        rw [List.getElem?_eq_getElem h0] at h3
        exact ⟨h0, Option.some.inj h3⟩
      obtain ⟨h0, hm0⟩ := hml
      refine ⟨(pre ++ [cur]).drop b, by simp at hb ⊢; omega, fun x hx => h2 x (List.mem_of_mem_drop hx), fun hmd => ?_, fun x hx => ?_⟩
      · obtain ⟨c, hc, ec⟩ := List.getElem_of_mem hmd
        rw [List.getElem_drop] at ec
        have hc' : b + c < (pre ++ [cur]).length := by simp at hc ⊢; omega
        rw [List.nodup_iff_pairwise_ne, List.pairwise_iff_getElem] at h1
        exact h1 0 (b + c) h0 hc' (by omega) (by rw [ec, hm0])
      · obtain ⟨c, hc, rfl⟩ := List.getElem_of_mem hx
        rw [List.getElem_drop]
        have hc' : b + c < (pre ++ [cur]).length := by simp at hc ⊢; omega
        by_cases hl : b + c + 1 < (pre ++ [cur]).length
        · rw [h5 (b + c) hl]
          refine List.mem_iff_getElem.2 ⟨c + 1, by simp at hl ⊢; omega, ?_⟩
          rw [List.getElem_drop]; congr 1
        · have hlast : b + c = pre.length := by simp at hl hc'; omega
          have : (pre ++ [cur])[b + c] = cur := by simp [hlast]
          rw [this, ← eb]
          refine List.mem_iff_getElem.2 ⟨0, by simp at hb ⊢; omega, ?_⟩
          rw [List.getElem_drop]; congr 1
    · rename_i e2
      rw [not_or] at e2
      refine way_small hS hm hmin hcl h ?_ ?_ ?_ (by simp; omega) ?_
      · rw [List.nodup_append]
        exact ⟨h1, by simp, fun a ha b hb => by obtain rfl : b = f cur := by simpa using hb
                                                exact fun e => e2.2 (e ▸ ha)⟩
      · intro x hx
        rcases List.mem_append.1 hx with hx | hx
        · exact h2 x hx
        · obtain rfl : x = f cur := by simpa using hx
          exact hfc
      · rw [List.head?_append, h3]; rfl
      · intro a ha
        by_cases hl : a + 1 < (pre ++ [cur]).length
        · have := h5 a hl
          rw [List.getElem_append_left (by omega), List.getElem_append_left hl]
          exact this
        · have ea : a = pre.length := by simp at ha hl; omega
          subst ea
          simp

theorem least {S : List Int} (h : S ≠ []) : ∃ m ∈ S, ∀ x ∈ S, m ≤ x := by
  induction S with
  | nil => exact absurd rfl h
  | cons a l ih =>
    by_cases hl : l = []
    · subst hl; exact ⟨a, by simp, by simp⟩
    · obtain ⟨m, hm, hx⟩ := ih hl
      by_cases e : a ≤ m
      · exact ⟨a, by simp, fun x hx' => by rcases List.mem_cons.1 hx' with rfl | h'; exact Int.le_refl _; have := hx x h'; omega⟩
      · exact ⟨m, by simp [hm], fun x hx' => by rcases List.mem_cons.1 hx' with rfl | h'; omega; exact hx x h'⟩

theorem cyc_ex {f : Int → Int} : ∀ (c : Nat) (S0 S : List Int), S0.length ≤ c → S ≠ [] → (∀ x ∈ S, x ∈ S0) → (∀ x ∈ S, f x ∈ S) → ∀ k, c < k → ∃ i ∈ S, cyS f i k [] i ≠ none
  | 0, S0, S, h, hne, hS, _, _, _ => by
    have : S0 = [] := List.eq_nil_of_length_eq_zero (by omega)
    subst this
    cases S with
    | nil => exact absurd rfl hne
    | cons a l => exact absurd (hS a (by simp)) (by simp)
  | c + 1, S0, S, h, hne, hS, hcl, k, hk => by
    obtain ⟨m, hm, hmin⟩ := least hne
    cases hc : cyS f m k [] m with
    | some r => exact ⟨m, hm, by rw [hc]; simp⟩
    | none =>
      obtain ⟨T, t1, t2, t3, t4⟩ := way_small hS hm hmin hcl hc (by simp) (by simpa using hm) rfl (by simp; omega) (by simp)
      have hl : (S0.filter fun x => x != m).length < S0.length := by
        rcases Nat.lt_or_ge (S0.filter fun x => x != m).length S0.length with h' | h'
        · exact h'
        · have := List.length_filter_eq_length_iff.1 (Nat.le_antisymm (List.length_filter_le _ _) h') m (hS m hm)
          simp at this
      obtain ⟨i, hi, hx⟩ := cyc_ex c (S0.filter fun x => x != m) T (by omega) t1 (fun x hx => List.mem_filter.2 ⟨hS x (t2 x hx), by simpa using fun (e : x = m) => t3 (by rw [← e]; exact hx)⟩) t4 k (by omega)
      exact ⟨i, t2 i hi, hx⟩

/-- The cycles of a round. -/
def cyc1 (xss : List (Bool × List Int)) (bs : List Bool) (i : Nat) : Option (List Int) := cyS (nx xss bs) i (xss.length + 1) [] i
def cycs (xss : List (Bool × List Int)) (bs : List Bool) (l : List Nat) : List (List Int) := l.filterMap (cyc1 xss bs)
def knock (bs : List Bool) (l : List Int) : List Bool := l.foldl (fun b x => b.set x.toNat false) bs
theorem knock_len {l : List Int} : ∀ {bs : List Bool}, (knock bs l).length = bs.length := by
  induction l with
  | nil => intro bs; rfl
  | cons a l ih => intro bs; show (knock (bs.set a.toNat false) l).length = _; rw [ih]; simp
theorem knock_get {l : List Int} : ∀ {bs : List Bool} {i : Nat}, (∀ x ∈ l, 0 ≤ x) → (knock bs l).getD i false = (bs.getD i false && !decide ((i : Int) ∈ l)) := by
  induction l with
  | nil => intro bs i _; simp [knock]
  | cons a l ih =>
    intro bs i h
    have h0 := h a (by simp)
    show (knock (bs.set a.toNat false) l).getD i false = _
    rw [ih fun x hx => h x (by simp [hx])]
    by_cases e : (i : Int) = a
    · have e' : a.toNat = i := by omega
      have : (bs.set a.toNat false).getD i false = false := by
        rw [e', List.getD_eq_getElem?_getD, List.getElem?_set]
        split
        · split <;> rfl
        · rename_i h; exact absurd rfl h
      rw [this]; simp [e]
    · have e' : a.toNat ≠ i := by omega
      have : (bs.set a.toNat false).getD i false = bs.getD i false := by
        rw [List.getD_eq_getElem?_getD, List.getElem?_set_ne e', ← List.getD_eq_getElem?_getD]
      rw [this]; simp [e]
theorem knock_count {l : List Int} : ∀ {bs : List Bool}, l.Nodup → (∀ x ∈ l, 0 ≤ x ∧ bs.getD x.toNat false = true) → (knock bs l).count true + l.length = bs.count true := by
  induction l with
  | nil => intro bs _ _; rfl
  | cons a l ih =>
    intro bs hn h
    obtain ⟨h0, h1⟩ := h a (by simp)
    have hl := lvN_lt (lvN_mem.2 h1)
    have hn' := List.nodup_cons.1 hn
    show (knock (bs.set a.toNat false) l).count true + _ = _
    have := ih (bs := bs.set a.toNat false) hn'.2 fun x hx => by
      obtain ⟨h2, h3⟩ := h x (by simp [hx])
      have e' : a.toNat ≠ x.toNat := fun e => hn'.1 (by rw [show a = x by omega]; exact hx)
      exact ⟨h2, by rw [List.getD_eq_getElem?_getD, List.getElem?_set_ne e', ← List.getD_eq_getElem?_getD]; exact h3⟩
    have hg : bs[a.toNat] = true := by simpa [List.getD_eq_getElem?_getD, hl] using h1
    have hc : (bs.set a.toNat false).count true = bs.count true - 1 := by rw [List.count_set hl]; simp [hg]
    have hp : 0 < bs.count true := List.count_pos_iff.2 (by rw [← hg]; exact List.getElem_mem hl)
    rw [List.length_cons]; omega

/-- A round. -/
def tcS (xss : List (Bool × List Int)) (s : List Bool × List (List Int)) : List Bool × List (List Int) :=
  (knock s.1 (cycs xss s.1 (lvN s.1)).flatten, s.2 ++ cycs xss s.1 (lvN s.1))
def tcT (xss : List (Bool × List Int)) : Nat → List Bool × List (List Int)
  | 0 => (List.replicate xss.length true, [])
  | r + 1 => if (tcT xss r).1.count true = 0 then tcT xss r else tcS xss (tcT xss r)
structure TcOk (xss : List (Bool × List Int)) (s : List Bool × List (List Int)) : Prop where
  bl : s.1.length = xss.length
  cnt : s.1.count true + s.2.flatten.length = xss.length
  one : s.2.length ≤ s.2.flatten.length
  rng : ∀ c ∈ s.2, ∀ x ∈ c, 0 ≤ x ∧ x < xss.length

theorem some_left {bs : List Bool} (h : bs.count true ≠ 0) : ∃ j : Nat, bs.getD j false = true := by
  obtain ⟨j, hj, e⟩ := List.getElem_of_mem (List.count_pos_iff.1 (Nat.pos_of_ne_zero h))
  exact ⟨j, by simp [List.getD_eq_getElem?_getD, hj, e]⟩
theorem none_left {bs : List Bool} (h : bs.count true = 0) : lvN bs = [] := by
  rw [List.eq_nil_iff_forall_not_mem]
  intro i hi
  have h1 := lvN_mem.1 hi
  have hl := lvN_lt hi
  have hg : bs[i] = true := by simpa [List.getD_eq_getElem?_getD, hl] using h1
  have : 0 < bs.count true := List.count_pos_iff.2 (by rw [← hg]; exact List.getElem_mem hl)
  omega
theorem nx_in {xss : List (Bool × List Int)} {bs : List Bool} (h : H5 xss) (hb : bs.length = xss.length) {x : Int} (hx : x ∈ lvs bs) : nx xss bs x ∈ lvs bs := by
  obtain ⟨i, rfl, e⟩ := lvs_mem.1 hx
  have hl := lvN_lt (lvN_mem.2 e)
  obtain ⟨a, _, _, h2, _, h3⟩ := nx_at h hb ⟨i, e⟩ (i := i) (by omega)
  rw [h2]
  exact lvs_mem.2 ⟨a, rfl, h3⟩
theorem cyc1_in {xss : List (Bool × List Int)} {bs : List Bool} (h : H5 xss) (hb : bs.length = xss.length) {i : Nat} (hi : i ∈ lvN bs) {r : List Int} (hr : cyc1 xss bs i = some r) : ∀ x ∈ r, x ∈ lvs bs :=
  cyS_in (L := fun x => x ∈ lvs bs) (fun _ hx => nx_in h hb hx) hr (by simpa using lvs_mem.2 ⟨i, rfl, lvN_mem.1 hi⟩)
theorem lvN_nodup {bs : List Bool} : (lvN bs).Nodup := List.Nodup.sublist List.filter_sublist List.nodup_range
theorem cycs_in {xss : List (Bool × List Int)} {bs : List Bool} (h : H5 xss) (hb : bs.length = xss.length) {l : List Nat} (hl : ∀ i ∈ l, i ∈ lvN bs) : ∀ c ∈ cycs xss bs l, c ≠ [] ∧ ∀ x ∈ c, x ∈ lvs bs := by
  intro c hc
  obtain ⟨i, hi, e⟩ := List.mem_filterMap.1 hc
  refine ⟨?_, cyc1_in h hb (hl i hi) e⟩
  have := (cyc_of e).hd
  intro h0
  rw [h0] at this; cases this
theorem cycs_nodup {xss : List (Bool × List Int)} {bs : List Bool} : ∀ {l : List Nat}, l.Nodup → (cycs xss bs l).flatten.Nodup
  | [], _ => by simp [cycs]
  | a :: l, h => by
    have h1 := List.nodup_cons.1 h
    have ih := cycs_nodup (xss := xss) (bs := bs) h1.2
    cases e : cyc1 xss bs a with
    | none => simpa [cycs, e] using ih
    | some r =>
      have ec : cycs xss bs (a :: l) = r :: cycs xss bs l := by simp [cycs, e]
      rw [ec, List.flatten_cons, List.nodup_append]
      refine ⟨(cyc_of e).nd, ih, fun x hx y hy hxy => ?_⟩
      subst hxy
      obtain ⟨s, hs, hxs⟩ := List.mem_flatten.1 hy
      obtain ⟨j, hj, e2⟩ := List.mem_filterMap.1 hs
      have := cyc_one (cyc_of e) (cyc_of e2) hx hxs
      exact h1.1 (by rw [show a = j by omega]; exact hj)
theorem flat_ge {L : List (List Int)} (h : ∀ c ∈ L, c ≠ []) : L.length ≤ L.flatten.length := by
  induction L with
  | nil => simp
  | cons a l ih =>
    have h1 := ih fun c hc => h c (by simp [hc])
    have h2 := List.length_pos_iff.2 (h a (by simp))
    rw [List.flatten_cons, List.length_append, List.length_cons]; omega
theorem tcS_ok {xss : List (Bool × List Int)} {s : List Bool × List (List Int)} (h : H5 xss) (hs : TcOk xss s) : TcOk xss (tcS xss s) := by
  have hin := cycs_in h hs.bl (l := lvN s.1) (fun _ h => h)
  have hfl : ∀ x ∈ (cycs xss s.1 (lvN s.1)).flatten, x ∈ lvs s.1 := fun x hx => by
    obtain ⟨c, hc, hx⟩ := List.mem_flatten.1 hx
    exact (hin c hc).2 x hx
  have hk := knock_count (bs := s.1) (cycs_nodup (xss := xss) (bs := s.1) (lvN_nodup (bs := s.1))) fun x hx => by
    obtain ⟨i, rfl, e⟩ := lvs_mem.1 (hfl x hx)
    exact ⟨by omega, by simpa using e⟩
  have hc := hs.cnt
  have h1 := hs.one
  have h2 := flat_ge fun c hc => (hin c hc).1
  refine ⟨by simp [tcS, knock_len, hs.bl], ?_, ?_, fun c hc => ?_⟩
  · simp only [tcS, List.flatten_append, List.length_append]; omega
  · simp only [tcS, List.flatten_append, List.length_append]; omega
  · simp only [tcS, List.mem_append] at hc
    rcases hc with hc | hc
    · exact hs.rng c hc
    · intro x hx
      obtain ⟨i, rfl, e⟩ := lvs_mem.1 ((hin c hc).2 x hx)
      have := lvN_lt (lvN_mem.2 e)
      have := hs.bl
      omega
theorem tcT_ok {xss : List (Bool × List Int)} (h : H5 xss) : ∀ {r : Nat}, TcOk xss (tcT xss r)
  | 0 => ⟨by simp [tcT], by simp [tcT], by simp [tcT], by simp [tcT]⟩
  | r + 1 => by
    unfold tcT
    split
    · exact tcT_ok h
    · exact tcS_ok h (tcT_ok h)
theorem tcS_less {xss : List (Bool × List Int)} {s : List Bool × List (List Int)} (h : H5 xss) (hs : TcOk xss s) (hn : s.1.count true ≠ 0) : (tcS xss s).1.count true < s.1.count true := by
  obtain ⟨j, hj⟩ := some_left hn
  have hl := lvs_len (bs := s.1)
  have hbl := hs.bl
  have hjm : (j : Int) ∈ lvs s.1 := lvs_mem.2 ⟨j, rfl, hj⟩
  obtain ⟨i, hi, hx⟩ := cyc_ex (f := nx xss s.1) xss.length (lvs s.1) (lvs s.1) (by omega) (List.ne_nil_of_mem hjm) (fun _ h => h) (fun x hx => nx_in h hbl hx) (xss.length + 1) (by omega)
  obtain ⟨a, rfl, ha⟩ := lvs_mem.1 hi
  obtain ⟨c, hc⟩ := Option.ne_none_iff_exists'.1 hx
  have hm : c ∈ cycs xss s.1 (lvN s.1) := List.mem_filterMap.2 ⟨a, lvN_mem.2 ha, hc⟩
  have h1 := (tcS_ok h hs).cnt
  have h2 := hs.cnt
  simp only [tcS, List.flatten_append, List.length_append] at h1
  have h3 : 0 < (cycs xss s.1 (lvN s.1)).flatten.length := by
    have hin := cycs_in h hbl (l := lvN s.1) (fun _ h => h)
    have := flat_ge fun c hc => (hin c hc).1
    have := List.length_pos_of_mem hm
    omega
  show (knock s.1 _).count true < _
  omega
theorem tcT_cnt {xss : List (Bool × List Int)} (h : H5 xss) : ∀ {r : Nat}, r ≤ xss.length → (tcT xss r).1.count true + r ≤ xss.length ∨ (tcT xss r).1.count true = 0
  | 0, _ => Or.inl (by simp [tcT])
  | r + 1, hr => by
    unfold tcT
    split
    · exact Or.inr (by assumption)
    · rename_i hn
      have := tcS_less h (tcT_ok h) hn
      rcases tcT_cnt h (r := r) (by omega) with h1 | h1
      · left; omega
      · exact absurd h1 hn
/-- All cycles. -/
def tcA (xss : List (Bool × List Int)) : List (List Int) := (tcT xss xss.length).2
theorem tcT_stay {xss : List (Bool × List Int)} {r : Nat} (h : (tcT xss r).1.count true = 0) : ∀ d, tcT xss (r + d) = tcT xss r
  | 0 => rfl
  | d + 1 => by
    have ih := tcT_stay h d
    have e : tcT xss ((r + d) + 1) = if (tcT xss (r + d)).1.count true = 0 then tcT xss (r + d) else tcS xss (tcT xss (r + d)) := rfl
    show tcT xss ((r + d) + 1) = _
    rw [e, ih, if_pos h]
theorem tcT_end {xss : List (Bool × List Int)} (h : H5 xss) {r : Nat} (hr : r ≤ xss.length) (h0 : (tcT xss r).1.count true = 0) : (tcT xss r).2 = tcA xss := by
  have := tcT_stay h0 (xss.length - r)
  rw [show r + (xss.length - r) = xss.length by omega] at this
  unfold tcA; rw [this]

end Go.Proofs.YtiieikknhheffaaGreatDoor.Ax

/-
  The plain side of the proposals: who is whose, who is asked next; that all are married at the end. Plain Lean, no program in sight.
-/
namespace Go.Proofs.YtiieikknhheffaaGreatDoor.Ax
open Go Go.RowKit
set_option linter.unusedSimpArgs false
set_option linter.unusedVariables false

/-- a stands ahead of b. -/
def pfB (l : List Int) (a b : Int) : Bool := decide (0 ≤ pos l a) && decide (0 ≤ pos l b) && decide (pos l a < pos l b)

structure Gs where
  wm : List Int
  mn : List Int
  ak : List Int
  ct : Nat

def rw2 (xs : List (Bool × List Int)) (i : Int) : List Int := (xs.getD i.toNat (true, [])).2
def at1 (l : List Int) (i : Int) : Int := l.getD i.toNat 0
/-- Who is free first; whom he asks. -/
def gsI (s : Gs) : Int := pos s.wm (-1)
def gsW (xs : List (Bool × List Int)) (s : Gs) : Int := at1 (rw2 xs (gsI s)) (at1 s.ak (gsI s))
def gsN (xs ys : List (Bool × List Int)) (s : Gs) : Bool := decide (0 ≤ at1 s.mn (gsW xs s)) && pfB (rw2 ys (gsW xs s)) (at1 s.mn (gsW xs s)) (gsI s)
def gsA (s : Gs) : List Int := s.ak.set (gsI s).toNat (at1 s.ak (gsI s) + 1)
def gsL (xs : List (Bool × List Int)) (s : Gs) : List Int := if 0 ≤ at1 s.mn (gsW xs s) then s.wm.set (at1 s.mn (gsW xs s)).toNat (-1) else s.wm
def gsS (xs ys : List (Bool × List Int)) (s : Gs) : Gs :=
  if gsN xs ys s = true then ⟨s.wm, s.mn, gsA s, s.ct + 1⟩ else ⟨(gsL xs s).set (gsI s).toNat (gsW xs s), s.mn.set (gsW xs s).toNat (gsI s), gsA s, s.ct + 1⟩
def gsT (xs ys : List (Bool × List Int)) : Nat → Gs
  | 0 => ⟨List.replicate xs.length (-1), List.replicate xs.length (-1), List.replicate xs.length 0, 0⟩
  | k + 1 => if gsI (gsT xs ys k) < 0 then gsT xs ys k else gsS xs ys (gsT xs ys k)

def sumI : List Int → Int
  | [] => 0
  | a :: l => a + sumI l
theorem sumI_set : ∀ {l : List Int} {i : Nat} {a : Int}, i < l.length → sumI (l.set i a) = sumI l - l.getD i 0 + a
  | x :: l, 0, a, _ => by simp [sumI]; omega
  | x :: l, i + 1, a, h => by
    have := sumI_set (l := l) (i := i) (a := a) (by simpa using h)
    simp only [List.set_cons_succ, sumI, this, List.getD_cons_succ]; omega
theorem sumI_le : ∀ {l : List Int} {m : Nat}, (∀ x ∈ l, x ≤ (m : Int)) → sumI l ≤ ((m * l.length : Nat) : Int)
  | [], m, _ => by simp [sumI]
  | x :: l, m, h => by
    have h1 := sumI_le (l := l) (m := m) fun y hy => h y (by simp [hy])
    have h2 := h x (by simp)
    rw [sumI, List.length_cons, Nat.mul_succ]; omega
theorem sumI_rep : ∀ {n : Nat}, sumI (List.replicate n 0) = 0
  | 0 => rfl
  | n + 1 => by rw [List.replicate_succ, sumI, sumI_rep]; rfl

theorem at1_set {l : List Int} {i j a : Int} (hi : 0 ≤ i) (hil : i.toNat < l.length) (hj : 0 ≤ j) : at1 (l.set i.toNat a) j = if j = i then a else at1 l j := by
  unfold at1
  by_cases e : j = i
  · subst e; rw [if_pos rfl]; simp [List.getD_eq_getElem?_getD, hil]
  · rw [if_neg e, List.getD_eq_getElem?_getD, List.getElem?_set_ne (by omega), ← List.getD_eq_getElem?_getD]
theorem at1_mem {l : List Int} {i : Int} (h : 0 ≤ i) (hl : i.toNat < l.length) : at1 l i ∈ l := by
  unfold at1; rw [List.getD_eq_getElem?_getD, List.getElem?_eq_getElem hl]; exact List.getElem_mem hl

/-- Rankings on both sides. -/
structure Mk (xs ys : List (Bool × List Int)) : Prop where
  hx : H5 xs
  hy : H5 ys
  len : ys.length = xs.length

structure GOk (xs ys : List (Bool × List Int)) (s : Gs) : Prop where
  wl : s.wm.length = xs.length
  ml : s.mn.length = xs.length
  al : s.ak.length = xs.length
  wr : ∀ i, 0 ≤ i → i < (xs.length : Int) → at1 s.wm i = -1 ∨ (0 ≤ at1 s.wm i ∧ at1 s.wm i < xs.length ∧ at1 s.mn (at1 s.wm i) = i)
  mr : ∀ w, 0 ≤ w → w < (xs.length : Int) → at1 s.mn w = -1 ∨ (0 ≤ at1 s.mn w ∧ at1 s.mn w < xs.length ∧ at1 s.wm (at1 s.mn w) = w)
  ar : ∀ i, 0 ≤ i → i < (xs.length : Int) → 0 ≤ at1 s.ak i ∧ at1 s.ak i ≤ xs.length
  ap : ∀ i, 0 ≤ i → i < (xs.length : Int) → ∀ j, 0 ≤ j → j < at1 s.ak i → 0 ≤ at1 s.mn (at1 (rw2 xs i) j)
  ct : (s.ct : Int) = sumI s.ak

theorem row_h5 {xs : List (Bool × List Int)} (h : H5 xs) (hr : ∀ r ∈ xs, r.2.length = xs.length) {i j : Int} (hi : 0 ≤ i) (hil : i < xs.length) (hj : 0 ≤ j) (hjl : j < xs.length) : 0 ≤ at1 (rw2 xs i) j ∧ at1 (rw2 xs i) j < xs.length := by
  have e : rw2 xs i = xs[i.toNat].2 := by unfold rw2; simp [List.getD_eq_getElem?_getD, show i.toNat < xs.length by omega]
  rw [e]
  have hl := hr xs[i.toNat] (List.getElem_mem _)
  exact (h.all i.toNat (by omega)).1 _ (at1_mem hj (by omega))

/-- Who is free. -/
theorem gsI_free {xs ys : List (Bool × List Int)} {s : Gs} (hs : GOk xs ys s) (h : 0 ≤ gsI s) : gsI s < xs.length ∧ at1 s.wm (gsI s) = -1 := by
  unfold gsI at h ⊢
  have hm := pos_iff.1 h
  have key : ∀ (l : List Int) (k : Nat), (-1 : Int) ∈ l → ∃ p : Nat, posFrom (-1) l k = ((k + p : Nat) : Int) ∧ p < l.length ∧ l.getD p 0 = -1 := by
    intro l
    induction l with
    | nil => intro k h; simp at h
    | cons a l ih =>
      intro k h
      by_cases e : a = -1
      · exact ⟨0, by simp [posFrom, e], by simp, by simpa using e⟩
      · obtain ⟨p, h1, h2, h3⟩ := ih (k + 1) ((List.mem_cons.1 h).resolve_left fun h => e h.symm)
        refine ⟨p + 1, ?_, by simp; omega, by simpa using h3⟩
        rw [posFrom, if_neg e, h1]; omega
  obtain ⟨p, h1, h2, h3⟩ := key s.wm 0 hm
  have e : pos s.wm (-1) = (p : Int) := by unfold pos; rw [h1]; omega
  rw [e]
  have := hs.wl
  exact ⟨by omega, by unfold at1; rw [Int.toNat_natCast]; exact h3⟩
/-- He has not asked them all. -/
theorem gs_more {xs ys : List (Bool × List Int)} {s : Gs} (hk : Mk xs ys) (hr : ∀ r ∈ xs, r.2.length = xs.length) (hs : GOk xs ys s) (h : 0 ≤ gsI s) : 0 ≤ at1 s.ak (gsI s) ∧ at1 s.ak (gsI s) < xs.length := by
  obtain ⟨h1, h2⟩ := gsI_free hs h
  generalize gsI s = i at *
  obtain ⟨a1, a2⟩ := hs.ar i h h1
  refine ⟨a1, ?_⟩
  rcases Int.lt_or_le (at1 s.ak i) xs.length with h3 | h3
  · exact h3
  exfalso
  have hall : ∀ w, 0 ≤ w → w < (xs.length : Int) → 0 ≤ at1 s.mn w := by
    intro w hw hwl
    have hmem : w ∈ rw2 xs i := by
      have e : rw2 xs i = xs[i.toNat].2 := by unfold rw2; simp [List.getD_eq_getElem?_getD, show i.toNat < xs.length by omega]
      rw [e]
      have := (hk.hx.all i.toNat (by omega)).2 w.toNat (by omega)
      rwa [Int.toNat_of_nonneg hw] at this
    obtain ⟨j, hj, e⟩ := List.getElem_of_mem hmem
    have hjl : (rw2 xs i).length = xs.length := by
      have e : rw2 xs i = xs[i.toNat].2 := by unfold rw2; simp [List.getD_eq_getElem?_getD, show i.toNat < xs.length by omega]
      rw [e]; exact hr _ (List.getElem_mem _)
    have := hs.ap i h h1 j (by omega) (by omega)
    have e2 : at1 (rw2 xs i) (j : Int) = w := by unfold at1; rw [Int.toNat_natCast, List.getD_eq_getElem?_getD, List.getElem?_eq_getElem hj]; exact e
    rwa [e2] at this
  have hnd : s.mn.Nodup := by
    rw [List.nodup_iff_pairwise_ne, List.pairwise_iff_getElem]
    intro a b ha hb hab e
    have hml := hs.ml
    have ea : at1 s.mn (a : Int) = s.mn[a] := by unfold at1; simp [List.getD_eq_getElem?_getD, ha]
    have eb : at1 s.mn (b : Int) = s.mn[b] := by unfold at1; simp [List.getD_eq_getElem?_getD, hb]
    have xa := (hs.mr a (by omega) (by omega)).resolve_left (by have := hall a (by omega) (by omega); omega)
    have xb := (hs.mr b (by omega) (by omega)).resolve_left (by have := hall b (by omega) (by omega); omega)
    have : at1 s.mn (a : Int) = at1 s.mn (b : Int) := by rw [ea, eb, e]
    have h1 := xa.2.2
    have h2 := xb.2.2
    rw [this, h2] at h1
    omega
  have hle := nodup_leI (L := i :: s.mn) (M := (List.range xs.length).map fun (k : Nat) => (k : Int)) (List.nodup_cons.2 ⟨fun hm => ?_, hnd⟩) fun x hx => ?_
  · have := hs.ml
    simp at hle; omega
  · obtain ⟨w, hw, e⟩ := List.getElem_of_mem hm
    have hml := hs.ml
    have ew : at1 s.mn (w : Int) = s.mn[w] := by unfold at1; simp [List.getD_eq_getElem?_getD, hw]
    have xw := (hs.mr w (by omega) (by omega)).resolve_left (by have := hall w (by omega) (by omega); omega)
    have h3 := xw.2.2
    rw [ew, e, h2] at h3
    omega
  · rcases List.mem_cons.1 hx with rfl | hx
    · exact List.mem_map.2 ⟨x.toNat, List.mem_range.2 (by omega), by omega⟩
    · obtain ⟨w, hw, e⟩ := List.getElem_of_mem hx
      have hml := hs.ml
      have ew : at1 s.mn (w : Int) = s.mn[w] := by unfold at1; simp [List.getD_eq_getElem?_getD, hw]
      have xw := (hs.mr w (by omega) (by omega)).resolve_left (by have := hall w (by omega) (by omega); omega)
      rw [ew, e] at xw
      exact List.mem_map.2 ⟨x.toNat, List.mem_range.2 (by omega), by omega⟩

theorem gsS_ok {xs ys : List (Bool × List Int)} {s : Gs} (hk : Mk xs ys) (hr : ∀ r ∈ xs, r.2.length = xs.length) (hs : GOk xs ys s) (h : 0 ≤ gsI s) : GOk xs ys (gsS xs ys s) ∧ (gsS xs ys s).ct = s.ct + 1 := by
  obtain ⟨h1, h2⟩ := gsI_free hs h
  obtain ⟨m1, m2⟩ := gs_more hk hr hs h
  have hW : 0 ≤ gsW xs s ∧ gsW xs s < xs.length := row_h5 hk.hx hr h h1 m1 m2
  have hwl := hs.wl
  have hml := hs.ml
  have hal := hs.al
  have hA : ∀ j, 0 ≤ j → at1 (gsA s) j = if j = gsI s then at1 s.ak (gsI s) + 1 else at1 s.ak j := fun j hj => at1_set h (by omega) hj
  have hAr : ∀ i, 0 ≤ i → i < (xs.length : Int) → 0 ≤ at1 (gsA s) i ∧ at1 (gsA s) i ≤ xs.length := fun i hi hil => by
    rw [hA i hi]
    have := hs.ar i hi hil
    split <;> omega
  have hAs : ((s.ct + 1 : Nat) : Int) = sumI (gsA s) := by
    have := hs.ct
    unfold gsA
    rw [sumI_set (by omega)]
    unfold at1; omega
  by_cases hN : gsN xs ys s = true
  · have e : gsS xs ys s = ⟨s.wm, s.mn, gsA s, s.ct + 1⟩ := by unfold gsS; rw [if_pos hN]
    rw [e]
    refine ⟨⟨hwl, hml, by simp [gsA, hal], hs.wr, hs.mr, hAr, fun i hi hil j hj hja => ?_, hAs⟩, rfl⟩
    simp only at hja
    rw [hA i hi] at hja
    by_cases e1 : i = gsI s
    · rw [if_pos e1] at hja
      by_cases e2 : j = at1 s.ak (gsI s)
      · rw [e1, e2]
        simp only [gsN, Bool.and_eq_true, decide_eq_true_eq] at hN
        exact hN.1
      · exact hs.ap i hi hil j hj (by rw [e1]; omega)
    · rw [if_neg e1] at hja
      exact hs.ap i hi hil j hj hja
  · have e : gsS xs ys s = ⟨(gsL xs s).set (gsI s).toNat (gsW xs s), s.mn.set (gsW xs s).toNat (gsI s), gsA s, s.ct + 1⟩ := by unfold gsS; rw [if_neg hN]
    rw [e]
    have hWa : gsW xs s = at1 (rw2 xs (gsI s)) (at1 s.ak (gsI s)) := rfl
    generalize hwE : gsW xs s = w at *
    generalize hiE : gsI s = i at *
    have hLl : (gsL xs s).length = xs.length := by unfold gsL; split <;> simp [hwl]
    have hmw := hs.mr w hW.1 hW.2
    have hL : ∀ j, 0 ≤ j → j < (xs.length : Int) → at1 (gsL xs s) j = if at1 s.mn w = j then -1 else at1 s.wm j := fun j hj hjl => by
      unfold gsL
      rw [hwE]
      rcases hmw with hmw | hmw
      · rw [if_neg (by omega), if_neg (by omega)]
      · rw [if_pos hmw.1, at1_set hmw.1 (by omega) hj]
        by_cases e : j = at1 s.mn w
        · rw [if_pos e, if_pos e.symm]
        · rw [if_neg e, if_neg (fun h => e h.symm)]
    have hWm : ∀ j, 0 ≤ j → j < (xs.length : Int) → at1 ((gsL xs s).set i.toNat w) j = if j = i then w else if at1 s.mn w = j then -1 else at1 s.wm j := fun j hj hjl => by
      rw [at1_set h (by omega) hj, hL j hj hjl]
    have hMn : ∀ j, 0 ≤ j → at1 (s.mn.set w.toNat i) j = if j = w then i else at1 s.mn j := fun j hj => at1_set hW.1 (by omega) hj
    refine ⟨⟨by simp [hLl], by simp [hml], by simp [gsA, hal], fun j hj hjl => ?_, fun v hv hvl => ?_, hAr, fun j hj hjl k hk' hka => ?_, hAs⟩, rfl⟩
    · simp only
      rw [hWm j hj hjl]
      by_cases e1 : j = i
      · rw [if_pos e1]
        refine .inr ⟨hW.1, hW.2, ?_⟩
        rw [hMn w hW.1, if_pos rfl, e1]
      · rw [if_neg e1]
        by_cases e2 : at1 s.mn w = j
        · rw [if_pos e2]; exact .inl rfl
        · rw [if_neg e2]
          rcases hs.wr j hj hjl with h3 | ⟨h3, h4, h5⟩
          · exact .inl h3
          · refine .inr ⟨h3, h4, ?_⟩
            rw [hMn _ h3, if_neg (fun e => e2 (by rw [← e]; exact h5))]
            exact h5
    · simp only
      rw [hMn v hv]
      by_cases e1 : v = w
      · rw [if_pos e1]
        refine .inr ⟨h, h1, ?_⟩
        rw [hWm i h h1, if_pos rfl, e1]
      · rw [if_neg e1]
        rcases hs.mr v hv hvl with h3 | ⟨h3, h4, h5⟩
        · exact .inl h3
        · refine .inr ⟨h3, h4, ?_⟩
          rw [hWm _ h3 h4]
          have n1 : at1 s.mn v ≠ i := fun e => by rw [e, h2] at h5; omega
          have n2 : at1 s.mn w ≠ at1 s.mn v := fun e => by
            rcases hmw with hmw | hmw
            · omega
            · have := hmw.2.2
              rw [e, h5] at this; exact e1 this
          rw [if_neg n1, if_neg n2]; exact h5
    · simp only at hka ⊢
      rw [hA j hj] at hka
      have hrng : 0 ≤ at1 (rw2 xs j) k ∧ at1 (rw2 xs j) k < xs.length := row_h5 hk.hx hr hj hjl hk' (by
        have := hs.ar j hj hjl
        split at hka <;> omega)
      rw [hMn _ hrng.1]
      by_cases e1 : at1 (rw2 xs j) k = w
      · rw [if_pos e1]; exact h
      · rw [if_neg e1]
        by_cases e2 : j = i
        · rw [if_pos e2] at hka
          by_cases e3 : k = at1 s.ak i
          · exfalso; apply e1; rw [e2, e3, hWa]
          · exact hs.ap j hj hjl k hk' (by rw [e2]; omega)
        · rw [if_neg e2] at hka
          exact hs.ap j hj hjl k hk' hka

theorem gsT_ok {xs ys : List (Bool × List Int)} (hk : Mk xs ys) (hr : ∀ r ∈ xs, r.2.length = xs.length) : ∀ {k : Nat}, GOk xs ys (gsT xs ys k)
  | 0 => by
    have hrep : ∀ (a : Int) (i : Int), 0 ≤ i → i < (xs.length : Int) → at1 (List.replicate xs.length a) i = a := fun a i hi hil => by
      unfold at1; simp [List.getD_eq_getElem?_getD, show i.toNat < xs.length by omega]
    refine ⟨by simp [gsT], by simp [gsT], by simp [gsT], fun i hi hil => .inl (hrep _ i hi hil), fun i hi hil => .inl (hrep _ i hi hil), fun i hi hil => ?_, fun i hi hil j hj hja => ?_, ?_⟩
    · show 0 ≤ at1 (List.replicate xs.length 0) i ∧ at1 (List.replicate xs.length 0) i ≤ xs.length
      rw [hrep 0 i hi hil]; omega
    · have : at1 (gsT xs ys 0).ak i = 0 := hrep 0 i hi hil
      omega
    · show ((0 : Nat) : Int) = sumI (List.replicate xs.length 0)
      rw [sumI_rep]; rfl
  | k + 1 => by
    rw [gsT]
    split
    · exact gsT_ok hk hr
    · exact (gsS_ok hk hr (gsT_ok hk hr) (by omega)).1
theorem gs_ct {xs ys : List (Bool × List Int)} {s : Gs} (hs : GOk xs ys s) : s.ct ≤ xs.length * xs.length := by
  have h1 := hs.ct
  have h2 := sumI_le (l := s.ak) (m := xs.length) fun x hx => by
    obtain ⟨i, hi, e⟩ := List.getElem_of_mem hx
    have hal := hs.al
    have := (hs.ar i (by omega) (by omega)).2
    unfold at1 at this
    rw [Int.toNat_natCast, List.getD_eq_getElem?_getD, List.getElem?_eq_getElem hi, Option.getD_some, e] at this
    exact this
  rw [hs.al] at h2
  omega
theorem gsT_ct {xs ys : List (Bool × List Int)} (hk : Mk xs ys) (hr : ∀ r ∈ xs, r.2.length = xs.length) : ∀ {k : Nat}, (gsT xs ys k).ct = k ∨ gsI (gsT xs ys k) < 0
  | 0 => .inl rfl
  | k + 1 => by
    rw [gsT]
    split
    · right; assumption
    · rename_i h
      rcases gsT_ct hk hr (k := k) with h1 | h1
      · left; rw [(gsS_ok hk hr (gsT_ok hk hr) (by omega)).2, h1]
      · exact absurd h1 h
/-- The end of the proposals. -/
def gsE (xs ys : List (Bool × List Int)) : Gs := gsT xs ys (xs.length * xs.length + 1)
theorem gsE_end {xs ys : List (Bool × List Int)} (hk : Mk xs ys) (hr : ∀ r ∈ xs, r.2.length = xs.length) : gsI (gsE xs ys) < 0 := by
  rcases gsT_ct hk hr (k := xs.length * xs.length + 1) with h | h
  · have := gs_ct (gsT_ok hk hr (k := xs.length * xs.length + 1)); omega
  · exact h
theorem gsT_stay {xs ys : List (Bool × List Int)} {k : Nat} (h : gsI (gsT xs ys k) < 0) : ∀ d, gsT xs ys (k + d) = gsT xs ys k
  | 0 => rfl
  | d + 1 => by
    have ih := gsT_stay h d
    have e : gsT xs ys ((k + d) + 1) = if gsI (gsT xs ys (k + d)) < 0 then gsT xs ys (k + d) else gsS xs ys (gsT xs ys (k + d)) := rfl
    show gsT xs ys ((k + d) + 1) = _
    rw [e, ih, if_pos h]
theorem gsT_end {xs ys : List (Bool × List Int)} (hk : Mk xs ys) (hr : ∀ r ∈ xs, r.2.length = xs.length) {k : Nat} (h : gsI (gsT xs ys k) < 0) : gsT xs ys k = gsE xs ys := by
  rcases Nat.le_total k (xs.length * xs.length + 1) with h1 | h1
  · have := gsT_stay h (xs.length * xs.length + 1 - k)
    rw [show k + (xs.length * xs.length + 1 - k) = xs.length * xs.length + 1 by omega] at this
    exact this.symm
  · have := gsT_stay (gsE_end hk hr) (k - (xs.length * xs.length + 1))
    unfold gsE
    rw [← this]; congr 1; omega
/-- All are married. -/
theorem gsE_all {xs ys : List (Bool × List Int)} (hk : Mk xs ys) (hr : ∀ r ∈ xs, r.2.length = xs.length) : (gsE xs ys).wm.length = xs.length ∧ (∀ x ∈ (gsE xs ys).wm, 0 ≤ x ∧ x < xs.length) ∧ (gsE xs ys).wm.Nodup := by
  have hs : GOk xs ys (gsE xs ys) := gsT_ok hk hr
  have he := gsE_end hk hr
  generalize gsE xs ys = s at *
  have hno : (-1 : Int) ∉ s.wm := fun h => by have := pos_iff.2 h; unfold gsI at he; omega
  have hwl := hs.wl
  have hat : ∀ i (hi : i < s.wm.length), at1 s.wm (i : Int) = s.wm[i] := fun i hi => by unfold at1; simp [List.getD_eq_getElem?_getD, hi]
  have hall : ∀ i (hi : i < s.wm.length), 0 ≤ s.wm[i] ∧ s.wm[i] < xs.length ∧ at1 s.mn s.wm[i] = i := fun i hi => by
    have := hs.wr i (by omega) (by omega)
    rw [hat i hi] at this
    exact this.resolve_left fun e => hno (by rw [← e]; exact List.getElem_mem hi)
  refine ⟨hwl, fun x hx => ?_, ?_⟩
  · obtain ⟨i, hi, rfl⟩ := List.getElem_of_mem hx
    exact ⟨(hall i hi).1, (hall i hi).2.1⟩
  · rw [List.nodup_iff_pairwise_ne, List.pairwise_iff_getElem]
    intro a b ha hb hab e
    have h1 := (hall a ha).2.2
    have h2 := (hall b hb).2.2
    rw [e] at h1
    omega

end Go.Proofs.YtiieikknhheffaaGreatDoor.Ax
