/-
  Contracts: TransferOrder (the reference). No condition.
-/
import Derived.Test.YtkfgmpmeipilnaaCG82
namespace Go.Proofs.Ytkfgmpmeipilnaa.Ax
open Go Go.RowKit
set_option linter.unusedSimpArgs false

noncomputable def mTOs : List AV → Option AV := mk (fun _ => True) (fun (p : (Bool) × (List (Bool × List Int)) × (Int)) => [intss p.1 p.2.1, int p.2.2]) (fun p => .sl (!(pointsB p.2.1 && inR 0 1 p.2.2)) 1 ((tOrd p.2.1 p.2.2).map int))
theorem mTOs_at (nl : Bool) (xss : List (Bool × List Int)) (fr : Int) : mTOs [.sl nl 1 (xss.map row), .v (.int .i64 fr)] = some (.sl (!(pointsB xss && inR 0 1 fr)) 1 ((tOrd xss fr).map int)) :=
  mk_eq (enc := fun (p : (Bool) × (List (Bool × List Int)) × (Int)) => [intss p.1 p.2.1, int p.2.2]) (x := (nl, xss, fr)) (by rintro ⟨a0, a1, a2⟩ ⟨b0, b1, b2⟩ h; simp [ints, intss, int, bool, row, frac, fracs, map_int_inj, map_row_inj, frac_inj, map_frac_inj] at h; simp [h]) trivial

theorem selTo_dom {u v : List Int} {p : Nat → Bool} {k : Nat} (hu : ∀ z ∈ u, 0 ≤ z ∧ z ≤ 100) (hv : ∀ z ∈ v, 0 ≤ z ∧ z ≤ 100) (hk : k ≤ u.length) (hk2 : k ≤ v.length) (hp : ∀ i, i < k → p i = true → 0 < at0 u i + at0 v i) : ∀ y ∈ selTo p k, domR u v y := fun y hy => by
  obtain ⟨i, rfl, h1, h2⟩ := selTo_mem hy
  have e1 := at0_eq (xs := u) (i := i) (by omega)
  have e2 := at0_eq (xs := v) (i := i) (by omega)
  exact ⟨by rw [Int.toNat_natCast, e1]; exact (hu _ (List.getElem_mem _)).1, by rw [Int.toNat_natCast, e2]; exact (hv _ (List.getElem_mem _)).1, by rw [Int.toNat_natCast]; exact hp i h1 h2⟩

set_option maxRecDepth 8000 in
set_option maxHeartbeats 4000000 in
theorem transfer_runS (nl : Bool) (r0 r1 u v : Bool × List Int) (fr : Int) (h1 : pointsB [r0, r1] = true) (hcase : (fr = 0 ∧ u = r0 ∧ v = r1) ∨ (fr = 1 ∧ u = r1 ∧ v = r0)) :
    CallOk Try.prog 74 [intss nl [r0, r1], int fr] (.sl false 1 ((isort (ratC u.2 v.2) (selTo (selB r0.2 r1.2 fr) r0.2.length)).map int)) := by
  obtain ⟨h2, hr⟩ := points_facts h1
  have hl := rect_len hr
  have hr1 := rect_row hr (i := 1) (by simp)
  have hr0 := rect_row hr (i := 0) (by simp)
  simp only [wid, List.headD_cons] at hl hr1 hr0
  simp only [List.getElem_cons_succ, List.getElem_cons_zero] at hr1 hr0
  have hul : u.2.length = r0.2.length ∧ v.2.length = r0.2.length := by rcases hcase with ⟨_, rfl, rfl⟩ | ⟨_, rfl, rfl⟩ <;> omega
  have huv : (∀ z ∈ u.2, 0 ≤ z ∧ z ≤ 100) ∧ (∀ z ∈ v.2, 0 ≤ z ∧ z ≤ 100) := by rcases hcase with ⟨_, rfl, rfl⟩ | ⟨_, rfl, rfl⟩ <;> exact ⟨by first | exact hr0.2 | exact hr1.2, by first | exact hr0.2 | exact hr1.2⟩
  have hsum : ∀ k, at0 u.2 k + at0 v.2 k = at0 r0.2 k + at0 r1.2 k := fun k => by rcases hcase with ⟨_, rfl, rfl⟩ | ⟨_, rfl, rfl⟩ <;> omega
  have hselp : ∀ i, selB r0.2 r1.2 fr i = true → 0 < at0 u.2 i + at0 v.2 i := fun i h => by
    simp only [selB, Bool.and_eq_true, decide_eq_true_eq] at h
    rw [hsum]; exact h.2
  have hdom : ∀ k, k ≤ r0.2.length → ∀ y ∈ selTo (selB r0.2 r1.2 fr) k, domR u.2 v.2 y := fun k hk => selTo_dom huv.1 huv.2 (by omega) (by omega) fun i _ h => hselp i h
  have hsort : ∀ k, k ≤ r0.2.length → (isort (ratC u.2 v.2) (selTo (selB r0.2 r1.2 fr) k)).Pairwise (leR u.2 v.2) := fun k hk => isort_sorted (D := domR u.2 v.2) (fun x y hx hy => ratC_neg hx hy) (fun x y z hx hy hz => leR_trans hx hy hz) (fun x y _ _ h => leR_total h) _ (hdom k hk)
  have hP := mPoints_at nl [r0, r1]
  rw [h1] at hP
  simp only [List.map_cons, List.map_nil, row] at hP
  have hW : mWithin [.v (.int .i64 fr), .v (.int .i64 0), .v (.int .i64 1)] = some (.v (.bool true)) := by
    rw [mWithin_in]; simp [inR]; omega
  have hF := fun k hk => mL28_at nl r0 r1 k hk
  have ww1 : IntKind.i64.wrap 1 = 1 := by decide
  have ww0 : IntKind.i64.wrap 0 = 0 := by decide
  have hG : FnsOk Try.prog [(122, mPoints), (56, mWithin), (123, mL28)] := (.cons specPointsOk_ok (.cons l01In_ok (.cons l28First_ok .nil)))
  refine callOk_awp (ctx_ok eqOk hG) mixed (live := [true, true, false, false, true, true, true, true, true, true, true, false, false, false, false, false, false, false, true, false, false, false, false, false, false, false, false, false, false, false, true, true, true, false, false, false, false, false, false, false, false, false, false, false, false, false, false, false, false, false, false, true, false, false, false, false, false, false, false, false, false, false, false, false, false, false, false, false, false, false, false, false, false, false, false, false, false, false, false, false, false, false, true]) (dt := [(9, ⟨[], [], []⟩), (11, ⟨[], [], []⟩)]) Try.func74 rfl (by kernel_rfl) (by kernel_rfl) fun w0 hlens => ?_
  clear hlens
  have hs0 : isort (ratC u.2 v.2) (selTo (selB r0.2 r1.2 fr) 0) = [] := rfl
  rcases hcase with ⟨rfl, rfl, rfl⟩ | ⟨rfl, rfl, rfl⟩
  · skip
    simp (config := {contextual := true}) [Try.f74, List.range, List.range.loop, ints, intss, int, bool, row, frac, fracs, ← List.map_take, ← List.map_drop, hP, hW, ww0, ww1]
    refine awp_range (live := [true, true, false, false, true, true, true, true, true, true, true, false, false, false, false, false, false, false, true, false, false, false, false, false, false, false, false, false, false, false, true, true, true, false, false, false, false, false, false, false, false, false, false, false, false, false, false, false, false, false, false, true, false, false, false, false, false, false, false, false, false, false, false, false, false, false, false, false, false, false, false, false, false, false, false, false, false, false, false, false, false, false, true]) (ctx_ok eqOk hG) mixed [true, true, false, false, false, true, true, true, false, false, false, false, false, false, false, false, false, false, false, false, false, false, false, false, false, false, false, false, false, false, true, true] (u.2.length) (fun k => True) (fun k => ⟨[intss nl [u, v], int 0, .junk, .junk, .junk, row u, row v, .ref 0 [] 0 (isort (ratC u.2 v.2) (selTo (selB u.2 v.2 0) k)).length, .junk, .junk, .junk, .junk, .junk, .junk, .junk, .junk, .junk, .junk, .junk, .junk, .junk, .junk, .junk, .junk, .junk, .junk, .junk, .junk, .junk, .junk, int u.2.length, int k, .junk, .junk, .junk, .junk, .junk, .junk, .junk, .junk, .junk, .junk, .junk, .junk, .junk, .junk, .junk, .junk, .junk, .junk, .junk, .junk, .junk, .junk, .junk, .junk, .junk, .junk, .junk, .junk, .junk, .junk, .junk, .junk, .junk, .junk, .junk, .junk, .junk, .junk, .junk, .junk, .junk, .junk, .junk, .junk, .junk, .junk, .junk, .junk, .junk, .junk, .junk, .junk, .junk, .junk, .junk, .junk, .junk, .junk, .junk, .junk, .junk, .junk, .junk, .junk, .junk, .junk, .junk, .junk, .junk], [⟨true, .sl false 1 ((isort (ratC u.2 v.2) (selTo (selB u.2 v.2 0) k)).map int)⟩]⟩) ?_ (by simp [sub, slotsLe, clean, keep, refsL, refs, once, place, renL, ren, List.replicate, int, bool, hs0, intss, row]) ?_ ?_ ?_
    · omega
    · trivial
    · intro k hk _ hwk
      have hku : k < u.2.length := by omega
      have hkv : k < v.2.length := by omega
      have a1 : u.2[k] = at0 u.2 k := (at0_eq hku).symm
      have a2 : v.2[k] = at0 v.2 k := (at0_eq hkv).symm
      have b1 := huv.1 _ (List.getElem_mem hku)
      have b2 := huv.2 _ (List.getElem_mem hkv)
      rw [a1] at b1
      rw [a2] at b2
      have hw3 : IntKind.i64.wrap (at0 u.2 k + at0 v.2 k) = at0 u.2 k + at0 v.2 k := wrapI (by omega) (by omega)
      have hFk := hF k ⟨by omega, by omega⟩
      have hsl := selTo_len (p := selB u.2 v.2 0) (k := k)
      have hy := selTo_yes (p := selB u.2 v.2 0) (k := k)
      have hn := selTo_no (p := selB u.2 v.2 0) (k := k)
      have hB : selB u.2 v.2 0 k = (decide ((if at0 v.2 k ≤ at0 u.2 k then (1 : Int) else 0) = 1 - 0) && decide (0 < at0 u.2 k + at0 v.2 k)) := by rw [hsum k]; rfl
      have hdk := hdom k (by omega)
      have hst := hsort k (by omega)
      have hdx : selB u.2 v.2 0 k = true → domR u.2 v.2 (k : Int) := fun h => ⟨b1.1, b2.1, hselp k h⟩
      have hmem : ∀ y ∈ selTo (selB u.2 v.2 0) k, ∃ i : Nat, y = i ∧ i < u.2.length ∧ i < v.2.length := fun y h => by
        obtain ⟨i, e1, e2, _⟩ := selTo_mem h
        exact ⟨i, e1, by omega, by omega⟩
      by_cases hsel : selB u.2 v.2 0 k = true
      · rw [hy hsel]
        have hdx := hdx hsel
        rw [hsel] at hB
        simp only [Bool.true_eq, Bool.and_eq_true, decide_eq_true_eq] at hB
        obtain ⟨hB1, hB2⟩ := hB
        have hne : ¬ at0 u.2 k + at0 v.2 k = 0 := by omega
        clear hy hn hsel
        rw [isort_snoc]
        generalize hL0 : selTo (selB u.2 v.2 0) k = L0 at *
        have hil := isort_len (c := ratC u.2 v.2) L0
        have hdo : ∀ y ∈ isort (ratC u.2 v.2) L0, domR u.2 v.2 y := fun y h => hdk y (isort_mem.1 h)
        have hmo : ∀ y ∈ isort (ratC u.2 v.2) L0, ∃ i : Nat, y = i ∧ i < u.2.length ∧ i < v.2.length := fun y h => hmem y (isort_mem.1 h)
        have hspl := fun j h1 h2 h3 => ins_split (c := ratC u.2 v.2) (le := leR u.2 v.2) (D := domR u.2 v.2) (fun x y hx hy => ratC_neg hx hy) (fun x y z hx hy hz => leR_trans hx hy hz) (k := j) hdo hdx hst h1 h2 h3
        generalize isort (ratC u.2 v.2) L0 = out at *
        have hol : out.length ≤ 6 := by omega
        have hB1' : at0 v.2 k ≤ at0 u.2 k := by
          by_cases h : at0 v.2 k ≤ at0 u.2 k; exact h; rw [if_neg h] at hB1; omega
        simp (config := {contextual := true}) [List.range, List.range.loop, ints, intss, int, bool, row, frac, fracs, ← List.map_take, ← List.map_drop, hku, hkv, a1, a2, hw3, hFk, hB1', hne]
        refine awp_loop_of (live := [true, true, false, false, true, true, true, true, true, true, true, false, false, false, false, false, false, false, true, false, false, false, false, false, false, false, false, false, false, false, true, true, true, false, false, false, false, false, false, false, false, false, false, false, false, false, false, false, false, false, false, true, false, false, false, false, false, false, false, false, false, false, false, false, false, false, false, false, false, false, false, false, false, false, false, false, false, false, false, false, false, false, true]) (ctx_ok eqOk hG) mixed [true, true, false, false, false, true, true, true, true, true, false, false, false, false, false, false, false, false, false, false, false, false, false, false, false, false, false, false, false, false, true, true] (α := {j : Nat // j ≤ out.length ∧ ∀ i (h : i < out.length), i < j → leR u.2 v.2 out[i] (k : Int)}) (fun j => ⟨[intss nl [u, v], int 0, .junk, .junk, .junk, row u, row v, .ref 0 [] 0 out.length, int (k : Int), int (j.1 : Int), .junk, .junk, .junk, .junk, .junk, .junk, .junk, .junk, .junk, .junk, .junk, .junk, .junk, .junk, .junk, .junk, .junk, .junk, .junk, .junk, int u.2.length, int k, .junk, .junk, .junk, .junk, .junk, .junk, .junk, .junk, .junk, .junk, .junk, .junk, .junk, .junk, .junk, .junk, .junk, .junk, .junk, .junk, .junk, .junk, .junk, .junk, .junk, .junk, .junk, .junk, .junk, .junk, .junk, .junk, .junk, .junk, .junk, .junk, .junk, .junk, .junk, .junk, .junk, .junk, .junk, .junk, .junk, .junk, .junk, .junk, .junk, .junk, .junk, .junk, .junk, .junk, .junk, .junk, .junk, .junk, .junk, .junk, .junk, .junk, .junk, .junk, .junk, .junk, .junk, .junk, .junk], [⟨true, .sl false 1 (out.map int)⟩]⟩) (fun j => out.length - j.1) ⟨0, Nat.zero_le _, fun i _ h => by omega⟩ (by simp [sub, slotsLe, clean, keep, refsL, refs, once, place, renL, ren, List.replicate, int, bool, intss, row]) ?_
        rintro ⟨j, hj, hjl⟩
        by_cases hjo : j < out.length
        · obtain ⟨i, hi, hiu, hiv⟩ := hmo _ (List.getElem_mem hjo)
          have g1 : u.2[i] = at0 u.2 i := (at0_eq hiu).symm
          have g2 : v.2[i] = at0 v.2 i := (at0_eq hiv).symm
          have c1 := huv.1 _ (List.getElem_mem hiu)
          have c2 := huv.2 _ (List.getElem_mem hiv)
          rw [g1] at c1
          rw [g2] at c2
          have m1 := mul_bd (x := at0 u.2 i) (y := at0 v.2 k) (m := 100) (n := 100) (by omega) (by omega) (by omega) (by omega)
          have m2 := mul_bd (x := at0 u.2 k) (y := at0 v.2 i) (m := 100) (n := 100) (by omega) (by omega) (by omega) (by omega)
          have v1 : IntKind.i64.wrap (at0 u.2 i * at0 v.2 k) = at0 u.2 i * at0 v.2 k := wrapI (by omega) (by omega)
          have v2 : IntKind.i64.wrap (at0 u.2 k * at0 v.2 i) = at0 u.2 k * at0 v.2 i := wrapI (by omega) (by omega)
          have hle : leR u.2 v.2 out[j] (k : Int) ↔ at0 u.2 i * at0 v.2 k ≤ at0 u.2 k * at0 v.2 i := by rw [hi]; rfl
          by_cases ht : at0 u.2 i * at0 v.2 k ≤ at0 u.2 k * at0 v.2 i
          · have hwj : IntKind.i64.wrap ((j : Int) + 1) = (j : Int) + 1 := wrapI (by omega) (by omega)
            simp (config := {contextual := true}) [List.range, List.range.loop, ints, intss, int, bool, row, frac, fracs, ← List.map_take, ← List.map_drop, hku, hkv, hiu, hiv, hjo, hi, g1, g2, a1, a2, v1, v2, ht, hwj]
            refine ⟨⟨j + 1, hjo, fun i' hi' hlt => ?_⟩, by simp [sub, slotsLe, clean, keep, refsL, refs, once, place, renL, ren, List.replicate, int, bool, intss, row], by simp; omega⟩
            by_cases e : i' = j
            · subst e; exact hle.2 ht
            · exact hjl i' hi' (by omega)
          · have hsp := hspl j hj hjl (.inr ⟨hjo, fun h => ht (hle.1 h)⟩)
            have hmm : (out.take j).map int ++ .v (.int .i64 (k : Int)) :: (out.drop j).map int = (ins (ratC u.2 v.2) out (k : Int)).map int := by rw [hsp]; simp [int]
            have e1 : j * 8 ≤ 140737488355328 ∧ j ≤ 4611686018427387904 ∧ (j + 1) * 8 ≤ 140737488355328 ∧ j + 1 ≤ 4611686018427387904 ∧ (j + 1 + (out.length - j)) * 8 ≤ 140737488355328 ∧ j + 1 + (out.length - j) ≤ 4611686018427387904 ∧ j + (out.length - j) ≤ out.length := by omega
            have e2 : j + 1 + (out.length - j) = out.length + 1 := by omega
            have e3 : min j out.length = j := by omega
            have e4 : (out.drop j).take (out.length - j) = out.drop j := List.take_of_length_le (by simp)
            have e6 : out.length ≤ 4611686018427387903 ∧ (out.length + 1) * 8 ≤ 140737488355328 := by omega
            have e5 : (ins (ratC u.2 v.2) out (k : Int)).length = out.length + 1 := insFrom_len
            simp (config := {contextual := true}) [List.range, List.range.loop, ints, intss, int, bool, row, frac, fracs, ← List.map_take, ← List.map_drop, hku, hkv, hiu, hiv, hjo, hj, hi, g1, g2, a1, a2, v1, v2, ht, hwk, e1, e2, e3, e4, e5, e6, hmm]
            done
        · obtain rfl : j = out.length := by omega
          have hsp := hspl out.length (Nat.le_refl _) hjl (.inl rfl)
          have e5 : (ins (ratC u.2 v.2) out (k : Int)).length = out.length + 1 := insFrom_len
          have e6 : out.length ≤ 4611686018427387904 ∧ out.length ≤ 4611686018427387903 ∧ (out.length + 1) * 8 ≤ 140737488355328 ∧ out.length * 8 ≤ 140737488355328 := by omega
          have e7 : out.map int ++ [.v (.int .i64 (k : Int))] = (ins (ratC u.2 v.2) out (k : Int)).map int := by rw [hsp]; simp [int]
          simp (config := {contextual := true}) [List.range, List.range.loop, ints, intss, int, bool, row, frac, fracs, ← List.map_take, ← List.map_drop, hwk, e5, e6, e7]
          done
      · rw [hn (by simpa using hsel)]
        have hsel : selB u.2 v.2 0 k = false := by simpa using hsel
        rw [hsel] at hB
        clear hy hn hdx
        generalize isort (ratC u.2 v.2) (selTo (selB u.2 v.2 0) k) = out at *
        by_cases d1 : at0 v.2 k ≤ at0 u.2 k <;> by_cases d2 : at0 u.2 k + at0 v.2 k = 0 <;> simp [d1] at hB <;> simp (config := {contextual := true}) [List.range, List.range.loop, ints, intss, int, bool, row, frac, fracs, ← List.map_take, ← List.map_drop, hku, hkv, a1, a2, hw3, hFk, d1, d2, hwk, ww0]
        all_goals (exfalso; omega)
    · intro _
      simp (config := {contextual := true}) [List.range, List.range.loop, ints, intss, int, bool, row, frac, fracs, ← List.map_take, ← List.map_drop]
  · rw [← hul.1]
    simp (config := {contextual := true}) [Try.f74, List.range, List.range.loop, ints, intss, int, bool, row, frac, fracs, ← List.map_take, ← List.map_drop, hP, hW, ww0, ww1]
    refine awp_range (live := [true, true, false, false, true, true, true, true, true, true, true, false, false, false, false, false, false, false, true, false, false, false, false, false, false, false, false, false, false, false, true, true, true, false, false, false, false, false, false, false, false, false, false, false, false, false, false, false, false, false, false, true, false, false, false, false, false, false, false, false, false, false, false, false, false, false, false, false, false, false, false, false, false, false, false, false, false, false, false, false, false, false, true]) (ctx_ok eqOk hG) mixed [true, true, false, false, false, true, true, true, false, false, false, false, false, false, false, false, false, false, false, false, false, false, false, false, false, false, false, false, false, false, true, true] (u.2.length) (fun k => True) (fun k => ⟨[intss nl [v, u], int 1, .junk, .junk, .junk, row u, row v, .ref 0 [] 0 (isort (ratC u.2 v.2) (selTo (selB v.2 u.2 1) k)).length, .junk, .junk, .junk, .junk, .junk, .junk, .junk, .junk, .junk, .junk, .junk, .junk, .junk, .junk, .junk, .junk, .junk, .junk, .junk, .junk, .junk, .junk, int u.2.length, int k, .junk, .junk, .junk, .junk, .junk, .junk, .junk, .junk, .junk, .junk, .junk, .junk, .junk, .junk, .junk, .junk, .junk, .junk, .junk, .junk, .junk, .junk, .junk, .junk, .junk, .junk, .junk, .junk, .junk, .junk, .junk, .junk, .junk, .junk, .junk, .junk, .junk, .junk, .junk, .junk, .junk, .junk, .junk, .junk, .junk, .junk, .junk, .junk, .junk, .junk, .junk, .junk, .junk, .junk, .junk, .junk, .junk, .junk, .junk, .junk, .junk, .junk, .junk, .junk, .junk, .junk, .junk, .junk, .junk], [⟨true, .sl false 1 ((isort (ratC u.2 v.2) (selTo (selB v.2 u.2 1) k)).map int)⟩]⟩) ?_ (by simp [sub, slotsLe, clean, keep, refsL, refs, once, place, renL, ren, List.replicate, int, bool, hs0, intss, row]) ?_ ?_ ?_
    · omega
    · trivial
    · intro k hk _ hwk
      have hku : k < u.2.length := by omega
      have hkv : k < v.2.length := by omega
      have a1 : u.2[k] = at0 u.2 k := (at0_eq hku).symm
      have a2 : v.2[k] = at0 v.2 k := (at0_eq hkv).symm
      have b1 := huv.1 _ (List.getElem_mem hku)
      have b2 := huv.2 _ (List.getElem_mem hkv)
      rw [a1] at b1
      rw [a2] at b2
      have hw3 : IntKind.i64.wrap (at0 u.2 k + at0 v.2 k) = at0 u.2 k + at0 v.2 k := wrapI (by omega) (by omega)
      have hFk := hF k ⟨by omega, by omega⟩
      have hsl := selTo_len (p := selB v.2 u.2 1) (k := k)
      have hy := selTo_yes (p := selB v.2 u.2 1) (k := k)
      have hn := selTo_no (p := selB v.2 u.2 1) (k := k)
      have hB : selB v.2 u.2 1 k = (decide ((if at0 u.2 k ≤ at0 v.2 k then (1 : Int) else 0) = 1 - 1) && decide (0 < at0 u.2 k + at0 v.2 k)) := by rw [hsum k]; rfl
      have hdk := hdom k (by omega)
      have hst := hsort k (by omega)
      have hdx : selB v.2 u.2 1 k = true → domR u.2 v.2 (k : Int) := fun h => ⟨b1.1, b2.1, hselp k h⟩
      have hmem : ∀ y ∈ selTo (selB v.2 u.2 1) k, ∃ i : Nat, y = i ∧ i < u.2.length ∧ i < v.2.length := fun y h => by
        obtain ⟨i, e1, e2, _⟩ := selTo_mem h
        exact ⟨i, e1, by omega, by omega⟩
      by_cases hsel : selB v.2 u.2 1 k = true
      · rw [hy hsel]
        have hdx := hdx hsel
        rw [hsel] at hB
        simp only [Bool.true_eq, Bool.and_eq_true, decide_eq_true_eq] at hB
        obtain ⟨hB1, hB2⟩ := hB
        have hne : ¬ at0 u.2 k + at0 v.2 k = 0 := by omega
        clear hy hn hsel
        rw [isort_snoc]
        generalize hL0 : selTo (selB v.2 u.2 1) k = L0 at *
        have hil := isort_len (c := ratC u.2 v.2) L0
        have hdo : ∀ y ∈ isort (ratC u.2 v.2) L0, domR u.2 v.2 y := fun y h => hdk y (isort_mem.1 h)
        have hmo : ∀ y ∈ isort (ratC u.2 v.2) L0, ∃ i : Nat, y = i ∧ i < u.2.length ∧ i < v.2.length := fun y h => hmem y (isort_mem.1 h)
        have hspl := fun j h1 h2 h3 => ins_split (c := ratC u.2 v.2) (le := leR u.2 v.2) (D := domR u.2 v.2) (fun x y hx hy => ratC_neg hx hy) (fun x y z hx hy hz => leR_trans hx hy hz) (k := j) hdo hdx hst h1 h2 h3
        generalize isort (ratC u.2 v.2) L0 = out at *
        have hol : out.length ≤ 6 := by omega
        have hB1' : ¬ at0 u.2 k ≤ at0 v.2 k := by
          intro h; rw [if_pos h] at hB1; omega
        simp (config := {contextual := true}) [List.range, List.range.loop, ints, intss, int, bool, row, frac, fracs, ← List.map_take, ← List.map_drop, hku, hkv, a1, a2, hw3, hFk, hB1', hne]
        refine awp_loop_of (live := [true, true, false, false, true, true, true, true, true, true, true, false, false, false, false, false, false, false, true, false, false, false, false, false, false, false, false, false, false, false, true, true, true, false, false, false, false, false, false, false, false, false, false, false, false, false, false, false, false, false, false, true, false, false, false, false, false, false, false, false, false, false, false, false, false, false, false, false, false, false, false, false, false, false, false, false, false, false, false, false, false, false, true]) (ctx_ok eqOk hG) mixed [true, true, false, false, false, true, true, true, true, true, false, false, false, false, false, false, false, false, false, false, false, false, false, false, false, false, false, false, false, false, true, true] (α := {j : Nat // j ≤ out.length ∧ ∀ i (h : i < out.length), i < j → leR u.2 v.2 out[i] (k : Int)}) (fun j => ⟨[intss nl [v, u], int 1, .junk, .junk, .junk, row u, row v, .ref 0 [] 0 out.length, int (k : Int), int (j.1 : Int), .junk, .junk, .junk, .junk, .junk, .junk, .junk, .junk, .junk, .junk, .junk, .junk, .junk, .junk, .junk, .junk, .junk, .junk, .junk, .junk, int u.2.length, int k, .junk, .junk, .junk, .junk, .junk, .junk, .junk, .junk, .junk, .junk, .junk, .junk, .junk, .junk, .junk, .junk, .junk, .junk, .junk, .junk, .junk, .junk, .junk, .junk, .junk, .junk, .junk, .junk, .junk, .junk, .junk, .junk, .junk, .junk, .junk, .junk, .junk, .junk, .junk, .junk, .junk, .junk, .junk, .junk, .junk, .junk, .junk, .junk, .junk, .junk, .junk, .junk, .junk, .junk, .junk, .junk, .junk, .junk, .junk, .junk, .junk, .junk, .junk, .junk, .junk, .junk, .junk, .junk, .junk], [⟨true, .sl false 1 (out.map int)⟩]⟩) (fun j => out.length - j.1) ⟨0, Nat.zero_le _, fun i _ h => by omega⟩ (by simp [sub, slotsLe, clean, keep, refsL, refs, once, place, renL, ren, List.replicate, int, bool, intss, row]) ?_
        rintro ⟨j, hj, hjl⟩
        by_cases hjo : j < out.length
        · obtain ⟨i, hi, hiu, hiv⟩ := hmo _ (List.getElem_mem hjo)
          have g1 : u.2[i] = at0 u.2 i := (at0_eq hiu).symm
          have g2 : v.2[i] = at0 v.2 i := (at0_eq hiv).symm
          have c1 := huv.1 _ (List.getElem_mem hiu)
          have c2 := huv.2 _ (List.getElem_mem hiv)
          rw [g1] at c1
          rw [g2] at c2
          have m1 := mul_bd (x := at0 u.2 i) (y := at0 v.2 k) (m := 100) (n := 100) (by omega) (by omega) (by omega) (by omega)
          have m2 := mul_bd (x := at0 u.2 k) (y := at0 v.2 i) (m := 100) (n := 100) (by omega) (by omega) (by omega) (by omega)
          have v1 : IntKind.i64.wrap (at0 u.2 i * at0 v.2 k) = at0 u.2 i * at0 v.2 k := wrapI (by omega) (by omega)
          have v2 : IntKind.i64.wrap (at0 u.2 k * at0 v.2 i) = at0 u.2 k * at0 v.2 i := wrapI (by omega) (by omega)
          have hle : leR u.2 v.2 out[j] (k : Int) ↔ at0 u.2 i * at0 v.2 k ≤ at0 u.2 k * at0 v.2 i := by rw [hi]; rfl
          by_cases ht : at0 u.2 i * at0 v.2 k ≤ at0 u.2 k * at0 v.2 i
          · have hwj : IntKind.i64.wrap ((j : Int) + 1) = (j : Int) + 1 := wrapI (by omega) (by omega)
            simp (config := {contextual := true}) [List.range, List.range.loop, ints, intss, int, bool, row, frac, fracs, ← List.map_take, ← List.map_drop, hku, hkv, hiu, hiv, hjo, hi, g1, g2, a1, a2, v1, v2, ht, hwj]
            refine ⟨⟨j + 1, hjo, fun i' hi' hlt => ?_⟩, by simp [sub, slotsLe, clean, keep, refsL, refs, once, place, renL, ren, List.replicate, int, bool, intss, row], by simp; omega⟩
            by_cases e : i' = j
            · subst e; exact hle.2 ht
            · exact hjl i' hi' (by omega)
          · have hsp := hspl j hj hjl (.inr ⟨hjo, fun h => ht (hle.1 h)⟩)
            have hmm : (out.take j).map int ++ .v (.int .i64 (k : Int)) :: (out.drop j).map int = (ins (ratC u.2 v.2) out (k : Int)).map int := by rw [hsp]; simp [int]
            have e1 : j * 8 ≤ 140737488355328 ∧ j ≤ 4611686018427387904 ∧ (j + 1) * 8 ≤ 140737488355328 ∧ j + 1 ≤ 4611686018427387904 ∧ (j + 1 + (out.length - j)) * 8 ≤ 140737488355328 ∧ j + 1 + (out.length - j) ≤ 4611686018427387904 ∧ j + (out.length - j) ≤ out.length := by omega
            have e2 : j + 1 + (out.length - j) = out.length + 1 := by omega
            have e3 : min j out.length = j := by omega
            have e4 : (out.drop j).take (out.length - j) = out.drop j := List.take_of_length_le (by simp)
            have e6 : out.length ≤ 4611686018427387903 ∧ (out.length + 1) * 8 ≤ 140737488355328 := by omega
            have e5 : (ins (ratC u.2 v.2) out (k : Int)).length = out.length + 1 := insFrom_len
            simp (config := {contextual := true}) [List.range, List.range.loop, ints, intss, int, bool, row, frac, fracs, ← List.map_take, ← List.map_drop, hku, hkv, hiu, hiv, hjo, hj, hi, g1, g2, a1, a2, v1, v2, ht, hwk, e1, e2, e3, e4, e5, e6, hmm]
            done
        · obtain rfl : j = out.length := by omega
          have hsp := hspl out.length (Nat.le_refl _) hjl (.inl rfl)
          have e5 : (ins (ratC u.2 v.2) out (k : Int)).length = out.length + 1 := insFrom_len
          have e6 : out.length ≤ 4611686018427387904 ∧ out.length ≤ 4611686018427387903 ∧ (out.length + 1) * 8 ≤ 140737488355328 ∧ out.length * 8 ≤ 140737488355328 := by omega
          have e7 : out.map int ++ [.v (.int .i64 (k : Int))] = (ins (ratC u.2 v.2) out (k : Int)).map int := by rw [hsp]; simp [int]
          simp (config := {contextual := true}) [List.range, List.range.loop, ints, intss, int, bool, row, frac, fracs, ← List.map_take, ← List.map_drop, hwk, e5, e6, e7]
          done
      · rw [hn (by simpa using hsel)]
        have hsel : selB v.2 u.2 1 k = false := by simpa using hsel
        rw [hsel] at hB
        clear hy hn hdx
        generalize isort (ratC u.2 v.2) (selTo (selB v.2 u.2 1) k) = out at *
        by_cases d1 : at0 u.2 k ≤ at0 v.2 k <;> by_cases d2 : at0 u.2 k + at0 v.2 k = 0 <;> simp [d1] at hB <;> simp (config := {contextual := true}) [List.range, List.range.loop, ints, intss, int, bool, row, frac, fracs, ← List.map_take, ← List.map_drop, hku, hkv, a1, a2, hw3, hFk, d1, d2, hwk, ww0]
        all_goals (exfalso; omega)
    · intro _
      simp (config := {contextual := true}) [List.range, List.range.loop, ints, intss, int, bool, row, frac, fracs, ← List.map_take, ← List.map_drop]

theorem specTransfer_ok : FnOk Try.prog 74 mTOs := by
  refine mk_ok fun ⟨nl, xss, fr⟩ _ => ?_
  cases h1 : pointsB xss with
  | false =>
    simp only [tOrd_no (xss := xss) (fr := fr) (fun h => by rw [h1] at h; simp at h), Bool.false_and, Bool.not_false, List.map_nil, h1]
    have hG : FnsOk Try.prog [(122, mPoints), (56, mWithin), (123, mL28)] := (.cons specPointsOk_ok (.cons l01In_ok (.cons l28First_ok .nil)))
    refine callOk_awp (ctx_ok eqOk hG) mixed (live := [true, true, false, false, true, true, true, true, true, true, true, false, false, false, false, false, false, false, true, false, false, false, false, false, false, false, false, false, false, false, true, true, true, false, false, false, false, false, false, false, false, false, false, false, false, false, false, false, false, false, false, true, false, false, false, false, false, false, false, false, false, false, false, false, false, false, false, false, false, false, false, false, false, false, false, false, false, false, false, false, false, false, true]) (dt := [(9, ⟨[], [], []⟩), (11, ⟨[], [], []⟩)]) Try.func74 rfl (by kernel_rfl) (by kernel_rfl) fun w0 hlens => ?_
    simp (config := {contextual := true}) [Try.f74, List.range, List.range.loop, ints, intss, int, bool, row, frac, fracs, ← List.map_take, ← List.map_drop, mPoints_at, h1]
  | true =>
    cases hin : inR 0 1 fr with
    | false =>
      simp only [tOrd_no (xss := xss) (fr := fr) (fun h => by simp [inR] at hin; omega), hin, Bool.and_false, Bool.not_false, List.map_nil, h1]
      have hG : FnsOk Try.prog [(122, mPoints), (56, mWithin), (123, mL28)] := (.cons specPointsOk_ok (.cons l01In_ok (.cons l28First_ok .nil)))
      refine callOk_awp (ctx_ok eqOk hG) mixed (live := [true, true, false, false, true, true, true, true, true, true, true, false, false, false, false, false, false, false, true, false, false, false, false, false, false, false, false, false, false, false, true, true, true, false, false, false, false, false, false, false, false, false, false, false, false, false, false, false, false, false, false, true, false, false, false, false, false, false, false, false, false, false, false, false, false, false, false, false, false, false, false, false, false, false, false, false, false, false, false, false, false, false, true]) (dt := [(9, ⟨[], [], []⟩), (11, ⟨[], [], []⟩)]) Try.func74 rfl (by kernel_rfl) (by kernel_rfl) fun w0 hlens => ?_
      simp (config := {contextual := true}) [Try.f74, List.range, List.range.loop, ints, intss, int, bool, row, frac, fracs, ← List.map_take, ← List.map_drop, mPoints_at, mWithin_in, h1, hin]
    | true =>
      obtain ⟨h2, hr⟩ := points_facts h1
      obtain ⟨r0, r1, rfl⟩ : ∃ r0 r1, xss = [r0, r1] := by
        match xss, h2 with
        | [a, b], _ => exact ⟨a, b, rfl⟩
      simp only [inR, Bool.and_eq_true, decide_eq_true_eq] at hin
      by_cases h0 : fr = 0
      · subst h0
        have := transfer_runS nl r0 r1 r0 r1 0 h1 (.inl ⟨rfl, rfl, rfl⟩)
        have e : tOrd [r0, r1] 0 = isort (ratC r0.2 r1.2) (selTo (selB r0.2 r1.2 0) r0.2.length) := by simp [tOrd, h1]
        have e2 : (!(pointsB [r0, r1] && inR 0 1 0)) = false := by rw [h1]; rfl
        simp only [e, e2]; exact this
      · obtain rfl : fr = 1 := by omega
        have := transfer_runS nl r0 r1 r1 r0 1 h1 (.inr ⟨rfl, rfl, rfl⟩)
        have e : tOrd [r0, r1] 1 = isort (ratC r1.2 r0.2) (selTo (selB r0.2 r1.2 1) r0.2.length) := by simp [tOrd, h1]
        have e2 : (!(pointsB [r0, r1] && inR 0 1 1)) = false := by rw [h1]; rfl
        simp only [e, e2]; exact this

end Go.Proofs.Ytkfgmpmeipilnaa.Ax
