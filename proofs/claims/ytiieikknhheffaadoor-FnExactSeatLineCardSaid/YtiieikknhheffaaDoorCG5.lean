/-
  Contracts: counts and quotas (both programs). No condition.
-/
import Derived.Test.YtiieikknhheffaaDoorCG3
import Derived.Test.YtiieikknhheffaaDoorCB2
import Derived.Test.YtiieikknhheffaaDoorCG4
namespace Go.Proofs.YtiieikknhheffaaDoor.Ax
open Go Go.RowKit
set_option linter.unusedSimpArgs false

theorem mx_facts {xs : List Int} : ∀ k, 1 ≤ k → k ≤ xs.length → (∀ i, (h : i < xs.length) → i < k → xs[i] ≤ mxTo xs k) ∧ ∃ (i : Nat) (h : i < xs.length), mxTo xs k = xs[i]
  | 0, h, _ => by omega
  | k + 1, _, hk => by
    by_cases hk0 : k = 0
    · subst hk0
      rw [mxTo_one (by omega)]
      exact ⟨fun i h hi => by obtain rfl : i = 0 := by omega
                              exact Int.le_refl _, 0, by omega, rfl⟩
    · obtain ⟨h1, j, hj, h2⟩ := mx_facts (xs := xs) k (by omega) (by omega)
      rw [mxTo_succ (by omega)]
      refine ⟨fun i h hi => ?_, ?_⟩
      · by_cases e : i = k
        · subst e; exact Int.le_max_right _ _
        · exact Int.le_trans (h1 i h (by omega)) (Int.le_max_left _ _)
      · rcases Int.le_total (mxTo xs k) xs[k] with h | h
        · exact ⟨k, by omega, by rw [Int.max_eq_right h]⟩
        · exact ⟨j, hj, by rw [Int.max_eq_left h, h2]⟩
theorem mx_sum {xs : List Int} (h : ∀ x ∈ xs, 0 ≤ x ∧ x ≤ 1000000) (hl : 1 ≤ xs.length) : decide (0 < mx xs) = decide (0 < xs.sum) := by
  obtain ⟨h1, j, hj, h2⟩ := mx_facts (xs := xs) xs.length hl (Nat.le_refl _)
  apply decide_eq_decide.2
  change (∀ i, (h : i < xs.length) → i < xs.length → xs[i] ≤ mx xs) at h1
  change mx xs = xs[j] at h2
  constructor
  · intro hm
    rw [h2] at hm
    obtain ⟨a, b, e⟩ := List.append_of_mem (List.getElem_mem hj)
    have ha := sum_bd (l := a) (c := 1000000) fun y hy => h y (by rw [e]; simp [hy])
    have hb := sum_bd (l := b) (c := 1000000) fun y hy => h y (by rw [e]; simp [hy])
    have e2 := congrArg List.sum e
    simp only [List.sum_append, List.sum_cons] at e2
    omega
  · intro hs
    rcases Int.lt_or_le 0 (mx xs) with hm | hm
    · exact hm
    · have := sum_bd (l := xs) (c := 0) fun x hx => by
        obtain ⟨i, hi, rfl⟩ := List.getElem_of_mem hx
        have := h1 i hi hi
        exact ⟨(h _ (List.getElem_mem hi)).1, by omega⟩
      omega

noncomputable def mCnt : List AV → Option AV := mk (fun _ => True) (fun (p : (Bool) × (List Int)) => [ints p.1 p.2]) (fun p => bool (cntB p.2))
theorem mCnt_at (nl : Bool) (xs : List Int) : mCnt [.sl nl 1 (xs.map int)] = some (.v (.bool (cntB xs))) :=
  mk_eq (enc := fun (p : (Bool) × (List Int)) => [ints p.1 p.2]) (x := (nl, xs)) (by rintro ⟨a0, a1⟩ ⟨b0, b1⟩ h; simp [ints, intss, int, bool, row, frac, fracs, map_int_inj, map_row_inj, frac_inj, map_frac_inj] at h; simp [h]) trivial
noncomputable def mQt : List AV → Option AV := mk (fun _ => True) (fun (p : (Bool) × (List Int) × (Int)) => [ints p.1 p.2.1, int p.2.2]) (fun p => bool (qtB p.2.1 p.2.2))
theorem mQt_at (nl : Bool) (xs : List Int) (n : Int) : mQt [.sl nl 1 (xs.map int), .v (.int .i64 n)] = some (.v (.bool (qtB xs n))) :=
  mk_eq (enc := fun (p : (Bool) × (List Int) × (Int)) => [ints p.1 p.2.1, int p.2.2]) (x := (nl, xs, n)) (by rintro ⟨a0, a1, a2⟩ ⟨b0, b1, b2⟩ h; simp [ints, intss, int, bool, row, frac, fracs, map_int_inj, map_row_inj, frac_inj, map_frac_inj] at h; simp [h]) trivial
noncomputable def mSe : List AV → Option AV := mk (fun _ => True) (fun (p : (Bool) × (List Int) × (Bool) × (List Int)) => [ints p.1 p.2.1, ints p.2.2.1 p.2.2.2]) (fun p => bool (seB p.2.1 p.2.2.2))
theorem mSe_at (nl : Bool) (xs : List Int) (nl2 : Bool) (ss : List Int) : mSe [.sl nl 1 (xs.map int), .sl nl2 1 (ss.map int)] = some (.v (.bool (seB xs ss))) :=
  mk_eq (enc := fun (p : (Bool) × (List Int) × (Bool) × (List Int)) => [ints p.1 p.2.1, ints p.2.2.1 p.2.2.2]) (x := (nl, xs, nl2, ss)) (by rintro ⟨a0, a1, a2, a3⟩ ⟨b0, b1, b2, b3⟩ h; simp [ints, intss, int, bool, row, frac, fracs, map_int_inj, map_row_inj, frac_inj, map_frac_inj] at h; simp [h]) trivial

set_option maxHeartbeats 1000000 in
theorem implCounts_ok : FnOk Tryd.prog 43 mCnt := by
  refine mk_ok fun ⟨nl, xs⟩ _ => ?_
  have hG : FnsOk Tryd.prog [(29, mWithin), (44, mAllIn), (56, mMax)] := (.cons within_ok (.cons allWithin_ok (.cons max_ok .nil)))
  refine callOk_awp (ctx_ok eqOk hG) mixed (live := [true, false, true]) (dt := []) Tryd.func43 rfl (by kernel_rfl) (by kernel_rfl) fun w0 hlens => ?_
  clear hlens
  have h1 := mAllIn_at nl xs 0 1000000
  cases hl : inR 1 6 xs.length with
  | false => simp [Tryd.f43, List.range, List.range.loop, ints, intss, int, bool, row, frac, fracs, ← List.map_take, ← List.map_drop, mWithin_in, hl, cntB]
  | true =>
    cases ha : xs.all (inR 0 1000000) with
    | false =>
      rw [ha] at h1
      simp [Tryd.f43, List.range, List.range.loop, ints, intss, int, bool, row, frac, fracs, ← List.map_take, ← List.map_drop, mWithin_in, hl, cntB, h1, ha]
    | true =>
      rw [ha] at h1
      have hl2 := inR_iff.1 hl
      have hx : ∀ x ∈ xs, 0 ≤ x ∧ x ≤ 1000000 := fun x hx => inR_iff.1 (List.all_eq_true.1 ha x hx)
      have h2 := mMax_at nl xs (by omega) (by omega)
      have h3 := mx_sum hx (by omega)
      simp [Tryd.f43, List.range, List.range.loop, ints, intss, int, bool, row, frac, fracs, ← List.map_take, ← List.map_drop, mWithin_in, hl, cntB, h1, ha, h2, h3]

theorem sum_all {xs : List Int} (k : Nat) (h : (xs.take k).all (inR 0 1000000) = true) : ∀ x ∈ xs.take k, 0 ≤ x ∧ x ≤ 1000000 := fun x hx => inR_iff.1 (List.all_eq_true.1 h x hx)

set_option maxHeartbeats 1000000 in
theorem specCounts_ok : FnOk Tryd.prog 38 mCnt := by
  refine mk_ok fun ⟨nl, xs⟩ _ => ?_
  have hG : FnsOk Tryd.prog [(22, mWithin)] := (.cons l01In_ok .nil)
  refine callOk_awp (ctx_ok eqOk hG) mixed (live := [true, false, true, true, false, true, false, false, false, true, true, true, true, true, false, false, false, false, true]) (dt := []) Tryd.func38 rfl (by kernel_rfl) (by kernel_rfl) fun w0 hlens => ?_
  clear hlens
  cases hl : inR 1 6 xs.length with
  | false => simp [Tryd.f38, List.range, List.range.loop, ints, intss, int, bool, row, frac, fracs, ← List.map_take, ← List.map_drop, mWithin_in, hl, cntB]
  | true =>
    have hl2 := inR_iff.1 hl
    simp [Tryd.f38, List.range, List.range.loop, ints, intss, int, bool, row, frac, fracs, ← List.map_take, ← List.map_drop, mWithin_in, hl]
    refine awp_range (live := [true, false, true, true, false, true, false, false, false, true, true, true, true, true, false, false, false, false, true]) (ctx_ok eqOk hG) mixed [false, false, false, true, false, false, false, false, false, false, true, true, true] (xs.length) (fun k => (xs.take k).all (inR 0 1000000) = true) (fun k => ⟨[.junk, .junk, .junk, int (xs.take k).sum, .junk, .junk, .junk, .junk, .junk, .junk, ints nl xs, int xs.length, int k, .junk, .junk, .junk, .junk, .junk, .junk, .junk, .junk, .junk, .junk, .junk, .junk], []⟩) ?_ (by simp [sub, slotsLe, clean, keep, refsL, refs, once, place, renL, ren, List.replicate, int, bool, ints]) ?_ ?_ ?_
    · omega
    · simp
    · intro k hk hp hwk
      have hs := sum_bd (sum_all k hp)
      have hst := sum_take_succ hk
      have hat := List.take_succ_eq_append_getElem hk
      rw [List.length_take] at hs
      cases hx : inR 0 1000000 xs[k] with
      | false =>
        have hf : xs.all (inR 0 1000000) = false := List.all_eq_false.2 ⟨xs[k], List.getElem_mem hk, by simp [hx]⟩
        simp [List.range, List.range.loop, ints, intss, int, bool, row, frac, fracs, ← List.map_take, ← List.map_drop, mWithin_in, hk, hx, cntB, hf]
      | true =>
        have hx2 := inR_iff.1 hx
        have hw : IntKind.i64.wrap ((xs.take k).sum + xs[k]) = (xs.take k).sum + xs[k] := wrapI (by omega) (by omega)
        have hps : (xs.take (k + 1)).all (inR 0 1000000) = true := by rw [hat, List.all_append, hp]; simp [hx]
        simp only [List.all_eq_true] at hps
        simp [List.range, List.range.loop, ints, intss, int, bool, row, frac, fracs, ← List.map_take, ← List.map_drop, mWithin_in, hk, hx, hwk, hst, hw]
        exact hps
    · intro hp
      rw [List.take_length] at hp
      simp only [List.take_length]
      simp [List.range, List.range.loop, ints, intss, int, bool, row, frac, fracs, ← List.map_take, ← List.map_drop, cntB, hl, hp]

theorem implQt_ok : FnOk Tryd.prog 39 mQt := by
  refine mk_ok fun ⟨nl, xs, n⟩ _ => ?_
  have hG : FnsOk Tryd.prog [(43, mCnt), (29, mWithin)] := (.cons implCounts_ok (.cons within_ok .nil))
  refine callOk_awp (ctx_ok eqOk hG) mixed (live := [true, true, false, false, true]) (dt := []) Tryd.func39 rfl (by kernel_rfl) (by kernel_rfl) fun w0 hlens => ?_
  clear hlens
  have h1 := mCnt_at nl xs
  cases hc : cntB xs <;> rw [hc] at h1 <;> simp [Tryd.f39, List.range, List.range.loop, ints, intss, int, bool, row, frac, fracs, ← List.map_take, ← List.map_drop, mWithin_in, h1, qtB, hc]

theorem specQt_ok : FnOk Tryd.prog 32 mQt := by
  refine mk_ok fun ⟨nl, xs, n⟩ _ => ?_
  have hG : FnsOk Tryd.prog [(38, mCnt), (22, mWithin)] := (.cons specCounts_ok (.cons l01In_ok .nil))
  refine callOk_awp (ctx_ok eqOk hG) mixed (live := [true, true, false, false, true]) (dt := []) Tryd.func32 rfl (by kernel_rfl) (by kernel_rfl) fun w0 hlens => ?_
  clear hlens
  have h1 := mCnt_at nl xs
  cases hc : cntB xs <;> rw [hc] at h1 <;> simp [Tryd.f32, List.range, List.range.loop, ints, intss, int, bool, row, frac, fracs, ← List.map_take, ← List.map_drop, mWithin_in, h1, qtB, hc]

set_option maxHeartbeats 1000000 in
theorem implSe_ok : FnOk Tryd.prog 25 mSe := by
  refine mk_ok fun ⟨nl, xs, nl2, ss⟩ _ => ?_
  have hG : FnsOk Tryd.prog [(43, mCnt), (44, mAllIn), (27, mSum)] := (.cons implCounts_ok (.cons allWithin_ok (.cons sumOf_ok .nil)))
  refine callOk_awp (ctx_ok eqOk hG) mixed (live := [true, true, false, false, true]) (dt := []) Tryd.func25 rfl (by kernel_rfl) (by kernel_rfl) fun w0 hlens => ?_
  clear hlens
  have h1 := mCnt_at nl xs
  cases hc : cntB xs with
  | false => rw [hc] at h1; simp [Tryd.f25, List.range, List.range.loop, ints, intss, int, bool, row, frac, fracs, ← List.map_take, ← List.map_drop, h1, seB, hc]
  | true =>
    rw [hc] at h1
    obtain ⟨c1, c2, _⟩ := cnt_facts hc
    by_cases hl : ss.length = xs.length
    · have h2 := mAllIn_at nl2 ss 0 100
      cases ha : ss.all (inR 0 100) with
      | false => rw [ha] at h2; simp [Tryd.f25, List.range, List.range.loop, ints, intss, int, bool, row, frac, fracs, ← List.map_take, ← List.map_drop, h1, seB, hc, hl, h2, ha]
      | true =>
        rw [ha] at h2
        have h3 := mSum_at nl2 ss
        rw [sumW_all (fun x hx => by have := inR_iff.1 (List.all_eq_true.1 ha x hx); omega) (by omega)] at h3
        simp [Tryd.f25, List.range, List.range.loop, ints, intss, int, bool, row, frac, fracs, ← List.map_take, ← List.map_drop, h1, seB, hc, hl, h2, ha, h3]
    · have hl' : ((ss.length : Int) == (xs.length : Int)) = false := by simp; omega
      simp [Tryd.f25, List.range, List.range.loop, ints, intss, int, bool, row, frac, fracs, ← List.map_take, ← List.map_drop, h1, seB, hc, hl, hl']

set_option maxHeartbeats 1000000 in
theorem specSe_ok : FnOk Tryd.prog 18 mSe := by
  refine mk_ok fun ⟨nl, xs, nl2, ss⟩ _ => ?_
  have hG : FnsOk Tryd.prog [(38, mCnt), (22, mWithin), (19, mSum)] := (.cons specCounts_ok (.cons l01In_ok (.cons l13Sum_ok .nil)))
  refine callOk_awp (ctx_ok eqOk hG) mixed (live := [true, true, false, false, true, false, true, false, false, false, false, false, false, false, false, false, true, true, true, true, true, false, false, false, false, true]) (dt := []) Tryd.func18 rfl (by kernel_rfl) (by kernel_rfl) fun w0 hlens => ?_
  clear hlens
  have h1 := mCnt_at nl xs
  cases hc : cntB xs with
  | false => rw [hc] at h1; simp [Tryd.f18, List.range, List.range.loop, ints, intss, int, bool, row, frac, fracs, ← List.map_take, ← List.map_drop, h1, seB, hc]
  | true =>
    rw [hc] at h1
    obtain ⟨c1, c2, _⟩ := cnt_facts hc
    by_cases hl : ss.length = xs.length
    · simp [Tryd.f18, List.range, List.range.loop, ints, intss, int, bool, row, frac, fracs, ← List.map_take, ← List.map_drop, h1, hl]
      refine awp_range (live := [true, true, false, false, true, false, true, false, false, false, false, false, false, false, false, false, true, true, true, true, true, false, false, false, false, true]) (ctx_ok eqOk hG) mixed [false, true, false, false, false, false, false, false, false, false, false, false, false, false, false, false, false, true, true, true] (ss.length) (fun k => (ss.take k).all (inR 0 100) = true) (fun k => ⟨[.junk, ints nl2 ss, .junk, .junk, .junk, .junk, .junk, .junk, .junk, .junk, .junk, .junk, .junk, .junk, .junk, .junk, .junk, ints nl2 ss, int ss.length, int k, .junk, .junk, .junk, .junk, .junk, .junk, .junk, .junk, .junk, .junk], []⟩) ?_ (by simp [sub, slotsLe, clean, keep, refsL, refs, once, place, renL, ren, List.replicate, int, bool, ints, hl]) ?_ ?_ ?_
      · omega
      · simp
      · intro k hk hp hwk
        have hat := List.take_succ_eq_append_getElem hk
        cases hx : inR 0 100 ss[k] with
        | false =>
          have hf : ss.all (inR 0 100) = false := List.all_eq_false.2 ⟨ss[k], List.getElem_mem hk, by simp [hx]⟩
          simp [List.range, List.range.loop, ints, intss, int, bool, row, frac, fracs, ← List.map_take, ← List.map_drop, mWithin_in, hk, hx, seB, hf]
        | true =>
          have hps : (ss.take (k + 1)).all (inR 0 100) = true := by rw [hat, List.all_append, hp]; simp [hx]
          simp only [List.all_eq_true] at hps
          simp [List.range, List.range.loop, ints, intss, int, bool, row, frac, fracs, ← List.map_take, ← List.map_drop, mWithin_in, hk, hx, hwk]
          exact hps
      · intro hp
        rw [List.take_length] at hp
        have h3 := mSum_at nl2 ss
        rw [sumW_all (fun x hx => by have := inR_iff.1 (List.all_eq_true.1 hp x hx); omega) (by omega)] at h3
        simp [List.range, List.range.loop, ints, intss, int, bool, row, frac, fracs, ← List.map_take, ← List.map_drop, seB, hc, hl, hp, h3]
    · have hl' : ¬ (ss.length : Int) = (xs.length : Int) := by omega
      simp [Tryd.f18, List.range, List.range.loop, ints, intss, int, bool, row, frac, fracs, ← List.map_take, ← List.map_drop, h1, seB, hc, hl, hl']

end Go.Proofs.YtiieikknhheffaaDoor.Ax
