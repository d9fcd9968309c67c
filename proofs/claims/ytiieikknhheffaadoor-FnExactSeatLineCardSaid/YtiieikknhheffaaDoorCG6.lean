/-
  Contracts: quotas (both programs). No condition.
-/
import Derived.Test.YtiieikknhheffaaDoorCG5
import Derived.Test.YtiieikknhheffaaDoorCG3
namespace Go.Proofs.YtiieikknhheffaaDoor.Ax
open Go Go.RowKit
set_option linter.unusedSimpArgs false

theorem qt_facts {xs : List Int} {n : Int} (h : qtB xs n = true) : cntB xs = true ∧ 0 ≤ n ∧ n ≤ 100 := by
  simp only [qtB, Bool.and_eq_true, inR_iff] at h
  exact ⟨h.1, h.2.1, h.2.2⟩
theorem prod_bd {x n : Int} (h : 0 ≤ x ∧ x ≤ 1000000) (hn : 0 ≤ n ∧ n ≤ 100) : 0 ≤ x * n ∧ x * n ≤ 100000000 := by
  refine ⟨Int.mul_nonneg h.1 hn.1, ?_⟩
  have h1 : x * n ≤ x * 100 := Int.mul_le_mul_of_nonneg_left hn.2 h.1
  omega
theorem tdiv_le {a b c : Int} (h : 0 ≤ a) (hc : a ≤ c) (hb : 0 < b) : 0 ≤ a.tdiv b ∧ a.tdiv b ≤ c := by
  refine ⟨Int.tdiv_nonneg h (by omega), ?_⟩
  have := tdiv_bd (x := a) (y := b) (m := c) (by omega) hc
  omega
theorem tmod_le {a b : Int} (h : 0 ≤ a) (hb : 0 < b) : 0 ≤ a.tmod b ∧ a.tmod b < b := ⟨Int.tmod_nonneg b h, Int.tmod_lt_of_pos a hb⟩

/-- What a quota is made of: a count times the seats, and all counts. -/
def fL (a b : Int) : Int := a.tdiv b
def fR (a b : Int) : Int := a.tmod b
def fU (a b : Int) : Int := (a + b - 1).tdiv b
def fQ (f : Int → Int → Int) (xs : List Int) (n : Int) : List Int := xs.map fun x => f (x * n) xs.sum
theorem fQ_bd {a b : Int} (ha : 0 ≤ a ∧ a ≤ 100000000) (hb : 0 < b ∧ b ≤ 6000000) : (0 ≤ fL a b ∧ fL a b ≤ 200000000) ∧ (0 ≤ fR a b ∧ fR a b ≤ 200000000) ∧ (0 ≤ fU a b ∧ fU a b ≤ 200000000) := by
  have h1 := tdiv_le (a := a) (b := b) (c := 100000000) ha.1 ha.2 hb.1
  have h2 := tmod_le (a := a) (b := b) ha.1 hb.1
  have h3 := tdiv_le (a := a + b - 1) (b := b) (c := 200000000) (by omega) (by omega) hb.1
  exact ⟨⟨h1.1, by unfold fL; omega⟩, ⟨h2.1, by unfold fR; omega⟩, h3⟩

noncomputable def mFL : List AV → Option AV := mk (fun p => (0 ≤ p.1 ∧ p.1 ≤ 100000000) ∧ (0 < p.2 ∧ p.2 ≤ 6000000)) (fun (p : (Int) × (Int)) => [int p.1, int p.2]) (fun p => int (fL p.1 p.2))
theorem mFL_at (a : Int) (b : Int) (hpre : (0 ≤ a ∧ a ≤ 100000000) ∧ (0 < b ∧ b ≤ 6000000)) : mFL [.v (.int .i64 a), .v (.int .i64 b)] = some (.v (.int .i64 (fL a b))) :=
  mk_eq (enc := fun (p : (Int) × (Int)) => [int p.1, int p.2]) (x := (a, b)) (by rintro ⟨a0, a1⟩ ⟨b0, b1⟩ h; simp [ints, intss, int, bool, row, frac, fracs, map_int_inj, map_row_inj, frac_inj, map_frac_inj] at h; simp [h]) hpre
theorem lowF_ok : FnOk Tryd.prog 46 mFL := by
  refine mk_ok fun ⟨a, b⟩ ⟨ha, hb⟩ => ?_
  simp only at ha hb
  have hG : FnsOk Tryd.prog [] := .nil
  refine callOk_awp (ctx_ok eqOk hG) mixed (live := [true, true, false, false, true]) (dt := []) Tryd.func46 rfl (by kernel_rfl) (by kernel_rfl) fun w0 hlens => ?_
  clear hlens
  have hz : ¬ b = 0 := by omega
  obtain ⟨⟨l1, l2⟩, ⟨r1, r2⟩, ⟨u1, u2⟩⟩ := fQ_bd ha hb
  unfold fL at l1 l2
  unfold fR at r1 r2
  unfold fU at u1 u2
  have w1 : IntKind.i64.wrap (a.tdiv b) = a.tdiv b := wrapI (by omega) (by omega)
  have w2 : IntKind.i64.wrap (a.tmod b) = a.tmod b := wrapI (by omega) (by omega)
  have w3 : IntKind.i64.wrap ((a + b - 1).tdiv b) = (a + b - 1).tdiv b := wrapI (by omega) (by omega)
  have w4 : IntKind.i64.wrap (a + b) = a + b := wrapI (by omega) (by omega)
  have w5 : IntKind.i64.wrap (a + b - 1) = a + b - 1 := wrapI (by omega) (by omega)
  simp [Tryd.f46, List.range, List.range.loop, ints, intss, int, bool, row, frac, fracs, ← List.map_take, ← List.map_drop, hz, w1, w2, w3, w4, w5, fL, fR, fU]

noncomputable def mFR : List AV → Option AV := mk (fun p => (0 ≤ p.1 ∧ p.1 ≤ 100000000) ∧ (0 < p.2 ∧ p.2 ≤ 6000000)) (fun (p : (Int) × (Int)) => [int p.1, int p.2]) (fun p => int (fR p.1 p.2))
theorem mFR_at (a : Int) (b : Int) (hpre : (0 ≤ a ∧ a ≤ 100000000) ∧ (0 < b ∧ b ≤ 6000000)) : mFR [.v (.int .i64 a), .v (.int .i64 b)] = some (.v (.int .i64 (fR a b))) :=
  mk_eq (enc := fun (p : (Int) × (Int)) => [int p.1, int p.2]) (x := (a, b)) (by rintro ⟨a0, a1⟩ ⟨b0, b1⟩ h; simp [ints, intss, int, bool, row, frac, fracs, map_int_inj, map_row_inj, frac_inj, map_frac_inj] at h; simp [h]) hpre
theorem remF_ok : FnOk Tryd.prog 54 mFR := by
  refine mk_ok fun ⟨a, b⟩ ⟨ha, hb⟩ => ?_
  simp only at ha hb
  have hG : FnsOk Tryd.prog [] := .nil
  refine callOk_awp (ctx_ok eqOk hG) mixed (live := [true, true, false, false, true]) (dt := []) Tryd.func54 rfl (by kernel_rfl) (by kernel_rfl) fun w0 hlens => ?_
  clear hlens
  have hz : ¬ b = 0 := by omega
  obtain ⟨⟨l1, l2⟩, ⟨r1, r2⟩, ⟨u1, u2⟩⟩ := fQ_bd ha hb
  unfold fL at l1 l2
  unfold fR at r1 r2
  unfold fU at u1 u2
  have w1 : IntKind.i64.wrap (a.tdiv b) = a.tdiv b := wrapI (by omega) (by omega)
  have w2 : IntKind.i64.wrap (a.tmod b) = a.tmod b := wrapI (by omega) (by omega)
  have w3 : IntKind.i64.wrap ((a + b - 1).tdiv b) = (a + b - 1).tdiv b := wrapI (by omega) (by omega)
  have w4 : IntKind.i64.wrap (a + b) = a + b := wrapI (by omega) (by omega)
  have w5 : IntKind.i64.wrap (a + b - 1) = a + b - 1 := wrapI (by omega) (by omega)
  simp [Tryd.f54, List.range, List.range.loop, ints, intss, int, bool, row, frac, fracs, ← List.map_take, ← List.map_drop, hz, w1, w2, w3, w4, w5, fL, fR, fU]

noncomputable def mFU : List AV → Option AV := mk (fun p => (0 ≤ p.1 ∧ p.1 ≤ 100000000) ∧ (0 < p.2 ∧ p.2 ≤ 6000000)) (fun (p : (Int) × (Int)) => [int p.1, int p.2]) (fun p => int (fU p.1 p.2))
theorem mFU_at (a : Int) (b : Int) (hpre : (0 ≤ a ∧ a ≤ 100000000) ∧ (0 < b ∧ b ≤ 6000000)) : mFU [.v (.int .i64 a), .v (.int .i64 b)] = some (.v (.int .i64 (fU a b))) :=
  mk_eq (enc := fun (p : (Int) × (Int)) => [int p.1, int p.2]) (x := (a, b)) (by rintro ⟨a0, a1⟩ ⟨b0, b1⟩ h; simp [ints, intss, int, bool, row, frac, fracs, map_int_inj, map_row_inj, frac_inj, map_frac_inj] at h; simp [h]) hpre
theorem upF_ok : FnOk Tryd.prog 47 mFU := by
  refine mk_ok fun ⟨a, b⟩ ⟨ha, hb⟩ => ?_
  simp only at ha hb
  have hG : FnsOk Tryd.prog [] := .nil
  refine callOk_awp (ctx_ok eqOk hG) mixed (live := [true, true, false, false, true]) (dt := []) Tryd.func47 rfl (by kernel_rfl) (by kernel_rfl) fun w0 hlens => ?_
  clear hlens
  have hz : ¬ b = 0 := by omega
  obtain ⟨⟨l1, l2⟩, ⟨r1, r2⟩, ⟨u1, u2⟩⟩ := fQ_bd ha hb
  unfold fL at l1 l2
  unfold fR at r1 r2
  unfold fU at u1 u2
  have w1 : IntKind.i64.wrap (a.tdiv b) = a.tdiv b := wrapI (by omega) (by omega)
  have w2 : IntKind.i64.wrap (a.tmod b) = a.tmod b := wrapI (by omega) (by omega)
  have w3 : IntKind.i64.wrap ((a + b - 1).tdiv b) = (a + b - 1).tdiv b := wrapI (by omega) (by omega)
  have w4 : IntKind.i64.wrap (a + b) = a + b := wrapI (by omega) (by omega)
  have w5 : IntKind.i64.wrap (a + b - 1) = a + b - 1 := wrapI (by omega) (by omega)
  simp [Tryd.f47, List.range, List.range.loop, ints, intss, int, bool, row, frac, fracs, ← List.map_take, ← List.map_drop, hz, w1, w2, w3, w4, w5, fL, fR, fU]

theorem take_snocI {f : Int → Int} {xs : List Int} {k : Nat} (h : k < xs.length) : (xs.take (k + 1)).map f = (xs.take k).map f ++ [f xs[k]] := by
  rw [List.take_succ_eq_append_getElem h, List.map_append]; rfl

noncomputable def mQuoL : List AV → Option AV := mk (fun _ => True) (fun (p : (Bool) × (List Int) × (Int)) => [ints p.1 p.2.1, int p.2.2, .fn 46 []]) (fun p => if qtB p.2.1 p.2.2 = true then .sl false 1 ((fQ fL p.2.1 p.2.2).map int) else .sl true 1 [])
theorem mQuoL_at (nl : Bool) (xs : List Int) (n : Int) : mQuoL [.sl nl 1 (xs.map int), .v (.int .i64 n), .fn 46 []] = some (if qtB xs n = true then .sl false 1 ((fQ fL xs n).map int) else .sl true 1 []) :=
  mk_eq (enc := fun (p : (Bool) × (List Int) × (Int)) => [ints p.1 p.2.1, int p.2.2, .fn 46 []]) (x := (nl, xs, n)) (by rintro ⟨a0, a1, a2⟩ ⟨b0, b1, b2⟩ h; simp [ints, intss, int, bool, row, frac, fracs, map_int_inj, map_row_inj, frac_inj, map_frac_inj] at h; simp [h]) trivial
set_option maxHeartbeats 1000000 in
theorem quoL_ok : (FnOk Tryd.prog 45 mQuoL) := by
  refine mk_ok fun ⟨nl, xs, n⟩ _ => ?_
  simp only
  have hG : FnsOk Tryd.prog [(39, mQt), (27, mSum), (46, mFL)] := (.cons implQt_ok (.cons sumOf_ok (.cons lowF_ok .nil)))
  refine callOk_awp (ctx_ok eqOk hG) mixed (live := [true, true, true, false, false, false, true, true, false, true, false, false, false, true, true, true, true, true]) (dt := []) Tryd.func45 rfl (by kernel_rfl) (by kernel_rfl) fun w0 hlens => ?_
  clear hlens
  have h1 := mQt_at nl xs n
  cases hq : qtB xs n with
  | false => rw [hq] at h1; simp [Tryd.f45, List.range, List.range.loop, ints, intss, int, bool, row, frac, fracs, ← List.map_take, ← List.map_drop, h1]
  | true =>
    rw [hq] at h1
    obtain ⟨hc, hn⟩ := qt_facts hq
    obtain ⟨c1, c2, c3, c4, c5⟩ := cnt_facts hc
    have h3 := mSum_at nl xs
    rw [sumW_all c3 (by omega)] at h3
    simp [Tryd.f45, List.range, List.range.loop, ints, intss, int, bool, row, frac, fracs, ← List.map_take, ← List.map_drop, h1]
    have e0 : fQ fL xs n = xs.map fun x => fL (x * n) xs.sum := rfl
    refine awp_range (live := [true, true, true, false, false, false, true, true, false, true, false, false, false, true, true, true, true, true]) (ctx_ok eqOk hG) mixed [true, true, true, false, false, false, false, true, false, false, false, false, false, false, true, true, true] (xs.length) (fun k => True) (fun k => ⟨[ints nl xs, int n, .fn 46 [], .junk, .junk, .junk, .junk, apW k, .junk, .junk, .junk, .junk, .junk, .junk, ints nl xs, int xs.length, int k, .junk, .junk, .junk, .junk, .junk, .junk, .junk, .junk, .junk, .junk, .junk, .junk, .junk, .junk, .junk], apWt (((xs.take k).map fun x => fL (x * n) xs.sum).map int) k⟩) ?_ (by simp [sub, slotsLe, clean, keep, refsL, refs, once, place, renL, ren, List.replicate, int, bool, ints, apW, apWt, apV]) ?_ ?_ ?_
    · omega
    · trivial
    · intro k hk _ hwk
      have hx := c3 _ (List.getElem_mem hk)
      have hp := prod_bd hx hn
      have hm := mFL_at (xs[k] * n) xs.sum ⟨hp, c4, c5⟩
      have hw : IntKind.i64.wrap (xs[k] * n) = xs[k] * n := wrapI (by omega) (by omega)
      have hst := take_snocI (f := fun x => fL (x * n) xs.sum) hk
      have hln : ((xs.take k).map fun x => fL (x * n) xs.sum).length = k := by simp; omega
      have hb : k + 1 ≤ 4611686018427387904 ∧ (k + 1) * 8 ≤ 140737488355328 := by omega
      generalize (xs.take (k + 1)).map (fun x => fL (x * n) xs.sum) = B at *
      generalize (xs.take k).map (fun x => fL (x * n) xs.sum) = A at *
      subst hst
      cases k with
      | zero =>
        have hA : A = [] := by simpa using hln
        subst hA
        simp [List.range, List.range.loop, ints, intss, int, bool, row, frac, fracs, ← List.map_take, ← List.map_drop, apW, apWt, apV, hk, h3, hm, hw, hb]
        try decide
      | succ k =>
        simp [List.range, List.range.loop, ints, intss, int, bool, row, frac, fracs, ← List.map_take, ← List.map_drop, apW, apWt, apV, hk, h3, hm, hw, hb, hwk, hln]
        try exact wrapI (by omega) (by omega)
    · intro _
      obtain ⟨m, hm⟩ : ∃ m, xs.length = m + 1 := ⟨xs.length - 1, by omega⟩
      have ht : xs.take (m + 1) = xs := List.take_of_length_le (by omega)
      have hln : (xs.map fun x => fL (x * n) xs.sum).length = m + 1 := by simp; omega
      rw [hm, ht, e0]
      generalize (xs.map fun x => fL (x * n) xs.sum) = A at *
      simp [List.range, List.range.loop, ints, intss, int, bool, row, frac, fracs, ← List.map_take, ← List.map_drop, apW, apWt, apV, hln]

noncomputable def mQuoR : List AV → Option AV := mk (fun _ => True) (fun (p : (Bool) × (List Int) × (Int)) => [ints p.1 p.2.1, int p.2.2, .fn 54 []]) (fun p => if qtB p.2.1 p.2.2 = true then .sl false 1 ((fQ fR p.2.1 p.2.2).map int) else .sl true 1 [])
theorem mQuoR_at (nl : Bool) (xs : List Int) (n : Int) : mQuoR [.sl nl 1 (xs.map int), .v (.int .i64 n), .fn 54 []] = some (if qtB xs n = true then .sl false 1 ((fQ fR xs n).map int) else .sl true 1 []) :=
  mk_eq (enc := fun (p : (Bool) × (List Int) × (Int)) => [ints p.1 p.2.1, int p.2.2, .fn 54 []]) (x := (nl, xs, n)) (by rintro ⟨a0, a1, a2⟩ ⟨b0, b1, b2⟩ h; simp [ints, intss, int, bool, row, frac, fracs, map_int_inj, map_row_inj, frac_inj, map_frac_inj] at h; simp [h]) trivial
set_option maxHeartbeats 1000000 in
theorem quoR_ok : (FnOk Tryd.prog 45 mQuoR) := by
  refine mk_ok fun ⟨nl, xs, n⟩ _ => ?_
  simp only
  have hG : FnsOk Tryd.prog [(39, mQt), (27, mSum), (54, mFR)] := (.cons implQt_ok (.cons sumOf_ok (.cons remF_ok .nil)))
  refine callOk_awp (ctx_ok eqOk hG) mixed (live := [true, true, true, false, false, false, true, true, false, true, false, false, false, true, true, true, true, true]) (dt := []) Tryd.func45 rfl (by kernel_rfl) (by kernel_rfl) fun w0 hlens => ?_
  clear hlens
  have h1 := mQt_at nl xs n
  cases hq : qtB xs n with
  | false => rw [hq] at h1; simp [Tryd.f45, List.range, List.range.loop, ints, intss, int, bool, row, frac, fracs, ← List.map_take, ← List.map_drop, h1]
  | true =>
    rw [hq] at h1
    obtain ⟨hc, hn⟩ := qt_facts hq
    obtain ⟨c1, c2, c3, c4, c5⟩ := cnt_facts hc
    have h3 := mSum_at nl xs
    rw [sumW_all c3 (by omega)] at h3
    simp [Tryd.f45, List.range, List.range.loop, ints, intss, int, bool, row, frac, fracs, ← List.map_take, ← List.map_drop, h1]
    have e0 : fQ fR xs n = xs.map fun x => fR (x * n) xs.sum := rfl
    refine awp_range (live := [true, true, true, false, false, false, true, true, false, true, false, false, false, true, true, true, true, true]) (ctx_ok eqOk hG) mixed [true, true, true, false, false, false, false, true, false, false, false, false, false, false, true, true, true] (xs.length) (fun k => True) (fun k => ⟨[ints nl xs, int n, .fn 54 [], .junk, .junk, .junk, .junk, apW k, .junk, .junk, .junk, .junk, .junk, .junk, ints nl xs, int xs.length, int k, .junk, .junk, .junk, .junk, .junk, .junk, .junk, .junk, .junk, .junk, .junk, .junk, .junk, .junk, .junk], apWt (((xs.take k).map fun x => fR (x * n) xs.sum).map int) k⟩) ?_ (by simp [sub, slotsLe, clean, keep, refsL, refs, once, place, renL, ren, List.replicate, int, bool, ints, apW, apWt, apV]) ?_ ?_ ?_
    · omega
    · trivial
    · intro k hk _ hwk
      have hx := c3 _ (List.getElem_mem hk)
      have hp := prod_bd hx hn
      have hm := mFR_at (xs[k] * n) xs.sum ⟨hp, c4, c5⟩
      have hw : IntKind.i64.wrap (xs[k] * n) = xs[k] * n := wrapI (by omega) (by omega)
      have hst := take_snocI (f := fun x => fR (x * n) xs.sum) hk
      have hln : ((xs.take k).map fun x => fR (x * n) xs.sum).length = k := by simp; omega
      have hb : k + 1 ≤ 4611686018427387904 ∧ (k + 1) * 8 ≤ 140737488355328 := by omega
      generalize (xs.take (k + 1)).map (fun x => fR (x * n) xs.sum) = B at *
      generalize (xs.take k).map (fun x => fR (x * n) xs.sum) = A at *
      subst hst
      cases k with
      | zero =>
        have hA : A = [] := by simpa using hln
        subst hA
        simp [List.range, List.range.loop, ints, intss, int, bool, row, frac, fracs, ← List.map_take, ← List.map_drop, apW, apWt, apV, hk, h3, hm, hw, hb]
        try decide
      | succ k =>
        simp [List.range, List.range.loop, ints, intss, int, bool, row, frac, fracs, ← List.map_take, ← List.map_drop, apW, apWt, apV, hk, h3, hm, hw, hb, hwk, hln]
        try exact wrapI (by omega) (by omega)
    · intro _
      obtain ⟨m, hm⟩ : ∃ m, xs.length = m + 1 := ⟨xs.length - 1, by omega⟩
      have ht : xs.take (m + 1) = xs := List.take_of_length_le (by omega)
      have hln : (xs.map fun x => fR (x * n) xs.sum).length = m + 1 := by simp; omega
      rw [hm, ht, e0]
      generalize (xs.map fun x => fR (x * n) xs.sum) = A at *
      simp [List.range, List.range.loop, ints, intss, int, bool, row, frac, fracs, ← List.map_take, ← List.map_drop, apW, apWt, apV, hln]

noncomputable def mQuoU : List AV → Option AV := mk (fun _ => True) (fun (p : (Bool) × (List Int) × (Int)) => [ints p.1 p.2.1, int p.2.2, .fn 47 []]) (fun p => if qtB p.2.1 p.2.2 = true then .sl false 1 ((fQ fU p.2.1 p.2.2).map int) else .sl true 1 [])
theorem mQuoU_at (nl : Bool) (xs : List Int) (n : Int) : mQuoU [.sl nl 1 (xs.map int), .v (.int .i64 n), .fn 47 []] = some (if qtB xs n = true then .sl false 1 ((fQ fU xs n).map int) else .sl true 1 []) :=
  mk_eq (enc := fun (p : (Bool) × (List Int) × (Int)) => [ints p.1 p.2.1, int p.2.2, .fn 47 []]) (x := (nl, xs, n)) (by rintro ⟨a0, a1, a2⟩ ⟨b0, b1, b2⟩ h; simp [ints, intss, int, bool, row, frac, fracs, map_int_inj, map_row_inj, frac_inj, map_frac_inj] at h; simp [h]) trivial
set_option maxHeartbeats 1000000 in
theorem quoU_ok : (FnOk Tryd.prog 45 mQuoU) := by
  refine mk_ok fun ⟨nl, xs, n⟩ _ => ?_
  simp only
  have hG : FnsOk Tryd.prog [(39, mQt), (27, mSum), (47, mFU)] := (.cons implQt_ok (.cons sumOf_ok (.cons upF_ok .nil)))
  refine callOk_awp (ctx_ok eqOk hG) mixed (live := [true, true, true, false, false, false, true, true, false, true, false, false, false, true, true, true, true, true]) (dt := []) Tryd.func45 rfl (by kernel_rfl) (by kernel_rfl) fun w0 hlens => ?_
  clear hlens
  have h1 := mQt_at nl xs n
  cases hq : qtB xs n with
  | false => rw [hq] at h1; simp [Tryd.f45, List.range, List.range.loop, ints, intss, int, bool, row, frac, fracs, ← List.map_take, ← List.map_drop, h1]
  | true =>
    rw [hq] at h1
    obtain ⟨hc, hn⟩ := qt_facts hq
    obtain ⟨c1, c2, c3, c4, c5⟩ := cnt_facts hc
    have h3 := mSum_at nl xs
    rw [sumW_all c3 (by omega)] at h3
    simp [Tryd.f45, List.range, List.range.loop, ints, intss, int, bool, row, frac, fracs, ← List.map_take, ← List.map_drop, h1]
    have e0 : fQ fU xs n = xs.map fun x => fU (x * n) xs.sum := rfl
    refine awp_range (live := [true, true, true, false, false, false, true, true, false, true, false, false, false, true, true, true, true, true]) (ctx_ok eqOk hG) mixed [true, true, true, false, false, false, false, true, false, false, false, false, false, false, true, true, true] (xs.length) (fun k => True) (fun k => ⟨[ints nl xs, int n, .fn 47 [], .junk, .junk, .junk, .junk, apW k, .junk, .junk, .junk, .junk, .junk, .junk, ints nl xs, int xs.length, int k, .junk, .junk, .junk, .junk, .junk, .junk, .junk, .junk, .junk, .junk, .junk, .junk, .junk, .junk, .junk], apWt (((xs.take k).map fun x => fU (x * n) xs.sum).map int) k⟩) ?_ (by simp [sub, slotsLe, clean, keep, refsL, refs, once, place, renL, ren, List.replicate, int, bool, ints, apW, apWt, apV]) ?_ ?_ ?_
    · omega
    · trivial
    · intro k hk _ hwk
      have hx := c3 _ (List.getElem_mem hk)
      have hp := prod_bd hx hn
      have hm := mFU_at (xs[k] * n) xs.sum ⟨hp, c4, c5⟩
      have hw : IntKind.i64.wrap (xs[k] * n) = xs[k] * n := wrapI (by omega) (by omega)
      have hst := take_snocI (f := fun x => fU (x * n) xs.sum) hk
      have hln : ((xs.take k).map fun x => fU (x * n) xs.sum).length = k := by simp; omega
      have hb : k + 1 ≤ 4611686018427387904 ∧ (k + 1) * 8 ≤ 140737488355328 := by omega
      generalize (xs.take (k + 1)).map (fun x => fU (x * n) xs.sum) = B at *
      generalize (xs.take k).map (fun x => fU (x * n) xs.sum) = A at *
      subst hst
      cases k with
      | zero =>
        have hA : A = [] := by simpa using hln
        subst hA
        simp [List.range, List.range.loop, ints, intss, int, bool, row, frac, fracs, ← List.map_take, ← List.map_drop, apW, apWt, apV, hk, h3, hm, hw, hb]
        try decide
      | succ k =>
        simp [List.range, List.range.loop, ints, intss, int, bool, row, frac, fracs, ← List.map_take, ← List.map_drop, apW, apWt, apV, hk, h3, hm, hw, hb, hwk, hln]
        try exact wrapI (by omega) (by omega)
    · intro _
      obtain ⟨m, hm⟩ : ∃ m, xs.length = m + 1 := ⟨xs.length - 1, by omega⟩
      have ht : xs.take (m + 1) = xs := List.take_of_length_le (by omega)
      have hln : (xs.map fun x => fU (x * n) xs.sum).length = m + 1 := by simp; omega
      rw [hm, ht, e0]
      generalize (xs.map fun x => fU (x * n) xs.sum) = A at *
      simp [List.range, List.range.loop, ints, intss, int, bool, row, frac, fracs, ← List.map_take, ← List.map_drop, apW, apWt, apV, hln]

noncomputable def mLow : List AV → Option AV := mk (fun _ => True) (fun (p : (Bool) × (List Int) × (Int)) => [ints p.1 p.2.1, int p.2.2]) (fun p => if qtB p.2.1 p.2.2 = true then .sl false 1 ((qL p.2.1 p.2.2).map int) else .sl true 1 [])
theorem mLow_at (nl : Bool) (xs : List Int) (n : Int) : mLow [.sl nl 1 (xs.map int), .v (.int .i64 n)] = some (if qtB xs n = true then .sl false 1 ((qL xs n).map int) else .sl true 1 []) :=
  mk_eq (enc := fun (p : (Bool) × (List Int) × (Int)) => [ints p.1 p.2.1, int p.2.2]) (x := (nl, xs, n)) (by rintro ⟨a0, a1, a2⟩ ⟨b0, b1, b2⟩ h; simp [ints, intss, int, bool, row, frac, fracs, map_int_inj, map_row_inj, frac_inj, map_frac_inj] at h; simp [h]) trivial
noncomputable def mUp : List AV → Option AV := mk (fun _ => True) (fun (p : (Bool) × (List Int) × (Int)) => [ints p.1 p.2.1, int p.2.2]) (fun p => if qtB p.2.1 p.2.2 = true then .sl false 1 ((qU p.2.1 p.2.2).map int) else .sl true 1 [])
theorem mUp_at (nl : Bool) (xs : List Int) (n : Int) : mUp [.sl nl 1 (xs.map int), .v (.int .i64 n)] = some (if qtB xs n = true then .sl false 1 ((qU xs n).map int) else .sl true 1 []) :=
  mk_eq (enc := fun (p : (Bool) × (List Int) × (Int)) => [ints p.1 p.2.1, int p.2.2]) (x := (nl, xs, n)) (by rintro ⟨a0, a1, a2⟩ ⟨b0, b1, b2⟩ h; simp [ints, intss, int, bool, row, frac, fracs, map_int_inj, map_row_inj, frac_inj, map_frac_inj] at h; simp [h]) trivial
noncomputable def mRem : List AV → Option AV := mk (fun _ => True) (fun (p : (Bool) × (List Int) × (Int)) => [ints p.1 p.2.1, int p.2.2]) (fun p => if qtB p.2.1 p.2.2 = true then .sl false 1 ((qR p.2.1 p.2.2).map int) else .sl true 1 [])
theorem mRem_at (nl : Bool) (xs : List Int) (n : Int) : mRem [.sl nl 1 (xs.map int), .v (.int .i64 n)] = some (if qtB xs n = true then .sl false 1 ((qR xs n).map int) else .sl true 1 []) :=
  mk_eq (enc := fun (p : (Bool) × (List Int) × (Int)) => [ints p.1 p.2.1, int p.2.2]) (x := (nl, xs, n)) (by rintro ⟨a0, a1, a2⟩ ⟨b0, b1, b2⟩ h; simp [ints, intss, int, bool, row, frac, fracs, map_int_inj, map_row_inj, frac_inj, map_frac_inj] at h; simp [h]) trivial
theorem implLow_ok : FnOk Tryd.prog 26 mLow := by
  refine mk_ok fun ⟨nl, xs, n⟩ _ => ?_
  simp only
  have hG : FnsOk Tryd.prog [(45, mQuoL), (46, mFL)] := (.cons quoL_ok (.cons lowF_ok .nil))
  refine callOk_awp (ctx_ok eqOk hG) mixed (live := [true, true, false, false, true]) (dt := []) Tryd.func26 rfl (by kernel_rfl) (by kernel_rfl) fun w0 hlens => ?_
  clear hlens
  have h := mQuoL_at nl xs n
  rw [show fQ fL xs n = qL xs n from rfl] at h
  by_cases hq : qtB xs n = true
  · rw [if_pos hq] at h ⊢
    simp [Tryd.f26, List.range, List.range.loop, ints, intss, int, bool, row, frac, fracs, ← List.map_take, ← List.map_drop, h]
  · rw [if_neg hq] at h ⊢
    simp [Tryd.f26, List.range, List.range.loop, ints, intss, int, bool, row, frac, fracs, ← List.map_take, ← List.map_drop, h]

theorem implRem_ok : FnOk Tryd.prog 41 mRem := by
  refine mk_ok fun ⟨nl, xs, n⟩ _ => ?_
  simp only
  have hG : FnsOk Tryd.prog [(45, mQuoR), (54, mFR)] := (.cons quoR_ok (.cons remF_ok .nil))
  refine callOk_awp (ctx_ok eqOk hG) mixed (live := [true, true, false, false, true]) (dt := []) Tryd.func41 rfl (by kernel_rfl) (by kernel_rfl) fun w0 hlens => ?_
  clear hlens
  have h := mQuoR_at nl xs n
  rw [show fQ fR xs n = qR xs n from rfl] at h
  by_cases hq : qtB xs n = true
  · rw [if_pos hq] at h ⊢
    simp [Tryd.f41, List.range, List.range.loop, ints, intss, int, bool, row, frac, fracs, ← List.map_take, ← List.map_drop, h]
  · rw [if_neg hq] at h ⊢
    simp [Tryd.f41, List.range, List.range.loop, ints, intss, int, bool, row, frac, fracs, ← List.map_take, ← List.map_drop, h]

theorem implUp_ok : FnOk Tryd.prog 28 mUp := by
  refine mk_ok fun ⟨nl, xs, n⟩ _ => ?_
  simp only
  have hG : FnsOk Tryd.prog [(45, mQuoU), (47, mFU)] := (.cons quoU_ok (.cons upF_ok .nil))
  refine callOk_awp (ctx_ok eqOk hG) mixed (live := [true, true, false, false, true]) (dt := []) Tryd.func28 rfl (by kernel_rfl) (by kernel_rfl) fun w0 hlens => ?_
  clear hlens
  have h := mQuoU_at nl xs n
  rw [show fQ fU xs n = qU xs n from rfl] at h
  by_cases hq : qtB xs n = true
  · rw [if_pos hq] at h ⊢
    simp [Tryd.f28, List.range, List.range.loop, ints, intss, int, bool, row, frac, fracs, ← List.map_take, ← List.map_drop, h]
  · rw [if_neg hq] at h ⊢
    simp [Tryd.f28, List.range, List.range.loop, ints, intss, int, bool, row, frac, fracs, ← List.map_take, ← List.map_drop, h]

set_option maxHeartbeats 1000000 in
theorem specLow_ok : FnOk Tryd.prog 20 mLow := by
  refine mk_ok fun ⟨nl, xs, n⟩ _ => ?_
  simp only
  rw [show qL xs n = fQ fL xs n from rfl]
  have hG : FnsOk Tryd.prog [(32, mQt), (19, mSum)] := (.cons specQt_ok (.cons l13Sum_ok .nil))
  refine callOk_awp (ctx_ok eqOk hG) mixed (live := [true, true, false, false, true, true, false, true, false, false, false, true, false, true, true, true, true]) (dt := []) Tryd.func20 rfl (by kernel_rfl) (by kernel_rfl) fun w0 hlens => ?_
  clear hlens
  have h1 := mQt_at nl xs n
  cases hq : qtB xs n with
  | false => rw [hq] at h1; simp [Tryd.f20, List.range, List.range.loop, ints, intss, int, bool, row, frac, fracs, ← List.map_take, ← List.map_drop, h1]
  | true =>
    rw [hq] at h1
    obtain ⟨hc, hn⟩ := qt_facts hq
    obtain ⟨c1, c2, c3, c4, c5⟩ := cnt_facts hc
    have h3 := mSum_at nl xs
    rw [sumW_all c3 (by omega)] at h3
    have e0 : fQ fL xs n = xs.map fun x => fL (x * n) xs.sum := rfl
    simp [Tryd.f20, List.range, List.range.loop, ints, intss, int, bool, row, frac, fracs, ← List.map_take, ← List.map_drop, h1]
    refine awp_range (live := [true, true, false, false, true, true, false, true, false, false, false, true, false, true, true, true, true]) (ctx_ok eqOk hG) mixed [true, true, false, false, false, true, false, false, false, false, false, false, false, true, true, true] (xs.length) (fun k => True) (fun k => ⟨[ints nl xs, int n, .junk, .junk, .junk, .ref 0 [] 0 k, .junk, .junk, .junk, .junk, .junk, .junk, .junk, ints nl xs, int xs.length, int k, .junk, .junk, .junk, .junk, .junk, .junk, .junk, .junk, .junk, .junk, .junk, .junk, .junk, .junk], [⟨true, .sl false 1 (((xs.take k).map fun x => fL (x * n) xs.sum).map int)⟩]⟩) ?_ (by simp [sub, slotsLe, clean, keep, refsL, refs, once, place, renL, ren, List.replicate, int, bool, ints]) ?_ ?_ ?_
    · omega
    · trivial
    · intro k hk _ hwk
      have hx := c3 _ (List.getElem_mem hk)
      have hp := prod_bd hx hn
      have hS : 0 < xs.sum ∧ xs.sum ≤ 6000000 := ⟨c4, c5⟩
      have hz : ¬ xs.sum = 0 := by omega
      obtain ⟨⟨l1, l2⟩, ⟨r1, r2⟩, ⟨u1, u2⟩⟩ := fQ_bd hp hS
      have hw : IntKind.i64.wrap (xs[k] * n) = xs[k] * n := wrapI (by omega) (by omega)
      have hst := take_snocI (f := fun x => fL (x * n) xs.sum) hk
      have hln : ((xs.take k).map fun x => fL (x * n) xs.sum).length = k := by simp; omega
      have hb : k + 1 ≤ 4611686018427387904 ∧ (k + 1) * 8 ≤ 140737488355328 := by omega
      generalize (xs.take (k + 1)).map (fun x => fL (x * n) xs.sum) = B at *
      generalize (xs.take k).map (fun x => fL (x * n) xs.sum) = A at *
      subst hst
      unfold fL at l1 l2
      unfold fR at r1 r2
      unfold fU at u1 u2
      have w1 : IntKind.i64.wrap ((xs[k] * n).tdiv xs.sum) = (xs[k] * n).tdiv xs.sum := wrapI (by omega) (by omega)
      have w2 : IntKind.i64.wrap ((xs[k] * n).tmod xs.sum) = (xs[k] * n).tmod xs.sum := wrapI (by omega) (by omega)
      have w3 : IntKind.i64.wrap ((xs[k] * n + xs.sum - 1).tdiv xs.sum) = (xs[k] * n + xs.sum - 1).tdiv xs.sum := wrapI (by omega) (by omega)
      have w4 : IntKind.i64.wrap (xs[k] * n + xs.sum) = xs[k] * n + xs.sum := wrapI (by omega) (by omega)
      have w5 : IntKind.i64.wrap (xs[k] * n + xs.sum - 1) = xs[k] * n + xs.sum - 1 := wrapI (by omega) (by omega)
      simp [List.range, List.range.loop, ints, intss, int, bool, row, frac, fracs, ← List.map_take, ← List.map_drop, hk, h3, hz, hw, w1, w2, w3, w4, w5, hb, hwk, hln, fL, fR, fU]
    · intro _
      have hln : (xs.map fun x => fL (x * n) xs.sum).length = xs.length := by simp
      rw [List.take_length, e0]
      generalize (xs.map fun x => fL (x * n) xs.sum) = A at *
      simp [List.range, List.range.loop, ints, intss, int, bool, row, frac, fracs, ← List.map_take, ← List.map_drop, hln]

set_option maxHeartbeats 1000000 in
theorem specRem_ok : FnOk Tryd.prog 34 mRem := by
  refine mk_ok fun ⟨nl, xs, n⟩ _ => ?_
  simp only
  rw [show qR xs n = fQ fR xs n from rfl]
  have hG : FnsOk Tryd.prog [(32, mQt), (19, mSum)] := (.cons specQt_ok (.cons l13Sum_ok .nil))
  refine callOk_awp (ctx_ok eqOk hG) mixed (live := [true, true, false, false, true, true, false, true, false, false, false, true, false, true, true, true, true]) (dt := []) Tryd.func34 rfl (by kernel_rfl) (by kernel_rfl) fun w0 hlens => ?_
  clear hlens
  have h1 := mQt_at nl xs n
  cases hq : qtB xs n with
  | false => rw [hq] at h1; simp [Tryd.f34, List.range, List.range.loop, ints, intss, int, bool, row, frac, fracs, ← List.map_take, ← List.map_drop, h1]
  | true =>
    rw [hq] at h1
    obtain ⟨hc, hn⟩ := qt_facts hq
    obtain ⟨c1, c2, c3, c4, c5⟩ := cnt_facts hc
    have h3 := mSum_at nl xs
    rw [sumW_all c3 (by omega)] at h3
    have e0 : fQ fR xs n = xs.map fun x => fR (x * n) xs.sum := rfl
    simp [Tryd.f34, List.range, List.range.loop, ints, intss, int, bool, row, frac, fracs, ← List.map_take, ← List.map_drop, h1]
    refine awp_range (live := [true, true, false, false, true, true, false, true, false, false, false, true, false, true, true, true, true]) (ctx_ok eqOk hG) mixed [true, true, false, false, false, true, false, false, false, false, false, false, false, true, true, true] (xs.length) (fun k => True) (fun k => ⟨[ints nl xs, int n, .junk, .junk, .junk, .ref 0 [] 0 k, .junk, .junk, .junk, .junk, .junk, .junk, .junk, ints nl xs, int xs.length, int k, .junk, .junk, .junk, .junk, .junk, .junk, .junk, .junk, .junk, .junk, .junk, .junk, .junk, .junk], [⟨true, .sl false 1 (((xs.take k).map fun x => fR (x * n) xs.sum).map int)⟩]⟩) ?_ (by simp [sub, slotsLe, clean, keep, refsL, refs, once, place, renL, ren, List.replicate, int, bool, ints]) ?_ ?_ ?_
    · omega
    · trivial
    · intro k hk _ hwk
      have hx := c3 _ (List.getElem_mem hk)
      have hp := prod_bd hx hn
      have hS : 0 < xs.sum ∧ xs.sum ≤ 6000000 := ⟨c4, c5⟩
      have hz : ¬ xs.sum = 0 := by omega
      obtain ⟨⟨l1, l2⟩, ⟨r1, r2⟩, ⟨u1, u2⟩⟩ := fQ_bd hp hS
      have hw : IntKind.i64.wrap (xs[k] * n) = xs[k] * n := wrapI (by omega) (by omega)
      have hst := take_snocI (f := fun x => fR (x * n) xs.sum) hk
      have hln : ((xs.take k).map fun x => fR (x * n) xs.sum).length = k := by simp; omega
      have hb : k + 1 ≤ 4611686018427387904 ∧ (k + 1) * 8 ≤ 140737488355328 := by omega
      generalize (xs.take (k + 1)).map (fun x => fR (x * n) xs.sum) = B at *
      generalize (xs.take k).map (fun x => fR (x * n) xs.sum) = A at *
      subst hst
      unfold fL at l1 l2
      unfold fR at r1 r2
      unfold fU at u1 u2
      have w1 : IntKind.i64.wrap ((xs[k] * n).tdiv xs.sum) = (xs[k] * n).tdiv xs.sum := wrapI (by omega) (by omega)
      have w2 : IntKind.i64.wrap ((xs[k] * n).tmod xs.sum) = (xs[k] * n).tmod xs.sum := wrapI (by omega) (by omega)
      have w3 : IntKind.i64.wrap ((xs[k] * n + xs.sum - 1).tdiv xs.sum) = (xs[k] * n + xs.sum - 1).tdiv xs.sum := wrapI (by omega) (by omega)
      have w4 : IntKind.i64.wrap (xs[k] * n + xs.sum) = xs[k] * n + xs.sum := wrapI (by omega) (by omega)
      have w5 : IntKind.i64.wrap (xs[k] * n + xs.sum - 1) = xs[k] * n + xs.sum - 1 := wrapI (by omega) (by omega)
      simp [List.range, List.range.loop, ints, intss, int, bool, row, frac, fracs, ← List.map_take, ← List.map_drop, hk, h3, hz, hw, w1, w2, w3, w4, w5, hb, hwk, hln, fL, fR, fU]
    · intro _
      have hln : (xs.map fun x => fR (x * n) xs.sum).length = xs.length := by simp
      rw [List.take_length, e0]
      generalize (xs.map fun x => fR (x * n) xs.sum) = A at *
      simp [List.range, List.range.loop, ints, intss, int, bool, row, frac, fracs, ← List.map_take, ← List.map_drop, hln]

set_option maxHeartbeats 1000000 in
theorem specUp_ok : FnOk Tryd.prog 21 mUp := by
  refine mk_ok fun ⟨nl, xs, n⟩ _ => ?_
  simp only
  rw [show qU xs n = fQ fU xs n from rfl]
  have hG : FnsOk Tryd.prog [(32, mQt), (19, mSum)] := (.cons specQt_ok (.cons l13Sum_ok .nil))
  refine callOk_awp (ctx_ok eqOk hG) mixed (live := [true, true, false, false, true, true, false, true, false, false, false, true, false, true, true, true, true]) (dt := []) Tryd.func21 rfl (by kernel_rfl) (by kernel_rfl) fun w0 hlens => ?_
  clear hlens
  have h1 := mQt_at nl xs n
  cases hq : qtB xs n with
  | false => rw [hq] at h1; simp [Tryd.f21, List.range, List.range.loop, ints, intss, int, bool, row, frac, fracs, ← List.map_take, ← List.map_drop, h1]
  | true =>
    rw [hq] at h1
    obtain ⟨hc, hn⟩ := qt_facts hq
    obtain ⟨c1, c2, c3, c4, c5⟩ := cnt_facts hc
    have h3 := mSum_at nl xs
    rw [sumW_all c3 (by omega)] at h3
    have e0 : fQ fU xs n = xs.map fun x => fU (x * n) xs.sum := rfl
    simp [Tryd.f21, List.range, List.range.loop, ints, intss, int, bool, row, frac, fracs, ← List.map_take, ← List.map_drop, h1]
    refine awp_range (live := [true, true, false, false, true, true, false, true, false, false, false, true, false, true, true, true, true]) (ctx_ok eqOk hG) mixed [true, true, false, false, false, true, false, false, false, false, false, false, false, true, true, true] (xs.length) (fun k => True) (fun k => ⟨[ints nl xs, int n, .junk, .junk, .junk, .ref 0 [] 0 k, .junk, .junk, .junk, .junk, .junk, .junk, .junk, ints nl xs, int xs.length, int k, .junk, .junk, .junk, .junk, .junk, .junk, .junk, .junk, .junk, .junk, .junk, .junk, .junk, .junk, .junk, .junk, .junk, .junk], [⟨true, .sl false 1 (((xs.take k).map fun x => fU (x * n) xs.sum).map int)⟩]⟩) ?_ (by simp [sub, slotsLe, clean, keep, refsL, refs, once, place, renL, ren, List.replicate, int, bool, ints]) ?_ ?_ ?_
    · omega
    · trivial
    · intro k hk _ hwk
      have hx := c3 _ (List.getElem_mem hk)
      have hp := prod_bd hx hn
      have hS : 0 < xs.sum ∧ xs.sum ≤ 6000000 := ⟨c4, c5⟩
      have hz : ¬ xs.sum = 0 := by omega
      obtain ⟨⟨l1, l2⟩, ⟨r1, r2⟩, ⟨u1, u2⟩⟩ := fQ_bd hp hS
      have hw : IntKind.i64.wrap (xs[k] * n) = xs[k] * n := wrapI (by omega) (by omega)
      have hst := take_snocI (f := fun x => fU (x * n) xs.sum) hk
      have hln : ((xs.take k).map fun x => fU (x * n) xs.sum).length = k := by simp; omega
      have hb : k + 1 ≤ 4611686018427387904 ∧ (k + 1) * 8 ≤ 140737488355328 := by omega
      generalize (xs.take (k + 1)).map (fun x => fU (x * n) xs.sum) = B at *
      generalize (xs.take k).map (fun x => fU (x * n) xs.sum) = A at *
      subst hst
      unfold fL at l1 l2
      unfold fR at r1 r2
      unfold fU at u1 u2
      have w1 : IntKind.i64.wrap ((xs[k] * n).tdiv xs.sum) = (xs[k] * n).tdiv xs.sum := wrapI (by omega) (by omega)
      have w2 : IntKind.i64.wrap ((xs[k] * n).tmod xs.sum) = (xs[k] * n).tmod xs.sum := wrapI (by omega) (by omega)
      have w3 : IntKind.i64.wrap ((xs[k] * n + xs.sum - 1).tdiv xs.sum) = (xs[k] * n + xs.sum - 1).tdiv xs.sum := wrapI (by omega) (by omega)
      have w4 : IntKind.i64.wrap (xs[k] * n + xs.sum) = xs[k] * n + xs.sum := wrapI (by omega) (by omega)
      have w5 : IntKind.i64.wrap (xs[k] * n + xs.sum - 1) = xs[k] * n + xs.sum - 1 := wrapI (by omega) (by omega)
      simp [List.range, List.range.loop, ints, intss, int, bool, row, frac, fracs, ← List.map_take, ← List.map_drop, hk, h3, hz, hw, w1, w2, w3, w4, w5, hb, hwk, hln, fL, fR, fU]
    · intro _
      have hln : (xs.map fun x => fU (x * n) xs.sum).length = xs.length := by simp
      rw [List.take_length, e0]
      generalize (xs.map fun x => fU (x * n) xs.sum) = A at *
      simp [List.range, List.range.loop, ints, intss, int, bool, row, frac, fracs, ← List.map_take, ← List.map_drop, hln]

end Go.Proofs.YtiieikknhheffaaDoor.Ax

/-
  Contracts: TransferOrder (the program). No condition.
-/
namespace Go.Proofs.YtiieikknhheffaaDoor.Ax
open Go Go.RowKit
set_option linter.unusedSimpArgs false

noncomputable def mCmpR : List AV → Option AV := mk (fun p => (0 ≤ p.1 ∧ p.1 ≤ 100) ∧ (0 ≤ p.2.1 ∧ p.2.1 ≤ 100) ∧ (0 ≤ p.2.2.1 ∧ p.2.2.1 ≤ 100) ∧ (0 ≤ p.2.2.2 ∧ p.2.2.2 ≤ 100)) (fun (p : (Int) × (Int) × (Int) × (Int)) => [int p.1, int p.2.1, int p.2.2.1, int p.2.2.2]) (fun p => int (cmpR p.1 p.2.1 p.2.2.1 p.2.2.2))
theorem mCmpR_at (a : Int) (b : Int) (c : Int) (d : Int) (hpre : (0 ≤ a ∧ a ≤ 100) ∧ (0 ≤ b ∧ b ≤ 100) ∧ (0 ≤ c ∧ c ≤ 100) ∧ (0 ≤ d ∧ d ≤ 100)) : mCmpR [.v (.int .i64 a), .v (.int .i64 b), .v (.int .i64 c), .v (.int .i64 d)] = some (.v (.int .i64 (cmpR a b c d))) :=
  mk_eq (enc := fun (p : (Int) × (Int) × (Int) × (Int)) => [int p.1, int p.2.1, int p.2.2.1, int p.2.2.2]) (x := (a, b, c, d)) (by rintro ⟨a0, a1, a2, a3⟩ ⟨b0, b1, b2, b3⟩ h; simp [ints, intss, int, bool, row, frac, fracs, map_int_inj, map_row_inj, frac_inj, map_frac_inj] at h; simp [h]) hpre
/-- The slices that TransferOrder's closure holds. -/
def capR (u v : Bool × List Int) : List AV := [.fp (row u) 0, .fp (row v) 0]
theorem capR_pure {u v : Bool × List Int} : Pure (capR u v) := ⟨fun _ => rfl, rfl, fun _ => rfl⟩

/-- A list that is nil until something is put into it, as row t. -/
def liA (t : Nat) : List Int → AV
  | [] => .sl true 1 []
  | _ :: l => .ref t [] 0 (l.length + 1)
def liT : List Int → List Tok
  | [] => []
  | x :: l => [⟨true, .sl false 1 ((x :: l).map int)⟩]

def liI (t : Nat) : List Int → Nat
  | [] => t
  | _ :: _ => t + 1
theorem liI_ne {t : Nat} {L : List Int} (h : L ≠ []) : liI t L = t + 1 := by cases L with | nil => exact (h rfl).elim | cons _ _ => rfl
theorem liA_ne {t : Nat} {L : List Int} (h : L ≠ []) : liA t L = .ref t [] 0 L.length := by cases L with | nil => exact (h rfl).elim | cons _ _ => rfl
theorem liT_ne {L : List Int} (h : L ≠ []) : liT L = [⟨true, .sl false 1 (L.map int)⟩] := by cases L with | nil => exact (h rfl).elim | cons _ _ => rfl

noncomputable def mTOi : List AV → Option AV := mk (fun _ => True) (fun (p : (Bool) × (List (Bool × List Int)) × (Int)) => [intss p.1 p.2.1, int p.2.2]) (fun p => .sl (tOrd p.2.1 p.2.2).isEmpty 1 ((tOrd p.2.1 p.2.2).map int))
theorem mTOi_at (nl : Bool) (xss : List (Bool × List Int)) (fr : Int) : mTOi [.sl nl 1 (xss.map row), .v (.int .i64 fr)] = some (.sl (tOrd xss fr).isEmpty 1 ((tOrd xss fr).map int)) :=
  mk_eq (enc := fun (p : (Bool) × (List (Bool × List Int)) × (Int)) => [intss p.1 p.2.1, int p.2.2]) (x := (nl, xss, fr)) (by rintro ⟨a0, a1, a2⟩ ⟨b0, b1, b2⟩ h; simp [ints, intss, int, bool, row, frac, fracs, map_int_inj, map_row_inj, frac_inj, map_frac_inj] at h; simp [h]) trivial

end Go.Proofs.YtiieikknhheffaaDoor.Ax
