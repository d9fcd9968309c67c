/-
  Contracts: quotas (both programs). No condition.
-/
import Derived.Test.YtkfmhpgnhkdebaaGreatDoorCG15
import Derived.Test.YtkfmhpgnhkdebaaGreatDoorCG8
namespace Go.Proofs.YtkfmhpgnhkdebaaGreatDoor.Ax
open Go Go.RowKit
set_option linter.unusedSimpArgs false
theorem qt_facts {xs : List Int} {n : Int} (h : qtB xs n = true) : cntB xs = true ∧ 0 ≤ n ∧ n ≤ 100 := by
  simp only [qtB, Bool.and_eq_true, inR_iff] at h
  exact ⟨h.1, h.2.1, h.2.2⟩
theorem prod_bd {x n : Int} (h : 0 ≤ x ∧ x ≤ 1000000) (hn : 0 ≤ n ∧ n ≤ 100) : 0 ≤ x * n ∧ x * n ≤ 100000000 := by
  refine ⟨Int.mul_nonneg h.1 hn.1, ?_⟩
  have h1 : x * n ≤ x * 100 := Int.mul_le_mul_of_nonneg_left hn.2 h.1
  omega
theorem tdiv_le {a b c : Int} (h : 0 ≤ a) (hc : a ≤ c) (hb : 0 < b) : 0 ≤ a.tdiv b ∧ a.tdiv b ≤ c := by
  refine ⟨Int.tdiv_nonneg h (by omega), ?_⟩
  have := tdiv_bd (x := a) (y := b) (m := c) (by omega) hc
  omega
theorem tmod_le {a b : Int} (h : 0 ≤ a) (hb : 0 < b) : 0 ≤ a.tmod b ∧ a.tmod b < b := ⟨Int.tmod_nonneg b h, Int.tmod_lt_of_pos a hb⟩
def fL (a b : Int) : Int := a.tdiv b
def fR (a b : Int) : Int := a.tmod b
def fU (a b : Int) : Int := (a + b - 1).tdiv b
def fQ (f : Int → Int → Int) (xs : List Int) (n : Int) : List Int := xs.map fun x => f (x * n) xs.sum
theorem fQ_bd {a b : Int} (ha : 0 ≤ a ∧ a ≤ 100000000) (hb : 0 < b ∧ b ≤ 6000000) : (0 ≤ fL a b ∧ fL a b ≤ 200000000) ∧ (0 ≤ fR a b ∧ fR a b ≤ 200000000) ∧ (0 ≤ fU a b ∧ fU a b ≤ 200000000) := by
  have h1 := tdiv_le (a := a) (b := b) (c := 100000000) ha.1 ha.2 hb.1
  have h2 := tmod_le (a := a) (b := b) ha.1 hb.1
  have h3 := tdiv_le (a := a + b - 1) (b := b) (c := 200000000) (by omega) (by omega) hb.1
  exact ⟨⟨h1.1, by unfold fL; omega⟩, ⟨h2.1, by unfold fR; omega⟩, h3⟩
noncomputable def mFL : List AV → Option AV := mk (fun p => (0 ≤ p.1 ∧ p.1 ≤ 100000000) ∧ (0 < p.2 ∧ p.2 ≤ 6000000)) (fun (p : (Int) × (Int)) => [int p.1, int p.2]) (fun p => int (fL p.1 p.2))
theorem mFL_at (a : Int) (b : Int) (hpre : (0 ≤ a ∧ a ≤ 100000000) ∧ (0 < b ∧ b ≤ 6000000)) : mFL [.v (.int .i64 a), .v (.int .i64 b)] = some (.v (.int .i64 (fL a b))) :=
  mk_eq (enc := fun (p : (Int) × (Int)) => [int p.1, int p.2]) (x := (a, b)) (by rintro ⟨a0, a1⟩ ⟨b0, b1⟩ h; simp [ints, intss, int, bool, row, frac, fracs, map_int_inj, map_row_inj, frac_inj, map_frac_inj] at h; simp [h]) hpre
theorem lowF_ok : FnOk Tryz.prog 215 mFL := by
  refine mk_ok fun ⟨a, b⟩ ⟨ha, hb⟩ => ?_
  simp only at ha hb
  have hG : FnsOk Tryz.prog [] := .nil
  refine callOk_awp (ctx_ok eqOk hG) mixed (live := [true, true, false, false, true]) (dt := []) Tryz.func215 rfl (by kernel_rfl) (by kernel_rfl) fun w0 hlens => ?_
  clear hlens
  have hz : ¬ b = 0 := by omega
  obtain ⟨⟨l1, l2⟩, ⟨r1, r2⟩, ⟨u1, u2⟩⟩ := fQ_bd ha hb
  unfold fL at l1 l2
  unfold fR at r1 r2
  unfold fU at u1 u2
  have w1 : IntKind.i64.wrap (a.tdiv b) = a.tdiv b := wrapI (by omega) (by omega)
  have w2 : IntKind.i64.wrap (a.tmod b) = a.tmod b := wrapI (by omega) (by omega)
  have w3 : IntKind.i64.wrap ((a + b - 1).tdiv b) = (a + b - 1).tdiv b := wrapI (by omega) (by omega)
  have w4 : IntKind.i64.wrap (a + b) = a + b := wrapI (by omega) (by omega)
  have w5 : IntKind.i64.wrap (a + b - 1) = a + b - 1 := wrapI (by omega) (by omega)
  simp [Tryz.f215, List.range, List.range.loop, ints, intss, int, bool, row, frac, fracs, ← List.map_take, ← List.map_drop, hz, w1, w2, w3, w4, w5, fL, fR, fU]
noncomputable def mFR : List AV → Option AV := mk (fun p => (0 ≤ p.1 ∧ p.1 ≤ 100000000) ∧ (0 < p.2 ∧ p.2 ≤ 6000000)) (fun (p : (Int) × (Int)) => [int p.1, int p.2]) (fun p => int (fR p.1 p.2))
theorem mFR_at (a : Int) (b : Int) (hpre : (0 ≤ a ∧ a ≤ 100000000) ∧ (0 < b ∧ b ≤ 6000000)) : mFR [.v (.int .i64 a), .v (.int .i64 b)] = some (.v (.int .i64 (fR a b))) :=
  mk_eq (enc := fun (p : (Int) × (Int)) => [int p.1, int p.2]) (x := (a, b)) (by rintro ⟨a0, a1⟩ ⟨b0, b1⟩ h; simp [ints, intss, int, bool, row, frac, fracs, map_int_inj, map_row_inj, frac_inj, map_frac_inj] at h; simp [h]) hpre
theorem remF_ok : FnOk Tryz.prog 216 mFR := by
  refine mk_ok fun ⟨a, b⟩ ⟨ha, hb⟩ => ?_
  simp only at ha hb
  have hG : FnsOk Tryz.prog [] := .nil
  refine callOk_awp (ctx_ok eqOk hG) mixed (live := [true, true, false, false, true]) (dt := []) Tryz.func216 rfl (by kernel_rfl) (by kernel_rfl) fun w0 hlens => ?_
  clear hlens
  have hz : ¬ b = 0 := by omega
  obtain ⟨⟨l1, l2⟩, ⟨r1, r2⟩, ⟨u1, u2⟩⟩ := fQ_bd ha hb
  unfold fL at l1 l2
  unfold fR at r1 r2
  unfold fU at u1 u2
  have w1 : IntKind.i64.wrap (a.tdiv b) = a.tdiv b := wrapI (by omega) (by omega)
  have w2 : IntKind.i64.wrap (a.tmod b) = a.tmod b := wrapI (by omega) (by omega)
  have w3 : IntKind.i64.wrap ((a + b - 1).tdiv b) = (a + b - 1).tdiv b := wrapI (by omega) (by omega)
  have w4 : IntKind.i64.wrap (a + b) = a + b := wrapI (by omega) (by omega)
  have w5 : IntKind.i64.wrap (a + b - 1) = a + b - 1 := wrapI (by omega) (by omega)
  simp [Tryz.f216, List.range, List.range.loop, ints, intss, int, bool, row, frac, fracs, ← List.map_take, ← List.map_drop, hz, w1, w2, w3, w4, w5, fL, fR, fU]
noncomputable def mFU : List AV → Option AV := mk (fun p => (0 ≤ p.1 ∧ p.1 ≤ 100000000) ∧ (0 < p.2 ∧ p.2 ≤ 6000000)) (fun (p : (Int) × (Int)) => [int p.1, int p.2]) (fun p => int (fU p.1 p.2))
theorem mFU_at (a : Int) (b : Int) (hpre : (0 ≤ a ∧ a ≤ 100000000) ∧ (0 < b ∧ b ≤ 6000000)) : mFU [.v (.int .i64 a), .v (.int .i64 b)] = some (.v (.int .i64 (fU a b))) :=
  mk_eq (enc := fun (p : (Int) × (Int)) => [int p.1, int p.2]) (x := (a, b)) (by rintro ⟨a0, a1⟩ ⟨b0, b1⟩ h; simp [ints, intss, int, bool, row, frac, fracs, map_int_inj, map_row_inj, frac_inj, map_frac_inj] at h; simp [h]) hpre
theorem upF_ok : FnOk Tryz.prog 224 mFU := by
  refine mk_ok fun ⟨a, b⟩ ⟨ha, hb⟩ => ?_
  simp only at ha hb
  have hG : FnsOk Tryz.prog [] := .nil
  refine callOk_awp (ctx_ok eqOk hG) mixed (live := [true, true, false, false, true]) (dt := []) Tryz.func224 rfl (by kernel_rfl) (by kernel_rfl) fun w0 hlens => ?_
  clear hlens
  have hz : ¬ b = 0 := by omega
  obtain ⟨⟨l1, l2⟩, ⟨r1, r2⟩, ⟨u1, u2⟩⟩ := fQ_bd ha hb
  unfold fL at l1 l2
  unfold fR at r1 r2
  unfold fU at u1 u2
  have w1 : IntKind.i64.wrap (a.tdiv b) = a.tdiv b := wrapI (by omega) (by omega)
  have w2 : IntKind.i64.wrap (a.tmod b) = a.tmod b := wrapI (by omega) (by omega)
  have w3 : IntKind.i64.wrap ((a + b - 1).tdiv b) = (a + b - 1).tdiv b := wrapI (by omega) (by omega)
  have w4 : IntKind.i64.wrap (a + b) = a + b := wrapI (by omega) (by omega)
  have w5 : IntKind.i64.wrap (a + b - 1) = a + b - 1 := wrapI (by omega) (by omega)
  simp [Tryz.f224, List.range, List.range.loop, ints, intss, int, bool, row, frac, fracs, ← List.map_take, ← List.map_drop, hz, w1, w2, w3, w4, w5, fL, fR, fU]
theorem take_snocI {f : Int → Int} {xs : List Int} {k : Nat} (h : k < xs.length) : (xs.take (k + 1)).map f = (xs.take k).map f ++ [f xs[k]] := by
  rw [List.take_succ_eq_append_getElem h, List.map_append]; rfl
noncomputable def mQuoL : List AV → Option AV := mk (fun _ => True) (fun (p : (Bool) × (List Int) × (Int)) => [ints p.1 p.2.1, int p.2.2, .fn 215 []]) (fun p => if qtB p.2.1 p.2.2 = true then .sl false 1 ((fQ fL p.2.1 p.2.2).map int) else .sl true 1 [])
theorem mQuoL_at (nl : Bool) (xs : List Int) (n : Int) : mQuoL [.sl nl 1 (xs.map int), .v (.int .i64 n), .fn 215 []] = some (if qtB xs n = true then .sl false 1 ((fQ fL xs n).map int) else .sl true 1 []) :=
  mk_eq (enc := fun (p : (Bool) × (List Int) × (Int)) => [ints p.1 p.2.1, int p.2.2, .fn 215 []]) (x := (nl, xs, n)) (by rintro ⟨a0, a1, a2⟩ ⟨b0, b1, b2⟩ h; simp [ints, intss, int, bool, row, frac, fracs, map_int_inj, map_row_inj, frac_inj, map_frac_inj] at h; simp [h]) trivial
set_option maxHeartbeats 1000000 in
theorem quoL_ok : (FnOk Tryz.prog 214 mQuoL) := by
  refine mk_ok fun ⟨nl, xs, n⟩ _ => ?_
  simp only
  have hG : FnsOk Tryz.prog [(151, mQt), (162, mSum), (215, mFL)] := (.cons implQt_ok (.cons sumOf_ok (.cons lowF_ok .nil)))
  refine callOk_awp (ctx_ok eqOk hG) mixed (live := [true, true, true, false, false, false, true, true, false, true, false, false, false, true, true, true, true, true]) (dt := []) Tryz.func214 rfl (by kernel_rfl) (by kernel_rfl) fun w0 hlens => ?_
  clear hlens
  have h1 := mQt_at nl xs n
  cases hq : qtB xs n with
  | false => rw [hq] at h1; simp [Tryz.f214, List.range, List.range.loop, ints, intss, int, bool, row, frac, fracs, ← List.map_take, ← List.map_drop, h1]
  | true =>
    rw [hq] at h1
    obtain ⟨hc, hn⟩ := qt_facts hq
    obtain ⟨c1, c2, c3, c4, c5⟩ := cnt_facts hc
    have h3 := mSum_at nl xs
    rw [sumW_all c3 (by omega)] at h3
    simp [Tryz.f214, List.range, List.range.loop, ints, intss, int, bool, row, frac, fracs, ← List.map_take, ← List.map_drop, h1]
    have e0 : fQ fL xs n = xs.map fun x => fL (x * n) xs.sum := rfl
    refine awp_range (live := [true, true, true, false, false, false, true, true, false, true, false, false, false, true, true, true, true, true]) (ctx_ok eqOk hG) mixed [true, true, true, false, false, false, false, true, false, false, false, false, false, false, true, true, true] (xs.length) (fun k => True) (fun k => ⟨[ints nl xs, int n, .fn 215 [], .junk, .junk, .junk, .junk, apW k, .junk, .junk, .junk, .junk, .junk, .junk, ints nl xs, int xs.length, int k, .junk, .junk, .junk, .junk, .junk, .junk, .junk, .junk, .junk, .junk, .junk, .junk, .junk, .junk, .junk], apWt (((xs.take k).map fun x => fL (x * n) xs.sum).map int) k⟩) ?_ (by simp [sub, slotsLe, clean, keep, refsL, refs, once, place, renL, ren, List.replicate, int, bool, ints, apW, apWt, apV]) ?_ ?_ ?_
    · omega
    · trivial
    · intro k hk _ hwk
      have hx := c3 _ (List.getElem_mem hk)
      have hp := prod_bd hx hn
      have hm := mFL_at (xs[k] * n) xs.sum ⟨hp, c4, c5⟩
      have hw : IntKind.i64.wrap (xs[k] * n) = xs[k] * n := wrapI (by omega) (by omega)
      have hst := take_snocI (f := fun x => fL (x * n) xs.sum) hk
      have hln : ((xs.take k).map fun x => fL (x * n) xs.sum).length = k := by simp; omega
      have hb : k + 1 ≤ 4611686018427387904 ∧ (k + 1) * 8 ≤ 140737488355328 := by omega
      generalize (xs.take (k + 1)).map (fun x => fL (x * n) xs.sum) = B at *
      generalize (xs.take k).map (fun x => fL (x * n) xs.sum) = A at *
      subst hst
      cases k with
      | zero =>
        have hA : A = [] := by simpa using hln
        subst hA
        simp [List.range, List.range.loop, ints, intss, int, bool, row, frac, fracs, ← List.map_take, ← List.map_drop, apW, apWt, apV, hk, h3, hm, hw, hb]
        try decide
      | succ k =>
        simp [List.range, List.range.loop, ints, intss, int, bool, row, frac, fracs, ← List.map_take, ← List.map_drop, apW, apWt, apV, hk, h3, hm, hw, hb, hwk, hln]
        try exact wrapI (by omega) (by omega)
    · intro _
      obtain ⟨m, hm⟩ : ∃ m, xs.length = m + 1 := ⟨xs.length - 1, by omega⟩
      have ht : xs.take (m + 1) = xs := List.take_of_length_le (by omega)
      have hln : (xs.map fun x => fL (x * n) xs.sum).length = m + 1 := by simp; omega
      rw [hm, ht, e0]
      generalize (xs.map fun x => fL (x * n) xs.sum) = A at *
      simp [List.range, List.range.loop, ints, intss, int, bool, row, frac, fracs, ← List.map_take, ← List.map_drop, apW, apWt, apV, hln]
noncomputable def mQuoR : List AV → Option AV := mk (fun _ => True) (fun (p : (Bool) × (List Int) × (Int)) => [ints p.1 p.2.1, int p.2.2, .fn 216 []]) (fun p => if qtB p.2.1 p.2.2 = true then .sl false 1 ((fQ fR p.2.1 p.2.2).map int) else .sl true 1 [])
theorem mQuoR_at (nl : Bool) (xs : List Int) (n : Int) : mQuoR [.sl nl 1 (xs.map int), .v (.int .i64 n), .fn 216 []] = some (if qtB xs n = true then .sl false 1 ((fQ fR xs n).map int) else .sl true 1 []) :=
  mk_eq (enc := fun (p : (Bool) × (List Int) × (Int)) => [ints p.1 p.2.1, int p.2.2, .fn 216 []]) (x := (nl, xs, n)) (by rintro ⟨a0, a1, a2⟩ ⟨b0, b1, b2⟩ h; simp [ints, intss, int, bool, row, frac, fracs, map_int_inj, map_row_inj, frac_inj, map_frac_inj] at h; simp [h]) trivial
set_option maxHeartbeats 1000000 in
theorem quoR_ok : (FnOk Tryz.prog 214 mQuoR) := by
  refine mk_ok fun ⟨nl, xs, n⟩ _ => ?_
  simp only
  have hG : FnsOk Tryz.prog [(151, mQt), (162, mSum), (216, mFR)] := (.cons implQt_ok (.cons sumOf_ok (.cons remF_ok .nil)))
  refine callOk_awp (ctx_ok eqOk hG) mixed (live := [true, true, true, false, false, false, true, true, false, true, false, false, false, true, true, true, true, true]) (dt := []) Tryz.func214 rfl (by kernel_rfl) (by kernel_rfl) fun w0 hlens => ?_
  clear hlens
  have h1 := mQt_at nl xs n
  cases hq : qtB xs n with
  | false => rw [hq] at h1; simp [Tryz.f214, List.range, List.range.loop, ints, intss, int, bool, row, frac, fracs, ← List.map_take, ← List.map_drop, h1]
  | true =>
    rw [hq] at h1
    obtain ⟨hc, hn⟩ := qt_facts hq
    obtain ⟨c1, c2, c3, c4, c5⟩ := cnt_facts hc
    have h3 := mSum_at nl xs
    rw [sumW_all c3 (by omega)] at h3
    simp [Tryz.f214, List.range, List.range.loop, ints, intss, int, bool, row, frac, fracs, ← List.map_take, ← List.map_drop, h1]
    have e0 : fQ fR xs n = xs.map fun x => fR (x * n) xs.sum := rfl
    refine awp_range (live := [true, true, true, false, false, false, true, true, false, true, false, false, false, true, true, true, true, true]) (ctx_ok eqOk hG) mixed [true, true, true, false, false, false, false, true, false, false, false, false, false, false, true, true, true] (xs.length) (fun k => True) (fun k => ⟨[ints nl xs, int n, .fn 216 [], .junk, .junk, .junk, .junk, apW k, .junk, .junk, .junk, .junk, .junk, .junk, ints nl xs, int xs.length, int k, .junk, .junk, .junk, .junk, .junk, .junk, .junk, .junk, .junk, .junk, .junk, .junk, .junk, .junk, .junk], apWt (((xs.take k).map fun x => fR (x * n) xs.sum).map int) k⟩) ?_ (by simp [sub, slotsLe, clean, keep, refsL, refs, once, place, renL, ren, List.replicate, int, bool, ints, apW, apWt, apV]) ?_ ?_ ?_
    · omega
    · trivial
    · intro k hk _ hwk
      have hx := c3 _ (List.getElem_mem hk)
      have hp := prod_bd hx hn
      have hm := mFR_at (xs[k] * n) xs.sum ⟨hp, c4, c5⟩
      have hw : IntKind.i64.wrap (xs[k] * n) = xs[k] * n := wrapI (by omega) (by omega)
      have hst := take_snocI (f := fun x => fR (x * n) xs.sum) hk
      have hln : ((xs.take k).map fun x => fR (x * n) xs.sum).length = k := by simp; omega
      have hb : k + 1 ≤ 4611686018427387904 ∧ (k + 1) * 8 ≤ 140737488355328 := by omega
      generalize (xs.take (k + 1)).map (fun x => fR (x * n) xs.sum) = B at *
      generalize (xs.take k).map (fun x => fR (x * n) xs.sum) = A at *
      subst hst
      cases k with
      | zero =>
        have hA : A = [] := by simpa using hln
        subst hA
        simp [List.range, List.range.loop, ints, intss, int, bool, row, frac, fracs, ← List.map_take, ← List.map_drop, apW, apWt, apV, hk, h3, hm, hw, hb]
        try decide
      | succ k =>
        simp [List.range, List.range.loop, ints, intss, int, bool, row, frac, fracs, ← List.map_take, ← List.map_drop, apW, apWt, apV, hk, h3, hm, hw, hb, hwk, hln]
        try exact wrapI (by omega) (by omega)
    · intro _
      obtain ⟨m, hm⟩ : ∃ m, xs.length = m + 1 := ⟨xs.length - 1, by omega⟩
      have ht : xs.take (m + 1) = xs := List.take_of_length_le (by omega)
      have hln : (xs.map fun x => fR (x * n) xs.sum).length = m + 1 := by simp; omega
      rw [hm, ht, e0]
      generalize (xs.map fun x => fR (x * n) xs.sum) = A at *
      simp [List.range, List.range.loop, ints, intss, int, bool, row, frac, fracs, ← List.map_take, ← List.map_drop, apW, apWt, apV, hln]
noncomputable def mQuoU : List AV → Option AV := mk (fun _ => True) (fun (p : (Bool) × (List Int) × (Int)) => [ints p.1 p.2.1, int p.2.2, .fn 224 []]) (fun p => if qtB p.2.1 p.2.2 = true then .sl false 1 ((fQ fU p.2.1 p.2.2).map int) else .sl true 1 [])
theorem mQuoU_at (nl : Bool) (xs : List Int) (n : Int) : mQuoU [.sl nl 1 (xs.map int), .v (.int .i64 n), .fn 224 []] = some (if qtB xs n = true then .sl false 1 ((fQ fU xs n).map int) else .sl true 1 []) :=
  mk_eq (enc := fun (p : (Bool) × (List Int) × (Int)) => [ints p.1 p.2.1, int p.2.2, .fn 224 []]) (x := (nl, xs, n)) (by rintro ⟨a0, a1, a2⟩ ⟨b0, b1, b2⟩ h; simp [ints, intss, int, bool, row, frac, fracs, map_int_inj, map_row_inj, frac_inj, map_frac_inj] at h; simp [h]) trivial
set_option maxHeartbeats 1000000 in
theorem quoU_ok : (FnOk Tryz.prog 214 mQuoU) := by
  refine mk_ok fun ⟨nl, xs, n⟩ _ => ?_
  simp only
  have hG : FnsOk Tryz.prog [(151, mQt), (162, mSum), (224, mFU)] := (.cons implQt_ok (.cons sumOf_ok (.cons upF_ok .nil)))
  refine callOk_awp (ctx_ok eqOk hG) mixed (live := [true, true, true, false, false, false, true, true, false, true, false, false, false, true, true, true, true, true]) (dt := []) Tryz.func214 rfl (by kernel_rfl) (by kernel_rfl) fun w0 hlens => ?_
  clear hlens
  have h1 := mQt_at nl xs n
  cases hq : qtB xs n with
  | false => rw [hq] at h1; simp [Tryz.f214, List.range, List.range.loop, ints, intss, int, bool, row, frac, fracs, ← List.map_take, ← List.map_drop, h1]
  | true =>
    rw [hq] at h1
    obtain ⟨hc, hn⟩ := qt_facts hq
    obtain ⟨c1, c2, c3, c4, c5⟩ := cnt_facts hc
    have h3 := mSum_at nl xs
    rw [sumW_all c3 (by omega)] at h3
    simp [Tryz.f214, List.range, List.range.loop, ints, intss, int, bool, row, frac, fracs, ← List.map_take, ← List.map_drop, h1]
    have e0 : fQ fU xs n = xs.map fun x => fU (x * n) xs.sum := rfl
    refine awp_range (live := [true, true, true, false, false, false, true, true, false, true, false, false, false, true, true, true, true, true]) (ctx_ok eqOk hG) mixed [true, true, true, false, false, false, false, true, false, false, false, false, false, false, true, true, true] (xs.length) (fun k => True) (fun k => ⟨[ints nl xs, int n, .fn 224 [], .junk, .junk, .junk, .junk, apW k, .junk, .junk, .junk, .junk, .junk, .junk, ints nl xs, int xs.length, int k, .junk, .junk, .junk, .junk, .junk, .junk, .junk, .junk, .junk, .junk, .junk, .junk, .junk, .junk, .junk], apWt (((xs.take k).map fun x => fU (x * n) xs.sum).map int) k⟩) ?_ (by simp [sub, slotsLe, clean, keep, refsL, refs, once, place, renL, ren, List.replicate, int, bool, ints, apW, apWt, apV]) ?_ ?_ ?_
    · omega
    · trivial
    · intro k hk _ hwk
      have hx := c3 _ (List.getElem_mem hk)
      have hp := prod_bd hx hn
      have hm := mFU_at (xs[k] * n) xs.sum ⟨hp, c4, c5⟩
      have hw : IntKind.i64.wrap (xs[k] * n) = xs[k] * n := wrapI (by omega) (by omega)
      have hst := take_snocI (f := fun x => fU (x * n) xs.sum) hk
      have hln : ((xs.take k).map fun x => fU (x * n) xs.sum).length = k := by simp; omega
      have hb : k + 1 ≤ 4611686018427387904 ∧ (k + 1) * 8 ≤ 140737488355328 := by omega
      generalize (xs.take (k + 1)).map (fun x => fU (x * n) xs.sum) = B at *
      generalize (xs.take k).map (fun x => fU (x * n) xs.sum) = A at *
      subst hst
      cases k with
      | zero =>
        have hA : A = [] := by simpa using hln
        subst hA
        simp [List.range, List.range.loop, ints, intss, int, bool, row, frac, fracs, ← List.map_take, ← List.map_drop, apW, apWt, apV, hk, h3, hm, hw, hb]
        try decide
      | succ k =>
        simp [List.range, List.range.loop, ints, intss, int, bool, row, frac, fracs, ← List.map_take, ← List.map_drop, apW, apWt, apV, hk, h3, hm, hw, hb, hwk, hln]
        try exact wrapI (by omega) (by omega)
    · intro _
      obtain ⟨m, hm⟩ : ∃ m, xs.length = m + 1 := ⟨xs.length - 1, by omega⟩
      have ht : xs.take (m + 1) = xs := List.take_of_length_le (by omega)
      have hln : (xs.map fun x => fU (x * n) xs.sum).length = m + 1 := by simp; omega
      rw [hm, ht, e0]
      generalize (xs.map fun x => fU (x * n) xs.sum) = A at *
      simp [List.range, List.range.loop, ints, intss, int, bool, row, frac, fracs, ← List.map_take, ← List.map_drop, apW, apWt, apV, hln]
noncomputable def mLow : List AV → Option AV := mk (fun _ => True) (fun (p : (Bool) × (List Int) × (Int)) => [ints p.1 p.2.1, int p.2.2]) (fun p => if qtB p.2.1 p.2.2 = true then .sl false 1 ((qL p.2.1 p.2.2).map int) else .sl true 1 [])
theorem mLow_at (nl : Bool) (xs : List Int) (n : Int) : mLow [.sl nl 1 (xs.map int), .v (.int .i64 n)] = some (if qtB xs n = true then .sl false 1 ((qL xs n).map int) else .sl true 1 []) :=
  mk_eq (enc := fun (p : (Bool) × (List Int) × (Int)) => [ints p.1 p.2.1, int p.2.2]) (x := (nl, xs, n)) (by rintro ⟨a0, a1, a2⟩ ⟨b0, b1, b2⟩ h; simp [ints, intss, int, bool, row, frac, fracs, map_int_inj, map_row_inj, frac_inj, map_frac_inj] at h; simp [h]) trivial
noncomputable def mUp : List AV → Option AV := mk (fun _ => True) (fun (p : (Bool) × (List Int) × (Int)) => [ints p.1 p.2.1, int p.2.2]) (fun p => if qtB p.2.1 p.2.2 = true then .sl false 1 ((qU p.2.1 p.2.2).map int) else .sl true 1 [])
theorem mUp_at (nl : Bool) (xs : List Int) (n : Int) : mUp [.sl nl 1 (xs.map int), .v (.int .i64 n)] = some (if qtB xs n = true then .sl false 1 ((qU xs n).map int) else .sl true 1 []) :=
  mk_eq (enc := fun (p : (Bool) × (List Int) × (Int)) => [ints p.1 p.2.1, int p.2.2]) (x := (nl, xs, n)) (by rintro ⟨a0, a1, a2⟩ ⟨b0, b1, b2⟩ h; simp [ints, intss, int, bool, row, frac, fracs, map_int_inj, map_row_inj, frac_inj, map_frac_inj] at h; simp [h]) trivial
noncomputable def mRem : List AV → Option AV := mk (fun _ => True) (fun (p : (Bool) × (List Int) × (Int)) => [ints p.1 p.2.1, int p.2.2]) (fun p => if qtB p.2.1 p.2.2 = true then .sl false 1 ((qR p.2.1 p.2.2).map int) else .sl true 1 [])
theorem mRem_at (nl : Bool) (xs : List Int) (n : Int) : mRem [.sl nl 1 (xs.map int), .v (.int .i64 n)] = some (if qtB xs n = true then .sl false 1 ((qR xs n).map int) else .sl true 1 []) :=
  mk_eq (enc := fun (p : (Bool) × (List Int) × (Int)) => [ints p.1 p.2.1, int p.2.2]) (x := (nl, xs, n)) (by rintro ⟨a0, a1, a2⟩ ⟨b0, b1, b2⟩ h; simp [ints, intss, int, bool, row, frac, fracs, map_int_inj, map_row_inj, frac_inj, map_frac_inj] at h; simp [h]) trivial
theorem implLow_ok : FnOk Tryz.prog 153 mLow := by
  refine mk_ok fun ⟨nl, xs, n⟩ _ => ?_
  simp only
  have hG : FnsOk Tryz.prog [(214, mQuoL), (215, mFL)] := (.cons quoL_ok (.cons lowF_ok .nil))
  refine callOk_awp (ctx_ok eqOk hG) mixed (live := [true, true, false, false, true]) (dt := []) Tryz.func153 rfl (by kernel_rfl) (by kernel_rfl) fun w0 hlens => ?_
  clear hlens
  have h := mQuoL_at nl xs n
  rw [show fQ fL xs n = qL xs n from rfl] at h
  by_cases hq : qtB xs n = true
  · rw [if_pos hq] at h ⊢
    simp [Tryz.f153, List.range, List.range.loop, ints, intss, int, bool, row, frac, fracs, ← List.map_take, ← List.map_drop, h]
  · rw [if_neg hq] at h ⊢
    simp [Tryz.f153, List.range, List.range.loop, ints, intss, int, bool, row, frac, fracs, ← List.map_take, ← List.map_drop, h]
theorem implRem_ok : FnOk Tryz.prog 154 mRem := by
  refine mk_ok fun ⟨nl, xs, n⟩ _ => ?_
  simp only
  have hG : FnsOk Tryz.prog [(214, mQuoR), (216, mFR)] := (.cons quoR_ok (.cons remF_ok .nil))
  refine callOk_awp (ctx_ok eqOk hG) mixed (live := [true, true, false, false, true]) (dt := []) Tryz.func154 rfl (by kernel_rfl) (by kernel_rfl) fun w0 hlens => ?_
  clear hlens
  have h := mQuoR_at nl xs n
  rw [show fQ fR xs n = qR xs n from rfl] at h
  by_cases hq : qtB xs n = true
  · rw [if_pos hq] at h ⊢
    simp [Tryz.f154, List.range, List.range.loop, ints, intss, int, bool, row, frac, fracs, ← List.map_take, ← List.map_drop, h]
  · rw [if_neg hq] at h ⊢
    simp [Tryz.f154, List.range, List.range.loop, ints, intss, int, bool, row, frac, fracs, ← List.map_take, ← List.map_drop, h]
theorem implUp_ok : FnOk Tryz.prog 163 mUp := by
  refine mk_ok fun ⟨nl, xs, n⟩ _ => ?_
  simp only
  have hG : FnsOk Tryz.prog [(214, mQuoU), (224, mFU)] := (.cons quoU_ok (.cons upF_ok .nil))
  refine callOk_awp (ctx_ok eqOk hG) mixed (live := [true, true, false, false, true]) (dt := []) Tryz.func163 rfl (by kernel_rfl) (by kernel_rfl) fun w0 hlens => ?_
  clear hlens
  have h := mQuoU_at nl xs n
  rw [show fQ fU xs n = qU xs n from rfl] at h
  by_cases hq : qtB xs n = true
  · rw [if_pos hq] at h ⊢
    simp [Tryz.f163, List.range, List.range.loop, ints, intss, int, bool, row, frac, fracs, ← List.map_take, ← List.map_drop, h]
  · rw [if_neg hq] at h ⊢
    simp [Tryz.f163, List.range, List.range.loop, ints, intss, int, bool, row, frac, fracs, ← List.map_take, ← List.map_drop, h]
end Go.Proofs.YtkfmhpgnhkdebaaGreatDoor.Ax
namespace Go.Proofs.YtkfmhpgnhkdebaaGreatDoor.Ax
open Go Go.RowKit
set_option linter.unusedSimpArgs false
def capF (b : Bool) (rs : List Int) : List AV := [.fp (ints b rs) 0]
theorem capF_pure {b : Bool} {rs : List Int} : Pure (capF b rs) := ⟨fun _ => rfl, rfl, fun _ => rfl⟩
theorem filled1 (nl : Bool) (rs : List Int) (x y : Int) (hx : 0 ≤ x ∧ x.toNat < rs.length) (hy : 0 ≤ y ∧ y.toNat < rs.length) (hr : ∀ z ∈ rs, 0 ≤ z ∧ z ≤ 6000000) :
    CallOk Tryz.prog 213 (.v (.int .i64 x) :: .v (.int .i64 y) :: capF nl rs) (.v (.int .i64 (rstC rs x y))) := by
  have hG : FnsOk Tryz.prog [] := .nil
  refine callOk_awp (ctx_ok eqOk hG) mixed (live := [true, true, true, false, false, true]) (dt := [(1, ⟨[], [], []⟩)]) Tryz.func213 rfl (by kernel_rfl) (by kernel_rfl) fun w0 hlens => ?_
  clear hlens
  obtain ⟨a, rfl⟩ : ∃ a : Nat, x = a := ⟨x.toNat, by omega⟩
  obtain ⟨b, rfl⟩ : ∃ b : Nat, y = b := ⟨y.toNat, by omega⟩
  simp only [Int.toNat_natCast] at hx hy
  have e1 : rs[a]'hx.2 = at0 rs a := (at0_eq hx.2).symm
  have e2 : rs[b]'hy.2 = at0 rs b := (at0_eq hy.2).symm
  have b1 := hr _ (List.getElem_mem hx.2)
  have b2 := hr _ (List.getElem_mem hy.2)
  rw [e1] at b1
  rw [e2] at b2
  have w1 : IntKind.i64.wrap (at0 rs b - at0 rs a) = at0 rs b - at0 rs a := wrapI (by omega) (by omega)
  simp [Tryz.f213, List.range, List.range.loop, ints, intss, int, bool, row, frac, fracs, ← List.map_take, ← List.map_drop, capF, hx.2, hy.2, e1, e2, w1, rstC]
structure FilI (bs rs : List Int) (n : Int) : Prop where
  ln : bs.length = rs.length
  l6 : 1 ≤ rs.length ∧ rs.length ≤ 6
  rb : ∀ z ∈ rs, 0 ≤ z ∧ z ≤ 6000000
  bb : ∀ z ∈ bs, 0 ≤ z ∧ z ≤ 100
  k0 : 0 ≤ n - bs.sum
  k1 : n - bs.sum ≤ rs.length
def filT (bs rs : List Int) (n : Int) : List Int := incs bs ((ordH rs).take (n - bs.sum).toNat)
noncomputable def mFil : List AV → Option (List Nat × AV) := mkV (fun p => FilI p.1 p.2.2.1 p.2.2.2) (fun (p : List Int × Bool × List Int × Int) => [ints false p.1, ints p.2.1 p.2.2.1, int p.2.2.2]) [0] (fun p => ints false (filT p.1 p.2.2.1 p.2.2.2))
theorem mFil_at (bs : List Int) (nl : Bool) (rs : List Int) (n : Int) (h : FilI bs rs n) : mFil [.sl false 1 (bs.map int), .sl nl 1 (rs.map int), .v (.int .i64 n)] = some ([0], .sl false 1 ((filT bs rs n).map int)) :=
  mkV_eq (enc := fun (p : List Int × Bool × List Int × Int) => [ints false p.1, ints p.2.1 p.2.2.1, int p.2.2.2]) (f := fun p => ints false (filT p.1 p.2.2.1 p.2.2.2)) (x := (bs, nl, rs, n)) (by
    rintro ⟨a, b, c, d⟩ ⟨a', b', c', d'⟩ h
    simp [ints, int, map_int_inj] at h
    simp [h]) h
theorem ord_nat {rs : List Int} {j : Nat} (h : j < (ordH rs).length) : ∃ b : Nat, (ordH rs)[j] = b ∧ b < rs.length := by
  obtain ⟨b, h1, h2⟩ := ordH_mem.1 (List.getElem_mem h)
  exact ⟨b, h2, h1⟩
theorem inc1_nat {o : List Int} {b : Nat} : inc1 o (b : Int) = o.set b (at0 o b + 1) := by simp [inc1]
set_option maxHeartbeats 4000000 in
theorem filled_ok : FnMov Tryz.prog 152 mFil := by
  refine mkV_ok fun ⟨bs, nl, rs, n⟩ h => ?_
  obtain ⟨ln, ⟨l1, l6⟩, rb, bb, k0, k1⟩ := h
  simp only at ln l1 l6 rb bb k0 k1
  have hS := sort_ok (g := 213) (capF_pure (b := nl) (rs := rs)) (rstC rs) false (idx rs.length) (by rw [idx_len]; omega) (fun x hx y hy => by
    simp only [idx, List.mem_map, List.mem_range] at hx hy
    obtain ⟨a, ha, rfl⟩ := hx
    obtain ⟨b, hb, rfl⟩ := hy
    exact filled1 nl rs a b ⟨by omega, by simpa using ha⟩ ⟨by omega, by simpa using hb⟩ rb)
  have hi : FnMut Tryz.prog 212 (mkM (fun _ : Unit => True) (fun _ => [ints false (idx rs.length), .fn 213 (capF nl rs)]) (fun _ => (0, .tup [], ints false (ordH rs)))) := mkM_ok fun _ _ => hS
  have hat : mkM (fun _ : Unit => True) (fun _ => [ints false (idx rs.length), .fn 213 (capF nl rs)]) (fun _ => (0, .tup [], ints false (ordH rs))) [.sl false 1 ((idx rs.length).map int), .fn 213 [.fp (.sl nl 1 (rs.map int)) 0]] = some (0, .tup [], .sl false 1 ((ordH rs).map int)) := mkM_eq (x := ()) (fun _ _ _ => rfl) trivial
  generalize mkM (fun _ : Unit => True) (fun _ => [ints false (idx rs.length), .fn 213 (capF nl rs)]) (fun _ => (0, AV.tup [], ints false (ordH rs))) = m at hi hat
  have hM : FnsMut Tryz.prog [(212, m)] := .cons hi .nil
  have hV : FnsMov Tryz.prog [] := .nil
  have hG : FnsOk Tryz.prog [(166, mIdx), (162, mSum)] := (.cons indices_ok (.cons sumOf_ok .nil))
  refine movOk_awp (ctxV_ok eqOk hG hM hV) mixed (live := [true, true, true, false, true, false, true, true, false, true, false, false, false, false, false, false, false, false, false, false, false, true, true, true, true]) (dt := []) (mv := [0]) Tryz.func152 rfl (by kernel_rfl) (by kernel_rfl) fun US w0 hlens => ?_
  simp only [List.map, List.getD_cons_zero, List.getD_cons_succ, internL, intern, setSl, List.set, List.length_nil, List.nil_append, List.length_map]
  clear hlens
  have hx := mIdx_at rs.length (by omega)
  have hil := idx_len (n := rs.length)
  have hol := ordH_len (rs := rs)
  have hit : (idx rs.length).take rs.length = idx rs.length := List.take_of_length_le (by omega)
  have hot : (ordH rs).take rs.length = ordH rs := List.take_of_length_le (by omega)
  have hsm := mSum_at false bs
  rw [sumW_all (fun x hx => by have := bb x hx; omega) (by omega)] at hsm
  have hsb := sum_bd bb
  obtain ⟨K, hK⟩ : ∃ K : Nat, n - bs.sum = K := ⟨(n - bs.sum).toNat, by omega⟩
  have wK : IntKind.i64.wrap (n - bs.sum) = (K : Int) := by rw [hK]; exact wrapI (by omega) (by omega)
  have hKt : (n - bs.sum).toNat = K := by omega
  have hKm : K ≤ rs.length := by omega
  have z0 : incs bs [] = bs := rfl
  have htb : List.take rs.length (bs.map int) = bs.map int := List.take_of_length_le (by simp [ln])
  unfold filT
  rw [hKt]
  simp [Tryz.f152, List.range, List.range.loop, ints, intss, int, bool, row, frac, fracs, ← List.map_take, ← List.map_drop, List.all, List.eraseIdx, ln, hx, hil, hit, hat, hol, hot, hsm, wK, hKm, htb]
  refine awp_range (live := [true, true, true, false, true, false, true, true, false, true, false, false, false, false, false, false, false, false, false, false, false, true, true, true, true]) (ctxV_ok eqOk hG hM hV) mixed [true, false, false, false, false, false, false, false, false, false, false, false, false, false, false, false, false, false, false, false, false, true, true, true] (K) (fun j => True) (fun j => ⟨[.ref 0 [] 0 rs.length, .junk, .junk, .junk, .junk, .junk, .junk, .junk, .junk, .junk, .junk, .junk, .junk, .junk, .junk, .junk, .junk, .junk, .junk, .junk, .junk, .ref 1 [] 0 K, int K, int j, .junk, .junk, .junk, .junk, .junk, .junk, .junk, .junk, .junk, .junk, .junk], [⟨true, .sl false 1 ((incs bs ((ordH rs).take j)).map int)⟩, ⟨true, .sl false 1 ((ordH rs).map int)⟩]⟩) ?_ (by simp [sub, slotsLe, clean, keep, refsL, refs, once, place, renL, ren, List.replicate, int, bool, z0, ln]) ?_ ?_ ?_
  · omega
  · trivial
  · intro j hj _ hwj
    have hjl : j < (ordH rs).length := by omega
    have hst := incs_take (o := bs) hjl
    obtain ⟨b, e1, e2⟩ := ord_nat hjl
    rw [e1, inc1_nat] at hst
    have hl := incs_len (o := bs) (l := (ordH rs).take j)
    obtain ⟨_, hb2⟩ := incs_facts bb (l := (ordH rs).take j) fun i hi => by
      obtain ⟨b, hb, rfl⟩ := ordH_mem.1 (List.mem_of_mem_take hi)
      simp; omega
    rw [List.length_take] at hb2
    generalize incs bs ((ordH rs).take (j + 1)) = B at *
    generalize incs bs ((ordH rs).take j) = A at *
    subst hst
    have hbA : b < A.length := by omega
    have e3 : A[b] = at0 A b := (at0_eq hbA).symm
    have hbd := hb2 _ (List.getElem_mem hbA)
    rw [e3] at hbd
    have hw : IntKind.i64.wrap (at0 A b + 1) = at0 A b + 1 := wrapI (by omega) (by omega)
    have hAl : A.length = rs.length := by omega
    have hjr : j < rs.length := by omega
    have e0 : (ordH rs)[j]? = some (b : Int) := by rw [List.getElem?_eq_getElem hjl, e1]
    simp [List.range, List.range.loop, ints, intss, int, bool, row, frac, fracs, ← List.map_take, ← List.map_drop, List.all, List.eraseIdx, hj, hwj, hjr, e0, e1, e2, e3, hw, hbA, hAl, hol, hKm]
    try omega
  · intro _
    have hl := incs_len (o := bs) (l := (ordH rs).take K)
    have hAl : (incs bs ((ordH rs).take K)).length = rs.length := by omega
    generalize incs bs ((ordH rs).take K) = A at *
    have hAt : A.take rs.length = A := List.take_of_length_le (by omega)
    simp [List.range, List.range.loop, ints, intss, int, bool, row, frac, fracs, ← List.map_take, ← List.map_drop, List.all, List.eraseIdx, hAl, hAt]
end Go.Proofs.YtkfmhpgnhkdebaaGreatDoor.Ax
namespace Go.Proofs.YtkfmhpgnhkdebaaGreatDoor.Ax
open Go Go.RowKit
set_option linter.unusedSimpArgs false
noncomputable def mHam : List AV → Option AV := mk (fun _ => True) (fun (p : (Bool) × (List Int) × (Int)) => [ints p.1 p.2.1, int p.2.2]) (fun p => if qtB p.2.1 p.2.2 = true then ints false (hamT p.2.1 p.2.2) else ints true [])
theorem mHam_at (nl : Bool) (xs : List Int) (n : Int) : mHam [.sl nl 1 (xs.map int), .v (.int .i64 n)] = some (if qtB xs n = true then ints false (hamT xs n) else ints true []) :=
  mk_eq (enc := fun (p : (Bool) × (List Int) × (Int)) => [ints p.1 p.2.1, int p.2.2]) (x := (nl, xs, n)) (by rintro ⟨a0, a1, a2⟩ ⟨b0, b1, b2⟩ h; simp [ints, intss, int, bool, row, frac, fracs, map_int_inj, map_row_inj, frac_inj, map_frac_inj] at h; simp [h]) trivial
theorem filI {xs : List Int} {n : Int} (h : qtB xs n = true) : FilI (qL xs n) (qR xs n) n := by
  obtain ⟨h1, h2, h3, h4⟩ := q_facts h
  obtain ⟨c1, c2, c3, c4, c5⟩ := cnt_facts (qt_facts h).1
  exact ⟨by simp [qL, qR], by simp [qR]; omega, fun z hz => by have := h1 z hz; omega, h2, h3, by simpa [qR] using h4⟩
theorem filT_ham {xs : List Int} {n : Int} : filT (qL xs n) (qR xs n) n = hamT xs n := rfl
set_option maxHeartbeats 1000000 in
theorem implHam_ok : FnOk Tryz.prog 73 mHam := by
  refine mk_ok fun ⟨nl, xs, n⟩ _ => ?_
  simp only
  have hG : FnsOk Tryz.prog [(151, mQt), (153, mLow), (154, mRem)] := (.cons implQt_ok (.cons implLow_ok (.cons implRem_ok .nil)))
  have hM : FnsMut Tryz.prog [] := .nil
  have hV : FnsMov Tryz.prog [(152, mFil)] := (.cons filled_ok .nil)
  refine callOk_awp (ctxV_ok eqOk hG hM hV) mixed (live := [true, true, false, false, true, false, false, false, true]) (dt := []) Tryz.func73 rfl (by kernel_rfl) (by kernel_rfl) fun w0 hlens => ?_
  clear hlens
  have h1 := mQt_at nl xs n
  have h2 := mLow_at nl xs n
  have h3 := mRem_at nl xs n
  by_cases hq : qtB xs n = true
  · rw [if_pos hq] at h2 h3 ⊢
    rw [hq] at h1
    have h4 := mFil_at (qL xs n) false (qR xs n) n (filI hq)
    rw [filT_ham] at h4
    have hl := (hamT_facts hq).1
    have hl2 : (qL xs n).length = xs.length := by simp [qL]
    have hl3 : (qR xs n).length = xs.length := by simp [qR]
    have ht : (qL xs n).take xs.length = qL xs n := List.take_of_length_le (by omega)
    have ht2 : (qR xs n).take xs.length = qR xs n := List.take_of_length_le (by omega)
    have ht3 : (hamT xs n).take xs.length = hamT xs n := List.take_of_length_le (by omega)
    simp [Tryz.f73, List.range, List.range.loop, ints, intss, int, bool, row, frac, fracs, ← List.map_take, ← List.map_drop, List.all, h1, h2, h3, h4, hl, hl2, hl3, ht, ht2, ht3]
  · rw [if_neg hq]
    have hq' : qtB xs n = false := by simpa using hq
    rw [hq'] at h1
    simp [Tryz.f73, List.range, List.range.loop, ints, intss, int, bool, row, frac, fracs, ← List.map_take, ← List.map_drop, List.all, h1]
noncomputable def mKq : List AV → Option AV := mk (fun _ => True) (fun (p : (Bool) × (List Int) × (Bool) × (List Int)) => [ints p.1 p.2.1, ints p.2.2.1 p.2.2.2]) (fun p => bool (kqB p.2.1 p.2.2.2))
theorem mKq_at (nl : Bool) (xs : List Int) (nl2 : Bool) (ss : List Int) : mKq [.sl nl 1 (xs.map int), .sl nl2 1 (ss.map int)] = some (.v (.bool (kqB xs ss))) :=
  mk_eq (enc := fun (p : (Bool) × (List Int) × (Bool) × (List Int)) => [ints p.1 p.2.1, ints p.2.2.1 p.2.2.2]) (x := (nl, xs, nl2, ss)) (by rintro ⟨a0, a1, a2, a3⟩ ⟨b0, b1, b2, b3⟩ h; simp [ints, intss, int, bool, row, frac, fracs, map_int_inj, map_row_inj, frac_inj, map_frac_inj] at h; simp [h]) trivial
theorem seB_facts {xs ss : List Int} (h : seB xs ss = true) : cntB xs = true ∧ ss.length = xs.length ∧ (∀ x ∈ ss, 0 ≤ x ∧ x ≤ 100) ∧ qtB xs ss.sum = true := by
  simp only [seB, Bool.and_eq_true, decide_eq_true_eq, List.all_eq_true, inR_iff] at h
  obtain ⟨⟨⟨h1, h2⟩, h3⟩, h4⟩ := h
  have := sum_bd h3
  refine ⟨h1, h2, h3, ?_⟩
  simp only [qtB, h1, Bool.true_and, inR_iff]; omega
set_option maxHeartbeats 2000000 in
theorem implKq_ok : FnOk Tryz.prog 88 mKq := by
  refine mk_ok fun ⟨nl, xs, nl2, ss⟩ _ => ?_
  have hG : FnsOk Tryz.prog [(161, mSe), (162, mSum), (153, mLow), (163, mUp), (99, mWithin)] := (.cons implSe_ok (.cons sumOf_ok (.cons implLow_ok (.cons implUp_ok (.cons within_ok .nil)))))
  refine callOk_awp (ctx_ok eqOk hG) mixed (live := [true, true, false, false, true, true, true, true, true, false, false, false, true, false, false, false, false, false, false, false, false, true, true, true, true, false, false, false, false, false, false, false, false, false, false, false, false, false, true]) (dt := [(7, ⟨[], [], []⟩)]) Tryz.func88 rfl (by kernel_rfl) (by kernel_rfl) fun w0 hlens => ?_
  clear hlens
  have h1 := mSe_at nl xs nl2 ss
  cases hs : seB xs ss with
  | false =>
    rw [hs] at h1
    simp [Tryz.f88, List.range, List.range.loop, ints, intss, int, bool, row, frac, fracs, ← List.map_take, ← List.map_drop, h1, kqB, hs]
  | true =>
    rw [hs] at h1
    obtain ⟨hc, hl, hss, hq⟩ := seB_facts hs
    obtain ⟨c1, c2, c3, c4, c5⟩ := cnt_facts hc
    have h2 := mLow_at nl xs ss.sum
    have h3 := mUp_at nl xs ss.sum
    rw [if_pos hq] at h2 h3
    have h4 := mSum_at nl2 ss
    rw [sumW_all (fun x hx => by have := hss x hx; omega) (by omega)] at h4
    have hk : kqB xs ss = kqTo (qL xs ss.sum) (qU xs ss.sum) ss ss.length := by unfold kqB; rw [hs]; rfl
    have hl2 : (qL xs ss.sum).length = xs.length := by simp [qL]
    have hl3 : (qU xs ss.sum).length = xs.length := by simp [qU]
    have ht : (qL xs ss.sum).take xs.length = qL xs ss.sum := List.take_of_length_le (by omega)
    have ht2 : (qU xs ss.sum).take xs.length = qU xs ss.sum := List.take_of_length_le (by omega)
    rw [hk]
    generalize hLo : qL xs ss.sum = L at *
    generalize hUp : qU xs ss.sum = U at *
    simp [Tryz.f88, List.range, List.range.loop, ints, intss, int, bool, row, frac, fracs, ← List.map_take, ← List.map_drop, h1, h2, h3, h4, hl, hl2, hl3, ht, ht2]
    refine awp_range (live := [true, true, false, false, true, true, true, true, true, false, false, false, true, false, false, false, false, false, false, false, false, true, true, true, true, false, false, false, false, false, false, false, false, false, false, false, false, false, true]) (ctx_ok eqOk hG) mixed [false, false, false, false, false, true, true, false, false, false, false, false, false, false, false, false, false, false, false, false, false, true, true, true] (ss.length) (fun k => kqTo L U ss k = true) (fun k => ⟨[.junk, .junk, .junk, .junk, .junk, .ref 0 [] 0 xs.length, .ref 1 [] 0 xs.length, .junk, .junk, .junk, .junk, .junk, .junk, .junk, .junk, .junk, .junk, .junk, .junk, .junk, .junk, ints nl2 ss, int ss.length, int k, .junk, .junk, .junk, .junk, .junk, .junk, .junk, .junk, .junk, .junk, .junk, .junk, .junk, .junk, .junk, .junk], [⟨true, .sl false 1 (L.map int)⟩, ⟨true, .sl false 1 (U.map int)⟩]⟩) ?_ (by simp [sub, slotsLe, clean, keep, refsL, refs, once, place, renL, ren, List.replicate, int, bool, ints, hl, hl2, hl3]) ?_ ?_ ?_
    · omega
    · rfl
    · intro k hk hp hwk
      have hkL : k < L.length := by omega
      have hkU : k < U.length := by omega
      have a1 : L[k] = at0 L k := (at0_eq hkL).symm
      have a2 : U[k] = at0 U k := (at0_eq hkU).symm
      have a3 : ss[k] = at0 ss k := (at0_eq hk).symm
      cases hx : inR (at0 L k) (at0 U k) (at0 ss k) with
      | false =>
        have hf : kqTo L U ss xs.length = false := kqTo_no hx (by omega)
        have hkx : k < xs.length := by omega
        simp [List.range, List.range.loop, ints, intss, int, bool, row, frac, fracs, ← List.map_take, ← List.map_drop, mWithin_in, hk, hkL, hkU, hkx, a1, a2, a3, hx, hl, hl2, hl3, hf]
      | true =>
        have hps : kqTo L U ss (k + 1) = true := by unfold kqTo; rw [hp, hx]; rfl
        have hkx : k < xs.length := by omega
        simp [List.range, List.range.loop, ints, intss, int, bool, row, frac, fracs, ← List.map_take, ← List.map_drop, mWithin_in, hk, hkL, hkU, hkx, a1, a2, a3, hx, hl, hl2, hl3, hwk, hps]
    · intro hp
      rw [hl] at hp
      simp [List.range, List.range.loop, ints, intss, int, bool, row, frac, fracs, ← List.map_take, ← List.map_drop, hp, hl, hl2, hl3]
end Go.Proofs.YtkfmhpgnhkdebaaGreatDoor.Ax
