/-
  Contracts of the functions on lists of lists of fracs. No condition.
-/
import Derived.Test.YtkfgmpmeipilnaaCB2
namespace Go.Proofs.Ytkfgmpmeipilnaa.Ax
open Go Go.RowKit
set_option linter.unusedSimpArgs false

/-- A frow: is it nil, its numbers. -/
def frow (p : Bool × List (Int × Int)) : AV := .sl p.1 2 (p.2.map frac)
def fracss (nl : Bool) (xss : List (Bool × List (Int × Int))) : AV := .sl nl 1 (xss.map frow)
theorem frow_inj {p q : Bool × List (Int × Int)} : frow p = frow q ↔ p = q := by
  obtain ⟨a, b⟩ := p; obtain ⟨c, d⟩ := q
  simp [frow, map_frac_inj]
theorem map_frow_inj {a b : List (Bool × List (Int × Int))} : a.map frow = b.map frow ↔ a = b :=
  ⟨fun h => (List.map_inj_right (fun x y => frow_inj.1)).1 h, fun h => by rw [h]⟩

theorem lens_frow {r : Bool × List (Int × Int)} : lens (.sl r.1 2 (r.2.map frac)) ↔ r.2.length ≤ 9223372036854775807 ∧ (r.1 = true → r.2 = []) := lens_fracs
theorem lens_fracss {nl : Bool} {xss : List (Bool × List (Int × Int))} : lens (.sl nl 1 (xss.map frow)) ↔ (xss.length ≤ 9223372036854775807 ∧ (nl = true → xss = [])) ∧ ∀ x ∈ xss, x.2.length ≤ 9223372036854775807 ∧ (x.1 = true → x.2 = []) := by
  simp only [lens, lensL_map, frow, List.length_map, List.map_eq_nil_iff, lens_fracs]

/-- How many numbers the first k rows hold. -/
def rowSumF (xss : List (Bool × List (Int × Int))) (k : Nat) : Nat := ((xss.take k).map (·.2.length)).sum
theorem rowSumF_zero {xss : List (Bool × List (Int × Int))} : rowSumF xss 0 = 0 := by simp [rowSumF]
theorem rowSumF_succ {xss : List (Bool × List (Int × Int))} {k : Nat} (h : k < xss.length) : rowSumF xss (k + 1) = rowSumF xss k + xss[k].2.length := by
  unfold rowSumF; rw [List.take_succ_eq_append_getElem h]; simp only [List.map_append, List.sum_append, List.map_cons, List.map_nil, List.sum_cons, List.sum_nil, Nat.add_zero]
theorem rowSumF_mono {xss : List (Bool × List (Int × Int))} {k n : Nat} (h : k ≤ n) : rowSumF xss k ≤ rowSumF xss n := by
  induction n with
  | zero => obtain rfl : k = 0 := by omega
            exact Nat.le_refl _
  | succ n ih =>
    by_cases e : k = n + 1
    · rw [e]; exact Nat.le_refl _
    · refine Nat.le_trans (ih (by omega)) ?_
      by_cases hn : n < xss.length
      · rw [rowSumF_succ hn]; omega
      · simp only [rowSumF]; rw [List.take_of_length_le (by omega), List.take_of_length_le (by omega)]; exact Nat.le_refl _
def needF (xss : List (Bool × List (Int × Int))) : Nat := xss.length + rowSumF xss xss.length

noncomputable def mSzFss : List AV → Option AV := mk (fun p => p.2.1.length < 2 ^ 63 ∧ (∀ x ∈ p.2.1, x.2.length < 2 ^ 63) ∧ 0 ≤ p.2.2 ∧ p.2.2 ≤ 2 ^ 62) (fun (p : Bool × List (Bool × List (Int × Int)) × Int) => [fracss p.1 p.2.1, int p.2.2]) (fun p => int (if p.2.2 < needF p.2.1 then -1 else p.2.2 - needF p.2.1))
theorem mSzFss_at (nl : Bool) (xss : List (Bool × List (Int × Int))) (l : Int) (h : xss.length < 2 ^ 63) (h' : ∀ x ∈ xss, x.2.length < 2 ^ 63) (h1 : 0 ≤ l) (h2 : l ≤ 2 ^ 62) : mSzFss [.sl nl 1 (xss.map frow), .v (.int .i64 l)] = some (.v (.int .i64 (if l < needF xss then -1 else l - needF xss))) :=
  mk_eq (enc := fun (p : Bool × List (Bool × List (Int × Int)) × Int) => [fracss p.1 p.2.1, int p.2.2]) (x := (nl, xss, l)) (by rintro ⟨x, x', x''⟩ ⟨y, y', y''⟩ h; simp [fracss, int_inj, map_frow_inj] at h; simp [h]) ⟨h, h', h1, h2⟩

set_option maxHeartbeats 1000000 in
theorem szFractionSS_ok : FnOk Try.prog 32 mSzFss := by
  refine mk_ok fun ⟨nl, xss, l⟩ ⟨h1, h1', h2, h3⟩ => ?_
  simp only at h1 h1' h2 h3
  have hG : FnsOk Try.prog [(83, mSzF)] := .cons szFractionS_ok .nil
  refine callOk_of_awp (ctx_ok eqOk hG) mixed (live := [true, true, false, false, true, true, false, false, false, false, false, true, false, false, false, true, false, false, false, false, false, false, false, false, false, true]) (dt := []) Try.func32 rfl (by kernel_rfl) (by kernel_rfl) fun w0 => ?_
  have hw : IntKind.i64.wrap (l - xss.length) = l - xss.length := wrapI (by omega) (by omega)
  by_cases h : l < xss.length
  · have h' : l - xss.length < 0 := by omega
    have hn : l < needF xss := by simp only [needF]; omega
    simp [Try.f32, List.range, List.range.loop, fracss, int, hw, hn, h']
  · have h' : ¬ l - xss.length < 0 := by omega
    simp [Try.f32, List.range, List.range.loop, fracss, int, hw, h, h']
    refine awp_loop_of (ctx_ok eqOk hG) mixed (live := [true, true, false, false, true, true, false, false, false, false, false, true, false, false, false, true, false, false, false, false, false, false, false, false, false, true]) [true, true, false, false, true, true] (α := {k : Nat // k ≤ xss.length ∧ (xss.length : Int) + rowSumF xss k ≤ l})
      (fun k => ⟨[fracss nl xss, int (l - xss.length - rowSumF xss k.1), .junk, .junk, int 0, int k.1] ++ List.replicate 21 .junk, []⟩) (fun k => xss.length - k.1) ⟨0, by omega, by rw [rowSumF_zero]; omega⟩
      (by simp [sub, slotsLe, clean, keep, refsL, refs, once, place, renL, ren, List.replicate, int, bool, fracss, rowSumF_zero]) ?_
    rintro ⟨k, hk, hl⟩
    by_cases hkn : k < xss.length
    · have hx := h1' xss[k] (List.getElem_mem _)
      have hs := rowSumF_succ hkn
      have hz := mSzF_at xss[k].1 xss[k].2 (l - xss.length - rowSumF xss k) hx (by omega) (by omega)
      by_cases hc : l - xss.length - rowSumF xss k < xss[k].2.length
      · simp [hc] at hz
        have hn : l < needF xss := by
          have := rowSumF_mono (xss := xss) (show k + 1 ≤ xss.length from hkn)
          simp only [needF]; omega
        simp [List.range, List.range.loop, fracss, frow, int, List.replicate, hkn, hz, hn]
      · simp [hc] at hz
        have hc' : ¬ l - xss.length - rowSumF xss k - xss[k].2.length < 0 := by omega
        simp [List.range, List.range.loop, fracss, frow, int, List.replicate, hkn, hz, hc']
        refine ⟨⟨k + 1, hkn, by omega⟩, ?_, by simp; omega⟩
        simp [sub, slotsLe, clean, keep, refsL, refs, once, place, renL, ren, List.replicate, int, bool, fracss, hs]
        exact ⟨by omega, wrapI (by omega) (by omega)⟩
    · have hk' : k = xss.length := by omega
      subst hk'
      have hn : ¬ l < needF xss := by simp only [needF]; omega
      simp [List.range, List.range.loop, fracss, int, hkn, List.replicate, hn]
      simp only [needF]; omega

/-- A frow of the call's ownF. -/
def ofrow (p : Bool × List (Int × Int)) : AV := .sl false 2 (p.2.map frac)
def ownF (xss : List (Bool × List (Int × Int))) : List (Bool × List (Int × Int)) := xss.map fun p => (false, p.2)
theorem ownF_len {xss : List (Bool × List (Int × Int))} : (ownF xss).length = xss.length := by simp [ownF]
theorem map_ofrow {xss : List (Bool × List (Int × Int))} : xss.map ofrow = (ownF xss).map frow := by simp [ownF, ofrow, frow]
def smallF (xss : List (Bool × List (Int × Int))) : Prop := xss.length ≤ 2 ^ 40 ∧ ∀ x ∈ xss, x.2.length ≤ 2 ^ 40

noncomputable def mToFss : List AV → Option AV := mk (fun p => smallF p.2) (fun (p : Bool × List (Bool × List (Int × Int))) => [fracss p.1 p.2]) (fun p => fracss false (ownF p.2))
theorem mToFss_at (nl : Bool) (xss : List (Bool × List (Int × Int))) (h : smallF xss) : mToFss [.sl nl 1 (xss.map frow)] = some (.sl false 1 ((ownF xss).map frow)) :=
  mk_eq (enc := fun (p : Bool × List (Bool × List (Int × Int))) => [fracss p.1 p.2]) (x := (nl, xss)) (by rintro ⟨x, x'⟩ ⟨y, y'⟩ h; simp [fracss, map_frow_inj] at h; simp [h]) h

set_option maxHeartbeats 1000000 in
theorem toFractionSS_ok : FnOk Try.prog 34 mToFss := by
  refine mk_ok fun ⟨nl, xss⟩ ⟨hpre, hpr⟩ => ?_
  simp only at hpre hpr
  have hG : FnsOk Try.prog [(85, mToFs)] := .cons toFractionS_ok .nil
  refine callOk_of_awp (ctx_ok eqOk hG) mixed (live := [true, false, true, true, true, false, false, false, false, false, false, true]) (dt := []) Try.func34 rfl (by kernel_rfl) (by kernel_rfl) fun w0 => ?_
  have hb : 24 * xss.length ≤ 281474976710656 := by omega
  have hn : xss.length ≤ 4611686018427387904 := by omega
  simp [Try.f34, List.range, List.range.loop, fracss, hb, hn]
  refine awp_loop_of (ctx_ok eqOk hG) mixed (live := [true, false, true, true, true, false, false, false, false, false, false, true]) [true, false, true, true, true] (α := {k : Nat // k ≤ xss.length})
    (fun k => ⟨[fracss nl xss, .junk, .sl true 1 [], .ref 0 [] 0 xss.length, int k.1] ++ List.replicate 18 .junk, [⟨true, .sl false 1 (filled ofrow (.sl true 1 []) xss k.1)⟩]⟩) (fun k => xss.length - k.1) ⟨0, by omega⟩
    (by simp [sub, slotsLe, clean, keep, refsL, refs, once, place, renL, ren, List.replicate, int, bool, fracss, filled_zero]) ?_
  rintro ⟨k, hk⟩
  by_cases h : k < xss.length
  · have hl := filled_len (f := ofrow) (z := AV.sl true 1 []) hk
    have hg := filled_get (f := ofrow) (z := AV.sl true 1 []) h
    have hg' := filled_get' (f := ofrow) (z := AV.sl true 1 []) h
    have hz := mToFs_at xss[k].1 xss[k].2 (hpr _ (List.getElem_mem _))
    simp [List.range, List.range.loop, fracss, frow, int, h, List.replicate, hl, hg, hg', hz]
    refine ⟨⟨k + 1, h⟩, ?_, by simp; omega⟩
    have hset := filled_set (f := ofrow) (z := AV.sl true 1 []) h
    simp only [ofrow] at hset
    simp [sub, slotsLe, clean, keep, refsL, refs, once, place, renL, ren, List.replicate, int, bool, fracss, hset, hl]
    exact wrapI (by omega) (by omega)
  · have hk' : k = xss.length := by omega
    subst hk'
    simp [List.range, List.range.loop, fracss, int, h, List.replicate, filled_all, map_ofrow, ownF_len]

theorem take_eq_numsF {xss yss : List (Bool × List (Int × Int))} {k : Nat} (h1 : k < xss.length) (h2 : k < yss.length) : (xss.take (k + 1)).map (·.2) = (yss.take (k + 1)).map (·.2) ↔ (xss.take k).map (·.2) = (yss.take k).map (·.2) ∧ xss[k].2 = yss[k].2 := by
  rw [List.take_succ_eq_append_getElem h1, List.take_succ_eq_append_getElem h2, List.map_append, List.map_append]
  constructor
  · intro h
    have := List.append_inj h (by simp; omega)
    simpa using this
  · rintro ⟨h, h'⟩; rw [h]; simp [h']

noncomputable def mEqFss : List AV → Option AV := mk (fun p => smallF p.1.2 ∧ smallF p.2.2) (fun (p : (Bool × List (Bool × List (Int × Int))) × (Bool × List (Bool × List (Int × Int)))) => [fracss p.1.1 p.1.2, fracss p.2.1 p.2.2]) (fun p => bool (decide (p.1.2.map (·.2) = p.2.2.map (·.2))))
theorem mEqFss_at (nl nl' : Bool) (xs ys : List (Bool × List (Int × Int))) (h : smallF xs) (h' : smallF ys) : mEqFss [.sl nl 1 (xs.map frow), .sl nl' 1 (ys.map frow)] = some (.v (.bool (decide (xs.map (·.2) = ys.map (·.2))))) :=
  mk_eq (enc := fun (p : (Bool × List (Bool × List (Int × Int))) × (Bool × List (Bool × List (Int × Int)))) => [fracss p.1.1 p.1.2, fracss p.2.1 p.2.2]) (x := ((nl, xs), (nl', ys))) (by rintro ⟨⟨x, x'⟩, ⟨x'', x3⟩⟩ ⟨⟨y, y'⟩, ⟨y'', y3⟩⟩ h; simp [fracss, map_frow_inj] at h; simp [h]) ⟨h, h'⟩

set_option maxHeartbeats 1000000 in
theorem eqFractionSS_ok : FnOk Try.prog 14 mEqFss := by
  refine mk_ok fun ⟨⟨nl, xs⟩, ⟨nl', ys⟩⟩ ⟨⟨hp, hpr⟩, ⟨hp', hpr'⟩⟩ => ?_
  simp only at hp hp' hpr hpr'
  have hG : FnsOk Try.prog [(29, mEqFs)] := .cons eqFractionS_ok .nil
  refine callOk_of_awp (ctx_ok eqOk hG) mixed (live := [true, true, false, false, true, true, false, false, false, false, true, false, false, false, true, false, false, false, false, false, false, false, false, false, false, false, true]) (dt := [(6, ⟨[], [], []⟩)]) Try.func14 rfl (by kernel_rfl) (by kernel_rfl) fun w0 => ?_
  by_cases hl : xs.length = ys.length
  · simp [Try.f14, List.range, List.range.loop, fracss, hl]
    refine awp_loop_of (ctx_ok eqOk hG) mixed (live := [true, true, false, false, true, true, false, false, false, false, true, false, false, false, true, false, false, false, false, false, false, false, false, false, false, false, true]) [true, true, false, false, true, true] (α := {k : Nat // k ≤ ys.length ∧ (xs.take k).map (·.2) = (ys.take k).map (·.2)})
      (fun k => ⟨[fracss nl xs, fracss nl' ys, .junk, .junk, bool false, int k.1] ++ List.replicate 21 .junk, []⟩) (fun k => ys.length - k.1) ⟨0, by omega, by simp⟩
      (by simp [sub, slotsLe, clean, keep, refsL, refs, once, place, renL, ren, List.replicate, int, bool, fracss]) ?_
    rintro ⟨k, hk, he⟩
    by_cases h : k < ys.length
    · have h' : k < xs.length := by omega
      have hz := mEqFs_at xs[k].1 ys[k].1 xs[k].2 ys[k].2 (hpr _ (List.getElem_mem _)) (hpr' _ (List.getElem_mem _))
      by_cases hx : xs[k].2 = ys[k].2
      · simp [hx] at hz
        simp [List.range, List.range.loop, fracss, frow, int, bool, h, h', hl, List.replicate, hx, hz]
        refine ⟨⟨k + 1, h, (take_eq_numsF h' h).2 ⟨he, hx⟩⟩, ?_, by simp; omega⟩
        simp [sub, slotsLe, clean, keep, refsL, refs, once, place, renL, ren, List.replicate, int, bool, fracss]
        exact wrapI (by omega) (by omega)
      · have hx' : ¬ xs.map (·.2) = ys.map (·.2) := fun e => hx (by
          have e2 := congrArg (fun l => l[k]?) e
          simpa [h, h'] using e2)
        simp [hx] at hz
        simp [List.range, List.range.loop, fracss, frow, int, bool, h, h', hl, List.replicate, hz, hx']
    · have hk' : k = ys.length := by omega
      subst hk'
      simp [List.range, List.range.loop, fracss, int, bool, h, hl, List.replicate]
      rw [List.take_of_length_le (by omega), List.take_of_length_le (by omega)] at he
      exact he
  · have hl' : ((xs.length : Int) != ys.length) = true := by simp; omega
    have hx' : ¬ xs.map (·.2) = ys.map (·.2) := fun e => hl (by have := congrArg List.length e; simpa using this)
    simp [Try.f14, List.range, List.range.loop, fracss, hl, hl', bool, hx']

theorem needF_small {xss : List (Bool × List (Int × Int))} (h : needF xss ≤ 1048576) : smallF xss := by
  simp only [needF] at h
  refine ⟨by omega, fun x hx => ?_⟩
  obtain ⟨i, hi, rfl⟩ := List.getElem_of_mem hx
  have h1 := rowSumF_succ hi
  have h2 := rowSumF_mono (xss := xss) (show i + 1 ≤ xss.length from hi)
  omega
theorem ownF_small {xss : List (Bool × List (Int × Int))} (h : smallF xss) : smallF (ownF xss) := by
  refine ⟨by rw [ownF_len]; exact h.1, fun x hx => ?_⟩
  simp only [ownF, List.mem_map] at hx
  obtain ⟨y, hy, rfl⟩ := hx
  exact h.2 y hy


end Go.Proofs.Ytkfgmpmeipilnaa.Ax
