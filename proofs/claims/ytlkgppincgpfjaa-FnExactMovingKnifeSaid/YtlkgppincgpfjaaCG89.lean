/-
  Contracts: MovingKnife (the reference). No condition.
-/
import Derived.Test.YtlkgppincgpfjaaCG88
import Derived.Test.YtlkgppincgpfjaaCG107
namespace Go.Proofs.Ytlkgppincgpfjaa.Ax
open Go Go.RowKit
set_option linter.unusedSimpArgs false

noncomputable def mTaker : List AV → Option AV := mk (fun (p : Bool × List (Bool × List Int) × List Bool × Nat × Nat) => rectB p.2.1 3 10 100 = true ∧ p.2.2.1.length = p.2.1.length ∧ p.2.2.2.1 ≤ p.2.2.2.2 ∧ p.2.2.2.2 ≤ wid p.2.1) (fun p => [intss p.1 p.2.1, bools false p.2.2.1, int p.2.2.2.1, int p.2.2.2.2]) (fun p => int (tkr p.2.1 p.2.2.1 p.2.2.2.1 p.2.2.2.2))
theorem mTaker_at (nl : Bool) (xss : List (Bool × List Int)) (dn : List Bool) (fr to : Nat) (h : rectB xss 3 10 100 = true ∧ dn.length = xss.length ∧ fr ≤ to ∧ to ≤ wid xss) :
    mTaker [.sl nl 1 (xss.map row), .sl false 1 (dn.map bool), .v (.int .i64 fr), .v (.int .i64 to)] = some (.v (.int .i64 (tkr xss dn fr to))) :=
  mk_eq (enc := fun (p : Bool × List (Bool × List Int) × List Bool × Nat × Nat) => [intss p.1 p.2.1, bools false p.2.2.1, int p.2.2.2.1, int p.2.2.2.2]) (x := (nl, xss, dn, fr, to)) (by
    rintro ⟨a, b, c, d, e⟩ ⟨a', b', c', d', e'⟩ h
    simp [intss, bools, int, map_row_inj, map_bool_inj] at h
    obtain ⟨⟨_, rfl⟩, rfl, h1, h2⟩ := h
    simp only
    rw [show d = d' by omega, show e = e' by omega]) h

set_option maxHeartbeats 2000000 in
theorem taker_ok : FnOk Try.prog 34 mTaker := by
  refine mk_ok fun ⟨nl, xss, dn, fr, to⟩ hp => ?_
  obtain ⟨h, hd, h1, h2⟩ := hp
  simp only at h hd h1 h2
  have h0 := rect_pos h
  have hl := rect_len h
  have hG : FnsOk Try.prog [(62, mSum)] := (.cons l13Sum_ok .nil)
  refine callOk_awp (ctx_ok eqOk hG) mixed (live := [true, true, true, true, false, false, false, false, true, true, true, true, true, true, true, false, false, false, false, false, false, false, false, false, false, false, false, false, false, false, false, false, false, false, false, true]) (dt := []) Try.func34 rfl (by kernel_rfl) (by kernel_rfl) fun w0 hlens => ?_
  clear hlens
  simp (config := {contextual := true}) [Try.f34, List.range, List.range.loop, ints, intss, int, bool, row, frac, fracs, ← List.map_take, ← List.map_drop, bools]
  refine awp_range (live := [true, true, true, true, false, false, false, false, true, true, true, true, true, true, true, false, false, false, false, false, false, false, false, false, false, false, false, false, false, false, false, false, false, false, false, true]) (ctx_ok eqOk hG) mixed [true, true, true, true, false, false, false, false, false, false, false, true, true, true] (xss.length) (fun k => ∀ j, j < k → dn.getD j true = false → shB xss fr to j = false) (fun k => ⟨[intss nl xss, bools false dn, int fr, int to, .junk, .junk, .junk, .junk, .junk, .junk, .junk, intss nl xss, int xss.length, int k, .junk, .junk, .junk, .junk, .junk, .junk, .junk, .junk, .junk, .junk, .junk, .junk, .junk, .junk, .junk, .junk, .junk, .junk, .junk, .junk, .junk, .junk, .junk, .junk], []⟩) ?_ (by simp [sub, slotsLe, clean, keep, refsL, refs, once, place, renL, ren, List.replicate, int, bool, intss, bools, bool]) ?_ ?_ ?_
  · omega
  · intro j hj; omega
  · intro k hk hno hwk
    have hr := (rect_row h hk).1
    have hkd : k < dn.length := by omega
    have hs1 := mSum_at xss[k].1 ((xss[k].2.drop fr).take (to - fr))
    have hs2 := mSum_at xss[k].1 xss[k].2
    have hg : xss.getD k (true, []) = xss[k] := getDD hk
    have hto : to ≤ xss[k].2.length := by omega
    have hdk : dn.getD k true = dn[k] := by simp [List.getD_eq_getElem?_getD, hkd]
    have hsh : shB xss fr to k = decide (sumW xss[k].2 ≤ IntKind.i64.wrap (xss.length * sumW ((xss[k].2.drop fr).take (to - fr)))) := by unfold shB; rw [hg, Int.mul_comm]
    have hstep : dn[k] = true ∨ shB xss fr to k = false → ∀ j, j < k + 1 → dn.getD j true = false → shB xss fr to j = false := fun hc j hj hdj => by
      by_cases e : j = k
      · subst e; rw [hdk] at hdj; rcases hc with hc | hc
        · rw [hc] at hdj; simp at hdj
        · exact hc
      · exact hno j (by omega) hdj
    have hfound : dn[k] = false → shB xss fr to k = true → tkr xss dn fr to = (k : Int) := fun hc1 hc2 => by
      have := first_sel (q := fun i => !dn.getD i true) (p := fun i => shB xss fr to i.toNat) (n := dn.length) (k := k) hkd (by simp only [hdk, hc1]; rfl) (by simpa using hc2) (fun j hj hq => by simpa using hno j hj (by simpa using hq))
      unfold tkr tkAt
      rw [show lf dn = selTo (fun i => !dn.getD i true) dn.length from rfl, this.1, if_pos (by omega), Int.toNat_natCast]
      exact this.2
    cases hc1 : dn[k] with
    | true =>
      have := hstep (.inl hc1)
      simp (config := {contextual := true}) [List.range, List.range.loop, ints, intss, int, bool, row, frac, fracs, ← List.map_take, ← List.map_drop, bools, hk, hkd, hc1, hwk]
      exact this
    | false =>
      cases hc2 : shB xss fr to k with
      | true =>
        have hf := hfound hc1 hc2
        rw [hsh] at hc2
        simp only [decide_eq_true_eq] at hc2
        simp (config := {contextual := true}) [List.range, List.range.loop, ints, intss, int, bool, row, frac, fracs, ← List.map_take, ← List.map_drop, bools, hk, hkd, hc1, h1, hto, hs1, hs2, hc2, hf]
      | false =>
        have := hstep (.inr hc2)
        rw [hsh] at hc2
        simp only [decide_eq_false_iff_not] at hc2
        simp (config := {contextual := true}) [List.range, List.range.loop, ints, intss, int, bool, row, frac, fracs, ← List.map_take, ← List.map_drop, bools, hk, hkd, hc1, h1, hto, hs1, hs2, hc2, hwk]
        exact this
  · intro hno
    have hf : tkr xss dn fr to = -1 := by
      have := none_sel (q := fun i => !dn.getD i true) (p := fun i => shB xss fr to i.toNat) (n := dn.length) (fun j hj hq => by simpa using hno j (by omega) (by simpa using hq))
      unfold tkr tkAt
      rw [show lf dn = selTo (fun i => !dn.getD i true) dn.length from rfl, this, if_neg (by omega)]
    simp (config := {contextual := true}) [List.range, List.range.loop, ints, intss, int, bool, row, frac, fracs, ← List.map_take, ← List.map_drop, bools, hf]

end Go.Proofs.Ytlkgppincgpfjaa.Ax
