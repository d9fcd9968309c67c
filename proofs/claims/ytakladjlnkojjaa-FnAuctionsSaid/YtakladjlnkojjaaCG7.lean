/-
  Contracts: IsMarket (both programs). No condition.
-/
import Derived.Test.YtakladjlnkojjaaCG4
namespace Go.Proofs.Ytakladjlnkojjaa.Ax
open Go Go.RowKit
set_option linter.unusedSimpArgs false

/-- Thing x is given away or costs nothing. -/
def mkA (aw pr : List Int) (x : Nat) : Bool := !(decide (0 < pr.getD x 0) && !decide (0 ≤ pos aw x))
/-- What bidder i gains. -/
def gainOf (xss : List (Bool × List Int)) (aw pr : List Int) (i : Nat) : Int := if 0 ≤ aw.getD i 0 then IntKind.i64.wrap (ent xss i (aw.getD i 0) - at0 pr (aw.getD i 0).toNat) else 0
/-- Bidder i would not gain more by thing x. -/
def mkC (xss : List (Bool × List Int)) (pr : List Int) (g : Int) (i x : Nat) : Bool := !decide (g < IntKind.i64.wrap (ent xss i x - at0 pr x))
def mkB (xss : List (Bool × List Int)) (aw pr : List Int) (i : Nat) : Bool := !decide (gainOf xss aw pr i < 0) && allR pr.length (mkC xss pr (gainOf xss aw pr i) i)
def marketB (xss : List (Bool × List Int)) (aw pr : List Int) : Bool := awardB xss aw && decide (pr.length = wid xss) && allIn 0 1000 pr && allR pr.length (mkA aw pr) && allR aw.length (mkB xss aw pr)

noncomputable def mMarket : List AV → Option AV := mk (fun _ => True) (fun (p : (Bool) × (List (Bool × List Int)) × (Bool) × (List Int) × (Bool) × (List Int)) => [intss p.1 p.2.1, ints p.2.2.1 p.2.2.2.1, ints p.2.2.2.2.1 p.2.2.2.2.2]) (fun p => bool (marketB p.2.1 p.2.2.2.1 p.2.2.2.2.2))
theorem mMarket_at (nl : Bool) (xss : List (Bool × List Int)) (nl' : Bool) (aw : List Int) (nl'' : Bool) (pr : List Int) : mMarket [.sl nl 1 (xss.map row), .sl nl' 1 (aw.map int), .sl nl'' 1 (pr.map int)] = some (.v (.bool (marketB xss aw pr))) :=
  mk_eq (enc := fun (p : (Bool) × (List (Bool × List Int)) × (Bool) × (List Int) × (Bool) × (List Int)) => [intss p.1 p.2.1, ints p.2.2.1 p.2.2.2.1, ints p.2.2.2.2.1 p.2.2.2.2.2]) (x := (nl, xss, nl', aw, nl'', pr)) (by rintro ⟨a0, a1, a2, a3, a4, a5⟩ ⟨b0, b1, b2, b3, b4, b5⟩ h; simp [ints, intss, int, bool, row, frac, fracs, map_int_inj, map_row_inj, frac_inj, map_frac_inj] at h; simp [h]) trivial

theorem award_facts {xss : List (Bool × List Int)} {aw : List Int} (h : awardB xss aw = true) : rectB xss 4 4 1000 = true ∧ aw.length = xss.length ∧ ∀ i (hi : i < aw.length), aw[i] < wid xss := by
  simp only [awardB, Bool.and_eq_true, decide_eq_true_eq] at h
  obtain ⟨⟨⟨h1, h2⟩, h3⟩, _⟩ := h
  exact ⟨h1, h2, fun i hi => by have := (allIn_at h3 hi).2; omega⟩

set_option maxHeartbeats 4000000 in
theorem implIsMarket_ok : FnOk Try.prog 14 mMarket := by
  refine mk_ok fun ⟨nl, xss, nl', aw, nl'', pr⟩ _ => ?_
  have hG : FnsOk Try.prog [(12, mAwardOk), (47, mAllIn), (49, mHas)] := (.cons implAwardOk_ok (.cons allWithin_ok (.cons slicesContains_ok .nil)))
  refine callOk_awp (ctx_ok eqOk hG) mixed (live := [true, true, true, false, false, false, true, true, true, true, true, true, true, true, false, false, false, false, false, false, false, false, false, false, false, false, false, false, false, false, false, true, true, true, true, true, false, false, false, false, false, false, false, false, false, false, true, false, true, true, true, true, false, false, false, false, true, false, false, false, false, false, false, false, false, false, false, false, false, true, true, true, true, false, false, false, false, false, false, false, false, false, false, false, false, false, false, false, false, false, true]) (dt := [(14, ⟨[], [], []⟩)]) Try.func14 rfl (by kernel_rfl) (by kernel_rfl) fun w0 hlens => ?_
  have hll : pr.length ≤ 9223372036854775807 := (lens_ints.1 hlens.2.2.1).1
  clear hlens
  cases h1 : awardB xss aw with
  | false => simp (config := {contextual := true}) [Try.f14, List.range, List.range.loop, ints, intss, int, bool, row, frac, fracs, ← List.map_take, ← List.map_drop, mAwardOk_at, mAllIn_in, mHas_at, h1, marketB]
  | true =>
  obtain ⟨hr, ha, hin⟩ := award_facts h1
  have h0 := rect_pos hr
  have hw := wid_eq h0
  have hl := rect_len hr
  by_cases h2 : pr.length = wid xss
  rotate_left
  · have h2' : ((pr.length : Int) != (wid xss : Int)) = true := by simp; omega
    simp (config := {contextual := true}) [Try.f14, List.range, List.range.loop, ints, intss, int, bool, row, frac, fracs, ← List.map_take, ← List.map_drop, mAwardOk_at, mAllIn_in, h0, h1, h2, h2', hw, marketB]
  cases h3 : allIn 0 1000 pr with
  | false => simp (config := {contextual := true}) [Try.f14, List.range, List.range.loop, ints, intss, int, bool, row, frac, fracs, ← List.map_take, ← List.map_drop, mAwardOk_at, mAllIn_in, h0, h1, h2, hw, marketB, h3]
  | true =>
  have hm : marketB xss aw pr = (allR pr.length (mkA aw pr) && allR aw.length (mkB xss aw pr)) := by simp [marketB, h1, h2, h3]
  generalize hres : marketB xss aw pr = r at hm
  simp (config := {contextual := true}) [Try.f14, List.range, List.range.loop, ints, intss, int, bool, row, frac, fracs, ← List.map_take, ← List.map_drop, mAwardOk_at, mAllIn_in, h0, h1, h2, hw, h3]
  have hlw : (wid xss : Int) = pr.length := by omega
  refine awp_range (live := [true, true, true, false, false, false, true, true, true, true, true, true, true, true, false, false, false, false, false, false, false, false, false, false, false, false, false, false, false, false, false, true, true, true, true, true, false, false, false, false, false, false, false, false, false, false, true, false, true, true, true, true, false, false, false, false, true, false, false, false, false, false, false, false, false, false, false, false, false, true, true, true, true, false, false, false, false, false, false, false, false, false, false, false, false, false, false, false, false, false, true]) (ctx_ok eqOk hG) mixed [true, true, true, false, false, false, false, false, false, false, false, false, false, false, false, false, false, false, false, false, false, false, false, false, false, false, false, false, false, false, false, false, true, true, true] (pr.length) (fun k => upto (mkA aw pr) k) (fun k => ⟨[intss nl xss, ints nl' aw, ints nl'' pr, .junk, .junk, .junk, .junk, .junk, .junk, .junk, .junk, .junk, .junk, .junk, .junk, .junk, .junk, .junk, .junk, .junk, .junk, .junk, .junk, .junk, .junk, .junk, .junk, .junk, .junk, .junk, .junk, .junk, ints nl'' pr, int pr.length, int k, .junk, .junk, .junk, .junk, .junk, .junk, .junk, .junk, .junk, .junk, .junk, .junk, .junk, .junk, .junk, .junk, .junk, .junk, .junk, .junk, .junk, .junk, .junk, .junk, .junk, .junk, .junk, .junk, .junk, .junk, .junk, .junk, .junk, .junk, .junk, .junk, .junk, .junk, .junk, .junk, .junk, .junk, .junk, .junk, .junk, .junk, .junk, .junk, .junk, .junk, .junk, .junk, .junk, .junk, .junk, .junk, .junk, .junk], []⟩) ?_ (by simp [sub, slotsLe, clean, keep, refsL, refs, once, place, renL, ren, List.replicate, int, bool, intss, ints, hlw]) ?_ ?_ ?_
  · exact hll
  · exact upto_zero
  · intro k h hp hwk
    have hf : mkA aw pr k = false → r = false := fun hf => by rw [hm, allR_no h hf]; rfl
    have ht := upto_succ hp
    have e : mkA aw pr k = !(decide (0 < pr[k]) && !decide (0 ≤ pos aw k)) := by unfold mkA; rw [getD_at h]
    rw [e] at hf ht
    simp at hf ht
    simp (config := {contextual := true}) [List.range, List.range.loop, ints, intss, int, bool, row, frac, fracs, ← List.map_take, ← List.map_drop, mHas_at, h, hwk]
    grind
  · intro hp
    rw [allR_yes hp, Bool.true_and] at hm
    simp (config := {contextual := true}) [List.range, List.range.loop, ints, intss, int, bool, row, frac, fracs, ← List.map_take, ← List.map_drop]
    refine awp_range (live := [true, true, true, false, false, false, true, true, true, true, true, true, true, true, false, false, false, false, false, false, false, false, false, false, false, false, false, false, false, false, false, true, true, true, true, true, false, false, false, false, false, false, false, false, false, false, true, false, true, true, true, true, false, false, false, false, true, false, false, false, false, false, false, false, false, false, false, false, false, true, true, true, true, false, false, false, false, false, false, false, false, false, false, false, false, false, false, false, false, false, true]) (ctx_ok eqOk hG) mixed [true, false, true, false, false, false, false, false, false, false, false, false, false, false, false, false, false, false, false, false, false, false, false, false, false, false, false, false, false, false, false, false, false, false, false, false, false, false, false, false, false, false, false, false, false, false, false, false, true, true, true] (aw.length) (fun i => upto (mkB xss aw pr) i) (fun i => ⟨[intss nl xss, .junk, ints nl'' pr, .junk, .junk, .junk, .junk, .junk, .junk, .junk, .junk, .junk, .junk, .junk, .junk, .junk, .junk, .junk, .junk, .junk, .junk, .junk, .junk, .junk, .junk, .junk, .junk, .junk, .junk, .junk, .junk, .junk, .junk, .junk, .junk, .junk, .junk, .junk, .junk, .junk, .junk, .junk, .junk, .junk, .junk, .junk, .junk, .junk, ints nl' aw, int aw.length, int i, .junk, .junk, .junk, .junk, .junk, .junk, .junk, .junk, .junk, .junk, .junk, .junk, .junk, .junk, .junk, .junk, .junk, .junk, .junk, .junk, .junk, .junk, .junk, .junk, .junk, .junk, .junk, .junk, .junk, .junk, .junk, .junk, .junk, .junk, .junk, .junk, .junk, .junk, .junk, .junk, .junk, .junk], []⟩) ?_ (by simp [sub, slotsLe, clean, keep, refsL, refs, once, place, renL, ren, List.replicate, int, bool, intss, ints]) ?_ ?_ ?_
    · omega
    · exact upto_zero
    · intro i hi hpi hwi
      have hix : i < xss.length := by omega
      have hrow := (rect_row hr hix).1
      have hai := hin i hi
      have hf : mkB xss aw pr i = false → r = false := fun hf => by rw [hm]; exact allR_no hi hf
      have ht := upto_succ hpi
      have g1 : 0 ≤ aw[i] → xss[i].2[aw[i].toNat]? = some (ent xss i aw[i]) := fun h0 => ent_get hix (by omega)
      have g2 : 0 ≤ aw[i] → pr[aw[i].toNat]? = some (at0 pr aw[i].toNat) := fun h0 => at0_get (by omega)
      have e : gainOf xss aw pr i = if 0 ≤ aw[i] then IntKind.i64.wrap (ent xss i aw[i] - at0 pr aw[i].toNat) else 0 := by unfold gainOf; rw [getD_at hi]
      by_cases hn : 0 ≤ aw[i]
      all_goals
        simp only [hn, if_true, if_false, ite_true, ite_false] at e
        simp (config := {contextual := true}) [List.range, List.range.loop, ints, intss, int, bool, row, frac, fracs, ← List.map_take, ← List.map_drop, hi, hwi, hix, hn, g1, g2]
        refine awp_range (live := [true, true, true, false, false, false, true, true, true, true, true, true, true, true, false, false, false, false, false, false, false, false, false, false, false, false, false, false, false, false, false, true, true, true, true, true, false, false, false, false, false, false, false, false, false, false, true, false, true, true, true, true, false, false, false, false, true, false, false, false, false, false, false, false, false, false, false, false, false, true, true, true, true, false, false, false, false, false, false, false, false, false, false, false, false, false, false, false, false, false, true]) (ctx_ok eqOk hG) mixed [true, false, true, false, false, false, false, false, false, true, false, true, false, false, false, false, false, false, false, false, false, false, false, false, false, false, false, false, false, false, false, false, false, false, false, false, false, false, false, false, false, false, false, false, false, false, false, false, true, true, true, false, false, false, false, false, false, false, false, false, false, false, false, false, false, false, false, false, false, true, true, true] (pr.length) (fun x => upto (mkC xss pr (gainOf xss aw pr i) i) x ∧ (0 < x → 0 ≤ gainOf xss aw pr i)) (fun x => ⟨[intss nl xss, .junk, ints nl'' pr, .junk, .junk, .junk, .junk, .junk, .junk, int i, .junk, int (gainOf xss aw pr i), .junk, .junk, .junk, .junk, .junk, .junk, .junk, .junk, .junk, .junk, .junk, .junk, .junk, .junk, .junk, .junk, .junk, .junk, .junk, .junk, .junk, .junk, .junk, .junk, .junk, .junk, .junk, .junk, .junk, .junk, .junk, .junk, .junk, .junk, .junk, .junk, ints nl' aw, int aw.length, int i, .junk, .junk, .junk, .junk, .junk, .junk, .junk, .junk, .junk, .junk, .junk, .junk, .junk, .junk, .junk, .junk, .junk, .junk, ints nl'' pr, int pr.length, int x, .junk, .junk, .junk, .junk, .junk, .junk, .junk, .junk, .junk, .junk, .junk, .junk, .junk, .junk, .junk, .junk, .junk, .junk, .junk, .junk, .junk], []⟩) ?_ (by simp [sub, slotsLe, clean, keep, refsL, refs, once, place, renL, ren, List.replicate, int, bool, intss, ints, e]) ?_ ?_ ?_
        · exact hll
        · exact ⟨upto_zero, by omega⟩
        · intro x hx hpx hwx
          obtain ⟨hpx, _⟩ := hpx
          have c1 : gainOf xss aw pr i < 0 → r = false := fun hg => hf (by simp [mkB, hg])
          have c2 : mkC xss pr (gainOf xss aw pr i) i x = false → r = false := fun hg => hf (by simp [mkB, allR_no hx hg])
          have c3 := upto_succ hpx
          have g3 : xss[i].2[x]? = some (ent xss i x) := by have := ent_get hix (k := (x : Int)) (by simp; omega); simpa using this
          have e3 : mkC xss pr (gainOf xss aw pr i) i x = !decide (gainOf xss aw pr i < IntKind.i64.wrap (ent xss i x - pr[x])) := by unfold mkC; rw [at0_eq hx]
          rw [e3] at c2 c3
          simp at c2 c3
          simp (config := {contextual := true}) [List.range, List.range.loop, ints, intss, int, bool, row, frac, fracs, ← List.map_take, ← List.map_drop, hi, hwi, hix, hx, hwx, g3]
          clear hf ht hpi hpx hp hm e e3 hG hres
          grind
        · intro hpx
          have c1 : mkB xss aw pr i = true := by simp only [mkB, Bool.and_eq_true, allR_yes hpx.1]; have := hpx.2 (by omega); simp; omega
          have c2 := ht c1
          simp (config := {contextual := true}) [List.range, List.range.loop, ints, intss, int, bool, row, frac, fracs, ← List.map_take, ← List.map_drop, hi, hwi, c2]
    · intro hpi
      rw [allR_yes hpi] at hm
      subst hm
      simp (config := {contextual := true}) [List.range, List.range.loop, ints, intss, int, bool, row, frac, fracs, ← List.map_take, ← List.map_drop]

end Go.Proofs.Ytakladjlnkojjaa.Ax
