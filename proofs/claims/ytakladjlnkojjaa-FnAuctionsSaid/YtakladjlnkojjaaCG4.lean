/-
  Contracts: the worth of an award, what a person's pieces are worth (both programs). No condition.
-/
import Derived.Test.YtakladjlnkojjaaCB2
namespace Go.Proofs.Ytakladjlnkojjaa.Ax
open Go Go.RowKit
set_option linter.unusedSimpArgs false

theorem ent_get {xss : List (Bool × List Int)} {i : Nat} (hi : i < xss.length) {k : Int} (hk : k.toNat < xss[i].2.length) : xss[i].2[k.toNat]? = some (ent xss i k) := by
  unfold ent; simp [List.getD_eq_getElem?_getD, hi, hk]

/-- The worth of the first k things of an award. -/
def awTo (xss : List (Bool × List Int)) (aw : List Int) : Nat → Int
  | 0 => 0
  | k + 1 => if 0 ≤ aw.getD k 0 then IntKind.i64.wrap (awTo xss aw k + ent xss k (aw.getD k 0)) else awTo xss aw k

noncomputable def mAwW : List AV → Option AV := mk (fun p => p.2.2.2.length ≤ p.2.1.length ∧ ∀ i, i < p.2.2.2.length → p.2.2.2.getD i 0 < ((p.2.1.getD i (true, [])).2.length : Int)) (fun (p : (Bool) × (List (Bool × List Int)) × (Bool) × (List Int)) => [intss p.1 p.2.1, ints p.2.2.1 p.2.2.2]) (fun p => int (awTo p.2.1 p.2.2.2 p.2.2.2.length))
theorem mAwW_at (nl : Bool) (xss : List (Bool × List Int)) (nl' : Bool) (aw : List Int) (hpre : aw.length ≤ xss.length ∧ ∀ i, i < aw.length → aw.getD i 0 < ((xss.getD i (true, [])).2.length : Int)) : mAwW [.sl nl 1 (xss.map row), .sl nl' 1 (aw.map int)] = some (.v (.int .i64 (awTo xss aw aw.length))) :=
  mk_eq (enc := fun (p : (Bool) × (List (Bool × List Int)) × (Bool) × (List Int)) => [intss p.1 p.2.1, ints p.2.2.1 p.2.2.2]) (x := (nl, xss, nl', aw)) (by rintro ⟨a0, a1, a2, a3⟩ ⟨b0, b1, b2, b3⟩ h; simp [ints, intss, int, bool, row, frac, fracs, map_int_inj, map_row_inj, frac_inj, map_frac_inj] at h; simp [h]) hpre

theorem awW_pre {xss : List (Bool × List Int)} {aw : List Int} (h : awardB xss aw = true) : aw.length ≤ xss.length ∧ ∀ i, i < aw.length → aw.getD i 0 < ((xss.getD i (true, [])).2.length : Int) := by
  simp only [awardB, Bool.and_eq_true, decide_eq_true_eq] at h
  obtain ⟨⟨⟨h1, h2⟩, h3⟩, _⟩ := h
  refine ⟨by omega, fun i hi => ?_⟩
  have := (allIn_at h3 hi).2
  have hr := (rect_row h1 (i := i) (by omega)).1
  rw [getD_at hi, List.getD_eq_getElem?_getD, List.getElem?_eq_getElem (by omega)]
  simp only [Option.getD_some]; omega

set_option maxHeartbeats 1000000 in
theorem awardWorth_ok : FnOk Try.prog 43 mAwW := by
  refine mk_ok fun ⟨nl, xss, nl', aw⟩ ⟨hp1, hp2⟩ => ?_
  simp only at hp1 hp2
  have hG : FnsOk Try.prog [] := .nil
  refine callOk_awp (ctx_ok eqOk hG) mixed (live := [true, true, false, false, true, true, true, true, true, true, true, true, false, false, false, false, true]) (dt := []) Try.func43 rfl (by kernel_rfl) (by kernel_rfl) fun w0 hlens => ?_
  have hl : aw.length ≤ 9223372036854775807 := (lens_ints.1 hlens.2.1).1
  clear hlens
  simp (config := {contextual := true}) [Try.f43, List.range, List.range.loop, ints, intss, int, bool, row, frac, fracs, ← List.map_take, ← List.map_drop]
  refine awp_range (live := [true, true, false, false, true, true, true, true, true, true, true, true, false, false, false, false, true]) (ctx_ok eqOk hG) mixed [true, false, false, false, false, true, false, false, true, true, true] (aw.length) (fun k => True) (fun k => ⟨[intss nl xss, .junk, .junk, .junk, .junk, int (awTo xss aw k), .junk, .junk, ints nl' aw, int aw.length, int k, .junk, .junk, .junk, .junk, .junk, .junk, .junk, .junk, .junk, .junk, .junk, .junk, .junk, .junk, .junk, .junk, .junk], []⟩) ?_ (by simp [sub, slotsLe, clean, keep, refsL, refs, once, place, renL, ren, List.replicate, int, bool, intss, ints, awTo]) ?_ ?_ ?_
  · exact hl
  · trivial
  · intro k h _ hw
    have hk : k < xss.length := by omega
    have hr := hp2 k h
    rw [getD_at h, List.getD_eq_getElem?_getD, List.getElem?_eq_getElem hk] at hr
    simp only [Option.getD_some] at hr
    have hg : 0 ≤ aw[k] → xss[k].2[aw[k].toNat]? = some (ent xss k aw[k]) := fun h0 => ent_get hk (by omega)
    have e : awTo xss aw (k + 1) = if 0 ≤ aw[k] then IntKind.i64.wrap (awTo xss aw k + ent xss k aw[k]) else awTo xss aw k := by rw [awTo, getD_at h]
    simp (config := {contextual := true}) [List.range, List.range.loop, ints, intss, int, bool, row, frac, fracs, ← List.map_take, ← List.map_drop, h, hw, Nat.le_of_lt h, hk, hg, e]
    omega
  · intro _
    simp (config := {contextual := true}) [List.range, List.range.loop, ints, intss, int, bool, row, frac, fracs, ← List.map_take, ← List.map_drop]

noncomputable def mAwWorth : List AV → Option AV := mk (fun _ => True) (fun (p : (Bool) × (List (Bool × List Int)) × (Bool) × (List Int)) => [intss p.1 p.2.1, ints p.2.2.1 p.2.2.2]) (fun p => int (if awardB p.2.1 p.2.2.2 = true then awTo p.2.1 p.2.2.2 p.2.2.2.length else -1))
theorem mAwWorth_at (nl : Bool) (xss : List (Bool × List Int)) (nl' : Bool) (aw : List Int) : mAwWorth [.sl nl 1 (xss.map row), .sl nl' 1 (aw.map int)] = some (.v (.int .i64 (if awardB xss aw = true then awTo xss aw aw.length else -1))) :=
  mk_eq (enc := fun (p : (Bool) × (List (Bool × List Int)) × (Bool) × (List Int)) => [intss p.1 p.2.1, ints p.2.2.1 p.2.2.2]) (x := (nl, xss, nl', aw)) (by rintro ⟨a0, a1, a2, a3⟩ ⟨b0, b1, b2, b3⟩ h; simp [ints, intss, int, bool, row, frac, fracs, map_int_inj, map_row_inj, frac_inj, map_frac_inj] at h; simp [h]) trivial

theorem implAwardWorth_ok : FnOk Try.prog 13 mAwWorth := by
  refine mk_ok fun ⟨nl, xss, nl', aw⟩ _ => ?_
  have hG : FnsOk Try.prog [(12, mAwardOk), (43, mAwW)] := (.cons implAwardOk_ok (.cons awardWorth_ok .nil))
  refine callOk_awp (ctx_ok eqOk hG) mixed (live := [true, true, false, false, true, false, false, false, true]) (dt := []) Try.func13 rfl (by kernel_rfl) (by kernel_rfl) fun w0 hlens => ?_
  cases h : awardB xss aw with
  | false => simp (config := {contextual := true}) [Try.f13, List.range, List.range.loop, ints, intss, int, bool, row, frac, fracs, ← List.map_take, ← List.map_drop, mAwardOk_at, mAwW_at, h]
  | true =>
    have hp := awW_pre h
    have hz := mAwW_at nl xss nl' aw hp
    simp [Try.f13, List.range, List.range.loop, ints, intss, int, bool, row, frac, fracs, ← List.map_take, ← List.map_drop, mAwardOk_at, hz, h]

end Go.Proofs.Ytakladjlnkojjaa.Ax
