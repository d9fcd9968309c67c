/-
 Contracts: sums of fractions (both programs). No condition.
-/
import Derived.Test.YtompijgfpeibnaaGreatDoorCB8
import Derived.Test.YtompijgfpeibnaaGreatDoorCG9
namespace Go.Proofs.YtompijgfpeibnaaGreatDoor.Ax
open Go Go.RowKit
set_option linter.unusedSimpArgs false
theorem ent_get {xss : List (Bool × List Int)} {i : Nat} (hi : i < xss.length) {k : Int} (hk : k.toNat < xss[i].2.length) : xss[i].2[k.toNat]? = some (ent xss i k) := by
 unfold ent; simp [List.getD_eq_getElem?_getD, hi, hk]
def awTo (xss : List (Bool × List Int)) (aw : List Int) : Nat → Int
 | 0 => 0
 | k + 1 => if 0 ≤ aw.getD k 0 then IntKind.i64.wrap (awTo xss aw k + ent xss k (aw.getD k 0)) else awTo xss aw k
noncomputable def mAwW : List AV → Option AV := mk (fun p => p.2.2.2.length ≤ p.2.1.length ∧ ∀ i, i < p.2.2.2.length → p.2.2.2.getD i 0 < ((p.2.1.getD i (true, [])).2.length : Int)) (fun (p : (Bool) × (List (Bool × List Int)) × (Bool) × (List Int)) => [intss p.1 p.2.1, ints p.2.2.1 p.2.2.2]) (fun p => int (awTo p.2.1 p.2.2.2 p.2.2.2.length))
theorem mAwW_at (nl : Bool) (xss : List (Bool × List Int)) (nl' : Bool) (aw : List Int) (hpre : aw.length ≤ xss.length ∧ ∀ i, i < aw.length → aw.getD i 0 < ((xss.getD i (true, [])).2.length : Int)) : mAwW [.sl nl 1 (xss.map row), .sl nl' 1 (aw.map int)] = some (.v (.int .i64 (awTo xss aw aw.length))) :=
 mk_eq (enc := fun (p : (Bool) × (List (Bool × List Int)) × (Bool) × (List Int)) => [intss p.1 p.2.1, ints p.2.2.1 p.2.2.2]) (x := (nl, xss, nl', aw)) (by rintro ⟨a0, a1, a2, a3⟩ ⟨b0, b1, b2, b3⟩ h; simp [ints, intss, int, bool, row, frac, fracs, map_int_inj, map_row_inj, frac_inj, map_frac_inj] at h; simp [h]) hpre
theorem awW_pre {xss : List (Bool × List Int)} {aw : List Int} (h : awardB xss aw = true) : aw.length ≤ xss.length ∧ ∀ i, i < aw.length → aw.getD i 0 < ((xss.getD i (true, [])).2.length : Int) := by
 simp only [awardB, Bool.and_eq_true, decide_eq_true_eq] at h
 obtain ⟨⟨⟨h1, h2⟩, h3⟩, _⟩ := h
 refine ⟨by omega, fun i hi => ?_⟩
 have := (allIn_at h3 hi).2
 have hr := (rect_row h1 (i := i) (by omega)).1
 rw [getD_at hi, List.getD_eq_getElem?_getD, List.getElem?_eq_getElem (by omega)]
 simp only [Option.getD_some]; omega
set_option maxHeartbeats 1000000 in
theorem awardWorth_ok : FnOk Tryz.prog 227 mAwW := by
 refine mk_ok fun ⟨nl, xss, nl', aw⟩ ⟨hp1, hp2⟩ => ?_
 simp only at hp1 hp2
 have hG : FnsOk Tryz.prog [] := .nil
 refine callOk_awp (ctx_ok eqOk hG) mixed (live := [true, true, false, false, true, true, true, true, true, true, true, true, false, false, false, false, true]) (dt := []) Tryz.func227 rfl (by kernel_rfl) (by kernel_rfl) fun w0 hlens => ?_
 have hl : aw.length ≤ 9223372036854775807 := (lens_ints.1 hlens.2.1).1
 clear hlens
 simp (config := {contextual := true}) [Tryz.f227, List.range, List.range.loop, ints, intss, int, bool, row, frac, fracs, ← List.map_take, ← List.map_drop]
 refine awp_range (live := [true, true, false, false, true, true, true, true, true, true, true, true, false, false, false, false, true]) (ctx_ok eqOk hG) mixed [true, false, false, false, false, true, false, false, true, true, true] (aw.length) (fun k => True) (fun k => ⟨[intss nl xss, .junk, .junk, .junk, .junk, int (awTo xss aw k), .junk, .junk, ints nl' aw, int aw.length, int k, .junk, .junk, .junk, .junk, .junk, .junk, .junk, .junk, .junk, .junk, .junk, .junk, .junk, .junk, .junk, .junk, .junk], []⟩) ?_ (by simp [sub, slotsLe, clean, keep, refsL, refs, once, place, renL, ren, List.replicate, int, bool, intss, ints, awTo]) ?_ ?_ ?_
 ·exact hl
 ·trivial
 ·intro k h _ hw
  have hk : k < xss.length := by omega
  have hr := hp2 k h
  rw [getD_at h, List.getD_eq_getElem?_getD, List.getElem?_eq_getElem hk] at hr
  simp only [Option.getD_some] at hr
  have hg : 0 ≤ aw[k] → xss[k].2[aw[k].toNat]? = some (ent xss k aw[k]) := fun h0 => ent_get hk (by omega)
  have e : awTo xss aw (k + 1) = if 0 ≤ aw[k] then IntKind.i64.wrap (awTo xss aw k + ent xss k aw[k]) else awTo xss aw k := by rw [awTo, getD_at h]
  simp (config := {contextual := true}) [List.range, List.range.loop, ints, intss, int, bool, row, frac, fracs, ← List.map_take, ← List.map_drop, h, hw, Nat.le_of_lt h, hk, hg, e]
  omega
 ·intro _
  simp (config := {contextual := true}) [List.range, List.range.loop, ints, intss, int, bool, row, frac, fracs, ← List.map_take, ← List.map_drop]
open Go Go.RowKit
set_option linter.unusedSimpArgs false
def woTo (xss : List (Bool × List Int)) (l : List Int) (i : Nat) (k : Int) : Nat → Int
 | 0 => 0
 | m + 1 => if l.getD m 0 = k then IntKind.i64.wrap (woTo xss l i k m + ent xss i m) else woTo xss l i k m
def wo (xss : List (Bool × List Int)) (l : List Int) (i : Nat) (k : Int) : Int := woTo xss l i k l.length
noncomputable def mWorth : List AV → Option AV := mk (fun p => 0 ≤ p.2.2.2.2.1 ∧ p.2.2.2.2.1.toNat < p.2.1.length ∧ p.2.2.2.1.length ≤ (p.2.1.getD p.2.2.2.2.1.toNat (true, [])).2.length) (fun (p : (Bool) × (List (Bool × List Int)) × (Bool) × (List Int) × (Int) × (Int)) => [intss p.1 p.2.1, ints p.2.2.1 p.2.2.2.1, int p.2.2.2.2.1, int p.2.2.2.2.2]) (fun p => int (wo p.2.1 p.2.2.2.1 p.2.2.2.2.1.toNat p.2.2.2.2.2))
theorem mWorth_at (nl : Bool) (xss : List (Bool × List Int)) (nl' : Bool) (l : List Int) (i : Int) (k : Int) (hpre : 0 ≤ i ∧ i.toNat < xss.length ∧ l.length ≤ (xss.getD i.toNat (true, [])).2.length) : mWorth [.sl nl 1 (xss.map row), .sl nl' 1 (l.map int), .v (.int .i64 i), .v (.int .i64 k)] = some (.v (.int .i64 (wo xss l i.toNat k))) :=
 mk_eq (enc := fun (p : (Bool) × (List (Bool × List Int)) × (Bool) × (List Int) × (Int) × (Int)) => [intss p.1 p.2.1, ints p.2.2.1 p.2.2.2.1, int p.2.2.2.2.1, int p.2.2.2.2.2]) (x := (nl, xss, nl', l, i, k)) (by rintro ⟨a0, a1, a2, a3, a4, a5⟩ ⟨b0, b1, b2, b3, b4, b5⟩ h; simp [ints, intss, int, bool, row, frac, fracs, map_int_inj, map_row_inj, frac_inj, map_frac_inj] at h; simp [h]) hpre
set_option maxHeartbeats 1000000 in
theorem worth_ok : FnOk Tryz.prog 222 mWorth := by
 refine mk_ok fun ⟨nl, xss, nl', l, i, k⟩ ⟨hp1, hp2, hp3⟩ => ?_
 simp only at hp1 hp2 hp3
 have hG : FnsOk Tryz.prog [] := .nil
 refine callOk_awp (ctx_ok eqOk hG) mixed (live := [true, true, true, true, false, false, false, false, true, true, true, true, true, true, true, true, false, false, false, false, false, true]) (dt := []) Tryz.func222 rfl (by kernel_rfl) (by kernel_rfl) fun w0 hlens => ?_
 have hl : l.length ≤ 9223372036854775807 := (lens_ints.1 hlens.2.1).1
 clear hlens
 rw [List.getD_eq_getElem?_getD, List.getElem?_eq_getElem hp2] at hp3
 simp only [Option.getD_some] at hp3
 simp (config := {contextual := true}) [Tryz.f222, List.range, List.range.loop, ints, intss, int, bool, row, frac, fracs, ← List.map_take, ← List.map_drop, wo]
 refine awp_range (live := [true, true, true, true, false, false, false, false, true, true, true, true, true, true, true, true, false, false, false, false, false, true]) (ctx_ok eqOk hG) mixed [true, false, true, true, false, false, false, false, false, true, false, false, true, true, true] (l.length) (fun m => True) (fun m => ⟨[intss nl xss, .junk, int i, int k, .junk, .junk, .junk, .junk, .junk, int (woTo xss l i.toNat k m), .junk, .junk, ints nl' l, int l.length, int m, .junk, .junk, .junk, .junk, .junk, .junk, .junk, .junk, .junk, .junk, .junk, .junk, .junk, .junk, .junk, .junk, .junk, .junk], []⟩) ?_ (by simp [sub, slotsLe, clean, keep, refsL, refs, once, place, renL, ren, List.replicate, int, bool, intss, ints, woTo]) ?_ ?_ ?_
 ·exact hl
 ·trivial
 ·intro m h _ hw
  have hg : xss[i.toNat].2[m]? = some (ent xss i.toNat m) := by have := ent_get hp2 (k := (m : Int)) (by simp; omega); simpa using this
  have e : woTo xss l i.toNat k (m + 1) = if l[m] = k then IntKind.i64.wrap (woTo xss l i.toNat k m + ent xss i.toNat m) else woTo xss l i.toNat k m := by rw [woTo, getD_at h]
  simp (config := {contextual := true}) [List.range, List.range.loop, ints, intss, int, bool, row, frac, fracs, ← List.map_take, ← List.map_drop, h, hw, Nat.le_of_lt h, hp1, hp2, hg, e]
  try grind
 ·intro _
  simp (config := {contextual := true}) [List.range, List.range.loop, ints, intss, int, bool, row, frac, fracs, ← List.map_take, ← List.map_drop]
end Go.Proofs.YtompijgfpeibnaaGreatDoor.Ax
