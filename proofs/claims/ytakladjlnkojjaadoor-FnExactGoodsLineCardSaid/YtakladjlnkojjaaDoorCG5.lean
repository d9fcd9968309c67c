/-
  Contracts: divisions of a strip, what goods are worth to a person, the envy of pieces (both programs). No condition.
-/
import Derived.Test.YtakladjlnkojjaaDoorCG4
namespace Go.Proofs.YtakladjlnkojjaaDoor.Ax
open Go Go.RowKit
set_option linter.unusedSimpArgs false

/-- What the first m goods are worth to person i, of those that k gets. -/
def woTo (xss : List (Bool × List Int)) (l : List Int) (i : Nat) (k : Int) : Nat → Int
  | 0 => 0
  | m + 1 => if l.getD m 0 = k then IntKind.i64.wrap (woTo xss l i k m + ent xss i m) else woTo xss l i k m
def wo (xss : List (Bool × List Int)) (l : List Int) (i : Nat) (k : Int) : Int := woTo xss l i k l.length

noncomputable def mWorth : List AV → Option AV := mk (fun p => 0 ≤ p.2.2.2.2.1 ∧ p.2.2.2.2.1.toNat < p.2.1.length ∧ p.2.2.2.1.length ≤ (p.2.1.getD p.2.2.2.2.1.toNat (true, [])).2.length) (fun (p : (Bool) × (List (Bool × List Int)) × (Bool) × (List Int) × (Int) × (Int)) => [intss p.1 p.2.1, ints p.2.2.1 p.2.2.2.1, int p.2.2.2.2.1, int p.2.2.2.2.2]) (fun p => int (wo p.2.1 p.2.2.2.1 p.2.2.2.2.1.toNat p.2.2.2.2.2))
theorem mWorth_at (nl : Bool) (xss : List (Bool × List Int)) (nl' : Bool) (l : List Int) (i : Int) (k : Int) (hpre : 0 ≤ i ∧ i.toNat < xss.length ∧ l.length ≤ (xss.getD i.toNat (true, [])).2.length) : mWorth [.sl nl 1 (xss.map row), .sl nl' 1 (l.map int), .v (.int .i64 i), .v (.int .i64 k)] = some (.v (.int .i64 (wo xss l i.toNat k))) :=
  mk_eq (enc := fun (p : (Bool) × (List (Bool × List Int)) × (Bool) × (List Int) × (Int) × (Int)) => [intss p.1 p.2.1, ints p.2.2.1 p.2.2.2.1, int p.2.2.2.2.1, int p.2.2.2.2.2]) (x := (nl, xss, nl', l, i, k)) (by rintro ⟨a0, a1, a2, a3, a4, a5⟩ ⟨b0, b1, b2, b3, b4, b5⟩ h; simp [ints, intss, int, bool, row, frac, fracs, map_int_inj, map_row_inj, frac_inj, map_frac_inj] at h; simp [h]) hpre

set_option maxHeartbeats 1000000 in
theorem worth_ok : FnOk Tryd.prog 65 mWorth := by
  refine mk_ok fun ⟨nl, xss, nl', l, i, k⟩ ⟨hp1, hp2, hp3⟩ => ?_
  simp only at hp1 hp2 hp3
  have hG : FnsOk Tryd.prog [] := .nil
  refine callOk_awp (ctx_ok eqOk hG) mixed (live := [true, true, true, true, false, false, false, false, true, true, true, true, true, true, true, true, false, false, false, false, false, true]) (dt := []) Tryd.func65 rfl (by kernel_rfl) (by kernel_rfl) fun w0 hlens => ?_
  have hl : l.length ≤ 9223372036854775807 := (lens_ints.1 hlens.2.1).1
  clear hlens
  rw [List.getD_eq_getElem?_getD, List.getElem?_eq_getElem hp2] at hp3
  simp only [Option.getD_some] at hp3
  simp (config := {contextual := true}) [Tryd.f65, List.range, List.range.loop, ints, intss, int, bool, row, frac, fracs, ← List.map_take, ← List.map_drop, wo]
  refine awp_range (live := [true, true, true, true, false, false, false, false, true, true, true, true, true, true, true, true, false, false, false, false, false, true]) (ctx_ok eqOk hG) mixed [true, false, true, true, false, false, false, false, false, true, false, false, true, true, true] (l.length) (fun m => True) (fun m => ⟨[intss nl xss, .junk, int i, int k, .junk, .junk, .junk, .junk, .junk, int (woTo xss l i.toNat k m), .junk, .junk, ints nl' l, int l.length, int m, .junk, .junk, .junk, .junk, .junk, .junk, .junk, .junk, .junk, .junk, .junk, .junk, .junk, .junk, .junk, .junk, .junk, .junk], []⟩) ?_ (by simp [sub, slotsLe, clean, keep, refsL, refs, once, place, renL, ren, List.replicate, int, bool, intss, ints, woTo]) ?_ ?_ ?_
  · exact hl
  · trivial
  · intro m h _ hw
    have hg : xss[i.toNat].2[m]? = some (ent xss i.toNat m) := by have := ent_get hp2 (k := (m : Int)) (by simp; omega); simpa using this
    have e : woTo xss l i.toNat k (m + 1) = if l[m] = k then IntKind.i64.wrap (woTo xss l i.toNat k m + ent xss i.toNat m) else woTo xss l i.toNat k m := by rw [woTo, getD_at h]
    simp (config := {contextual := true}) [List.range, List.range.loop, ints, intss, int, bool, row, frac, fracs, ← List.map_take, ← List.map_drop, h, hw, Nat.le_of_lt h, hp1, hp2, hg, e]
    try grind
  · intro _
    simp (config := {contextual := true}) [List.range, List.range.loop, ints, intss, int, bool, row, frac, fracs, ← List.map_take, ← List.map_drop]

set_option maxHeartbeats 1000000 in
theorem l23Worth_ok : FnOk Tryd.prog 89 mWorth := by
  refine mk_ok fun ⟨nl, xss, nl', l, i, k⟩ ⟨hp1, hp2, hp3⟩ => ?_
  simp only at hp1 hp2 hp3
  have hG : FnsOk Tryd.prog [] := .nil
  refine callOk_awp (ctx_ok eqOk hG) mixed (live := [true, true, true, true, false, false, false, false, true, true, true, true, true, true, true, true, false, false, false, false, false, true]) (dt := []) Tryd.func89 rfl (by kernel_rfl) (by kernel_rfl) fun w0 hlens => ?_
  have hl : l.length ≤ 9223372036854775807 := (lens_ints.1 hlens.2.1).1
  clear hlens
  rw [List.getD_eq_getElem?_getD, List.getElem?_eq_getElem hp2] at hp3
  simp only [Option.getD_some] at hp3
  simp (config := {contextual := true}) [Tryd.f89, List.range, List.range.loop, ints, intss, int, bool, row, frac, fracs, ← List.map_take, ← List.map_drop, wo]
  refine awp_range (live := [true, true, true, true, false, false, false, false, true, true, true, true, true, true, true, true, false, false, false, false, false, true]) (ctx_ok eqOk hG) mixed [true, false, true, true, false, false, false, false, false, true, false, false, true, true, true] (l.length) (fun m => True) (fun m => ⟨[intss nl xss, .junk, int i, int k, .junk, .junk, .junk, .junk, .junk, int (woTo xss l i.toNat k m), .junk, .junk, ints nl' l, int l.length, int m, .junk, .junk, .junk, .junk, .junk, .junk, .junk, .junk, .junk, .junk, .junk, .junk, .junk, .junk, .junk, .junk, .junk, .junk], []⟩) ?_ (by simp [sub, slotsLe, clean, keep, refsL, refs, once, place, renL, ren, List.replicate, int, bool, intss, ints, woTo]) ?_ ?_ ?_
  · exact hl
  · trivial
  · intro m h _ hw
    have hg : xss[i.toNat].2[m]? = some (ent xss i.toNat m) := by have := ent_get hp2 (k := (m : Int)) (by simp; omega); simpa using this
    have e : woTo xss l i.toNat k (m + 1) = if l[m] = k then IntKind.i64.wrap (woTo xss l i.toNat k m + ent xss i.toNat m) else woTo xss l i.toNat k m := by rw [woTo, getD_at h]
    simp (config := {contextual := true}) [List.range, List.range.loop, ints, intss, int, bool, row, frac, fracs, ← List.map_take, ← List.map_drop, h, hw, Nat.le_of_lt h, hp1, hp2, hg, e]
    try grind
  · intro _
    simp (config := {contextual := true}) [List.range, List.range.loop, ints, intss, int, bool, row, frac, fracs, ← List.map_take, ← List.map_drop]

noncomputable def mEnvy : List AV → Option AV := mk (fun p => 0 ≤ p.2.2.2.2.1 ∧ p.2.2.2.2.1.toNat < p.2.1.length ∧ p.2.2.2.1.length ≤ (p.2.1.getD p.2.2.2.2.1.toNat (true, [])).2.length) (fun (p : (Bool) × (List (Bool × List Int)) × (Bool) × (List Int) × (Int) × (Int)) => [intss p.1 p.2.1, ints p.2.2.1 p.2.2.2.1, int p.2.2.2.2.1, int p.2.2.2.2.2]) (fun p => int (max 0 (IntKind.i64.wrap (wo p.2.1 p.2.2.2.1 p.2.2.2.2.1.toNat p.2.2.2.2.2 - wo p.2.1 p.2.2.2.1 p.2.2.2.2.1.toNat p.2.2.2.2.1))))
theorem mEnvy_at (nl : Bool) (xss : List (Bool × List Int)) (nl' : Bool) (l : List Int) (i : Int) (k : Int) (hpre : 0 ≤ i ∧ i.toNat < xss.length ∧ l.length ≤ (xss.getD i.toNat (true, [])).2.length) : mEnvy [.sl nl 1 (xss.map row), .sl nl' 1 (l.map int), .v (.int .i64 i), .v (.int .i64 k)] = some (.v (.int .i64 (max 0 (IntKind.i64.wrap (wo xss l i.toNat k - wo xss l i.toNat i))))) :=
  mk_eq (enc := fun (p : (Bool) × (List (Bool × List Int)) × (Bool) × (List Int) × (Int) × (Int)) => [intss p.1 p.2.1, ints p.2.2.1 p.2.2.2.1, int p.2.2.2.2.1, int p.2.2.2.2.2]) (x := (nl, xss, nl', l, i, k)) (by rintro ⟨a0, a1, a2, a3, a4, a5⟩ ⟨b0, b1, b2, b3, b4, b5⟩ h; simp [ints, intss, int, bool, row, frac, fracs, map_int_inj, map_row_inj, frac_inj, map_frac_inj] at h; simp [h]) hpre

theorem l23Envy_ok : FnOk Tryd.prog 90 mEnvy := by
  refine mk_ok fun ⟨nl, xss, nl', l, i, k⟩ hp => ?_
  have hG : FnsOk Tryd.prog [(89, mWorth)] := (.cons l23Worth_ok .nil)
  refine callOk_awp (ctx_ok eqOk hG) mixed (live := [true, true, true, true, false, false, false, false, true]) (dt := []) Tryd.func90 rfl (by kernel_rfl) (by kernel_rfl) fun w0 hlens => ?_
  have h1 := mWorth_at nl xss nl' l i k hp
  have h2 := mWorth_at nl xss nl' l i i hp
  simp [Tryd.f90, List.range, List.range.loop, ints, intss, int, bool, row, frac, fracs, ← List.map_take, ← List.map_drop, h1, h2]

/-- Place i of a list is the first of its owner's, or stands behind one of the same owner's. -/
def divAt (l : List Int) (i : Nat) : Bool := (decide (i ≠ 0) && decide (l.getD (i - 1) 0 = l.getD i 0)) || !decide (0 ≤ pos (l.take i) (l.getD i 0))
def divB (xss : List (Bool × List Int)) (l : List Int) : Bool := rectB xss 3 10 100 && decide (l.length = wid xss) && allIn 0 (xss.length - 1) l && allR l.length (divAt l)

theorem divAt_zero {l : List Int} : divAt l 0 = true := by simp [divAt, pos, posFrom]

noncomputable def mDiv : List AV → Option AV := mk (fun _ => True) (fun (p : (Bool) × (List (Bool × List Int)) × (Bool) × (List Int)) => [intss p.1 p.2.1, ints p.2.2.1 p.2.2.2]) (fun p => bool (divB p.2.1 p.2.2.2))
theorem mDiv_at (nl : Bool) (xss : List (Bool × List Int)) (nl' : Bool) (l : List Int) : mDiv [.sl nl 1 (xss.map row), .sl nl' 1 (l.map int)] = some (.v (.bool (divB xss l))) :=
  mk_eq (enc := fun (p : (Bool) × (List (Bool × List Int)) × (Bool) × (List Int)) => [intss p.1 p.2.1, ints p.2.2.1 p.2.2.2]) (x := (nl, xss, nl', l)) (by rintro ⟨a0, a1, a2, a3⟩ ⟨b0, b1, b2, b3⟩ h; simp [ints, intss, int, bool, row, frac, fracs, map_int_inj, map_row_inj, frac_inj, map_frac_inj] at h; simp [h]) trivial

end Go.Proofs.YtakladjlnkojjaaDoor.Ax
