/-
  Contracts: divisions of a strip, what goods are worth to a person, the envy of pieces (both programs). No condition.
-/
import Derived.Test.YtakladjlnkojjaaCG4
namespace Go.Proofs.Ytakladjlnkojjaa.Ax
open Go Go.RowKit
set_option linter.unusedSimpArgs false

/-- What the first m goods are worth to person i, of those that k gets. -/
def woTo (xss : List (Bool × List Int)) (l : List Int) (i : Nat) (k : Int) : Nat → Int
  | 0 => 0
  | m + 1 => if l.getD m 0 = k then IntKind.i64.wrap (woTo xss l i k m + ent xss i m) else woTo xss l i k m
def wo (xss : List (Bool × List Int)) (l : List Int) (i : Nat) (k : Int) : Int := woTo xss l i k l.length

noncomputable def mWorth : List AV → Option AV := mk (fun p => 0 ≤ p.2.2.2.2.1 ∧ p.2.2.2.2.1.toNat < p.2.1.length ∧ p.2.2.2.1.length ≤ (p.2.1.getD p.2.2.2.2.1.toNat (true, [])).2.length) (fun (p : (Bool) × (List (Bool × List Int)) × (Bool) × (List Int) × (Int) × (Int)) => [intss p.1 p.2.1, ints p.2.2.1 p.2.2.2.1, int p.2.2.2.2.1, int p.2.2.2.2.2]) (fun p => int (wo p.2.1 p.2.2.2.1 p.2.2.2.2.1.toNat p.2.2.2.2.2))
theorem mWorth_at (nl : Bool) (xss : List (Bool × List Int)) (nl' : Bool) (l : List Int) (i : Int) (k : Int) (hpre : 0 ≤ i ∧ i.toNat < xss.length ∧ l.length ≤ (xss.getD i.toNat (true, [])).2.length) : mWorth [.sl nl 1 (xss.map row), .sl nl' 1 (l.map int), .v (.int .i64 i), .v (.int .i64 k)] = some (.v (.int .i64 (wo xss l i.toNat k))) :=
  mk_eq (enc := fun (p : (Bool) × (List (Bool × List Int)) × (Bool) × (List Int) × (Int) × (Int)) => [intss p.1 p.2.1, ints p.2.2.1 p.2.2.2.1, int p.2.2.2.2.1, int p.2.2.2.2.2]) (x := (nl, xss, nl', l, i, k)) (by rintro ⟨a0, a1, a2, a3, a4, a5⟩ ⟨b0, b1, b2, b3, b4, b5⟩ h; simp [ints, intss, int, bool, row, frac, fracs, map_int_inj, map_row_inj, frac_inj, map_frac_inj] at h; simp [h]) hpre

set_option maxHeartbeats 1000000 in
theorem worth_ok : FnOk Try.prog 80 mWorth := by
  refine mk_ok fun ⟨nl, xss, nl', l, i, k⟩ ⟨hp1, hp2, hp3⟩ => ?_
  simp only at hp1 hp2 hp3
  have hG : FnsOk Try.prog [] := .nil
  refine callOk_awp (ctx_ok eqOk hG) mixed (live := [true, true, true, true, false, false, false, false, true, true, true, true, true, true, true, true, false, false, false, false, false, true]) (dt := []) Try.func80 rfl (by kernel_rfl) (by kernel_rfl) fun w0 hlens => ?_
  have hl : l.length ≤ 9223372036854775807 := (lens_ints.1 hlens.2.1).1
  clear hlens
  rw [List.getD_eq_getElem?_getD, List.getElem?_eq_getElem hp2] at hp3
  simp only [Option.getD_some] at hp3
  simp (config := {contextual := true}) [Try.f80, List.range, List.range.loop, ints, intss, int, bool, row, frac, fracs, ← List.map_take, ← List.map_drop, wo]
  refine awp_range (live := [true, true, true, true, false, false, false, false, true, true, true, true, true, true, true, true, false, false, false, false, false, true]) (ctx_ok eqOk hG) mixed [true, false, true, true, false, false, false, false, false, true, false, false, true, true, true] (l.length) (fun m => True) (fun m => ⟨[intss nl xss, .junk, int i, int k, .junk, .junk, .junk, .junk, .junk, int (woTo xss l i.toNat k m), .junk, .junk, ints nl' l, int l.length, int m, .junk, .junk, .junk, .junk, .junk, .junk, .junk, .junk, .junk, .junk, .junk, .junk, .junk, .junk, .junk, .junk, .junk, .junk], []⟩) ?_ (by simp [sub, slotsLe, clean, keep, refsL, refs, once, place, renL, ren, List.replicate, int, bool, intss, ints, woTo]) ?_ ?_ ?_
  · exact hl
  · trivial
  · intro m h _ hw
    have hg : xss[i.toNat].2[m]? = some (ent xss i.toNat m) := by have := ent_get hp2 (k := (m : Int)) (by simp; omega); simpa using this
    have e : woTo xss l i.toNat k (m + 1) = if l[m] = k then IntKind.i64.wrap (woTo xss l i.toNat k m + ent xss i.toNat m) else woTo xss l i.toNat k m := by rw [woTo, getD_at h]
    simp (config := {contextual := true}) [List.range, List.range.loop, ints, intss, int, bool, row, frac, fracs, ← List.map_take, ← List.map_drop, h, hw, Nat.le_of_lt h, hp1, hp2, hg, e]
    try grind
  · intro _
    simp (config := {contextual := true}) [List.range, List.range.loop, ints, intss, int, bool, row, frac, fracs, ← List.map_take, ← List.map_drop]

noncomputable def mEnvy : List AV → Option AV := mk (fun p => 0 ≤ p.2.2.2.2.1 ∧ p.2.2.2.2.1.toNat < p.2.1.length ∧ p.2.2.2.1.length ≤ (p.2.1.getD p.2.2.2.2.1.toNat (true, [])).2.length) (fun (p : (Bool) × (List (Bool × List Int)) × (Bool) × (List Int) × (Int) × (Int)) => [intss p.1 p.2.1, ints p.2.2.1 p.2.2.2.1, int p.2.2.2.2.1, int p.2.2.2.2.2]) (fun p => int (max 0 (IntKind.i64.wrap (wo p.2.1 p.2.2.2.1 p.2.2.2.2.1.toNat p.2.2.2.2.2 - wo p.2.1 p.2.2.2.1 p.2.2.2.2.1.toNat p.2.2.2.2.1))))
theorem mEnvy_at (nl : Bool) (xss : List (Bool × List Int)) (nl' : Bool) (l : List Int) (i : Int) (k : Int) (hpre : 0 ≤ i ∧ i.toNat < xss.length ∧ l.length ≤ (xss.getD i.toNat (true, [])).2.length) : mEnvy [.sl nl 1 (xss.map row), .sl nl' 1 (l.map int), .v (.int .i64 i), .v (.int .i64 k)] = some (.v (.int .i64 (max 0 (IntKind.i64.wrap (wo xss l i.toNat k - wo xss l i.toNat i))))) :=
  mk_eq (enc := fun (p : (Bool) × (List (Bool × List Int)) × (Bool) × (List Int) × (Int) × (Int)) => [intss p.1 p.2.1, ints p.2.2.1 p.2.2.2.1, int p.2.2.2.2.1, int p.2.2.2.2.2]) (x := (nl, xss, nl', l, i, k)) (by rintro ⟨a0, a1, a2, a3, a4, a5⟩ ⟨b0, b1, b2, b3, b4, b5⟩ h; simp [ints, intss, int, bool, row, frac, fracs, map_int_inj, map_row_inj, frac_inj, map_frac_inj] at h; simp [h]) hpre

/-- Place i of a list is the first of its owner's, or stands behind one of the same owner's. -/
def divAt (l : List Int) (i : Nat) : Bool := (decide (i ≠ 0) && decide (l.getD (i - 1) 0 = l.getD i 0)) || !decide (0 ≤ pos (l.take i) (l.getD i 0))
def divB (xss : List (Bool × List Int)) (l : List Int) : Bool := rectB xss 3 10 100 && decide (l.length = wid xss) && allIn 0 (xss.length - 1) l && allR l.length (divAt l)

theorem divAt_zero {l : List Int} : divAt l 0 = true := by simp [divAt, pos, posFrom]

noncomputable def mDiv : List AV → Option AV := mk (fun _ => True) (fun (p : (Bool) × (List (Bool × List Int)) × (Bool) × (List Int)) => [intss p.1 p.2.1, ints p.2.2.1 p.2.2.2]) (fun p => bool (divB p.2.1 p.2.2.2))
theorem mDiv_at (nl : Bool) (xss : List (Bool × List Int)) (nl' : Bool) (l : List Int) : mDiv [.sl nl 1 (xss.map row), .sl nl' 1 (l.map int)] = some (.v (.bool (divB xss l))) :=
  mk_eq (enc := fun (p : (Bool) × (List (Bool × List Int)) × (Bool) × (List Int)) => [intss p.1 p.2.1, ints p.2.2.1 p.2.2.2]) (x := (nl, xss, nl', l)) (by rintro ⟨a0, a1, a2, a3⟩ ⟨b0, b1, b2, b3⟩ h; simp [ints, intss, int, bool, row, frac, fracs, map_int_inj, map_row_inj, frac_inj, map_frac_inj] at h; simp [h]) trivial

set_option maxHeartbeats 1000000 in
theorem implIsDivision_ok : FnOk Try.prog 33 mDiv := by
  refine mk_ok fun ⟨nl, xss, nl', l⟩ _ => ?_
  have hG : FnsOk Try.prog [(72, (mGrid 3 10 100)), (47, mAllIn), (49, mHas)] := (.cons implCakeOk_ok (.cons allWithin_ok (.cons slicesContains_ok .nil)))
  refine callOk_awp (ctx_ok eqOk hG) mixed (live := [true, true, false, false, true, true, false, false, false, false, false, false, false, false, false, false, false, false, false, false, false, false, false, false, false, true, false, false, false, true, false, false, false, false, false, false, false, false, false, false, false, false, false, false, false, false, false, false, false, false, false, true]) (dt := [(6, ⟨[], [], []⟩)]) Try.func33 rfl (by kernel_rfl) (by kernel_rfl) fun w0 hlens => ?_
  have hll : l.length ≤ 9223372036854775807 := (lens_ints.1 hlens.2.1).1
  clear hlens
  cases h1 : rectB xss 3 10 100 with
  | false => simp (config := {contextual := true}) [Try.f33, List.range, List.range.loop, ints, intss, int, bool, row, frac, fracs, ← List.map_take, ← List.map_drop, mGrid_at, mAllIn_in, mHas_at, h1, divB]
  | true =>
    have h0 := rect_pos h1
    have hw := wid_eq h0
    have hl := rect_len h1
    have hs : IntKind.i64.wrap ((xss.length : Int) - 1) = (xss.length : Int) - 1 := wrapI (by omega) (by omega)
    by_cases h2 : l.length = wid xss
    · cases h3 : allIn 0 (xss.length - 1) l with
      | false => simp (config := {contextual := true}) [Try.f33, List.range, List.range.loop, ints, intss, int, bool, row, frac, fracs, ← List.map_take, ← List.map_drop, mGrid_at, mAllIn_in, h0, h1, h2, h3, hs, hw, divB]
      | true =>
        have hm : divB xss l = allR l.length (divAt l) := by simp [divB, h1, h2, h3]
        generalize hr : divB xss l = r at hm
        simp (config := {contextual := true}) [Try.f33, List.range, List.range.loop, ints, intss, int, bool, row, frac, fracs, ← List.map_take, ← List.map_drop, mGrid_at, mAllIn_in, h0, h1, h2, h3, hs, hw]
        refine awp_range (live := [true, true, false, false, true, true, false, false, false, false, false, false, false, false, false, false, false, false, false, false, false, false, false, false, false, true, false, false, false, true, false, false, false, false, false, false, false, false, false, false, false, false, false, false, false, false, false, false, false, false, false, true]) (ctx_ok eqOk hG) mixed [false, true, false, false, false, true] (l.length - 1) (fun k => upto (divAt l) (k + 1)) (fun k => ⟨[.junk, ints nl' l, .junk, .junk, .junk, int (k + 1), .junk, .junk, .junk, .junk, .junk, .junk, .junk, .junk, .junk, .junk, .junk, .junk, .junk, .junk, .junk, .junk, .junk, .junk, .junk, .junk, .junk, .junk, .junk, .junk, .junk, .junk, .junk, .junk, .junk, .junk, .junk, .junk, .junk, .junk, .junk, .junk, .junk, .junk, .junk, .junk, .junk, .junk, .junk, .junk, .junk, .junk], []⟩) ?_ (by simp [sub, slotsLe, clean, keep, refsL, refs, once, place, renL, ren, List.replicate, int, bool, intss, ints]) ?_ ?_ ?_
        · omega
        · exact upto_succ upto_zero divAt_zero
        · intro k h hp hwk
          have hk : k + 1 < l.length := by omega
          have hw2 : IntKind.i64.wrap ((k : Int) + 1 + 1) = (k : Int) + 1 + 1 := wrapI (by omega) (by omega)
          have hc : (k : Int) + 1 < l.length := by omega
          have hw3 : IntKind.i64.wrap (k : Int) = k := wrapI (by omega) (by omega)
          have hf : divAt l (k + 1) = false → r = false := fun hf => by rw [hm]; exact allR_no hk hf
          have ht := upto_succ hp
          have e : divAt l (k + 1) = (decide (l[k]'(by omega) = l[k + 1]) || !decide (0 ≤ pos (l.take (k + 1)) l[k + 1])) := by unfold divAt; rw [getD_at hk, show k + 1 - 1 = k from rfl, getD_at (show k < l.length by omega)]; simp
          rw [e] at hf ht
          simp at hf ht
          simp (config := {contextual := true}) [Try.f33, List.range, List.range.loop, ints, intss, int, bool, row, frac, fracs, ← List.map_take, ← List.map_drop, mHas_at, hk, hc, hw2, hw3, Nat.le_of_lt hk, show k < l.length by omega]
          grind
        · intro hp
          have := allR_yes (show upto (divAt l) l.length by have := hp; rwa [show l.length - 1 + 1 = l.length by omega] at this)
          rw [hm, this]
          have hN : ((l.length - 1 : Nat) : Int) + 1 = l.length := by omega
          simp (config := {contextual := true}) [Try.f33, List.range, List.range.loop, ints, intss, int, bool, row, frac, fracs, ← List.map_take, ← List.map_drop, hN]
    · have h2' : ((l.length : Int) != (wid xss : Int)) = true := by simp; omega
      simp (config := {contextual := true}) [Try.f33, List.range, List.range.loop, ints, intss, int, bool, row, frac, fracs, ← List.map_take, ← List.map_drop, mGrid_at, mAllIn_in, h0, h1, h2, h2', hs, hw, divB]

end Go.Proofs.Ytakladjlnkojjaa.Ax
