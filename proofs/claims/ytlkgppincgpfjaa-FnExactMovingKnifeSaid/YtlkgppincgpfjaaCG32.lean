/-
  Contracts: RankingOk (both programs). No condition.
-/
import Derived.Test.YtlkgppincgpfjaaCG6
namespace Go.Proofs.Ytlkgppincgpfjaa.Ax
open Go Go.RowKit
set_option linter.unusedSimpArgs false

/-- Number k of the list is a candidate of m who was not met before. -/
def rankAt (m : Int) (l : List Int) (k : Nat) : Bool := inR 0 (m - 1) (l.getD k 0) && !decide (0 ≤ pos (l.take k) (l.getD k 0))
def rankB (m : Int) (l : List Int) : Bool := inR 1 5 m && decide (l.length = m) && allR l.length (rankAt m l)

noncomputable def mRank : List AV → Option AV := mk (fun _ => True) (fun (p : (Int) × (Bool) × (List Int)) => [int p.1, ints p.2.1 p.2.2]) (fun p => bool (rankB p.1 p.2.2))
theorem mRank_at (m : Int) (nl : Bool) (l : List Int) : mRank [.v (.int .i64 m), .sl nl 1 (l.map int)] = some (.v (.bool (rankB m l))) :=
  mk_eq (enc := fun (p : (Int) × (Bool) × (List Int)) => [int p.1, ints p.2.1 p.2.2]) (x := (m, nl, l)) (by rintro ⟨a0, a1, a2⟩ ⟨b0, b1, b2⟩ h; simp [ints, intss, int, bool, row, frac, fracs, map_int_inj, map_row_inj, frac_inj, map_frac_inj] at h; simp [h]) trivial

theorem rankAt_at {m : Int} {l : List Int} {k : Nat} (h : k < l.length) : rankAt m l k = (inR 0 (m - 1) l[k] && !decide (0 ≤ pos (l.take k) l[k])) := by unfold rankAt; rw [getD_at h]

set_option maxHeartbeats 2000000 in
theorem implRankingOk_ok : FnOk Try.prog 55 mRank := by
  refine mk_ok fun ⟨m, nl, l⟩ _ => ?_
  have hG : FnsOk Try.prog [(50, mWithin), (72, mHas)] := (.cons within_ok (.cons slicesContains_ok .nil))
  refine callOk_awp (ctx_ok eqOk hG) mixed (live := [true, true, false, false, true, true, true, false, false, false, false, false, false, false, false, true, true, true, true, true, false, false, false, false, false, false, false, false, false, false, false, false, false, false, true]) (dt := []) Try.func55 rfl (by kernel_rfl) (by kernel_rfl) fun w0 hlens => ?_
  clear hlens
  cases h1 : inR 1 5 m with
  | false => simp (config := {contextual := true}) [Try.f55, List.range, List.range.loop, ints, intss, int, bool, row, frac, fracs, ← List.map_take, ← List.map_drop, mWithin_in, h1, rankB]
  | true =>
  have hm := h1
  simp only [inR, Bool.and_eq_true, decide_eq_true_eq] at hm
  by_cases h2 : (l.length : Int) = m
  rotate_left
  · have h2' : ((l.length : Int) != m) = true := by simpa using h2
    simp (config := {contextual := true}) [Try.f55, List.range, List.range.loop, ints, intss, int, bool, row, frac, fracs, ← List.map_take, ← List.map_drop, mWithin_in, h1, h2, h2', rankB]
  subst h2
  have hw0 : IntKind.i64.wrap ((l.length : Int) - 1) = (l.length : Int) - 1 := wrapI (by omega) (by omega)
  have hr : rankB l.length l = allR l.length (rankAt l.length l) := by simp [rankB, h1]
  generalize hres : rankB l.length l = r at hr
  simp (config := {contextual := true}) [Try.f55, List.range, List.range.loop, ints, intss, int, bool, row, frac, fracs, ← List.map_take, ← List.map_drop, mWithin_in, h1]
  refine awp_range (live := [true, true, false, false, true, true, true, false, false, false, false, false, false, false, false, true, true, true, true, true, false, false, false, false, false, false, false, false, false, false, false, false, false, false, true]) (ctx_ok eqOk hG) mixed [true, true, false, false, false, false, false, false, false, false, false, false, false, false, false, false, true, true, true] (l.length) (fun k => upto (rankAt l.length l) k) (fun k => ⟨[int l.length, ints nl l, .junk, .junk, .junk, .junk, .junk, .junk, .junk, .junk, .junk, .junk, .junk, .junk, .junk, .junk, ints nl l, int l.length, int k, .junk, .junk, .junk, .junk, .junk, .junk, .junk, .junk, .junk, .junk, .junk, .junk, .junk, .junk, .junk, .junk, .junk], []⟩) ?_ (by simp [sub, slotsLe, clean, keep, refsL, refs, once, place, renL, ren, List.replicate, int, bool, ints]) ?_ ?_ ?_
  · omega
  · exact upto_zero
  · intro k h hp hwk
    have hf : rankAt l.length l k = false → r = false := fun hf => by rw [hr]; exact allR_no h hf
    have ht := upto_succ hp
    clear hp
    have e := rankAt_at (m := l.length) h
    generalize rankAt l.length l = f at *
    generalize hi : inR 0 ((l.length : Int) - 1) l[k] = ii at e
    rw [e] at hf ht
    simp at hf ht
    simp (config := {contextual := true}) [List.range, List.range.loop, ints, intss, int, bool, row, frac, fracs, ← List.map_take, ← List.map_drop, h, hwk, hw0, mWithin_in, mHas_at, hi, Nat.le_of_lt h]
    grind
  · intro hp
    rw [allR_yes hp] at hr
    subst hr
    simp (config := {contextual := true}) [List.range, List.range.loop, ints, intss, int, bool, row, frac, fracs, ← List.map_take, ← List.map_drop]

set_option maxHeartbeats 2000000 in
theorem specRankingOk_ok : FnOk Try.prog 44 mRank := by
  refine mk_ok fun ⟨m, nl, l⟩ _ => ?_
  have hG : FnsOk Try.prog [(41, mWithin)] := (.cons l01In_ok .nil)
  refine callOk_awp (ctx_ok eqOk hG) mixed (live := [true, true, false, false, true, true, false, true, false, false, false, false, false, false, false, false, true, false, false, true, true, true, true, false, false, false, false, false, false, false, false, false, false, false, false, true]) (dt := []) Try.func44 rfl (by kernel_rfl) (by kernel_rfl) fun w0 hlens => ?_
  clear hlens
  cases h1 : inR 1 5 m with
  | false => simp (config := {contextual := true}) [Try.f44, List.range, List.range.loop, ints, intss, int, bool, row, frac, fracs, ← List.map_take, ← List.map_drop, mWithin_in, h1, rankB]
  | true =>
  have hm := h1
  simp only [inR, Bool.and_eq_true, decide_eq_true_eq] at hm
  by_cases h2 : (l.length : Int) = m
  rotate_left
  · have h2' : ((l.length : Int) != m) = true := by simpa using h2
    simp (config := {contextual := true}) [Try.f44, List.range, List.range.loop, ints, intss, int, bool, row, frac, fracs, ← List.map_take, ← List.map_drop, mWithin_in, h1, h2, h2', rankB]
  subst h2
  have hw0 : IntKind.i64.wrap ((l.length : Int) - 1) = (l.length : Int) - 1 := wrapI (by omega) (by omega)
  have hr : rankB l.length l = allR l.length (rankAt l.length l) := by simp [rankB, h1]
  generalize hres : rankB l.length l = r at hr
  have hb1 : l.length ≤ 281474976710656 := by omega
  have hb2 : l.length ≤ 4611686018427387904 := by omega
  simp (config := {contextual := true}) [Try.f44, List.range, List.range.loop, ints, intss, int, bool, row, frac, fracs, ← List.map_take, ← List.map_drop, mWithin_in, h1, hb1, hb2]
  refine awp_range (live := [true, true, false, false, true, true, false, true, false, false, false, false, false, false, false, false, true, false, false, true, true, true, true, false, false, false, false, false, false, false, false, false, false, false, false, true]) (ctx_ok eqOk hG) mixed [true, false, false, false, false, true, false, false, false, false, false, false, false, false, false, false, false, false, false, true, true, true] (l.length) (fun k => upto (rankAt l.length l) k) (fun k => ⟨[int l.length, .junk, .junk, .junk, .junk, .ref 0 [] 0 l.length, .junk, .junk, .junk, .junk, .junk, .junk, .junk, .junk, .junk, .junk, .junk, .junk, .junk, ints nl l, int l.length, int k, .junk, .junk, .junk, .junk, .junk, .junk, .junk, .junk, .junk, .junk, .junk, .junk, .junk, .junk, .junk, .junk, .junk, .junk], [⟨true, .sl false 1 ((seenL l.length l k).map bool)⟩]⟩) ?_ (by simp [sub, slotsLe, clean, keep, refsL, refs, once, place, renL, ren, List.replicate, int, bool, ints, seenL_zero]) ?_ ?_ ?_
  · omega
  · exact upto_zero
  · intro k h hp hwk
    have hf : rankAt l.length l k = false → r = false := fun hf => by rw [hr]; exact allR_no h hf
    have ht := upto_succ hp
    clear hp
    have e := rankAt_at (m := l.length) h
    have i0 : inR 0 ((l.length : Int) - 1) l[k] = true → 0 ≤ l[k] := fun hi => by simp [inR] at hi; omega
    have i1 : inR 0 ((l.length : Int) - 1) l[k] = true → l[k].toNat < l.length := fun hi => by simp [inR] at hi; omega
    have i4 : inR 0 ((l.length : Int) - 1) l[k] = true → ((l[k].toNat : Nat) : Int) = l[k] := fun hi => by have := i0 hi; omega
    have i3 : inR 0 ((l.length : Int) - 1) l[k] = true → ((seenL l.length l k).map bool).set l[k].toNat (.v (.bool true)) = (seenL l.length l (k + 1)).map bool := fun hi => seenL_set h (i0 hi) (i1 hi)
    generalize rankAt l.length l = f at *
    rw [e] at hf ht
    simp at hf ht
    simp (config := {contextual := true}) [List.range, List.range.loop, ints, intss, int, bool, row, frac, fracs, ← List.map_take, ← List.map_drop, h, hwk, hw0, mWithin_in, i0, i1, i3, i4, seenL_at, seenL_len]
    grind
  · intro hp
    rw [allR_yes hp] at hr
    subst hr
    simp (config := {contextual := true}) [List.range, List.range.loop, ints, intss, int, bool, row, frac, fracs, ← List.map_take, ← List.map_drop]

end Go.Proofs.Ytlkgppincgpfjaa.Ax
