/-
  Contracts of the laws' functions on profiles: size, copy, equality. No condition.
-/
import Derived.Test.YtigepnpiofcooaaGreatDoorCB1
import Derived.Test.YtigepnpiofcooaaGreatDoorCK4
import Derived.Test.YtigepnpiofcooaaGreatDoorCG1
import Derived.Test.YtigepnpiofcooaaGreatDoorCB2
namespace Go.Proofs.YtigepnpiofcooaaGreatDoor.Ax
open Go Go.RowKit
set_option linter.unusedSimpArgs false
abbrev Vt := (Bool × List Int) × Int
def vote (v : Vt) : AV := .agg [.sl v.1.1 1 (v.1.2.map int), .v (.int .i64 v.2)]
def vts (nl : Bool) (vs : List Vt) : AV := .sl nl 2 (vs.map vote)
def prof (s : Int) (nl : Bool) (vs : List Vt) : AV := .agg [.v (.int .i64 s), .sl nl 2 (vs.map vote)]
theorem vote_inj {a b : Vt} (h : vote a = vote b) : a = b := by
  obtain ⟨⟨a1, a2⟩, a3⟩ := a
  obtain ⟨⟨b1, b2⟩, b3⟩ := b
  simp [vote, map_int_inj] at h
  simp [h]
theorem map_vote_inj {a b : List Vt} : a.map vote = b.map vote ↔ a = b := List.map_inj_right fun _ _ h => vote_inj h
def smallVs (vs : List Vt) : Prop := vs.length ≤ 2 ^ 40 ∧ ∀ x ∈ vs, x.1.2.length ≤ 2 ^ 40
noncomputable def mEqV : List AV → Option AV := mk (fun p => p.1.1.2.length ≤ 2 ^ 40 ∧ p.2.1.2.length ≤ 2 ^ 40) (fun (p : Vt × Vt) => [vote p.1, vote p.2]) (fun p => bool (decide (p.1.1.2 = p.2.1.2 ∧ p.1.2 = p.2.2)))
theorem mEqV_at (nl nl' : Bool) (xs ys : List Int) (c d : Int) (h : xs.length ≤ 2 ^ 40) (h' : ys.length ≤ 2 ^ 40) : mEqV [.agg [.sl nl 1 (xs.map int), .v (.int .i64 c)], .agg [.sl nl' 1 (ys.map int), .v (.int .i64 d)]] = some (.v (.bool (decide (xs = ys ∧ c = d)))) :=
  mk_eq (enc := fun (p : Vt × Vt) => [vote p.1, vote p.2]) (x := (((nl, xs), c), ((nl', ys), d))) (by rintro ⟨x, x'⟩ ⟨y, y'⟩ h; simp only [List.cons.injEq, and_true] at h; rw [vote_inj h.1, vote_inj h.2]) ⟨h, h'⟩
set_option maxHeartbeats 1000000 in
theorem eqVote_ok : FnOk Tryz.prog 25 mEqV := by
  refine mk_ok fun ⟨⟨⟨nl, xs⟩, c⟩, ⟨⟨nl', ys⟩, d⟩⟩ ⟨h1, h2⟩ => ?_
  simp only at h1 h2
  have hz := mEqIs_at nl nl' xs ys h1 h2
  have hG : FnsOk Tryz.prog [(43, mEqIs)] := (.cons eqIntS_ok .nil)
  refine callOk_awp (ctx_ok eqOk hG) mixed (live := [true, true, true, true, true, false, false, false, false, false, true, false, false, false, false, true]) (dt := []) Tryz.func25 rfl (by kernel_rfl) (by kernel_rfl) fun w0 hlens => ?_
  clear hlens
  by_cases e1 : xs = ys <;> by_cases e2 : c = d
  · have e3 : decide (xs = ys ∧ c = d) = true := decide_eq_true ⟨e1, e2⟩
    simp only [e3]
    simp only [e1, decide_true] at hz
    simp [Tryz.f25, List.range, List.range.loop, ints, intss, int, bool, row, frac, fracs, ← List.map_take, ← List.map_drop, vote, hz, e1, e2]
  · have e3 : decide (xs = ys ∧ c = d) = false := decide_eq_false fun h => e2 h.2
    simp only [e3]
    simp only [e1, decide_true] at hz
    simp [Tryz.f25, List.range, List.range.loop, ints, intss, int, bool, row, frac, fracs, ← List.map_take, ← List.map_drop, vote, hz, e1, e2]
  · have e3 : decide (xs = ys ∧ c = d) = false := decide_eq_false fun h => e1 h.1
    simp only [e3]
    simp only [e1, decide_false] at hz
    simp [Tryz.f25, List.range, List.range.loop, ints, intss, int, bool, row, frac, fracs, ← List.map_take, ← List.map_drop, vote, hz, e2]
  · have e3 : decide (xs = ys ∧ c = d) = false := decide_eq_false fun h => e1 h.1
    simp only [e3]
    simp only [e1, decide_false] at hz
    simp [Tryz.f25, List.range, List.range.loop, ints, intss, int, bool, row, frac, fracs, ← List.map_take, ← List.map_drop, vote, hz, e2]
def vV (t : Vt) : List Int × Int := (t.1.2, t.2)
noncomputable def mEqVs : List AV → Option AV := mk (fun p => smallVs p.1.2 ∧ smallVs p.2.2) (fun (p : (Bool × List Vt) × (Bool × List Vt)) => [vts p.1.1 p.1.2, vts p.2.1 p.2.2]) (fun p => bool (decide (p.1.2.map vV = p.2.2.map vV)))
theorem mEqVs_at (nl nl' : Bool) (xs ys : List Vt) (h : smallVs xs) (h' : smallVs ys) : mEqVs [.sl nl 2 (xs.map vote), .sl nl' 2 (ys.map vote)] = some (.v (.bool (decide (xs.map vV = ys.map vV)))) :=
  mk_eq (enc := fun (p : (Bool × List Vt) × (Bool × List Vt)) => [vts p.1.1 p.1.2, vts p.2.1 p.2.2]) (x := ((nl, xs), (nl', ys))) (by rintro ⟨⟨x, x'⟩, ⟨x'', x3⟩⟩ ⟨⟨y, y'⟩, ⟨y'', y3⟩⟩ h; simp [vts, map_vote_inj] at h; simp [h]) ⟨h, h'⟩
theorem take_eq_vV {xs ys : List Vt} {k : Nat} (h1 : k < xs.length) (h2 : k < ys.length) (h : (xs.take k).map vV = (ys.take k).map vV) (e : vV xs[k] = vV ys[k]) : (xs.take (k + 1)).map vV = (ys.take (k + 1)).map vV := by
  rw [List.take_succ_eq_append_getElem h1, List.take_succ_eq_append_getElem h2, List.map_append, List.map_append, h]
  simp [e]
set_option maxHeartbeats 2000000 in
theorem eqVoteS_ok : FnOk Tryz.prog 11 mEqVs := by
  refine mk_ok fun ⟨⟨nl, xs⟩, ⟨nl', ys⟩⟩ ⟨⟨hp, hpr⟩, ⟨hp', hpr'⟩⟩ => ?_
  simp only at hp hp' hpr hpr'
  have hG : FnsOk Tryz.prog [(25, mEqV)] := (.cons eqVote_ok .nil)
  generalize hr : decide (xs.map vV = ys.map vV) = r
  refine callOk_awp (ctx_ok eqOk hG) mixed (live := [true, true, false, false, true, true, false, false, false, false, true, false, false, false, true, false, false, false, false, false, false, false, false, false, false, false, true]) (dt := [(6, ⟨[], [], []⟩)]) Tryz.func11 rfl (by kernel_rfl) (by kernel_rfl) fun w0 hlens => ?_
  clear hlens
  by_cases hl : xs.length = ys.length
  · simp (config := {contextual := true}) [Tryz.f11, List.range, List.range.loop, ints, intss, int, bool, row, frac, fracs, ← List.map_take, ← List.map_drop, vts, hl]
    refine awp_range (live := [true, true, false, false, true, true, false, false, false, false, true, false, false, false, true, false, false, false, false, false, false, false, false, false, false, false, true]) (ctx_ok eqOk hG) mixed [true, true, false, false, false, true] (ys.length) (fun k => (xs.take k).map vV = (ys.take k).map vV) (fun k => ⟨[vts nl xs, vts nl' ys, .junk, .junk, .junk, int k, .junk, .junk, .junk, .junk, .junk, .junk, .junk, .junk, .junk, .junk, .junk, .junk, .junk, .junk, .junk, .junk, .junk, .junk, .junk, .junk, .junk], []⟩) ?_ (by simp [sub, slotsLe, clean, keep, refsL, refs, once, place, renL, ren, List.replicate, int, bool, vts]) ?_ ?_ ?_
    · omega
    · simp
    · intro k hk he hwk
      have hk' : k < xs.length := by omega
      have hz := mEqV_at xs[k].1.1 ys[k].1.1 xs[k].1.2 ys[k].1.2 xs[k].2 ys[k].2 (hpr _ (List.getElem_mem _)) (hpr' _ (List.getElem_mem _))
      by_cases hx : xs[k].1.2 = ys[k].1.2 ∧ xs[k].2 = ys[k].2
      · rw [decide_eq_true hx] at hz
        have hn := take_eq_vV hk' hk he (by simp [vV, hx])
        simp (config := {contextual := true}) [List.range, List.range.loop, ints, intss, int, bool, row, frac, fracs, ← List.map_take, ← List.map_drop, vts, vote, hk, hk', hwk, hz]
        exact hn
      · rw [decide_eq_false hx] at hz
        have hr' : r = false := by
          rw [← hr]
          refine decide_eq_false fun e => hx ?_
          have e2 := congrArg (fun l => l[k]?) e
          simpa [hk, hk', vV] using e2
        subst hr'
        simp (config := {contextual := true}) [List.range, List.range.loop, ints, intss, int, bool, row, frac, fracs, ← List.map_take, ← List.map_drop, vts, vote, hk, hk', hwk, hz]
        done
    · intro he
      have hr' : r = true := by
        rw [← hr]
        refine decide_eq_true ?_
        rwa [List.take_of_length_le (by omega), List.take_of_length_le (by omega)] at he
      subst hr'
      simp (config := {contextual := true}) [List.range, List.range.loop, ints, intss, int, bool, row, frac, fracs, ← List.map_take, ← List.map_drop, vts, hl]
      done
  · have hl' : ¬ (xs.length : Int) = ys.length := by omega
    have hr' : r = false := by
      rw [← hr]
      refine decide_eq_false fun e => hl ?_
      have := congrArg List.length e
      simpa using this
    subst hr'
    simp (config := {contextual := true}) [Tryz.f11, List.range, List.range.loop, ints, intss, int, bool, row, frac, fracs, ← List.map_take, ← List.map_drop, vts, hl, hl']
end Go.Proofs.YtigepnpiofcooaaGreatDoor.Ax
namespace Go.Proofs.YtigepnpiofcooaaGreatDoor.Ax
open Go Go.RowKit
set_option linter.unusedSimpArgs false
noncomputable def mEqP : List AV → Option AV := mk (fun p => smallVs p.2.2.1 ∧ smallVs p.2.2.2.2.2) (fun (p : (Int) × (Bool) × (List Vt) × (Int) × (Bool) × (List Vt)) => [prof p.1 p.2.1 p.2.2.1, prof p.2.2.2.1 p.2.2.2.2.1 p.2.2.2.2.2]) (fun p => bool (decide (p.1 = p.2.2.2.1 ∧ p.2.2.1.map vV = p.2.2.2.2.2.map vV)))
theorem mEqP_at (s : Int) (nl : Bool) (vs : List Vt) (s2 : Int) (nl2 : Bool) (vs2 : List Vt) (hpre : smallVs vs ∧ smallVs vs2) : mEqP [.agg [.v (.int .i64 s), .sl nl 2 (vs.map vote)], .agg [.v (.int .i64 s2), .sl nl2 2 (vs2.map vote)]] = some (.v (.bool (decide (s = s2 ∧ vs.map vV = vs2.map vV)))) :=
  mk_eq (enc := fun (p : (Int) × (Bool) × (List Vt) × (Int) × (Bool) × (List Vt)) => [prof p.1 p.2.1 p.2.2.1, prof p.2.2.2.1 p.2.2.2.2.1 p.2.2.2.2.2]) (x := (s, nl, vs, s2, nl2, vs2)) (by rintro ⟨a0, a1, a2, a3, a4, a5⟩ ⟨b0, b1, b2, b3, b4, b5⟩ h; simp [ints, intss, int, bool, row, frac, fracs, map_int_inj, map_row_inj, frac_inj, map_frac_inj, vts, prof, map_vote_inj] at h; simp [h]) hpre
set_option maxHeartbeats 1000000 in
theorem eqProfile_ok : FnOk Tryz.prog 6 mEqP := by
  refine mk_ok fun ⟨s, nl, vs, s2, nl2, vs2⟩ ⟨h1, h2⟩ => ?_
  simp only at h1 h2
  have hz := mEqVs_at nl nl2 vs vs2 h1 h2
  have hG : FnsOk Tryz.prog [(11, mEqVs)] := (.cons eqVoteS_ok .nil)
  refine callOk_awp (ctx_ok eqOk hG) mixed (live := [true, true, true, true, true, false, false, false, false, true, false, false, false, false, false, true]) (dt := []) Tryz.func6 rfl (by kernel_rfl) (by kernel_rfl) fun w0 hlens => ?_
  clear hlens
  by_cases e1 : s = s2 <;> by_cases e2 : vs.map vV = vs2.map vV
  · simp only [e2, decide_true] at hz
    simp [Tryz.f6, List.range, List.range.loop, ints, intss, int, bool, row, frac, fracs, ← List.map_take, ← List.map_drop, prof, hz, e1, e2]
  · simp only [e2, decide_false] at hz
    simp [Tryz.f6, List.range, List.range.loop, ints, intss, int, bool, row, frac, fracs, ← List.map_take, ← List.map_drop, prof, hz, e1, e2]
  · have e1' : (s == s2) = false := by simpa using e1
    simp [Tryz.f6, List.range, List.range.loop, ints, intss, int, bool, row, frac, fracs, ← List.map_take, ← List.map_drop, prof, e1, e1', e2]
  · have e1' : (s == s2) = false := by simpa using e1
    simp [Tryz.f6, List.range, List.range.loop, ints, intss, int, bool, row, frac, fracs, ← List.map_take, ← List.map_drop, prof, e1, e1', e2]
end Go.Proofs.YtigepnpiofcooaaGreatDoor.Ax
namespace Go.Proofs.YtigepnpiofcooaaGreatDoor.Ax
open Go Go.RowKit
set_option linter.unusedSimpArgs false
def mkF (t b : Int) : (Int × Int) × Bool := if fracOk (t.tdiv (Int.gcd t b), b.tdiv (Int.gcd t b)) = true then ((t.tdiv (Int.gcd t b), b.tdiv (Int.gcd t b)), true) else ((0, 0), false)
def addF (x y : Int × Int) : (Int × Int) × Bool := if fracOk x && fracOk y then mkF (x.1 * y.2 + y.1 * x.2) (x.2 * y.2) else ((0, 0), false)
end Go.Proofs.YtigepnpiofcooaaGreatDoor.Ax
namespace Go.Proofs.YtigepnpiofcooaaGreatDoor.Ax
open Go Go.RowKit
set_option linter.unusedSimpArgs false
end Go.Proofs.YtigepnpiofcooaaGreatDoor.Ax
namespace Go.Proofs.YtigepnpiofcooaaGreatDoor.Ax
open Go Go.RowKit
set_option linter.unusedSimpArgs false
end Go.Proofs.YtigepnpiofcooaaGreatDoor.Ax
namespace Go.Proofs.YtigepnpiofcooaaGreatDoor.Ax
open Go Go.RowKit
set_option linter.unusedSimpArgs false
def awTo (xss : List (Bool × List Int)) (aw : List Int) : Nat → Int
  | 0 => 0
  | k + 1 => if 0 ≤ aw.getD k 0 then IntKind.i64.wrap (awTo xss aw k + ent xss k (aw.getD k 0)) else awTo xss aw k
end Go.Proofs.YtigepnpiofcooaaGreatDoor.Ax
namespace Go.Proofs.YtigepnpiofcooaaGreatDoor.Ax
open Go Go.RowKit
set_option linter.unusedSimpArgs false
def woTo (xss : List (Bool × List Int)) (l : List Int) (i : Nat) (k : Int) : Nat → Int
  | 0 => 0
  | m + 1 => if l.getD m 0 = k then IntKind.i64.wrap (woTo xss l i k m + ent xss i m) else woTo xss l i k m
def wo (xss : List (Bool × List Int)) (l : List Int) (i : Nat) (k : Int) : Int := woTo xss l i k l.length
end Go.Proofs.YtigepnpiofcooaaGreatDoor.Ax
