/-
  Seats: what the two programs answer, as plain functions. No condition.
-/
import Derived.Test.YtkfmhpgnhkdebaaGreatDoorCG7
import Derived.Test.YtkfmhpgnhkdebaaGreatDoorCG5
import Derived.Test.YtkfmhpgnhkdebaaGreatDoorCG6
namespace Go.Proofs.YtkfmhpgnhkdebaaGreatDoor.Ax
open Go Go.RowKit
theorem inR_iff {lo hi x : Int} : inR lo hi x = true ↔ lo ≤ x ∧ x ≤ hi := by simp [inR]
end Go.Proofs.YtkfmhpgnhkdebaaGreatDoor.Ax
namespace Go.Proofs.YtkfmhpgnhkdebaaGreatDoor.Ax
open Go Go.RowKit
set_option linter.unusedSimpArgs false
def vtB (s : Int) (v : Vt) : Bool := rankB s v.1.2 && inR 1 1000 v.2
def profB (s : Int) (vs : List Vt) : Bool := inR 1 5 s && decide (vs.length ≤ 24) && vs.all (vtB s)
set_option maxHeartbeats 1000000 in
theorem indexVotes {g : FuncId} {caps : List AV} (hc : Pure caps) (p : Vt → Bool) (nl : Bool) (xs : List Vt) (hg : ∀ x ∈ xs, CallOk Tryz.prog g (vote x :: caps) (.v (.bool (p x)))) :
    CallOk Tryz.prog 206 [vts nl xs, .fn g caps] (int (idxOf p xs)) := by
  have hG : FnsOk Tryz.prog [(g, mk (fun x => x ∈ xs) (fun x : Vt => vote x :: caps) (fun x => .v (.bool (p x))))] := .cons (mk_ok fun x hx => hg x hx) .nil
  have hat : ∀ k (h : k < xs.length), mk (fun x => x ∈ xs) (fun x : Vt => vote x :: caps) (fun x => AV.v (.bool (p x))) (vote xs[k] :: caps) = some (.v (.bool (p xs[k]))) := fun k h =>
    mk_eq (enc := fun x : Vt => vote x :: caps) (x := xs[k]) (by intro x y h; simp only [List.cons.injEq, and_true] at h; rw [vote_inj h]) (List.getElem_mem h)
  generalize mk (fun x => x ∈ xs) (fun x : Vt => vote x :: caps) (fun x => AV.v (.bool (p x))) = m at hG hat
  refine callOk_awp (ctx_ok eqOk hG) mixed (live := [true, true, false, false, true, true, false, true, true, true, false, false, false, false, false, false, true]) (dt := []) Tryz.func206 rfl (by kernel_rfl) (by kernel_rfl) fun w0 hlens => ?_
  have hlen : xs.length ≤ 9223372036854775807 := by
    have := hlens.1
    simp only [vts, lens, List.length_map] at this
    exact this.1.1
  clear hlens
  simp [Tryz.f206, List.range, List.range.loop, ints, intss, int, bool, row, frac, fracs, ← List.map_take, ← List.map_drop, vts, hc.res, hc.refs, hc.ren]
  refine awp_range (live := [true, true, false, false, true, true, false, true, true, true, false, false, false, false, false, false, true]) (ctx_ok eqOk hG) mixed [true, true, false, false, false, false, false, true, true] (xs.length) (fun k => ∀ j (hj : j < xs.length), j < k → p xs[j] = false) (fun k => ⟨[vts nl xs, .fn g caps, .junk, .junk, .junk, .junk, .junk, int xs.length, int k, .junk, .junk, .junk, .junk, .junk, .junk, .junk, .junk, .junk, .junk], []⟩) ?_ (by simp [sub, slotsLe, clean, keep, refsL, refs, once, place, renL, ren, List.replicate, int, bool, vts, hc.refs, hc.ren]) ?_ ?_ ?_
  · exact hlen
  · intro j hj h; omega
  · intro k hk hno hwk
    have hz := hat k hk
    simp only [vote] at hz
    cases hp : p xs[k] with
    | true =>
      rw [hp] at hz
      simp [List.range, List.range.loop, ints, intss, int, bool, row, frac, fracs, ← List.map_take, ← List.map_drop, vts, vote, hk, hc.res, hc.refs, hc.ren, hz, idxOf_found hk hno hp]
    | false =>
      rw [hp] at hz
      simp [List.range, List.range.loop, ints, intss, int, bool, row, frac, fracs, ← List.map_take, ← List.map_drop, vts, vote, hk, hwk, hc.res, hc.refs, hc.ren, hz]
      intro j hj hjk
      by_cases e : j = k
      · subst e; exact hp
      · exact hno j hj (by omega)
  · intro hno
    simp [List.range, List.range.loop, ints, intss, int, bool, row, frac, fracs, ← List.map_take, ← List.map_drop, vts, idxOf_none hno]
theorem containsVotes {g : FuncId} {caps : List AV} (hc : Pure caps) (p : Vt → Bool) (nl : Bool) (xs : List Vt) (hg : ∀ x ∈ xs, CallOk Tryz.prog g (vote x :: caps) (.v (.bool (p x)))) :
    CallOk Tryz.prog 143 [vts nl xs, .fn g caps] (bool (xs.any p)) := by
  obtain ⟨m, hm, hz⟩ := as_model (indexVotes hc p nl xs hg)
  have hG : FnsOk Tryz.prog [(206, m)] := .cons hm .nil
  refine callOk_awp (ctx_ok eqOk hG) mixed (live := [true, true, false, false, true]) (dt := []) Tryz.func143 rfl (by kernel_rfl) (by kernel_rfl) fun w0 hlens => ?_
  clear hlens
  simp only [vts] at hz
  simp [Tryz.f143, List.range, List.range.loop, ints, intss, int, bool, row, frac, fracs, ← List.map_take, ← List.map_drop, vts, hc.res, hc.refs, hc.ren, hz, ge_zero, idxOf_nonneg]
theorem profileOk1 (v : Vt) (s : Int) (nl : Bool) (vs : List Vt) : CallOk Tryz.prog 144 [vote v, .fp (prof s nl vs) 0] (.v (.bool (!vtB s v))) := by
  have hG : FnsOk Tryz.prog [(110, mRank), (99, mWithin)] := (.cons implRankingOk_ok (.cons within_ok .nil))
  refine callOk_awp (ctx_ok eqOk hG) mixed (live := [true, true, true, true]) (dt := []) Tryz.func144 rfl (by kernel_rfl) (by kernel_rfl) fun w0 hlens => ?_
  clear hlens
  have h := mRank_at s v.1.1 v.1.2
  cases hr : rankB s v.1.2 with
  | false => rw [hr] at h; simp [Tryz.f144, List.range, List.range.loop, ints, intss, int, bool, row, frac, fracs, ← List.map_take, ← List.map_drop, vote, prof, h, vtB, hr]
  | true => rw [hr] at h; simp [Tryz.f144, List.range, List.range.loop, ints, intss, int, bool, row, frac, fracs, ← List.map_take, ← List.map_drop, vote, prof, h, vtB, hr, mWithin_in]
noncomputable def mProf : List AV → Option AV := mk (fun _ => True) (fun (p : (Int) × (Bool) × (List Vt)) => [prof p.1 p.2.1 p.2.2]) (fun p => bool (profB p.1 p.2.2))
theorem mProf_at (s : Int) (nl : Bool) (vs : List Vt) : mProf [.agg [.v (.int .i64 s), .sl nl 2 (vs.map vote)]] = some (.v (.bool (profB s vs))) :=
  mk_eq (enc := fun (p : (Int) × (Bool) × (List Vt)) => [prof p.1 p.2.1 p.2.2]) (x := (s, nl, vs)) (by rintro ⟨a0, a1, a2⟩ ⟨b0, b1, b2⟩ h; simp [ints, intss, int, bool, row, frac, fracs, map_int_inj, map_row_inj, frac_inj, map_frac_inj, vts, prof, map_vote_inj] at h; simp [h]) trivial
set_option maxHeartbeats 1000000 in
theorem implProf_ok : FnOk Tryz.prog 66 mProf := by
  refine mk_ok fun ⟨s, nl, vs⟩ _ => ?_
  have hc := containsVotes (g := 144) (pure_fp (a := prof s nl vs) (j := 0) pure_nil) (fun v => !vtB s v) nl vs (fun v _ => profileOk1 v s nl vs)
  obtain ⟨m, hm, hz⟩ := as_model hc
  have hG : FnsOk Tryz.prog [(99, mWithin), (143, m)] := (.cons within_ok (.cons hm .nil))
  refine callOk_awp (ctx_ok eqOk hG) mixed (live := [true, true, true, false, false, false, false, false, false, false, false, false, true]) (dt := []) Tryz.func66 rfl (by kernel_rfl) (by kernel_rfl) fun w0 hlens => ?_
  clear hlens
  simp only [vts, prof, bool] at hz
  cases h1 : inR 1 5 s with
  | false => simp [Tryz.f66, List.range, List.range.loop, ints, intss, int, bool, row, frac, fracs, ← List.map_take, ← List.map_drop, prof, mWithin_in, h1, profB]
  | true =>
    by_cases h2 : (24 : Int) < vs.length
    · have h2' : ¬ vs.length ≤ 24 := by omega
      simp [Tryz.f66, List.range, List.range.loop, ints, intss, int, bool, row, frac, fracs, ← List.map_take, ← List.map_drop, prof, mWithin_in, h1, h2, h2', profB]
    · have h2' : vs.length ≤ 24 := by omega
      simp [Tryz.f66, List.range, List.range.loop, ints, intss, int, bool, row, frac, fracs, ← List.map_take, ← List.map_drop, prof, mWithin_in, h1, h2, h2', hz, profB, not_any_not]
theorem prof_facts {s : Int} {vs : List Vt} (h : profB s vs = true) : (1 ≤ s ∧ s ≤ 5) ∧ vs.length ≤ 24 ∧ ∀ v ∈ vs, rankB s v.1.2 = true ∧ 1 ≤ v.2 ∧ v.2 ≤ 1000 := by
  simp only [profB, Bool.and_eq_true, inR_iff, decide_eq_true_eq, List.all_eq_true, vtB] at h
  exact ⟨h.1.1, h.1.2, fun v hv => ⟨(h.2 v hv).1, (h.2 v hv).2.1, (h.2 v hv).2.2⟩⟩
end Go.Proofs.YtkfmhpgnhkdebaaGreatDoor.Ax
