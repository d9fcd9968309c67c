/-
  Contracts: the first house of a list that is left (both programs). No condition.
-/
import Derived.Test.YtmeokgedldnohaaDoorCG38
import Derived.Test.YtmeokgedldnohaaDoorCG158
namespace Go.Proofs.YtmeokgedldnohaaDoor.Ax
open Go Go.RowKit
set_option linter.unusedSimpArgs false

/-- The first number of a list for which something holds. -/
def fstI (p : Int → Bool) (l : List Int) : Option Int := l.find? p
theorem fstI_idx {p : Int → Bool} {l : List Int} {x : Int} (h : fstI p l = some x) : ∃ k : Nat, ∃ hk : k < l.length, idxOf p l = k ∧ l[k] = x ∧ p x = true := by
  unfold fstI at h
  obtain ⟨hp, k, hk, e, hno⟩ := List.find?_eq_some_iff_getElem.1 h
  refine ⟨k, hk, idxOf_found hk (fun j hj hjk => by simpa using hno j hjk) (by rw [e]; exact hp), e, hp⟩

theorem firstOf1 (nl : Bool) (xs : List Int) (x : Int) : CallOk Tryd.prog 170 [int x, .fp (ints nl xs) 0] (.v (.bool (decide (0 ≤ pos xs x)))) := by
  have hG : FnsOk Tryd.prog [(82, mHas)] := (.cons slicesContains_ok .nil)
  refine callOk_awp (ctx_ok eqOk hG) mixed (live := [true, true, false, true]) (dt := []) Tryd.func170 rfl (by kernel_rfl) (by kernel_rfl) fun w0 hlens => ?_
  simp (config := {contextual := true}) [Tryd.f170, List.range, List.range.loop, ints, intss, int, bool, row, frac, fracs, ← List.map_take, ← List.map_drop, mHas_at]

noncomputable def mFstL : List AV → Option AV := mk (fun (p : Bool × List Int × Bool × List Int × Int) => fstI (fun h => decide (0 ≤ pos p.2.2.2.1 h)) p.2.1 = some p.2.2.2.2) (fun p => [ints p.1 p.2.1, ints p.2.2.1 p.2.2.2.1]) (fun p => int p.2.2.2.2)
theorem mFstL_at (nl : Bool) (l : List Int) (nl' : Bool) (xs : List Int) (x : Int) (h : fstI (fun h => decide (0 ≤ pos xs h)) l = some x) : mFstL [.sl nl 1 (l.map int), .sl nl' 1 (xs.map int)] = some (.v (.int .i64 x)) := by
  unfold mFstL mk
  have hex : ∃ p : Bool × List Int × Bool × List Int × Int, fstI (fun h => decide (0 ≤ pos p.2.2.2.1 h)) p.2.1 = some p.2.2.2.2 ∧ [ints p.1 p.2.1, ints p.2.2.1 p.2.2.2.1] = [.sl nl 1 (l.map int), .sl nl' 1 (xs.map int)] := ⟨(nl, l, nl', xs, x), h, rfl⟩
  rw [dif_pos hex]
  have key : ∀ q : Bool × List Int × Bool × List Int × Int, fstI (fun h => decide (0 ≤ pos q.2.2.2.1 h)) q.2.1 = some q.2.2.2.2 → [ints q.1 q.2.1, ints q.2.2.1 q.2.2.2.1] = [AV.sl nl 1 (l.map int), .sl nl' 1 (xs.map int)] → q.2.2.2.2 = x := by
    rintro ⟨a, b, c, d, e⟩ k1 k2
    simp only [ints, List.cons.injEq, AV.sl.injEq, true_and, and_true, map_int_inj] at k1 k2
    obtain ⟨⟨_, rfl⟩, _, rfl⟩ := k2
    rw [h] at k1
    exact (Option.some.inj k1).symm
  show some (int hex.choose.2.2.2.2) = some (int x)
  rw [key _ hex.choose_spec.1 hex.choose_spec.2]

set_option maxHeartbeats 1000000 in
theorem firstOfLeft_ok : FnOk Tryd.prog 128 mFstL := by
  refine mk_ok fun ⟨nl, l, nl', xs, x⟩ h => ?_
  simp only at h
  obtain ⟨k, hk, e1, e2, _⟩ := fstI_idx h
  have hI := indexInts (g := 170) (caps := [.fp (ints nl' xs) 0]) ⟨fun _ => rfl, rfl, fun _ => rfl⟩ (fun h => decide (0 ≤ pos xs h)) nl l (fun x _ => firstOf1 nl' xs x)
  rw [e1] at hI
  have hat : only [ints nl l, .fn 170 [.fp (ints nl' xs) 0]] (int (k : Int)) [.sl nl 1 (l.map int), .fn 170 [.fp (.sl nl' 1 (xs.map int)) 0]] = some (.v (.int .i64 (k : Int))) := only_at
  have hIm := only_ok hI
  generalize only [ints nl l, .fn 170 [.fp (ints nl' xs) 0]] (int (k : Int)) = m at hIm hat
  have hG : FnsOk Tryd.prog [(129, m)] := (.cons hIm .nil)
  refine callOk_awp (ctx_ok eqOk hG) mixed (live := [true, true, false, true, true]) (dt := []) Tryd.func128 rfl (by kernel_rfl) (by kernel_rfl) fun w0 hlens => ?_
  clear hlens
  simp (config := {contextual := true}) [Tryd.f128, List.range, List.range.loop, ints, intss, int, bool, row, frac, fracs, ← List.map_take, ← List.map_drop, hat, hk, e2]

/-- The first that is left, or -1. -/
def fstB (bs : List Bool) (l : List Int) : Int := (fstI (fun h => bs.getD h.toNat false) l).getD (-1)
noncomputable def mFstB : List AV → Option AV := mk (fun (p : Bool × List Int × List Bool) => ∀ x ∈ p.2.1, 0 ≤ x ∧ x.toNat < p.2.2.length) (fun p => [ints p.1 p.2.1, bools false p.2.2]) (fun p => int (fstB p.2.2 p.2.1))
theorem mFstB_at (nl : Bool) (l : List Int) (bs : List Bool) (h : ∀ x ∈ l, 0 ≤ x ∧ x.toNat < bs.length) : mFstB [.sl nl 1 (l.map int), .sl false 1 (bs.map bool)] = some (.v (.int .i64 (fstB bs l))) :=
  mk_eq (enc := fun (p : Bool × List Int × List Bool) => [ints p.1 p.2.1, bools false p.2.2]) (x := (nl, l, bs)) (by rintro ⟨a, b, c⟩ ⟨d, e, f⟩ h; simp [ints, bools, map_int_inj, map_bool_inj] at h; simp [h]) h

set_option maxHeartbeats 1000000 in
theorem l22First_ok : FnOk Tryd.prog 125 mFstB := by
  refine mk_ok fun ⟨nl, l, bs⟩ hp => ?_
  simp only at hp
  have hG : FnsOk Tryd.prog [] := .nil
  refine callOk_awp (ctx_ok eqOk hG) mixed (live := [true, true, false, false, true, false, true, true, true, true, true, false, false, false, false, false, true]) (dt := []) Tryd.func125 rfl (by kernel_rfl) (by kernel_rfl) fun w0 hlens => ?_
  have hll : l.length ≤ 9223372036854775807 := (lens_ints.1 hlens.1).1
  clear hlens
  simp (config := {contextual := true}) [Tryd.f125, List.range, List.range.loop, ints, intss, int, bool, row, frac, fracs, ← List.map_take, ← List.map_drop, bools]
  refine awp_range (live := [true, true, false, false, true, false, true, true, true, true, true, false, false, false, false, false, true]) (ctx_ok eqOk hG) mixed [false, true, false, false, false, false, false, true, true, true] (l.length) (fun k => ∀ j (h : j < l.length), j < k → bs.getD l[j].toNat false = false) (fun k => ⟨[.junk, bools false bs, .junk, .junk, .junk, .junk, .junk, ints nl l, int l.length, int k, .junk, .junk, .junk, .junk, .junk, .junk, .junk, .junk, .junk], []⟩) ?_ (by simp [sub, slotsLe, clean, keep, refsL, refs, once, place, renL, ren, List.replicate, int, bool, ints, bools, bool]) ?_ ?_ ?_
  · exact hll
  · intro j _ hj; omega
  · intro k hk hno hwk
    obtain ⟨a, ha, hal⟩ : ∃ a : Nat, l[k] = a ∧ a < bs.length := by
      have := hp _ (List.getElem_mem hk)
      exact ⟨l[k].toNat, by omega, this.2⟩
    have hbg : bs.getD a false = bs[a] := by simp [List.getD_eq_getElem?_getD, hal]
    cases hb : bs[a] with
    | true =>
      have hf : fstI (fun h => bs.getD h.toNat false) l = some (a : Int) := by
        unfold fstI
        refine List.find?_eq_some_iff_getElem.2 ⟨by simp only [Int.toNat_natCast]; rw [hbg, hb], k, hk, ha, fun j hj => by simp only [hno j (by omega) hj]; rfl⟩
      have hf : fstB bs l = a := by unfold fstB; rw [hf]; rfl
      simp (config := {contextual := true}) [List.range, List.range.loop, ints, intss, int, bool, row, frac, fracs, ← List.map_take, ← List.map_drop, bools, hk, ha, hal, hb, hf]
    | false =>
      simp (config := {contextual := true}) [List.range, List.range.loop, ints, intss, int, bool, row, frac, fracs, ← List.map_take, ← List.map_drop, bools, hk, ha, hal, hb, hwk]
      intro j h hj
      by_cases e : j = k
      · subst e; rw [ha, Int.toNat_natCast]; have := hbg; rw [hb] at this; simpa [List.getD_eq_getElem?_getD] using this
      · simpa [List.getD_eq_getElem?_getD] using hno j h (by omega)
  · intro hno
    have hf : fstI (fun h => bs.getD h.toNat false) l = none := by
      unfold fstI
      rw [List.find?_eq_none]
      intro x hx
      obtain ⟨j, hj, rfl⟩ := List.getElem_of_mem hx
      simp only [hno j hj hj]; simp
    have hf : fstB bs l = -1 := by unfold fstB; rw [hf]; rfl
    simp (config := {contextual := true}) [List.range, List.range.loop, ints, intss, int, bool, row, frac, fracs, ← List.map_take, ← List.map_drop, bools, hf]

end Go.Proofs.YtmeokgedldnohaaDoor.Ax
