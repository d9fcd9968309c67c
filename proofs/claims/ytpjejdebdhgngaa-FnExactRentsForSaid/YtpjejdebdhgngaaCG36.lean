/-
  Contracts: RentOk, valid rents (both programs). No condition.
-/
import Derived.Test.YtpjejdebdhgngaaCG31
import Derived.Test.YtpjejdebdhgngaaCG32
namespace Go.Proofs.Ytpjejdebdhgngaa.Ax
open Go Go.RowKit
set_option linter.unusedSimpArgs false

def rentAt (l : List Int) (m : Nat) : Bool := inR 0 1000 (l.getD m 0)
/-- Row k is as long as there are rows, all its values in the range. -/
def rentRow (xss : List (Bool × List Int)) (k : Nat) : Bool := decide ((xss.getD k (true, [])).2.length = xss.length) && allR (xss.getD k (true, [])).2.length (rentAt (xss.getD k (true, [])).2)
def rentB (xss : List (Bool × List Int)) : Bool := inR 1 4 xss.length && allR xss.length (rentRow xss)

noncomputable def mRent : List AV → Option AV := mk (fun _ => True) (fun (p : (Bool) × (List (Bool × List Int))) => [intss p.1 p.2]) (fun p => bool (rentB p.2))
theorem mRent_at (nl : Bool) (xss : List (Bool × List Int)) : mRent [.sl nl 1 (xss.map row)] = some (.v (.bool (rentB xss))) :=
  mk_eq (enc := fun (p : (Bool) × (List (Bool × List Int))) => [intss p.1 p.2]) (x := (nl, xss)) (by rintro ⟨a0, a1⟩ ⟨b0, b1⟩ h; simp [ints, intss, int, bool, row, frac, fracs, map_int_inj, map_row_inj, frac_inj, map_frac_inj] at h; simp [h]) trivial

theorem allR_iff {n : Nat} {f : Nat → Bool} : allR n f = true ↔ ∀ i, i < n → f i = true := by
  unfold allR; rw [List.all_eq_true]; simp
theorem rentRow_at {xss : List (Bool × List Int)} {k : Nat} (h : k < xss.length) : rentRow xss k = (decide (xss[k].2.length = xss.length) && allR xss[k].2.length (rentAt xss[k].2)) := by
  unfold rentRow; simp [List.getD_eq_getElem?_getD, h]
theorem rentAt_at {l : List Int} {m : Nat} (h : m < l.length) : rentAt l m = inR 0 1000 l[m] := by unfold rentAt; rw [getD_at h]
theorem rent_facts {xss : List (Bool × List Int)} (h : rentB xss = true) : 1 ≤ xss.length ∧ xss.length ≤ 4 ∧ ∀ i (hi : i < xss.length), xss[i].2.length = xss.length ∧ ∀ x ∈ xss[i].2, 0 ≤ x ∧ x ≤ 1000 := by
  simp only [rentB, Bool.and_eq_true, inR, decide_eq_true_eq] at h
  refine ⟨by omega, by omega, fun i hi => ?_⟩
  have hr := allR_iff.1 h.2 i hi
  rw [rentRow_at hi, Bool.and_eq_true, decide_eq_true_eq] at hr
  refine ⟨hr.1, fun x hx => ?_⟩
  obtain ⟨j, hj, rfl⟩ := List.getElem_of_mem hx
  have := allR_iff.1 hr.2 j hj
  rw [rentAt_at hj] at this
  simpa [inR] using this
theorem rent_rect {xss : List (Bool × List Int)} : (rectB xss 4 4 1000 && decide (wid xss = xss.length)) = rentB xss := by
  rw [Bool.eq_iff_iff, Bool.and_eq_true, decide_eq_true_eq]
  constructor
  · rintro ⟨h, hw⟩
    have hl := rect_len h
    have hp := rect_pos h
    simp only [rentB, Bool.and_eq_true, inR, decide_eq_true_eq]
    refine ⟨⟨by omega, by omega⟩, allR_iff.2 fun i hi => ?_⟩
    have hr := rect_row h hi
    rw [rentRow_at hi, Bool.and_eq_true, decide_eq_true_eq]
    refine ⟨by omega, allR_iff.2 fun j hj => ?_⟩
    rw [rentAt_at hj]
    have := hr.2 _ (List.getElem_mem hj)
    simpa [inR] using this
  · intro h
    obtain ⟨h1, h2, h3⟩ := rent_facts h
    cases xss with
    | nil => simp at h1
    | cons r l =>
      have h0 := (h3 0 (by simp)).1
      simp only [List.getElem_cons_zero] at h0
      refine ⟨?_, by simpa [wid] using h0⟩
      simp only [rectB, Bool.and_eq_true, List.all_eq_true, inR, decide_eq_true_eq]
      refine ⟨⟨⟨by simp only [List.length_cons] at h1 ⊢; omega, by omega⟩, by omega, by omega⟩, fun x hx => ?_⟩
      obtain ⟨j, hj, rfl⟩ := List.getElem_of_mem hx
      obtain ⟨k1, k2⟩ := h3 j hj
      simp only [rowIs, Bool.and_eq_true, decide_eq_true_eq, List.all_eq_true, inR]
      exact ⟨by omega, k2⟩

set_option maxHeartbeats 1000000 in
theorem implRentOk_ok : FnOk Try.prog 49 mRent := by
  refine mk_ok fun ⟨nl, xss⟩ _ => ?_
  have hG : FnsOk Try.prog [(100, mRect)] := (.cons rectangle_ok .nil)
  refine callOk_awp (ctx_ok eqOk hG) mixed (live := [true, false, true]) (dt := []) Try.func49 rfl (by kernel_rfl) (by kernel_rfl) fun w0 hlens => ?_
  clear hlens
  have hre := rent_rect (xss := xss)
  generalize rentB xss = r at *
  cases h1 : rectB xss 4 4 1000 with
  | false => rw [h1] at hre; subst hre; simp (config := {contextual := true}) [Try.f49, List.range, List.range.loop, ints, intss, int, bool, row, frac, fracs, ← List.map_take, ← List.map_drop, mRect_at, h1]
  | true =>
  rw [h1] at hre
  have h0 := rect_pos h1
  have hw := wid_eq h0
  have e : ((wid xss : Int) == (xss.length : Int)) = decide (wid xss = xss.length) := by
    rw [Bool.eq_iff_iff]; simp; omega
  simp (config := {contextual := true}) [Try.f49, List.range, List.range.loop, ints, intss, int, bool, row, frac, fracs, ← List.map_take, ← List.map_drop, mRect_at, h1, h0, hw, e]
  simpa using hre

set_option maxHeartbeats 2000000 in
theorem specRentOk_ok : FnOk Try.prog 42 mRent := by
  refine mk_ok fun ⟨nl, xss⟩ _ => ?_
  have hG : FnsOk Try.prog [(43, mWithin)] := (.cons l01In_ok .nil)
  refine callOk_awp (ctx_ok eqOk hG) mixed (live := [true, false, true, true, false, true, false, true, false, false, false, false, true, true, true, true, true, false, false, false, false, false, true, true, true, true, true, false, false, false, false, true]) (dt := []) Try.func42 rfl (by kernel_rfl) (by kernel_rfl) fun w0 hlens => ?_
  have hpr := (lens_intss.1 hlens.1).2
  clear hlens
  cases h1 : inR 1 4 xss.length with
  | false => simp (config := {contextual := true}) [Try.f42, List.range, List.range.loop, ints, intss, int, bool, row, frac, fracs, ← List.map_take, ← List.map_drop, mWithin_in, h1, rentB]
  | true =>
  have hl : xss.length ≤ 4 := by simp [inR] at h1; omega
  have hm : rentB xss = allR xss.length (rentRow xss) := by simp [rentB, h1]
  generalize hres : rentB xss = r at hm
  simp (config := {contextual := true}) [Try.f42, List.range, List.range.loop, ints, intss, int, bool, row, frac, fracs, ← List.map_take, ← List.map_drop, mWithin_in, h1]
  refine awp_range (live := [true, false, true, true, false, true, false, true, false, false, false, false, true, true, true, true, true, false, false, false, false, false, true, true, true, true, true, false, false, false, false, true]) (ctx_ok eqOk hG) mixed [false, false, false, true, false, false, false, false, false, false, false, false, false, true, true, true] (xss.length) (fun k => upto (rentRow xss) k) (fun k => ⟨[.junk, .junk, .junk, int xss.length, .junk, .junk, .junk, .junk, .junk, .junk, .junk, .junk, .junk, intss nl xss, int xss.length, int k, .junk, .junk, .junk, .junk, .junk, .junk, .junk, .junk, .junk, .junk, .junk, .junk, .junk, .junk, .junk, .junk, .junk, .junk], []⟩) ?_ (by simp [sub, slotsLe, clean, keep, refsL, refs, once, place, renL, ren, List.replicate, int, bool, intss]) ?_ ?_ ?_
  · omega
  · exact upto_zero
  · intro k h hp hwk
    have hf : rentRow xss k = false → r = false := fun hf => by rw [hm, allR_no h hf]
    have ht := upto_succ hp
    have e := rentRow_at h
    have hpk := (hpr xss[k] (List.getElem_mem _)).1
    by_cases hlk : xss[k].2.length = xss.length
    rotate_left
    · have hlk' : ((xss[k].2.length : Int) != (xss.length : Int)) = true := by simp; omega
      rw [hf (by rw [e]; simp [hlk])]
      simp (config := {contextual := true}) [List.range, List.range.loop, ints, intss, int, bool, row, frac, fracs, ← List.map_take, ← List.map_drop, h, hlk, hlk']
    simp (config := {contextual := true}) [List.range, List.range.loop, ints, intss, int, bool, row, frac, fracs, ← List.map_take, ← List.map_drop, h, hlk]
    have hlk2 : (xss.length : Int) = (xss[k].2.length : Int) := by omega
    refine awp_range (live := [true, false, true, true, false, true, false, true, false, false, false, false, true, true, true, true, true, false, false, false, false, false, true, true, true, true, true, false, false, false, false, true]) (ctx_ok eqOk hG) mixed [false, false, false, true, false, false, false, false, false, false, false, false, false, true, true, true, false, false, false, false, false, false, false, true, true, true] (xss[k].2.length) (fun m => upto (rentAt xss[k].2) m) (fun m => ⟨[.junk, .junk, .junk, int xss.length, .junk, .junk, .junk, .junk, .junk, .junk, .junk, .junk, .junk, intss nl xss, int xss.length, int k, .junk, .junk, .junk, .junk, .junk, .junk, .junk, row xss[k], int xss[k].2.length, int m, .junk, .junk, .junk, .junk, .junk, .junk, .junk, .junk], []⟩) ?_ (by simp [sub, slotsLe, clean, keep, refsL, refs, once, place, renL, ren, List.replicate, int, bool, intss, row, hlk2]) ?_ ?_ ?_
    · omega
    · exact upto_zero
    · intro m hm' hpm hwm
      have hf2 : rentAt xss[k].2 m = false → r = false := fun hf2 => hf (by rw [e, allR_no hm' hf2]; simp)
      have ht2 := upto_succ hpm
      rw [rentAt_at hm'] at hf2 ht2
      cases hi : inR 0 1000 xss[k].2[m] with
      | false => rw [hf2 hi]; simp (config := {contextual := true}) [List.range, List.range.loop, ints, intss, int, bool, row, frac, fracs, ← List.map_take, ← List.map_drop, h, hm', hwm, mWithin_in, hi]
      | true => simp (config := {contextual := true}) [List.range, List.range.loop, ints, intss, int, bool, row, frac, fracs, ← List.map_take, ← List.map_drop, h, hm', hwm, mWithin_in, hi, ht2 hi]
    · intro hpm
      have := ht (by rw [e, allR_yes hpm]; simp [hlk])
      simp (config := {contextual := true}) [List.range, List.range.loop, ints, intss, int, bool, row, frac, fracs, ← List.map_take, ← List.map_drop, h, hwk, this, hlk]
  · intro hp
    rw [allR_yes hp] at hm
    subst hm
    simp (config := {contextual := true}) [List.range, List.range.loop, ints, intss, int, bool, row, frac, fracs, ← List.map_take, ← List.map_drop]

/-- Values, a choice of rooms, rents. -/
def rentsB (xss : List (Bool × List Int)) (l : List Int) (fs : List (Int × Int)) : Bool := rentB xss && rankB xss.length l && decide (fs.length = xss.length) && fs.all fracOk

noncomputable def mRents : List AV → Option AV := mk (fun _ => True) (fun (p : (Bool) × (List (Bool × List Int)) × (Bool) × (List Int) × (Bool) × (List (Int × Int))) => [intss p.1 p.2.1, ints p.2.2.1 p.2.2.2.1, fracs p.2.2.2.2.1 p.2.2.2.2.2]) (fun p => bool (rentsB p.2.1 p.2.2.2.1 p.2.2.2.2.2))
theorem mRents_at (nl : Bool) (xss : List (Bool × List Int)) (nl1 : Bool) (l : List Int) (nl2 : Bool) (fs : List (Int × Int)) : mRents [.sl nl 1 (xss.map row), .sl nl1 1 (l.map int), .sl nl2 2 (fs.map frac)] = some (.v (.bool (rentsB xss l fs))) :=
  mk_eq (enc := fun (p : (Bool) × (List (Bool × List Int)) × (Bool) × (List Int) × (Bool) × (List (Int × Int))) => [intss p.1 p.2.1, ints p.2.2.1 p.2.2.2.1, fracs p.2.2.2.2.1 p.2.2.2.2.2]) (x := (nl, xss, nl1, l, nl2, fs)) (by rintro ⟨a0, a1, a2, a3, a4, a5⟩ ⟨b0, b1, b2, b3, b4, b5⟩ h; simp [ints, intss, int, bool, row, frac, fracs, map_int_inj, map_row_inj, frac_inj, map_frac_inj] at h; simp [h]) trivial
noncomputable def mL25Ok : List AV → Option AV := mk (fun _ => True) (fun (p : (Bool) × (List (Bool × List Int)) × (Bool) × (List Int)) => [intss p.1 p.2.1, ints p.2.2.1 p.2.2.2]) (fun p => bool (rentB p.2.1 && rankB p.2.1.length p.2.2.2))
theorem mL25Ok_at (nl : Bool) (xss : List (Bool × List Int)) (nl1 : Bool) (l : List Int) : mL25Ok [.sl nl 1 (xss.map row), .sl nl1 1 (l.map int)] = some (.v (.bool (rentB xss && rankB xss.length l))) :=
  mk_eq (enc := fun (p : (Bool) × (List (Bool × List Int)) × (Bool) × (List Int)) => [intss p.1 p.2.1, ints p.2.2.1 p.2.2.2]) (x := (nl, xss, nl1, l)) (by rintro ⟨a0, a1, a2, a3⟩ ⟨b0, b1, b2, b3⟩ h; simp [ints, intss, int, bool, row, frac, fracs, map_int_inj, map_row_inj, frac_inj, map_frac_inj] at h; simp [h]) trivial

theorem rank_len {m : Int} {l : List Int} (h : rankB m l = true) : (l.length : Int) = m := by
  simp only [rankB, Bool.and_eq_true, decide_eq_true_eq] at h; exact h.1.2
theorem rank_in {m : Int} {l : List Int} (h : rankB m l = true) {i : Nat} (hi : i < l.length) : 0 ≤ l[i] ∧ l[i] < m := by
  simp only [rankB, Bool.and_eq_true] at h
  have := allR_iff.1 h.2 i hi
  rw [rankAt_at hi, Bool.and_eq_true] at this
  have h2 := this.1
  simp only [inR, Bool.and_eq_true, decide_eq_true_eq] at h2
  omega

set_option maxHeartbeats 1000000 in
theorem l25Ok_ok : FnOk Try.prog 97 mL25Ok := by
  refine mk_ok fun ⟨nl, xss, nl1, l⟩ _ => ?_
  have hG : FnsOk Try.prog [(42, mRent), (65, mRank)] := (.cons specRentOk_ok (.cons specRankingOk_ok .nil))
  refine callOk_awp (ctx_ok eqOk hG) mixed (live := [true, true, false, false, true]) (dt := []) Try.func97 rfl (by kernel_rfl) (by kernel_rfl) fun w0 hlens => ?_
  clear hlens
  cases h1 : rentB xss <;> simp (config := {contextual := true}) [Try.f97, List.range, List.range.loop, ints, intss, int, bool, row, frac, fracs, ← List.map_take, ← List.map_drop, mRent_at, mRank_at, h1]

end Go.Proofs.Ytpjejdebdhgngaa.Ax
