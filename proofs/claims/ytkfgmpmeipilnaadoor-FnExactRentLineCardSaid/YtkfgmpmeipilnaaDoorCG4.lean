/-
  Contracts: RentOk, valid rents (both programs). No condition.
-/
import Derived.Test.YtkfgmpmeipilnaaDoorCG3
import Derived.Test.YtkfgmpmeipilnaaDoorCG2
import Derived.Test.YtkfgmpmeipilnaaDoorCG1
import Derived.Test.YtkfgmpmeipilnaaDoorCK4
namespace Go.Proofs.YtkfgmpmeipilnaaDoor.Ax
open Go Go.RowKit
set_option linter.unusedSimpArgs false

def rentAt (l : List Int) (m : Nat) : Bool := inR 0 1000 (l.getD m 0)
/-- Row k is as long as there are rows, all its values in the range. -/
def rentRow (xss : List (Bool × List Int)) (k : Nat) : Bool := decide ((xss.getD k (true, [])).2.length = xss.length) && allR (xss.getD k (true, [])).2.length (rentAt (xss.getD k (true, [])).2)
def rentB (xss : List (Bool × List Int)) : Bool := inR 1 4 xss.length && allR xss.length (rentRow xss)

noncomputable def mRent : List AV → Option AV := mk (fun _ => True) (fun (p : (Bool) × (List (Bool × List Int))) => [intss p.1 p.2]) (fun p => bool (rentB p.2))
theorem mRent_at (nl : Bool) (xss : List (Bool × List Int)) : mRent [.sl nl 1 (xss.map row)] = some (.v (.bool (rentB xss))) :=
  mk_eq (enc := fun (p : (Bool) × (List (Bool × List Int))) => [intss p.1 p.2]) (x := (nl, xss)) (by rintro ⟨a0, a1⟩ ⟨b0, b1⟩ h; simp [ints, intss, int, bool, row, frac, fracs, map_int_inj, map_row_inj, frac_inj, map_frac_inj] at h; simp [h]) trivial

theorem allR_iff {n : Nat} {f : Nat → Bool} : allR n f = true ↔ ∀ i, i < n → f i = true := by
  unfold allR; rw [List.all_eq_true]; simp
theorem rentRow_at {xss : List (Bool × List Int)} {k : Nat} (h : k < xss.length) : rentRow xss k = (decide (xss[k].2.length = xss.length) && allR xss[k].2.length (rentAt xss[k].2)) := by
  unfold rentRow; simp [List.getD_eq_getElem?_getD, h]
theorem rentAt_at {l : List Int} {m : Nat} (h : m < l.length) : rentAt l m = inR 0 1000 l[m] := by unfold rentAt; rw [getD_at h]
theorem rent_facts {xss : List (Bool × List Int)} (h : rentB xss = true) : 1 ≤ xss.length ∧ xss.length ≤ 4 ∧ ∀ i (hi : i < xss.length), xss[i].2.length = xss.length ∧ ∀ x ∈ xss[i].2, 0 ≤ x ∧ x ≤ 1000 := by
  simp only [rentB, Bool.and_eq_true, inR, decide_eq_true_eq] at h
  refine ⟨by omega, by omega, fun i hi => ?_⟩
  have hr := allR_iff.1 h.2 i hi
  rw [rentRow_at hi, Bool.and_eq_true, decide_eq_true_eq] at hr
  refine ⟨hr.1, fun x hx => ?_⟩
  obtain ⟨j, hj, rfl⟩ := List.getElem_of_mem hx
  have := allR_iff.1 hr.2 j hj
  rw [rentAt_at hj] at this
  simpa [inR] using this
theorem rent_rect {xss : List (Bool × List Int)} : (rectB xss 4 4 1000 && decide (wid xss = xss.length)) = rentB xss := by
  rw [Bool.eq_iff_iff, Bool.and_eq_true, decide_eq_true_eq]
  constructor
  · rintro ⟨h, hw⟩
    have hl := rect_len h
    have hp := rect_pos h
    simp only [rentB, Bool.and_eq_true, inR, decide_eq_true_eq]
    refine ⟨⟨by omega, by omega⟩, allR_iff.2 fun i hi => ?_⟩
    have hr := rect_row h hi
    rw [rentRow_at hi, Bool.and_eq_true, decide_eq_true_eq]
    refine ⟨by omega, allR_iff.2 fun j hj => ?_⟩
    rw [rentAt_at hj]
    have := hr.2 _ (List.getElem_mem hj)
    simpa [inR] using this
  · intro h
    obtain ⟨h1, h2, h3⟩ := rent_facts h
    cases xss with
    | nil => simp at h1
    | cons r l =>
      have h0 := (h3 0 (by simp)).1
      simp only [List.getElem_cons_zero] at h0
      refine ⟨?_, by simpa [wid] using h0⟩
      simp only [rectB, Bool.and_eq_true, List.all_eq_true, inR, decide_eq_true_eq]
      refine ⟨⟨⟨by simp only [List.length_cons] at h1 ⊢; omega, by omega⟩, by omega, by omega⟩, fun x hx => ?_⟩
      obtain ⟨j, hj, rfl⟩ := List.getElem_of_mem hx
      obtain ⟨k1, k2⟩ := h3 j hj
      simp only [rowIs, Bool.and_eq_true, decide_eq_true_eq, List.all_eq_true, inR]
      exact ⟨by omega, k2⟩

set_option maxHeartbeats 1000000 in
theorem implRentOk_ok : FnOk Tryd.prog 68 mRent := by
  refine mk_ok fun ⟨nl, xss⟩ _ => ?_
  have hG : FnsOk Tryd.prog [(87, mRect)] := (.cons rectangle_ok .nil)
  refine callOk_awp (ctx_ok eqOk hG) mixed (live := [true, false, true]) (dt := []) Tryd.func68 rfl (by kernel_rfl) (by kernel_rfl) fun w0 hlens => ?_
  clear hlens
  have hre := rent_rect (xss := xss)
  generalize rentB xss = r at *
  cases h1 : rectB xss 4 4 1000 with
  | false => rw [h1] at hre; subst hre; simp (config := {contextual := true}) [Tryd.f68, List.range, List.range.loop, ints, intss, int, bool, row, frac, fracs, ← List.map_take, ← List.map_drop, mRect_at, h1]
  | true =>
  rw [h1] at hre
  have h0 := rect_pos h1
  have hw := wid_eq h0
  have e : ((wid xss : Int) == (xss.length : Int)) = decide (wid xss = xss.length) := by
    rw [Bool.eq_iff_iff]; simp; omega
  simp (config := {contextual := true}) [Tryd.f68, List.range, List.range.loop, ints, intss, int, bool, row, frac, fracs, ← List.map_take, ← List.map_drop, mRect_at, h1, h0, hw, e]
  simpa using hre

set_option maxHeartbeats 2000000 in
theorem specRentOk_ok : FnOk Tryd.prog 60 mRent := by
  refine mk_ok fun ⟨nl, xss⟩ _ => ?_
  have hG : FnsOk Tryd.prog [(61, mWithin)] := (.cons l01In_ok .nil)
  refine callOk_awp (ctx_ok eqOk hG) mixed (live := [true, false, true, true, false, true, false, true, false, false, false, false, true, true, true, true, true, false, false, false, false, false, true, true, true, true, true, false, false, false, false, true]) (dt := []) Tryd.func60 rfl (by kernel_rfl) (by kernel_rfl) fun w0 hlens => ?_
  have hpr := (lens_intss.1 hlens.1).2
  clear hlens
  cases h1 : inR 1 4 xss.length with
  | false => simp (config := {contextual := true}) [Tryd.f60, List.range, List.range.loop, ints, intss, int, bool, row, frac, fracs, ← List.map_take, ← List.map_drop, mWithin_in, h1, rentB]
  | true =>
  have hl : xss.length ≤ 4 := by simp [inR] at h1; omega
  have hm : rentB xss = allR xss.length (rentRow xss) := by simp [rentB, h1]
  generalize hres : rentB xss = r at hm
  simp (config := {contextual := true}) [Tryd.f60, List.range, List.range.loop, ints, intss, int, bool, row, frac, fracs, ← List.map_take, ← List.map_drop, mWithin_in, h1]
  refine awp_range (live := [true, false, true, true, false, true, false, true, false, false, false, false, true, true, true, true, true, false, false, false, false, false, true, true, true, true, true, false, false, false, false, true]) (ctx_ok eqOk hG) mixed [false, false, false, true, false, false, false, false, false, false, false, false, false, true, true, true] (xss.length) (fun k => upto (rentRow xss) k) (fun k => ⟨[.junk, .junk, .junk, int xss.length, .junk, .junk, .junk, .junk, .junk, .junk, .junk, .junk, .junk, intss nl xss, int xss.length, int k, .junk, .junk, .junk, .junk, .junk, .junk, .junk, .junk, .junk, .junk, .junk, .junk, .junk, .junk, .junk, .junk, .junk, .junk], []⟩) ?_ (by simp [sub, slotsLe, clean, keep, refsL, refs, once, place, renL, ren, List.replicate, int, bool, intss]) ?_ ?_ ?_
  · omega
  · exact upto_zero
  · intro k h hp hwk
    have hf : rentRow xss k = false → r = false := fun hf => by rw [hm, allR_no h hf]
    have ht := upto_succ hp
    have e := rentRow_at h
    have hpk := (hpr xss[k] (List.getElem_mem _)).1
    by_cases hlk : xss[k].2.length = xss.length
    rotate_left
    · have hlk' : ((xss[k].2.length : Int) != (xss.length : Int)) = true := by simp; omega
      rw [hf (by rw [e]; simp [hlk])]
      simp (config := {contextual := true}) [List.range, List.range.loop, ints, intss, int, bool, row, frac, fracs, ← List.map_take, ← List.map_drop, h, hlk, hlk']
    simp (config := {contextual := true}) [List.range, List.range.loop, ints, intss, int, bool, row, frac, fracs, ← List.map_take, ← List.map_drop, h, hlk]
    have hlk2 : (xss.length : Int) = (xss[k].2.length : Int) := by omega
    refine awp_range (live := [true, false, true, true, false, true, false, true, false, false, false, false, true, true, true, true, true, false, false, false, false, false, true, true, true, true, true, false, false, false, false, true]) (ctx_ok eqOk hG) mixed [false, false, false, true, false, false, false, false, false, false, false, false, false, true, true, true, false, false, false, false, false, false, false, true, true, true] (xss[k].2.length) (fun m => upto (rentAt xss[k].2) m) (fun m => ⟨[.junk, .junk, .junk, int xss.length, .junk, .junk, .junk, .junk, .junk, .junk, .junk, .junk, .junk, intss nl xss, int xss.length, int k, .junk, .junk, .junk, .junk, .junk, .junk, .junk, row xss[k], int xss[k].2.length, int m, .junk, .junk, .junk, .junk, .junk, .junk, .junk, .junk], []⟩) ?_ (by simp [sub, slotsLe, clean, keep, refsL, refs, once, place, renL, ren, List.replicate, int, bool, intss, row, hlk2]) ?_ ?_ ?_
    · omega
    · exact upto_zero
    · intro m hm' hpm hwm
      have hf2 : rentAt xss[k].2 m = false → r = false := fun hf2 => hf (by rw [e, allR_no hm' hf2]; simp)
      have ht2 := upto_succ hpm
      rw [rentAt_at hm'] at hf2 ht2
      cases hi : inR 0 1000 xss[k].2[m] with
      | false => rw [hf2 hi]; simp (config := {contextual := true}) [List.range, List.range.loop, ints, intss, int, bool, row, frac, fracs, ← List.map_take, ← List.map_drop, h, hm', hwm, mWithin_in, hi]
      | true => simp (config := {contextual := true}) [List.range, List.range.loop, ints, intss, int, bool, row, frac, fracs, ← List.map_take, ← List.map_drop, h, hm', hwm, mWithin_in, hi, ht2 hi]
    · intro hpm
      have := ht (by rw [e, allR_yes hpm]; simp [hlk])
      simp (config := {contextual := true}) [List.range, List.range.loop, ints, intss, int, bool, row, frac, fracs, ← List.map_take, ← List.map_drop, h, hwk, this, hlk]
  · intro hp
    rw [allR_yes hp] at hm
    subst hm
    simp (config := {contextual := true}) [List.range, List.range.loop, ints, intss, int, bool, row, frac, fracs, ← List.map_take, ← List.map_drop]

/-- Values, a choice of rooms, rents. -/
def rentsB (xss : List (Bool × List Int)) (l : List Int) (fs : List (Int × Int)) : Bool := rentB xss && rankB xss.length l && decide (fs.length = xss.length) && fs.all fracOk

noncomputable def mRents : List AV → Option AV := mk (fun _ => True) (fun (p : (Bool) × (List (Bool × List Int)) × (Bool) × (List Int) × (Bool) × (List (Int × Int))) => [intss p.1 p.2.1, ints p.2.2.1 p.2.2.2.1, fracs p.2.2.2.2.1 p.2.2.2.2.2]) (fun p => bool (rentsB p.2.1 p.2.2.2.1 p.2.2.2.2.2))
theorem mRents_at (nl : Bool) (xss : List (Bool × List Int)) (nl1 : Bool) (l : List Int) (nl2 : Bool) (fs : List (Int × Int)) : mRents [.sl nl 1 (xss.map row), .sl nl1 1 (l.map int), .sl nl2 2 (fs.map frac)] = some (.v (.bool (rentsB xss l fs))) :=
  mk_eq (enc := fun (p : (Bool) × (List (Bool × List Int)) × (Bool) × (List Int) × (Bool) × (List (Int × Int))) => [intss p.1 p.2.1, ints p.2.2.1 p.2.2.2.1, fracs p.2.2.2.2.1 p.2.2.2.2.2]) (x := (nl, xss, nl1, l, nl2, fs)) (by rintro ⟨a0, a1, a2, a3, a4, a5⟩ ⟨b0, b1, b2, b3, b4, b5⟩ h; simp [ints, intss, int, bool, row, frac, fracs, map_int_inj, map_row_inj, frac_inj, map_frac_inj] at h; simp [h]) trivial
noncomputable def mL25Ok : List AV → Option AV := mk (fun _ => True) (fun (p : (Bool) × (List (Bool × List Int)) × (Bool) × (List Int)) => [intss p.1 p.2.1, ints p.2.2.1 p.2.2.2]) (fun p => bool (rentB p.2.1 && rankB p.2.1.length p.2.2.2))
theorem mL25Ok_at (nl : Bool) (xss : List (Bool × List Int)) (nl1 : Bool) (l : List Int) : mL25Ok [.sl nl 1 (xss.map row), .sl nl1 1 (l.map int)] = some (.v (.bool (rentB xss && rankB xss.length l))) :=
  mk_eq (enc := fun (p : (Bool) × (List (Bool × List Int)) × (Bool) × (List Int)) => [intss p.1 p.2.1, ints p.2.2.1 p.2.2.2]) (x := (nl, xss, nl1, l)) (by rintro ⟨a0, a1, a2, a3⟩ ⟨b0, b1, b2, b3⟩ h; simp [ints, intss, int, bool, row, frac, fracs, map_int_inj, map_row_inj, frac_inj, map_frac_inj] at h; simp [h]) trivial

theorem rank_len {m : Int} {l : List Int} (h : rankB m l = true) : (l.length : Int) = m := by
  simp only [rankB, Bool.and_eq_true, decide_eq_true_eq] at h; exact h.1.2
theorem rank_in {m : Int} {l : List Int} (h : rankB m l = true) {i : Nat} (hi : i < l.length) : 0 ≤ l[i] ∧ l[i] < m := by
  simp only [rankB, Bool.and_eq_true] at h
  have := allR_iff.1 h.2 i hi
  rw [rankAt_at hi, Bool.and_eq_true] at this
  have h2 := this.1
  simp only [inR, Bool.and_eq_true, decide_eq_true_eq] at h2
  omega

set_option maxHeartbeats 1000000 in
theorem l25Ok_ok : FnOk Tryd.prog 101 mL25Ok := by
  refine mk_ok fun ⟨nl, xss, nl1, l⟩ _ => ?_
  have hG : FnsOk Tryd.prog [(60, mRent), (83, mRank)] := (.cons specRentOk_ok (.cons specRankingOk_ok .nil))
  refine callOk_awp (ctx_ok eqOk hG) mixed (live := [true, true, false, false, true]) (dt := []) Tryd.func101 rfl (by kernel_rfl) (by kernel_rfl) fun w0 hlens => ?_
  clear hlens
  cases h1 : rentB xss <;> simp (config := {contextual := true}) [Tryd.f101, List.range, List.range.loop, ints, intss, int, bool, row, frac, fracs, ← List.map_take, ← List.map_drop, mRent_at, mRank_at, h1]

end Go.Proofs.YtkfgmpmeipilnaaDoor.Ax

/-
  Contracts: all rankings (both programs), the worth of a choice of rooms (both programs). No condition.
-/
namespace Go.Proofs.YtkfgmpmeipilnaaDoor.Ax
open Go Go.RowKit
set_option linter.unusedSimpArgs false

/-- Each person a room, no more. -/
def rmPre (xss : List (Bool × List Int)) (l : List Int) : Prop := l.length ≤ xss.length ∧ ∀ i, i < l.length → 0 ≤ l.getD i 0 ∧ l.getD i 0 < ((xss.getD i (true, [])).2.length : Int)

noncomputable def mRoomV : List AV → Option AV := mk (fun p => rmPre p.2.1 p.2.2.2) (fun (p : (Bool) × (List (Bool × List Int)) × (Bool) × (List Int)) => [intss p.1 p.2.1, ints p.2.2.1 p.2.2.2]) (fun p => int (awTo p.2.1 p.2.2.2 p.2.2.2.length))
theorem mRoomV_at (nl : Bool) (xss : List (Bool × List Int)) (nl' : Bool) (l : List Int) (hpre : rmPre xss l) : mRoomV [.sl nl 1 (xss.map row), .sl nl' 1 (l.map int)] = some (.v (.int .i64 (awTo xss l l.length))) :=
  mk_eq (enc := fun (p : (Bool) × (List (Bool × List Int)) × (Bool) × (List Int)) => [intss p.1 p.2.1, ints p.2.2.1 p.2.2.2]) (x := (nl, xss, nl', l)) (by rintro ⟨a0, a1, a2, a3⟩ ⟨b0, b1, b2, b3⟩ h; simp [ints, intss, int, bool, row, frac, fracs, map_int_inj, map_row_inj, frac_inj, map_frac_inj] at h; simp [h]) hpre

set_option maxHeartbeats 1000000 in
theorem roomValue_ok : FnOk Tryd.prog 109 mRoomV := by
  refine mk_ok fun ⟨nl, xss, nl', l⟩ ⟨hp1, hp2⟩ => ?_
  simp only at hp1 hp2
  have hG : FnsOk Tryd.prog [] := .nil
  refine callOk_awp (ctx_ok eqOk hG) mixed (live := [true, true, false, false, true, true, true, true, true, true, true, true]) (dt := []) Tryd.func109 rfl (by kernel_rfl) (by kernel_rfl) fun w0 hlens => ?_
  have hl : l.length ≤ 9223372036854775807 := (lens_ints.1 hlens.2.1).1
  clear hlens
  simp (config := {contextual := true}) [Tryd.f109, List.range, List.range.loop, ints, intss, int, bool, row, frac, fracs, ← List.map_take, ← List.map_drop]
  refine awp_range (live := [true, true, false, false, true, true, true, true, true, true, true, true]) (ctx_ok eqOk hG) mixed [true, false, false, false, false, true, false, false, true, true, true] (l.length) (fun k => True) (fun k => ⟨[intss nl xss, .junk, .junk, .junk, .junk, int (awTo xss l k), .junk, .junk, ints nl' l, int l.length, int k, .junk, .junk, .junk, .junk, .junk, .junk, .junk, .junk, .junk, .junk, .junk, .junk, .junk, .junk, .junk], []⟩) ?_ (by simp [sub, slotsLe, clean, keep, refsL, refs, once, place, renL, ren, List.replicate, int, bool, intss, ints, awTo]) ?_ ?_ ?_
  · exact hl
  · trivial
  · intro k h _ hw
    have hk : k < xss.length := by omega
    obtain ⟨h0, hr⟩ := hp2 k h
    rw [getD_at h] at h0
    rw [getD_at h, List.getD_eq_getElem?_getD, List.getElem?_eq_getElem hk] at hr
    simp only [Option.getD_some] at hr
    have hg : xss[k].2[l[k].toNat]? = some (ent xss k l[k]) := ent_get hk (by omega)
    have e : awTo xss l (k + 1) = IntKind.i64.wrap (awTo xss l k + ent xss k l[k]) := by rw [awTo, getD_at h, if_pos h0]
    simp (config := {contextual := true}) [List.range, List.range.loop, ints, intss, int, bool, row, frac, fracs, ← List.map_take, ← List.map_drop, h, hw, Nat.le_of_lt h, hk, hg, e, h0]
  · intro _
    simp (config := {contextual := true}) [List.range, List.range.loop, ints, intss, int, bool, row, frac, fracs, ← List.map_take, ← List.map_drop]

set_option maxHeartbeats 1000000 in
theorem l25Value_ok : FnOk Tryd.prog 105 mRoomV := by
  refine mk_ok fun ⟨nl, xss, nl', l⟩ ⟨hp1, hp2⟩ => ?_
  simp only at hp1 hp2
  have hG : FnsOk Tryd.prog [] := .nil
  refine callOk_awp (ctx_ok eqOk hG) mixed (live := [true, true, false, false, true, true, true, true, true, true, true, true]) (dt := []) Tryd.func105 rfl (by kernel_rfl) (by kernel_rfl) fun w0 hlens => ?_
  have hl : l.length ≤ 9223372036854775807 := (lens_ints.1 hlens.2.1).1
  clear hlens
  simp (config := {contextual := true}) [Tryd.f105, List.range, List.range.loop, ints, intss, int, bool, row, frac, fracs, ← List.map_take, ← List.map_drop]
  refine awp_range (live := [true, true, false, false, true, true, true, true, true, true, true, true]) (ctx_ok eqOk hG) mixed [true, false, false, false, false, true, false, false, true, true, true] (l.length) (fun k => True) (fun k => ⟨[intss nl xss, .junk, .junk, .junk, .junk, int (awTo xss l k), .junk, .junk, ints nl' l, int l.length, int k, .junk, .junk, .junk, .junk, .junk, .junk, .junk, .junk, .junk, .junk, .junk, .junk, .junk, .junk, .junk], []⟩) ?_ (by simp [sub, slotsLe, clean, keep, refsL, refs, once, place, renL, ren, List.replicate, int, bool, intss, ints, awTo]) ?_ ?_ ?_
  · exact hl
  · trivial
  · intro k h _ hw
    have hk : k < xss.length := by omega
    obtain ⟨h0, hr⟩ := hp2 k h
    rw [getD_at h] at h0
    rw [getD_at h, List.getD_eq_getElem?_getD, List.getElem?_eq_getElem hk] at hr
    simp only [Option.getD_some] at hr
    have hg : xss[k].2[l[k].toNat]? = some (ent xss k l[k]) := ent_get hk (by omega)
    have e : awTo xss l (k + 1) = IntKind.i64.wrap (awTo xss l k + ent xss k l[k]) := by rw [awTo, getD_at h, if_pos h0]
    simp (config := {contextual := true}) [List.range, List.range.loop, ints, intss, int, bool, row, frac, fracs, ← List.map_take, ← List.map_drop, h, hw, Nat.le_of_lt h, hk, hg, e, h0]
  · intro _
    simp (config := {contextual := true}) [List.range, List.range.loop, ints, intss, int, bool, row, frac, fracs, ← List.map_take, ← List.map_drop]

theorem orders_all : ∀ n, n ≤ 5 → FnOk Tryd.prog 137 (mOrd n)
  | 0, _ => orders_zero
  | n + 1, h => orders_succ (by omega) (orders_all n (by omega))

/-- The rankings that begin with l and have r more places, in the reference's order. -/
def l03L (m : Nat) : Nat → List Int → List (Bool × List Int)
  | 0, l => [(false, l)]
  | r + 1, l => (List.range m).flatMap fun (i : Nat) => if pos l (i : Int) < 0 then l03L m r (l ++ [(i : Int)]) else []
def l03To (m r : Nat) (l : List Int) (k : Nat) : List (Bool × List Int) := (List.range k).flatMap fun (i : Nat) => if pos l (i : Int) < 0 then l03L m r (l ++ [(i : Int)]) else []
theorem l03To_succ {m r : Nat} {l : List Int} {k : Nat} : l03To m r l (k + 1) = l03To m r l k ++ (if pos l (k : Int) < 0 then l03L m r (l ++ [(k : Int)]) else []) := by
  unfold l03To; rw [List.range_succ, List.flatMap_append]; simp
theorem l03To_all {m r : Nat} {l : List Int} : l03To m r l m = l03L m (r + 1) l := rfl
theorem l03To_le {m r : Nat} {l : List Int} : ∀ {k j : Nat}, k ≤ j → (l03To m r l k).length ≤ (l03To m r l j).length
  | k, 0, h => by rw [Nat.le_zero.1 h]; exact Nat.le_refl _
  | k, j + 1, h => by
    rcases Nat.lt_or_ge k (j + 1) with h' | h'
    · have := l03To_le (m := m) (r := r) (l := l) (show k ≤ j by omega)
      rw [l03To_succ, List.length_append]; omega
    · rw [show k = j + 1 by omega]; exact Nat.le_refl _

theorem rankings_eq : ∀ m, m ≤ 5 → 1 ≤ m → ordR m (idx m) = l03L m m []
  | 1, _, _ => by decide +kernel
  | 2, _, _ => by decide +kernel
  | 3, _, _ => by decide +kernel
  | 4, _, _ => by decide +kernel
  | 5, _, _ => by decide +kernel
  | 0, _, h => by omega
  | m + 6, h, _ => by omega

/-- What the search from the front is asked; o: the rows so far. -/
def LR (o : List (Bool × List Int)) (l : List Int) (m : Int) (r : Nat) : Prop := ((l.length + r : Nat) : Int) = m ∧ m ≤ 5 ∧ o.length + (l03L m.toNat r l).length ≤ 100000

noncomputable def mL03 (r : Nat) : List AV → Option (List Nat × AV) := mkV (fun p => LR p.1 p.2.1 p.2.2 r) (fun (p : List (Bool × List Int) × List Int × Int) => [intss false p.1, ints false p.2.1, int p.2.2]) [0, 1] (fun p => intss false (p.1 ++ l03L p.2.2.toNat r p.2.1))
theorem mL03_at (r : Nat) (o : List (Bool × List Int)) (l : List Int) (m : Int) (h : LR o l m r) : mL03 r [.sl false 1 (o.map row), .sl false 1 (l.map int), .v (.int .i64 m)] = some ([0, 1], .sl false 1 ((o ++ l03L m.toNat r l).map row)) :=
  mkV_eq (enc := fun (p : List (Bool × List Int) × List Int × Int) => [intss false p.1, ints false p.2.1, int p.2.2]) (x := (o, l, m)) (by rintro ⟨a, b, c⟩ ⟨e, f, g⟩ h; simp [intss, ints, int, map_row_inj, map_int_inj] at h; simp [h]) h

set_option maxHeartbeats 1000000 in
theorem l03All_zero : (FnMov Tryd.prog 136 (mL03 0)) := by
  refine mkV_ok fun ⟨o, l, m⟩ h => ?_
  simp only at h
  have hG : FnsOk Tryd.prog [(112, mPos)] := (.cons placeOf_ok .nil)
  refine movOk_awp (ctx_ok eqOk hG) mixed (live := [true, true, true, false, false, false, true, true, false, false, false, true, false, false, false, false, false, false, true, false, false, false, false, false, true]) (dt := []) (mv := [0,1]) Tryd.func136 rfl (by kernel_rfl) (by kernel_rfl) fun US w0 hlens => ?_
  simp only [List.map, List.getD_cons_zero, List.getD_cons_succ, internL, intern, setSl, List.set, List.length_nil, List.nil_append, List.length_map]
  clear hlens
  have hl : (l.length : Int) = m := h.1
  have hb := h.2.2
  simp only [l03L, List.length_cons, List.length_nil] at hb
  have hb2 : o.length + 1 ≤ 4611686018427387904 ∧ (o.length + 1) * 24 ≤ 140737488355328 := by omega
  simp (config := {contextual := true, maxSteps := 1000000}) [Tryd.f136, List.range, List.range.loop, ints, intss, int, bool, row, frac, fracs, ← List.map_take, ← List.map_drop, List.all, hl, l03L, hb2]
  done

set_option maxHeartbeats 2000000 in
theorem l03All_succ {r : Nat} (ih : FnMov Tryd.prog 136 (mL03 r)) : (FnMov Tryd.prog 136 (mL03 (r + 1))) := by
  refine mkV_ok fun ⟨o, l, m'⟩ h => ?_
  simp only at h
  have hG : FnsOk Tryd.prog [(112, mPos)] := (.cons placeOf_ok .nil)
  have hM : FnsMut Tryd.prog [] := .nil
  have hV : FnsMov Tryd.prog [(136, mL03 r)] := (.cons ih .nil)
  refine movOk_awp (ctxV_ok eqOk hG hM hV) mixed (live := [true, true, true, false, false, false, true, true, false, false, false, true, false, false, false, false, false, false, true, false, false, false, false, false, true]) (dt := []) (mv := [0,1]) Tryd.func136 rfl (by kernel_rfl) (by kernel_rfl) fun US w0 hlens => ?_
  simp only [List.map, List.getD_cons_zero, List.getD_cons_succ, internL, intern, setSl, List.set, List.length_nil, List.nil_append, List.length_map]
  clear hlens
  obtain ⟨m, rfl⟩ : ∃ m : Nat, m' = (m : Int) := ⟨l.length + (r + 1), h.1.symm⟩
  have hm : l.length + (r + 1) = m := by have := h.1; omega
  have hm5 : m ≤ 5 := by have := h.2.1; omega
  have hb := h.2.2
  simp only [Int.toNat_natCast] at hb
  have hl : ¬ ((l.length : Int) = (m : Int)) := by omega
  simp (config := {contextual := true, maxSteps := 1000000}) [Tryd.f136, List.range, List.range.loop, ints, intss, int, bool, row, frac, fracs, ← List.map_take, ← List.map_drop, List.all, hl]
  refine awp_loop_of (live := [true, true, true, false, false, false, true, true, false, false, false, true, false, false, false, false, false, false, true, false, false, false, false, false, true]) (ctxV_ok eqOk hG hM hV) mixed [true, true, true, false, false, false, false, true] (α := {k : Nat // k ≤ m}) (fun k => ⟨[.ref 0 [] 0 (o ++ l03To m r l k.1).length, .ref 1 [] 0 l.length, int m, .junk, .junk, .junk, .junk, int (k.1 : Int), .junk, .junk, .junk, .junk, .junk, .junk, .junk, .junk, .junk, .junk, .junk, .junk, .junk, .junk, .junk, .junk, .junk, .junk, .junk, .junk, .junk, .junk, .junk, .junk, .junk, .junk, .junk], [⟨true, .sl false 1 ((o ++ l03To m r l k.1).map row)⟩, ⟨true, .sl false 1 (l.map int)⟩]⟩) (fun k => m - k.1) ⟨0, by omega⟩ (by simp [sub, slotsLe, clean, keep, refsL, refs, once, place, renL, ren, List.replicate, int, bool, l03To, intss]) ?_
  rintro ⟨k, hk⟩
  simp only
  have hsucc := l03To_succ (m := m) (r := r) (l := l) (k := k)
  by_cases hkm : k = m
  · subst hkm
    simp (config := {contextual := true, maxSteps := 1000000}) [List.range, List.range.loop, ints, intss, int, bool, row, frac, fracs, ← List.map_take, ← List.map_drop, List.all, l03To_all]
    done
  have hkm2 : k < m := by omega
  have hw : IntKind.i64.wrap ((k : Int) + 1) = (k : Int) + 1 := by rw [wrapI (by omega) (by omega)]
  have hlb : l.length ≤ 4611686018427387904 ∧ l.length * 8 ≤ 140737488355328 := by omega
  have hlb2 : l.length + 1 ≤ 4611686018427387904 ∧ (l.length + 1) * 8 ≤ 140737488355328 := by omega
  by_cases hp : pos l (k : Int) < 0
  · rw [if_pos hp] at hsucc
    have hle := l03To_le (m := m) (r := r) (l := l) (k := k + 1) (j := m) (by omega)
    rw [l03To_all, hsucc, List.length_append] at hle
    have hcall := mL03_at r (o ++ l03To m r l k) (l ++ [(k : Int)]) m ⟨by simp; omega, by omega, by simp only [Int.toNat_natCast, List.length_append] at hb ⊢; omega⟩
    simp only [Int.toNat_natCast, List.append_assoc, ← hsucc, List.map_append, List.map_cons, List.map_nil, int] at hcall
    have htk : List.take (l.length + 1) (l.map int ++ [AV.v (.int .i64 k)]) = l.map int ++ [AV.v (.int .i64 k)] := List.take_of_length_le (by simp)
    have hto : List.take (o.length + (l03To m r l k).length) (o.map row ++ (l03To m r l k).map row) = o.map row ++ (l03To m r l k).map row := List.take_of_length_le (by simp)
    simp (config := {contextual := true, maxSteps := 1000000}) [List.range, List.range.loop, ints, intss, int, bool, row, frac, fracs, ← List.map_take, ← List.map_drop, List.all, hkm2, hw, mPos_at, hp, hlb, hlb2, htk, hto, hcall]
    exact ⟨⟨k + 1, by omega⟩, by simp [sub, slotsLe, clean, keep, refsL, refs, once, place, renL, ren, List.replicate, int, bool], by simp; omega⟩
  · rw [if_neg hp, List.append_nil] at hsucc
    simp (config := {contextual := true, maxSteps := 1000000}) [List.range, List.range.loop, ints, intss, int, bool, row, frac, fracs, ← List.map_take, ← List.map_drop, List.all, hkm2, hw, mPos_at, hp]
    exact ⟨⟨k + 1, by omega⟩, by simp [sub, slotsLe, clean, keep, refsL, refs, once, place, renL, ren, List.replicate, int, bool, hsucc], by simp; omega⟩

end Go.Proofs.YtkfgmpmeipilnaaDoor.Ax

/-
  Contracts: all rankings, the best choice of rooms (both programs). No condition.
-/
namespace Go.Proofs.YtkfgmpmeipilnaaDoor.Ax
open Go Go.RowKit
set_option linter.unusedSimpArgs false

/-- All rankings of m, when m is in its range. -/
def allRk (m : Int) : List (Bool × List Int) := if inR 1 5 m = true then l03L m.toNat m.toNat [] else []

noncomputable def mOrdA : List AV → Option AV := mk (fun p => 1 ≤ p.length ∧ p.length ≤ 5) (fun p => [ints false p]) (fun p => .sl false 1 ((ordR p.length p).map row))
theorem mOrdA_at (l : List Int) (h : 1 ≤ l.length ∧ l.length ≤ 5) : mOrdA [.sl false 1 (l.map int)] = some (.sl false 1 ((ordR l.length l).map row)) :=
  mk_eq (enc := fun (p : List Int) => [ints false p]) (x := l) (by intro a b h; simp [ints, map_int_inj] at h; rw [h]) h
theorem ordersA_ok : FnOk Tryd.prog 137 mOrdA := by
  refine mk_ok fun l h => ?_
  exact orders_all l.length h.2 _ _ (mOrd_at l.length false l ⟨rfl, h.2, fun h => by simp at h⟩)

noncomputable def mL03S : List AV → Option (List Nat × AV) := mkV (fun m => 0 ≤ m ∧ m ≤ 5) (fun (m : Int) => [intss false [], ints false [], int m]) [0, 1] (fun m => intss false (l03L m.toNat m.toNat []))
theorem mL03S_at (m : Int) (h : 0 ≤ m ∧ m ≤ 5) : mL03S [.sl false 1 [], .sl false 1 [], .v (.int .i64 m)] = some ([0, 1], .sl false 1 ((l03L m.toNat m.toNat []).map row)) :=
  mkV_eq (enc := fun (m : Int) => [intss false [], ints false [], int m]) (x := m) (by intro a b h; simp [int] at h; rw [h]) h

theorem l03All_all : ∀ r, FnMov Tryd.prog 136 (mL03 r)
  | 0 => l03All_zero
  | r + 1 => l03All_succ (l03All_all r)

def rkB (m : Nat) : Bool := decide ((l03L m m []).length ≤ 120) && decide ((l03L m m []).length ≠ 0) && (l03L m m []).all fun r => !r.1 && rankB m r.2
theorem rkB_at : ∀ m, 1 ≤ m → m ≤ 5 → rkB m = true
  | 1, _, _ => by decide +kernel
  | 2, _, _ => by decide +kernel
  | 3, _, _ => by decide +kernel
  | 4, _, _ => by decide +kernel
  | 5, _, _ => by decide +kernel
  | 0, h, _ => by omega
  | m + 6, _, h => by omega

theorem l03L_facts {m : Nat} (h1 : 1 ≤ m) (h5 : m ≤ 5) : (l03L m m []).length ≤ 120 ∧ (l03L m m []).length ≠ 0 ∧ ∀ r ∈ l03L m m [], r.1 = false ∧ rankB m r.2 = true := by
  have := rkB_at m h1 h5
  simp only [rkB, Bool.and_eq_true, decide_eq_true_eq, List.all_eq_true, Bool.not_eq_true'] at this
  exact ⟨this.1.1, this.1.2, this.2⟩

theorem l03AllS_ok : FnMov Tryd.prog 136 mL03S := by
  refine mkV_ok fun m h => ?_
  have hl : (l03L m.toNat m.toNat []).length ≤ 100000 := by
    rcases Int.lt_or_le 0 m with h0 | h0
    · have := (l03L_facts (m := m.toNat) (by omega) (by omega)).1; omega
    · rw [show m.toNat = 0 by omega]; simp [l03L]
  exact l03All_all m.toNat _ _ _ (mL03_at m.toNat [] [] m ⟨by simp; omega, h.2, by simpa using hl⟩)

noncomputable def mAllRk : List AV → Option AV := mk (fun _ => True) (fun (p : (Int)) => [int p]) (fun p => .sl (!inR 1 5 p) 1 ((allRk p).map row))
theorem mAllRk_at (m : Int) : mAllRk [.v (.int .i64 m)] = some (.sl (!inR 1 5 m) 1 ((allRk m).map row)) :=
  mk_eq (enc := fun (p : (Int)) => [int p]) (x := (m)) (by rintro a0 b0 h; simp [ints, intss, int, bool, row, frac, fracs, map_int_inj, map_row_inj, frac_inj, map_frac_inj] at h; simp [h]) trivial

theorem implAllRankings_ok : FnOk Tryd.prog 108 mAllRk := by
  refine mk_ok fun m _ => ?_
  have hG : FnsOk Tryd.prog [(69, mWithin), (51, mIdx), (137, mOrdA)] := (.cons within_ok (.cons indices_ok (.cons ordersA_ok .nil)))
  refine callOk_awp (ctx_ok eqOk hG) mixed (live := [true, false, true, false, false, true]) (dt := []) Tryd.func108 rfl (by kernel_rfl) (by kernel_rfl) fun w0 hlens => ?_
  clear hlens
  cases h : inR 1 5 m with
  | false => simp (config := {contextual := true}) [Tryd.f108, List.range, List.range.loop, ints, intss, int, bool, row, frac, fracs, ← List.map_take, ← List.map_drop, mWithin_in, h, allRk]
  | true =>
    have h2 : 1 ≤ m ∧ m ≤ 5 := by simpa [inR] using h
    obtain ⟨n, rfl⟩ : ∃ n : Nat, m = (n : Int) := ⟨m.toNat, by omega⟩
    have hi := mIdx_at n (by omega)
    have ho := mOrdA_at (idx n) (by rw [idx_len]; omega)
    rw [idx_len, rankings_eq n (by omega) (by omega)] at ho
    have htk : List.take n ((idx n).map int) = (idx n).map int := List.take_of_length_le (by simp [idx_len])
    simp (config := {contextual := true}) [Tryd.f108, List.range, List.range.loop, ints, intss, int, bool, row, frac, fracs, ← List.map_take, ← List.map_drop, mWithin_in, h, allRk, hi, ho, idx_len, htk]

theorem specAllRankings_ok : FnOk Tryd.prog 104 mAllRk := by
  refine mk_ok fun m _ => ?_
  have hG : FnsOk Tryd.prog [(61, mWithin)] := (.cons l01In_ok .nil)
  have hM : FnsMut Tryd.prog [] := .nil
  have hV : FnsMov Tryd.prog [(136, mL03S)] := (.cons l03AllS_ok .nil)
  refine callOk_awp (ctxV_ok eqOk hG hM hV) mixed (live := [true, false, true, false, false, true]) (dt := []) Tryd.func104 rfl (by kernel_rfl) (by kernel_rfl) fun w0 hlens => ?_
  clear hlens
  cases h : inR 1 5 m with
  | false => simp (config := {contextual := true}) [Tryd.f104, List.range, List.range.loop, ints, intss, int, bool, row, frac, fracs, ← List.map_take, ← List.map_drop, List.all, mWithin_in, h, allRk]
  | true =>
    have h2 : 1 ≤ m ∧ m ≤ 5 := by simpa [inR] using h
    have ho := mL03S_at m (by omega)
    simp (config := {contextual := true}) [Tryd.f104, List.range, List.range.loop, ints, intss, int, bool, row, frac, fracs, ← List.map_take, ← List.map_drop, List.all, mWithin_in, h, allRk, ho]

/-- The place of the first best so far and how many are as good. -/
def bstep (W : Nat → Int) (k : Nat) : Option (Nat × Int) → Option (Nat × Int)
  | none => some (k, 1)
  | some (i, n) => if W i < W k then some (k, 1) else if W k = W i then some (i, n + 1) else some (i, n)
def bstTo (W : Nat → Int) : Nat → Option (Nat × Int)
  | 0 => none
  | k + 1 => bstep W k (bstTo W k)
theorem bstTo_succ {W : Nat → Int} {k : Nat} : bstTo W (k + 1) = bstep W k (bstTo W k) := rfl
theorem bstTo_facts {W : Nat → Int} : ∀ {k : Nat}, (k = 0 ∧ bstTo W k = none) ∨ ∃ i n, bstTo W k = some (i, n) ∧ 0 ≤ n ∧ n ≤ k ∧ i < k
  | 0 => .inl ⟨rfl, rfl⟩
  | k + 1 => by
    right
    rcases bstTo_facts (W := W) (k := k) with ⟨_, h0⟩ | ⟨b, n, h0, h1, h2, h3⟩
    · simp only [bstTo, bstep, h0]; exact ⟨_, _, rfl, by omega, by omega, by omega⟩
    · simp only [bstTo, bstep, h0]
      split
      · exact ⟨_, _, rfl, by omega, by omega, by omega⟩
      · split
        · exact ⟨_, _, rfl, by omega, by omega, by omega⟩
        · exact ⟨_, _, rfl, by omega, by omega, by omega⟩

/-- The k-th ranking; what it is worth. -/
def nth (L : List (Bool × List Int)) (k : Nat) : List Int := (L.getD k (true, [])).2
theorem nth_at {L : List (Bool × List Int)} {k : Nat} (h : k < L.length) : nth L k = L[k].2 := by simp [nth, List.getD_eq_getElem?_getD, h]
def wR (xss : List (Bool × List Int)) (l : List Int) : Int := awTo xss l l.length
def wK (xss L : List (Bool × List Int)) (k : Nat) : Int := wR xss (nth L k)
/-- The first best choice of rooms and how many are as good. -/
def brOf (L : List (Bool × List Int)) : Option (Nat × Int) → List Int × Int
  | none => ([], 0)
  | some (i, n) => (nth L i, n)
def bR (xss : List (Bool × List Int)) : List Int × Int := if rentB xss = true then brOf (allRk xss.length) (bstTo (wK xss (allRk xss.length)) (allRk xss.length).length) else ([], 0)

theorem rent_rm {xss : List (Bool × List Int)} (h : rentB xss = true) {l : List Int} (hl : rankB xss.length l = true) : rmPre xss l := by
  obtain ⟨h1, h2, h3⟩ := rent_facts h
  have hlen := rank_len hl
  refine ⟨by omega, fun i hi => ?_⟩
  have hr := (h3 i (by omega)).1
  have := rank_in hl hi
  rw [getD_at hi, List.getD_eq_getElem?_getD, List.getElem?_eq_getElem (by omega)]
  simp only [Option.getD_some]; omega

noncomputable def mBestRms : List AV → Option AV := mk (fun _ => True) (fun (p : (Bool) × (List (Bool × List Int))) => [intss p.1 p.2]) (fun p => .tup [.sl (!rentB p.2) 1 ((bR p.2).1.map int), .v (.int .i64 (bR p.2).2)])
theorem mBestRms_at (nl : Bool) (xss : List (Bool × List Int)) : mBestRms [.sl nl 1 (xss.map row)] = some (.tup [.sl (!rentB xss) 1 ((bR xss).1.map int), .v (.int .i64 (bR xss).2)]) :=
  mk_eq (enc := fun (p : (Bool) × (List (Bool × List Int))) => [intss p.1 p.2]) (x := (nl, xss)) (by rintro ⟨a0, a1⟩ ⟨b0, b1⟩ h; simp [ints, intss, int, bool, row, frac, fracs, map_int_inj, map_row_inj, frac_inj, map_frac_inj] at h; simp [h]) trivial
noncomputable def mL25Best : List AV → Option AV := mk (fun p => rentB p.2 = true) (fun (p : (Bool) × (List (Bool × List Int))) => [intss p.1 p.2]) (fun p => .tup [.sl (!rentB p.2) 1 ((bR p.2).1.map int), .v (.int .i64 (bR p.2).2)])
theorem mL25Best_at (nl : Bool) (xss : List (Bool × List Int)) (hpre : rentB xss = true) : mL25Best [.sl nl 1 (xss.map row)] = some (.tup [.sl (!rentB xss) 1 ((bR xss).1.map int), .v (.int .i64 (bR xss).2)]) :=
  mk_eq (enc := fun (p : (Bool) × (List (Bool × List Int))) => [intss p.1 p.2]) (x := (nl, xss)) (by rintro ⟨a0, a1⟩ ⟨b0, b1⟩ h; simp [ints, intss, int, bool, row, frac, fracs, map_int_inj, map_row_inj, frac_inj, map_frac_inj] at h; simp [h]) hpre
noncomputable def mBestRooms : List AV → Option AV := mk (fun _ => True) (fun (p : (Bool) × (List (Bool × List Int))) => [intss p.1 p.2]) (fun p => .sl (!rentB p.2) 1 ((bR p.2).1.map int))
theorem mBestRooms_at (nl : Bool) (xss : List (Bool × List Int)) : mBestRooms [.sl nl 1 (xss.map row)] = some (.sl (!rentB xss) 1 ((bR xss).1.map int)) :=
  mk_eq (enc := fun (p : (Bool) × (List (Bool × List Int))) => [intss p.1 p.2]) (x := (nl, xss)) (by rintro ⟨a0, a1⟩ ⟨b0, b1⟩ h; simp [ints, intss, int, bool, row, frac, fracs, map_int_inj, map_row_inj, frac_inj, map_frac_inj] at h; simp [h]) trivial

def apP (m : Nat) : Option (Nat × Int) → AV
  | none => .sl true 1 []
  | some (i, _) => .ref 0 [(i, 0)] 0 m
def apQ (m : Nat) : Option (Nat × Int) → AV
  | none => .ref 0 [] 0 0
  | some (i, _) => .ref 0 [(i, 0)] 0 m
def apR (n : Nat) : Option (Nat × Int) → AV
  | none => .ref 1 [] 0 n
  | some _ => .ref 0 [] 0 n
def apQt (L : List (Bool × List Int)) : Option (Nat × Int) → List Tok
  | none => [⟨true, .sl false 1 []⟩, ⟨true, .sl false 1 (L.map row)⟩]
  | some _ => [⟨true, .sl false 1 (L.map row)⟩]
def apN : Option (Nat × Int) → AV
  | none => int 0
  | some (_, n) => int n

theorem best_facts {xss : List (Bool × List Int)} (h1 : rentB xss = true) : (allRk xss.length).length ≤ 120 ∧ (allRk xss.length).length ≠ 0 ∧ ∀ r ∈ allRk xss.length, r.1 = false ∧ rankB xss.length r.2 = true := by
  obtain ⟨r1, r2, _⟩ := rent_facts h1
  have h : allRk xss.length = l03L xss.length xss.length [] := by
    have : inR 1 5 (xss.length : Int) = true := by simp [inR]; omega
    simp [allRk, this]
  rw [h]
  exact l03L_facts r1 (by omega)

set_option maxHeartbeats 2000000 in
theorem implBestRms_ok : FnOk Tryd.prog 73 mBestRms := by
  refine mk_ok fun ⟨nl, xss⟩ _ => ?_
  have hG : FnsOk Tryd.prog [(68, mRent), (108, mAllRk), (109, mRoomV)] := (.cons implRentOk_ok (.cons implAllRankings_ok (.cons roomValue_ok .nil)))
  refine callOk_awp (ctx_ok eqOk hG) mixed (live := [true, false, true, true, true, true, false, true, false, false, true, false, false, true, true, true, true, false, false, true, false, false, false, false, false, false, false, false, false, false, false, false, true]) (dt := []) Tryd.func73 rfl (by kernel_rfl) (by kernel_rfl) fun w0 hlens => ?_
  clear hlens
  cases h1 : rentB xss with
  | false => simp (config := {contextual := true}) [Tryd.f73, List.range, List.range.loop, ints, intss, int, bool, row, frac, fracs, ← List.map_take, ← List.map_drop, mRent_at, h1, bR]
  | true =>
  obtain ⟨r1, r2, _⟩ := rent_facts h1
  obtain ⟨q1, q2, q3⟩ := best_facts h1
  have hin : inR 1 5 (xss.length : Int) = true := by simp [inR]; omega
  have hall := mAllRk_at (xss.length : Int)
  rw [hin] at hall
  have hbR : bR xss = brOf (allRk xss.length) (bstTo (wK xss (allRk xss.length)) (allRk xss.length).length) := by simp [bR, h1]
  generalize allRk xss.length = L at *
  have hfac := fun (k : Nat) => bstTo_facts (W := wK xss L) (k := k)
  simp (config := {contextual := true}) [Tryd.f73, List.range, List.range.loop, ints, intss, int, bool, row, frac, fracs, ← List.map_take, ← List.map_drop, mRent_at, h1, hall]
  refine awp_range (live := [true, false, true, true, true, true, false, true, false, false, true, false, false, true, true, true, true, false, false, true, false, false, false, false, false, false, false, false, false, false, false, false, true]) (ctx_ok eqOk hG) mixed [true, false, false, false, true, true, false, false, false, false, false, false, false, true, true, true] (L.length) (fun k => True) (fun k => ⟨[intss nl xss, .junk, .junk, .junk, apP xss.length (bstTo (wK xss L) k), apN (bstTo (wK xss L) k), .junk, .junk, .junk, .junk, .junk, .junk, .junk, .ref 0 [] 0 L.length, int L.length, int k, .junk, .junk, .junk, .junk, .junk, .junk, .junk, .junk, .junk, .junk, .junk, .junk, .junk, .junk, .junk, .junk, .junk, .junk, .junk, .junk, .junk, .junk, .junk, .junk, .junk, .junk, .junk, .junk, .junk], [⟨true, .sl false 1 (L.map row)⟩]⟩) ?_ (by simp [sub, slotsLe, clean, keep, refsL, refs, once, place, renL, ren, List.replicate, int, bool, apP, apN, bstTo, intss]) ?_ ?_ ?_
  · omega
  · trivial
  · intro k hk _ hwk
    have hr := q3 _ (List.getElem_mem hk)
    have hrl := hr.1
    have hv := mRoomV_at nl xss false L[k].2 (rent_rm h1 hr.2)
    have hvw : awTo xss L[k].2 L[k].2.length = wK xss L k := by rw [wK, nth_at hk]; rfl
    have hlk := rank_len hr.2
    have hlk' : L[k].2.length = xss.length := by omega
    rw [hvw] at hv
    have htk : List.take xss.length (L[k].2.map int) = L[k].2.map int := List.take_of_length_le (by simp; omega)
    have hs := bstTo_succ (W := wK xss L) (k := k)
    rcases hfac k with ⟨_, h0⟩ | ⟨i, n, h0, hn1, hn2, hi⟩
    · simp only [h0, bstep] at hs
      simp (config := {contextual := true}) [List.range, List.range.loop, ints, intss, int, bool, row, frac, fracs, ← List.map_take, ← List.map_drop, hk, hwk, h0, hs, apP, apN, hrl, hv, hlk', htk]
      done
    · have hiL : i < L.length := by omega
      have hri := q3 _ (List.getElem_mem hiL)
      have hril := hri.1
      have hvb := mRoomV_at nl xss false L[i].2 (rent_rm h1 hri.2)
      have hvw : awTo xss L[i].2 L[i].2.length = wK xss L i := by rw [wK, nth_at hiL]; rfl
      have hli := rank_len hri.2
      have hli' : L[i].2.length = xss.length := by omega
      have htki : List.take xss.length (L[i].2.map int) = L[i].2.map int := List.take_of_length_le (by simp; omega)
      rw [hvw] at hvb
      have hwn : IntKind.i64.wrap (n + 1) = n + 1 := wrapI (by omega) (by omega)
      simp only [h0, bstep] at hs
      by_cases e1 : wK xss L i < wK xss L k
      · rw [if_pos e1] at hs
        simp (config := {contextual := true}) [List.range, List.range.loop, ints, intss, int, bool, row, frac, fracs, ← List.map_take, ← List.map_drop, hk, hwk, h0, hs, apP, apN, hrl, hv, hvb, e1, hlk', htk, hli', htki, hiL, hril]
        done
      · rw [if_neg e1] at hs
        by_cases e2 : wK xss L k = wK xss L i
        · rw [if_pos e2] at hs
          simp (config := {contextual := true}) [List.range, List.range.loop, ints, intss, int, bool, row, frac, fracs, ← List.map_take, ← List.map_drop, hk, hwk, h0, hs, apP, apN, hrl, hv, hvb, e1, e2, hwn, hlk', htk, hli', htki, hiL, hril]
          done
        · rw [if_neg e2] at hs
          simp (config := {contextual := true}) [List.range, List.range.loop, ints, intss, int, bool, row, frac, fracs, ← List.map_take, ← List.map_drop, hk, hwk, h0, hs, apP, apN, hrl, hv, hvb, e1, e2, hlk', htk, hli', htki, hiL, hril]
          done
  · intro _
    rcases hfac L.length with ⟨hz, _⟩ | ⟨i, n, h0, _, _, hi⟩
    · omega
    simp only [h0, brOf, nth_at hi] at hbR
    have hri := q3 _ (List.getElem_mem hi)
    have hril := hri.1
    have hli := rank_len hri.2
    have hli' : L[i].2.length = xss.length := by omega
    have htki : List.take xss.length (L[i].2.map int) = L[i].2.map int := List.take_of_length_le (by simp; omega)
    simp (config := {contextual := true}) [List.range, List.range.loop, ints, intss, int, bool, row, frac, fracs, ← List.map_take, ← List.map_drop, h0, hbR, apP, apN, hi, hril, hli', htki]
    done

end Go.Proofs.YtkfgmpmeipilnaaDoor.Ax
