/-
  Contracts: HousesOk (both programs). No condition.
-/
import Derived.Test.YtmeokgedldnohaaDoorCG38
import Derived.Test.YtmeokgedldnohaaDoorCB2
namespace Go.Proofs.YtmeokgedldnohaaDoor.Ax
open Go Go.RowKit
set_option linter.unusedSimpArgs false

def ranksB (m : Int) (xss : List (Bool × List Int)) : Bool := xss.all fun r => rankB m r.2
noncomputable def mAreR : List AV → Option AV := mk (fun _ => True) (fun (p : (Int) × (Bool) × (List (Bool × List Int))) => [int p.1, intss p.2.1 p.2.2]) (fun p => bool (ranksB p.1 p.2.2))
theorem mAreR_at (m : Int) (nl : Bool) (xss : List (Bool × List Int)) : mAreR [.v (.int .i64 m), .sl nl 1 (xss.map row)] = some (.v (.bool (ranksB m xss))) :=
  mk_eq (enc := fun (p : (Int) × (Bool) × (List (Bool × List Int))) => [int p.1, intss p.2.1 p.2.2]) (x := (m, nl, xss)) (by rintro ⟨a0, a1, a2⟩ ⟨b0, b1, b2⟩ h; simp [ints, intss, int, bool, row, frac, fracs, map_int_inj, map_row_inj, frac_inj, map_frac_inj] at h; simp [h]) trivial
noncomputable def mL17 : List AV → Option AV := mk (fun _ => True) (fun (p : (Bool) × (List (Bool × List Int)) × (Int)) => [intss p.1 p.2.1, int p.2.2]) (fun p => bool (decide ((p.2.1.length : Int) = p.2.2) && ranksB p.2.2 p.2.1))
theorem mL17_at (nl : Bool) (xss : List (Bool × List Int)) (m : Int) : mL17 [.sl nl 1 (xss.map row), .v (.int .i64 m)] = some (.v (.bool (decide ((xss.length : Int) = m) && ranksB m xss))) :=
  mk_eq (enc := fun (p : (Bool) × (List (Bool × List Int)) × (Int)) => [intss p.1 p.2.1, int p.2.2]) (x := (nl, xss, m)) (by rintro ⟨a0, a1, a2⟩ ⟨b0, b1, b2⟩ h; simp [ints, intss, int, bool, row, frac, fracs, map_int_inj, map_row_inj, frac_inj, map_frac_inj] at h; simp [h]) trivial

theorem areRankings1 (m : Int) (r : Bool × List Int) : CallOk Tryd.prog 127 [row r, .fp (int m) 0] (.v (.bool (!rankB m r.2))) := by
  have hG : FnsOk Tryd.prog [(88, mRank)] := (.cons implRankingOk_ok .nil)
  refine callOk_awp (ctx_ok eqOk hG) mixed (live := [true, true, false, true]) (dt := []) Tryd.func127 rfl (by kernel_rfl) (by kernel_rfl) fun w0 hlens => ?_
  simp (config := {contextual := true}) [Tryd.f127, List.range, List.range.loop, ints, intss, int, bool, row, frac, fracs, ← List.map_take, ← List.map_drop, mRank_at]

set_option maxHeartbeats 1000000 in
theorem areRankings_ok : FnOk Tryd.prog 77 mAreR := by
  refine mk_ok fun ⟨m, nl, xss⟩ _ => ?_
  obtain ⟨mm, hm, hma⟩ := as_model (containsIntss (g := 127) (pure_fp (a := int m) (j := 0) pure_nil) (fun r => !rankB m r.2) nl xss (fun x _ => areRankings1 m x))
  simp only [intss, int, bool] at hma
  have hnn := not_any_not (p := fun r : Bool × List Int => rankB m r.2) (xs := xss)
  have hs : ranksB m xss = !(xss.any fun r => !rankB m r.2) := by unfold ranksB; rw [← hnn]
  rw [hs]
  generalize xss.any (fun r => !rankB m r.2) = bb at hma hnn
  have hG : FnsOk Tryd.prog [(126, mm)] := (.cons hm .nil)
  refine callOk_awp (ctx_ok eqOk hG) mixed (live := [true, true, true, false, true]) (dt := []) Tryd.func77 rfl (by kernel_rfl) (by kernel_rfl) fun w0 hlens => ?_
  simp (config := {contextual := true}) [Tryd.f77, List.range, List.range.loop, ints, intss, int, bool, row, frac, fracs, ← List.map_take, ← List.map_drop, hma]

def ranksAt (m : Int) (xss : List (Bool × List Int)) (k : Nat) : Bool := rankB m (xss.getD k (true, [])).2
theorem ranksAt_at {m : Int} {xss : List (Bool × List Int)} {k : Nat} (h : k < xss.length) : ranksAt m xss k = rankB m xss[k].2 := by unfold ranksAt; simp [List.getD_eq_getElem?_getD, h]
theorem ranks_allR {m : Int} {xss : List (Bool × List Int)} : ranksB m xss = allR xss.length (ranksAt m xss) := by
  unfold ranksB allR
  rw [Bool.eq_iff_iff]; simp only [List.all_eq_true, List.mem_range]
  constructor
  · intro h i hi
    rw [ranksAt_at hi]; exact h _ (List.getElem_mem _)
  · intro h x hx
    obtain ⟨i, hi, rfl⟩ := List.getElem_of_mem hx
    have := h i hi
    rwa [ranksAt_at hi] at this

set_option maxHeartbeats 2000000 in
theorem l17Lists_ok : FnOk Tryd.prog 73 mL17 := by
  refine mk_ok fun ⟨nl, xss, m⟩ _ => ?_
  have hG : FnsOk Tryd.prog [(83, mRank)] := (.cons specRankingOk_ok .nil)
  refine callOk_awp (ctx_ok eqOk hG) mixed (live := [true, true, false, false, true, false, true, false, false, false, true, true, true, true, true, false, false, false, false, false, true]) (dt := []) Tryd.func73 rfl (by kernel_rfl) (by kernel_rfl) fun w0 hlens => ?_
  have hll := (lens_intss.1 hlens.1).1.1
  clear hlens
  by_cases h1 : (xss.length : Int) = m
  rotate_left
  · have h1' : ((xss.length : Int) != m) = true := by simpa using h1
    simp (config := {contextual := true}) [Tryd.f73, List.range, List.range.loop, ints, intss, int, bool, row, frac, fracs, ← List.map_take, ← List.map_drop, h1, h1']
  have hm : (decide ((xss.length : Int) = m) && ranksB m xss) = allR xss.length (ranksAt m xss) := by simp [h1, ranks_allR]
  generalize (decide ((xss.length : Int) = m) && ranksB m xss) = r at *
  simp (config := {contextual := true}) [Tryd.f73, List.range, List.range.loop, ints, intss, int, bool, row, frac, fracs, ← List.map_take, ← List.map_drop, h1]
  refine awp_range (live := [true, true, false, false, true, false, true, false, false, false, true, true, true, true, true, false, false, false, false, false, true]) (ctx_ok eqOk hG) mixed [false, true, false, false, false, false, false, false, false, false, false, true, true, true] (xss.length) (fun k => upto (ranksAt m xss) k) (fun k => ⟨[.junk, int m, .junk, .junk, .junk, .junk, .junk, .junk, .junk, .junk, .junk, intss nl xss, int xss.length, int k, .junk, .junk, .junk, .junk, .junk, .junk, .junk, .junk], []⟩) ?_ (by simp [sub, slotsLe, clean, keep, refsL, refs, once, place, renL, ren, List.replicate, int, bool, intss, h1]) ?_ ?_ ?_
  · exact hll
  · exact upto_zero
  · intro k h hp hwk
    have hf : ranksAt m xss k = false → r = false := fun hf => by rw [hm, allR_no h hf]
    have ht := upto_succ hp
    rw [ranksAt_at h] at hf ht
    cases hi : rankB m xss[k].2 with
    | false => rw [hf hi]; simp (config := {contextual := true}) [List.range, List.range.loop, ints, intss, int, bool, row, frac, fracs, ← List.map_take, ← List.map_drop, h, hwk, mRank_at, hi]
    | true => simp (config := {contextual := true}) [List.range, List.range.loop, ints, intss, int, bool, row, frac, fracs, ← List.map_take, ← List.map_drop, h, hwk, mRank_at, hi, ht hi]
  · intro hp
    rw [allR_yes hp] at hm
    subst hm
    simp (config := {contextual := true}) [List.range, List.range.loop, ints, intss, int, bool, row, frac, fracs, ← List.map_take, ← List.map_drop]

def housesB (xss : List (Bool × List Int)) : Bool := inR 1 5 xss.length && ranksB xss.length xss
noncomputable def mHouses : List AV → Option AV := mk (fun _ => True) (fun (p : (Bool) × (List (Bool × List Int))) => [intss p.1 p.2]) (fun p => bool (housesB p.2))
theorem mHouses_at (nl : Bool) (xss : List (Bool × List Int)) : mHouses [.sl nl 1 (xss.map row)] = some (.v (.bool (housesB xss))) :=
  mk_eq (enc := fun (p : (Bool) × (List (Bool × List Int))) => [intss p.1 p.2]) (x := (nl, xss)) (by rintro ⟨a0, a1⟩ ⟨b0, b1⟩ h; simp [ints, intss, int, bool, row, frac, fracs, map_int_inj, map_row_inj, frac_inj, map_frac_inj] at h; simp [h]) trivial
set_option maxHeartbeats 1000000 in
theorem implHouses_ok : FnOk Tryd.prog 39 mHouses := by
  refine mk_ok fun ⟨nl, xss⟩ _ => ?_
  have hG : FnsOk Tryd.prog [(76, mWithin), (77, mAreR)] := (.cons within_ok (.cons areRankings_ok .nil))
  refine callOk_awp (ctx_ok eqOk hG) mixed (live := [true, false, true]) (dt := []) Tryd.func39 rfl (by kernel_rfl) (by kernel_rfl) fun w0 hlens => ?_
  cases h1 : inR 1 5 xss.length <;> simp (config := {contextual := true}) [Tryd.f39, List.range, List.range.loop, ints, intss, int, bool, row, frac, fracs, ← List.map_take, ← List.map_drop, mWithin_in, mAreR_at, mL17_at, h1, housesB]

set_option maxHeartbeats 1000000 in
theorem specHouses_ok : FnOk Tryd.prog 34 mHouses := by
  refine mk_ok fun ⟨nl, xss⟩ _ => ?_
  have hG : FnsOk Tryd.prog [(72, mWithin), (73, mL17)] := (.cons l01In_ok (.cons l17Lists_ok .nil))
  refine callOk_awp (ctx_ok eqOk hG) mixed (live := [true, false, true]) (dt := []) Tryd.func34 rfl (by kernel_rfl) (by kernel_rfl) fun w0 hlens => ?_
  cases h1 : inR 1 5 xss.length <;> simp (config := {contextual := true}) [Tryd.f34, List.range, List.range.loop, ints, intss, int, bool, row, frac, fracs, ← List.map_take, ← List.map_drop, mWithin_in, mAreR_at, mL17_at, h1, housesB]

end Go.Proofs.YtmeokgedldnohaaDoor.Ax
