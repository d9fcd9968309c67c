/-
  Contracts: BestAward, BestWorth, WorthWithout (both programs). No condition.
-/
import Derived.Test.YtlkgppincgpfjaaDoorCG6
import Derived.Test.YtlkgppincgpfjaaDoorCG2
import Derived.Test.YtlkgppincgpfjaaDoorCG1
import Derived.Test.YtlkgppincgpfjaaDoorCG3
namespace Go.Proofs.YtlkgppincgpfjaaDoor.Ax
open Go Go.RowKit
set_option linter.unusedSimpArgs false

/-- The first best award in which the bidder wo gets nothing. -/
noncomputable def bestA (xss : List (Bool × List Int)) (wo : Int) : List Int := (bs xss wo xss.length []).getD []

theorem lb_nil {xss : List (Bool × List Int)} {wo : Int} (h : rectB xss 4 4 1000 = true) (hw : -1 ≤ wo) : LB xss [] wo xss.length := ⟨h, hw, by simp, okP_nil, by simp⟩
theorem bestA_eq {xss : List (Bool × List Int)} {wo : Int} (h : rectB xss 4 4 1000 = true) (hw : -1 ≤ wo) : bestO (wAw xss) (okP wo) (allL (-1) ((wid xss : Int) - 1) xss.length) = some (bestA xss wo) := by
  have h1 := bs_eq (lb_nil h hw)
  obtain ⟨l, hl⟩ := bs_some (xss := xss) (wo := wo) xss.length []
  have h2 : bestA xss wo = l := by unfold bestA; rw [hl]; rfl
  rw [h2, ← hl, h1]; simp
theorem bestA_mem {xss : List (Bool × List Int)} {wo : Int} (h : rectB xss 4 4 1000 = true) (hw : -1 ≤ wo) : (bestA xss wo).length = xss.length ∧ (∀ x ∈ bestA xss wo, -1 ≤ x ∧ x ≤ (wid xss : Int) - 1) ∧ okP wo (bestA xss wo) = true := by
  obtain ⟨l, hl⟩ := bs_some (xss := xss) (wo := wo) xss.length []
  have h2 : bestA xss wo = l := by unfold bestA; rw [hl]; rfl
  rw [h2]
  exact bs_mem (lb_nil h hw) hl
theorem bestA_award {xss : List (Bool × List Int)} {wo : Int} (h : rectB xss 4 4 1000 = true) (hw : -1 ≤ wo) : awardB xss (bestA xss wo) = true := by
  obtain ⟨h1, h2, h3⟩ := bestA_mem h hw
  simp only [okP, Bool.and_eq_true] at h3
  simp only [awardB, Bool.and_eq_true, decide_eq_true_eq, h, h1, h3.1, true_and, and_true]
  unfold allIn
  rw [List.all_eq_true]
  intro x hx
  simpa [inR] using h2 x hx
theorem bestA_pre {xss : List (Bool × List Int)} {wo : Int} (h : rectB xss 4 4 1000 = true) (hw : -1 ≤ wo) : (bestA xss wo).length ≤ xss.length ∧ ∀ i, i < (bestA xss wo).length → (bestA xss wo).getD i 0 < ((xss.getD i (true, [])).2.length : Int) := awW_pre (bestA_award h hw)

noncomputable def mBestS : List AV → Option (List Nat × AV) := mkV (fun p => rectB p.2.1 4 4 1000 = true ∧ -1 ≤ p.2.2) (fun (p : Bool × List (Bool × List Int) × Int) => [intss p.1 p.2.1, ints false [], int p.2.2]) [1] (fun p => ints false (bestA p.2.1 p.2.2))
theorem mBestS_at (nl : Bool) (xss : List (Bool × List Int)) (wo : Int) (h : rectB xss 4 4 1000 = true ∧ -1 ≤ wo) : mBestS [.sl nl 1 (xss.map row), .sl false 1 [], .v (.int .i64 wo)] = some ([1], .sl false 1 ((bestA xss wo).map int)) :=
  mkV_eq (enc := fun (p : Bool × List (Bool × List Int) × Int) => [intss p.1 p.2.1, ints false [], int p.2.2]) (x := (nl, xss, wo)) (by rintro ⟨a, b, c⟩ ⟨d, e, f⟩ h; simp [intss, ints, int, map_row_inj] at h; simp [h]) h

theorem l27Best_all : ∀ r, FnMov Tryd.prog 83 (mLB r)
  | 0 => l27Best_zero
  | r + 1 => l27Best_succ (l27Best_all r)

theorem l27Best_ok : FnMov Tryd.prog 83 mBestS := by
  refine mkV_ok fun ⟨nl, xss, wo⟩ h => ?_
  exact l27Best_all xss.length _ _ _ (mLB_at xss.length nl xss [] wo (lb_nil h.1 h.2))

noncomputable def bA (xss : List (Bool × List Int)) : List Int := if rectB xss 4 4 1000 = true then bestA xss (-1) else []
theorem bA_yes {xss : List (Bool × List Int)} (h : rectB xss 4 4 1000 = true) : bA xss = bestA xss (-1) := if_pos h
theorem bA_no {xss : List (Bool × List Int)} (h : rectB xss 4 4 1000 = false) : bA xss = [] := if_neg (by simp [h])

noncomputable def mBestAward : List AV → Option AV := mk (fun _ => True) (fun (p : (Bool) × (List (Bool × List Int))) => [intss p.1 p.2]) (fun p => .sl (!rectB p.2 4 4 1000) 1 ((bA p.2).map int))
theorem mBestAward_at (nl : Bool) (xss : List (Bool × List Int)) : mBestAward [.sl nl 1 (xss.map row)] = some (.sl (!rectB xss 4 4 1000) 1 ((bA xss).map int)) :=
  mk_eq (enc := fun (p : (Bool) × (List (Bool × List Int))) => [intss p.1 p.2]) (x := (nl, xss)) (by rintro ⟨a0, a1⟩ ⟨b0, b1⟩ h; simp [ints, intss, int, bool, row, frac, fracs, map_int_inj, map_row_inj, frac_inj, map_frac_inj] at h; simp [h]) trivial

theorem implBestAward_ok : FnOk Tryd.prog 50 mBestAward := by
  refine mk_ok fun ⟨nl, xss⟩ _ => ?_
  have hG : FnsOk Tryd.prog [(49, (mGrid 4 4 1000)), (87, mBestA)] := (.cons implBidsOk_ok (.cons bestAward_ok .nil))
  refine callOk_awp (ctx_ok eqOk hG) mixed (live := [true, false, true, false, false, true]) (dt := []) Tryd.func50 rfl (by kernel_rfl) (by kernel_rfl) fun w0 hlens => ?_
  clear hlens
  cases h : rectB xss 4 4 1000 with
  | false => simp (config := {contextual := true}) [Tryd.f50, List.range, List.range.loop, ints, intss, int, bool, row, frac, fracs, ← List.map_take, ← List.map_drop, mGrid_at, h, bA_no]
  | true =>
    have h0 := rect_pos h
    have hb := mBestA_at nl xss (-1) ⟨h, by omega, by omega⟩
    rw [bestA_eq h (by omega)] at hb
    simp (config := {contextual := true}) [Tryd.f50, List.range, List.range.loop, ints, intss, int, bool, row, frac, fracs, ← List.map_take, ← List.map_drop, mGrid_at, h, bA_yes, hb, bestAV]

theorem specBestAward_ok : FnOk Tryd.prog 47 mBestAward := by
  refine mk_ok fun ⟨nl, xss⟩ _ => ?_
  have hG : FnsOk Tryd.prog [(46, (mGrid 4 4 1000))] := (.cons specBidsOk_ok .nil)
  have hM : FnsMut Tryd.prog [] := .nil
  have hV : FnsMov Tryd.prog [(83, mBestS)] := (.cons l27Best_ok .nil)
  refine callOk_awp (ctxV_ok eqOk hG hM hV) mixed (live := [true, false, true, false, false, true]) (dt := []) Tryd.func47 rfl (by kernel_rfl) (by kernel_rfl) fun w0 hlens => ?_
  clear hlens
  cases h : rectB xss 4 4 1000 with
  | false => simp (config := {contextual := true}) [Tryd.f47, List.range, List.range.loop, ints, intss, int, bool, row, frac, fracs, ← List.map_take, ← List.map_drop, List.all, mGrid_at, h, bA_no]
  | true =>
    have hb := mBestS_at nl xss (-1) ⟨h, by omega⟩
    simp (config := {contextual := true}) [Tryd.f47, List.range, List.range.loop, ints, intss, int, bool, row, frac, fracs, ← List.map_take, ← List.map_drop, List.all, mGrid_at, h, bA_yes, hb]

noncomputable def mBestWorth : List AV → Option AV := mk (fun _ => True) (fun (p : (Bool) × (List (Bool × List Int))) => [intss p.1 p.2]) (fun p => int (if rectB p.2 4 4 1000 = true then awTo p.2 (bestA p.2 (-1)) (bestA p.2 (-1)).length else -1))
theorem mBestWorth_at (nl : Bool) (xss : List (Bool × List Int)) : mBestWorth [.sl nl 1 (xss.map row)] = some (.v (.int .i64 (if rectB xss 4 4 1000 = true then awTo xss (bestA xss (-1)) (bestA xss (-1)).length else -1))) :=
  mk_eq (enc := fun (p : (Bool) × (List (Bool × List Int))) => [intss p.1 p.2]) (x := (nl, xss)) (by rintro ⟨a0, a1⟩ ⟨b0, b1⟩ h; simp [ints, intss, int, bool, row, frac, fracs, map_int_inj, map_row_inj, frac_inj, map_frac_inj] at h; simp [h]) trivial

noncomputable def wwB (xss : List (Bool × List Int)) (i : Int) : Int := if rectB xss 4 4 1000 = true ∧ 0 ≤ i ∧ i < xss.length then awTo xss (bestA xss i) (bestA xss i).length else -1

noncomputable def mWithout : List AV → Option AV := mk (fun _ => True) (fun (p : (Bool) × (List (Bool × List Int)) × (Int)) => [intss p.1 p.2.1, int p.2.2]) (fun p => int (wwB p.2.1 p.2.2))
theorem mWithout_at (nl : Bool) (xss : List (Bool × List Int)) (i : Int) : mWithout [.sl nl 1 (xss.map row), .v (.int .i64 i)] = some (.v (.int .i64 (wwB xss i))) :=
  mk_eq (enc := fun (p : (Bool) × (List (Bool × List Int)) × (Int)) => [intss p.1 p.2.1, int p.2.2]) (x := (nl, xss, i)) (by rintro ⟨a0, a1, a2⟩ ⟨b0, b1, b2⟩ h; simp [ints, intss, int, bool, row, frac, fracs, map_int_inj, map_row_inj, frac_inj, map_frac_inj] at h; simp [h]) trivial

theorem implWithout_ok : FnOk Tryd.prog 89 mWithout := by
  refine mk_ok fun ⟨nl, xss, i⟩ _ => ?_
  have hG : FnsOk Tryd.prog [(49, (mGrid 4 4 1000)), (69, mWithin), (87, mBestA), (88, mAwW)] := (.cons implBidsOk_ok (.cons within_ok (.cons bestAward_ok (.cons awardWorth_ok .nil))))
  refine callOk_awp (ctx_ok eqOk hG) mixed (live := [true, true, false, false, true, false, false, false, false, false, false, false, false, false, false, true]) (dt := []) Tryd.func89 rfl (by kernel_rfl) (by kernel_rfl) fun w0 hlens => ?_
  clear hlens
  cases h : rectB xss 4 4 1000 with
  | false => simp (config := {contextual := true}) [Tryd.f89, List.range, List.range.loop, ints, intss, int, bool, row, frac, fracs, ← List.map_take, ← List.map_drop, List.all, mGrid_at, h, wwB]
  | true =>
    have h0 := rect_pos h
    have hl := rect_len h
    have hs : IntKind.i64.wrap ((xss.length : Int) - 1) = (xss.length : Int) - 1 := wrapI (by omega) (by omega)
    by_cases hi : 0 ≤ i ∧ i < xss.length
    · have hin : inR 0 ((xss.length : Int) - 1) i = true := by simp [inR]; omega
      have hb := mBestA_at nl xss i ⟨h, by omega, by omega⟩
      rw [bestA_eq h (by omega)] at hb
      have hb2 := mBestS_at nl xss i ⟨h, by omega⟩
      have hw := mAwW_at nl xss false (bestA xss i) (bestA_pre h (by omega))
      have hww : wwB xss i = awTo xss (bestA xss i) (bestA xss i).length := if_pos ⟨h, hi⟩
      simp (config := {contextual := true}) [Tryd.f89, List.range, List.range.loop, ints, intss, int, bool, row, frac, fracs, ← List.map_take, ← List.map_drop, List.all, mGrid_at, mWithin_in, h, hs, hin, hb, hb2, bestAV, hw, hww]
    · have hin : inR 0 ((xss.length : Int) - 1) i = false := by simp [inR]; omega
      have hww : wwB xss i = -1 := if_neg fun hc => hi hc.2
      simp (config := {contextual := true}) [Tryd.f89, List.range, List.range.loop, ints, intss, int, bool, row, frac, fracs, ← List.map_take, ← List.map_drop, List.all, mGrid_at, mWithin_in, h, hs, hin, hww]

theorem specWithout_ok : FnOk Tryd.prog 85 mWithout := by
  refine mk_ok fun ⟨nl, xss, i⟩ _ => ?_
  have hG : FnsOk Tryd.prog [(46, (mGrid 4 4 1000)), (63, mWithin), (84, mAwW)] := (.cons specBidsOk_ok (.cons l01In_ok (.cons l27Worth_ok .nil)))
  have hM : FnsMut Tryd.prog [] := .nil
  have hV : FnsMov Tryd.prog [(83, mBestS)] := (.cons l27Best_ok .nil)
  refine callOk_awp (ctxV_ok eqOk hG hM hV) mixed (live := [true, true, false, false, true, false, false, false, false, false, false, false, false, false, false, true]) (dt := []) Tryd.func85 rfl (by kernel_rfl) (by kernel_rfl) fun w0 hlens => ?_
  clear hlens
  cases h : rectB xss 4 4 1000 with
  | false => simp (config := {contextual := true}) [Tryd.f85, List.range, List.range.loop, ints, intss, int, bool, row, frac, fracs, ← List.map_take, ← List.map_drop, List.all, mGrid_at, h, wwB]
  | true =>
    have h0 := rect_pos h
    have hl := rect_len h
    have hs : IntKind.i64.wrap ((xss.length : Int) - 1) = (xss.length : Int) - 1 := wrapI (by omega) (by omega)
    by_cases hi : 0 ≤ i ∧ i < xss.length
    · have hin : inR 0 ((xss.length : Int) - 1) i = true := by simp [inR]; omega
      have hb := mBestA_at nl xss i ⟨h, by omega, by omega⟩
      rw [bestA_eq h (by omega)] at hb
      have hb2 := mBestS_at nl xss i ⟨h, by omega⟩
      have hw := mAwW_at nl xss false (bestA xss i) (bestA_pre h (by omega))
      have hww : wwB xss i = awTo xss (bestA xss i) (bestA xss i).length := if_pos ⟨h, hi⟩
      simp (config := {contextual := true}) [Tryd.f85, List.range, List.range.loop, ints, intss, int, bool, row, frac, fracs, ← List.map_take, ← List.map_drop, List.all, mGrid_at, mWithin_in, h, hs, hin, hb, hb2, bestAV, hw, hww]
    · have hin : inR 0 ((xss.length : Int) - 1) i = false := by simp [inR]; omega
      have hww : wwB xss i = -1 := if_neg fun hc => hi hc.2
      simp (config := {contextual := true}) [Tryd.f85, List.range, List.range.loop, ints, intss, int, bool, row, frac, fracs, ← List.map_take, ← List.map_drop, List.all, mGrid_at, mWithin_in, h, hs, hin, hww]

/-- What the bidder i pays. -/
noncomputable def payI (xss : List (Bool × List Int)) (i : Nat) : Int :=
  IntKind.i64.wrap (wwB xss i - (if 0 ≤ (bestA xss (-1)).getD i 0 then IntKind.i64.wrap (awTo xss (bestA xss (-1)) (bestA xss (-1)).length - ent xss i ((bestA xss (-1)).getD i 0)) else awTo xss (bestA xss (-1)) (bestA xss (-1)).length))
noncomputable def payL (xss : List (Bool × List Int)) (k : Nat) : List Int := (List.range k).map (payI xss)
theorem payL_succ {xss : List (Bool × List Int)} {k : Nat} : payL xss (k + 1) = payL xss k ++ [payI xss k] := by simp [payL, List.range_succ]
theorem payL_len {xss : List (Bool × List Int)} {k : Nat} : (payL xss k).length = k := by simp [payL]
noncomputable def payA (xss : List (Bool × List Int)) : List Int := if rectB xss 4 4 1000 = true then payL xss xss.length else []
theorem payA_yes {xss : List (Bool × List Int)} (h : rectB xss 4 4 1000 = true) : payA xss = payL xss xss.length := if_pos h
theorem payA_no {xss : List (Bool × List Int)} (h : rectB xss 4 4 1000 = false) : payA xss = [] := if_neg (by simp [h])

noncomputable def mPayments : List AV → Option AV := mk (fun _ => True) (fun (p : (Bool) × (List (Bool × List Int))) => [intss p.1 p.2]) (fun p => .sl (!rectB p.2 4 4 1000) 1 ((payA p.2).map int))
theorem mPayments_at (nl : Bool) (xss : List (Bool × List Int)) : mPayments [.sl nl 1 (xss.map row)] = some (.sl (!rectB xss 4 4 1000) 1 ((payA xss).map int)) :=
  mk_eq (enc := fun (p : (Bool) × (List (Bool × List Int))) => [intss p.1 p.2]) (x := (nl, xss)) (by rintro ⟨a0, a1⟩ ⟨b0, b1⟩ h; simp [ints, intss, int, bool, row, frac, fracs, map_int_inj, map_row_inj, frac_inj, map_frac_inj] at h; simp [h]) trivial

def pqS (l l' : List AV) : List Tok := [⟨true, .sl false 1 l⟩, ⟨true, .sl false 1 l'⟩]
/-- The slot of what is paid so far; the rows. -/
def apP : Nat → AV
  | 0 => .sl true 1 []
  | k + 1 => .ref 1 [] 0 (k + 1)
def apQ (l l' : List AV) : Nat → List Tok
  | 0 => [⟨true, .sl false 1 l⟩]
  | _ + 1 => [⟨true, .sl false 1 l⟩, ⟨true, .sl false 1 l'⟩]

set_option maxHeartbeats 1000000 in
theorem implPayments_ok : FnOk Tryd.prog 51 mPayments := by
  refine mk_ok fun ⟨nl, xss⟩ _ => ?_
  have hG : FnsOk Tryd.prog [(49, (mGrid 4 4 1000)), (50, mBestAward), (88, mAwW), (89, mWithout)] := (.cons implBidsOk_ok (.cons implBestAward_ok (.cons awardWorth_ok (.cons implWithout_ok .nil))))
  refine callOk_awp (ctx_ok eqOk hG) mixed (live := [true, false, true, true, true, true, true, true, false, false, true, false, false, true, true, true, true, false, false, false, false, false, false, false, true]) (dt := []) Tryd.func51 rfl (by kernel_rfl) (by kernel_rfl) fun w0 hlens => ?_
  clear hlens
  cases h : rectB xss 4 4 1000 with
  | false => simp (config := {contextual := true}) [Tryd.f51, List.range, List.range.loop, ints, intss, int, bool, row, frac, fracs, ← List.map_take, ← List.map_drop, mGrid_at, h, payA_no]
  | true =>
    obtain ⟨hb1, hb2, _⟩ := bestA_mem h (show (-1 : Int) ≤ -1 by omega)
    have hl := rect_len h
    have hw := mAwW_at nl xss false (bestA xss (-1)) (bestA_pre h (by omega))
    have hpay : ∀ k, payI xss k = IntKind.i64.wrap (wwB xss k - (if 0 ≤ (bestA xss (-1)).getD k 0 then IntKind.i64.wrap (awTo xss (bestA xss (-1)) (bestA xss (-1)).length - ent xss k ((bestA xss (-1)).getD k 0)) else awTo xss (bestA xss (-1)) (bestA xss (-1)).length)) := fun k => rfl
    simp (config := {contextual := true}) [Tryd.f51, List.range, List.range.loop, ints, intss, int, bool, row, frac, fracs, ← List.map_take, ← List.map_drop, mGrid_at, mBestAward_at, h, bA_yes, payA_yes]
    generalize bestA xss (-1) = aw at hb1 hb2 hw hpay
    have hle : xss.length ≤ 9223372036854775807 := by omega
    refine awp_range (live := [true, false, true, true, true, true, true, true, false, false, true, false, false, true, true, true, true, false, false, false, false, false, false, false, true]) (ctx_ok eqOk hG) mixed [true, false, false, true, true, false, false, false, false, false, false, false, false, true, true, true] (xss.length) (fun k => True) (fun k => ⟨[intss nl xss, .junk, .junk, .ref 0 [] 0 xss.length, apP k, .junk, .junk, .junk, .junk, .junk, .junk, .junk, .junk, .ref 0 [] 0 xss.length, int xss.length, int k, .junk, .junk, .junk, .junk, .junk, .junk, .junk, .junk, .junk, .junk, .junk, .junk, .junk, .junk, .junk, .junk, .junk, .junk, .junk, .junk, .junk, .junk, .junk, .junk, .junk, .junk, .junk, .junk], apQ (aw.map int) ((payL xss k).map int) k⟩) ?_ (by simp [sub, slotsLe, clean, keep, refsL, refs, once, place, renL, ren, List.replicate, int, bool, hb1, payL, intss, apP, apQ, pqS]) ?_ ?_ ?_
    · exact hle
    · trivial
    · intro k hk _ hwk
      have hkl : k < aw.length := by omega
      have hrow := rect_row h hk
      have hx := hb2 _ (List.getElem_mem hkl)
      have hg : 0 ≤ aw[k] → xss[k].2[aw[k].toNat]? = some (ent xss k aw[k]) := fun h0 => ent_get hk (by omega)
      have hp := hpay k
      rw [getD_at hkl] at hp
      have hpl := payL_len (xss := xss) (k := k)
      have hps := payL_succ (xss := xss) (k := k)
      have hwo := mWithout_at nl xss (k : Int)
      have htk : aw.take xss.length = aw := List.take_of_length_le (by omega)
      have hb8 : k + 1 ≤ 4611686018427387904 ∧ (k + 1) * 8 ≤ 140737488355328 := by omega
      by_cases hx0 : 0 ≤ aw[k]
      · rw [if_pos hx0] at hp
        cases k with
        | zero =>
          simp at hwo hp
          simp (config := {contextual := true}) [List.range, List.range.loop, ints, intss, int, bool, row, frac, fracs, ← List.map_take, ← List.map_drop, apP, apQ, pqS, htk, hk, hwk, hkl, hw, hg hx0, hx0, hwo, hpl, hps, hp, hb1, hb8, payL]
          exact wrapI (by omega) (by omega)
        | succ k =>
          push_cast at hwo hp
          simp (config := {contextual := true}) [List.range, List.range.loop, ints, intss, int, bool, row, frac, fracs, ← List.map_take, ← List.map_drop, apP, apQ, pqS, htk, hk, hwk, hkl, hw, hg hx0, hx0, hwo, hpl, hps, hp, hb1, hb8]
          exact wrapI (by omega) (by omega)
      · rw [if_neg hx0] at hp
        cases k with
        | zero =>
          simp at hwo hp
          simp (config := {contextual := true}) [List.range, List.range.loop, ints, intss, int, bool, row, frac, fracs, ← List.map_take, ← List.map_drop, apP, apQ, pqS, htk, hk, hwk, hkl, hw, hx0, hwo, hpl, hps, hp, hb1, hb8, payL]
          exact wrapI (by omega) (by omega)
        | succ k =>
          push_cast at hwo hp
          simp (config := {contextual := true}) [List.range, List.range.loop, ints, intss, int, bool, row, frac, fracs, ← List.map_take, ← List.map_drop, apP, apQ, pqS, htk, hk, hwk, hkl, hw, hx0, hwo, hpl, hps, hp, hb1, hb8]
          exact wrapI (by omega) (by omega)
    · intro _
      have hpl := payL_len (xss := xss) (k := xss.length)
      obtain ⟨m, hm⟩ : ∃ m, xss.length = m + 1 := ⟨xss.length - 1, by have := rect_pos h; omega⟩
      rw [hm] at hpl ⊢
      simp (config := {contextual := true}) [List.range, List.range.loop, ints, intss, int, bool, row, frac, fracs, ← List.map_take, ← List.map_drop, apP, apQ, pqS, hpl]

set_option maxHeartbeats 1000000 in
theorem specPayments_ok : FnOk Tryd.prog 48 mPayments := by
  refine mk_ok fun ⟨nl, xss⟩ _ => ?_
  have hG : FnsOk Tryd.prog [(46, (mGrid 4 4 1000)), (47, mBestAward), (84, mAwW), (85, mWithout)] := (.cons specBidsOk_ok (.cons specBestAward_ok (.cons l27Worth_ok (.cons specWithout_ok .nil))))
  refine callOk_awp (ctx_ok eqOk hG) mixed (live := [true, false, true, true, true, true, true, true, false, false, true, false, false, false, true, true, true, true, false, false, false, false, false, false, false, true]) (dt := []) Tryd.func48 rfl (by kernel_rfl) (by kernel_rfl) fun w0 hlens => ?_
  clear hlens
  cases h : rectB xss 4 4 1000 with
  | false => simp (config := {contextual := true}) [Tryd.f48, List.range, List.range.loop, ints, intss, int, bool, row, frac, fracs, ← List.map_take, ← List.map_drop, mGrid_at, h, payA_no]
  | true =>
    obtain ⟨hb1, hb2, _⟩ := bestA_mem h (show (-1 : Int) ≤ -1 by omega)
    have hl := rect_len h
    have hw := mAwW_at nl xss false (bestA xss (-1)) (bestA_pre h (by omega))
    have hpay : ∀ k, payI xss k = IntKind.i64.wrap (wwB xss k - (if 0 ≤ (bestA xss (-1)).getD k 0 then IntKind.i64.wrap (awTo xss (bestA xss (-1)) (bestA xss (-1)).length - ent xss k ((bestA xss (-1)).getD k 0)) else awTo xss (bestA xss (-1)) (bestA xss (-1)).length)) := fun k => rfl
    simp (config := {contextual := true}) [Tryd.f48, List.range, List.range.loop, ints, intss, int, bool, row, frac, fracs, ← List.map_take, ← List.map_drop, mGrid_at, mBestAward_at, h, bA_yes, payA_yes]
    generalize bestA xss (-1) = aw at hb1 hb2 hw hpay
    have hle : xss.length ≤ 9223372036854775807 := by omega
    refine awp_range (live := [true, false, true, true, true, true, true, true, false, false, true, false, false, false, true, true, true, true, false, false, false, false, false, false, false, true]) (ctx_ok eqOk hG) mixed [true, false, false, true, true, false, false, false, false, false, false, false, false, false, true, true, true] (xss.length) (fun k => True) (fun k => ⟨[intss nl xss, .junk, .junk, .ref 0 [] 0 xss.length, .ref 1 [] 0 k, .junk, .junk, .junk, .junk, .junk, .junk, .junk, .junk, .junk, .ref 0 [] 0 xss.length, int xss.length, int k, .junk, .junk, .junk, .junk, .junk, .junk, .junk, .junk, .junk, .junk, .junk, .junk, .junk, .junk, .junk, .junk, .junk, .junk, .junk, .junk, .junk, .junk, .junk, .junk, .junk, .junk, .junk, .junk], pqS (aw.map int) ((payL xss k).map int)⟩) ?_ (by simp [sub, slotsLe, clean, keep, refsL, refs, once, place, renL, ren, List.replicate, int, bool, hb1, payL, intss, apP, apQ, pqS]) ?_ ?_ ?_
    · exact hle
    · trivial
    · intro k hk _ hwk
      have hkl : k < aw.length := by omega
      have hrow := rect_row h hk
      have hx := hb2 _ (List.getElem_mem hkl)
      have hg : 0 ≤ aw[k] → xss[k].2[aw[k].toNat]? = some (ent xss k aw[k]) := fun h0 => ent_get hk (by omega)
      have hp := hpay k
      rw [getD_at hkl] at hp
      have hpl := payL_len (xss := xss) (k := k)
      have hps := payL_succ (xss := xss) (k := k)
      have hwo := mWithout_at nl xss (k : Int)
      have htk : aw.take xss.length = aw := List.take_of_length_le (by omega)
      have hb8 : k + 1 ≤ 4611686018427387904 ∧ (k + 1) * 8 ≤ 140737488355328 := by omega
      by_cases hx0 : 0 ≤ aw[k]
      · rw [if_pos hx0] at hp
        cases k with
        | zero =>
          simp at hwo hp
          simp (config := {contextual := true}) [List.range, List.range.loop, ints, intss, int, bool, row, frac, fracs, ← List.map_take, ← List.map_drop, apP, apQ, pqS, htk, hk, hwk, hkl, hw, hg hx0, hx0, hwo, hpl, hps, hp, hb1, hb8, payL]
          exact wrapI (by omega) (by omega)
        | succ k =>
          push_cast at hwo hp
          simp (config := {contextual := true}) [List.range, List.range.loop, ints, intss, int, bool, row, frac, fracs, ← List.map_take, ← List.map_drop, apP, apQ, pqS, htk, hk, hwk, hkl, hw, hg hx0, hx0, hwo, hpl, hps, hp, hb1, hb8]
          exact wrapI (by omega) (by omega)
      · rw [if_neg hx0] at hp
        cases k with
        | zero =>
          simp at hwo hp
          simp (config := {contextual := true}) [List.range, List.range.loop, ints, intss, int, bool, row, frac, fracs, ← List.map_take, ← List.map_drop, apP, apQ, pqS, htk, hk, hwk, hkl, hw, hx0, hwo, hpl, hps, hp, hb1, hb8, payL]
          exact wrapI (by omega) (by omega)
        | succ k =>
          push_cast at hwo hp
          simp (config := {contextual := true}) [List.range, List.range.loop, ints, intss, int, bool, row, frac, fracs, ← List.map_take, ← List.map_drop, apP, apQ, pqS, htk, hk, hwk, hkl, hw, hx0, hwo, hpl, hps, hp, hb1, hb8]
          exact wrapI (by omega) (by omega)
    · intro _
      have hpl := payL_len (xss := xss) (k := xss.length)
      obtain ⟨m, hm⟩ : ∃ m, xss.length = m + 1 := ⟨xss.length - 1, by have := rect_pos h; omega⟩
      rw [hm] at hpl ⊢
      simp (config := {contextual := true}) [List.range, List.range.loop, ints, intss, int, bool, row, frac, fracs, ← List.map_take, ← List.map_drop, apP, apQ, pqS, hpl]

noncomputable def bAP (xss : List (Bool × List Int)) : Bool × List Int := (!rectB xss 4 4 1000, bA xss)
theorem bAP_at (nl : Bool) (xss : List (Bool × List Int)) : mBestAward [.sl nl 1 (xss.map row)] = some (.sl (bAP xss).1 1 ((bAP xss).2.map int)) := mBestAward_at nl xss
theorem bA_len {xss : List (Bool × List Int)} : (bA xss).length ≤ 4 := by
  cases h : rectB xss 4 4 1000 with
  | false => rw [bA_no h]; simp
  | true => rw [bA_yes h, (bestA_mem h (by omega)).1]; have := rect_len h; omega
theorem bAP_len {xss : List (Bool × List Int)} : (bAP xss).2.length ≤ 2 ^ 40 := by have := bA_len (xss := xss); simp only [bAP]; omega
noncomputable def payP (xss : List (Bool × List Int)) : Bool × List Int := (!rectB xss 4 4 1000, payA xss)
theorem payP_at (nl : Bool) (xss : List (Bool × List Int)) : mPayments [.sl nl 1 (xss.map row)] = some (.sl (payP xss).1 1 ((payP xss).2.map int)) := mPayments_at nl xss
theorem payA_len {xss : List (Bool × List Int)} : (payA xss).length ≤ 4 := by
  cases h : rectB xss 4 4 1000 with
  | false => rw [payA_no h]; simp
  | true => rw [payA_yes h, payL_len]; have := rect_len h; omega
theorem payP_len {xss : List (Bool × List Int)} : (payP xss).2.length ≤ 2 ^ 40 := by have := payA_len (xss := xss); simp only [payP]; omega

end Go.Proofs.YtlkgppincgpfjaaDoor.Ax

/-
  Sizes of the texts of numbers; two texts with a blank between them. Plain Lean, no program in sight.
-/
namespace Go.Proofs.YtlkgppincgpfjaaDoor.Ax
open Go Go.RowKit
set_option linter.unusedSimpArgs false

theorem inI_small {x : Int} (h : -1000000 ≤ x ∧ x ≤ 1000000) : inI x := by unfold inI; omega

theorem numS_size {xs : List Int} (h : ∀ n ∈ xs, inI n) : (numS xs).size ≤ 21 * xs.length + 1 := by
  unfold numS
  split
  · have : (⟨#[45]⟩ : ByteArray).size = 1 := rfl
    omega
  · have hl := join_len (c := 20) (sep := bl ⟨#[44]⟩) (ws := (xs.map itoaS).map bl) (by
      intro w hw
      simp only [List.map_map, List.mem_map, Function.comp_apply] at hw
      obtain ⟨n, hn, rfl⟩ := hw
      unfold itoaS; rw [bl_mk]
      exact itoa_len (h n hn))
    have e1 : (bl ⟨#[44]⟩).length = 1 := rfl
    rw [List.length_map, List.length_map, e1] at hl
    have e2 : (joinS (xs.map itoaS) ⟨#[44]⟩).size = (bl (joinS (xs.map itoaS) ⟨#[44]⟩)).length := by unfold bl; rw [Array.length_toList]; rfl
    rw [e2]
    unfold joinS
    rw [bl_mk]
    omega

/-- Two texts with a blank between them. -/
def linkS (a b : ByteArray) : ByteArray := a ++ ⟨#[32]⟩ ++ b
theorem link_size {a : ByteArray} : (a ++ (⟨#[32]⟩ : ByteArray)).size = a.size + 1 := by rw [ByteArray.size_append]; rfl

end Go.Proofs.YtlkgppincgpfjaaDoor.Ax

/-
  Contracts: AuctionLine (both programs). No condition.
-/
namespace Go.Proofs.YtlkgppincgpfjaaDoor.Ax
open Go Go.RowKit
set_option linter.unusedSimpArgs false

theorem inI_wrap (x : Int) : inI (IntKind.i64.wrap x) := by rw [IntKind.wrap_i64]; unfold inI; omega
theorem bA_in {xss : List (Bool × List Int)} : ∀ n ∈ bA xss, inI n := fun n hn => by
  cases h : rectB xss 4 4 1000 with
  | false => rw [bA_no h] at hn; simp at hn
  | true =>
    rw [bA_yes h] at hn
    have h1 := (bestA_mem h (by omega)).2.1 n hn
    have h2 := rect_len h
    exact inI_small (by omega)
theorem payA_in {xss : List (Bool × List Int)} : ∀ n ∈ payA xss, inI n := fun n hn => by
  cases h : rectB xss 4 4 1000 with
  | false => rw [payA_no h] at hn; simp at hn
  | true =>
    rw [payA_yes h] at hn
    simp only [payL, List.mem_map] at hn
    obtain ⟨i, _, rfl⟩ := hn
    exact inI_wrap _
noncomputable def aucS (xss : List (Bool × List Int)) : ByteArray := if rectB xss 4 4 1000 = true then linkS (numS (bA xss)) (numS (payA xss)) else ⟨#[110, 111, 110, 101]⟩
noncomputable def mAuc : List AV → Option AV := mk (fun _ => True) (fun (p : (Bool) × (List (Bool × List Int))) => [intss p.1 p.2]) (fun p => .v (.string (aucS p.2)))
theorem mAuc_at (nl : Bool) (xss : List (Bool × List Int)) : mAuc [.sl nl 1 (xss.map row)] = some (.v (.string (aucS xss))) :=
  mk_eq (enc := fun (p : (Bool) × (List (Bool × List Int))) => [intss p.1 p.2]) (x := (nl, xss)) (by rintro ⟨a0, a1⟩ ⟨b0, b1⟩ h; simp [ints, intss, int, bool, row, frac, fracs, map_int_inj, map_row_inj, frac_inj, map_frac_inj] at h; simp [h]) trivial

set_option maxHeartbeats 1000000 in
theorem implAuction_ok : FnOk Tryd.prog 18 mAuc := by
  refine mk_ok fun ⟨nl, xss⟩ _ => ?_
  have hG : FnsOk Tryd.prog [(49, (mGrid 4 4 1000)), (50, mBestAward), (31, mFNum), (51, mPayments)] := (.cons implBidsOk_ok (.cons implBestAward_ok (.cons implFormatNumbers_ok (.cons implPayments_ok .nil))))
  refine callOk_awp (ctx_ok eqOk hG) mixed (live := [true, false, true, false, false, true]) (dt := []) Tryd.func18 rfl (by kernel_rfl) (by kernel_rfl) fun w0 hlens => ?_
  clear hlens
  cases h : rectB xss 4 4 1000 with
  | false => simp (config := {contextual := true}) [Tryd.f18, List.range, List.range.loop, ints, intss, int, bool, row, frac, fracs, ← List.map_take, ← List.map_drop, mGrid_at, h, aucS]
  | true =>
    have hl1 := bA_len (xss := xss)
    have hl2 := payA_len (xss := xss)
    have h1 := mFNum_at false (bA xss) ⟨by omega, bA_in⟩
    have h2 := mFNum_at false (payA xss) ⟨by omega, payA_in⟩
    have s1 := numS_size (bA_in (xss := xss))
    have s2 := numS_size (payA_in (xss := xss))
    have hS : aucS xss = numS (bA xss) ++ ⟨#[32]⟩ ++ numS (payA xss) := by unfold aucS; rw [if_pos h]; rfl
    rw [hS]
    have hls := link_size (a := numS (bA xss))
    have e1 : (⟨#[32]⟩ : ByteArray).size = 1 := rfl
    have c1 : (numS (bA xss)).size + 1 ≤ 9223372036854775807 ∧ (numS (bA xss)).size + 1 + (numS (payA xss)).size ≤ 9223372036854775807 ∧ (numS (bA xss)).size ≤ 9223372036854775806 := by omega
    simp (config := {contextual := true}) [Tryd.f18, List.range, List.range.loop, ints, intss, int, bool, row, frac, fracs, ← List.map_take, ← List.map_drop, mGrid_at, mBestAward_at, mPayments_at, h, h1, h2, hls, e1, c1]
    done

set_option maxHeartbeats 1000000 in
theorem specAuction_ok : FnOk Tryd.prog 17 mAuc := by
  refine mk_ok fun ⟨nl, xss⟩ _ => ?_
  have hG : FnsOk Tryd.prog [(46, (mGrid 4 4 1000)), (47, mBestAward), (29, mFNum), (48, mPayments)] := (.cons specBidsOk_ok (.cons specBestAward_ok (.cons specFormatNumbers_ok (.cons specPayments_ok .nil))))
  refine callOk_awp (ctx_ok eqOk hG) mixed (live := [true, false, true, false, false, true]) (dt := []) Tryd.func17 rfl (by kernel_rfl) (by kernel_rfl) fun w0 hlens => ?_
  clear hlens
  cases h : rectB xss 4 4 1000 with
  | false => simp (config := {contextual := true}) [Tryd.f17, List.range, List.range.loop, ints, intss, int, bool, row, frac, fracs, ← List.map_take, ← List.map_drop, mGrid_at, h, aucS]
  | true =>
    have hl1 := bA_len (xss := xss)
    have hl2 := payA_len (xss := xss)
    have h1 := mFNum_at false (bA xss) ⟨by omega, bA_in⟩
    have h2 := mFNum_at false (payA xss) ⟨by omega, payA_in⟩
    have s1 := numS_size (bA_in (xss := xss))
    have s2 := numS_size (payA_in (xss := xss))
    have hS : aucS xss = numS (bA xss) ++ ⟨#[32]⟩ ++ numS (payA xss) := by unfold aucS; rw [if_pos h]; rfl
    rw [hS]
    have hls := link_size (a := numS (bA xss))
    have e1 : (⟨#[32]⟩ : ByteArray).size = 1 := rfl
    have c1 : (numS (bA xss)).size + 1 ≤ 9223372036854775807 ∧ (numS (bA xss)).size + 1 + (numS (payA xss)).size ≤ 9223372036854775807 ∧ (numS (bA xss)).size ≤ 9223372036854775806 := by omega
    simp (config := {contextual := true}) [Tryd.f17, List.range, List.range.loop, ints, intss, int, bool, row, frac, fracs, ← List.map_take, ← List.map_drop, mGrid_at, mBestAward_at, mPayments_at, h, h1, h2, hls, e1, c1]
    done

end Go.Proofs.YtlkgppincgpfjaaDoor.Ax

/-
  Plain laws on fractions: parts of 1, differences, products, the points of an heir. No condition.
-/
namespace Go.Proofs.YtlkgppincgpfjaaDoor.Ax
open Go Go.RowKit
set_option linter.unusedSimpArgs false

theorem fracOk_gcd {t b : Int} (h : fracOk (t, b) = true) : Int.gcd t b = 1 := by
  simp only [fracOk, Bool.and_eq_true, decide_eq_true_eq] at h; exact h.2
theorem part_facts {t b : Int} (h : partB (t, b) = true) : fracOk (t, b) = true ∧ 0 ≤ t ∧ t ≤ b ∧ 1 ≤ b ∧ b ≤ 1000000000 := by
  simp only [partB, inR, Bool.and_eq_true, decide_eq_true_eq] at h
  have := fracOk_bd h.1
  simp only at this
  exact ⟨h.1, h.2.1, h.2.2, by omega, by omega⟩
theorem part_zero {t b : Int} (h : partB (t, b) = true) : (t = 0 ∧ b = 1) ↔ ¬ 0 < t := by
  obtain ⟨h1, h2, h3, h4, h5⟩ := part_facts h
  have hg := fracOk_gcd h1
  constructor
  · rintro ⟨rfl, rfl⟩; omega
  · intro hn
    have : t = 0 := by omega
    subst this
    rw [Int.gcd_zero_left] at hg
    exact ⟨rfl, by omega⟩
theorem part_one {t b : Int} (h : partB (t, b) = true) : (t = 1 ∧ b = 1) ↔ ¬ t < b := by
  obtain ⟨h1, h2, h3, h4, h5⟩ := part_facts h
  have hg := fracOk_gcd h1
  constructor
  · rintro ⟨rfl, rfl⟩; omega
  · intro hn
    have : t = b := by omega
    subst this
    rw [Int.gcd_self] at hg
    exact ⟨by omega, by omega⟩

theorem mkF_self {t b : Int} (h : fracOk (t, b) = true) : mkF t b = ((t, b), true) := by
  unfold mkF
  rw [fracOk_gcd h]
  simp [h]
theorem fracOk_mk {t b : Int} (h1 : -1000000000 ≤ t) (h2 : t ≤ 1000000000) (h3 : 1 ≤ b) (h4 : b ≤ 1000000000) (h : Int.gcd t b = 1) : fracOk (t, b) = true := by
  simp [fracOk, h1, h2, h3, h4, h]
theorem fracOk_neg {t b : Int} : fracOk (-t, b) = fracOk (t, b) := by
  rw [Bool.eq_iff_iff]
  simp only [fracOk, Bool.and_eq_true, decide_eq_true_eq, Int.neg_gcd]
  constructor <;> rintro ⟨⟨⟨h1, h2⟩, h3⟩, h4⟩ <;> exact ⟨⟨⟨by omega, by omega⟩, h3⟩, h4⟩
/-- The difference of two fractions, and whether it is valid. -/
def subF (x y : Int × Int) : (Int × Int) × Bool := addF x (-y.1, y.2)
theorem sub_part {t b : Int} (h : partB (t, b) = true) : subF (1, 1) (t, b) = ((b - t, b), true) ∧ partB (b - t, b) = true := by
  obtain ⟨h1, h2, h3, h4, h5⟩ := part_facts h
  have hg := fracOk_gcd h1
  have hg2 : Int.gcd (b - t) b = 1 := by
    rw [Int.gcd_self_sub_left]; exact hg
  have hok := fracOk_mk (t := b - t) (b := b) (by omega) (by omega) h4 h5 hg2
  refine ⟨?_, by simp only [partB, hok, inR]; simp; omega⟩
  unfold subF addF
  have e1 : fracOk (1, 1) = true := by decide
  have e2 : fracOk (-t, b) = true := by rw [fracOk_neg]; exact h1
  simp only [e1, e2, Bool.and_true, if_true]
  rw [show 1 * b + -t * 1 = b - t by omega, show 1 * b = b by omega]
  exact mkF_self hok

/-- The product of two fractions, and whether it is valid. -/
def mulF (x y : Int × Int) : (Int × Int) × Bool := if fracOk x && fracOk y then mkF (x.1 * y.1) (x.2 * y.2) else ((0, 0), false)
theorem mulF_no {x y : Int × Int} (h : (mulF x y).2 = false) : mulF x y = ((0, 0), false) := by
  unfold mulF mkF at h ⊢
  split
  · rename_i h1
    rw [if_pos h1] at h
    split
    · rename_i h2; rw [if_pos h2] at h; simp at h
    · rfl
  · rfl

/-- -1, 0, 1 as two fractions compare; -2 if one is not valid. -/
def cmpF (x y : Int × Int) : Int := if fracOk x && fracOk y then (if x.1 * y.2 < y.1 * x.2 then -1 else if y.1 * x.2 < x.1 * y.2 then 1 else 0) else -2

/-- An heir's part of a thing, from the first heir's part. -/
def turnF (who : Int) (f : Int × Int) : Int × Int := if who = 1 then (f.2 - f.1, f.2) else f
/-- The points of an heir for the first k things, and whether all sums up to there are valid. -/
def heirTo (xss : List (Bool × List Int)) (fs : List (Int × Int)) (who : Int) : Nat → (Int × Int) × Bool
  | 0 => ((0, 1), true)
  | k + 1 => if (heirTo xss fs who k).2 && (mulF (ent xss who.toNat k, 1) (turnF who (fs.getD k (0, 0)))).2 then addF (heirTo xss fs who k).1 (mulF (ent xss who.toNat k, 1) (turnF who (fs.getD k (0, 0)))).1 else ((0, 0), false)
def heirF (xss : List (Bool × List Int)) (fs : List (Int × Int)) (who : Int) : (Int × Int) × Bool := if sharesB xss fs && inR 0 1 who then heirTo xss fs who fs.length else ((0, 0), false)
theorem heirTo_false {xss : List (Bool × List Int)} {fs : List (Int × Int)} {who : Int} {k : Nat} (h : (heirTo xss fs who k).2 = false) : ∀ n, k < n → heirTo xss fs who n = ((0, 0), false)
  | 0, hn => by omega
  | n + 1, hn => by
    by_cases e : k = n
    · subst e; rw [heirTo, h]; simp
    · rw [heirTo, heirTo_false h n (by omega)]; simp
theorem heirTo_bad {xss : List (Bool × List Int)} {fs : List (Int × Int)} {who : Int} {k n : Nat} (hk : 0 < k) (h : (heirTo xss fs who k).2 = false) (hn : k ≤ n) : heirTo xss fs who n = ((0, 0), false) := by
  by_cases e : k = n
  · subst e
    obtain ⟨m, rfl⟩ : ∃ m, k = m + 1 := ⟨k - 1, by omega⟩
    rw [heirTo] at h ⊢
    split
    · rename_i h1; rw [if_pos h1] at h; exact addF_ok h
    · rfl
  · exact heirTo_false h n (by omega)

/-- Whether a swap of things x and y (x given, y taken) is no gain. -/
def bestAt (xss : List (Bool × List Int)) (fs : List (Int × Int)) (x y : Nat) : Bool :=
  !(decide (0 < (fs.getD x (0, 0)).1) && decide ((fs.getD y (0, 0)).1 < (fs.getD y (0, 0)).2) && decide (ent xss 0 x * ent xss 1 y < ent xss 0 y * ent xss 1 x))
def bestRow (xss : List (Bool × List Int)) (fs : List (Int × Int)) (x : Nat) : Bool := allR fs.length (bestAt xss fs x)
def bestHB (xss : List (Bool × List Int)) (fs : List (Int × Int)) : Bool := sharesB xss fs && allR fs.length (bestRow xss fs)

theorem shares_facts {xss : List (Bool × List Int)} {fs : List (Int × Int)} (h : sharesB xss fs = true) : xss.length = 2 ∧ rectB xss 2 6 100 = true ∧ fs.length = wid xss ∧ ∀ k (hk : k < fs.length), partB fs[k] = true := by
  simp only [sharesB, Bool.and_eq_true, decide_eq_true_eq, List.all_eq_true] at h
  obtain ⟨⟨h1, h2⟩, h3⟩ := h
  obtain ⟨h4, h5⟩ := points_facts h1
  exact ⟨h4, h5, h2, fun k hk => h3 _ (List.getElem_mem _)⟩
theorem ent_mul {xss : List (Bool × List Int)} (h : rectB xss 2 6 100 = true) {i j : Nat} (hi : i < xss.length) (hj : j < xss.length) {x y : Nat} (hx : x < wid xss) (hy : y < wid xss) : 0 ≤ ent xss i x * ent xss j y ∧ ent xss i x * ent xss j y ≤ 10000 := by
  have h1 := ent_bd h hi hx
  have h2 := ent_bd h hj hy
  refine ⟨Int.mul_nonneg h1.1 h2.1, ?_⟩
  have := Int.mul_le_mul h1.2 h2.2 h2.1 (by omega : (0 : Int) ≤ 100)
  omega

end Go.Proofs.YtlkgppincgpfjaaDoor.Ax

/-
  Contracts: products, differences of fractions (both programs). No condition.
-/
namespace Go.Proofs.YtlkgppincgpfjaaDoor.Ax
open Go Go.RowKit
set_option linter.unusedSimpArgs false

noncomputable def mTimes : List AV → Option AV := mk (fun _ => True) (fun (p : (Int) × (Int) × (Int) × (Int)) => [frac (p.1, p.2.1), frac (p.2.2.1, p.2.2.2)]) (fun p => .tup [.agg [.v (.int .i64 (mulF (p.1, p.2.1) (p.2.2.1, p.2.2.2)).1.1), .v (.int .i64 (mulF (p.1, p.2.1) (p.2.2.1, p.2.2.2)).1.2)], .v (.bool (mulF (p.1, p.2.1) (p.2.2.1, p.2.2.2)).2)])
theorem mTimes_at (a : Int) (b : Int) (c : Int) (d : Int) : mTimes [.agg [.v (.int .i64 a), .v (.int .i64 b)], .agg [.v (.int .i64 c), .v (.int .i64 d)]] = some (.tup [.agg [.v (.int .i64 (mulF (a, b) (c, d)).1.1), .v (.int .i64 (mulF (a, b) (c, d)).1.2)], .v (.bool (mulF (a, b) (c, d)).2)]) :=
  mk_eq (enc := fun (p : (Int) × (Int) × (Int) × (Int)) => [frac (p.1, p.2.1), frac (p.2.2.1, p.2.2.2)]) (x := (a, b, c, d)) (by rintro ⟨a0, a1, a2, a3⟩ ⟨b0, b1, b2, b3⟩ h; simp [ints, intss, int, bool, row, frac, fracs, map_int_inj, map_row_inj, frac_inj, map_frac_inj] at h; simp [h]) trivial

noncomputable def mMinus : List AV → Option AV := mk (fun p => fracOk (p.2.2.1, p.2.2.2) = true) (fun (p : (Int) × (Int) × (Int) × (Int)) => [frac (p.1, p.2.1), frac (p.2.2.1, p.2.2.2)]) (fun p => .tup [.agg [.v (.int .i64 (subF (p.1, p.2.1) (p.2.2.1, p.2.2.2)).1.1), .v (.int .i64 (subF (p.1, p.2.1) (p.2.2.1, p.2.2.2)).1.2)], .v (.bool (subF (p.1, p.2.1) (p.2.2.1, p.2.2.2)).2)])
theorem mMinus_at (a : Int) (b : Int) (c : Int) (d : Int) (hpre : fracOk (c, d) = true) : mMinus [.agg [.v (.int .i64 a), .v (.int .i64 b)], .agg [.v (.int .i64 c), .v (.int .i64 d)]] = some (.tup [.agg [.v (.int .i64 (subF (a, b) (c, d)).1.1), .v (.int .i64 (subF (a, b) (c, d)).1.2)], .v (.bool (subF (a, b) (c, d)).2)]) :=
  mk_eq (enc := fun (p : (Int) × (Int) × (Int) × (Int)) => [frac (p.1, p.2.1), frac (p.2.2.1, p.2.2.2)]) (x := (a, b, c, d)) (by rintro ⟨a0, a1, a2, a3⟩ ⟨b0, b1, b2, b3⟩ h; simp [ints, intss, int, bool, row, frac, fracs, map_int_inj, map_row_inj, frac_inj, map_frac_inj] at h; simp [h]) hpre
end Go.Proofs.YtlkgppincgpfjaaDoor.Ax
