/-
  Contracts: BestAward, BestWorth, WorthWithout (both programs). No condition.
-/
import Derived.Test.YtakladjlnkojjaaCG56
namespace Go.Proofs.Ytakladjlnkojjaa.Ax
open Go Go.RowKit
set_option linter.unusedSimpArgs false

/-- The first best award in which the bidder wo gets nothing. -/
noncomputable def bestA (xss : List (Bool × List Int)) (wo : Int) : List Int := (bs xss wo xss.length []).getD []

theorem lb_nil {xss : List (Bool × List Int)} {wo : Int} (h : rectB xss 4 4 1000 = true) (hw : -1 ≤ wo) : LB xss [] wo xss.length := ⟨h, hw, by simp, okP_nil, by simp⟩
theorem bestA_eq {xss : List (Bool × List Int)} {wo : Int} (h : rectB xss 4 4 1000 = true) (hw : -1 ≤ wo) : bestO (wAw xss) (okP wo) (allL (-1) ((wid xss : Int) - 1) xss.length) = some (bestA xss wo) := by
  have h1 := bs_eq (lb_nil h hw)
  obtain ⟨l, hl⟩ := bs_some (xss := xss) (wo := wo) xss.length []
  have h2 : bestA xss wo = l := by unfold bestA; rw [hl]; rfl
  rw [h2, ← hl, h1]; simp
theorem bestA_mem {xss : List (Bool × List Int)} {wo : Int} (h : rectB xss 4 4 1000 = true) (hw : -1 ≤ wo) : (bestA xss wo).length = xss.length ∧ (∀ x ∈ bestA xss wo, -1 ≤ x ∧ x ≤ (wid xss : Int) - 1) ∧ okP wo (bestA xss wo) = true := by
  obtain ⟨l, hl⟩ := bs_some (xss := xss) (wo := wo) xss.length []
  have h2 : bestA xss wo = l := by unfold bestA; rw [hl]; rfl
  rw [h2]
  exact bs_mem (lb_nil h hw) hl
theorem bestA_award {xss : List (Bool × List Int)} {wo : Int} (h : rectB xss 4 4 1000 = true) (hw : -1 ≤ wo) : awardB xss (bestA xss wo) = true := by
  obtain ⟨h1, h2, h3⟩ := bestA_mem h hw
  simp only [okP, Bool.and_eq_true] at h3
  simp only [awardB, Bool.and_eq_true, decide_eq_true_eq, h, h1, h3.1, true_and, and_true]
  unfold allIn
  rw [List.all_eq_true]
  intro x hx
  simpa [inR] using h2 x hx
theorem bestA_pre {xss : List (Bool × List Int)} {wo : Int} (h : rectB xss 4 4 1000 = true) (hw : -1 ≤ wo) : (bestA xss wo).length ≤ xss.length ∧ ∀ i, i < (bestA xss wo).length → (bestA xss wo).getD i 0 < ((xss.getD i (true, [])).2.length : Int) := awW_pre (bestA_award h hw)

noncomputable def mBestS : List AV → Option (List Nat × AV) := mkV (fun p => rectB p.2.1 4 4 1000 = true ∧ -1 ≤ p.2.2) (fun (p : Bool × List (Bool × List Int) × Int) => [intss p.1 p.2.1, ints false [], int p.2.2]) [1] (fun p => ints false (bestA p.2.1 p.2.2))
theorem mBestS_at (nl : Bool) (xss : List (Bool × List Int)) (wo : Int) (h : rectB xss 4 4 1000 = true ∧ -1 ≤ wo) : mBestS [.sl nl 1 (xss.map row), .sl false 1 [], .v (.int .i64 wo)] = some ([1], .sl false 1 ((bestA xss wo).map int)) :=
  mkV_eq (enc := fun (p : Bool × List (Bool × List Int) × Int) => [intss p.1 p.2.1, ints false [], int p.2.2]) (x := (nl, xss, wo)) (by rintro ⟨a, b, c⟩ ⟨d, e, f⟩ h; simp [intss, ints, int, map_row_inj] at h; simp [h]) h

noncomputable def bA (xss : List (Bool × List Int)) : List Int := if rectB xss 4 4 1000 = true then bestA xss (-1) else []
theorem bA_yes {xss : List (Bool × List Int)} (h : rectB xss 4 4 1000 = true) : bA xss = bestA xss (-1) := if_pos h
theorem bA_no {xss : List (Bool × List Int)} (h : rectB xss 4 4 1000 = false) : bA xss = [] := if_neg (by simp [h])

noncomputable def mBestAward : List AV → Option AV := mk (fun _ => True) (fun (p : (Bool) × (List (Bool × List Int))) => [intss p.1 p.2]) (fun p => .sl (!rectB p.2 4 4 1000) 1 ((bA p.2).map int))
theorem mBestAward_at (nl : Bool) (xss : List (Bool × List Int)) : mBestAward [.sl nl 1 (xss.map row)] = some (.sl (!rectB xss 4 4 1000) 1 ((bA xss).map int)) :=
  mk_eq (enc := fun (p : (Bool) × (List (Bool × List Int))) => [intss p.1 p.2]) (x := (nl, xss)) (by rintro ⟨a0, a1⟩ ⟨b0, b1⟩ h; simp [ints, intss, int, bool, row, frac, fracs, map_int_inj, map_row_inj, frac_inj, map_frac_inj] at h; simp [h]) trivial

theorem implBestAward_ok : FnOk Try.prog 7 mBestAward := by
  refine mk_ok fun ⟨nl, xss⟩ _ => ?_
  have hG : FnsOk Try.prog [(41, (mGrid 4 4 1000)), (42, mBestA)] := (.cons implBidsOk_ok (.cons bestAward_ok .nil))
  refine callOk_awp (ctx_ok eqOk hG) mixed (live := [true, false, true, false, false, true]) (dt := []) Try.func7 rfl (by kernel_rfl) (by kernel_rfl) fun w0 hlens => ?_
  clear hlens
  cases h : rectB xss 4 4 1000 with
  | false => simp (config := {contextual := true}) [Try.f7, List.range, List.range.loop, ints, intss, int, bool, row, frac, fracs, ← List.map_take, ← List.map_drop, mGrid_at, h, bA_no]
  | true =>
    have h0 := rect_pos h
    have hb := mBestA_at nl xss (-1) ⟨h, by omega, by omega⟩
    rw [bestA_eq h (by omega)] at hb
    simp (config := {contextual := true}) [Try.f7, List.range, List.range.loop, ints, intss, int, bool, row, frac, fracs, ← List.map_take, ← List.map_drop, mGrid_at, h, bA_yes, hb, bestAV]

noncomputable def mBestWorth : List AV → Option AV := mk (fun _ => True) (fun (p : (Bool) × (List (Bool × List Int))) => [intss p.1 p.2]) (fun p => int (if rectB p.2 4 4 1000 = true then awTo p.2 (bestA p.2 (-1)) (bestA p.2 (-1)).length else -1))
theorem mBestWorth_at (nl : Bool) (xss : List (Bool × List Int)) : mBestWorth [.sl nl 1 (xss.map row)] = some (.v (.int .i64 (if rectB xss 4 4 1000 = true then awTo xss (bestA xss (-1)) (bestA xss (-1)).length else -1))) :=
  mk_eq (enc := fun (p : (Bool) × (List (Bool × List Int))) => [intss p.1 p.2]) (x := (nl, xss)) (by rintro ⟨a0, a1⟩ ⟨b0, b1⟩ h; simp [ints, intss, int, bool, row, frac, fracs, map_int_inj, map_row_inj, frac_inj, map_frac_inj] at h; simp [h]) trivial

theorem implBestWorth_ok : FnOk Try.prog 10 mBestWorth := by
  refine mk_ok fun ⟨nl, xss⟩ _ => ?_
  have hG : FnsOk Try.prog [(7, mBestAward), (13, mAwWorth)] := (.cons implBestAward_ok (.cons implAwardWorth_ok .nil))
  refine callOk_awp (ctx_ok eqOk hG) mixed (live := [true, false, true]) (dt := []) Try.func10 rfl (by kernel_rfl) (by kernel_rfl) fun w0 hlens => ?_
  clear hlens
  cases h : rectB xss 4 4 1000 with
  | false =>
    have ha : awardB xss [] = false := by simp [awardB, h]
    have ha2 := mAwWorth_at nl xss true []
    simp [ha] at ha2
    simp (config := {contextual := true}) [Try.f10, List.range, List.range.loop, ints, intss, int, bool, row, frac, fracs, ← List.map_take, ← List.map_drop, mBestAward_at, ha2, h, bA_no]
  | true => simp (config := {contextual := true}) [Try.f10, List.range, List.range.loop, ints, intss, int, bool, row, frac, fracs, ← List.map_take, ← List.map_drop, mBestAward_at, mAwWorth_at, h, bA_yes, bestA_award h (show (-1 : Int) ≤ -1 by omega)]

noncomputable def wwB (xss : List (Bool × List Int)) (i : Int) : Int := if rectB xss 4 4 1000 = true ∧ 0 ≤ i ∧ i < xss.length then awTo xss (bestA xss i) (bestA xss i).length else -1

noncomputable def mWithout : List AV → Option AV := mk (fun _ => True) (fun (p : (Bool) × (List (Bool × List Int)) × (Int)) => [intss p.1 p.2.1, int p.2.2]) (fun p => int (wwB p.2.1 p.2.2))
theorem mWithout_at (nl : Bool) (xss : List (Bool × List Int)) (i : Int) : mWithout [.sl nl 1 (xss.map row), .v (.int .i64 i)] = some (.v (.int .i64 (wwB xss i))) :=
  mk_eq (enc := fun (p : (Bool) × (List (Bool × List Int)) × (Int)) => [intss p.1 p.2.1, int p.2.2]) (x := (nl, xss, i)) (by rintro ⟨a0, a1, a2⟩ ⟨b0, b1, b2⟩ h; simp [ints, intss, int, bool, row, frac, fracs, map_int_inj, map_row_inj, frac_inj, map_frac_inj] at h; simp [h]) trivial

theorem implWithout_ok : FnOk Try.prog 17 mWithout := by
  refine mk_ok fun ⟨nl, xss, i⟩ _ => ?_
  have hG : FnsOk Try.prog [(41, (mGrid 4 4 1000)), (51, mWithin), (42, mBestA), (43, mAwW)] := (.cons implBidsOk_ok (.cons within_ok (.cons bestAward_ok (.cons awardWorth_ok .nil))))
  refine callOk_awp (ctx_ok eqOk hG) mixed (live := [true, true, false, false, true, false, false, false, false, false, false, false, false, false, false, true]) (dt := []) Try.func17 rfl (by kernel_rfl) (by kernel_rfl) fun w0 hlens => ?_
  clear hlens
  cases h : rectB xss 4 4 1000 with
  | false => simp (config := {contextual := true}) [Try.f17, List.range, List.range.loop, ints, intss, int, bool, row, frac, fracs, ← List.map_take, ← List.map_drop, List.all, mGrid_at, h, wwB]
  | true =>
    have h0 := rect_pos h
    have hl := rect_len h
    have hs : IntKind.i64.wrap ((xss.length : Int) - 1) = (xss.length : Int) - 1 := wrapI (by omega) (by omega)
    by_cases hi : 0 ≤ i ∧ i < xss.length
    · have hin : inR 0 ((xss.length : Int) - 1) i = true := by simp [inR]; omega
      have hb := mBestA_at nl xss i ⟨h, by omega, by omega⟩
      rw [bestA_eq h (by omega)] at hb
      have hb2 := mBestS_at nl xss i ⟨h, by omega⟩
      have hw := mAwW_at nl xss false (bestA xss i) (bestA_pre h (by omega))
      have hww : wwB xss i = awTo xss (bestA xss i) (bestA xss i).length := if_pos ⟨h, hi⟩
      simp (config := {contextual := true}) [Try.f17, List.range, List.range.loop, ints, intss, int, bool, row, frac, fracs, ← List.map_take, ← List.map_drop, List.all, mGrid_at, mWithin_in, h, hs, hin, hb, hb2, bestAV, hw, hww]
    · have hin : inR 0 ((xss.length : Int) - 1) i = false := by simp [inR]; omega
      have hww : wwB xss i = -1 := if_neg fun hc => hi hc.2
      simp (config := {contextual := true}) [Try.f17, List.range, List.range.loop, ints, intss, int, bool, row, frac, fracs, ← List.map_take, ← List.map_drop, List.all, mGrid_at, mWithin_in, h, hs, hin, hww]

/-- What the bidder i pays. -/
noncomputable def payI (xss : List (Bool × List Int)) (i : Nat) : Int :=
  IntKind.i64.wrap (wwB xss i - (if 0 ≤ (bestA xss (-1)).getD i 0 then IntKind.i64.wrap (awTo xss (bestA xss (-1)) (bestA xss (-1)).length - ent xss i ((bestA xss (-1)).getD i 0)) else awTo xss (bestA xss (-1)) (bestA xss (-1)).length))
noncomputable def payL (xss : List (Bool × List Int)) (k : Nat) : List Int := (List.range k).map (payI xss)
theorem payL_succ {xss : List (Bool × List Int)} {k : Nat} : payL xss (k + 1) = payL xss k ++ [payI xss k] := by simp [payL, List.range_succ]
theorem payL_len {xss : List (Bool × List Int)} {k : Nat} : (payL xss k).length = k := by simp [payL]
noncomputable def payA (xss : List (Bool × List Int)) : List Int := if rectB xss 4 4 1000 = true then payL xss xss.length else []
theorem payA_yes {xss : List (Bool × List Int)} (h : rectB xss 4 4 1000 = true) : payA xss = payL xss xss.length := if_pos h
theorem payA_no {xss : List (Bool × List Int)} (h : rectB xss 4 4 1000 = false) : payA xss = [] := if_neg (by simp [h])

noncomputable def mPayments : List AV → Option AV := mk (fun _ => True) (fun (p : (Bool) × (List (Bool × List Int))) => [intss p.1 p.2]) (fun p => .sl (!rectB p.2 4 4 1000) 1 ((payA p.2).map int))
theorem mPayments_at (nl : Bool) (xss : List (Bool × List Int)) : mPayments [.sl nl 1 (xss.map row)] = some (.sl (!rectB xss 4 4 1000) 1 ((payA xss).map int)) :=
  mk_eq (enc := fun (p : (Bool) × (List (Bool × List Int))) => [intss p.1 p.2]) (x := (nl, xss)) (by rintro ⟨a0, a1⟩ ⟨b0, b1⟩ h; simp [ints, intss, int, bool, row, frac, fracs, map_int_inj, map_row_inj, frac_inj, map_frac_inj] at h; simp [h]) trivial

def pqS (l l' : List AV) : List Tok := [⟨true, .sl false 1 l⟩, ⟨true, .sl false 1 l'⟩]
/-- The slot of what is paid so far; the rows. -/
def apP : Nat → AV
  | 0 => .sl true 1 []
  | k + 1 => .ref 1 [] 0 (k + 1)
def apQ (l l' : List AV) : Nat → List Tok
  | 0 => [⟨true, .sl false 1 l⟩]
  | _ + 1 => [⟨true, .sl false 1 l⟩, ⟨true, .sl false 1 l'⟩]

set_option maxHeartbeats 1000000 in
theorem implPayments_ok : FnOk Try.prog 8 mPayments := by
  refine mk_ok fun ⟨nl, xss⟩ _ => ?_
  have hG : FnsOk Try.prog [(41, (mGrid 4 4 1000)), (7, mBestAward), (43, mAwW), (17, mWithout)] := (.cons implBidsOk_ok (.cons implBestAward_ok (.cons awardWorth_ok (.cons implWithout_ok .nil))))
  refine callOk_awp (ctx_ok eqOk hG) mixed (live := [true, false, true, true, true, true, true, true, false, false, true, false, false, true, true, true, true, false, false, false, false, false, false, false, true]) (dt := []) Try.func8 rfl (by kernel_rfl) (by kernel_rfl) fun w0 hlens => ?_
  clear hlens
  cases h : rectB xss 4 4 1000 with
  | false => simp (config := {contextual := true}) [Try.f8, List.range, List.range.loop, ints, intss, int, bool, row, frac, fracs, ← List.map_take, ← List.map_drop, mGrid_at, h, payA_no]
  | true =>
    obtain ⟨hb1, hb2, _⟩ := bestA_mem h (show (-1 : Int) ≤ -1 by omega)
    have hl := rect_len h
    have hw := mAwW_at nl xss false (bestA xss (-1)) (bestA_pre h (by omega))
    have hpay : ∀ k, payI xss k = IntKind.i64.wrap (wwB xss k - (if 0 ≤ (bestA xss (-1)).getD k 0 then IntKind.i64.wrap (awTo xss (bestA xss (-1)) (bestA xss (-1)).length - ent xss k ((bestA xss (-1)).getD k 0)) else awTo xss (bestA xss (-1)) (bestA xss (-1)).length)) := fun k => rfl
    simp (config := {contextual := true}) [Try.f8, List.range, List.range.loop, ints, intss, int, bool, row, frac, fracs, ← List.map_take, ← List.map_drop, mGrid_at, mBestAward_at, h, bA_yes, payA_yes]
    generalize bestA xss (-1) = aw at hb1 hb2 hw hpay
    have hle : xss.length ≤ 9223372036854775807 := by omega
    refine awp_range (live := [true, false, true, true, true, true, true, true, false, false, true, false, false, true, true, true, true, false, false, false, false, false, false, false, true]) (ctx_ok eqOk hG) mixed [true, false, false, true, true, false, false, false, false, false, false, false, false, true, true, true] (xss.length) (fun k => True) (fun k => ⟨[intss nl xss, .junk, .junk, .ref 0 [] 0 xss.length, apP k, .junk, .junk, .junk, .junk, .junk, .junk, .junk, .junk, .ref 0 [] 0 xss.length, int xss.length, int k, .junk, .junk, .junk, .junk, .junk, .junk, .junk, .junk, .junk, .junk, .junk, .junk, .junk, .junk, .junk, .junk, .junk, .junk, .junk, .junk, .junk, .junk, .junk, .junk, .junk, .junk, .junk, .junk], apQ (aw.map int) ((payL xss k).map int) k⟩) ?_ (by simp [sub, slotsLe, clean, keep, refsL, refs, once, place, renL, ren, List.replicate, int, bool, hb1, payL, intss, apP, apQ, pqS]) ?_ ?_ ?_
    · exact hle
    · trivial
    · intro k hk _ hwk
      have hkl : k < aw.length := by omega
      have hrow := rect_row h hk
      have hx := hb2 _ (List.getElem_mem hkl)
      have hg : 0 ≤ aw[k] → xss[k].2[aw[k].toNat]? = some (ent xss k aw[k]) := fun h0 => ent_get hk (by omega)
      have hp := hpay k
      rw [getD_at hkl] at hp
      have hpl := payL_len (xss := xss) (k := k)
      have hps := payL_succ (xss := xss) (k := k)
      have hwo := mWithout_at nl xss (k : Int)
      have htk : aw.take xss.length = aw := List.take_of_length_le (by omega)
      have hb8 : k + 1 ≤ 4611686018427387904 ∧ (k + 1) * 8 ≤ 140737488355328 := by omega
      by_cases hx0 : 0 ≤ aw[k]
      · rw [if_pos hx0] at hp
        cases k with
        | zero =>
          simp at hwo hp
          simp (config := {contextual := true}) [List.range, List.range.loop, ints, intss, int, bool, row, frac, fracs, ← List.map_take, ← List.map_drop, apP, apQ, pqS, htk, hk, hwk, hkl, hw, hg hx0, hx0, hwo, hpl, hps, hp, hb1, hb8, payL]
          exact wrapI (by omega) (by omega)
        | succ k =>
          push_cast at hwo hp
          simp (config := {contextual := true}) [List.range, List.range.loop, ints, intss, int, bool, row, frac, fracs, ← List.map_take, ← List.map_drop, apP, apQ, pqS, htk, hk, hwk, hkl, hw, hg hx0, hx0, hwo, hpl, hps, hp, hb1, hb8]
          exact wrapI (by omega) (by omega)
      · rw [if_neg hx0] at hp
        cases k with
        | zero =>
          simp at hwo hp
          simp (config := {contextual := true}) [List.range, List.range.loop, ints, intss, int, bool, row, frac, fracs, ← List.map_take, ← List.map_drop, apP, apQ, pqS, htk, hk, hwk, hkl, hw, hx0, hwo, hpl, hps, hp, hb1, hb8, payL]
          exact wrapI (by omega) (by omega)
        | succ k =>
          push_cast at hwo hp
          simp (config := {contextual := true}) [List.range, List.range.loop, ints, intss, int, bool, row, frac, fracs, ← List.map_take, ← List.map_drop, apP, apQ, pqS, htk, hk, hwk, hkl, hw, hx0, hwo, hpl, hps, hp, hb1, hb8]
          exact wrapI (by omega) (by omega)
    · intro _
      have hpl := payL_len (xss := xss) (k := xss.length)
      obtain ⟨m, hm⟩ : ∃ m, xss.length = m + 1 := ⟨xss.length - 1, by have := rect_pos h; omega⟩
      rw [hm] at hpl ⊢
      simp (config := {contextual := true}) [List.range, List.range.loop, ints, intss, int, bool, row, frac, fracs, ← List.map_take, ← List.map_drop, apP, apQ, pqS, hpl]

noncomputable def bAP (xss : List (Bool × List Int)) : Bool × List Int := (!rectB xss 4 4 1000, bA xss)
theorem bAP_at (nl : Bool) (xss : List (Bool × List Int)) : mBestAward [.sl nl 1 (xss.map row)] = some (.sl (bAP xss).1 1 ((bAP xss).2.map int)) := mBestAward_at nl xss
theorem bA_len {xss : List (Bool × List Int)} : (bA xss).length ≤ 4 := by
  cases h : rectB xss 4 4 1000 with
  | false => rw [bA_no h]; simp
  | true => rw [bA_yes h, (bestA_mem h (by omega)).1]; have := rect_len h; omega
theorem bAP_len {xss : List (Bool × List Int)} : (bAP xss).2.length ≤ 2 ^ 40 := by have := bA_len (xss := xss); simp only [bAP]; omega
noncomputable def payP (xss : List (Bool × List Int)) : Bool × List Int := (!rectB xss 4 4 1000, payA xss)
theorem payP_at (nl : Bool) (xss : List (Bool × List Int)) : mPayments [.sl nl 1 (xss.map row)] = some (.sl (payP xss).1 1 ((payP xss).2.map int)) := mPayments_at nl xss
theorem payA_len {xss : List (Bool × List Int)} : (payA xss).length ≤ 4 := by
  cases h : rectB xss 4 4 1000 with
  | false => rw [payA_no h]; simp
  | true => rw [payA_yes h, payL_len]; have := rect_len h; omega
theorem payP_len {xss : List (Bool × List Int)} : (payP xss).2.length ≤ 2 ^ 40 := by have := payA_len (xss := xss); simp only [payP]; omega

end Go.Proofs.Ytakladjlnkojjaa.Ax
