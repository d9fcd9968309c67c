/-
  Contracts: copies of rows, GainWith, ThingPrices (both programs). No condition.
-/
import Derived.Test.YtakladjlnkojjaaCG57
import Derived.Test.YtakladjlnkojjaaCG21
namespace Go.Proofs.Ytakladjlnkojjaa.Ax
open Go Go.RowKit
set_option linter.unusedSimpArgs false

/-- No row is nil by its mark. -/
def plain (xss : List (Bool × List Int)) : Prop := ∀ r ∈ xss, r.1 = false
theorem own_plain {xss : List (Bool × List Int)} : plain (own xss) := by
  intro r hr
  simp only [own, List.mem_map] at hr
  obtain ⟨p, _, rfl⟩ := hr; rfl

/-- The slot of the rows so far; the row. -/
def apC : Nat → AV
  | 0 => .sl true 1 []
  | k + 1 => .ref 0 [] 0 (k + 1)
def apD (l : List AV) : Nat → List Tok
  | 0 => []
  | _ + 1 => [⟨true, .sl false 1 l⟩]
def apE (l : List AV) : List Tok := [⟨true, .sl false 1 l⟩]

theorem take_row {xss : List (Bool × List Int)} (hp : plain xss) {k : Nat} (h : k < xss.length) : (xss.take k).map row ++ [.sl false 1 (xss[k].2.map int)] = (xss.take (k + 1)).map row := by
  rw [List.take_succ_eq_append_getElem h, List.map_append]
  have : xss[k].1 = false := hp _ (List.getElem_mem h)
  simp [row, this]

noncomputable def mCopyR : List AV → Option AV := mk (fun p => rectB p.2 4 4 1000 = true ∧ plain p.2) (fun (p : (Bool) × (List (Bool × List Int))) => [intss p.1 p.2]) (fun p => intss false p.2)
theorem mCopyR_at (nl : Bool) (xss : List (Bool × List Int)) (hpre : rectB xss 4 4 1000 = true ∧ plain xss) : mCopyR [.sl nl 1 (xss.map row)] = some (intss false xss) :=
  mk_eq (enc := fun (p : (Bool) × (List (Bool × List Int))) => [intss p.1 p.2]) (x := (nl, xss)) (by rintro ⟨a0, a1⟩ ⟨b0, b1⟩ h; simp [ints, intss, int, bool, row, frac, fracs, map_int_inj, map_row_inj, frac_inj, map_frac_inj] at h; simp [h]) hpre

set_option maxHeartbeats 1000000 in
theorem copyRows_ok : FnOk Try.prog 52 mCopyR := by
  refine mk_ok fun ⟨nl, xss⟩ ⟨h, hp⟩ => ?_
  simp only at h hp
  have hG : FnsOk Try.prog [(53, mClone)] := (.cons clone_ok .nil)
  refine callOk_awp (ctx_ok eqOk hG) mixed (live := [true, false, true, true, false, true, true, true, true, true]) (dt := []) Try.func52 rfl (by kernel_rfl) (by kernel_rfl) fun w0 hlens => ?_
  clear hlens
  have hl := rect_len h
  have h0 := rect_pos h
  simp (config := {contextual := true}) [Try.f52, List.range, List.range.loop, ints, intss, int, bool, row, frac, fracs, ← List.map_take, ← List.map_drop]
  refine awp_range (live := [true, false, true, true, false, true, true, true, true, true]) (ctx_ok eqOk hG) mixed [false, false, false, true, false, false, true, true, true] (xss.length) (fun k => True) (fun k => ⟨[.junk, .junk, .junk, apC k, .junk, .junk, intss nl xss, int xss.length, int k, .junk, .junk, .junk, .junk, .junk, .junk, .junk, .junk, .junk, .junk], apD ((xss.take k).map row) k⟩) ?_ (by simp [sub, slotsLe, clean, keep, refsL, refs, once, place, renL, ren, List.replicate, int, bool, intss, apC, apD, apE]) ?_ ?_ ?_
  · omega
  · trivial
  · intro k hk _ hwk
    have hrow := rect_row h hk
    have hf : xss[k].1 = false := hp _ (List.getElem_mem hk)
    have hcl := mClone_at false xss[k].2 (by omega)
    have hlt : xss[k].2.length ≤ 4611686018427387904 ∧ xss[k].2.length * 8 ≤ 140737488355328 := by omega
    have hb8 : k + 1 ≤ 4611686018427387904 ∧ (k + 1) * 24 ≤ 140737488355328 := by omega
    have hw1 : IntKind.i64.wrap ((k : Int) + 1) = (k : Int) + 1 := hwk
    have htl : (xss.take k).length = k := by simp; omega
    cases k with
    | zero =>
      have hwk1 : IntKind.i64.wrap 1 = 1 := by decide
      have htr := (take_row hp hk).symm
      simp only [List.take_zero, List.map_nil, List.nil_append] at htr
      rw [Nat.zero_add] at htr
      simp (config := {contextual := true}) [List.range, List.range.loop, ints, intss, int, bool, row, frac, fracs, ← List.map_take, ← List.map_drop, apC, apD, apE, h0, hf, hcl, htr, hlt, hb8, hwk1]
    | succ k =>
      have htr := take_row hp hk
      simp (config := {contextual := true}) [List.range, List.range.loop, ints, intss, int, bool, row, frac, fracs, ← List.map_take, ← List.map_drop, apC, apD, apE, hk, hf, hcl, htr, hlt, hb8, hwk, htl]
      exact wrapI (by omega) (by omega)
  · intro _
    obtain ⟨m, hm⟩ : ∃ m, xss.length = m + 1 := ⟨xss.length - 1, by omega⟩
    have ht : xss.take (m + 1) = xss := List.take_of_length_le (by omega)
    rw [hm]
    simp (config := {contextual := true}) [List.range, List.range.loop, ints, intss, int, bool, row, frac, fracs, ← List.map_take, ← List.map_drop, apC, apD, apE, ht, hm]

/-- With other bids of one bidder. -/
def told (xss : List (Bool × List Int)) (i : Int) (nb : Bool) (bids : List Int) : List (Bool × List Int) := xss.set i.toNat (nb, bids)
theorem told_row {xss : List (Bool × List Int)} {i : Int} {nb : Bool} {bids : List Int} : (xss.map row).set i.toNat (.sl nb 1 (bids.map int)) = (told xss i nb bids).map row := by
  unfold told; rw [List.map_set]; rfl
theorem told_len {xss : List (Bool × List Int)} {i : Int} {nb : Bool} {bids : List Int} : (told xss i nb bids).length = xss.length := by simp [told]
theorem told_wid {xss : List (Bool × List Int)} {i : Int} {nb : Bool} {bids : List Int} (h0 : 0 < xss.length) (h : bids.length = wid xss) : wid (told xss i nb bids) = wid xss := by
  cases xss with
  | nil => simp at h0
  | cons r l =>
    unfold told
    cases i.toNat with
    | zero => simpa [wid] using h
    | succ j => simp [wid]

noncomputable def gainV (xss : List (Bool × List Int)) (i : Int) (T : List (Bool × List Int)) : Int :=
  if 0 ≤ (bA T).getD i.toNat 0 then IntKind.i64.wrap (IntKind.i64.wrap (0 - (payA T).getD i.toNat 0) + ent xss i.toNat ((bA T).getD i.toNat 0)) else IntKind.i64.wrap (0 - (payA T).getD i.toNat 0)
noncomputable def gainB (xss : List (Bool × List Int)) (i : Int) (nb : Bool) (bids : List Int) : Bool := rectB xss 4 4 1000 && decide (0 ≤ i) && decide (i < xss.length) && decide (bids.length = wid xss) && rectB (told xss i nb bids) 4 4 1000
noncomputable def gainI (xss : List (Bool × List Int)) (i : Int) (nb : Bool) (bids : List Int) : Int := if gainB xss i nb bids = true then gainV xss i (told xss i nb bids) else 0

noncomputable def mGainW : List AV → Option AV := mk (fun p => plain p.2.1) (fun (p : Bool × List (Bool × List Int) × Int × Bool × List Int) => [intss p.1 p.2.1, int p.2.2.1, ints p.2.2.2.1 p.2.2.2.2]) (fun p => .tup [int (gainI p.2.1 p.2.2.1 p.2.2.2.1 p.2.2.2.2), bool (gainB p.2.1 p.2.2.1 p.2.2.2.1 p.2.2.2.2)])
theorem mGainW_at (nl : Bool) (xss : List (Bool × List Int)) (i : Int) (nb : Bool) (bids : List Int) (h : plain xss) : mGainW [.sl nl 1 (xss.map row), .v (.int .i64 i), .sl nb 1 (bids.map int)] = some (.tup [.v (.int .i64 (gainI xss i nb bids)), .v (.bool (gainB xss i nb bids))]) :=
  mk_eq (enc := fun (p : Bool × List (Bool × List Int) × Int × Bool × List Int) => [intss p.1 p.2.1, int p.2.2.1, ints p.2.2.2.1 p.2.2.2.2]) (x := (nl, xss, i, nb, bids)) (by rintro ⟨a, b, c, d, e⟩ ⟨f, g, h, i, j⟩ hh; simp [intss, ints, int, map_row_inj, map_int_inj] at hh; simp [hh]) h

set_option maxHeartbeats 1000000 in
theorem implGainW_ok : FnOk Try.prog 16 mGainW := by
  refine mk_ok fun ⟨nl, xss, i, nb, bids⟩ hp => ?_
  simp only at hp
  have hG : FnsOk Try.prog [(41, (mGrid 4 4 1000)), (51, mWithin), (52, mCopyR), (53, mClone), (8, mPayments), (7, mBestAward)] := (.cons implBidsOk_ok (.cons within_ok (.cons copyRows_ok (.cons clone_ok (.cons implPayments_ok (.cons implBestAward_ok .nil))))))
  refine callOk_awp (ctx_ok eqOk hG) mixed (live := [true, true, true, false, false, false, true, true, true, true, true, false, false, false, false, false, false, false, false, false, false, false, false, false, false, false, false, false, false, false, true, false, false, false, false, false, false, false, false, false, true, false, false, false, false, false, false, false, false, false, false, false, false, true]) (dt := []) Try.func16 rfl (by kernel_rfl) (by kernel_rfl) fun w0 hlens => ?_
  have hnil := (lens_ints.1 hlens.2.2.1).2
  clear hlens
  cases h : rectB xss 4 4 1000 with
  | false =>
    have hb : gainB xss i nb bids = false := by simp [gainB, h]
    have hg : gainI xss i nb bids = 0 := if_neg (by simp [hb])
    simp (config := {contextual := true}) [Try.f16, List.range, List.range.loop, ints, intss, int, bool, row, frac, fracs, ← List.map_take, ← List.map_drop, mGrid_at, h, hb, hg]
  | true =>
    have h0 := rect_pos h
    have hl := rect_len h
    have hw := wid_eq h0
    have hs : IntKind.i64.wrap ((xss.length : Int) - 1) = (xss.length : Int) - 1 := wrapI (by omega) (by omega)
    by_cases hi : 0 ≤ i ∧ i < xss.length
    rotate_left
    · have hin : inR 0 ((xss.length : Int) - 1) i = false := by simp [inR]; omega
      have hb : gainB xss i nb bids = false := by simp [gainB]; omega
      have hg : gainI xss i nb bids = 0 := if_neg (by simp [hb])
      simp (config := {contextual := true}) [Try.f16, List.range, List.range.loop, ints, intss, int, bool, row, frac, fracs, ← List.map_take, ← List.map_drop, mGrid_at, mWithin_in, h, hs, hin, hb, hg]
    have hin : inR 0 ((xss.length : Int) - 1) i = true := by simp [inR]; omega
    have hit : i.toNat < xss.length := by omega
    have hcp := mCopyR_at nl xss ⟨h, hp⟩
    have hset := told_row (xss := xss) (i := i) (nb := nb) (bids := bids)
    have htl0 := told_len (xss := xss) (i := i) (nb := nb) (bids := bids)
    have htt0 : (told xss i nb bids).take xss.length = told xss i nb bids := List.take_of_length_le (by omega)
    by_cases hbl : bids.length = wid xss
    rotate_left
    · have hb : gainB xss i nb bids = false := by simp [gainB]; omega
      have hg : gainI xss i nb bids = 0 := if_neg (by simp [hb])
      have hbl' : ¬ ((bids.length : Int) = (wid xss : Int)) := by omega
      have hrow : (xss.map row)[i.toNat]? = some (row xss[i.toNat]) := by simp [hit]
      simp (config := {contextual := true}) [Try.f16, List.range, List.range.loop, ints, intss, int, bool, row, frac, fracs, ← List.map_take, ← List.map_drop, mGrid_at, mWithin_in, h, hs, hin, hb, hg, hw, h0, hbl, hbl', hcp, hi.1, hit, hset, htl0, htt0]
      done
    have hnb : nb = false := by
      cases nb with
      | false => rfl
      | true => have := hnil rfl; subst this; simp at hbl; omega
    subst hnb
    have hcl := mClone_at false bids (by omega)
    have htl := told_len (xss := xss) (i := i) (nb := false) (bids := bids)
    have htw := told_wid (i := i) (nb := false) h0 hbl
    have hgB : gainB xss i false bids = rectB (told xss i false bids) 4 4 1000 := by simp [gainB, h, hi.1, hi.2, hbl]
    cases hT : rectB (told xss i false bids) 4 4 1000 with
    | false =>
      rw [hT] at hgB
      have hg : gainI xss i false bids = 0 := if_neg (by simp [hgB])
      simp (config := {contextual := true}) [Try.f16, List.range, List.range.loop, ints, intss, int, bool, row, frac, fracs, ← List.map_take, ← List.map_drop, mGrid_at, mWithin_in, h, hs, hin, hgB, hg, hw, h0, hbl, hcp, hi.1, hit, hset, hcl, hT, htl, htt0]
      done
    | true =>
      rw [hT] at hgB
      have hg : gainI xss i false bids = gainV xss i (told xss i false bids) := if_pos hgB
      obtain ⟨hm1, hm2, _⟩ := bestA_mem hT (show (-1 : Int) ≤ -1 by omega)
      generalize told xss i false bids = T at hT hgB hg hm1 hm2 htl htw hset htt0
      have hbT := bA_yes hT
      have hpl : (payA T).length = xss.length := by rw [payA_yes hT, payL_len, htl]
      have hbl2 : (bA T).length = xss.length := by rw [hbT, hm1, htl]
      obtain ⟨p, hpg⟩ : ∃ p, (payA T)[i.toNat]? = some p := ⟨_, List.getElem?_eq_getElem (by omega)⟩
      obtain ⟨x, hxg⟩ : ∃ x, (bA T)[i.toNat]? = some x := ⟨_, List.getElem?_eq_getElem (by omega)⟩
      have hxm : -1 ≤ x ∧ x ≤ (wid xss : Int) - 1 := by rw [← htw]; exact hm2 x (by rw [← hbT]; exact List.mem_of_getElem? hxg)
      have hgv : gainV xss i T = if 0 ≤ x then IntKind.i64.wrap (IntKind.i64.wrap (0 - p) + ent xss i.toNat x) else IntKind.i64.wrap (0 - p) := by
        unfold gainV
        simp only [List.getD_eq_getElem?_getD, hpg, hxg, Option.getD_some]
      have hpe := (List.getElem?_eq_some_iff.1 hpg).2
      have hxe := (List.getElem?_eq_some_iff.1 hxg).2
      have hrl := (rect_row h hit).1
      have hex : 0 ≤ x → xss[i.toNat].2[x.toNat]? = some (ent xss i.toNat x) := fun h0 => ent_get hit (by omega)
      by_cases hx0 : 0 ≤ x
      · rw [if_pos hx0] at hgv
        simp (config := {contextual := true}) [Try.f16, List.range, List.range.loop, ints, intss, int, bool, row, frac, fracs, ← List.map_take, ← List.map_drop, mGrid_at, mWithin_in, mBestAward_at, mPayments_at, h, hs, hin, hgB, hg, hgv, hw, h0, hbl, hcp, hi.1, hi.2, hit, hset, hcl, hT, htl, htt0, hpl, hbl2, hpg, hxg, hpe, hxe, hx0, hex hx0]
      · rw [if_neg hx0] at hgv
        simp (config := {contextual := true}) [Try.f16, List.range, List.range.loop, ints, intss, int, bool, row, frac, fracs, ← List.map_take, ← List.map_drop, mGrid_at, mWithin_in, mBestAward_at, mPayments_at, h, hs, hin, hgB, hg, hgv, hw, h0, hbl, hcp, hi.1, hi.2, hit, hset, hcl, hT, htl, htt0, hpl, hbl2, hpg, hxg, hpe, hxe, hx0]

/-- The prices behind the first k bidders. -/
def prTo (w : Nat) (aw pay : List Int) : Nat → List Int
  | 0 => List.replicate w 0
  | k + 1 => if 0 ≤ aw.getD k 0 then (prTo w aw pay k).set (aw.getD k 0).toNat (pay.getD k 0) else prTo w aw pay k
theorem prTo_len {w : Nat} {aw pay : List Int} : ∀ {k : Nat}, (prTo w aw pay k).length = w
  | 0 => by simp [prTo]
  | k + 1 => by simp only [prTo]; split <;> simp [prTo_len]
noncomputable def prA (xss : List (Bool × List Int)) : List Int := if rectB xss 4 4 1000 = true then prTo (wid xss) (bA xss) (payA xss) xss.length else []

noncomputable def mPrices : List AV → Option AV := mk (fun _ => True) (fun (p : (Bool) × (List (Bool × List Int))) => [intss p.1 p.2]) (fun p => .sl (!rectB p.2 4 4 1000) 1 ((prA p.2).map int))
theorem mPrices_at (nl : Bool) (xss : List (Bool × List Int)) : mPrices [.sl nl 1 (xss.map row)] = some (.sl (!rectB xss 4 4 1000) 1 ((prA xss).map int)) :=
  mk_eq (enc := fun (p : (Bool) × (List (Bool × List Int))) => [intss p.1 p.2]) (x := (nl, xss)) (by rintro ⟨a0, a1⟩ ⟨b0, b1⟩ h; simp [ints, intss, int, bool, row, frac, fracs, map_int_inj, map_row_inj, frac_inj, map_frac_inj] at h; simp [h]) trivial

set_option maxHeartbeats 1000000 in
theorem implPrices_ok : FnOk Try.prog 9 mPrices := by
  refine mk_ok fun ⟨nl, xss⟩ _ => ?_
  have hG : FnsOk Try.prog [(41, (mGrid 4 4 1000)), (8, mPayments), (7, mBestAward)] := (.cons implBidsOk_ok (.cons implPayments_ok (.cons implBestAward_ok .nil)))
  refine callOk_awp (ctx_ok eqOk hG) mixed (live := [true, false, true, true, true, true, true, false, false, true, false, false, false, false, false, false, false, false, true, true, true, true, false, false, false, false, true]) (dt := []) Try.func9 rfl (by kernel_rfl) (by kernel_rfl) fun w0 hlens => ?_
  clear hlens
  cases h : rectB xss 4 4 1000 with
  | false =>
    have hp : prA xss = [] := if_neg (by simp [h])
    simp (config := {contextual := true}) [Try.f9, List.range, List.range.loop, ints, intss, int, bool, row, frac, fracs, ← List.map_take, ← List.map_drop, mGrid_at, h, hp]
  | true =>
    have h0 := rect_pos h
    have hl := rect_len h
    have hw := wid_eq h0
    have hp : prA xss = prTo (wid xss) (bA xss) (payA xss) xss.length := if_pos h
    obtain ⟨hm1, hm2, _⟩ := bestA_mem h (show (-1 : Int) ≤ -1 by omega)
    have hpl : (payA xss).length = xss.length := by rw [payA_yes h, payL_len]
    rw [← bA_yes h] at hm1 hm2
    have hb1 : 8 * wid xss ≤ 281474976710656 := by omega
    have hb2 : wid xss ≤ 4611686018427387904 := by omega
    simp (config := {contextual := true}) [Try.f9, List.range, List.range.loop, ints, intss, int, bool, row, frac, fracs, ← List.map_take, ← List.map_drop, mGrid_at, mBestAward_at, mPayments_at, h, hp, h0, hw, hb1, hb2]
    generalize bA xss = aw at hm1 hm2
    generalize payA xss = pay at hpl
    refine awp_range (live := [true, false, true, true, true, true, true, false, false, true, false, false, false, false, false, false, false, false, true, true, true, true, false, false, false, false, true]) (ctx_ok eqOk hG) mixed [false, false, false, true, true, false, false, false, false, false, false, false, false, false, false, false, false, false, true, true, true] (xss.length) (fun k => True) (fun k => ⟨[.junk, .junk, .junk, .ref 0 [] 0 (wid xss), .ref 1 [] 0 xss.length, .junk, .junk, .junk, .junk, .junk, .junk, .junk, .junk, .junk, .junk, .junk, .junk, .junk, .ref 2 [] 0 xss.length, int xss.length, int k, .junk, .junk, .junk, .junk, .junk, .junk, .junk, .junk, .junk, .junk, .junk, .junk, .junk, .junk, .junk], [⟨true, .sl false 1 ((prTo (wid xss) aw pay k).map int)⟩, ⟨true, .sl false 1 (pay.map int)⟩, ⟨true, .sl false 1 (aw.map int)⟩]⟩) ?_ (by simp [sub, slotsLe, clean, keep, refsL, refs, once, place, renL, ren, List.replicate, int, bool, prTo, hm1, hpl]) ?_ ?_ ?_
    · omega
    · trivial
    · intro k hk _ hwk
      have hkl : k < aw.length := by omega
      have hkp : k < pay.length := by omega
      have hx := hm2 _ (List.getElem_mem hkl)
      have hps : prTo (wid xss) aw pay (k + 1) = if 0 ≤ aw[k] then (prTo (wid xss) aw pay k).set aw[k].toNat pay[k] else prTo (wid xss) aw pay k := by rw [prTo, getD_at hkl, getD_at hkp]
      have hpr := prTo_len (w := wid xss) (aw := aw) (pay := pay) (k := k)
      by_cases hx0 : 0 ≤ aw[k]
      · rw [if_pos hx0] at hps
        have hlt : aw[k] < (wid xss : Int) := by omega
        simp (config := {contextual := true}) [List.range, List.range.loop, ints, intss, int, bool, row, frac, fracs, ← List.map_take, ← List.map_drop, hk, hkl, hkp, hwk, hpr, hx0, hlt, hps, hm1, hpl]
        done
      · rw [if_neg hx0] at hps
        simp (config := {contextual := true}) [List.range, List.range.loop, ints, intss, int, bool, row, frac, fracs, ← List.map_take, ← List.map_drop, hk, hkl, hkp, hwk, hpr, hx0, hps, hm1, hpl]
        done
    · intro _
      have hpr := prTo_len (w := wid xss) (aw := aw) (pay := pay) (k := xss.length)
      simp (config := {contextual := true}) [List.range, List.range.loop, ints, intss, int, bool, row, frac, fracs, ← List.map_take, ← List.map_drop, hpr]
      done

noncomputable def prP (xss : List (Bool × List Int)) : Bool × List Int := (!rectB xss 4 4 1000, prA xss)
theorem prP_at (nl : Bool) (xss : List (Bool × List Int)) : mPrices [.sl nl 1 (xss.map row)] = some (.sl (prP xss).1 1 ((prP xss).2.map int)) := mPrices_at nl xss
theorem prP_len {xss : List (Bool × List Int)} : (prP xss).2.length ≤ 2 ^ 40 := by
  simp only [prP, prA]
  cases h : rectB xss 4 4 1000 with
  | false => simp
  | true => simp only [if_true, prTo_len]; have := rect_len h; omega

end Go.Proofs.Ytakladjlnkojjaa.Ax
