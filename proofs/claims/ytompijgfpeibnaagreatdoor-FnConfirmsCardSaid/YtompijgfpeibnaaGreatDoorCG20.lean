/-
 A known call: impl.CountEnvyFree. No condition.
-/
import Derived.Test.YtompijgfpeibnaaGreatDoorCG16
import Derived.Test.YtompijgfpeibnaaGreatDoorCG19
import Derived.Test.YtompijgfpeibnaaGreatDoorCG17
import Derived.Test.YtompijgfpeibnaaGreatDoorCK4
namespace Go.Proofs.YtompijgfpeibnaaGreatDoor.Ax
open Go Go.RowKit
noncomputable def c_cntf : Fact := ⟨132, [.sl false 1 [.sl false 1 [i 5, i 3, i 2], .sl false 1 [i 1, i 4, i 4]]], i 1⟩
theorem k_cntf : CallOk Tryz.prog c_cntf.f c_cntf.args c_cntf.r := by
 have h := implCntF_ok _ _ (mCntF_at false [(false, [5, 3, 2]), (false, [1, 4, 4])] (by kernel_rfl))
 rw [show (AV.v (.int .i64 (cntF [(false, [5, 3, 2]), (false, [1, 4, 4])] (allocs [(false, [5, 3, 2]), (false, [1, 4, 4])])))) = c_cntf.r from by kernel_rfl] at h
 exact h
open Go Go.RowKit
noncomputable def c_goods : Fact := ⟨72, [.sl false 1 [.sl false 1 [i 5, i 3, i 2], .sl false 1 [i 1, i 4, i 4]]], bsv O_goods⟩
theorem k_goods : CallOk Tryz.prog c_goods.f c_goods.args c_goods.r := runF (tab := [c_most, c_cntf]) (fcC k_most (fcC k_cntf fcN)) 40 (by kernel_rfl)
open Go Go.RowKit
noncomputable def c_ptgoods : Fact := ⟨127, [bsv (bz 0x342c342c313b322c332c35)], .tup [.sl false 1 [.sl false 1 [i 5, i 3, i 2], .sl false 1 [i 1, i 4, i 4]], bo true]⟩
theorem k_ptgoods : FrzOk Tryz.prog c_ptgoods.f c_ptgoods.args true c_ptgoods.r := runX (tab := []) (tabH := []) [56, 96] fcN fhN noS_ok 60 (by kernel_rfl)
open Go Go.RowKit
noncomputable def c_lgoods : Fact := ⟨11, [p0, bsv L_goods], .tup [p0, bsv O_goods]⟩
theorem k_lgoods : FrzOk Tryz.prog c_lgoods.f c_lgoods.args true c_lgoods.r := runX (tab := [c_clone, c_goods]) (tabH := [c_ptgoods]) [24, 18] (fcC k_clone (fcC k_goods fcN)) (fhC k_ptgoods fhN) noS_ok 60 (by kernel_rfl)
open Go Go.RowKit
set_option linter.unusedSimpArgs false
def bestAV : Option (List Int) → AV
 | none => .sl true 1 []
 | some l => .sl false 1 (l.map int)
def wAw (xss : List (Bool × List Int)) (l : List Int) : Int := awTo xss l l.length
noncomputable def mBestA : List AV → Option AV := mk (fun p => rectB p.2.1 4 4 1000 = true ∧ -1 ≤ p.2.2 ∧ p.2.2 < p.2.1.length) (fun (p : Bool × List (Bool × List Int) × Int) => [intss p.1 p.2.1, int p.2.2])
 (fun p => bestAV (bestO (wAw p.2.1) (okP p.2.2) (allL (-1) ((wid p.2.1 : Int) - 1) p.2.1.length)))
theorem mBestA_at (nl : Bool) (xss : List (Bool × List Int)) (wo : Int) (h : rectB xss 4 4 1000 = true ∧ -1 ≤ wo ∧ wo < xss.length) : mBestA [.sl nl 1 (xss.map row), .v (.int .i64 wo)] = some (bestAV (bestO (wAw xss) (okP wo) (allL (-1) ((wid xss : Int) - 1) xss.length))) :=
 mk_eq (enc := fun (p : Bool × List (Bool × List Int) × Int) => [intss p.1 p.2.1, int p.2.2]) (x := (nl, xss, wo)) (by rintro ⟨a, b, c⟩ ⟨d, e, f⟩ h; simp [intss, int, map_row_inj] at h; simp [h]) h
theorem wAw_pre {xss : List (Bool × List Int)} (h : rectB xss 4 4 1000 = true) {l : List Int} (hl : l ∈ allL (-1) ((wid xss : Int) - 1) xss.length) : l.length ≤ xss.length ∧ ∀ i, i < l.length → l.getD i 0 < ((xss.getD i (true, [])).2.length : Int) := by
 obtain ⟨h1, h2⟩ := allL_mem hl
 refine ⟨by omega, fun i hi => ?_⟩
 have := (h2 _ (List.getElem_mem hi)).2
 have hr := (rect_row h (i := i) (by omega)).1
 rw [getD_at hi, List.getD_eq_getElem?_getD, List.getElem?_eq_getElem (by omega)]
 simp only [Option.getD_some]; omega
set_option maxHeartbeats 1000000 in
theorem bestAward_ok : FnOk Tryz.prog 226 mBestA := by
 refine mk_ok fun ⟨nl, xss, wo⟩ ⟨h1, hwo, hwo2⟩ => ?_
 simp only at h1 hwo hwo2
 have hG : FnsOk Tryz.prog [(309, mIsAwd), (227, mAwW), (38, mClone)] := (.cons isAward_ok (.cons awardWorth_ok (.cons clone_ok .nil)))
 have hM : FnsMut Tryz.prog [] := .nil
 have hV : FnsMov Tryz.prog [] := .nil
 have hK : FnsFrz Tryz.prog [(306, true, mLists)] := (.cons lists_ok .nil)
 refine callOk_awp (ctxH_ok eqOk hG hM hV hK) mixed (live := [true, true, true, true, true, true, true, false, false, false, false, false, false, false, true, true, false, false, false, false, false, false, false, false, false, false, false, false, false, true, false, false, false, false, false, false, false, false, false, false, true]) (dt := [(2, ⟨[], [], []⟩), (5, ⟨[], [], []⟩)]) Tryz.func226 rfl (by kernel_rfl) (by kernel_rfl) fun w0 hlens => ?_
 clear hlens
 have h0 := rect_pos h1
 have hw := wid_eq h0
 have hl := rect_len h1
 have hs : IntKind.i64.wrap ((wid xss : Int) - 1) = (wid xss : Int) - 1 := wrapI (by omega) (by omega)
 have hls := mLists_at xss.length (-1) ((wid xss : Int) - 1)
 simp (config := {contextual := true}) [Tryz.f226, List.range, List.range.loop, ints, intss, int, bool, row, frac, fracs, ← List.map_take, ← List.map_drop, List.all, h0, hw, hs, hls]
 refine tr_rangeFunc (live := [true, true, true, true, true, true, true, false, false, false, false, false, false, false, true, true, false, false, false, false, false, false, false, false, false, false, false, false, false, true, false, false, false, false, false, false, false, false, false, false, true]) (lv := [false, false, true, true, false, true, false, false, false, false, false, false, false, false, true]) (S0 := [.junk, .junk, .fp (.sl nl 1 (xss.map row)) 0, .fp (int wo) 0, .junk, .ptr 0 [] 0 0, .junk, .junk, .junk, .junk, .junk, .junk, .junk, .junk, .fn 364 [.fp (int (-1)) 0, .fp (int (xss.length : Int)) 0, .fp (int ((wid xss : Int) - 1)) 0], .junk, .junk, .junk, .junk, .junk, .junk, .junk, .junk, .junk, .junk, .junk, .junk, .junk, .junk, .junk, .junk, .junk, .junk, .junk, .junk, .junk, .junk, .junk, .junk, .junk, .junk, .junk, .junk, .junk])
  (I := fun k => [⟨true, .sl false 1 [bestAV (bestO (wAw xss) (okP wo) ((allL (-1) ((wid xss : Int) - 1) xss.length).take k))]⟩]) [2, 3, 5, 14]
  (ctxH_ok eqOk hG hM hV hK) mixed (lists1_ok (-1) ((wid xss : Int) - 1) xss.length (by omega) (by omega) (by omega) (by omega)) rfl rfl ?_ rfl rfl (by simp) (by decide) (chkS_all rfl) ?_ ⟨by kernel_rfl, by kernel_rfl⟩ ?_ ?_
 ·refine (le_freeze [0, 1]).trans ((le_clean [false, false, true, true, false, true, false, false, false, false, false, false, false, false, true]).trans (le_sub ?_))
  simp [freeze, frzA, frzAL, res, getAt, sets, bestO, bestAV, sub, slotsLe, clean, keep, refsL, refs, once, place, renL, ren, List.replicate, int, bool]
 ·intro k _ t tk ht
  cases t with
  | zero => simp at ht; subst ht; exact .inr rfl
  | succ t => simp at ht
 ·intro k x hx pin l US w1
  rw [List.getElem?_map, Option.map_eq_some_iff] at hx
  obtain ⟨l0, hl0, rfl⟩ := hx
  obtain ⟨hk, hl0'⟩ := List.getElem?_eq_some_iff.1 hl0
  have hmem : l0 ∈ allL (-1) ((wid xss : Int) - 1) xss.length := List.mem_of_getElem? hl0
  have hpre := wAw_pre h1 hmem
  obtain ⟨hlen, hrng⟩ := allL_mem hmem
  have htake := bestO_take (W := wAw xss) (ok := okP wo) hk
  rw [hl0'] at htake
  have hbm := fun b hb => List.mem_of_mem_take (bestO_mem (W := wAw xss) (ok := okP wo) (L := (allL (-1) ((wid xss : Int) - 1) xss.length).take k) (l := b) hb).1
  generalize bestO (wAw xss) (okP wo) ((allL (-1) ((wid xss : Int) - 1) xss.length).take k) = o at htake hbm
  simp [List.range, List.range.loop, ints, intss, int, bool, row, frac, fracs, ← List.map_take, ← List.map_drop]
  simp only [asgF_normal]
  intro US' w1'
  have hwn : wo.toNat < l0.length := by omega
  obtain ⟨v, hgw⟩ : ∃ v, l0[wo.toNat]? = some v := ⟨_, List.getElem?_eq_getElem hwn⟩
  have hok : okP wo l0 = (isAwd l0 && !(decide (0 ≤ wo) && decide (0 ≤ v))) := by
   unfold okP
   rw [hlen, decide_eq_true hwo2, List.getD_eq_getElem?_getD, hgw]; simp
  have hm := mAwW_at nl xss false l0 hpre
  cases ha : isAwd l0 with
  | false =>
   rw [ha] at hok
   simp [hok, pick1, comb_none] at htake
   simp (config := {contextual := true}) [List.range, List.range.loop, ints, intss, int, bool, row, frac, fracs, ← List.map_take, ← List.map_drop, List.all, mIsAwd_at, ha, rngF_normal, htake]
   done
  | true =>
   rw [ha] at hok
   have hcl := mClone_at false l0 (by omega)
   by_cases hg : 0 ≤ wo ∧ 0 ≤ v
   ·have hok' : okP wo l0 = false := by rw [hok]; simp [hg.1, hg.2]
    have h' : bestO (wAw xss) (okP wo) ((allL (-1) ((wid xss : Int) - 1) xss.length).take (k + 1)) = o := by rw [htake]; simp [pick1, hok', comb_none]
    simp (config := {contextual := true}) [List.range, List.range.loop, ints, intss, int, bool, row, frac, fracs, ← List.map_take, ← List.map_drop, List.all, mIsAwd_at, ha, rngF_normal, h', hgw, hg.1, hg.2]
   ·have hok' : okP wo l0 = true := by
     rw [hok]; simp; omega
    simp only [pick1, hok', if_true] at htake
    have hgg : 0 ≤ wo → (0 ≤ v) = False := fun h => by simp; omega
    cases o with
    | none =>
     simp only [comb] at htake
     simp (config := {contextual := true}) [List.range, List.range.loop, ints, intss, int, bool, row, frac, fracs, ← List.map_take, ← List.map_drop, List.all, mIsAwd_at, ha, rngF_normal, bestAV, hcl, htake, hgw, hgg]
     done
    | some b =>
     have hmb := mAwW_at nl xss false b (wAw_pre h1 (hbm b rfl))
     simp only [comb] at htake
     by_cases hlt : awTo xss b b.length < awTo xss l0 l0.length
     ·rw [if_pos (show wAw xss l0 > wAw xss b from hlt)] at htake
      simp (config := {contextual := true}) [List.range, List.range.loop, ints, intss, int, bool, row, frac, fracs, ← List.map_take, ← List.map_drop, List.all, mIsAwd_at, ha, rngF_normal, bestAV, hcl, hm, hmb, hlt, htake, hgw, hgg]
      done
     ·rw [if_neg (show ¬ wAw xss l0 > wAw xss b from hlt)] at htake
      simp (config := {contextual := true}) [List.range, List.range.loop, ints, intss, int, bool, row, frac, fracs, ← List.map_take, ← List.map_drop, List.all, mIsAwd_at, ha, rngF_normal, bestAV, hcl, hm, hmb, hlt, htake, hgw, hgg]
      done
 ·simp only [List.length_map, List.take_length]
  generalize bestO (wAw xss) (okP wo) (allL (-1) ((wid xss : Int) - 1) xss.length) = o
  cases o <;> simp (config := {contextual := true}) [List.range, List.range.loop, ints, intss, int, bool, row, frac, fracs, ← List.map_take, ← List.map_drop, List.all, bestAV]
open Go Go.RowKit
set_option linter.unusedSimpArgs false
def LB (xss : List (Bool × List Int)) (l : List Int) (wo : Int) (r : Nat) : Prop := rectB xss 4 4 1000 = true ∧ -1 ≤ wo ∧ l.length + r = xss.length ∧ okP wo l = true ∧ ∀ x ∈ l, -1 ≤ x ∧ x ≤ (wid xss : Int) - 1
noncomputable def bs (xss : List (Bool × List Int)) (wo : Int) (r : Nat) (l : List Int) : Option (List Int) := bestS (wAw xss) (skP wo) (-1) (wid xss + 1) r l
theorem bs_eq {xss : List (Bool × List Int)} {l : List Int} {wo : Int} {r : Nat} (h : LB xss l wo r) : bs xss wo r l = bestO (wAw xss) (okP wo) ((allL (-1) ((wid xss : Int) - 1) r).map (l ++ ·)) := by
 have := bestS_eq (W := wAw xss) (ok := okP wo) (sk := skP wo) (low := -1) (high := (wid xss : Int) - 1) (n := xss.length) (by omega) (fun l x m _ _ hs => okP_skip hs) (fun l x h _ hs => okP_keep h hs) r l h.2.2.2.1 h.2.2.1
 rw [← this]
 unfold bs
 congr 1; omega
theorem bs_some {xss : List (Bool × List Int)} {wo : Int} : ∀ (r : Nat) (l : List Int), ∃ l', bs xss wo r l = some l'
 | 0, l => ⟨l, rfl⟩
 | r + 1, l => by
  obtain ⟨l1, h1⟩ := bs_some r (l ++ [-1])
  unfold bs at h1 ⊢
  simp only [bestS]
  rw [List.range_succ_eq_map, List.foldl_cons]
  have hs : skP wo l (-1 + ((0 : Nat) : Int)) = false := by simp [skP]
  rw [hs]
  simp only [Bool.false_eq_true, if_false]
  have h1' : bestS (wAw xss) (skP wo) (-1) (wid xss + 1) r (l ++ [-1 + ((0 : Nat) : Int)]) = some l1 := h1
  rw [h1']
  have key : ∀ (L : List Nat) (g : Option (List Int) → Nat → Option (List Int)) (a : List Int), (∀ a i, ∃ b, g (some a) i = some b) → ∃ b, L.foldl g (some a) = some b := by
   intro L
   induction L with
   | nil => intro g a _; exact ⟨a, rfl⟩
   | cons i L ih =>
    intro g a hg
    obtain ⟨b, hb⟩ := hg a i
    rw [List.foldl_cons, hb]; exact ih g b hg
  refine key _ _ l1 fun a i => ?_
  split
  ·exact ⟨a, rfl⟩
  ·cases bestS (wAw xss) (skP wo) (-1) (wid xss + 1) r (l ++ [-1 + (i : Int)]) with
   | none => exact ⟨a, rfl⟩
   | some b => simp only [comb]; split <;> exact ⟨_, rfl⟩
theorem bs_mem {xss : List (Bool × List Int)} {l : List Int} {wo : Int} {r : Nat} (h : LB xss l wo r) {l' : List Int} (hl : bs xss wo r l = some l') : l'.length = xss.length ∧ (∀ x ∈ l', -1 ≤ x ∧ x ≤ (wid xss : Int) - 1) ∧ okP wo l' = true := by
 rw [bs_eq h] at hl
 obtain ⟨h1, h2⟩ := bestO_mem hl
 obtain ⟨l2, h3, rfl⟩ := List.mem_map.1 h1
 obtain ⟨h4, h5⟩ := allL_mem h3
 refine ⟨by rw [List.length_append, h4]; exact h.2.2.1, fun x hx => ?_, h2⟩
 rcases List.mem_append.1 hx with hx | hx
 ·exact h.2.2.2.2 x hx
 ·exact h5 x hx
open Go Go.RowKit
set_option linter.unusedSimpArgs false
noncomputable def bestA (xss : List (Bool × List Int)) (wo : Int) : List Int := (bs xss wo xss.length []).getD []
theorem lb_nil {xss : List (Bool × List Int)} {wo : Int} (h : rectB xss 4 4 1000 = true) (hw : -1 ≤ wo) : LB xss [] wo xss.length := ⟨h, hw, by simp, okP_nil, by simp⟩
theorem bestA_eq {xss : List (Bool × List Int)} {wo : Int} (h : rectB xss 4 4 1000 = true) (hw : -1 ≤ wo) : bestO (wAw xss) (okP wo) (allL (-1) ((wid xss : Int) - 1) xss.length) = some (bestA xss wo) := by
 have h1 := bs_eq (lb_nil h hw)
 obtain ⟨l, hl⟩ := bs_some (xss := xss) (wo := wo) xss.length []
 have h2 : bestA xss wo = l := by unfold bestA; rw [hl]; rfl
 rw [h2, ← hl, h1]; simp
theorem bestA_mem {xss : List (Bool × List Int)} {wo : Int} (h : rectB xss 4 4 1000 = true) (hw : -1 ≤ wo) : (bestA xss wo).length = xss.length ∧ (∀ x ∈ bestA xss wo, -1 ≤ x ∧ x ≤ (wid xss : Int) - 1) ∧ okP wo (bestA xss wo) = true := by
 obtain ⟨l, hl⟩ := bs_some (xss := xss) (wo := wo) xss.length []
 have h2 : bestA xss wo = l := by unfold bestA; rw [hl]; rfl
 rw [h2]
 exact bs_mem (lb_nil h hw) hl
theorem bestA_award {xss : List (Bool × List Int)} {wo : Int} (h : rectB xss 4 4 1000 = true) (hw : -1 ≤ wo) : awardB xss (bestA xss wo) = true := by
 obtain ⟨h1, h2, h3⟩ := bestA_mem h hw
 simp only [okP, Bool.and_eq_true] at h3
 simp only [awardB, Bool.and_eq_true, decide_eq_true_eq, h, h1, h3.1, true_and, and_true]
 unfold allIn
 rw [List.all_eq_true]
 intro x hx
 simpa [inR] using h2 x hx
theorem bestA_pre {xss : List (Bool × List Int)} {wo : Int} (h : rectB xss 4 4 1000 = true) (hw : -1 ≤ wo) : (bestA xss wo).length ≤ xss.length ∧ ∀ i, i < (bestA xss wo).length → (bestA xss wo).getD i 0 < ((xss.getD i (true, [])).2.length : Int) := awW_pre (bestA_award h hw)
noncomputable def mBestS : List AV → Option (List Nat × AV) := mkV (fun p => rectB p.2.1 4 4 1000 = true ∧ -1 ≤ p.2.2) (fun (p : Bool × List (Bool × List Int) × Int) => [intss p.1 p.2.1, ints false [], int p.2.2]) [1] (fun p => ints false (bestA p.2.1 p.2.2))
theorem mBestS_at (nl : Bool) (xss : List (Bool × List Int)) (wo : Int) (h : rectB xss 4 4 1000 = true ∧ -1 ≤ wo) : mBestS [.sl nl 1 (xss.map row), .sl false 1 [], .v (.int .i64 wo)] = some ([1], .sl false 1 ((bestA xss wo).map int)) :=
 mkV_eq (enc := fun (p : Bool × List (Bool × List Int) × Int) => [intss p.1 p.2.1, ints false [], int p.2.2]) (x := (nl, xss, wo)) (by rintro ⟨a, b, c⟩ ⟨d, e, f⟩ h; simp [intss, ints, int, map_row_inj] at h; simp [h]) h
noncomputable def bA (xss : List (Bool × List Int)) : List Int := if rectB xss 4 4 1000 = true then bestA xss (-1) else []
theorem bA_yes {xss : List (Bool × List Int)} (h : rectB xss 4 4 1000 = true) : bA xss = bestA xss (-1) := if_pos h
theorem bA_no {xss : List (Bool × List Int)} (h : rectB xss 4 4 1000 = false) : bA xss = [] := if_neg (by simp [h])
noncomputable def mBestAward : List AV → Option AV := mk (fun _ => True) (fun (p : (Bool) × (List (Bool × List Int))) => [intss p.1 p.2]) (fun p => .sl (!rectB p.2 4 4 1000) 1 ((bA p.2).map int))
theorem mBestAward_at (nl : Bool) (xss : List (Bool × List Int)) : mBestAward [.sl nl 1 (xss.map row)] = some (.sl (!rectB xss 4 4 1000) 1 ((bA xss).map int)) :=
 mk_eq (enc := fun (p : (Bool) × (List (Bool × List Int))) => [intss p.1 p.2]) (x := (nl, xss)) (by rintro ⟨a0, a1⟩ ⟨b0, b1⟩ h; simp [ints, intss, int, bool, row, frac, fracs, map_int_inj, map_row_inj, frac_inj, map_frac_inj] at h; simp [h]) trivial
theorem implBestAward_ok : FnOk Tryz.prog 134 mBestAward := by
 refine mk_ok fun ⟨nl, xss⟩ _ => ?_
 have hG : FnsOk Tryz.prog [(133, (mGrid 4 4 1000)), (226, mBestA)] := (.cons implBidsOk_ok (.cons bestAward_ok .nil))
 refine callOk_awp (ctx_ok eqOk hG) mixed (live := [true, false, true, false, false, true]) (dt := []) Tryz.func134 rfl (by kernel_rfl) (by kernel_rfl) fun w0 hlens => ?_
 clear hlens
 cases h : rectB xss 4 4 1000 with
 | false => simp (config := {contextual := true}) [Tryz.f134, List.range, List.range.loop, ints, intss, int, bool, row, frac, fracs, ← List.map_take, ← List.map_drop, mGrid_at, h, bA_no]
 | true =>
  have h0 := rect_pos h
  have hb := mBestA_at nl xss (-1) ⟨h, by omega, by omega⟩
  rw [bestA_eq h (by omega)] at hb
  simp (config := {contextual := true}) [Tryz.f134, List.range, List.range.loop, ints, intss, int, bool, row, frac, fracs, ← List.map_take, ← List.map_drop, mGrid_at, h, bA_yes, hb, bestAV]
noncomputable def wwB (xss : List (Bool × List Int)) (i : Int) : Int := if rectB xss 4 4 1000 = true ∧ 0 ≤ i ∧ i < xss.length then awTo xss (bestA xss i) (bestA xss i).length else -1
noncomputable def mWithout : List AV → Option AV := mk (fun _ => True) (fun (p : (Bool) × (List (Bool × List Int)) × (Int)) => [intss p.1 p.2.1, int p.2.2]) (fun p => int (wwB p.2.1 p.2.2))
theorem mWithout_at (nl : Bool) (xss : List (Bool × List Int)) (i : Int) : mWithout [.sl nl 1 (xss.map row), .v (.int .i64 i)] = some (.v (.int .i64 (wwB xss i))) :=
 mk_eq (enc := fun (p : (Bool) × (List (Bool × List Int)) × (Int)) => [intss p.1 p.2.1, int p.2.2]) (x := (nl, xss, i)) (by rintro ⟨a0, a1, a2⟩ ⟨b0, b1, b2⟩ h; simp [ints, intss, int, bool, row, frac, fracs, map_int_inj, map_row_inj, frac_inj, map_frac_inj] at h; simp [h]) trivial
theorem implWithout_ok : FnOk Tryz.prog 228 mWithout := by
 refine mk_ok fun ⟨nl, xss, i⟩ _ => ?_
 have hG : FnsOk Tryz.prog [(133, (mGrid 4 4 1000)), (153, mWithin), (226, mBestA), (227, mAwW)] := (.cons implBidsOk_ok (.cons within_ok (.cons bestAward_ok (.cons awardWorth_ok .nil))))
 refine callOk_awp (ctx_ok eqOk hG) mixed (live := [true, true, false, false, true, false, false, false, false, false, false, false, false, false, false, true]) (dt := []) Tryz.func228 rfl (by kernel_rfl) (by kernel_rfl) fun w0 hlens => ?_
 clear hlens
 cases h : rectB xss 4 4 1000 with
 | false => simp (config := {contextual := true}) [Tryz.f228, List.range, List.range.loop, ints, intss, int, bool, row, frac, fracs, ← List.map_take, ← List.map_drop, List.all, mGrid_at, h, wwB]
 | true =>
  have h0 := rect_pos h
  have hl := rect_len h
  have hs : IntKind.i64.wrap ((xss.length : Int) - 1) = (xss.length : Int) - 1 := wrapI (by omega) (by omega)
  by_cases hi : 0 ≤ i ∧ i < xss.length
  ·have hin : inR 0 ((xss.length : Int) - 1) i = true := by simp [inR]; omega
   have hb := mBestA_at nl xss i ⟨h, by omega, by omega⟩
   rw [bestA_eq h (by omega)] at hb
   have hb2 := mBestS_at nl xss i ⟨h, by omega⟩
   have hw := mAwW_at nl xss false (bestA xss i) (bestA_pre h (by omega))
   have hww : wwB xss i = awTo xss (bestA xss i) (bestA xss i).length := if_pos ⟨h, hi⟩
   simp (config := {contextual := true}) [Tryz.f228, List.range, List.range.loop, ints, intss, int, bool, row, frac, fracs, ← List.map_take, ← List.map_drop, List.all, mGrid_at, mWithin_in, h, hs, hin, hb, hb2, bestAV, hw, hww]
  ·have hin : inR 0 ((xss.length : Int) - 1) i = false := by simp [inR]; omega
   have hww : wwB xss i = -1 := if_neg fun hc => hi hc.2
   simp (config := {contextual := true}) [Tryz.f228, List.range, List.range.loop, ints, intss, int, bool, row, frac, fracs, ← List.map_take, ← List.map_drop, List.all, mGrid_at, mWithin_in, h, hs, hin, hww]
noncomputable def payI (xss : List (Bool × List Int)) (i : Nat) : Int :=
 IntKind.i64.wrap (wwB xss i - (if 0 ≤ (bestA xss (-1)).getD i 0 then IntKind.i64.wrap (awTo xss (bestA xss (-1)) (bestA xss (-1)).length - ent xss i ((bestA xss (-1)).getD i 0)) else awTo xss (bestA xss (-1)) (bestA xss (-1)).length))
noncomputable def payL (xss : List (Bool × List Int)) (k : Nat) : List Int := (List.range k).map (payI xss)
theorem payL_succ {xss : List (Bool × List Int)} {k : Nat} : payL xss (k + 1) = payL xss k ++ [payI xss k] := by simp [payL, List.range_succ]
theorem payL_len {xss : List (Bool × List Int)} {k : Nat} : (payL xss k).length = k := by simp [payL]
noncomputable def payA (xss : List (Bool × List Int)) : List Int := if rectB xss 4 4 1000 = true then payL xss xss.length else []
theorem payA_yes {xss : List (Bool × List Int)} (h : rectB xss 4 4 1000 = true) : payA xss = payL xss xss.length := if_pos h
theorem payA_no {xss : List (Bool × List Int)} (h : rectB xss 4 4 1000 = false) : payA xss = [] := if_neg (by simp [h])
noncomputable def mPayments : List AV → Option AV := mk (fun _ => True) (fun (p : (Bool) × (List (Bool × List Int))) => [intss p.1 p.2]) (fun p => .sl (!rectB p.2 4 4 1000) 1 ((payA p.2).map int))
theorem mPayments_at (nl : Bool) (xss : List (Bool × List Int)) : mPayments [.sl nl 1 (xss.map row)] = some (.sl (!rectB xss 4 4 1000) 1 ((payA xss).map int)) :=
 mk_eq (enc := fun (p : (Bool) × (List (Bool × List Int))) => [intss p.1 p.2]) (x := (nl, xss)) (by rintro ⟨a0, a1⟩ ⟨b0, b1⟩ h; simp [ints, intss, int, bool, row, frac, fracs, map_int_inj, map_row_inj, frac_inj, map_frac_inj] at h; simp [h]) trivial
def pqS (l l' : List AV) : List Tok := [⟨true, .sl false 1 l⟩, ⟨true, .sl false 1 l'⟩]
def apP : Nat → AV
 | 0 => .sl true 1 []
 | k + 1 => .ref 1 [] 0 (k + 1)
def apQ (l l' : List AV) : Nat → List Tok
 | 0 => [⟨true, .sl false 1 l⟩]
 | _ + 1 => [⟨true, .sl false 1 l⟩, ⟨true, .sl false 1 l'⟩]
set_option maxHeartbeats 1000000 in
theorem implPayments_ok : FnOk Tryz.prog 135 mPayments := by
 refine mk_ok fun ⟨nl, xss⟩ _ => ?_
 have hG : FnsOk Tryz.prog [(133, (mGrid 4 4 1000)), (134, mBestAward), (227, mAwW), (228, mWithout)] := (.cons implBidsOk_ok (.cons implBestAward_ok (.cons awardWorth_ok (.cons implWithout_ok .nil))))
 refine callOk_awp (ctx_ok eqOk hG) mixed (live := [true, false, true, true, true, true, true, true, false, false, true, false, false, true, true, true, true, false, false, false, false, false, false, false, true]) (dt := []) Tryz.func135 rfl (by kernel_rfl) (by kernel_rfl) fun w0 hlens => ?_
 clear hlens
 cases h : rectB xss 4 4 1000 with
 | false => simp (config := {contextual := true}) [Tryz.f135, List.range, List.range.loop, ints, intss, int, bool, row, frac, fracs, ← List.map_take, ← List.map_drop, mGrid_at, h, payA_no]
 | true =>
  obtain ⟨hb1, hb2, _⟩ := bestA_mem h (show (-1 : Int) ≤ -1 by omega)
  have hl := rect_len h
  have hw := mAwW_at nl xss false (bestA xss (-1)) (bestA_pre h (by omega))
  have hpay : ∀ k, payI xss k = IntKind.i64.wrap (wwB xss k - (if 0 ≤ (bestA xss (-1)).getD k 0 then IntKind.i64.wrap (awTo xss (bestA xss (-1)) (bestA xss (-1)).length - ent xss k ((bestA xss (-1)).getD k 0)) else awTo xss (bestA xss (-1)) (bestA xss (-1)).length)) := fun k => rfl
  simp (config := {contextual := true}) [Tryz.f135, List.range, List.range.loop, ints, intss, int, bool, row, frac, fracs, ← List.map_take, ← List.map_drop, mGrid_at, mBestAward_at, h, bA_yes, payA_yes]
  generalize bestA xss (-1) = aw at hb1 hb2 hw hpay
  have hle : xss.length ≤ 9223372036854775807 := by omega
  refine awp_range (live := [true, false, true, true, true, true, true, true, false, false, true, false, false, true, true, true, true, false, false, false, false, false, false, false, true]) (ctx_ok eqOk hG) mixed [true, false, false, true, true, false, false, false, false, false, false, false, false, true, true, true] (xss.length) (fun k => True) (fun k => ⟨[intss nl xss, .junk, .junk, .ref 0 [] 0 xss.length, apP k, .junk, .junk, .junk, .junk, .junk, .junk, .junk, .junk, .ref 0 [] 0 xss.length, int xss.length, int k, .junk, .junk, .junk, .junk, .junk, .junk, .junk, .junk, .junk, .junk, .junk, .junk, .junk, .junk, .junk, .junk, .junk, .junk, .junk, .junk, .junk, .junk, .junk, .junk, .junk, .junk, .junk, .junk], apQ (aw.map int) ((payL xss k).map int) k⟩) ?_ (by simp [sub, slotsLe, clean, keep, refsL, refs, once, place, renL, ren, List.replicate, int, bool, hb1, payL, intss, apP, apQ, pqS]) ?_ ?_ ?_
  ·exact hle
  ·trivial
  ·intro k hk _ hwk
   have hkl : k < aw.length := by omega
   have hrow := rect_row h hk
   have hx := hb2 _ (List.getElem_mem hkl)
   have hg : 0 ≤ aw[k] → xss[k].2[aw[k].toNat]? = some (ent xss k aw[k]) := fun h0 => ent_get hk (by omega)
   have hp := hpay k
   rw [getD_at hkl] at hp
   have hpl := payL_len (xss := xss) (k := k)
   have hps := payL_succ (xss := xss) (k := k)
   have hwo := mWithout_at nl xss (k : Int)
   have htk : aw.take xss.length = aw := List.take_of_length_le (by omega)
   have hb8 : k + 1 ≤ 4611686018427387904 ∧ (k + 1) * 8 ≤ 140737488355328 := by omega
   by_cases hx0 : 0 ≤ aw[k]
   ·rw [if_pos hx0] at hp
    cases k with
    | zero =>
     simp at hwo hp
     simp (config := {contextual := true}) [List.range, List.range.loop, ints, intss, int, bool, row, frac, fracs, ← List.map_take, ← List.map_drop, apP, apQ, pqS, htk, hk, hwk, hkl, hw, hg hx0, hx0, hwo, hpl, hps, hp, hb1, hb8, payL]
     exact wrapI (by omega) (by omega)
    | succ k =>
     push_cast at hwo hp
     simp (config := {contextual := true}) [List.range, List.range.loop, ints, intss, int, bool, row, frac, fracs, ← List.map_take, ← List.map_drop, apP, apQ, pqS, htk, hk, hwk, hkl, hw, hg hx0, hx0, hwo, hpl, hps, hp, hb1, hb8]
     exact wrapI (by omega) (by omega)
   ·rw [if_neg hx0] at hp
    cases k with
    | zero =>
     simp at hwo hp
     simp (config := {contextual := true}) [List.range, List.range.loop, ints, intss, int, bool, row, frac, fracs, ← List.map_take, ← List.map_drop, apP, apQ, pqS, htk, hk, hwk, hkl, hw, hx0, hwo, hpl, hps, hp, hb1, hb8, payL]
     exact wrapI (by omega) (by omega)
    | succ k =>
     push_cast at hwo hp
     simp (config := {contextual := true}) [List.range, List.range.loop, ints, intss, int, bool, row, frac, fracs, ← List.map_take, ← List.map_drop, apP, apQ, pqS, htk, hk, hwk, hkl, hw, hx0, hwo, hpl, hps, hp, hb1, hb8]
     exact wrapI (by omega) (by omega)
  ·intro _
   have hpl := payL_len (xss := xss) (k := xss.length)
   obtain ⟨m, hm⟩ : ∃ m, xss.length = m + 1 := ⟨xss.length - 1, by have := rect_pos h; omega⟩
   rw [hm] at hpl ⊢
   simp (config := {contextual := true}) [List.range, List.range.loop, ints, intss, int, bool, row, frac, fracs, ← List.map_take, ← List.map_drop, apP, apQ, pqS, hpl]
open Go Go.RowKit
noncomputable def c_baw : Fact := ⟨134, [.sl false 1 [.sl false 1 [i 5, i 3], .sl false 1 [i 4, i 4]]], .sl false 1 [i 0, i 1]⟩
theorem k_baw : CallOk Tryz.prog c_baw.f c_baw.args c_baw.r := by
 have h := implBestAward_ok _ _ (mBestAward_at false [(false, [5, 3]), (false, [4, 4])])
 rw [show (AV.sl (!rectB [(false, [5, 3]), (false, [4, 4])] 4 4 1000) 1 ((bA [(false, [5, 3]), (false, [4, 4])]).map int)) = c_baw.r from by kernel_rfl] at h
 exact h
open Go Go.RowKit
noncomputable def c_pay : Fact := ⟨135, [.sl false 1 [.sl false 1 [i 5, i 3], .sl false 1 [i 4, i 4]]], .sl false 1 [i 0, i 0]⟩
theorem k_pay : CallOk Tryz.prog c_pay.f c_pay.args c_pay.r := by
 have h := implPayments_ok _ _ (mPayments_at false [(false, [5, 3]), (false, [4, 4])])
 rw [show (AV.sl (!rectB [(false, [5, 3]), (false, [4, 4])] 4 4 1000) 1 ((payA [(false, [5, 3]), (false, [4, 4])]).map int)) = c_pay.r from by kernel_rfl] at h
 exact h
open Go Go.RowKit
noncomputable def c_auct : Fact := ⟨74, [.sl false 1 [.sl false 1 [i 5, i 3], .sl false 1 [i 4, i 4]]], bsv O_auction⟩
theorem k_auct : CallOk Tryz.prog c_auct.f c_auct.args c_auct.r := runF (tab := [c_baw, c_pay]) (fcC k_baw (fcC k_pay fcN)) 40 (by kernel_rfl)
open Go Go.RowKit
noncomputable def c_ptauct : Fact := ⟨127, [bsv (bz 0x342c343b332c35)], .tup [.sl false 1 [.sl false 1 [i 5, i 3], .sl false 1 [i 4, i 4]], bo true]⟩
theorem k_ptauct : FrzOk Tryz.prog c_ptauct.f c_ptauct.args true c_ptauct.r := runX (tab := []) (tabH := []) [56, 96] fcN fhN noS_ok 60 (by kernel_rfl)
open Go Go.RowKit
noncomputable def c_lauction : Fact := ⟨11, [p0, bsv L_auction], .tup [p0, bsv O_auction]⟩
theorem k_lauction : FrzOk Tryz.prog c_lauction.f c_lauction.args true c_lauction.r := runX (tab := [c_clone, c_auct]) (tabH := [c_ptauct]) [24, 18] (fcC k_clone (fcC k_auct fcN)) (fhC k_ptauct fhN) noS_ok 60 (by kernel_rfl)
open Go Go.RowKit
noncomputable def c_rent : Fact := ⟨136, [.sl false 1 [.sl false 1 [i 5, i 3], .sl false 1 [i 4, i 4]], i 10], bsv O_rent⟩
theorem k_rent : CallOk Tryz.prog c_rent.f c_rent.args c_rent.r := runF (tab := [c_allr2]) (fcC k_allr2 fcN) 40 (by kernel_rfl)
open Go Go.RowKit
noncomputable def c_lrent : Fact := ⟨11, [p0, bsv L_rent], .tup [p0, bsv O_rent]⟩
theorem k_lrent : FrzOk Tryz.prog c_lrent.f c_lrent.args true c_lrent.r := runX (tab := [c_clone, c_rent]) (tabH := [c_ptauct]) [24, 18] (fcC k_clone (fcC k_rent fcN)) (fhC k_ptauct fhN) noS_ok 60 (by kernel_rfl)
open Go Go.RowKit
noncomputable def c_eat : Fact := ⟨137, [.sl false 1 [.sl false 1 [i 0, i 1], .sl false 1 [i 0, i 1]]], .tup [.sl false 1 [.sl false 2 [.agg [i 1, i 2], .agg [i 1, i 2]], .sl false 2 [.agg [i 1, i 2], .agg [i 1, i 2]]], bo true]⟩
theorem k_eat : CallOk Tryz.prog c_eat.f c_eat.args c_eat.r := runF (tab := []) fcN 40 (by kernel_rfl)
open Go Go.RowKit
noncomputable def c_flot : Fact := ⟨138, [.sl false 1 [.sl false 2 [.agg [i 1, i 2], .agg [i 1, i 2]], .sl false 2 [.agg [i 1, i 2], .agg [i 1, i 2]]]], bsv O_lottery⟩
theorem k_flot : CallOk Tryz.prog c_flot.f c_flot.args c_flot.r := runF (tab := []) fcN 40 (by kernel_rfl)
open Go Go.RowKit
noncomputable def c_ptlott : Fact := ⟨127, [bsv (bz 0x312c303b312c30)], .tup [.sl false 1 [.sl false 1 [i 0, i 1], .sl false 1 [i 0, i 1]], bo true]⟩
theorem k_ptlott : FrzOk Tryz.prog c_ptlott.f c_ptlott.args true c_ptlott.r := runX (tab := []) (tabH := []) [56, 96] fcN fhN noS_ok 60 (by kernel_rfl)
open Go Go.RowKit
noncomputable def c_llottery : Fact := ⟨11, [p0, bsv L_lottery], .tup [p0, bsv O_lottery]⟩
theorem k_llottery : FrzOk Tryz.prog c_llottery.f c_llottery.args true c_llottery.r := runX (tab := [c_clone, c_eat, c_flot]) (tabH := [c_ptlott]) [24, 18] (fcC k_clone (fcC k_eat (fcC k_flot fcN))) (fhC k_ptlott fhN) noS_ok 60 (by kernel_rfl)
open Go Go.RowKit
noncomputable def c_adj : Fact := ⟨139, [.sl false 1 [.sl false 1 [i 60, i 40], .sl false 1 [i 50, i 50]]], .sl false 2 [.agg [i 10, i 11], .agg [i 0, i 1]]⟩
theorem k_adj : CallOk Tryz.prog c_adj.f c_adj.args c_adj.r := runF (tab := []) fcN 40 (by kernel_rfl)
open Go Go.RowKit
noncomputable def c_ffr : Fact := ⟨140, [.sl false 2 [.agg [i 10, i 11], .agg [i 0, i 1]]], bsv O_heirs⟩
theorem k_ffr : CallOk Tryz.prog c_ffr.f c_ffr.args c_ffr.r := runF (tab := []) fcN 40 (by kernel_rfl)
open Go Go.RowKit
noncomputable def c_ptheirs : Fact := ⟨127, [bsv (bz 0x30352c30353b30342c3036)], .tup [.sl false 1 [.sl false 1 [i 60, i 40], .sl false 1 [i 50, i 50]], bo true]⟩
theorem k_ptheirs : FrzOk Tryz.prog c_ptheirs.f c_ptheirs.args true c_ptheirs.r := runX (tab := []) (tabH := []) [56, 96] fcN fhN noS_ok 60 (by kernel_rfl)
open Go Go.RowKit
noncomputable def c_lheirs : Fact := ⟨11, [p0, bsv L_heirs], .tup [p0, bsv O_heirs]⟩
theorem k_lheirs : FrzOk Tryz.prog c_lheirs.f c_lheirs.args true c_lheirs.r := runX (tab := [c_clone, c_adj, c_ffr]) (tabH := [c_ptheirs]) [24, 18] (fcC k_clone (fcC k_adj (fcC k_ffr fcN))) (fhC k_ptheirs fhN) noS_ok 60 (by kernel_rfl)
open Go Go.RowKit
noncomputable def c_knife : Fact := ⟨141, [.sl false 1 [.sl false 1 [i 1, i 2, i 3], .sl false 1 [i 3, i 2, i 1]]], .sl false 1 [i 1, i 0, i 0]⟩
theorem k_knife : CallOk Tryz.prog c_knife.f c_knife.args c_knife.r := runF (tab := []) fcN 40 (by kernel_rfl)
end Go.Proofs.YtompijgfpeibnaaGreatDoor.Ax
