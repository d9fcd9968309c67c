/-
  Contracts: the best award (the program's own search). No condition.
-/
import Derived.Test.YtakladjlnkojjaaCG54
namespace Go.Proofs.Ytakladjlnkojjaa.Ax
open Go Go.RowKit
set_option linter.unusedSimpArgs false

/-- The best so far, as it lies in memory. -/
def bestAV : Option (List Int) → AV
  | none => .sl true 1 []
  | some l => .sl false 1 (l.map int)

/-- The worth of a whole award. -/
def wAw (xss : List (Bool × List Int)) (l : List Int) : Int := awTo xss l l.length

noncomputable def mBestA : List AV → Option AV := mk (fun p => rectB p.2.1 4 4 1000 = true ∧ -1 ≤ p.2.2 ∧ p.2.2 < p.2.1.length) (fun (p : Bool × List (Bool × List Int) × Int) => [intss p.1 p.2.1, int p.2.2])
  (fun p => bestAV (bestO (wAw p.2.1) (okP p.2.2) (allL (-1) ((wid p.2.1 : Int) - 1) p.2.1.length)))
theorem mBestA_at (nl : Bool) (xss : List (Bool × List Int)) (wo : Int) (h : rectB xss 4 4 1000 = true ∧ -1 ≤ wo ∧ wo < xss.length) : mBestA [.sl nl 1 (xss.map row), .v (.int .i64 wo)] = some (bestAV (bestO (wAw xss) (okP wo) (allL (-1) ((wid xss : Int) - 1) xss.length))) :=
  mk_eq (enc := fun (p : Bool × List (Bool × List Int) × Int) => [intss p.1 p.2.1, int p.2.2]) (x := (nl, xss, wo)) (by rintro ⟨a, b, c⟩ ⟨d, e, f⟩ h; simp [intss, int, map_row_inj] at h; simp [h]) h

theorem wAw_pre {xss : List (Bool × List Int)} (h : rectB xss 4 4 1000 = true) {l : List Int} (hl : l ∈ allL (-1) ((wid xss : Int) - 1) xss.length) : l.length ≤ xss.length ∧ ∀ i, i < l.length → l.getD i 0 < ((xss.getD i (true, [])).2.length : Int) := by
  obtain ⟨h1, h2⟩ := allL_mem hl
  refine ⟨by omega, fun i hi => ?_⟩
  have := (h2 _ (List.getElem_mem hi)).2
  have hr := (rect_row h (i := i) (by omega)).1
  rw [getD_at hi, List.getD_eq_getElem?_getD, List.getElem?_eq_getElem (by omega)]
  simp only [Option.getD_some]; omega

set_option maxHeartbeats 1000000 in
theorem bestAward_ok : FnOk Try.prog 42 mBestA := by
  refine mk_ok fun ⟨nl, xss, wo⟩ ⟨h1, hwo, hwo2⟩ => ?_
  simp only at h1 hwo hwo2
  have hG : FnsOk Try.prog [(48, mIsAwd), (43, mAwW), (53, mClone)] := (.cons isAward_ok (.cons awardWorth_ok (.cons clone_ok .nil)))
  have hM : FnsMut Try.prog [] := .nil
  have hV : FnsMov Try.prog [] := .nil
  have hK : FnsFrz Try.prog [(83, true, mLists)] := (.cons lists_ok .nil)
  refine callOk_awp (ctxH_ok eqOk hG hM hV hK) mixed (live := [true, true, true, true, true, true, true, false, false, false, false, false, false, false, true, true, false, false, false, false, false, false, false, false, false, false, false, false, false, true, false, false, false, false, false, false, false, false, false, false, true]) (dt := [(2, ⟨[], [], []⟩), (5, ⟨[], [], []⟩)]) Try.func42 rfl (by kernel_rfl) (by kernel_rfl) fun w0 hlens => ?_
  clear hlens
  have h0 := rect_pos h1
  have hw := wid_eq h0
  have hl := rect_len h1
  have hs : IntKind.i64.wrap ((wid xss : Int) - 1) = (wid xss : Int) - 1 := wrapI (by omega) (by omega)
  have hls := mLists_at xss.length (-1) ((wid xss : Int) - 1)
  simp (config := {contextual := true}) [Try.f42, List.range, List.range.loop, ints, intss, int, bool, row, frac, fracs, ← List.map_take, ← List.map_drop, List.all, h0, hw, hs, hls]
  refine tr_rangeFunc (live := [true, true, true, true, true, true, true, false, false, false, false, false, false, false, true, true, false, false, false, false, false, false, false, false, false, false, false, false, false, true, false, false, false, false, false, false, false, false, false, false, true]) (lv := [false, false, true, true, false, true, false, false, false, false, false, false, false, false, true]) (S0 := [.junk, .junk, .fp (.sl nl 1 (xss.map row)) 0, .fp (int wo) 0, .junk, .ptr 0 [] 0 0, .junk, .junk, .junk, .junk, .junk, .junk, .junk, .junk, .fn 94 [.fp (int (-1)) 0, .fp (int (xss.length : Int)) 0, .fp (int ((wid xss : Int) - 1)) 0], .junk, .junk, .junk, .junk, .junk, .junk, .junk, .junk, .junk, .junk, .junk, .junk, .junk, .junk, .junk, .junk, .junk, .junk, .junk, .junk, .junk, .junk, .junk, .junk, .junk, .junk, .junk, .junk, .junk])
    (I := fun k => [⟨true, .sl false 1 [bestAV (bestO (wAw xss) (okP wo) ((allL (-1) ((wid xss : Int) - 1) xss.length).take k))]⟩]) [2, 3, 5, 14]
    (ctxH_ok eqOk hG hM hV hK) mixed (lists1_ok (-1) ((wid xss : Int) - 1) xss.length (by omega) (by omega) (by omega) (by omega)) rfl rfl ?_ rfl rfl (by simp) (by decide) (chkS_all rfl) ?_ ⟨by kernel_rfl, by kernel_rfl⟩ ?_ ?_
  · refine (le_freeze [0, 1]).trans ((le_clean [false, false, true, true, false, true, false, false, false, false, false, false, false, false, true]).trans (le_sub ?_))
    simp [freeze, frzA, frzAL, res, getAt, sets, bestO, bestAV, sub, slotsLe, clean, keep, refsL, refs, once, place, renL, ren, List.replicate, int, bool]
  · intro k _ t tk ht
    cases t with
    | zero => simp at ht; subst ht; exact .inr rfl
    | succ t => simp at ht
  · intro k x hx pin l US w1
    rw [List.getElem?_map, Option.map_eq_some_iff] at hx
    obtain ⟨l0, hl0, rfl⟩ := hx
    obtain ⟨hk, hl0'⟩ := List.getElem?_eq_some_iff.1 hl0
    have hmem : l0 ∈ allL (-1) ((wid xss : Int) - 1) xss.length := List.mem_of_getElem? hl0
    have hpre := wAw_pre h1 hmem
    obtain ⟨hlen, hrng⟩ := allL_mem hmem
    have htake := bestO_take (W := wAw xss) (ok := okP wo) hk
    rw [hl0'] at htake
    have hbm := fun b hb => List.mem_of_mem_take (bestO_mem (W := wAw xss) (ok := okP wo) (L := (allL (-1) ((wid xss : Int) - 1) xss.length).take k) (l := b) hb).1
    generalize bestO (wAw xss) (okP wo) ((allL (-1) ((wid xss : Int) - 1) xss.length).take k) = o at htake hbm
    simp [List.range, List.range.loop, ints, intss, int, bool, row, frac, fracs, ← List.map_take, ← List.map_drop]
    simp only [asgF_normal]
    intro US' w1'
    have hwn : wo.toNat < l0.length := by omega
    obtain ⟨v, hgw⟩ : ∃ v, l0[wo.toNat]? = some v := ⟨_, List.getElem?_eq_getElem hwn⟩
    have hok : okP wo l0 = (isAwd l0 && !(decide (0 ≤ wo) && decide (0 ≤ v))) := by
      unfold okP
      rw [hlen, decide_eq_true hwo2, List.getD_eq_getElem?_getD, hgw]; simp
    have hm := mAwW_at nl xss false l0 hpre
    cases ha : isAwd l0 with
    | false =>
      rw [ha] at hok
      simp [hok, pick1, comb_none] at htake
      simp (config := {contextual := true}) [List.range, List.range.loop, ints, intss, int, bool, row, frac, fracs, ← List.map_take, ← List.map_drop, List.all, mIsAwd_at, ha, rngF_normal, htake]
      done
    | true =>
      rw [ha] at hok
      have hcl := mClone_at false l0 (by omega)
      by_cases hg : 0 ≤ wo ∧ 0 ≤ v
      · have hok' : okP wo l0 = false := by rw [hok]; simp [hg.1, hg.2]
        have h' : bestO (wAw xss) (okP wo) ((allL (-1) ((wid xss : Int) - 1) xss.length).take (k + 1)) = o := by rw [htake]; simp [pick1, hok', comb_none]
        simp (config := {contextual := true}) [List.range, List.range.loop, ints, intss, int, bool, row, frac, fracs, ← List.map_take, ← List.map_drop, List.all, mIsAwd_at, ha, rngF_normal, h', hgw, hg.1, hg.2]
      · have hok' : okP wo l0 = true := by
          rw [hok]; simp; omega
        simp only [pick1, hok', if_true] at htake
        have hgg : 0 ≤ wo → (0 ≤ v) = False := fun h => by simp; omega
        cases o with
        | none =>
          simp only [comb] at htake
          simp (config := {contextual := true}) [List.range, List.range.loop, ints, intss, int, bool, row, frac, fracs, ← List.map_take, ← List.map_drop, List.all, mIsAwd_at, ha, rngF_normal, bestAV, hcl, htake, hgw, hgg]
          done
        | some b =>
          have hmb := mAwW_at nl xss false b (wAw_pre h1 (hbm b rfl))
          simp only [comb] at htake
          by_cases hlt : awTo xss b b.length < awTo xss l0 l0.length
          · rw [if_pos (show wAw xss l0 > wAw xss b from hlt)] at htake
            simp (config := {contextual := true}) [List.range, List.range.loop, ints, intss, int, bool, row, frac, fracs, ← List.map_take, ← List.map_drop, List.all, mIsAwd_at, ha, rngF_normal, bestAV, hcl, hm, hmb, hlt, htake, hgw, hgg]
            done
          · rw [if_neg (show ¬ wAw xss l0 > wAw xss b from hlt)] at htake
            simp (config := {contextual := true}) [List.range, List.range.loop, ints, intss, int, bool, row, frac, fracs, ← List.map_take, ← List.map_drop, List.all, mIsAwd_at, ha, rngF_normal, bestAV, hcl, hm, hmb, hlt, htake, hgw, hgg]
            done
  · simp only [List.length_map, List.take_length]
    generalize bestO (wAw xss) (okP wo) (allL (-1) ((wid xss : Int) - 1) xss.length) = o
    cases o <;> simp (config := {contextual := true}) [List.range, List.range.loop, ints, intss, int, bool, row, frac, fracs, ← List.map_take, ← List.map_drop, List.all, bestAV]

end Go.Proofs.Ytakladjlnkojjaa.Ax
