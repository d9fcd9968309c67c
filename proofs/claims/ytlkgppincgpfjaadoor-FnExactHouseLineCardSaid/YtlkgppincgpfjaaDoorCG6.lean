/-
  Contracts: the worth of an award, what a person's pieces are worth (both programs). No condition.
-/
import Derived.Test.YtlkgppincgpfjaaDoorCB3
import Derived.Test.YtlkgppincgpfjaaDoorCG5
import Derived.Test.YtlkgppincgpfjaaDoorCK4
namespace Go.Proofs.YtlkgppincgpfjaaDoor.Ax
open Go Go.RowKit
set_option linter.unusedSimpArgs false

theorem ent_get {xss : List (Bool × List Int)} {i : Nat} (hi : i < xss.length) {k : Int} (hk : k.toNat < xss[i].2.length) : xss[i].2[k.toNat]? = some (ent xss i k) := by
  unfold ent; simp [List.getD_eq_getElem?_getD, hi, hk]

/-- The worth of the first k things of an award. -/
def awTo (xss : List (Bool × List Int)) (aw : List Int) : Nat → Int
  | 0 => 0
  | k + 1 => if 0 ≤ aw.getD k 0 then IntKind.i64.wrap (awTo xss aw k + ent xss k (aw.getD k 0)) else awTo xss aw k

noncomputable def mAwW : List AV → Option AV := mk (fun p => p.2.2.2.length ≤ p.2.1.length ∧ ∀ i, i < p.2.2.2.length → p.2.2.2.getD i 0 < ((p.2.1.getD i (true, [])).2.length : Int)) (fun (p : (Bool) × (List (Bool × List Int)) × (Bool) × (List Int)) => [intss p.1 p.2.1, ints p.2.2.1 p.2.2.2]) (fun p => int (awTo p.2.1 p.2.2.2 p.2.2.2.length))
theorem mAwW_at (nl : Bool) (xss : List (Bool × List Int)) (nl' : Bool) (aw : List Int) (hpre : aw.length ≤ xss.length ∧ ∀ i, i < aw.length → aw.getD i 0 < ((xss.getD i (true, [])).2.length : Int)) : mAwW [.sl nl 1 (xss.map row), .sl nl' 1 (aw.map int)] = some (.v (.int .i64 (awTo xss aw aw.length))) :=
  mk_eq (enc := fun (p : (Bool) × (List (Bool × List Int)) × (Bool) × (List Int)) => [intss p.1 p.2.1, ints p.2.2.1 p.2.2.2]) (x := (nl, xss, nl', aw)) (by rintro ⟨a0, a1, a2, a3⟩ ⟨b0, b1, b2, b3⟩ h; simp [ints, intss, int, bool, row, frac, fracs, map_int_inj, map_row_inj, frac_inj, map_frac_inj] at h; simp [h]) hpre

theorem awW_pre {xss : List (Bool × List Int)} {aw : List Int} (h : awardB xss aw = true) : aw.length ≤ xss.length ∧ ∀ i, i < aw.length → aw.getD i 0 < ((xss.getD i (true, [])).2.length : Int) := by
  simp only [awardB, Bool.and_eq_true, decide_eq_true_eq] at h
  obtain ⟨⟨⟨h1, h2⟩, h3⟩, _⟩ := h
  refine ⟨by omega, fun i hi => ?_⟩
  have := (allIn_at h3 hi).2
  have hr := (rect_row h1 (i := i) (by omega)).1
  rw [getD_at hi, List.getD_eq_getElem?_getD, List.getElem?_eq_getElem (by omega)]
  simp only [Option.getD_some]; omega

set_option maxHeartbeats 1000000 in
theorem awardWorth_ok : FnOk Tryd.prog 88 mAwW := by
  refine mk_ok fun ⟨nl, xss, nl', aw⟩ ⟨hp1, hp2⟩ => ?_
  simp only at hp1 hp2
  have hG : FnsOk Tryd.prog [] := .nil
  refine callOk_awp (ctx_ok eqOk hG) mixed (live := [true, true, false, false, true, true, true, true, true, true, true, true, false, false, false, false, true]) (dt := []) Tryd.func88 rfl (by kernel_rfl) (by kernel_rfl) fun w0 hlens => ?_
  have hl : aw.length ≤ 9223372036854775807 := (lens_ints.1 hlens.2.1).1
  clear hlens
  simp (config := {contextual := true}) [Tryd.f88, List.range, List.range.loop, ints, intss, int, bool, row, frac, fracs, ← List.map_take, ← List.map_drop]
  refine awp_range (live := [true, true, false, false, true, true, true, true, true, true, true, true, false, false, false, false, true]) (ctx_ok eqOk hG) mixed [true, false, false, false, false, true, false, false, true, true, true] (aw.length) (fun k => True) (fun k => ⟨[intss nl xss, .junk, .junk, .junk, .junk, int (awTo xss aw k), .junk, .junk, ints nl' aw, int aw.length, int k, .junk, .junk, .junk, .junk, .junk, .junk, .junk, .junk, .junk, .junk, .junk, .junk, .junk, .junk, .junk, .junk, .junk], []⟩) ?_ (by simp [sub, slotsLe, clean, keep, refsL, refs, once, place, renL, ren, List.replicate, int, bool, intss, ints, awTo]) ?_ ?_ ?_
  · exact hl
  · trivial
  · intro k h _ hw
    have hk : k < xss.length := by omega
    have hr := hp2 k h
    rw [getD_at h, List.getD_eq_getElem?_getD, List.getElem?_eq_getElem hk] at hr
    simp only [Option.getD_some] at hr
    have hg : 0 ≤ aw[k] → xss[k].2[aw[k].toNat]? = some (ent xss k aw[k]) := fun h0 => ent_get hk (by omega)
    have e : awTo xss aw (k + 1) = if 0 ≤ aw[k] then IntKind.i64.wrap (awTo xss aw k + ent xss k aw[k]) else awTo xss aw k := by rw [awTo, getD_at h]
    simp (config := {contextual := true}) [List.range, List.range.loop, ints, intss, int, bool, row, frac, fracs, ← List.map_take, ← List.map_drop, h, hw, Nat.le_of_lt h, hk, hg, e]
    omega
  · intro _
    simp (config := {contextual := true}) [List.range, List.range.loop, ints, intss, int, bool, row, frac, fracs, ← List.map_take, ← List.map_drop]

set_option maxHeartbeats 1000000 in
theorem l27Worth_ok : FnOk Tryd.prog 84 mAwW := by
  refine mk_ok fun ⟨nl, xss, nl', aw⟩ ⟨hp1, hp2⟩ => ?_
  simp only at hp1 hp2
  have hG : FnsOk Tryd.prog [] := .nil
  refine callOk_awp (ctx_ok eqOk hG) mixed (live := [true, true, false, false, true, true, true, true, true, true, true, true, false, false, false, false, true]) (dt := []) Tryd.func84 rfl (by kernel_rfl) (by kernel_rfl) fun w0 hlens => ?_
  have hl : aw.length ≤ 9223372036854775807 := (lens_ints.1 hlens.2.1).1
  clear hlens
  simp (config := {contextual := true}) [Tryd.f84, List.range, List.range.loop, ints, intss, int, bool, row, frac, fracs, ← List.map_take, ← List.map_drop]
  refine awp_range (live := [true, true, false, false, true, true, true, true, true, true, true, true, false, false, false, false, true]) (ctx_ok eqOk hG) mixed [true, false, false, false, false, true, false, false, true, true, true] (aw.length) (fun k => True) (fun k => ⟨[intss nl xss, .junk, .junk, .junk, .junk, int (awTo xss aw k), .junk, .junk, ints nl' aw, int aw.length, int k, .junk, .junk, .junk, .junk, .junk, .junk, .junk, .junk, .junk, .junk, .junk, .junk, .junk, .junk, .junk, .junk, .junk], []⟩) ?_ (by simp [sub, slotsLe, clean, keep, refsL, refs, once, place, renL, ren, List.replicate, int, bool, intss, ints, awTo]) ?_ ?_ ?_
  · exact hl
  · trivial
  · intro k h _ hw
    have hk : k < xss.length := by omega
    have hr := hp2 k h
    rw [getD_at h, List.getD_eq_getElem?_getD, List.getElem?_eq_getElem hk] at hr
    simp only [Option.getD_some] at hr
    have hg : 0 ≤ aw[k] → xss[k].2[aw[k].toNat]? = some (ent xss k aw[k]) := fun h0 => ent_get hk (by omega)
    have e : awTo xss aw (k + 1) = if 0 ≤ aw[k] then IntKind.i64.wrap (awTo xss aw k + ent xss k aw[k]) else awTo xss aw k := by rw [awTo, getD_at h]
    simp (config := {contextual := true}) [List.range, List.range.loop, ints, intss, int, bool, row, frac, fracs, ← List.map_take, ← List.map_drop, h, hw, Nat.le_of_lt h, hk, hg, e]
    omega
  · intro _
    simp (config := {contextual := true}) [List.range, List.range.loop, ints, intss, int, bool, row, frac, fracs, ← List.map_take, ← List.map_drop]

noncomputable def mAwWorth : List AV → Option AV := mk (fun _ => True) (fun (p : (Bool) × (List (Bool × List Int)) × (Bool) × (List Int)) => [intss p.1 p.2.1, ints p.2.2.1 p.2.2.2]) (fun p => int (if awardB p.2.1 p.2.2.2 = true then awTo p.2.1 p.2.2.2 p.2.2.2.length else -1))
theorem mAwWorth_at (nl : Bool) (xss : List (Bool × List Int)) (nl' : Bool) (aw : List Int) : mAwWorth [.sl nl 1 (xss.map row), .sl nl' 1 (aw.map int)] = some (.v (.int .i64 (if awardB xss aw = true then awTo xss aw aw.length else -1))) :=
  mk_eq (enc := fun (p : (Bool) × (List (Bool × List Int)) × (Bool) × (List Int)) => [intss p.1 p.2.1, ints p.2.2.1 p.2.2.2]) (x := (nl, xss, nl', aw)) (by rintro ⟨a0, a1, a2, a3⟩ ⟨b0, b1, b2, b3⟩ h; simp [ints, intss, int, bool, row, frac, fracs, map_int_inj, map_row_inj, frac_inj, map_frac_inj] at h; simp [h]) trivial

end Go.Proofs.YtlkgppincgpfjaaDoor.Ax

/-
  Contracts: slices.Clone, the lists, the best award of the program. No condition.
-/
namespace Go.Proofs.YtlkgppincgpfjaaDoor.Ax
open Go Go.RowKit
set_option linter.unusedSimpArgs false

noncomputable def mClone : List AV → Option AV := mk (fun p => p.2.length ≤ 1000000) (fun (p : (Bool) × (List Int)) => [ints p.1 p.2]) (fun p => ints p.1 p.2)
theorem mClone_at (nl : Bool) (xs : List Int) (hpre : xs.length ≤ 1000000) : mClone [.sl nl 1 (xs.map int)] = some (.sl nl 1 ((xs).map int)) :=
  mk_eq (enc := fun (p : (Bool) × (List Int)) => [ints p.1 p.2]) (x := (nl, xs)) (by rintro ⟨a0, a1⟩ ⟨b0, b1⟩ h; simp [ints, intss, int, bool, row, frac, fracs, map_int_inj, map_row_inj, frac_inj, map_frac_inj] at h; simp [h]) hpre

theorem clone_ok : FnOk Tryd.prog 120 mClone := by
  refine mk_ok fun ⟨nl, xs⟩ hn => ?_
  simp only at hn
  have hG : FnsOk Tryd.prog [] := .nil
  refine callOk_awp (ctx_ok eqOk hG) mixed (live := [true, false, true, false, true]) (dt := []) Tryd.func120 rfl (by kernel_rfl) (by kernel_rfl) fun w0 hlens => ?_
  have hnil := (lens_ints.1 hlens.1).2
  clear hlens
  have h1 : xs.length ≤ 4611686018427387904 := by omega
  have h2 : xs.length * 8 ≤ 140737488355328 := by omega
  cases nl with
  | true =>
    have : xs = [] := hnil rfl
    subst this
    simp (config := {contextual := true}) [Tryd.f120, List.range, List.range.loop, ints, intss, int, bool, row, frac, fracs, ← List.map_take, ← List.map_drop, h1, h2]
  | false => simp (config := {contextual := true}) [Tryd.f120, List.range, List.range.loop, ints, intss, int, bool, row, frac, fracs, ← List.map_take, ← List.map_drop, h1, h2]

noncomputable def mLists : List AV → Option AV := mk (fun _ => True) (fun (p : Nat × Int × Int) => [int (p.1 : Int), int p.2.1, int p.2.2]) (fun p => .fn 135 [.fp (int p.2.1) 0, .fp (int (p.1 : Int)) 0, .fp (int p.2.2) 0])
theorem mLists_at (n : Nat) (low high : Int) : mLists [.v (.int .i64 (n : Int)), .v (.int .i64 low), .v (.int .i64 high)] = some (.fn 135 [.fp (.v (.int .i64 low)) 0, .fp (.v (.int .i64 (n : Int))) 0, .fp (.v (.int .i64 high)) 0]) :=
  mk_eq (enc := fun (p : Nat × Int × Int) => [int (p.1 : Int), int p.2.1, int p.2.2]) (x := (n, low, high)) (by rintro ⟨a, b, c⟩ ⟨d, e, f⟩ h; simp [int] at h; obtain ⟨h, rfl, rfl⟩ := h; exact (by omega : a = d) ▸ rfl) trivial

theorem lists_ok : FnFrz Tryd.prog 118 true mLists := by
  refine mk_frz fun ⟨n, low, high⟩ _ => ?_
  have hG : FnsOk Tryd.prog [] := .nil
  refine frzOk_awp (ctx_ok eqOk hG) mixed (live := [true, true, true, true, true, true, true]) (dt := []) Tryd.func118 rfl (by kernel_rfl) (by kernel_rfl) fun A w0 hlens => ?_
  clear hlens
  simp (config := {contextual := true}) [Tryd.f118, List.range, List.range.loop, ints, intss, int, bool, row, frac, fracs, ← List.map_take, ← List.map_drop, List.all]

end Go.Proofs.YtlkgppincgpfjaaDoor.Ax

/-
  Contracts: the best award (the program's own search). No condition.
-/
namespace Go.Proofs.YtlkgppincgpfjaaDoor.Ax
open Go Go.RowKit
set_option linter.unusedSimpArgs false

/-- The best so far, as it lies in memory. -/
def bestAV : Option (List Int) → AV
  | none => .sl true 1 []
  | some l => .sl false 1 (l.map int)

/-- The worth of a whole award. -/
def wAw (xss : List (Bool × List Int)) (l : List Int) : Int := awTo xss l l.length

noncomputable def mBestA : List AV → Option AV := mk (fun p => rectB p.2.1 4 4 1000 = true ∧ -1 ≤ p.2.2 ∧ p.2.2 < p.2.1.length) (fun (p : Bool × List (Bool × List Int) × Int) => [intss p.1 p.2.1, int p.2.2])
  (fun p => bestAV (bestO (wAw p.2.1) (okP p.2.2) (allL (-1) ((wid p.2.1 : Int) - 1) p.2.1.length)))
theorem mBestA_at (nl : Bool) (xss : List (Bool × List Int)) (wo : Int) (h : rectB xss 4 4 1000 = true ∧ -1 ≤ wo ∧ wo < xss.length) : mBestA [.sl nl 1 (xss.map row), .v (.int .i64 wo)] = some (bestAV (bestO (wAw xss) (okP wo) (allL (-1) ((wid xss : Int) - 1) xss.length))) :=
  mk_eq (enc := fun (p : Bool × List (Bool × List Int) × Int) => [intss p.1 p.2.1, int p.2.2]) (x := (nl, xss, wo)) (by rintro ⟨a, b, c⟩ ⟨d, e, f⟩ h; simp [intss, int, map_row_inj] at h; simp [h]) h

theorem wAw_pre {xss : List (Bool × List Int)} (h : rectB xss 4 4 1000 = true) {l : List Int} (hl : l ∈ allL (-1) ((wid xss : Int) - 1) xss.length) : l.length ≤ xss.length ∧ ∀ i, i < l.length → l.getD i 0 < ((xss.getD i (true, [])).2.length : Int) := by
  obtain ⟨h1, h2⟩ := allL_mem hl
  refine ⟨by omega, fun i hi => ?_⟩
  have := (h2 _ (List.getElem_mem hi)).2
  have hr := (rect_row h (i := i) (by omega)).1
  rw [getD_at hi, List.getD_eq_getElem?_getD, List.getElem?_eq_getElem (by omega)]
  simp only [Option.getD_some]; omega

set_option maxHeartbeats 1000000 in
theorem bestAward_ok : FnOk Tryd.prog 87 mBestA := by
  refine mk_ok fun ⟨nl, xss, wo⟩ ⟨h1, hwo, hwo2⟩ => ?_
  simp only at h1 hwo hwo2
  have hG : FnsOk Tryd.prog [(119, mIsAwd), (88, mAwW), (120, mClone)] := (.cons isAward_ok (.cons awardWorth_ok (.cons clone_ok .nil)))
  have hM : FnsMut Tryd.prog [] := .nil
  have hV : FnsMov Tryd.prog [] := .nil
  have hK : FnsFrz Tryd.prog [(118, true, mLists)] := (.cons lists_ok .nil)
  refine callOk_awp (ctxH_ok eqOk hG hM hV hK) mixed (live := [true, true, true, true, true, true, true, false, false, false, false, false, false, false, true, true, false, false, false, false, false, false, false, false, false, false, false, false, false, true, false, false, false, false, false, false, false, false, false, false, true]) (dt := [(2, ⟨[], [], []⟩), (5, ⟨[], [], []⟩)]) Tryd.func87 rfl (by kernel_rfl) (by kernel_rfl) fun w0 hlens => ?_
  clear hlens
  have h0 := rect_pos h1
  have hw := wid_eq h0
  have hl := rect_len h1
  have hs : IntKind.i64.wrap ((wid xss : Int) - 1) = (wid xss : Int) - 1 := wrapI (by omega) (by omega)
  have hls := mLists_at xss.length (-1) ((wid xss : Int) - 1)
  simp (config := {contextual := true}) [Tryd.f87, List.range, List.range.loop, ints, intss, int, bool, row, frac, fracs, ← List.map_take, ← List.map_drop, List.all, h0, hw, hs, hls]
  refine tr_rangeFunc (live := [true, true, true, true, true, true, true, false, false, false, false, false, false, false, true, true, false, false, false, false, false, false, false, false, false, false, false, false, false, true, false, false, false, false, false, false, false, false, false, false, true]) (lv := [false, false, true, true, false, true, false, false, false, false, false, false, false, false, true]) (S0 := [.junk, .junk, .fp (.sl nl 1 (xss.map row)) 0, .fp (int wo) 0, .junk, .ptr 0 [] 0 0, .junk, .junk, .junk, .junk, .junk, .junk, .junk, .junk, .fn 135 [.fp (int (-1)) 0, .fp (int (xss.length : Int)) 0, .fp (int ((wid xss : Int) - 1)) 0], .junk, .junk, .junk, .junk, .junk, .junk, .junk, .junk, .junk, .junk, .junk, .junk, .junk, .junk, .junk, .junk, .junk, .junk, .junk, .junk, .junk, .junk, .junk, .junk, .junk, .junk, .junk, .junk, .junk])
    (I := fun k => [⟨true, .sl false 1 [bestAV (bestO (wAw xss) (okP wo) ((allL (-1) ((wid xss : Int) - 1) xss.length).take k))]⟩]) [2, 3, 5, 14]
    (ctxH_ok eqOk hG hM hV hK) mixed (lists1_ok (-1) ((wid xss : Int) - 1) xss.length (by omega) (by omega) (by omega) (by omega)) rfl rfl ?_ rfl rfl (by simp) (by decide) (chkS_all rfl) ?_ ⟨by kernel_rfl, by kernel_rfl⟩ ?_ ?_
  · refine (le_freeze [0, 1]).trans ((le_clean [false, false, true, true, false, true, false, false, false, false, false, false, false, false, true]).trans (le_sub ?_))
    simp [freeze, frzA, frzAL, res, getAt, sets, bestO, bestAV, sub, slotsLe, clean, keep, refsL, refs, once, place, renL, ren, List.replicate, int, bool]
  · intro k _ t tk ht
    cases t with
    | zero => simp at ht; subst ht; exact .inr rfl
    | succ t => simp at ht
  · intro k x hx pin l US w1
    rw [List.getElem?_map, Option.map_eq_some_iff] at hx
    obtain ⟨l0, hl0, rfl⟩ := hx
    obtain ⟨hk, hl0'⟩ := List.getElem?_eq_some_iff.1 hl0
    have hmem : l0 ∈ allL (-1) ((wid xss : Int) - 1) xss.length := List.mem_of_getElem? hl0
    have hpre := wAw_pre h1 hmem
    obtain ⟨hlen, hrng⟩ := allL_mem hmem
    have htake := bestO_take (W := wAw xss) (ok := okP wo) hk
    rw [hl0'] at htake
    have hbm := fun b hb => List.mem_of_mem_take (bestO_mem (W := wAw xss) (ok := okP wo) (L := (allL (-1) ((wid xss : Int) - 1) xss.length).take k) (l := b) hb).1
    generalize bestO (wAw xss) (okP wo) ((allL (-1) ((wid xss : Int) - 1) xss.length).take k) = o at htake hbm
    simp [List.range, List.range.loop, ints, intss, int, bool, row, frac, fracs, ← List.map_take, ← List.map_drop]
    simp only [asgF_normal]
    intro US' w1'
    have hwn : wo.toNat < l0.length := by omega
    obtain ⟨v, hgw⟩ : ∃ v, l0[wo.toNat]? = some v := ⟨_, List.getElem?_eq_getElem hwn⟩
    have hok : okP wo l0 = (isAwd l0 && !(decide (0 ≤ wo) && decide (0 ≤ v))) := by
      unfold okP
      rw [hlen, decide_eq_true hwo2, List.getD_eq_getElem?_getD, hgw]; simp
    have hm := mAwW_at nl xss false l0 hpre
    cases ha : isAwd l0 with
    | false =>
      rw [ha] at hok
      simp [hok, pick1, comb_none] at htake
      simp (config := {contextual := true}) [List.range, List.range.loop, ints, intss, int, bool, row, frac, fracs, ← List.map_take, ← List.map_drop, List.all, mIsAwd_at, ha, rngF_normal, htake]
      done
    | true =>
      rw [ha] at hok
      have hcl := mClone_at false l0 (by omega)
      by_cases hg : 0 ≤ wo ∧ 0 ≤ v
      · have hok' : okP wo l0 = false := by rw [hok]; simp [hg.1, hg.2]
        have h' : bestO (wAw xss) (okP wo) ((allL (-1) ((wid xss : Int) - 1) xss.length).take (k + 1)) = o := by rw [htake]; simp [pick1, hok', comb_none]
        simp (config := {contextual := true}) [List.range, List.range.loop, ints, intss, int, bool, row, frac, fracs, ← List.map_take, ← List.map_drop, List.all, mIsAwd_at, ha, rngF_normal, h', hgw, hg.1, hg.2]
      · have hok' : okP wo l0 = true := by
          rw [hok]; simp; omega
        simp only [pick1, hok', if_true] at htake
        have hgg : 0 ≤ wo → (0 ≤ v) = False := fun h => by simp; omega
        cases o with
        | none =>
          simp only [comb] at htake
          simp (config := {contextual := true}) [List.range, List.range.loop, ints, intss, int, bool, row, frac, fracs, ← List.map_take, ← List.map_drop, List.all, mIsAwd_at, ha, rngF_normal, bestAV, hcl, htake, hgw, hgg]
          done
        | some b =>
          have hmb := mAwW_at nl xss false b (wAw_pre h1 (hbm b rfl))
          simp only [comb] at htake
          by_cases hlt : awTo xss b b.length < awTo xss l0 l0.length
          · rw [if_pos (show wAw xss l0 > wAw xss b from hlt)] at htake
            simp (config := {contextual := true}) [List.range, List.range.loop, ints, intss, int, bool, row, frac, fracs, ← List.map_take, ← List.map_drop, List.all, mIsAwd_at, ha, rngF_normal, bestAV, hcl, hm, hmb, hlt, htake, hgw, hgg]
            done
          · rw [if_neg (show ¬ wAw xss l0 > wAw xss b from hlt)] at htake
            simp (config := {contextual := true}) [List.range, List.range.loop, ints, intss, int, bool, row, frac, fracs, ← List.map_take, ← List.map_drop, List.all, mIsAwd_at, ha, rngF_normal, bestAV, hcl, hm, hmb, hlt, htake, hgw, hgg]
            done
  · simp only [List.length_map, List.take_length]
    generalize bestO (wAw xss) (okP wo) (allL (-1) ((wid xss : Int) - 1) xss.length) = o
    cases o <;> simp (config := {contextual := true}) [List.range, List.range.loop, ints, intss, int, bool, row, frac, fracs, ← List.map_take, ← List.map_drop, List.all, bestAV]

end Go.Proofs.YtlkgppincgpfjaaDoor.Ax

/-
  Contracts: the best award (the reference's search). No condition.
-/
namespace Go.Proofs.YtlkgppincgpfjaaDoor.Ax
open Go Go.RowKit
set_option linter.unusedSimpArgs false

/-- What the search from the front is asked. -/
def LB (xss : List (Bool × List Int)) (l : List Int) (wo : Int) (r : Nat) : Prop := rectB xss 4 4 1000 = true ∧ -1 ≤ wo ∧ l.length + r = xss.length ∧ okP wo l = true ∧ ∀ x ∈ l, -1 ≤ x ∧ x ≤ (wid xss : Int) - 1

noncomputable def bs (xss : List (Bool × List Int)) (wo : Int) (r : Nat) (l : List Int) : Option (List Int) := bestS (wAw xss) (skP wo) (-1) (wid xss + 1) r l

theorem bs_eq {xss : List (Bool × List Int)} {l : List Int} {wo : Int} {r : Nat} (h : LB xss l wo r) : bs xss wo r l = bestO (wAw xss) (okP wo) ((allL (-1) ((wid xss : Int) - 1) r).map (l ++ ·)) := by
  have := bestS_eq (W := wAw xss) (ok := okP wo) (sk := skP wo) (low := -1) (high := (wid xss : Int) - 1) (n := xss.length) (by omega) (fun l x m _ _ hs => okP_skip hs) (fun l x h _ hs => okP_keep h hs) r l h.2.2.2.1 h.2.2.1
  rw [← this]
  unfold bs
  congr 1; omega

theorem lb_pre {xss : List (Bool × List Int)} (h : rectB xss 4 4 1000 = true) {l : List Int} (hl : l.length ≤ xss.length) (hr : ∀ x ∈ l, -1 ≤ x ∧ x ≤ (wid xss : Int) - 1) : l.length ≤ xss.length ∧ ∀ i, i < l.length → l.getD i 0 < ((xss.getD i (true, [])).2.length : Int) := by
  refine ⟨hl, fun i hi => ?_⟩
  have := (hr _ (List.getElem_mem hi)).2
  have hr := (rect_row h (i := i) (by omega)).1
  rw [getD_at hi, List.getD_eq_getElem?_getD, List.getElem?_eq_getElem (by omega)]
  simp only [Option.getD_some]; omega

/-- The first number of the range is never passed over: something is found. -/
theorem bs_some {xss : List (Bool × List Int)} {wo : Int} : ∀ (r : Nat) (l : List Int), ∃ l', bs xss wo r l = some l'
  | 0, l => ⟨l, rfl⟩
  | r + 1, l => by
    obtain ⟨l1, h1⟩ := bs_some r (l ++ [-1])
    unfold bs at h1 ⊢
    simp only [bestS]
    rw [List.range_succ_eq_map, List.foldl_cons]
    have hs : skP wo l (-1 + ((0 : Nat) : Int)) = false := by simp [skP]
    rw [hs]
    simp only [Bool.false_eq_true, if_false]
    have h1' : bestS (wAw xss) (skP wo) (-1) (wid xss + 1) r (l ++ [-1 + ((0 : Nat) : Int)]) = some l1 := h1
    rw [h1']
    have key : ∀ (L : List Nat) (g : Option (List Int) → Nat → Option (List Int)) (a : List Int), (∀ a i, ∃ b, g (some a) i = some b) → ∃ b, L.foldl g (some a) = some b := by
      intro L
      induction L with
      | nil => intro g a _; exact ⟨a, rfl⟩
      | cons i L ih =>
        intro g a hg
        obtain ⟨b, hb⟩ := hg a i
        rw [List.foldl_cons, hb]; exact ih g b hg
    refine key _ _ l1 fun a i => ?_
    split
    · exact ⟨a, rfl⟩
    · cases bestS (wAw xss) (skP wo) (-1) (wid xss + 1) r (l ++ [-1 + (i : Int)]) with
      | none => exact ⟨a, rfl⟩
      | some b => simp only [comb]; split <;> exact ⟨_, rfl⟩

theorem bs_mem {xss : List (Bool × List Int)} {l : List Int} {wo : Int} {r : Nat} (h : LB xss l wo r) {l' : List Int} (hl : bs xss wo r l = some l') : l'.length = xss.length ∧ (∀ x ∈ l', -1 ≤ x ∧ x ≤ (wid xss : Int) - 1) ∧ okP wo l' = true := by
  rw [bs_eq h] at hl
  obtain ⟨h1, h2⟩ := bestO_mem hl
  obtain ⟨l2, h3, rfl⟩ := List.mem_map.1 h1
  obtain ⟨h4, h5⟩ := allL_mem h3
  refine ⟨by rw [List.length_append, h4]; exact h.2.2.1, fun x hx => ?_, h2⟩
  rcases List.mem_append.1 hx with hx | hx
  · exact h.2.2.2.2 x hx
  · exact h5 x hx

theorem LB.step {xss : List (Bool × List Int)} {l : List Int} {wo : Int} {r : Nat} (h : LB xss l wo (r + 1)) {x : Int} (hx : -1 ≤ x ∧ x ≤ (wid xss : Int) - 1) (hs : skP wo l x = false) : LB xss (l ++ [x]) wo r := by
  obtain ⟨h1, h2, h3, h4, h5⟩ := h
  refine ⟨h1, h2, by simp; omega, okP_keep h4 hs, fun y hy => ?_⟩
  rcases List.mem_append.1 hy with hy | hy
  · exact h5 y hy
  · simp at hy; subst hy; exact hx

noncomputable def mLB (r : Nat) : List AV → Option (List Nat × AV) := mkV (fun p => LB p.2.1 p.2.2.1 p.2.2.2 r) (fun (p : Bool × List (Bool × List Int) × List Int × Int) => [intss p.1 p.2.1, ints false p.2.2.1, int p.2.2.2]) [1] (fun p => ints false ((bs p.2.1 p.2.2.2 r p.2.2.1).getD []))
theorem mLB_at (r : Nat) (nl : Bool) (xss : List (Bool × List Int)) (l : List Int) (wo : Int) (h : LB xss l wo r) : mLB r [.sl nl 1 (xss.map row), .sl false 1 (l.map int), .v (.int .i64 wo)] = some ([1], .sl false 1 (((bs xss wo r l).getD []).map int)) :=
  mkV_eq (enc := fun (p : Bool × List (Bool × List Int) × List Int × Int) => [intss p.1 p.2.1, ints false p.2.2.1, int p.2.2.2]) (x := (nl, xss, l, wo)) (by rintro ⟨a, b, c, d⟩ ⟨e, f, g, h'⟩ h; simp [intss, ints, int, map_row_inj, map_int_inj] at h; simp [h]) h

/-- The best so far. -/
noncomputable def bsTo (xss : List (Bool × List Int)) (wo : Int) (r : Nat) (l : List Int) (k : Nat) : Option (List Int) :=
  (List.range k).foldl (fun o (i : Nat) => if skP wo l (-1 + (i : Int)) = true then o else comb (wAw xss) o (bs xss wo r (l ++ [-1 + (i : Int)]))) none
theorem bsTo_succ {xss : List (Bool × List Int)} {wo : Int} {r : Nat} {l : List Int} {k : Nat} : bsTo xss wo r l (k + 1) = if skP wo l (-1 + (k : Int)) = true then bsTo xss wo r l k else comb (wAw xss) (bsTo xss wo r l k) (bs xss wo r (l ++ [-1 + (k : Int)])) := by
  unfold bsTo
  rw [List.range_succ, List.foldl_append]; rfl
theorem bsTo_all {xss : List (Bool × List Int)} {wo : Int} {r : Nat} {l : List Int} : bsTo xss wo r l (wid xss + 1) = bs xss wo (r + 1) l := rfl
theorem bsTo_mem {xss : List (Bool × List Int)} {l : List Int} {wo : Int} {r : Nat} (h : LB xss l wo (r + 1)) : ∀ {k : Nat}, k ≤ wid xss + 1 → ∀ {b : List Int}, bsTo xss wo r l k = some b → b.length = xss.length ∧ ∀ x ∈ b, -1 ≤ x ∧ x ≤ (wid xss : Int) - 1
  | 0, _, b, hb => by simp [bsTo] at hb
  | k + 1, hk, b, hb => by
    rw [bsTo_succ] at hb
    split at hb
    · exact bsTo_mem h (by omega) hb
    · rename_i hs
      have hs' : skP wo l (-1 + (k : Int)) = false := by simpa using hs
      have hst := h.step (x := -1 + (k : Int)) ⟨by omega, by omega⟩ hs'
      obtain ⟨l1, h1⟩ := bs_some (xss := xss) (wo := wo) r (l ++ [-1 + (k : Int)])
      rw [h1] at hb
      have hm := bs_mem hst h1
      cases ho : bsTo xss wo r l k with
      | none => rw [ho] at hb; simp only [comb, Option.some.injEq] at hb; subst hb; exact ⟨hm.1, hm.2.1⟩
      | some a =>
        rw [ho] at hb
        simp only [comb] at hb
        split at hb
        · simp only [Option.some.injEq] at hb; subst hb; exact ⟨hm.1, hm.2.1⟩
        · simp only [Option.some.injEq] at hb; subst hb; exact bsTo_mem h (by omega) ho

theorem l27Best_zero : (FnMov Tryd.prog 83 (mLB 0)) := by
  refine mkV_ok fun ⟨nl, xss, l, wo⟩ h => ?_
  simp only at h
  have hG : FnsOk Tryd.prog [(110, mPos), (84, mAwW)] := (.cons placeOf_ok (.cons l27Worth_ok .nil))
  refine movOk_awp (ctx_ok eqOk hG) mixed (live := [true, true, true, false, false, false, true, true, true, true, false, false, false, false, true, false, false, false, false, false, false, false, true, false, false, false, false, false, false, false, false, false, false, false, false, false, false, false, true, false, false, false, false, false, false, false, false, false, false, false, false, false, false, false, false, false, false, false, false, true]) (dt := []) (mv := [1]) Tryd.func83 rfl (by kernel_rfl) (by kernel_rfl) fun US w0 hlens => ?_
  simp only [List.map, List.getD_cons_zero, List.getD_cons_succ, internL, intern, setSl, List.set, List.length_nil, List.nil_append, List.length_map]
  clear hlens
  have hl : l.length = xss.length := h.2.2.1
  simp (config := {contextual := true, maxSteps := 1000000}) [Tryd.f83, List.range, List.range.loop, ints, intss, int, bool, row, frac, fracs, ← List.map_take, ← List.map_drop, List.all, hl, bs, bestS]
  done

set_option maxHeartbeats 1000000 in
theorem l27Best_succ {r : Nat} (ih : FnMov Tryd.prog 83 (mLB r)) : FnMov Tryd.prog 83 (mLB (r + 1)) := by
  refine mkV_ok fun ⟨nl, xss, l, wo⟩ h => ?_
  simp only at h
  have hG : FnsOk Tryd.prog [(110, mPos), (84, mAwW)] := (.cons placeOf_ok (.cons l27Worth_ok .nil))
  have hM : FnsMut Tryd.prog [] := .nil
  have hV : FnsMov Tryd.prog [(83, mLB r)] := (.cons ih .nil)
  refine movOk_awp (ctxV_ok eqOk hG hM hV) mixed (live := [true, true, true, false, false, false, true, true, true, true, false, false, false, false, true, false, false, false, false, false, false, false, true, false, false, false, false, false, false, false, false, false, false, false, false, false, false, false, true, false, false, false, false, false, false, false, false, false, false, false, false, false, false, false, false, false, false, false, false, true]) (dt := []) (mv := [1]) Tryd.func83 rfl (by kernel_rfl) (by kernel_rfl) fun US w0 hlens => ?_
  simp only [List.map, List.getD_cons_zero, List.getD_cons_succ, internL, intern, setSl, List.set, List.length_nil, List.nil_append, List.length_map]
  clear hlens
  have hl : ¬ ((l.length : Int) = (xss.length : Int)) := by have := h.2.2.1; omega
  have h1 := h.1
  have hr := h.2.2.1
  have h0 := rect_pos h1
  have hw := wid_eq h0
  have hwl := rect_len h1
  simp (config := {contextual := true, maxSteps := 1000000}) [Tryd.f83, List.range, List.range.loop, ints, intss, int, bool, row, frac, fracs, ← List.map_take, ← List.map_drop, List.all, hl]
  refine awp_loop_of (live := [true, true, true, false, false, false, true, true, true, true, false, false, false, false, true, false, false, false, false, false, false, false, true, false, false, false, false, false, false, false, false, false, false, false, false, false, false, false, true, false, false, false, false, false, false, false, false, false, false, false, false, false, false, false, false, false, false, false, false, true]) (ctxV_ok eqOk hG hM hV) mixed [true, true, true, false, false, false, false, true, true] (α := {k : Nat // k ≤ wid xss + 1}) (fun k => ⟨[intss nl xss, .ref 0 [] 0 l.length, int wo, .junk, .junk, .junk, .junk, .ref 1 [] 0 ((bsTo xss wo r l k.1).getD []).length, int (-1 + (k.1 : Int)), .junk, .junk, .junk, .junk, .junk, .junk, .junk, .junk, .junk, .junk, .junk, .junk, .junk, .junk, .junk, .junk, .junk, .junk, .junk, .junk, .junk, .junk, .junk, .junk, .junk, .junk, .junk, .junk, .junk, .junk, .junk, .junk, .junk, .junk, .junk, .junk, .junk, .junk, .junk, .junk, .junk, .junk, .junk, .junk, .junk, .junk, .junk, .junk, .junk, .junk, .junk, .junk, .junk], [⟨true, .sl false 1 (l.map int)⟩, ⟨true, .sl false 1 (((bsTo xss wo r l k.1).getD []).map int)⟩]⟩) (fun k => wid xss + 1 - k.1) ⟨0, by omega⟩ (by simp [sub, slotsLe, clean, keep, refsL, refs, once, place, renL, ren, List.replicate, int, bool, bsTo, intss]) ?_
  rintro ⟨k, hk⟩
  have hmem := fun b => bsTo_mem h hk (b := b)
  have hsucc := bsTo_succ (xss := xss) (wo := wo) (r := r) (l := l) (k := k)
  simp only
  by_cases hkw : k = wid xss + 1
  · subst hkw
    have e1 : ¬ ((-1 : Int) + ((wid xss : Int) + 1) < (wid xss : Int)) := by omega
    simp (config := {contextual := true, maxSteps := 1000000}) [List.range, List.range.loop, ints, intss, int, bool, row, frac, fracs, ← List.map_take, ← List.map_drop, List.all, h0, hw, e1, bsTo_all]
  have e1 : (-1 : Int) + (k : Int) < (wid xss : Int) := by omega
  have e2 : IntKind.i64.wrap ((-1 : Int) + (k : Int) + 1) = (-1 : Int) + ((k : Int) + 1) := by rw [wrapI (by omega) (by omega)]; omega
  have hlb : l.length ≤ 4611686018427387904 ∧ l.length * 8 ≤ 140737488355328 := by omega
  have hlb2 : l.length + 1 ≤ 4611686018427387904 ∧ (l.length + 1) * 8 ≤ 140737488355328 := by omega
  generalize hx : (-1 : Int) + (k : Int) = x at e1 e2 hsucc
  by_cases hs : skP wo l x = true
  · have hs2 : 0 ≤ x ∧ (0 ≤ pos l x ∨ (l.length : Int) = wo) := by simpa [skP] using hs
    rw [if_pos hs] at hsucc
    have hx0 := hs2.1
    rcases hs2.2 with hp | hq
    · simp (config := {contextual := true, maxSteps := 1000000}) [List.range, List.range.loop, ints, intss, int, bool, row, frac, fracs, ← List.map_take, ← List.map_drop, List.all, h0, hw, e1, e2, mPos_at, hx0, hp]
      exact ⟨⟨k + 1, by omega⟩, by simp [sub, slotsLe, clean, keep, refsL, refs, once, place, renL, ren, List.replicate, int, bool, hsucc], by simp; omega⟩
    · by_cases hp : 0 ≤ pos l x
      · simp (config := {contextual := true, maxSteps := 1000000}) [List.range, List.range.loop, ints, intss, int, bool, row, frac, fracs, ← List.map_take, ← List.map_drop, List.all, h0, hw, e1, e2, mPos_at, hx0, hp]
        exact ⟨⟨k + 1, by omega⟩, by simp [sub, slotsLe, clean, keep, refsL, refs, once, place, renL, ren, List.replicate, int, bool, hsucc], by simp; omega⟩
      · simp (config := {contextual := true, maxSteps := 1000000}) [List.range, List.range.loop, ints, intss, int, bool, row, frac, fracs, ← List.map_take, ← List.map_drop, List.all, h0, hw, e1, e2, mPos_at, hx0, hp, hq]
        exact ⟨⟨k + 1, by omega⟩, by simp [sub, slotsLe, clean, keep, refsL, refs, once, place, renL, ren, List.replicate, int, bool, hsucc], by simp; omega⟩
  · have hs2 : skP wo l x = false := by simpa using hs
    have hs3 : 0 ≤ x → ¬ (0 ≤ pos l x) ∧ ¬ ((l.length : Int) = wo) := by
      intro h0; simp [skP, h0] at hs2; omega
    have hs4 : 0 ≤ x → (0 ≤ pos l x) = False := fun h => by simp [(hs3 h).1]
    have hs5 : 0 ≤ x → ((l.length : Int) = wo) = False := fun h => by simp [(hs3 h).2]
    rw [if_neg hs] at hsucc
    have hst := h.step (x := x) ⟨by omega, by omega⟩ hs2
    obtain ⟨l1, hl1⟩ := bs_some (xss := xss) (wo := wo) r (l ++ [x])
    have hm1 := bs_mem hst hl1
    have hcall := mLB_at r nl xss (l ++ [x]) wo hst
    rw [hl1] at hcall hsucc
    simp only [Option.getD_some, List.map_append, List.map_cons, List.map_nil, int] at hcall
    have htk : List.take (l.length + 1) (l.map int ++ [AV.v (.int .i64 x)]) = l.map int ++ [AV.v (.int .i64 x)] := List.take_of_length_le (by simp)
    have hw1 := mAwW_at nl xss false l1 (lb_pre h1 (by omega) hm1.2.1)
    cases ho : bsTo xss wo r l k with
    | none =>
      rw [ho] at hsucc
      simp only [comb] at hsucc
      simp (config := {contextual := true, maxSteps := 1000000}) [List.range, List.range.loop, ints, intss, int, bool, row, frac, fracs, ← List.map_take, ← List.map_drop, List.all, h0, hw, e1, e2, mPos_at, hs4, hs5, hlb, hlb2, htk, hcall, hw1]
      constructor <;> exact fun _ => ⟨⟨k + 1, by omega⟩, by simp [sub, slotsLe, clean, keep, refsL, refs, once, place, renL, ren, List.replicate, int, bool, hsucc], by simp; omega⟩
    | some b =>
      have hmb := hmem b ho
      have hw2 := mAwW_at nl xss false b (lb_pre h1 (by omega) hmb.2)
      rw [ho] at hsucc
      have hbl : b.length ≠ 0 := by omega
      simp only [comb] at hsucc
      simp (config := {contextual := true, maxSteps := 1000000}) [List.range, List.range.loop, ints, intss, int, bool, row, frac, fracs, ← List.map_take, ← List.map_drop, List.all, h0, hw, e1, e2, mPos_at, hs4, hs5, hlb, hlb2, htk, hcall, hw1, hw2, hbl]
      have hgt : awTo xss b b.length < awTo xss l1 l1.length → bsTo xss wo r l (k + 1) = some l1 := fun hlt => by rw [hsucc, if_pos (show wAw xss l1 > wAw xss b from hlt)]
      have hle : awTo xss l1 l1.length ≤ awTo xss b b.length → bsTo xss wo r l (k + 1) = some b := fun hle => by rw [hsucc, if_neg (show ¬ wAw xss l1 > wAw xss b from Int.not_lt.2 hle)]
      constructor <;> exact fun _ => ⟨fun hc => ⟨⟨k + 1, by omega⟩, by simp [sub, slotsLe, clean, keep, refsL, refs, once, place, renL, ren, List.replicate, int, bool, hgt hc], by simp; omega⟩, fun hc => ⟨⟨k + 1, by omega⟩, by simp [sub, slotsLe, clean, keep, refsL, refs, once, place, renL, ren, List.replicate, int, bool, hle hc, ho], by simp; omega⟩⟩

end Go.Proofs.YtlkgppincgpfjaaDoor.Ax
