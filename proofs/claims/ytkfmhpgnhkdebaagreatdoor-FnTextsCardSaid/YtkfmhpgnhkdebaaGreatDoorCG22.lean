/-
  Contracts: FormatFraction, FormatFractions (both programs). No condition.
-/
import Derived.Test.YtkfmhpgnhkdebaaGreatDoorCG13
import Derived.Test.YtkfmhpgnhkdebaaGreatDoorCG21
import Derived.Test.YtkfmhpgnhkdebaaGreatDoorCG10
import Derived.Test.YtkfmhpgnhkdebaaGreatDoorCG11
import Derived.Test.YtkfmhpgnhkdebaaGreatDoorCG2
import Derived.Test.YtkfmhpgnhkdebaaGreatDoorCG8
namespace Go.Proofs.YtkfmhpgnhkdebaaGreatDoor.Ax
open Go Go.RowKit
set_option linter.unusedSimpArgs false
def fracS (f : Int × Int) : ByteArray := if fracOk f = true then (if f.2 = 1 then itoaS f.1 else itoaS f.1 ++ ⟨#[47]⟩ ++ itoaS f.2) else ⟨#[]⟩
noncomputable def mFFrac : List AV → Option AV := mk (fun _ => True) (fun (p : (Int) × (Int)) => [frac (p.1, p.2)]) (fun p => .v (.string (fracS (p.1, p.2))))
theorem mFFrac_at (a : Int) (b : Int) : mFFrac [.agg [.v (.int .i64 a), .v (.int .i64 b)]] = some (.v (.string (fracS (a, b)))) :=
  mk_eq (enc := fun (p : (Int) × (Int)) => [frac (p.1, p.2)]) (x := (a, b)) (by rintro ⟨a0, a1⟩ ⟨b0, b1⟩ h; simp [ints, intss, int, bool, row, frac, fracs, map_int_inj, map_row_inj, frac_inj, map_frac_inj] at h; simp [h]) trivial
theorem itoaS_size20 {n : Int} (h : inI n) : (itoaS n).size ≤ 20 := by unfold itoaS; rw [ba_size]; exact itoa_len h
set_option maxHeartbeats 1000000 in
theorem implFormatFraction_ok : FnOk Tryz.prog 43 mFFrac := by
  refine mk_ok fun ⟨a, b⟩ _ => ?_
  have hG : FnsOk Tryz.prog [(111, mFracOk), (17, mItoa)] := (.cons implFractionOk_ok (.cons implFormatInt_ok .nil))
  refine callOk_awp (ctx_ok eqOk hG) mixed (live := [true, true, true, true, false, false, false, true]) (dt := [(5, ⟨[], [], []⟩)]) Tryz.func43 rfl (by kernel_rfl) (by kernel_rfl) fun w0 hlens => ?_
  clear hlens
  cases h1 : fracOk (a, b) with
  | false => simp (config := {contextual := true}) [Tryz.f43, List.range, List.range.loop, ints, intss, int, bool, row, frac, fracs, ← List.map_take, ← List.map_drop, mFracOk_at, h1, fracS]
  | true =>
  have hr : inI a ∧ inI b := by
    simp only [fracOk, Bool.and_eq_true, decide_eq_true_eq] at h1
    exact ⟨⟨by omega, by omega⟩, by omega, by omega⟩
  have ha := mItoa_at a hr.1
  have hb := mItoa_at b hr.2
  have sa := itoaS_size20 hr.1
  have sb := itoaS_size20 hr.2
  by_cases h2 : b = 1
  · subst h2
    simp (config := {contextual := true}) [Tryz.f43, List.range, List.range.loop, ints, intss, int, bool, row, frac, fracs, ← List.map_take, ← List.map_drop, mFracOk_at, h1, fracS, ha]
  · have s1 : (itoaS a).size + 1 ≤ 9223372036854775807 := by omega
    have s2 : (itoaS a).size + 1 + (itoaS b).size ≤ 9223372036854775807 := by omega
    have e1 : (b == 1) = false := by simpa using h2
    simp (config := {contextual := true}) [Tryz.f43, List.range, List.range.loop, ints, intss, int, bool, row, frac, fracs, ← List.map_take, ← List.map_drop, mFracOk_at, h1, fracS, ha, hb, h2, e1, sz1, s1, s2]
end Go.Proofs.YtkfmhpgnhkdebaaGreatDoor.Ax
namespace Go.Proofs.YtkfmhpgnhkdebaaGreatDoor.Ax
open Go Go.RowKit
set_option linter.unusedSimpArgs false
set_option maxHeartbeats 2000000 in
theorem implPfr (f : Int × Int) (h : fracOk f = true) : CallOk Tryz.prog 42 [str (fracS f)] (.tup [frac f, .v (.bool true)]) := by
  obtain ⟨a, b⟩ := f
  have hr : inI a ∧ inI b := by
    simp only [fracOk, Bool.and_eq_true, decide_eq_true_eq] at h
    exact ⟨⟨by omega, by omega⟩, by omega, by omega⟩
  have hff := mFFrac_at a b
  have sa := itoaS_size20 hr.1
  have sb := itoaS_size20 hr.2
  have ma := mPI_at (itoaS a) (by omega)
  have mb := mPI_at (itoaS b) (by omega)
  rw [pI_of hr.1] at ma
  rw [pI_of hr.2] at mb
  have hno : (47 : UInt8) ∉ bl (itoaS a) := itoa_no (by decide) (by decide)
  have hT : fracS (a, b) = if b = 1 then itoaS a else itoaS a ++ ⟨#[47]⟩ ++ itoaS b := by unfold fracS; rw [if_pos h]
  have hpos : 0 < (fracS (a, b)).size := by
    have := itoa_ne (n := a)
    rw [bl_size] at this
    rw [hT]
    split
    · exact this
    · rw [ByteArray.size_append, ByteArray.size_append]; omega
  have hne : ¬ fracS (a, b) = ⟨#[]⟩ := fun e => by rw [e] at hpos; exact absurd hpos (by decide)
  have hnl : ¬ (fracS (a, b)).toList = [] := fun e => by
    rw [ByteArray.toList_eq] at e
    have : (bl (fracS (a, b))).length = 0 := by unfold bl; rw [e]; rfl
    rw [bl_size] at this; omega
  have hsz : (fracS (a, b)).size ≤ 41 := by
    have e1 : (⟨#[47]⟩ : ByteArray).size = 1 := rfl
    rw [hT]
    split
    · omega
    · rw [ByteArray.size_append, ByteArray.size_append, e1]; omega
  have hcut := mScut_at (fracS (a, b)) 47 (by omega)
  by_cases hb1 : b = 1
  · subst hb1
    rw [if_pos rfl] at hT
    have hc : cutT (fracS (a, 1)) 47 = (itoaS a, ⟨#[]⟩, false) := by rw [hT]; exact cutT_no hno
    rw [hc] at hcut
    simp only [cutAV] at hcut
    generalize fracS (a, 1) = t at *
    clear hT hc
    have hG : FnsOk Tryz.prog [(118, mScut), (119, mPI), (43, mFFrac)] := (.cons scut_ok (.cons implPI_ok (.cons implFormatFraction_ok .nil)))
    refine callOk_awp (ctx_ok eqOk hG) mixed (live := [true, false, true, true, true, true, true, true, false, false, false, false, false, false, false, false, false, false, false, false, false, true, false, false, false, false, false, false, false, false, false, false, false, false, false, true]) (dt := []) Tryz.func42 rfl (by kernel_rfl) (by kernel_rfl) fun w0 hlens => ?_
    clear hlens
    simp [Tryz.f42, List.range, List.range.loop, ints, intss, int, bool, row, frac, fracs, ← List.map_take, ← List.map_drop, str, hcut, ma, hff, hne, hnl]
    done
  · rw [if_neg hb1] at hT
    have hc : cutT (fracS (a, b)) 47 = (itoaS a, itoaS b, true) := by rw [hT]; exact cutT_app hno
    rw [hc] at hcut
    simp only [cutAV] at hcut
    generalize fracS (a, b) = t at *
    clear hT hc
    have hG : FnsOk Tryz.prog [(118, mScut), (119, mPI), (43, mFFrac)] := (.cons scut_ok (.cons implPI_ok (.cons implFormatFraction_ok .nil)))
    refine callOk_awp (ctx_ok eqOk hG) mixed (live := [true, false, true, true, true, true, true, true, false, false, false, false, false, false, false, false, false, false, false, false, false, true, false, false, false, false, false, false, false, false, false, false, false, false, false, true]) (dt := []) Tryz.func42 rfl (by kernel_rfl) (by kernel_rfl) fun w0 hlens => ?_
    clear hlens
    simp [Tryz.f42, List.range, List.range.loop, ints, intss, int, bool, row, frac, fracs, ← List.map_take, ← List.map_drop, str, hcut, ma, mb, hff, hne, hnl]
    done
def smT (xss : List (Bool × List Int)) : Prop := 1 ≤ xss.length ∧ xss.length ≤ 3 ∧ ∀ r ∈ xss, r.1 = false ∧ 1 ≤ r.2.length ∧ r.2.length ≤ 3 ∧ ∀ x ∈ r.2, 0 ≤ x ∧ x < 45
theorem row_bytes {r : List Int} (hl : 1 ≤ r.length) (hx : ∀ x ∈ r, 0 ≤ x ∧ x < 45) {c : UInt8} (hc : c.toNat < 48 ∨ 57 < c.toNat) (h44 : c ≠ 44) : c ∉ bl (numS r) := by
  have hne : r ≠ [] := by intro e; rw [e] at hl; simp at hl
  unfold numS
  rw [if_neg hne]
  refine join_mem (by rw [bl_one]; simp [h44]) fun w hw => ?_
  obtain ⟨x, hxm, rfl⟩ := List.mem_map.1 hw
  intro hm
  have := itoa_pos (hx x hxm).1 c hm
  omega
theorem row_split {r : List Int} (hl : 1 ≤ r.length) : splitS (numS r) 44 = r.map itoaS := by
  have hne : r ≠ [] := by intro e; rw [e] at hl; simp at hl
  unfold numS
  rw [if_neg hne]
  refine split_join (by simpa using hne) fun w hw => ?_
  obtain ⟨x, _, rfl⟩ := List.mem_map.1 hw
  exact itoa_no (by decide) (by decide)
theorem smT_inI {xss : List (Bool × List Int)} (h : smT xss) : ∀ r ∈ xss, ∀ x ∈ r.2, inI x := fun r hr x hx => by
  have := (h.2.2 r hr).2.2.2 x hx
  exact inI_small (by omega)
theorem smT_tab {xss : List (Bool × List Int)} (h : smT xss) : tabOk xss := ⟨by have := h.2.1; omega, fun r hr => ⟨by have := (h.2.2 r hr).2.2.1; omega, smT_inI h r hr⟩⟩
theorem pnL_map {r : List Int} (h : ∀ x ∈ r, inI x) : pnL (r.map itoaS) = r := by
  unfold pnL
  rw [List.map_map]
  apply List.ext_getElem
  · simp
  · intro i h1 h2
    simp only [List.getElem_map, Function.comp_apply]
    rw [pI_of (h _ (List.getElem_mem h2))]
theorem tab_round {xss : List (Bool × List Int)} (h : smT xss) : mPT true [.v (.string (tabS xss))] = some (.tup [.sl false 1 (xss.map row), .v (.bool true)]) := by
  obtain ⟨h1, h3, hr⟩ := h
  have hne : xss ≠ [] := by intro e; rw [e] at h1; simp at h1
  have hS : tabS xss = joinS (xss.map rowS) ⟨#[59]⟩ := by unfold tabS; rw [if_neg hne]
  have hin := smT_inI ⟨h1, h3, hr⟩
  have hlen := join_len (c := 64) (sep := bl ⟨#[59]⟩) (ws := (xss.map rowS).map bl) (by
    intro w hw
    simp only [List.map_map, List.mem_map, Function.comp_apply] at hw
    obtain ⟨r, hrm, rfl⟩ := hw
    have := numS_len (hin r hrm)
    have := (hr r hrm).2.2.1
    unfold rowS
    omega)
  have e1 : (bl ⟨#[59]⟩).length = 1 := rfl
  rw [List.length_map, List.length_map, e1] at hlen
  have hsz : (tabS xss).size ≤ 2097152 := by rw [hS, joinS_size]; omega
  have hsp : splitS (tabS xss) 59 = xss.map rowS := by
    rw [hS]
    refine split_join (by simpa using hne) fun w hw => ?_
    obtain ⟨r, hrm, rfl⟩ := List.mem_map.1 hw
    exact row_bytes (hr r hrm).2.1 (hr r hrm).2.2.2 (.inr (by decide)) (by decide)
  have h61 : ¬ tabS xss = ⟨#[61]⟩ := fun e => by
    have : (61 : UInt8) ∉ bl (tabS xss) := by
      rw [hS]
      refine join_mem (by decide) fun w hw => ?_
      obtain ⟨r, hrm, rfl⟩ := List.mem_map.1 hw
      exact row_bytes (hr r hrm).2.1 (hr r hrm).2.2.2 (.inr (by decide)) (by decide)
    rw [e, bl_one] at this
    simp at this
  have hr45 : ∀ r ∈ xss, ¬ rowS r = ⟨#[45]⟩ := fun r hrm e => by
    have := row_bytes (hr r hrm).2.1 (hr r hrm).2.2.2 (c := 45) (.inl (by decide)) (by decide)
    unfold rowS at e
    rw [e, bl_one] at this
    simp at this
  have hpk : ptOk (xss.map rowS) = true := by
    unfold ptOk
    simp only [Bool.and_eq_true, decide_eq_true_eq, List.all_eq_true, List.length_map]
    refine ⟨fun w hw => ?_, by omega⟩
    obtain ⟨r, hrm, rfl⟩ := List.mem_map.1 hw
    unfold pnK
    rw [Bool.or_eq_true]
    right
    unfold rowS
    rw [row_split (hr r hrm).2.1]
    unfold pnOk
    simp only [Bool.and_eq_true, decide_eq_true_eq, List.all_eq_true, List.length_map]
    refine ⟨fun w hw => ?_, by have := (hr r hrm).2.2.1; omega⟩
    obtain ⟨x, hxm, rfl⟩ := List.mem_map.1 hw
    rw [pI_of (hin r hrm x hxm)]
  have hL : ptbL true (xss.map rowS) = xss := by
    unfold ptbL
    rw [List.map_map]
    apply List.ext_getElem
    · simp
    · intro i i1 i2
      have hrm := List.getElem_mem i2
      simp only [List.getElem_map, Function.comp_apply]
      unfold prw
      rw [if_neg (hr45 _ hrm)]
      have e : rowS xss[i] = numS xss[i].2 := rfl
      rw [e, row_split (hr _ hrm).2.1, pnL_map (hin _ hrm), ← (hr _ hrm).1]
  rw [mPT_at true _ hsz]
  unfold ptbR
  rw [if_neg h61, hsp, if_pos hpk, hL]
end Go.Proofs.YtkfmhpgnhkdebaaGreatDoor.Ax
namespace Go.Proofs.YtkfmhpgnhkdebaaGreatDoor.Ax
open Go Go.RowKit
set_option linter.unusedSimpArgs false
noncomputable def mFmd : List AV → Option (List Nat × AV) := mkV (fun p => profB p.1 p.2 = true) (fun (p : Int × List Vt) => [prof p.1 false p.2, str (fprT p.1 p.2)]) [0] (fun p => .tup [prof p.1 false p.2, .v (.bool true)])
theorem mFmd_at (s : Int) (vs : List Vt) (h : profB s vs = true) : mFmd [.agg [.v (.int .i64 s), .sl false 2 (vs.map vote)], .v (.string (fprT s vs))] = some ([0], .tup [.agg [.v (.int .i64 s), .sl false 2 (vs.map vote)], .v (.bool true)]) :=
  mkV_eq (enc := fun (p : Int × List Vt) => [prof p.1 false p.2, str (fprT p.1 p.2)]) (f := fun p => .tup [prof p.1 false p.2, .v (.bool true)]) (x := (s, vs)) (by
    rintro ⟨a, b⟩ ⟨a', b'⟩ h
    simp [prof, int, map_vote_inj] at h
    simp [h]) h
set_option maxHeartbeats 1000000 in
theorem fmd_ok : FnMov Tryz.prog 121 mFmd := by
  refine mkV_ok fun ⟨s, vs⟩ h => ?_
  simp only at h
  have hpp := mProf_at s false vs
  have hfp := mFpr_at s false vs
  rw [h] at hpp
  have hV : FnsMov Tryz.prog [] := .nil
  have hM : FnsMut Tryz.prog [] := .nil
  have hG : FnsOk Tryz.prog [(66, mProf), (45, mFpr)] := (.cons implProf_ok (.cons implFpr_ok .nil))
  refine movOk_awp (ctxV_ok eqOk hG hM hV) mixed (live := [true, true, true, false, true, true, false, false, false, false, false, false, false, false, true]) (dt := []) (mv := [0]) Tryz.func121 rfl (by kernel_rfl) (by kernel_rfl) fun US w0 hlens => ?_
  simp only [List.map, List.getD_cons_zero, List.getD_cons_succ, internL, intern, setSl, List.set, List.length_nil, List.nil_append, List.length_map]
  clear hlens
  simp [Tryz.f121, List.range, List.range.loop, ints, intss, int, bool, row, frac, fracs, ← List.map_take, ← List.map_drop, List.all, prof, str, hpp, hfp]
  done
def ppR (s : Int) (vs : List Vt) : AV := match vs with
  | [] => .agg [.v (.int .i64 0), .sl true 1 []]
  | v :: l => .agg [.v (.int .i64 s), .sl false 2 ((v :: l).map vote)]
theorem ppR_nil {s : Int} : ppR s [] = .agg [.v (.int .i64 0), .sl true 1 []] := rfl
theorem ppR_ne {s : Int} {vs : List Vt} (h : vs ≠ []) : ppR s vs = .agg [.v (.int .i64 s), .sl false 2 (vs.map vote)] := by cases vs with | nil => exact (h rfl).elim | cons _ _ => rfl
set_option maxHeartbeats 4000000 in
theorem implPpr (s : Int) (vs : List Vt) (h : profB s vs = true) (hne : vs ≠ []) (hfl : ∀ v ∈ vs, v.1.1 = false) : CallOk Tryz.prog 44 [str (fprS vs)] (.tup [prof s false vs, .v (.bool true)]) := by
  obtain ⟨_, h24, hall⟩ := prof_facts h
  have hT : fprT s vs = fprS vs := by unfold fprT; rw [if_pos h, if_neg hne]
  have hsz := fpr_size h
  have hdash := fpr_dash h
  have hsp := fpr_split h hne
  have hcp := mCpx_at (fprS vs) 45 (by omega)
  unfold cpxAV at hcp
  rw [hdash] at hcp
  simp at hcp
  have hmv := mFmd_at s vs h
  rw [hT] at hmv
  have hseq := splitSeqP_ok (s := fprS vs) (c := 32) (by omega)
  rw [hsp] at hseq
  generalize fprS vs = t at *
  have hG : FnsOk Tryz.prog [(120, mCpx), (119, mPI), (118, mScut), (49, mPrk)] := (.cons cutPrefix_ok (.cons implPI_ok (.cons scut_ok (.cons implPrk_ok .nil))))
  have hM : FnsMut Tryz.prog [] := .nil
  have hV : FnsMov Tryz.prog [(121, mFmd)] := (.cons fmd_ok .nil)
  refine callOk_of_tr (C := _) (ctxV_ok eqOk hG hM hV) (dt := []) Tryz.func44 rfl (by kernel_rfl) (by kernel_rfl) fun w0 => ?_
  refine tr_seq (tr_awp (live := [true, false, true, true, true, true, true, false, true, true, true, true, false, true, false, true, false, false, false, false, false, false, true, false, false, false, false, false, false, false, false, false, false, false, false, true, true, false, false, false, false, false, false, false, false, false, false, false, false, false, false, false, false, false, false, false, true]) (ctxV_ok eqOk hG hM hV) mixed _ _ _ ?_)
  simp [Tryz.f44, List.range, List.range.loop, ints, intss, int, bool, row, frac, fracs, ← List.map_take, ← List.map_drop, List.all, andThen, str]
  refine tr_seq (tr_awp (live := [true, false, true, true, true, true, true, false, true, true, true, true, false, true, false, true, false, false, false, false, false, false, true, false, false, false, false, false, false, false, false, false, false, false, false, true, true, false, false, false, false, false, false, false, false, false, false, false, false, false, false, false, false, false, false, false, true]) (ctxV_ok eqOk hG hM hV) mixed _ _ _ ?_)
  simp [List.range, List.range.loop, ints, intss, int, bool, row, frac, fracs, ← List.map_take, ← List.map_drop, List.all, andThen, str, hcp]
  refine tr_seq (tr_awp (live := [true, false, true, true, true, true, true, false, true, true, true, true, false, true, false, true, false, false, false, false, false, false, true, false, false, false, false, false, false, false, false, false, false, false, false, true, true, false, false, false, false, false, false, false, false, false, false, false, false, false, false, false, false, false, false, false, true]) (ctxV_ok eqOk hG hM hV) mixed _ _ _ ?_)
  simp [List.range, List.range.loop, ints, intss, int, bool, row, frac, fracs, ← List.map_take, ← List.map_drop, List.all, andThen, str]
  refine tr_seq (tr_seqRange (live := [true, false, true, true, true, true, true, false, true, true, true, true, false, true, false, true, false, false, false, false, false, false, true, false, false, false, false, false, false, false, false, false, false, false, false, true, true, false, false, false, false, false, false, false, false, false, false, false, false, false, false, false, false, false, false, false, true]) (lv := [true, false, true, true, false, false, false, false, true]) (S0 := [str t, .junk, .ptr 0 [] 0 0, .ptr 1 [] 0 0, .junk, .junk, .junk, .junk, .ptr 2 [] 0 0, .junk, .junk, .junk, .junk, .junk, .junk, .junk, .junk, .junk, .junk, .junk, .junk, .junk, .junk, .junk, .junk, .junk, .junk, .junk, .junk, .junk, .junk, .junk, .junk, .junk, .junk, .junk, .junk, .junk, .junk, .junk, .junk, .junk, .junk, .junk, .junk, .junk, .junk, .junk, .junk, .junk, .junk, .junk, .junk, .junk, .junk, .junk, .junk, .junk, .junk, .junk, .junk, .junk, .junk, .junk, .junk, .junk, .junk, .junk, .junk, .junk, .junk, .junk, .junk, .junk])
    (I := fun k => [⟨true, .sl false 2 [.agg [.v (.int .i64 0), .sl true 1 []]]⟩, ⟨true, .sl false 1 [bool false]⟩, ⟨true, .sl false 2 [ppR s (vs.take k)]⟩]) [0, 2, 3, 8]
    (ctxV_ok eqOk hG hM hV) mixed rfl rfl rfl (pre := [_]) rfl rfl rfl rfl (by simp [List.range, List.range.loop, ints, intss, int, bool, row, frac, fracs, ← List.map_take, ← List.map_drop]; rfl) rfl (by simp [List.range, List.range.loop, ints, intss, int, bool, row, frac, fracs, ← List.map_take, ← List.map_drop, str]) hseq ?_ rfl (by simp) (by simp) (by decide) (chkS_all rfl) ?_ ⟨by kernel_rfl, by kernel_rfl⟩ (fun _ => True) trivial ?_ ?_)
  · refine (le_clean [true, false, true, true, false, false, false, false, true]).trans (le_sub ?_)
    simp [sub, slotsLe, clean, keep, refsL, refs, once, place, renL, ren, List.replicate, int, bool, ppR_nil, str]
  · exact fun _ _ => deep3
  · intro k x hx _ pin l US w1
    rw [List.getElem?_map, Option.map_eq_some_iff] at hx
    obtain ⟨r0, hr0, rfl⟩ := hx
    rw [List.getElem?_map, Option.map_eq_some_iff] at hr0
    obtain ⟨v, hv, rfl⟩ := hr0
    obtain ⟨hk, hvk⟩ := List.getElem?_eq_some_iff.1 hv
    have hvt : vtB s v = true := by have := hall v (hvk ▸ List.getElem_mem hk); simp [vtB, inR]; exact this
    obtain ⟨z1, z2, z3⟩ := vtS_size hvt
    obtain ⟨w1', w2', w3'⟩ := vt_of hvt
    have m1 := mScut_at (vtS v) 42 (by omega)
    rw [vt_cut hvt] at m1
    have m2 := mPI_at (itoaS v.2) (by omega)
    rw [pI_of w2'] at m2
    obtain ⟨p1, p2, p3⟩ := prk_frk w1'
    have m3 := mPrk_at (frkS v.1.2) (by omega)
    unfold prkAV at m3
    rw [if_pos p2, p1] at m3
    have hk24 : ¬ ((k : Int) = 24) := by omega
    have hln : (vs.take k).length = k := by simp; omega
    have hst : ppR s (vs.take (k + 1)) = .agg [.v (.int .i64 s), .sl false 2 ((vs.take k).map vote ++ [.agg [.sl false 1 (v.1.2.map int), .v (.int .i64 v.2)]])] := by
      rw [List.take_succ_eq_append_getElem hk, hvk, ppR_ne (by simp), List.map_append]
      simp [vote, hfl v (hvk ▸ List.getElem_mem hk)]
    have hbb : k + 1 ≤ 4611686018427387904 ∧ (k + 1) * 32 ≤ 140737488355328 := by omega
    simp only [cutAV] at m1
    generalize vtS v = u at *
    simp [List.range, List.range.loop, ints, intss, int, bool, row, frac, fracs, ← List.map_take, ← List.map_drop]
    simp only [asgP_normal]
    intro US' w1''
    by_cases hk0 : k = 0
    · subst hk0
      simp at hst
      simp [List.range, List.range.loop, ints, intss, int, bool, row, frac, fracs, ← List.map_take, ← List.map_drop, List.all, str, m1, m2, m3, rngP, andThen, inBlock, ppR_nil, hst, w3']
      done
    · have hz : ppR s (vs.take k) = .agg [.v (.int .i64 s), .sl false 2 ((vs.take k).map vote)] := ppR_ne (by intro e; rw [e] at hln; simp at hln; omega)
      simp [List.range, List.range.loop, ints, intss, int, bool, row, frac, fracs, ← List.map_take, ← List.map_drop, List.all, str, m1, m2, m3, rngP, andThen, inBlock, hz, hst, hln, hk24, hbb, w3']
      done
  · simp only [List.length_map, andThen, List.take_length]
    intro _
    refine tr_awp (live := [true, false, true, true, true, true, true, false, true, true, true, true, false, true, false, true, false, false, false, false, false, false, true, false, false, false, false, false, false, false, false, false, false, false, false, true, true, false, false, false, false, false, false, false, false, false, false, false, false, false, false, false, false, false, false, false, true]) (ctxV_ok eqOk hG hM hV) mixed _ _ _ ?_
    rw [ppR_ne hne]
    simp [List.range, List.range.loop, ints, intss, int, bool, row, frac, fracs, ← List.map_take, ← List.map_drop, List.all, prof, str, hmv]
    done
end Go.Proofs.YtkfmhpgnhkdebaaGreatDoor.Ax
namespace Go.Proofs.YtkfmhpgnhkdebaaGreatDoor.Ax
open Go Go.RowKit
set_option linter.unusedSimpArgs false
def mkPrf (by' : List Int) (n m : Nat) : List Vt := prD by' (crB by' n) m
def prE (by' : List Int) (s : Int × Int) (m : Nat) : Int × Int := if nvD by' s = 0 then crN by' s m else crN by' s (1 + nvD by' s * m)
set_option maxRecDepth 8000 in
set_option maxHeartbeats 2000000 in
theorem makeProfile_call {nl : Bool} {by' : List Int} (hlen : by'.length ≤ 1048576) (n m : Nat) (hn : n ≤ 1000) (h1 : 1 ≤ m) (h5 : m ≤ 5) : CallOk Tryz.prog 13 [byts nl by', int n, int m] (prof m false (mkPrf by' n m)) := by
  have hnew := l32New_new (nl := nl) hlen n hn
  have hok : CrOk by' (crB by' n) := crN_ok (cr0_ok hlen) n
  have hP : mkPrf by' n m = if nvD by' (crB by' n) = 0 then [((false, rkD by' (crN by' (crB by' n) 1) m (m - 1)), 1)] else vsD by' (crB by' n) m (nvD by' (crB by' n)) := rfl
  rw [hP]
  clear hP
  generalize crB by' n = S at *
  have hcur := l04Draw_cur (nl := nl) hok h1 h5
  have hrk := l03Draw_cur (nl := nl) (crN_ok hok 1) h1 h5
  obtain ⟨q1, _, _⟩ := rkD_ok (by' := by') (s := crN by' S 1) (m := m) (t := m - 1) (by omega)
  have hE : prE by' S m = if nvD by' S = 0 then crN by' S m else crN by' S (1 + nvD by' S * m) := rfl
  rw [crN_add, show 1 + (m - 1) = m by omega] at hrk
  have hG : FnsOk Tryz.prog [] := .nil
  refine callOk_of_new (s1 := prE by' S m) Tryz.func13 rfl (by kernel_rfl) (new_fn (dt := [(5, ⟨[(0, 6), (1, 6)], [0, 0, 0, 0, 1, 0, 1, 2], []⟩)]) (st0 := ⟨[byts nl by', int (n : Int), int (m : Int), .junk, .junk, .junk, .ptr 0 [] 0 0, .junk, .junk, .junk, .junk, .junk, .junk, .junk, .junk, .junk, .junk, .junk, .junk, .junk, .junk, .junk, .junk, .junk, .junk, .junk, .junk, .junk, .junk, .junk, .junk, .junk], [⟨true, .sl false 2 [.agg [.v (.int .i64 0), .sl true 1 []]]⟩]⟩) (ctx_ok eqOk hG) Tryz.func13 rfl (by kernel_rfl) rfl (by simp [Tryz.f13, List.range, List.range.loop, ints, intss, int, bool, row, frac, fracs, ← List.map_take, ← List.map_drop]) (pre := [_, _]) rfl rfl rfl (by rfl) (by rfl) (by rfl) (by rfl) hnew fun w F0 B0 code b hbytes hF0 hbF => ?_)
  simp [Tryz.f13, List.range, List.range.loop, ints, intss, int, bool, row, frac, fracs, ← List.map_take, ← List.map_drop, byts]
  refine tyo_ops 1 (ctx_ok eqOk hG) curJ_stable (by simp) ?_
  simp [List.range, List.range.loop, ints, intss, int, bool, row, frac, fracs, ← List.map_take, ← List.map_drop]
  refine tyo_end (by simp) ?_
  simp only [thenY_normal]
  have hmx : max 1 (min (m : Int) 5) = m := by omega
  refine ty_seq (ty_awp (ctx_ok eqOk hG) mixed curJ_stable (live := [true, true, true, false, false, false, true, true, true, false, false, false, false, false, false, false, false, false, false, false, false, true]) fun X A w1 => ?_)
  simp [List.range, List.range.loop, ints, intss, int, bool, row, frac, fracs, ← List.map_take, ← List.map_drop, thenY_normal, hmx]
  refine ty_seq (ty_reg (tyo_ops 2 (ctx_ok eqOk hG) curJ_stable (by simp) ?_))
  simp [List.range, List.range.loop, ints, intss, int, bool, row, frac, fracs, ← List.map_take, ← List.map_drop]
  refine tyo_cur hbytes hF0 hbF hcur rfl rfl rfl (by rfl) (by rfl) (by rfl) ?_
  have hvl := vsD_len (by' := by') (s := S) (m := m) (n := nvD by' S)
  generalize hn0 : nvD by' S = k at *
  generalize vsD by' S m k = V at *
  generalize rkD by' (crN by' S 1) m (m - 1) = R at *
  rw [hE]
  cases V with
  | nil =>
    obtain rfl : k = 0 := by simpa using hvl.symm
    simp [List.range, List.range.loop, ints, intss, int, bool, row, frac, fracs, ← List.map_take, ← List.map_drop, pvR_nil]
    refine tyo_ops 2 (ctx_ok eqOk hG) curJ_stable (by simp) ?_
    simp [List.range, List.range.loop, ints, intss, int, bool, row, frac, fracs, ← List.map_take, ← List.map_drop]
    refine tyo_end (by simp) ?_
    simp only [thenY_normal]
    refine ty_seq (ty_seq (ty_awp (ctx_ok eqOk hG) mixed curJ_stable (live := [true, true, true, false, false, false, true, true, true, false, false, false, false, false, false, false, false, false, false, false, false, true]) fun X A w1 => ?_))
    simp [List.range, List.range.loop, ints, intss, int, bool, row, frac, fracs, ← List.map_take, ← List.map_drop, thenY_normal]
    refine ty_cond (t := true) (by simp [ev]) (fun _ => ?_) (fun h => by cases h)
    refine ty_drawCur (ctx_ok eqOk hG) mixed hbytes hF0 hbF hrk (c := 4) rfl rfl rfl (fun _ => rfl) (by kernel_rfl) ?_
    simp [List.range, List.range.loop, ints, intss, int, bool, row, frac, fracs, ← List.map_take, ← List.map_drop, curCtx, curM_at, q1]
    simp only [thenY_normal]
    refine ty_awp (ctx_ok eqOk hG) mixed curJ_stable (live := [true, true, true, false, false, false, true, true, true, false, false, false, false, false, false, false, false, false, false, false, false, true]) fun X A w1 => ?_
    simp [List.range, List.range.loop, ints, intss, int, bool, row, frac, fracs, ← List.map_take, ← List.map_drop, thenY_ret, prof, vote]
  | cons v V =>
    have hk0 : ¬ k = 0 := by simp at hvl; omega
    rw [if_neg hk0]
    simp [List.range, List.range.loop, ints, intss, int, bool, row, frac, fracs, ← List.map_take, ← List.map_drop, pvR_cons]
    refine tyo_ops 2 (ctx_ok eqOk hG) curJ_stable (by simp) ?_
    simp [List.range, List.range.loop, ints, intss, int, bool, row, frac, fracs, ← List.map_take, ← List.map_drop]
    refine tyo_end (by simp) ?_
    simp only [thenY_normal]
    refine ty_awp (ctx_ok eqOk hG) mixed curJ_stable (live := [true, true, true, false, false, false, true, true, true, false, false, false, false, false, false, false, false, false, false, false, false, true]) fun X A w1 => ?_
    simp [List.range, List.range.loop, ints, intss, int, bool, row, frac, fracs, ← List.map_take, ← List.map_drop, thenY_ret, prof, hk0]
noncomputable def mMkPrf : List AV → Option AV := mk (fun p => p.2.1.length ≤ 1048576 ∧ p.2.2.1 ≤ 1000 ∧ 1 ≤ p.2.2.2 ∧ p.2.2.2 ≤ 5) (fun (p : Bool × List Int × Nat × Nat) => [byts p.1 p.2.1, int (p.2.2.1 : Int), int (p.2.2.2 : Int)]) (fun p => prof p.2.2.2 false (mkPrf p.2.1 p.2.2.1 p.2.2.2))
theorem mMkPrf_at (nl : Bool) (by' : List Int) (n m : Nat) (h : by'.length ≤ 1048576 ∧ n ≤ 1000 ∧ 1 ≤ m ∧ m ≤ 5) : mMkPrf [.sl nl 1 (by'.map bAV), .v (.int .i64 (n : Int)), .v (.int .i64 (m : Int))] = some (.agg [.v (.int .i64 (m : Int)), .sl false 2 ((mkPrf by' n m).map vote)]) :=
  mk_eq (enc := fun (p : Bool × List Int × Nat × Nat) => [byts p.1 p.2.1, int (p.2.2.1 : Int), int (p.2.2.2 : Int)]) (x := (nl, by', n, m)) (by
    rintro ⟨a, b, c, d⟩ ⟨a', b', c', d'⟩ h
    simp [byts, int, map_bAV_inj] at h
    obtain ⟨⟨rfl, rfl⟩, h1, h2⟩ := h
    simp only
    rw [show c = c' by omega, show d = d' by omega]) h
theorem makeProfile_ok : FnOk Tryz.prog 13 mMkPrf := by
  refine mk_ok fun ⟨nl, by', n, m⟩ ⟨h1, h2, h3, h4⟩ => ?_
  exact makeProfile_call h1 n m h2 h3 h4
end Go.Proofs.YtkfmhpgnhkdebaaGreatDoor.Ax
namespace Go.Proofs.YtkfmhpgnhkdebaaGreatDoor.Ax
open Go Go.RowKit
set_option linter.unusedSimpArgs false
theorem eq_at {α : Type} {a b : List α} (hl : a.length = b.length) (h : ∀ k (hk : k < a.length), a[k] = b[k]'(by omega)) : a = b := List.ext_getElem hl fun i h1 _ => h i h1
noncomputable def mSame : List AV → Option AV := mk (fun _ => True) (fun (p : (Bool) × (List Int) × (Bool) × (List Int)) => [ints p.1 p.2.1, ints p.2.2.1 p.2.2.2]) (fun p => bool (decide (p.2.1 = p.2.2.2)))
theorem mSame_at (nl : Bool) (a : List Int) (nl2 : Bool) (b : List Int) : mSame [.sl nl 1 (a.map int), .sl nl2 1 (b.map int)] = some (.v (.bool (decide (a = b)))) :=
  mk_eq (enc := fun (p : (Bool) × (List Int) × (Bool) × (List Int)) => [ints p.1 p.2.1, ints p.2.2.1 p.2.2.2]) (x := (nl, a, nl2, b)) (by rintro ⟨a0, a1, a2, a3⟩ ⟨b0, b1, b2, b3⟩ h; simp [ints, intss, int, bool, row, frac, fracs, map_int_inj, map_row_inj, frac_inj, map_frac_inj] at h; simp [h]) trivial
theorem same_ok : FnOk Tryz.prog 35 mSame := by
  refine mk_ok fun ⟨nl, a, nl2, b⟩ _ => ?_
  have hG : FnsOk Tryz.prog [] := .nil
  refine callOk_awp (ctx_ok eqOk hG) mixed (live := [true, true, false, false, true, true, true, false, false, false, false, true, true, true, true, true, false, false, false, false, false, false, false, false, true]) (dt := []) Tryz.func35 rfl (by kernel_rfl) (by kernel_rfl) fun w0 hlens => ?_
  generalize hr : decide (a = b) = r
  have hbl := (lens_ints.1 hlens.2.1).1
  clear hlens
  by_cases hl : a.length = b.length
  rotate_left
  · have hli : ¬ (a.length : Int) = (b.length : Int) := by omega
    have hrf : r = false := by rw [← hr]; simp; intro h; exact hl (by rw [h])
    subst hrf
    simp [Tryz.f35, List.range, List.range.loop, ints, intss, int, bool, row, frac, fracs, ← List.map_take, ← List.map_drop, hl, hli]
  have hli : (a.length : Int) = (b.length : Int) := by omega
  simp [Tryz.f35, List.range, List.range.loop, ints, intss, int, bool, row, frac, fracs, ← List.map_take, ← List.map_drop, hl, hli]
  refine awp_range (live := [true, true, false, false, true, true, true, false, false, false, false, true, true, true, true, true, false, false, false, false, false, false, false, false, true]) (ctx_ok eqOk hG) mixed [false, true, false, false, false, false, false, false, false, false, false, false, true, true, true] (b.length) (fun k => ∀ i (h : i < a.length), i < k → a[i] = b[i]'(by omega)) (fun k => ⟨[.junk, ints nl2 b, .junk, .junk, .junk, .junk, .junk, .junk, .junk, .junk, .junk, .junk, ints nl a, int b.length, int k, .junk, .junk, .junk, .junk, .junk, .junk, .junk, .junk, .junk, .junk, .junk], []⟩) ?_ (by simp [sub, slotsLe, clean, keep, refsL, refs, once, place, renL, ren, List.replicate, int, bool, ints, hl]) ?_ ?_ ?_
  · omega
  · intro i h hi; omega
  · intro k hk hp hwk
    have hka : k < a.length := by omega
    by_cases he : a[k] = b[k]
    · have hp' : ∀ i (h : i < a.length), i < k + 1 → a[i] = b[i]'(by omega) := fun i h hi => by
        by_cases e : i = k
        · subst e; exact he
        · exact hp i h (by omega)
      simp [List.range, List.range.loop, ints, intss, int, bool, row, frac, fracs, ← List.map_take, ← List.map_drop, hk, hka, hwk, he]
      exact hp'
    · have hrf : r = false := by rw [← hr]; simp; intro h; subst h; exact he rfl
      subst hrf
      simp [List.range, List.range.loop, ints, intss, int, bool, row, frac, fracs, ← List.map_take, ← List.map_drop, hk, hka, hwk, he]
  · intro hp
    have hrt : r = true := by rw [← hr]; simp; exact eq_at hl fun k hk => hp k hk (by omega)
    subst hrt
    simp [List.range, List.range.loop, ints, intss, int, bool, row, frac, fracs, ← List.map_take, ← List.map_drop]
noncomputable def mTbls : List AV → Option AV := mk (fun _ => True) (fun (p : (Bool) × (List (Bool × List Int)) × (Bool) × (List (Bool × List Int))) => [intss p.1 p.2.1, intss p.2.2.1 p.2.2.2]) (fun p => bool (decide (p.2.1.map (·.2) = p.2.2.2.map (·.2))))
theorem mTbls_at (nl : Bool) (a : List (Bool × List Int)) (nl2 : Bool) (b : List (Bool × List Int)) : mTbls [.sl nl 1 (a.map row), .sl nl2 1 (b.map row)] = some (.v (.bool (decide (a.map (·.2) = b.map (·.2))))) :=
  mk_eq (enc := fun (p : (Bool) × (List (Bool × List Int)) × (Bool) × (List (Bool × List Int))) => [intss p.1 p.2.1, intss p.2.2.1 p.2.2.2]) (x := (nl, a, nl2, b)) (by rintro ⟨a0, a1, a2, a3⟩ ⟨b0, b1, b2, b3⟩ h; simp [ints, intss, int, bool, row, frac, fracs, map_int_inj, map_row_inj, frac_inj, map_frac_inj] at h; simp [h]) trivial
theorem tables_ok : FnOk Tryz.prog 51 mTbls := by
  refine mk_ok fun ⟨nl, a, nl2, b⟩ _ => ?_
  simp only
  have hG : FnsOk Tryz.prog [(35, mSame)] := (.cons same_ok .nil)
  refine callOk_awp (ctx_ok eqOk hG) mixed (live := [true, true, false, false, true, true, true, false, false, false, false, true, true, true, true, true, false, false, false, false, false, false, false, false, false, true]) (dt := []) Tryz.func51 rfl (by kernel_rfl) (by kernel_rfl) fun w0 hlens => ?_
  generalize hr : decide (a.map (·.2) = b.map (·.2)) = r
  have hbl := (lens_intss.1 hlens.2.1).1
  clear hlens
  by_cases hl : a.length = b.length
  rotate_left
  · have hli : ¬ (a.length : Int) = (b.length : Int) := by omega
    have hrf : r = false := by rw [← hr]; simp; intro h; exact hl (by have := congrArg List.length h; simpa using this)
    subst hrf
    simp [Tryz.f51, List.range, List.range.loop, ints, intss, int, bool, row, frac, fracs, ← List.map_take, ← List.map_drop, hl, hli]
  have hli : (a.length : Int) = (b.length : Int) := by omega
  simp [Tryz.f51, List.range, List.range.loop, ints, intss, int, bool, row, frac, fracs, ← List.map_take, ← List.map_drop, hl, hli]
  refine awp_range (live := [true, true, false, false, true, true, true, false, false, false, false, true, true, true, true, true, false, false, false, false, false, false, false, false, false, true]) (ctx_ok eqOk hG) mixed [false, true, false, false, false, false, false, false, false, false, false, false, true, true, true] (b.length) (fun k => ∀ i (h : i < a.length), i < k → a[i].2 = (b[i]'(by omega)).2) (fun k => ⟨[.junk, intss nl2 b, .junk, .junk, .junk, .junk, .junk, .junk, .junk, .junk, .junk, .junk, intss nl a, int b.length, int k, .junk, .junk, .junk, .junk, .junk, .junk, .junk, .junk, .junk, .junk, .junk, .junk], []⟩) ?_ (by simp [sub, slotsLe, clean, keep, refsL, refs, once, place, renL, ren, List.replicate, int, bool, intss, hl]) ?_ ?_ ?_
  · omega
  · intro i h hi; omega
  · intro k hk hp hwk
    have hka : k < a.length := by omega
    have hm := mSame_at a[k].1 a[k].2 b[k].1 b[k].2
    by_cases he : a[k].2 = b[k].2
    · have hp' : ∀ i (h : i < a.length), i < k + 1 → a[i].2 = (b[i]'(by omega)).2 := fun i h hi => by
        by_cases e : i = k
        · subst e; exact he
        · exact hp i h (by omega)
      rw [decide_eq_true he] at hm
      simp [List.range, List.range.loop, ints, intss, int, bool, row, frac, fracs, ← List.map_take, ← List.map_drop, row, hk, hka, hwk, hm]
      exact hp'
    · have hrf : r = false := by
        rw [← hr]; simp; intro h
        have := congrArg (fun l : List (List Int) => l[k]?) h
        simp [hk, hka] at this
        exact he this
      subst hrf
      rw [decide_eq_false he] at hm
      simp [List.range, List.range.loop, ints, intss, int, bool, row, frac, fracs, ← List.map_take, ← List.map_drop, row, hk, hka, hwk, hm]
  · intro hp
    have hrt : r = true := by
      rw [← hr]; simp
      apply List.ext_getElem
      · simpa using hl
      · intro i h1 h2
        have hi : i < a.length := by simpa using h1
        simpa using hp i hi (by omega)
    subst hrt
    simp [List.range, List.range.loop, ints, intss, int, bool, row, frac, fracs, ← List.map_take, ← List.map_drop]
end Go.Proofs.YtkfmhpgnhkdebaaGreatDoor.Ax
