/-
  Contract: ParseTable (the program's). No condition.
-/
import Derived.Test.YtblnpjppckfmfaaDoorCG221
namespace Go.Proofs.YtblnpjppckfmfaaDoor.Ax
open Go Go.RowKit
set_option linter.unusedSimpArgs false

/-- The rows so far, as they lie in memory. -/
def outT : List (Bool × List Int) → AV
  | [] => .sl true 1 []
  | x :: l => .sl false 1 ((x :: l).map row)
theorem outT_ne {l : List (Bool × List Int)} (h : l ≠ []) : outT l = .sl false 1 (l.map row) := by cases l with | nil => exact (h rfl).elim | cons _ _ => rfl

set_option maxHeartbeats 4000000 in
theorem implPT_ok : FnOk Tryd.prog 12 (mPT true) := by
  refine mk_ok fun s hs => ?_
  have hG : FnsOk Tryd.prog [(7, (mPN true))] := (.cons implPN_ok .nil)
  refine callOk_of_tr (C := _) (ctx_ok eqOk hG) (dt := []) Tryd.func12 rfl (by kernel_rfl) (by kernel_rfl) fun w0 => ?_
  have hR0 : ptR true s = if s = ⟨#[61]⟩ then .tup [.sl true 1 [], .v (.bool true)] else if ptOk (splitS s 59) = true then .tup [.sl false 1 ((ptL true (splitS s 59)).map row), .v (.bool true)] else .tup [.sl true 1 [], .v (.bool false)] := rfl
  refine tr_seq (tr_awp (live := [true, false, true, true, true, true, true, true, false, true, false, true, true, false, false, false, false, false, false, false, false, false, false, false, true]) (ctx_ok eqOk hG) mixed _ _ _ ?_)
  by_cases h45 : s = ⟨#[61]⟩
  · subst h45
    simp [Tryd.f12, List.range, List.range.loop, ints, intss, int, bool, row, frac, fracs, ← List.map_take, ← List.map_drop, andThen, str]
    refine tr_seq (tr_awp (live := [true, false, true, true, true, true, true, true, false, true, false, true, true, false, false, false, false, false, false, false, false, false, false, false, true]) (ctx_ok eqOk hG) mixed _ _ _ ?_)
    simp [List.range, List.range.loop, ints, intss, int, bool, row, frac, fracs, ← List.map_take, ← List.map_drop, andThen, str, hR0]
    done
  have hne : ¬ s.toList = [61] := by
    have := tl_ne h45
    simpa using this
  simp [Tryd.f12, List.range, List.range.loop, ints, intss, int, bool, row, frac, fracs, ← List.map_take, ← List.map_drop, andThen, str]
  refine tr_seq (tr_awp (live := [true, false, true, true, true, true, true, true, false, true, false, true, true, false, false, false, false, false, false, false, false, false, false, false, true]) (ctx_ok eqOk hG) mixed _ _ _ ?_)
  simp [List.range, List.range.loop, ints, intss, int, bool, row, frac, fracs, ← List.map_take, ← List.map_drop, andThen, str, hne, h45]
  refine tr_seq (tr_awp (live := [true, false, true, true, true, true, true, true, false, true, false, true, true, false, false, false, false, false, false, false, false, false, false, false, true]) (ctx_ok eqOk hG) mixed _ _ _ ?_)
  simp [List.range, List.range.loop, ints, intss, int, bool, row, frac, fracs, ← List.map_take, ← List.map_drop, andThen, str, hne, h45]
  rw [hR0, if_neg h45]
  obtain ⟨l1, l2⟩ := splitS_facts (s := s) (c := 59)
  have hseq := splitSeqP_ok (s := s) (c := 59) (by omega)
  have hw : splitS s 59 ≠ [] := by unfold splitS; simp
  generalize splitS s 59 = W at *
  refine tr_seq (tr_seqRange (live := [true, false, true, true, true, true, true, true, false, true, false, true, true, false, false, false, false, false, false, false, false, false, false, false, true]) (lv := [false, false, true, true, true]) (S0 := [.junk, .junk, .ptr 0 [] 0 0, .ptr 1 [] 0 0, .ptr 2 [] 0 0, .junk, .junk, .junk, .junk, .junk, .junk, .junk, .junk, .junk, .junk, .junk, .junk, .junk, .junk, .junk, .junk, .junk, .junk, .junk, .junk, .junk, .junk, .junk, .junk, .junk])
    (I := fun k => [⟨true, .sl false 1 [.sl true 1 []]⟩, ⟨true, .sl false 1 [bool false]⟩, ⟨true, .sl false 1 [outT (ptL true (W.take k))]⟩]) [2, 3, 4]
    (ctx_ok eqOk hG) mixed rfl rfl rfl (pre := [_]) rfl rfl rfl rfl (by simp [List.range, List.range.loop, ints, intss, int, bool, row, frac, fracs, ← List.map_take, ← List.map_drop]; rfl) rfl (by simp [List.range, List.range.loop, ints, intss, int, bool, row, frac, fracs, ← List.map_take, ← List.map_drop, str]) hseq ?_ rfl (by simp) (by simp) (by decide) (chkS_all rfl) ?_ ⟨by kernel_rfl, by kernel_rfl⟩ (fun k => (W.take k).all pnK = true ∧ k ≤ 20) (by simp) ?_ ?_)
  · refine (le_clean [false, false, true, true, true]).trans (le_sub ?_)
    simp [sub, slotsLe, clean, keep, refsL, refs, once, place, renL, ren, List.replicate, int, bool, outT, ptL]
  · exact fun _ _ => deep3
  · intro k x hx hpk pin l US w1
    rw [List.getElem?_map, Option.map_eq_some_iff] at hx
    obtain ⟨r0, hr0, rfl⟩ := hx
    obtain ⟨hk, hr0'⟩ := List.getElem?_eq_some_iff.1 hr0
    have hkl : k < W.length := hk
    have hm := mPN_at true r0 (by have := l2 r0 (hr0' ▸ List.getElem_mem hk); omega)
    rw [pnR_eq] at hm
    have hln := ptL_len (b := true) (W := W) (k := k) (by omega)
    have hst := ptL_step (b := true) hk
    rw [hr0'] at hst
    simp [List.range, List.range.loop, ints, intss, int, bool, row, frac, fracs, ← List.map_take, ← List.map_drop]
    simp only [asgP_normal]
    intro US' w1'
    cases hb : pnK r0 with
    | false =>
      have hf := pt_no hk (by rw [hr0']; exact hb)
      rw [hb] at hm
      simp at hm
      simp [List.range, List.range.loop, ints, intss, int, bool, row, frac, fracs, ← List.map_take, ← List.map_drop, str, hm, hf, rngP, andThen, inBlock]
      exact deep3
    | true =>
      rw [hb] at hm
      simp at hm
      by_cases h20 : k = 20
      · have hf := pt_many (W := W) (by omega)
        subst h20
        have hnz : outT (ptL true (W.take 20)) = .sl false 1 ((ptL true (W.take 20)).map row) := outT_ne (by intro h; rw [h] at hln; simp at hln)
        rw [hnz]
        have hq : (prw true r0).1 = true ∧ (prw true r0).2 = [] ∨ (prw true r0).1 = false := by unfold prw; split <;> simp
        generalize prw true r0 = q at hm hq
        obtain ⟨nl, xs⟩ := q
        simp only at hq
        rcases hq with ⟨rfl, rfl⟩ | rfl
        · simp at hm
          simp [List.range, List.range.loop, ints, intss, int, bool, row, frac, fracs, ← List.map_take, ← List.map_drop, str, hm, hf, rngP, andThen, inBlock, hln]
          exact deep3
        · simp at hm
          simp [List.range, List.range.loop, ints, intss, int, bool, row, frac, fracs, ← List.map_take, ← List.map_drop, str, hm, hf, rngP, andThen, inBlock, hln]
          exact deep3
      · have h20i : ¬ ((k : Int) = 20) := by omega
        have hps := pt_step hk hpk.1 (by rw [hr0']; exact hb)
        have h20j : k + 1 ≤ 20 := by omega
        have hbb : k + 1 ≤ 4611686018427387904 ∧ (k + 1) * 24 ≤ 140737488355328 := by omega
        have hz' : outT (ptL true (W.take (k + 1))) = .sl false 1 ((ptL true (W.take k)).map row ++ [row (prw true r0)]) := by rw [hst, outT_ne (by simp)]; simp
        have hq : (prw true r0).1 = true ∧ (prw true r0).2 = [] ∨ (prw true r0).1 = false := by unfold prw; split <;> simp
        generalize prw true r0 = q at hm hz' hst hq
        obtain ⟨nl, xs⟩ := q
        simp only at hq
        by_cases hk0 : k = 0
        · subst hk0
          have hz0 : ptL true [] = [] := rfl
          have hn : outT [] = .sl true 1 [] := rfl
          simp [hz0, row] at hz'
          simp at hps
          rcases hq with ⟨rfl, rfl⟩ | rfl
          · simp at hm hz'
            simp [List.range, List.range.loop, ints, intss, int, bool, row, frac, fracs, ← List.map_take, ← List.map_drop, str, hm, rngP, andThen, inBlock, hz', hz0, hn]
            simpa using hps
          · simp at hm hz'
            simp [List.range, List.range.loop, ints, intss, int, bool, row, frac, fracs, ← List.map_take, ← List.map_drop, str, hm, rngP, andThen, inBlock, hz', hz0, hn]
            simpa using hps
        · have hz : outT (ptL true (W.take k)) = .sl false 1 ((ptL true (W.take k)).map row) := outT_ne (by intro h; rw [h] at hln; simp at hln; omega)
          rcases hq with ⟨rfl, rfl⟩ | rfl
          · simp [row] at hm hz'
            simp [List.range, List.range.loop, ints, intss, int, bool, row, frac, fracs, ← List.map_take, ← List.map_drop, str, hm, rngP, andThen, inBlock, hz', hz, hln, h20i, hbb, h20j]
            simpa using hps
          · simp [row] at hm hz'
            simp [List.range, List.range.loop, ints, intss, int, bool, row, frac, fracs, ← List.map_take, ← List.map_drop, str, hm, rngP, andThen, inBlock, hz', hz, hln, h20i, hbb, h20j]
            simpa using hps
  · simp only [List.length_map, andThen, List.take_length]
    intro hpp
    have hz : outT (ptL true W) = .sl false 1 ((ptL true W).map row) := outT_ne (by intro h; simp [ptL] at h; exact hw h)
    refine tr_awp (live := [true, false, true, true, true, true, true, true, false, true, false, true, true, false, false, false, false, false, false, false, false, false, false, false, true]) (ctx_ok eqOk hG) mixed _ _ _ ?_
    have hok : ptOk W = true := by unfold ptOk; rw [hpp.1]; simp; exact hpp.2
    simp [List.range, List.range.loop, ints, intss, int, bool, row, frac, fracs, ← List.map_take, ← List.map_drop, hz, hok]
    done

end Go.Proofs.YtblnpjppckfmfaaDoor.Ax
