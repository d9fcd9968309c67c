/-
  Contract: ParseNumbers (the program's). No condition.
-/
import Derived.Test.YtblnpjppckfmfaaDoorCG220
namespace Go.Proofs.YtblnpjppckfmfaaDoor.Ax
open Go Go.RowKit
set_option linter.unusedSimpArgs false

/-- The numbers so far, as they lie in memory. -/
def outN : List Int → AV
  | [] => .sl true 1 []
  | n :: l => .sl false 1 ((n :: l).map int)
theorem outN_ne {l : List Int} (h : l ≠ []) : outN l = .sl false 1 (l.map int) := by cases l with | nil => exact (h rfl).elim | cons _ _ => rfl

theorem deep3 {a b c : AV} (t : Nat) (tk : Tok) (h : ([⟨true, a⟩, ⟨true, b⟩, ⟨true, c⟩] : List Tok)[t]? = some tk) : tk.row = .junk ∨ tk.deep = true := by
  match t with
  | 0 => simp at h; subst h; exact .inr rfl
  | 1 => simp at h; subst h; exact .inr rfl
  | 2 => simp at h; subst h; exact .inr rfl
  | t + 3 => simp at h

set_option maxHeartbeats 2000000 in
theorem implPN_ok : FnOk Tryd.prog 7 (mPN true) := by
  refine mk_ok fun s hs => ?_
  have hG : FnsOk Tryd.prog [(23, mPI)] := (.cons implPI_ok .nil)
  refine callOk_of_tr (C := _) (ctx_ok eqOk hG) (dt := []) Tryd.func7 rfl (by kernel_rfl) (by kernel_rfl) fun w0 => ?_
  have hR0 : pnR true s = if s = ⟨#[45]⟩ then .tup [.sl true 1 [], .v (.bool true)] else if pnOk (splitS s 44) = true then .tup [.sl false 1 ((pnL (splitS s 44)).map int), .v (.bool true)] else .tup [.sl true 1 [], .v (.bool false)] := rfl
  refine tr_seq (tr_awp (live := [true, false, true, true, true, true, true, true, false, true, false, true, true, false, false, false, false, false, false, false, false, false, false, false, true]) (ctx_ok eqOk hG) mixed _ _ _ ?_)
  by_cases h45 : s = ⟨#[45]⟩
  · subst h45
    simp [Tryd.f7, List.range, List.range.loop, ints, intss, int, bool, row, frac, fracs, ← List.map_take, ← List.map_drop, andThen, str]
    refine tr_seq (tr_awp (live := [true, false, true, true, true, true, true, true, false, true, false, true, true, false, false, false, false, false, false, false, false, false, false, false, true]) (ctx_ok eqOk hG) mixed _ _ _ ?_)
    simp [List.range, List.range.loop, ints, intss, int, bool, row, frac, fracs, ← List.map_take, ← List.map_drop, andThen, str, hR0]
    done
  have hne : ¬ s.toList = [45] := by
    have := tl_ne h45
    simpa using this
  simp [Tryd.f7, List.range, List.range.loop, ints, intss, int, bool, row, frac, fracs, ← List.map_take, ← List.map_drop, andThen, str]
  refine tr_seq (tr_awp (live := [true, false, true, true, true, true, true, true, false, true, false, true, true, false, false, false, false, false, false, false, false, false, false, false, true]) (ctx_ok eqOk hG) mixed _ _ _ ?_)
  simp [List.range, List.range.loop, ints, intss, int, bool, row, frac, fracs, ← List.map_take, ← List.map_drop, andThen, str, hne, h45]
  refine tr_seq (tr_awp (live := [true, false, true, true, true, true, true, true, false, true, false, true, true, false, false, false, false, false, false, false, false, false, false, false, true]) (ctx_ok eqOk hG) mixed _ _ _ ?_)
  simp [List.range, List.range.loop, ints, intss, int, bool, row, frac, fracs, ← List.map_take, ← List.map_drop, andThen, str, hne, h45]
  rw [hR0, if_neg h45]
  obtain ⟨l1, l2⟩ := splitS_facts (s := s) (c := 44)
  have hseq := splitSeqP_ok (s := s) (c := 44) (by omega)
  have hw : splitS s 44 ≠ [] := by unfold splitS; simp
  generalize splitS s 44 = W at *
  refine tr_seq (tr_seqRange (live := [true, false, true, true, true, true, true, true, false, true, false, true, true, false, false, false, false, false, false, false, false, false, false, false, true]) (lv := [false, false, true, true, true]) (S0 := [.junk, .junk, .ptr 0 [] 0 0, .ptr 1 [] 0 0, .ptr 2 [] 0 0, .junk, .junk, .junk, .junk, .junk, .junk, .junk, .junk, .junk, .junk, .junk, .junk, .junk, .junk, .junk, .junk, .junk, .junk, .junk, .junk, .junk, .junk, .junk, .junk, .junk])
    (I := fun k => [⟨true, .sl false 1 [.sl true 1 []]⟩, ⟨true, .sl false 1 [bool false]⟩, ⟨true, .sl false 1 [outN (pnL (W.take k))]⟩]) [2, 3, 4]
    (ctx_ok eqOk hG) mixed rfl rfl rfl (pre := [_]) rfl rfl rfl rfl (by simp [List.range, List.range.loop, ints, intss, int, bool, row, frac, fracs, ← List.map_take, ← List.map_drop]; rfl) rfl (by simp [List.range, List.range.loop, ints, intss, int, bool, row, frac, fracs, ← List.map_take, ← List.map_drop, str]) hseq ?_ rfl (by simp) (by simp) (by decide) (chkS_all rfl) ?_ ⟨by kernel_rfl, by kernel_rfl⟩ (fun k => (W.take k).all (fun x => (pI x).2) = true ∧ k ≤ 20) (by simp) ?_ ?_)
  · refine (le_clean [false, false, true, true, true]).trans (le_sub ?_)
    simp [sub, slotsLe, clean, keep, refsL, refs, once, place, renL, ren, List.replicate, int, bool, outN, pnL]
  · exact fun _ _ => deep3
  · intro k x hx hpk pin l US w1
    rw [List.getElem?_map, Option.map_eq_some_iff] at hx
    obtain ⟨r0, hr0, rfl⟩ := hx
    obtain ⟨hk, hr0'⟩ := List.getElem?_eq_some_iff.1 hr0
    have hkl : k < W.length := hk
    have hm := mPI_at r0 (by have := l2 r0 (hr0' ▸ List.getElem_mem hk); omega)
    have hln := pnL_len (W := W) (k := k) (by omega)
    have hst := pnL_step hk
    rw [hr0'] at hst
    simp [List.range, List.range.loop, ints, intss, int, bool, row, frac, fracs, ← List.map_take, ← List.map_drop]
    simp only [asgP_normal]
    intro US' w1'
    cases hb : (pI r0).2 with
    | false =>
      have hf := pn_no hk (by rw [hr0']; exact hb)
      rw [hb] at hm
      simp [List.range, List.range.loop, ints, intss, int, bool, row, frac, fracs, ← List.map_take, ← List.map_drop, str, hm, hf, rngP, andThen, inBlock]
      exact deep3
    | true =>
      rw [hb] at hm
      by_cases h20 : k = 20
      · have hf := pn_many (W := W) (by omega)
        subst h20
        have hnz : outN (pnL (W.take 20)) = .sl false 1 ((pnL (W.take 20)).map int) := outN_ne (by intro h; rw [h] at hln; simp at hln)
        rw [hnz]
        simp [List.range, List.range.loop, ints, intss, int, bool, row, frac, fracs, ← List.map_take, ← List.map_drop, str, hm, hf, rngP, andThen, inBlock, hln]
        exact deep3
      · have h20i : ¬ ((k : Int) = 20) := by omega
        have hps := pn_step hk hpk.1 (by rw [hr0']; exact hb)
        have h20j : k + 1 ≤ 20 := by omega
        have hbb : k + 1 ≤ 4611686018427387904 ∧ (k + 1) * 8 ≤ 140737488355328 := by omega
        have hz' : outN (pnL (W.take (k + 1))) = .sl false 1 ((pnL (W.take k)).map int ++ [.v (.int .i64 (pI r0).1)]) := by rw [hst, outN_ne (by simp)]; simp [int]
        by_cases hk0 : k = 0
        · subst hk0
          have hz0 : pnL [] = [] := rfl
          have hn : outN [] = .sl true 1 [] := rfl
          simp [hz0] at hz'
          simp at hps
          simp [List.range, List.range.loop, ints, intss, int, bool, row, frac, fracs, ← List.map_take, ← List.map_drop, str, hm, rngP, andThen, inBlock, hz', hz0, hn]
          simpa using hps
        · have hz : outN (pnL (W.take k)) = .sl false 1 ((pnL (W.take k)).map int) := outN_ne (by intro h; rw [h] at hln; simp at hln; omega)
          simp [List.range, List.range.loop, ints, intss, int, bool, row, frac, fracs, ← List.map_take, ← List.map_drop, str, hm, rngP, andThen, inBlock, hz', hz, hln, h20i, hbb, h20j]
          simpa using hps
  · simp only [List.length_map, andThen, List.take_length]
    intro hpp
    have hz : outN (pnL W) = .sl false 1 ((pnL W).map int) := outN_ne (by intro h; simp [pnL] at h; exact hw h)
    refine tr_awp (live := [true, false, true, true, true, true, true, true, false, true, false, true, true, false, false, false, false, false, false, false, false, false, false, false, true]) (ctx_ok eqOk hG) mixed _ _ _ ?_
    have hok : pnOk W = true := by unfold pnOk; rw [hpp.1]; simp; exact hpp.2
    simp [List.range, List.range.loop, ints, intss, int, bool, row, frac, fracs, ← List.map_take, ← List.map_drop, hz, hok]
    done

end Go.Proofs.YtblnpjppckfmfaaDoor.Ax
