/-
  Contracts: ParseNumbers (the reference's). No condition.
-/
import Derived.Test.YtblnpjppckfmfaaDoorCG213
namespace Go.Proofs.YtblnpjppckfmfaaDoor.Ax
open Go Go.RowKit
set_option linter.unusedSimpArgs false

/-- Whether the words are numerals, no more than 20. -/
noncomputable def pnOk (W : List ByteArray) : Bool := W.all (fun x => (pI x).2) && decide (W.length ≤ 20)
noncomputable def pnL (W : List ByteArray) : List Int := W.map fun x => (pI x).1
/-- What ParseNumbers answers; 'b': whether the empty list is nil. -/
noncomputable def pnR (b : Bool) (s : ByteArray) : AV := if s = ⟨#[45]⟩ then .tup [.sl b 1 [], .v (.bool true)] else if pnOk (splitS s 44) = true then .tup [.sl false 1 ((pnL (splitS s 44)).map int), .v (.bool true)] else .tup [.sl true 1 [], .v (.bool false)]
noncomputable def mPN (b : Bool) : List AV → Option AV := mk (fun s => s.size ≤ 2097152) (fun (s : ByteArray) => [str s]) (fun s => pnR b s)
theorem mPN_at (b : Bool) (s : ByteArray) (h : s.size ≤ 2097152) : mPN b [.v (.string s)] = some (pnR b s) :=
  mk_eq (enc := fun (s : ByteArray) => [str s]) (x := s) (fun a b h => by rw [str_inj h]) h

theorem pn_no {W : List ByteArray} {k : Nat} (h : k < W.length) (hf : (pI W[k]).2 = false) : pnOk W = false := by
  unfold pnOk
  have : W.all (fun x => (pI x).2) = false := List.all_eq_false.2 ⟨W[k], List.getElem_mem h, by simp [hf]⟩
  rw [this]; rfl
theorem pn_many {W : List ByteArray} (h : 20 < W.length) : pnOk W = false := by
  unfold pnOk
  simp; intro _; exact h
theorem pn_step {W : List ByteArray} {k : Nat} (h : k < W.length) (hp : (W.take k).all (fun x => (pI x).2) = true) (ht : (pI W[k]).2 = true) : (W.take (k + 1)).all (fun x => (pI x).2) = true := by
  rw [List.take_succ_eq_append_getElem h, List.all_append, hp]; simp [ht]
theorem pnL_step {W : List ByteArray} {k : Nat} (h : k < W.length) : pnL (W.take (k + 1)) = pnL (W.take k) ++ [(pI W[k]).1] := by
  unfold pnL
  rw [List.take_succ_eq_append_getElem h, List.map_append]; rfl
theorem pnL_len {W : List ByteArray} {k : Nat} (h : k ≤ W.length) : (pnL (W.take k)).length = k := by
  unfold pnL; rw [List.length_map, List.length_take]; omega

set_option maxHeartbeats 2000000 in
theorem specPN_ok : FnOk Tryd.prog 6 (mPN false) := by
  refine mk_ok fun s hs => ?_
  have hG : FnsOk Tryd.prog [(21, mPI)] := (.cons specPI_ok .nil)
  have hM : FnsMut Tryd.prog [] := .nil
  have hV : FnsMov Tryd.prog [] := .nil
  have hK : FnsFrz Tryd.prog [(20, false, mSpl)] := (.cons (FnOk.frz specSpl_ok) .nil)
  refine callOk_awp (ctxH_ok eqOk hG hM hV hK) mixed (live := [true, false, true, true, true, false, true, true, true, false, false, true, false, false, true, true, true, true, false, false, false, false, false, false, false, false, false, false, false, false, false, true]) (dt := []) Tryd.func6 rfl (by kernel_rfl) (by kernel_rfl) fun w0 hlens => ?_
  clear hlens
  by_cases h45 : s = ⟨#[45]⟩
  · subst h45
    simp [Tryd.f6, List.range, List.range.loop, ints, intss, int, bool, row, frac, fracs, ← List.map_take, ← List.map_drop, List.all, str, pnR]
  have hne : ¬ s.toList = [45] := by
    have := tl_ne h45
    simpa using this
  have hsp := mSpl_at s 44 hs
  obtain ⟨l1, l2⟩ := splitS_facts (s := s) (c := 44)
  have hr0 : pnR false s = if pnOk (splitS s 44) = true then .tup [.sl false 1 ((pnL (splitS s 44)).map int), .v (.bool true)] else .tup [.sl true 1 [], .v (.bool false)] := by unfold pnR; rw [if_neg h45]
  rw [hr0]
  generalize splitS s 44 = W at *
  have z0 : pnL (W.take 0) = [] := rfl
  simp [Tryd.f6, List.range, List.range.loop, ints, intss, int, bool, row, frac, fracs, ← List.map_take, ← List.map_drop, List.all, str, h45, hne, hsp]
  refine awp_range (live := [true, false, true, true, true, false, true, true, true, false, false, true, false, false, true, true, true, true, false, false, false, false, false, false, false, false, false, false, false, false, false, true]) (ctxH_ok eqOk hG hM hV hK) mixed [false, false, false, false, true, false, false, false, false, false, false, false, false, false, true, true, true] (W.length) (fun k => (W.take k).all (fun x => (pI x).2) = true ∧ k ≤ 20) (fun k => ⟨[.junk, .junk, .junk, .junk, .ref 0 [] 0 k, .junk, .junk, .junk, .junk, .junk, .junk, .junk, .junk, .junk, .sl false 1 (W.map str), int W.length, int k, .junk, .junk, .junk, .junk, .junk, .junk, .junk, .junk, .junk, .junk, .junk, .junk, .junk, .junk, .junk, .junk, .junk, .junk, .junk, .junk, .junk], [⟨true, .sl false 1 ((pnL (W.take k)).map int)⟩]⟩) ?_ (by simp [sub, slotsLe, clean, keep, refsL, refs, once, place, renL, ren, List.replicate, int, bool, str, z0, pnL]) ?_ ?_ ?_
  · omega
  · simp
  · intro k hk hp hwk
    have hm := mPI_at W[k] (by have := l2 _ (List.getElem_mem hk); omega)
    have hln := pnL_len (W := W) (k := k) (by omega)
    have hst := pnL_step hk
    cases hb : (pI W[k]).2 with
    | false =>
      have hf := pn_no hk hb
      rw [hb] at hm
      simp [List.range, List.range.loop, ints, intss, int, bool, row, frac, fracs, ← List.map_take, ← List.map_drop, List.all, str, hk, hwk, hm, hf]
    | true =>
      rw [hb] at hm
      by_cases h20 : k = 20
      · have hf := pn_many (W := W) (by omega)
        subst h20
        have hki : (20 : Int) < (W.length : Int) := by omega
        simp [hki, List.range, List.range.loop, ints, intss, int, bool, row, frac, fracs, ← List.map_take, ← List.map_drop, List.all, str, hk, hwk, hm, hf, hln]
      · have hps := pn_step hk hp.1 hb
        have h20i : ¬ ((k : Int) = 20) := by omega
        have h20j : k + 1 ≤ 20 := by omega
        have hbb : k + 1 ≤ 4611686018427387904 ∧ (k + 1) * 8 ≤ 140737488355328 := by omega
        rw [hst]
        generalize pnL (W.take k) = A at *
        simp [List.range, List.range.loop, ints, intss, int, bool, row, frac, fracs, ← List.map_take, ← List.map_drop, List.all, str, hk, hwk, hm, hln, h20i, h20, hbb, hps, h20j]
  · intro hp
    have ht : W.take W.length = W := List.take_of_length_le (Nat.le_refl _)
    rw [ht] at hp
    have hok : pnOk W = true := by unfold pnOk; rw [hp.1]; simp; exact hp.2
    have hln : (pnL W).length = W.length := by simp [pnL]
    simp only [ht]
    simp [List.range, List.range.loop, ints, intss, int, bool, row, frac, fracs, ← List.map_take, ← List.map_drop, List.all, str, hok, hln]

end Go.Proofs.YtblnpjppckfmfaaDoor.Ax
