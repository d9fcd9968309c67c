/-
  Contracts: ParseTable (the reference's). No condition.
-/
import Derived.Test.YtblnpjppckfmfaaDoorCG215
namespace Go.Proofs.YtblnpjppckfmfaaDoor.Ax
open Go Go.RowKit
set_option linter.unusedSimpArgs false

/-- A word of a table: whether it is a list of numbers, and which. -/
noncomputable def pnK (s : ByteArray) : Bool := decide (s = ⟨#[45]⟩) || pnOk (splitS s 44)
noncomputable def prw (b : Bool) (s : ByteArray) : Bool × List Int := if s = ⟨#[45]⟩ then (b, []) else (false, pnL (splitS s 44))
theorem pnR_eq {b : Bool} {s : ByteArray} : pnR b s = if pnK s = true then .tup [.sl (prw b s).1 1 ((prw b s).2.map int), .v (.bool true)] else .tup [.sl true 1 [], .v (.bool false)] := by
  unfold pnR pnK prw
  by_cases h : s = ⟨#[45]⟩
  · simp [h]
  · simp [h]
theorem prw_false {s : ByteArray} : (prw false s).1 = false := by unfold prw; split <;> rfl
theorem pnL_20 {W : List ByteArray} (h : pnOk W = true) : (pnL W).length ≤ 20 := by
  unfold pnOk at h
  rw [Bool.and_eq_true] at h
  simp [pnL]; simpa using h.2

noncomputable def ptOk (W : List ByteArray) : Bool := W.all pnK && decide (W.length ≤ 20)
noncomputable def ptL (b : Bool) (W : List ByteArray) : List (Bool × List Int) := W.map (prw b)
noncomputable def ptR (b : Bool) (s : ByteArray) : AV := if s = ⟨#[61]⟩ then .tup [.sl b 1 [], .v (.bool true)] else if ptOk (splitS s 59) = true then .tup [.sl false 1 ((ptL b (splitS s 59)).map row), .v (.bool true)] else .tup [.sl true 1 [], .v (.bool false)]
noncomputable def mPT (b : Bool) : List AV → Option AV := mk (fun s => s.size ≤ 2097152) (fun (s : ByteArray) => [str s]) (fun s => ptR b s)
theorem mPT_at (b : Bool) (s : ByteArray) (h : s.size ≤ 2097152) : mPT b [.v (.string s)] = some (ptR b s) :=
  mk_eq (enc := fun (s : ByteArray) => [str s]) (x := s) (fun a b h => by rw [str_inj h]) h

theorem pt_no {W : List ByteArray} {k : Nat} (h : k < W.length) (hf : pnK W[k] = false) : ptOk W = false := by
  unfold ptOk
  have : W.all pnK = false := List.all_eq_false.2 ⟨W[k], List.getElem_mem h, by simp [hf]⟩
  rw [this]; rfl
theorem pt_many {W : List ByteArray} (h : 20 < W.length) : ptOk W = false := by
  unfold ptOk
  simp; intro _; exact h
theorem pt_step {W : List ByteArray} {k : Nat} (h : k < W.length) (hp : (W.take k).all pnK = true) (ht : pnK W[k] = true) : (W.take (k + 1)).all pnK = true := by
  rw [List.take_succ_eq_append_getElem h, List.all_append, hp]; simp [ht]
theorem ptL_step {b : Bool} {W : List ByteArray} {k : Nat} (h : k < W.length) : ptL b (W.take (k + 1)) = ptL b (W.take k) ++ [prw b W[k]] := by
  unfold ptL
  rw [List.take_succ_eq_append_getElem h, List.map_append]; rfl
theorem ptL_len {b : Bool} {W : List ByteArray} {k : Nat} (h : k ≤ W.length) : (ptL b (W.take k)).length = k := by
  unfold ptL; rw [List.length_map, List.length_take]; omega
set_option maxHeartbeats 2000000 in
theorem specPT_ok : FnOk Tryd.prog 11 (mPT false) := by
  refine mk_ok fun s hs => ?_
  have hG : FnsOk Tryd.prog [(6, (mPN false))] := (.cons specPN_ok .nil)
  have hM : FnsMut Tryd.prog [] := .nil
  have hV : FnsMov Tryd.prog [] := .nil
  have hK : FnsFrz Tryd.prog [(20, false, mSpl)] := (.cons (FnOk.frz specSpl_ok) .nil)
  refine callOk_awp (ctxH_ok eqOk hG hM hV hK) mixed (live := [true, false, true, true, true, false, true, true, true, false, false, true, false, false, true, true, true, true, false, false, false, false, false, false, false, false, false, false, false, false, false, true]) (dt := []) Tryd.func11 rfl (by kernel_rfl) (by kernel_rfl) fun w0 hlens => ?_
  clear hlens
  by_cases h45 : s = ⟨#[61]⟩
  · subst h45
    simp [Tryd.f11, List.range, List.range.loop, ints, intss, int, bool, row, frac, fracs, ← List.map_take, ← List.map_drop, List.all, str, ptR]
  have hne : ¬ s.toList = [61] := by
    have := tl_ne h45
    simpa using this
  have hsp := mSpl_at s 59 hs
  obtain ⟨l1, l2⟩ := splitS_facts (s := s) (c := 59)
  have hr0 : ptR false s = if ptOk (splitS s 59) = true then .tup [.sl false 1 ((ptL false (splitS s 59)).map row), .v (.bool true)] else .tup [.sl true 1 [], .v (.bool false)] := by unfold ptR; rw [if_neg h45]
  rw [hr0]
  generalize splitS s 59 = W at *
  have z0 : ptL false (W.take 0) = [] := rfl
  have z1 : ptL false [] = [] := rfl
  simp [Tryd.f11, List.range, List.range.loop, ints, intss, int, bool, row, frac, fracs, ← List.map_take, ← List.map_drop, List.all, str, h45, hne, hsp]
  refine awp_range (live := [true, false, true, true, true, false, true, true, true, false, false, true, false, false, true, true, true, true, false, false, false, false, false, false, false, false, false, false, false, false, false, true]) (ctxH_ok eqOk hG hM hV hK) mixed [false, false, false, false, true, false, false, false, false, false, false, false, false, false, true, true, true] (W.length) (fun k => (W.take k).all pnK = true ∧ k ≤ 20) (fun k => ⟨[.junk, .junk, .junk, .junk, .ref 0 [] 0 k, .junk, .junk, .junk, .junk, .junk, .junk, .junk, .junk, .junk, .sl false 1 (W.map str), int W.length, int k, .junk, .junk, .junk, .junk, .junk, .junk, .junk, .junk, .junk, .junk, .junk, .junk, .junk, .junk, .junk, .junk, .junk, .junk, .junk, .junk, .junk], [⟨true, .sl false 1 ((ptL false (W.take k)).map row)⟩]⟩) ?_ (by simp [sub, slotsLe, clean, keep, refsL, refs, once, place, renL, ren, List.replicate, int, bool, str, z0, z1, row]) ?_ ?_ ?_
  · omega
  · simp
  · intro k hk hp hwk
    have hm := mPN_at false W[k] (by have := l2 _ (List.getElem_mem hk); omega)
    rw [pnR_eq, prw_false] at hm
    have hln := ptL_len (b := false) (W := W) (k := k) (by omega)
    have hst := ptL_step (b := false) hk
    cases hb : pnK W[k] with
    | false =>
      have hf := pt_no hk hb
      rw [hb] at hm
      simp at hm
      simp [List.range, List.range.loop, ints, intss, int, bool, row, frac, fracs, ← List.map_take, ← List.map_drop, List.all, str, hk, hwk, hm, hf]
    | true =>
      rw [hb] at hm
      simp at hm
      by_cases h20 : k = 20
      · have hf := pt_many (W := W) (by omega)
        subst h20
        have hki : (20 : Int) < (W.length : Int) := by omega
        simp [List.range, List.range.loop, ints, intss, int, bool, row, frac, fracs, ← List.map_take, ← List.map_drop, List.all, str, row, hk, hki, hwk, hm, hf, hln]
      · have hps := pt_step hk hp.1 hb
        have h20i : ¬ ((k : Int) = 20) := by omega
        have h20j : k + 1 ≤ 20 := by omega
        have hbb : k + 1 ≤ 4611686018427387904 ∧ (k + 1) * 24 ≤ 140737488355328 := by omega
        have hpw : prw false W[k] = (false, (prw false W[k]).2) := Prod.ext prw_false rfl
        rw [hst, hpw]
        generalize (prw false W[k]).2 = R at *
        generalize ptL false (W.take k) = A at *
        simp [List.range, List.range.loop, ints, intss, int, bool, row, frac, fracs, ← List.map_take, ← List.map_drop, List.all, str, row, hk, hwk, hm, hln, h20i, h20, hbb, hps, h20j]
  · intro hp
    have ht : W.take W.length = W := List.take_of_length_le (Nat.le_refl _)
    rw [ht] at hp
    have hok : ptOk W = true := by unfold ptOk; rw [hp.1]; simp; exact hp.2
    have hln : (ptL false W).length = W.length := by simp [ptL]
    simp only [ht]
    simp [List.range, List.range.loop, ints, intss, int, bool, row, frac, fracs, ← List.map_take, ← List.map_drop, List.all, str, row, hok, hln]

end Go.Proofs.YtblnpjppckfmfaaDoor.Ax
