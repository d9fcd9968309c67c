/-
  A region of operations, in the order of the text. No condition.
-/
import Derived.Test.YtehfjhenilkofaaAxLit
namespace Go.Proofs.Ytehfjhenilkofaa.Ax
open Go Go.RowKit
section
variable {P : Program} {C : Ctx} {o : Oper} {a : Act} {w : World} {U : Ld} {w0 : World} {st : ASt} {E : Env}

theorem aop_ok (hC : C.Ok P) (hs : SR U w0 st E a w) {out : Out} (h : aop C o.op st.slots st.toks = some out) : Goes P o a w U w0 out := by
  generalize hop : o.op = op at h
  cases op with
  | move x => simp only [aop, Option.some.injEq] at h; subst h; exact goes_move hs (.inl hop)
  | assign x => simp only [aop, Option.some.injEq] at h; subst h; exact goes_move hs (.inr hop)
  | pick c x y => exact goes_pick hs hop h
  | alloc t => exact goes_alloc hC hs hop h
  | box t x => exact goes_box hs hop h
  | load t x => exact goes_load hC hs hop h
  | store t ad x => exact goes_store hC hs hop (goes_storeP hC hs hop) h
  | binOp op t x y t' => exact goes_binOp hC hs hop h
  | fieldAddr t x f => exact goes_fieldAddr hC hs hop h
  | extract x i => exact goes_extract hs hop h
  | buildSlice t len parts => exact goes_buildSlice hC hs hop h
  | slice t x lo hi mx => exact goes_slice hC hs hop h
  | makeSlice t l c => exact goes_makeSlice hC hs hop h
  | build t parts => exact goes_build hC hs hop h
  | unOp op t x => exact goes_unOp hs hop h
  | makeFunc f first captured =>
    cases f with
    | func f => exact goes_makeFunc hs hop h
    | _ => simp [aop] at h
  | indexAddr t x ix => exact goes_indexAddr hC hs hop h
  | call c =>
    obtain ⟨callee, args, ts⟩ := c
    cases callee with
    | value f => exact goes_call hC hs hop h
    | builtin b =>
      cases b with
      | len =>
        simp only [aop] at h
        split at h
        · rename_i x t hx ht
          split at h
          · rename_i ti hti
            split at h
            · rename_i el hd
              simp only [Option.map_eq_some_iff] at h
              obtain ⟨n, hn, rfl⟩ := h
              have hu := (hC.T t ti hti).desc
              rw [hd] at hu
              have ha : args = #[x] := by cases args; simp_all
              have hts : ts = #[t] := by cases ts; simp_all
              subst ha
              exact goes_len hs hop hts hu hn
            · simp at h
          · simp at h
        · simp at h
      | append => exact goes_append hC hs hop h
      | max =>
        simp only [aop] at h
        split at h
        · rename_i x y hx
          split at h
          · rename_i k m k' n hm hn
            simp only [Option.some.injEq] at h; subst h
            have ha : args = #[x, y] := by cases args; simp_all
            subst ha
            exact goes_max hs hop hm hn
          · simp at h
        · simp at h
      | min =>
        simp only [aop] at h
        split at h
        · rename_i x y hx
          split at h
          · rename_i k m k' n hm hn
            simp only [Option.some.injEq] at h; subst h
            have ha : args = #[x, y] := by cases args; simp_all
            subst ha
            exact goes_min hs hop hm hn
          · simp at h
        · simp at h
      | _ => simp [aop] at h
    | _ => simp [aop] at h
  | _ => simp [aop] at h

theorem wanted_ok {ops : Array Oper} (hs : SR U w0 st E a w) {b : Bool} (h : guardOk ops.toList st.slots o = some b) : Region.wanted o (yielded ops a.tmps) = b := by
  unfold guardOk at h
  unfold Region.wanted
  split at h
  · simp at h; simp_all
  · rename_i j want hg
    rw [hg]
    simp only []
    split at h
    · rename_i o' ho'
      split at h
      · rename_i d hd
        split at h
        · rename_i c hc
          simp only [Option.some.injEq] at h
          have ho'' : ops[j]? = some o' := by simpa using ho'
          have hlt : d < st.slots.length := by
            rcases Nat.lt_or_ge d st.slots.length with h | h
            · exact h
            · rw [List.getD_eq_getElem?_getD, List.getElem?_eq_none h] at hc; simp at hc
          have hsl : st.slots[d]? = some (.v (.bool c)) := by
            rw [List.getD_eq_getElem?_getD, List.getElem?_eq_getElem hlt] at hc
            rw [List.getElem?_eq_getElem hlt]; simpa using hc
          have := hs.slot d _ hsl
          simp only [SRep] at this
          have hlt' : d < a.tmps.size := by rw [hs.size]; exact hlt
          have ht : a.tmps[d]? = some (.bool c) := by
            rw [Array.getD_eq_getD_getElem?, Array.getElem?_eq_getElem hlt'] at this
            rw [Array.getElem?_eq_getElem hlt']; simpa using this.1
          have hy : yielded ops a.tmps j = some c := by simp [yielded, ho'', hd, ht]
          rw [hy, ← h]; simp
        · rename_i vs hc
          simp only [Option.some.injEq] at h
          have ho'' : ops[j]? = some o' := by simpa using ho'
          have hlt : d < st.slots.length := by
            rcases Nat.lt_or_ge d st.slots.length with h | h
            · exact h
            · rw [List.getD_eq_getElem?_getD, List.getElem?_eq_none h] at hc; simp at hc
          have hsl : st.slots[d]? = some (.tup vs) := by
            rw [List.getD_eq_getElem?_getD, List.getElem?_eq_getElem hlt] at hc
            rw [List.getElem?_eq_getElem hlt]; simpa using hc
          have := hs.slot d _ hsl
          simp only [SRep] at this
          obtain ⟨ys, this, _⟩ := this
          have hlt' : d < a.tmps.size := by rw [hs.size]; exact hlt
          have ht : a.tmps[d]? = some (.tuple ys) := by
            rw [Array.getD_eq_getD_getElem?, Array.getElem?_eq_getElem hlt'] at this
            rw [Array.getElem?_eq_getElem hlt']; simpa using this
          have hy : yielded ops a.tmps j = none := by simp [yielded, ho'', hd, ht]
          rw [hy, ← h]; simp
        · simp at h
      · simp at h
    · simp at h

/-- One operation of a region. -/
theorem rstep_ok (hC : C.Ok P) {ops : Array Oper} {i : Nat} (hi : ops[i]? = some o) (hd : ∀ e, o.dst = some e → e ∉ U.idx) (hs : SR U w0 st E a w) {st' : ASt} (h : rstep C ops.toList o st = some st') {K : Act → World → Prop} {Q : Exit → Act → World → Prop}
    (hn : ∀ E' a' w', SR U w0 st' E' a' w' → K a' w') : wpOp P ops Q i K a w := by
  unfold rstep at h
  unfold wpOp
  simp only [hi]
  split at h
  · rename_i g hg
    rw [wanted_ok hs hg]
    cases g with
    | true =>
      simp only [if_true] at h ⊢
      simp only [Option.map_eq_some_iff] at h
      obtain ⟨r, hr, rfl⟩ := h
      exact .inl (aop_ok hC hs hr hd K Q hn)
    | false =>
      simp only [Bool.false_eq_true, if_false] at h ⊢
      simp only [Option.some.injEq] at h
      subst h
      exact hn E _ _ (SR.put (slots := st.slots) (toks := st.toks) hs o.dst hd (x := .tup []) (y := undef) (by simp [SRep, SRepL, undef]))
  · simp at h

theorem rrun_ok (hC : C.Ok P) {ops : Array Oper} (hds : ∀ (j : Nat) (oj : Oper), ops[j]? = some oj → ∀ e, oj.dst = some e → e ∉ U.idx) {Q : Exit → Act → World → Prop} {fin : ASt} (hQ : ∀ E' a' w', SR U w0 fin E' a' w' → Q .normal a' w') : ∀ (l : List Oper) (k : Nat) (st : ASt) (E : Env) (a : Act) (w : World), (∀ j, l[j]? = ops[k + j]?) →
    SR U w0 st E a w → rrun C ops.toList l st = some fin → wpOps P ops Q (List.range' k l.length) a w
  | [], _, st, E, a, w, _, hs, h => by
    simp only [rrun, Option.some.injEq] at h
    subst h
    simpa [wpOps] using hQ E a w hs
  | o :: l, k, st, E, a, w, hl, hs, h => by
    simp only [rrun] at h
    split at h
    · rename_i st' hst
      have hi : ops[k]? = some o := by have := hl 0; simp at this; exact this.symm
      simp only [List.length_cons, List.range'_succ]
      rw [wpOps_cons]
      refine rstep_ok hC hi (hds k o hi) hs hst fun E' a' w' hs' => ?_
      exact rrun_ok hC hds hQ l (k + 1) st' E' a' w' (fun j => by have := hl (j + 1); simp at this; rw [this]; congr 1; omega) hs' h
    · simp at h

end
end Go.Proofs.Ytehfjhenilkofaa.Ax
