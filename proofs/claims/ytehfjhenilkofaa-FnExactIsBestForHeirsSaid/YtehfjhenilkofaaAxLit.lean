/-
  A slice that is written out. No condition.
-/
import Derived.Test.YtehfjhenilkofaaAxGrow2
import Derived.Great.BuildSlice
namespace Go.Proofs.Ytehfjhenilkofaa.Ax
open Go Go.RowKit

theorem OwnRow.of_list {w w' : World} {d : Bool} {F : Nat → Prop} {b sz : Nat} (hF : Agree F w w') : ∀ {S : Nat → Prop} {o : Nat} {es : List AV} {ys : List Value}, Agree S w w' → OwnL w d F S es ys →
    (∀ (i : Nat) (e : AV) (y : Value), es[i]? = some e → ys[i]? = some y → y.cells.size = sz ∧ e.cells.length = sz ∧ At w' b (o + i * sz) y.cells.toList) → OwnRow w' d F S b sz o es
  | _, _, [], _, _, _, _ => by simp [OwnRow]
  | S, o, e :: es, ys, hS, h, hc => by
    simp only [OwnL] at h
    obtain ⟨y, ys, S1, S2, rfl, a1, a2, a3, k1, k2⟩ := h
    simp only [OwnRow]
    obtain ⟨g1, g2, g3⟩ := hc 0 e y rfl rfl
    refine ⟨y, S1, S2, a1, a2, a3, Own.agree (fun _ h => h) hF (fun _ h => h) (hS.mono a1) _ _ k1, g1, g2, by simpa using g3, OwnRow.of_list hF (hS.mono a2) k2 fun i e' y' he hy => ?_⟩
    obtain ⟨c1, c2, c3⟩ := hc (i + 1) e' y' (by simpa using he) (by simpa using hy)
    refine ⟨c1, c2, ?_⟩
    rw [show o + sz + i * sz = o + (i + 1) * sz by rw [Nat.add_mul]; omega]; exact c3

theorem fill_rows {sz : Nat} : ∀ (ps : List (Nat × Value)) (k : Nat) (cs : Array Value), ps.map (·.1) = List.range' k ps.length → (∀ p ∈ ps, p.2.cells.size = sz) → (k + ps.length) * sz ≤ cs.size →
    ∃ cs', Instr.fill (fun i => some (i * sz, sz)) cs ps = some cs' ∧ cs'.size = cs.size ∧ (∀ (i : Nat) (p : Nat × Value), ps[i]? = some p → ∀ (j : Nat) (y : Value), p.2.cells.toList[j]? = some y → cs'[(k + i) * sz + j]? = some y) ∧ (∀ m, m < k * sz → cs'[m]? = cs[m]?)
  | [], k, cs, _, _, _ => ⟨cs, rfl, rfl, by simp, fun _ _ => rfl⟩
  | (i0, v) :: ps, k, cs, hi, hs, hfit => by
    simp only [List.map_cons, List.length_cons, List.range'_succ, List.cons.injEq] at hi
    obtain ⟨rfl, hi⟩ := hi
    have hv : v.cells.size = sz := hs (i0, v) (by simp)
    have hmul : (i0 + (ps.length + 1)) * sz = i0 * sz + (ps.length * sz + sz) := by rw [Nat.add_mul, Nat.add_mul]; omega
    simp only [List.length_cons] at hfit
    have hno : (v.cells.size ≠ sz || decide (i0 * sz + v.cells.size > cs.size)) = false := by simp [hv]; omega
    have hfold := foldl_put v.cells.toList 0 (i0 * sz) cs (by simp [hv]; omega)
    have harr : (v.cells.zipIdx.foldl (fun cs x => match x with | (c, j) => cs.setIfInBounds (i0 * sz + j) c) cs) = (v.cells.toList.zipIdx 0).foldl (fun cs p => cs.setIfInBounds (i0 * sz + p.2) p.1) cs := by
      rw [← Array.foldl_toList, Array.toList_zipIdx]
    generalize hcs1 : (v.cells.zipIdx.foldl (fun cs x => match x with | (c, j) => cs.setIfInBounds (i0 * sz + j) c) cs) = cs1 at harr
    rw [← harr] at hfold
    simp only [Nat.add_zero, Array.length_toList, hv] at hfold
    have hvl : v.cells.toList.length = sz := by simpa using hv
    have hsz1 : cs1.size = cs.size := by
      rw [← Array.length_toList, hfold]; simp [hv]; omega
    obtain ⟨cs', g1, g2, g3, g4⟩ := fill_rows ps (i0 + 1) cs1 hi (fun p hp => hs p (by simp [hp])) (by rw [hsz1]; rw [show i0 + 1 + ps.length = i0 + (ps.length + 1) by omega]; exact hfit)
    refine ⟨cs', ?_, by rw [g2, hsz1], fun i p hp j y hj => ?_, fun m hm => ?_⟩
    · simp only [Instr.fill, hno, Bool.false_eq_true, if_false, hcs1]
      exact g1
    · cases i with
      | zero =>
        simp at hp; subst hp
        simp only at hj
        have hjl : j < sz := by have := (List.getElem?_eq_some_iff.1 hj).1; omega
        rw [Nat.add_zero, g4 _ (by rw [Nat.add_mul]; omega), ← Array.getElem?_toList, hfold]
        rw [List.getElem?_append_left (by simp [hv]; omega), List.getElem?_append_right (by simp; omega)]
        have : i0 * sz + j - (cs.toList.take (i0 * sz)).length = j := by simp; omega
        rw [this]; exact hj
      | succ i =>
        have := g3 i p (by simpa using hp) j y hj
        rw [show i0 + (i + 1) = i0 + 1 + i by omega]; exact this
    · rw [g4 m (by rw [Nat.add_mul]; omega), ← Array.getElem?_toList, hfold]
      rw [List.append_assoc, List.getElem?_append_left (by simp; omega), List.getElem?_take, if_pos hm]
      simp

section
variable {P : Program} {C : Ctx} {o : Oper} {a : Act} {w : World} {U : Ld} {w0 : World} {st : ASt} {E : Env}

/-- A new row over what is handed in. -/
theorem lit_row (hs : SR U w0 st E a w) {t el : TypeId} {te : TI} {len : Nat} {parts : Array (Nat × Operand)} (ho : o.op = .buildSlice t len parts) (hu : P.underlying t = some (.slice el)) (hte : TOk P el te) (hpos : 0 < te.size) (hsmall : len * te.size ≤ 1000) (hidx : parts.toList.map (·.1) = List.range len)
    {st1 : List AV × List Tok} {E1 : Env} (hs1 : SR U w0 ⟨st1.1, st1.2⟩ E1 a w) (htl : st1.2.length = st.toks.length) (hF : E1.F = E.F) {S : Nat → Prop} (hS : ∀ b, S b → (w0.heap.size ≤ b ∨ U b) ∧ b < w.heap.size ∧ ¬ allB E1 b)
    {d : Bool} {vals : List AV} (hvl : vals.length = len) (hown : OwnL w d E.F S vals (parts.toList.map fun p => a.eval p.2)) (hsz : ∀ (i : Nat) (e : AV) (y : Value), vals[i]? = some e → (parts.toList.map fun p => a.eval p.2)[i]? = some y → y.cells.size = te.size ∧ e.cells.length = te.size) :
    Goes P o a w U w0 ⟨.ref st.toks.length [] 0 len, st1.1, st1.2 ++ [⟨d, .sl false te.size vals⟩]⟩ := by
  obtain ⟨i, hi, hi1, hi2, hi3⟩ := hte.info
  have hpl : parts.toList.length = len := by have := congrArg List.length hidx; simpa using this
  let ps : List (Nat × Value) := parts.toList.map fun p => (p.1, a.eval p.2)
  have hps : ps.length = len := by simp [ps, hpl]
  obtain ⟨cs', g1, g2, g3, _⟩ := fill_rows (sz := te.size) ps 0 ((Array.range (len * te.size)).map (te.zero.cells[· % te.zero.cells.size]!)) (by
      rw [hps, ← List.range_eq_range']; rw [← hidx]; simp [ps]) (fun p hp => by
      obtain ⟨i, hi⟩ := List.getElem?_of_mem hp
      have hil : i < len := by have := (List.getElem?_eq_some_iff.1 hi).1; omega
      have h1 : (parts.toList.map fun p => a.eval p.2)[i]? = some p.2 := by
        have := congrArg (Option.map (·.2)) hi
        simp only [ps, List.getElem?_map, Option.map_map] at this
        simpa [List.getElem?_map, Function.comp_def] using this
      exact (hsz i _ _ (List.getElem?_eq_getElem (by omega)) h1).1) (by simp [hps])
  have hcsz : cs'.size = len * te.size := by rw [g2]; simp
  have hrun : (execOp a.eval o).run P w = .ok (.value (.slice (some ⟨w.heap.size, 0, none⟩) len len)) (w.alloc (.cells cs' el)) := by
    have hmap : (parts.map fun x => match x with | (i, x) => (i, a.eval x)).toList = ps := by simp [ps]
    have hb : (Instr.buildSlice t len (parts.map fun x => match x with | (i, x) => (i, a.eval x))).run P w = .ok (.slice (some ⟨w.heap.size, 0, none⟩) len len) (w.alloc (.cells cs' el)) := by
      by_cases hz : len = 0
      · subst hz
        have hpn : ps = [] := List.eq_nil_of_length_eq_zero hps
        have hc : cs' = #[] := by apply Array.eq_empty_of_size_eq_zero; rw [hcsz]; simp
        subst hc
        have hpe : parts = #[] := by apply Array.eq_empty_of_size_eq_zero; simpa using hpl
        subst hpe
        have hr0 : Array.range 0 = #[] := rfl
        simp [Instr.buildSlice, run_underlying hu, sizeOf, typeInfo, hi, Instr.fill, newRow, hr0]
      · refine run_buildSlice w t el len _ cs' i te.zero hu hi hi3 (by rw [hi1]; omega) (by rw [hi1]; intro h; rcases Nat.mul_eq_zero.1 h with h | h <;> omega) ?_
        rw [hi1, hmap]; exact g1
    simp only [execOp, ho, Sem.run_bind, hb]
    rfl
  have hfr : Frm (fun _ => False) w (w.alloc (.cells cs' el)) := frm_alloc _
  have hself : (w.alloc (.cells cs' el)).heap[w.heap.size]? = some (.cells cs' el (0, 0)) := heap_alloc_self _
  have hg := hs1.grow hfr
  obtain ⟨E', e1, e2, e3, _, e5⟩ := hg.newTok ⟨d, .sl false te.size vals⟩ (.slice (some ⟨w.heap.size, 0, none⟩) len len) (fun b => S b ∨ b = w.heap.size)
    (fun b hb => by
      rcases hb with hb | rfl
      · have := hS b hb; exact ⟨this.1, Nat.lt_of_lt_of_le this.2.1 hfr.size, this.2.2⟩
      · exact ⟨.inl hs.frame.size, by simp, fun h => Nat.lt_irrefl _ (hs1.allLt _ h)⟩)
    (.inr ⟨_, _, _, rfl, ⟨_, len, len, rfl, hvl.symm, Nat.le_refl _, by simp only [maxLen]; have := Nat.le_mul_of_pos_right len hpos; omega, .inr ⟨w.heap.size, 0, cs', el, rfl, rfl, .inr rfl, hself, by omega, by
      have hrow : OwnRow (w.alloc (.cells cs' el)) d E.F S w.heap.size te.size 0 vals :=
        OwnRow.of_list (fun b hb => hfr.block b (hs.flt b hb) id) (fun b hb => hfr.block b (hS b hb).2.1 id) hown fun i e y he hy => by
          obtain ⟨c1, c2⟩ := hsz i e y he hy
          refine ⟨c1, c2, fun j v hj => ?_⟩
          have hpi : ∃ p, ps[i]? = some p ∧ p.2 = y := by
            simp only [List.getElem?_map, Option.map_eq_some_iff] at hy
            obtain ⟨q, hq, rfl⟩ := hy
            exact ⟨(q.1, a.eval q.2), by simp [ps, hq], rfl⟩
          obtain ⟨p, hp, rfl⟩ := hpi
          have := g3 i p hp j v hj
          simp only [World.cell?, hself, Option.isSome_none, Bool.false_eq_true, if_false, Nat.zero_add] at this ⊢
          exact this
      rw [hF]
      exact hrow.agree' fun b hb => ⟨.inl hb, fun e => by have := (hS b hb).2.1; omega⟩⟩⟩⟩)
  intro hd0 next Q hn
  refine wp_val (y := .slice (some ⟨w.heap.size, 0, none⟩) len len) (w' := w.alloc (.cells cs' el)) hrun (hn E' _ _ (SR.put e5 o.dst hd0 ?_))
  simp only [SRep]
  refine ⟨by simp [htl], fun tk nl' sz' es' k1 k2 k3 => ?_⟩
  rw [← htl] at k1
  simp at k1; subst k1
  simp only [getAt, AV.sl.injEq] at k2
  obtain ⟨rfl, rfl, rfl⟩ := k2
  exact ⟨_, by simp only [follow]; rw [← htl, e2], .inr (.inr ⟨w.heap.size, 0, len, len, 0, rfl, by simp, .inl (by omega)⟩)⟩

theorem evs_srep (hs : SR U w0 st E a w) : ∀ (l : List (Nat × Operand)), SRepL w E st.toks (l.map fun p => ev st.slots p.2) (l.map fun p => a.eval p.2)
  | [] => by simp [SRepL]
  | p :: l => by simp only [List.map_cons, SRepL]; exact ⟨_, _, rfl, hs.ev p.2, evs_srep hs l⟩

theorem goes_buildSlice (hC : C.Ok P) (hs : SR U w0 st E a w) {t : TypeId} {len : Nat} {parts : Array (Nat × Operand)} (ho : o.op = .buildSlice t len parts) {out : Out} (h : aop C (.buildSlice t len parts) st.slots st.toks = some out) : Goes P o a w U w0 out := by
  simp only [aop] at h
  split at h
  rotate_left
  · simp at h
  rename_i ti hti
  split at h
  rotate_left
  · simp at h
  rename_i el hd
  split at h
  rotate_left
  · simp at h
  rename_i te hte
  split at h
  rotate_left
  · simp at h
  rename_i hcond
  obtain ⟨hidx, hpos, hsmall⟩ := hcond
  have hu := (hC.T t ti hti).desc
  rw [hd] at hu
  have hte' := hC.T _ te hte
  have hpl : parts.toList.length = len := by have := congrArg List.length hidx; simpa using this
  have hev := evs_srep hs parts.toList
  split at h
  · rename_i q hq
    split at h
    · rename_i hc
      obtain ⟨hnd, _, hall⟩ := hc
      simp only [Option.some.injEq] at h; subst h
      have hown := ownRL_ok (F := E.F) hs _ _ q hev hq hnd
      obtain ⟨E1, f1, f2, f3, hs1⟩ := SR.drops q.2 (slots := st.slots) (toks := st.toks) hs
      have hlen := hown.len
      refine lit_row hs ho hu hte' hpos hsmall hidx hs1 (drops_tlen _) f1 (S := SU E q.2) ?_ (by rw [← hlen]; simpa using hpl) hown fun i e y he hy => ?_
      · rintro b ⟨t', ht', hb⟩
        refine ⟨(hs.slt t' b hb).2.2, (hs.slt t' b hb).1, ?_⟩
        rintro (hF | ⟨t2, h2⟩)
        · rw [f1] at hF; exact (hs.slt t' b hb).2.1 hF
        · rw [f3] at h2
          exact hs.sep t' t2 b (fun e => h2.1 (e ▸ ht')) hb h2.2
      · rw [List.all_eq_true] at hall
        have := hall e (List.mem_of_getElem? he)
        simp only [Bool.and_eq_true, decide_eq_true_eq] at this
        obtain ⟨y', hy', hoy⟩ := OwnL.get hown i e he
        rw [hy] at hy'; obtain rfl := Option.some.inj hy'
        have := (hoy.flatL this.2).len
        refine ⟨?_, by omega⟩
        simpa [‹e.cells.length = te.size ∧ _›.1] using this
    · simp at h
  · split at h
    · rename_i hall
      simp only [Option.some.injEq] at h; subst h
      rw [List.all_eq_true] at hall
      have hrep : RepL w E.F (parts.toList.map fun p => ev st.slots p.2) (parts.toList.map fun p => a.eval p.2) := by
        have : ∀ l : List (Nat × Operand), (∀ x ∈ l.map (fun p => ev st.slots p.2), frz x = true) → RepL w E.F (l.map fun p => ev st.slots p.2) (l.map fun p => a.eval p.2) := by
          intro l
          induction l with
          | nil => intro _; simp [RepL]
          | cons p l ih =>
            intro hl
            simp only [List.map_cons, RepL]
            exact ⟨_, _, rfl, (hs.ev p.2).frz (hl _ (by simp)), ih fun x hx => hl x (by simp only [List.map_cons]; exact List.mem_cons_of_mem _ hx)⟩
        refine this _ fun x hx => ?_
        have := hall x hx
        simp only [Bool.and_eq_true] at this
        exact this.1
      refine lit_row hs ho hu hte' hpos hsmall hidx (st1 := (st.slots, st.toks)) hs rfl rfl (S := fun _ => False) (fun _ h => h.elim) (by simpa using hpl) (RepL.own _ _ hrep) fun i e y he hy => ?_
      have := hall e (List.mem_of_getElem? he)
      simp only [Bool.and_eq_true, decide_eq_true_eq] at this
      obtain ⟨y', hy', hoy⟩ := RepL.get hrep i e he
      rw [hy] at hy'; obtain rfl := Option.some.inj hy'
      refine ⟨?_, this.2⟩
      rw [hoy.cellsN (by intro e'; rw [e'] at this; simp [frz] at this), this.2]
    · simp at h

end
end Go.Proofs.Ytehfjhenilkofaa.Ax
