/-
  What the abstract state says stays true while the world grows; operands; what is lent to a call. No condition.
-/
import Derived.Test.YtehfjhenilkofaaAxExec
namespace Go.Proofs.Ytehfjhenilkofaa.Ax
open Go Go.RowKit

def allB (E : Env) : Nat → Prop := fun b => E.F b ∨ ∃ t, E.S t b

def TokOk (w : World) (E : Env) (t : Nat) (tk : Tok) : Prop := tk.row = .junk ∨ ∃ nl sz es, tk.row = .sl nl sz es ∧ Excl w tk.deep E.F (E.S t) nl sz es (E.hd t)

theorem Own.weak {w w' : World} {d : Bool} {F F' S S' : Nat → Prop} {a : AV} {y : Value} (h : Own w d F S a y) (hF : ∀ b, F b → F' b) (hS : ∀ b, S b → S' b) (hA : Agree (fun b => F b ∨ S b) w w') : Own w' d F' S' a y :=
  Own.agree hF (hA.mono fun _ h => .inl h) hS (hA.mono fun _ h => .inr h) a y h

theorem Rep.weak {w w' : World} {F F' : Nat → Prop} {a : AV} {y : Value} (h : Rep w F a y) (hF : ∀ b, F b → F' b) (hA : Agree F w w') : Rep w' F' a y := Rep.agree hF hA a y h

theorem Excl.weak {w w' : World} {d : Bool} {F F' S S' : Nat → Prop} {nl : Bool} {sz : Nat} {es : List AV} {y : Value} (h : Excl w d F S nl sz es y) (hF : ∀ b, F b → F' b) (hS : ∀ b, S b → S' b) (hA : Agree (fun b => F b ∨ S b) w w') :
    Excl w' d F' S' nl sz es y := by
  obtain ⟨a, len, cap, rfl, h1, h2, h3, k⟩ := h
  refine ⟨a, len, cap, rfl, h1, h2, h3, ?_⟩
  rcases k with k | ⟨b, o, cs, T, rfl, rfl, hb, hcs, hsz, k⟩
  · exact .inl k
  · exact .inr ⟨b, o, cs, T, rfl, rfl, hS b hb, by rw [hA b (.inr hb)]; exact hcs, hsz,
      OwnRow.agree hF (hA.mono fun _ h => .inl h) (fun x hx => ⟨hS x hx.1, hx.2⟩) (hA.mono fun x hx => .inr hx.1) b sz o (hA b (.inr hb)) es k⟩

theorem TokOk.weak {w w' : World} {E E' : Env} {t : Nat} {tk : Tok} (h : TokOk w E t tk) (hA : Agree (allB E) w w') (hF : ∀ b, E.F b → E'.F b) (hhd : E'.hd t = E.hd t) (hS : ∀ b, E.S t b → E'.S t b) : TokOk w' E' t tk := by
  rcases h with h | ⟨nl, sz, es, h1, h2⟩
  · exact .inl h
  · refine .inr ⟨nl, sz, es, h1, ?_⟩
    rw [hhd]
    exact h2.weak hF hS (hA.mono fun b hb => hb.elim .inl fun h => .inr ⟨t, h⟩)

theorem TokOk.follow {w : World} {E : Env} {t : Nat} {tk : Tok} (h : TokOk w E t tk) {p : List (Nat × Nat)} {nl : Bool} {sz : Nat} {es : List AV} (hg : getAt tk.row p = .sl nl sz es) :
    ∃ h, (∀ w', Agree (allB E) w w' → Ax.follow w' tk.row (E.hd t) p = some h) ∧ Own w tk.deep E.F (E.S t) (.sl nl sz es) h := by
  rcases h with h | ⟨nl0, sz0, es0, h1, h2⟩
  · rw [h] at hg; cases p <;> simp [getAt] at hg
  · rw [h1] at hg ⊢
    obtain ⟨v, g1, g2⟩ := follow_ok p _ _ nl sz es h2.own hg
    exact ⟨v, fun w' hA => g1 w' (hA.mono fun b hb => hb.elim .inl fun h => .inr ⟨t, h⟩), g2⟩

section
variable {w w' : World} {E E' : Env} {toks toks' : List Tok}

theorem RefOk.ext (hT : ∀ t tk, toks[t]? = some tk → TokOk w E t tk) (hA : Agree (allB E) w w') (ht : ∀ t, t < toks.length → toks'[t]? = toks[t]?) (hl : toks.length ≤ toks'.length)
    (hhd : ∀ t, t < toks.length → E'.hd t = E.hd t) {t : Nat} {p : List (Nat × Nat)} {lo n : Nat} {y : Value} (h : RefOk w E toks t p lo n y) : RefOk w' E' toks' t p lo n y := by
  refine ⟨Nat.lt_of_lt_of_le h.1 hl, fun tk nl sz es h1 h2 h3 => ?_⟩
  rw [ht t h.1] at h1
  obtain ⟨v, g1, g2⟩ := h.2 tk nl sz es h1 h2 h3
  obtain ⟨v', k1, _⟩ := (hT t tk h1).follow h2
  have : v = v' := by have := k1 w (Agree.refl _ _); rw [g1] at this; exact Option.some.inj this
  subst this
  exact ⟨v, by rw [hhd t h.1]; exact k1 w' hA, g2⟩

theorem PtrOk.ext (hT : ∀ t tk, toks[t]? = some tk → TokOk w E t tk) (hA : Agree (allB E) w w') (ht : ∀ t, t < toks.length → toks'[t]? = toks[t]?) (hl : toks.length ≤ toks'.length)
    (hhd : ∀ t, t < toks.length → E'.hd t = E.hd t) {t : Nat} {p : List (Nat × Nat)} {i j : Nat} {y : Value} (h : PtrOk w E toks t p i j y) : PtrOk w' E' toks' t p i j y := by
  refine ⟨Nat.lt_of_lt_of_le h.1 hl, fun tk nl sz es h1 h2 h3 => ?_⟩
  rw [ht t h.1] at h1
  obtain ⟨b, o, hl', hc, g1, g2⟩ := h.2 tk nl sz es h1 h2 h3
  obtain ⟨v', k1, _⟩ := (hT t tk h1).follow h2
  have : v' = .slice (some ⟨b, o, none⟩) hl' hc := by have := k1 w (Agree.refl _ _); rw [g1] at this; exact (Option.some.inj this).symm
  subst this
  exact ⟨b, o, hl', hc, by rw [hhd t h.1]; exact k1 w' hA, g2⟩

mutual
theorem SRep.ext (hT : ∀ t tk, toks[t]? = some tk → TokOk w E t tk) (hA : Agree (allB E) w w') (hF : ∀ b, E.F b → E'.F b) (ht : ∀ t, t < toks.length → toks'[t]? = toks[t]?) (hl : toks.length ≤ toks'.length)
    (hhd : ∀ t, t < toks.length → E'.hd t = E.hd t) : ∀ (x : AV) (y : Value), SRep w E toks x y → SRep w' E' toks' x y
  | .v _, _, k => by simpa [SRep] using k
  | .agg cs, y, k => by
    simp only [SRep] at k ⊢; obtain ⟨ys, rfl, k⟩ := k; exact ⟨ys, rfl, SRepL.ext hT hA hF ht hl hhd cs _ k⟩
  | .tup cs, y, k => by
    simp only [SRep] at k ⊢; obtain ⟨ys, rfl, k⟩ := k; exact ⟨ys, rfl, SRepL.ext hT hA hF ht hl hhd cs _ k⟩
  | .sl nl sz es, y, k => by simp only [SRep] at k ⊢; exact k.weak hF (hA.mono fun _ h => .inl h)
  | .fp e j, y, k => by simp only [SRep] at k ⊢; exact k.weak hF (hA.mono fun _ h => .inl h)
  | .fn f cs, y, k => by
    simp only [SRep] at k ⊢; obtain ⟨ys, rfl, k⟩ := k; exact ⟨ys, rfl, SRepL.ext hT hA hF ht hl hhd cs _ k⟩
  | .ref t p lo n, y, k => by simp only [SRep] at k ⊢; exact k.ext hT hA ht hl hhd
  | .ptr t p i j, y, k => by simp only [SRep] at k ⊢; exact k.ext hT hA ht hl hhd
  | .junk, _, _ => by simp [SRep]
theorem SRepL.ext (hT : ∀ t tk, toks[t]? = some tk → TokOk w E t tk) (hA : Agree (allB E) w w') (hF : ∀ b, E.F b → E'.F b) (ht : ∀ t, t < toks.length → toks'[t]? = toks[t]?) (hl : toks.length ≤ toks'.length)
    (hhd : ∀ t, t < toks.length → E'.hd t = E.hd t) : ∀ (x : List AV) (y : List Value), SRepL w E toks x y → SRepL w' E' toks' x y
  | [], _, k => by simpa [SRepL] using k
  | c :: cs, y, k => by
    simp only [SRepL] at k ⊢
    obtain ⟨y, ys, rfl, k1, k2⟩ := k
    exact ⟨y, ys, rfl, SRep.ext hT hA hF ht hl hhd c y k1, SRepL.ext hT hA hF ht hl hhd cs ys k2⟩
end

mutual
theorem SRep.of_rep : ∀ (x : AV) (y : Value), Rep w E.F x y → SRep w E toks x y
  | .v _, _, k => by simpa [SRep, Rep] using k
  | .agg cs, y, k => by
    simp only [SRep, Rep] at k ⊢; obtain ⟨ys, rfl, k⟩ := k; exact ⟨ys, rfl, SRepL.of_rep cs _ k⟩
  | .tup cs, y, k => by
    simp only [SRep, Rep] at k ⊢; obtain ⟨ys, rfl, k⟩ := k; exact ⟨ys, rfl, SRepL.of_rep cs _ k⟩
  | .sl nl sz es, y, k => by simpa only [SRep] using k
  | .fp e j, y, k => by simpa only [SRep] using k
  | .fn f cs, y, k => by
    simp only [SRep, Rep] at k ⊢; obtain ⟨ys, rfl, k⟩ := k; exact ⟨ys, rfl, SRepL.of_rep cs _ k⟩
  | .ref t p lo n, y, k => by simp [Rep] at k
  | .ptr t p i j, y, k => by simp [Rep] at k
  | .junk, _, _ => by simp [SRep]
theorem SRepL.of_rep : ∀ (x : List AV) (y : List Value), RepL w E.F x y → SRepL w E toks x y
  | [], _, k => by simpa [SRepL, RepL] using k
  | c :: cs, y, k => by
    simp only [SRepL, RepL] at k ⊢
    obtain ⟨y, ys, rfl, k1, k2⟩ := k
    exact ⟨y, ys, rfl, SRep.of_rep c y k1, SRepL.of_rep cs ys k2⟩
end
end

theorem SR.tokOk {U : Ld} {w0 w : World} {st : ASt} {E : Env} {a : Act} (h : SR U w0 st E a w) (t : Nat) (tk : Tok) (ht : st.toks[t]? = some tk) : TokOk w E t tk := h.tok t tk ht

theorem SR.allLt {U : Ld} {w0 w : World} {st : ASt} {E : Env} {a : Act} (h : SR U w0 st E a w) (b : Nat) (hb : allB E b) : b < w.heap.size :=
  hb.elim (h.flt b) fun ⟨t, ht⟩ => (h.slt t b ht).1

/-- The world has grown: nothing that was there has turned. -/
theorem SR.grow {U : Ld} {w0 w w' : World} {st : ASt} {E : Env} {a : Act} (h : SR U w0 st E a w) (hw : Frm (fun _ => False) w w') : SR U w0 st E a w' where
  defers := h.defers
  size := h.size
  slot i x hi := SRep.ext h.tokOk (fun b hb => hw.block b (h.allLt b hb) id) (fun _ h => h) (fun _ _ => rfl) (Nat.le_refl _) (fun _ _ => rfl) x _ (h.slot i x hi)
  flt b hb := Nat.lt_of_lt_of_le (h.flt b hb) hw.size
  tok t tk ht := (h.tokOk t tk ht).weak (fun b hb => hw.block b (h.allLt b hb) id) (fun _ h => h) rfl (fun _ h => h)
  slt t b hb := ⟨Nat.lt_of_lt_of_le (h.slt t b hb).1 hw.size, (h.slt t b hb).2⟩
  sep := h.sep
  frame := ⟨hw.os.trans h.frame.os, hw.tape.trans h.frame.tape, hw.output.trans h.frame.output, Nat.le_trans h.frame.size hw.size,
    fun k hk hU => (hw.block k (Nat.lt_of_lt_of_le hk h.frame.size) id).trans (h.frame.block k hk hU)⟩
  pin := h.pin

/-- A block that is no longer met has turned. -/
theorem SR.other {U : Ld} {w0 w w' : World} {st : ASt} {E : Env} {a : Act} (h : SR U w0 st E a w) {b' : Nat} (hw : Frm (fun b => b = b') w w') (hb' : ¬ allB E b') (hU : w0.heap.size ≤ b' ∨ U b') : SR U w0 st E a w' where
  defers := h.defers
  size := h.size
  slot i x hi := SRep.ext h.tokOk (fun b hb => hw.block b (h.allLt b hb) fun e => hb' (e ▸ hb)) (fun _ h => h) (fun _ _ => rfl) (Nat.le_refl _) (fun _ _ => rfl) x _ (h.slot i x hi)
  flt b hb := Nat.lt_of_lt_of_le (h.flt b hb) hw.size
  tok t tk ht := (h.tokOk t tk ht).weak (fun b hb => hw.block b (h.allLt b hb) fun e => hb' (e ▸ hb)) (fun _ h => h) rfl (fun _ h => h)
  slt t b hb := ⟨Nat.lt_of_lt_of_le (h.slt t b hb).1 hw.size, (h.slt t b hb).2⟩
  sep := h.sep
  frame := ⟨hw.os.trans h.frame.os, hw.tape.trans h.frame.tape, hw.output.trans h.frame.output, Nat.le_trans h.frame.size hw.size,
    fun k hk hnU => (hw.block k (Nat.lt_of_lt_of_le hk h.frame.size) fun e => hU.elim (fun h => by omega) fun h => hnU (e ▸ h)).trans (h.frame.block k hk hnU)⟩
  pin := h.pin

/-- A new row of the call's own. -/
theorem SR.newTok {U : Ld} {w0 w : World} {st : ASt} {E : Env} {a : Act} (h : SR U w0 st E a w) (tk : Tok) (hd : Value) (Sn : Nat → Prop)
    (hSn : ∀ b, Sn b → (w0.heap.size ≤ b ∨ U b) ∧ b < w.heap.size ∧ ¬ allB E b) (hx : tk.row = .junk ∨ ∃ nl sz es, tk.row = .sl nl sz es ∧ Excl w tk.deep E.F Sn nl sz es hd) :
    ∃ E' : Env, E'.F = E.F ∧ E'.hd st.toks.length = hd ∧ (∀ t, t < st.toks.length → E'.hd t = E.hd t) ∧ (∀ b, allB E' b → allB E b ∨ Sn b) ∧ SR U w0 ⟨st.slots, st.toks ++ [tk]⟩ E' a w := by
  let E' : Env := { F := E.F, hd := fun t => if t = st.toks.length then hd else E.hd t, S := fun t => if t = st.toks.length then Sn else E.S t }
  have hhd : ∀ t, t < st.toks.length → E'.hd t = E.hd t := fun t ht => by simp [E', Nat.ne_of_lt ht]
  have hS : ∀ t, t < st.toks.length → E'.S t = E.S t := fun t ht => by simp [E', Nat.ne_of_lt ht]
  refine ⟨E', rfl, by simp [E'], hhd, fun b hb => ?_, ?_⟩
  · rcases hb with hb | ⟨t, hb⟩
    · exact .inl (.inl hb)
    · by_cases e : t = st.toks.length
      · simp only [E', if_pos e] at hb; exact .inr hb
      · simp only [E', if_neg e] at hb; exact .inl (.inr ⟨t, hb⟩)
  refine ⟨h.defers, h.size, fun i x hi => ?_, h.flt, fun t tk' ht => ?_, fun t b hb => ?_, fun t t' b hne hb hb' => ?_, h.frame, h.pin⟩
  · exact SRep.ext (E' := E') (toks' := st.toks ++ [tk]) h.tokOk (Agree.refl _ _) (fun _ h => h) (fun t ht => List.getElem?_append_left ht) (by simp) hhd x _ (h.slot i x hi)
  · by_cases e : t = st.toks.length
    · subst e
      simp at ht; subst ht
      have e1 : E'.S st.toks.length = Sn := by simp [E']
      have e2 : E'.hd st.toks.length = hd := by simp [E']
      rw [e1, e2]; exact hx
    · have hlt : t < st.toks.length := by
        have : t < (st.toks ++ [tk]).length := (List.getElem?_eq_some_iff.1 ht).1
        simp at this; omega
      rw [List.getElem?_append_left hlt] at ht
      have := (h.tokOk t tk' ht).weak (E' := E') (Agree.refl _ _) (fun _ h => h) (hhd t hlt) (fun b hb => by rw [hS t hlt]; exact hb)
      exact this
  · by_cases e : t = st.toks.length
    · subst e
      simp only [E', if_true] at hb
      have := hSn b hb
      exact ⟨this.2.1, fun hF => this.2.2 (.inl hF), this.1⟩
    · simp only [E', if_neg e] at hb
      exact h.slt t b hb
  · by_cases e : t = st.toks.length <;> by_cases e' : t' = st.toks.length
    · omega
    · simp only [E', if_neg e', if_pos e] at hb hb'
      exact (hSn b hb).2.2 (.inr ⟨t', hb'⟩)
    · simp only [E', if_neg e, if_pos e'] at hb hb'
      exact (hSn b hb').2.2 (.inr ⟨t, hb⟩)
    · simp only [E', if_neg e, if_neg e'] at hb hb'
      exact h.sep t t' b hne hb hb'

theorem getD_put {a : Act} {d : Nat} {y : Value} {i : Nat} (hd : d < a.tmps.size) : (a.put (some d) y).tmps.getD i undef = if i = d then y else a.tmps.getD i undef := by
  simp only [Act.put, Array.getD_eq_getD_getElem?]
  by_cases e : i = d
  · subst e; simp [hd]
  · rw [Array.getElem?_setIfInBounds_ne (by omega), if_neg e]

/-- A slot is written. -/
theorem SR.put {U : Ld} {w0 w : World} {slots : List AV} {toks : List Tok} {E : Env} {a : Act} (h : SR U w0 ⟨slots, toks⟩ E a w) (d : Option Nat) (hd : ∀ e, d = some e → e ∉ U.idx) {x : AV} {y : Value} (hx : SRep w E toks x y) :
    SR U w0 ⟨putD slots d x, toks⟩ E (a.put d y) w := by
  cases d with
  | none => exact h
  | some d =>
    refine ⟨h.defers, ?_, fun i x' hi => ?_, h.flt, h.tok, h.slt, h.sep, h.frame, fun i hi => ?_⟩
    · simpa [Act.put, putD] using h.size
    · simp only [putD] at hi
      by_cases e : i = d
      · subst e
        by_cases hlt : i < slots.length
        · rw [List.getElem?_set_self hlt] at hi
          obtain rfl := Option.some.inj hi
          rw [getD_put (by rw [h.size]; exact hlt), if_pos rfl]; exact hx
        · rw [List.getElem?_eq_none (by simpa using hlt)] at hi; simp at hi
      · rw [List.getElem?_set_ne (fun h => e h.symm)] at hi
        have := h.slot i x' hi
        by_cases hlt : d < a.tmps.size
        · rw [getD_put hlt, if_neg e]; exact this
        · have : (a.put (some d) y).tmps = a.tmps := by simp [Act.put, Array.setIfInBounds, hlt]
          rw [this]; assumption
    · rw [← h.pin i hi]
      have hne : i ≠ d := fun e => hd d rfl (e ▸ hi)
      by_cases hlt : d < a.tmps.size
      · rw [getD_put hlt, if_neg hne]
      · have : (a.put (some d) y).tmps = a.tmps := by simp [Act.put, Array.setIfInBounds, hlt]
        rw [this]

theorem SRepL_map {w : World} {E : Env} {toks : List Tok} {f : Value → AV} : ∀ (ys : List Value), (∀ y ∈ ys, SRep w E toks (f y) y) → SRepL w E toks (ys.map f) ys
  | [], _ => by simp [SRepL]
  | y :: ys, h => by simp only [List.map_cons, SRepL]; exact ⟨y, ys, rfl, h y (by simp), SRepL_map ys fun z hz => h z (by simp [hz])⟩

theorem SRep_ofV1 {w : World} {E : Env} {toks : List Tok} (x : Value) : SRep w E toks (ofV1 x) x := by
  unfold ofV1
  split
  · simp only [SRep, Rep]; exact ⟨none, 0, 0, rfl, rfl, Nat.le_refl _, Nat.zero_le _, .inl ⟨rfl, trivial, rfl, rfl⟩⟩
  · split
    · simp [SRep, *]
    · simp [SRep]

theorem SRep_ofV {w : World} {E : Env} {toks : List Tok} (x : Value) : SRep w E toks (ofV x) x := by
  unfold ofV
  split
  · simp only [SRep]; exact ⟨_, rfl, SRepL_map _ fun y _ => SRep_ofV1 y⟩
  · exact SRep_ofV1 _

/-- An operand. -/
theorem SR.ev {U : Ld} {w0 w : World} {st : ASt} {E : Env} {a : Act} (h : SR U w0 st E a w) (x : Operand) : SRep w E st.toks (Ax.ev st.slots x) (a.eval x) := by
  cases x with
  | tmp t =>
    simp only [Ax.ev, Act.eval, List.getD_eq_getElem?_getD]
    cases ht : st.slots[t]? with
    | none => simp [SRep]
    | some x => exact h.slot t x ht
  | const c => exact SRep_ofV c
  | func f => simp only [Ax.ev, Act.eval, SRep]; exact ⟨#[], rfl, by simp [SRepL]⟩
  | global g => simp [Ax.ev, SRep]

theorem Rep.view {w : World} {F : Nat → Prop} {nl : Bool} {sz : Nat} {es : List AV} {h y : Value} {lo n : Nat} (hr : Rep w F (.sl nl sz es) h) (hv : ViewOf h sz lo n y) (hle : lo + n ≤ es.length) : Rep w F (.sl nl sz (viewEs es lo n)) y := by
  simp only [Rep] at hr ⊢
  obtain ⟨a, len, cap, rfl, h1, h2, h3, h4⟩ := hr
  have hlen : (viewEs es lo n).length = n := by simp [viewEs]; omega
  rcases hv with ⟨hv, rfl⟩ | ⟨rfl, rfl, x, c, hv⟩ | ⟨b, o, hl, hc, o', hv, rfl, ha'⟩
  · simp only [Value.slice.injEq] at hv
    obtain ⟨rfl, rfl, rfl⟩ := hv
    refine ⟨none, 0, 0, rfl, by rw [hlen]; omega, Nat.le_refl _, Nat.zero_le _, ?_⟩
    rcases h4 with h4 | ⟨b, o, h, _⟩ | ⟨⟨x, h⟩, _⟩
    · exact .inl ⟨rfl, h4.2.1, rfl, rfl⟩
    · simp at h
    · simp at h
  · simp only [Value.slice.injEq] at hv
    obtain ⟨rfl, rfl, rfl⟩ := hv
    have he : viewEs es lo 0 = [] := List.length_eq_zero_iff.1 hlen
    refine ⟨some x, 0, cap, rfl, by rw [hlen], h2, h3, ?_⟩
    rcases h4 with h4 | ⟨b, o, h, hn, _⟩ | ⟨_, hn, _⟩
    · simp at h4
    · exact .inr (.inr ⟨⟨x, rfl⟩, hn, he⟩)
    · exact .inr (.inr ⟨⟨x, rfl⟩, hn, he⟩)
  · simp only [Value.slice.injEq] at hv
    obtain ⟨rfl, rfl, rfl⟩ := hv
    rcases h4 with h4 | ⟨b2, o2, hb, hnl, h4⟩ | ⟨_, hnl, he⟩
    · simp at h4
    rotate_left
    · subst he
      exact ⟨_, n, _, rfl, hlen.symm, by simp at hle; omega, by omega, .inr (.inr ⟨⟨_, rfl⟩, hnl, by simp [viewEs]⟩)⟩
    · simp only [Option.some.injEq, Addr.mk.injEq, and_true] at hb
      obtain ⟨rfl, rfl⟩ := hb
      refine ⟨some ⟨b, o', none⟩, n, _, rfl, hlen.symm, by omega, by omega, .inr (.inl ⟨b, o', rfl, hnl, ?_⟩)⟩
      by_cases hn : n = 0
      · subst hn
        have he : viewEs es lo 0 = [] := List.length_eq_zero_iff.1 hlen
        rw [he]; simp [RepRow]
      · obtain rfl := ha'.resolve_right (by omega)
        refine RepRow.mk fun i e hi => ?_
        simp only [viewEs, List.getElem?_take, List.getElem?_drop] at hi
        split at hi
        · obtain ⟨x, g1, g2, g3, g4, g5⟩ := RepRow.get h4 (lo + i) e hi
          refine ⟨x, g1, g2, g3, g4, ?_⟩
          rw [show o + lo * sz + i * sz = o + (lo + i) * sz from by rw [Nat.add_mul]; omega]; exact g5
        · simp at hi

mutual
/-- What is lent to a call reads as 'res' says. -/
theorem SRep.res {w : World} {E : Env} {toks : List Tok} (hT : ∀ t tk, toks[t]? = some tk → TokOk w E t tk) : ∀ (x : AV) (y : Value), SRep w E toks x y → Rep w (allB E) (Ax.res toks x) y
  | .v _, _, k => by simpa [SRep, Rep, Ax.res] using k
  | .agg cs, y, k => by
    simp only [SRep, Rep, Ax.res] at k ⊢; obtain ⟨ys, rfl, k⟩ := k; exact ⟨ys, rfl, SRepL.res hT cs _ k⟩
  | .tup cs, y, k => by
    simp only [SRep, Rep, Ax.res] at k ⊢; obtain ⟨ys, rfl, k⟩ := k; exact ⟨ys, rfl, SRepL.res hT cs _ k⟩
  | .sl nl sz es, y, k => by simp only [SRep, Ax.res] at k ⊢; exact k.weak (fun _ h => .inl h) (Agree.refl _ _)
  | .fp e j, y, k => by simp only [SRep, Ax.res] at k ⊢; exact k.weak (fun _ h => .inl h) (Agree.refl _ _)
  | .fn f cs, y, k => by
    simp only [SRep, Rep, Ax.res] at k ⊢; obtain ⟨ys, rfl, k⟩ := k; exact ⟨ys, rfl, SRepL.res hT cs _ k⟩
  | .ref t p lo n, y, k => by
    simp only [SRep, Ax.res] at k ⊢
    cases ht : toks[t]? with
    | none => simp [Rep]
    | some tk =>
      simp only []
      split
      · rename_i nl sz es hg
        split
        · rename_i hle
          obtain ⟨h, g1, g2⟩ := k.2 tk nl sz es ht hg hle
          obtain ⟨h', k1, k2⟩ := (hT t tk ht).follow hg
          have : h = h' := by have := k1 w (Agree.refl _ _); rw [g1] at this; exact Option.some.inj this
          subst this
          exact (k2.rep.weak (fun b hb => hb.elim .inl fun h => .inr ⟨t, h⟩) (Agree.refl _ _)).view g2 hle
        · simp [Rep]
      · simp [Rep]
  | .ptr t p i j, y, k => by
    simp only [SRep, Ax.res] at k ⊢
    cases ht : toks[t]? with
    | none => simp [Rep]
    | some tk =>
      simp only []
      split
      · rename_i nl sz es hg
        cases he : es[i]? with
        | none => simp [Rep]
        | some e =>
          have hlt : i < es.length := (List.getElem?_eq_some_iff.1 he).1
          obtain ⟨b, o, hl, hc, g1, rfl⟩ := k.2 tk nl sz es ht hg hlt
          obtain ⟨h', k1, k2⟩ := (hT t tk ht).follow hg
          have : h' = .slice (some ⟨b, o, none⟩) hl hc := by have := k1 w (Agree.refl _ _); rw [g1] at this; exact (Option.some.inj this).symm
          subst this
          have hr := k2.rep.weak (F' := allB E) (fun b hb => hb.elim .inl fun h => .inr ⟨t, h⟩) (Agree.refl _ _)
          simp only [Rep] at hr ⊢
          obtain ⟨a, len, cap, hs, h1, h2, h3, h4⟩ := hr
          simp only [Value.slice.injEq] at hs
          obtain ⟨rfl, rfl, rfl⟩ := hs
          rcases h4 with h4 | ⟨b2, o2, hb, hnl, h4⟩ | ⟨_, _, rfl⟩
          · simp at h4
          rotate_left
          · simp at he
          · simp only [Option.some.injEq, Addr.mk.injEq, and_true] at hb
            obtain ⟨rfl, rfl⟩ := hb
            obtain ⟨x, q1, q2, q3, q4, q5⟩ := RepRow.get h4 i e he
            exact ⟨b, o + i * sz, x, rfl, q1, q4, q5, by rw [q2, q3]⟩
      · simp [Rep]
  | .junk, _, _ => by simp [Rep, Ax.res]
theorem SRepL.res {w : World} {E : Env} {toks : List Tok} (hT : ∀ t tk, toks[t]? = some tk → TokOk w E t tk) : ∀ (x : List AV) (y : List Value), SRepL w E toks x y → RepL w (allB E) (Ax.resL toks x) y
  | [], _, k => by simpa [SRepL, RepL, Ax.resL] using k
  | c :: cs, y, k => by
    simp only [SRepL, RepL, Ax.resL] at k ⊢
    obtain ⟨y, ys, rfl, k1, k2⟩ := k
    exact ⟨y, ys, rfl, SRep.res hT c y k1, SRepL.res hT cs ys k2⟩
end

end Go.Proofs.Ytehfjhenilkofaa.Ax
