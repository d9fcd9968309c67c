/-
  A store into a row of the call's own. No condition.
-/
import Derived.Test.YtehfjhenilkofaaAxKill
namespace Go.Proofs.Ytehfjhenilkofaa.Ax
open Go Go.RowKit

section
variable {w w' : World} {E E' : Env} {toks toks' : List Tok}
mutual
theorem SRep.chg (hF : Agree E.F w w') (hFF : ∀ b, E.F b → E'.F b) (hr : ∀ t p lo n y, RefOk w E toks t p lo n y → RefOk w' E' toks' t p lo n y) (hp : ∀ t p i j y, PtrOk w E toks t p i j y → PtrOk w' E' toks' t p i j y) :
    ∀ (x : AV) (y : Value), SRep w E toks x y → SRep w' E' toks' x y
  | .v _, _, k => by simpa [SRep] using k
  | .agg cs, y, k => by simp only [SRep] at k ⊢; obtain ⟨ys, rfl, k⟩ := k; exact ⟨ys, rfl, SRepL.chg hF hFF hr hp cs _ k⟩
  | .tup cs, y, k => by simp only [SRep] at k ⊢; obtain ⟨ys, rfl, k⟩ := k; exact ⟨ys, rfl, SRepL.chg hF hFF hr hp cs _ k⟩
  | .sl nl sz es, y, k => by simp only [SRep] at k ⊢; exact k.weak hFF hF
  | .fp e j, y, k => by simp only [SRep] at k ⊢; exact k.weak hFF hF
  | .fn f cs, y, k => by simp only [SRep] at k ⊢; obtain ⟨ys, rfl, k⟩ := k; exact ⟨ys, rfl, SRepL.chg hF hFF hr hp cs _ k⟩
  | .ref t p lo n, y, k => by simp only [SRep] at k ⊢; exact hr t p lo n y k
  | .ptr t p i j, y, k => by simp only [SRep] at k ⊢; exact hp t p i j y k
  | .junk, _, _ => by simp [SRep]
theorem SRepL.chg (hF : Agree E.F w w') (hFF : ∀ b, E.F b → E'.F b) (hr : ∀ t p lo n y, RefOk w E toks t p lo n y → RefOk w' E' toks' t p lo n y) (hp : ∀ t p i j y, PtrOk w E toks t p i j y → PtrOk w' E' toks' t p i j y) :
    ∀ (x : List AV) (y : List Value), SRepL w E toks x y → SRepL w' E' toks' x y
  | [], _, k => by simpa [SRepL] using k
  | c :: cs, y, k => by
    simp only [SRepL] at k ⊢
    obtain ⟨y, ys, rfl, k1, k2⟩ := k
    exact ⟨y, ys, rfl, SRep.chg hF hFF hr hp c y k1, SRepL.chg hF hFF hr hp cs ys k2⟩
end
mutual
theorem SRep.chgN {k : Nat} (hF : Agree E.F w w') (hFF : ∀ b, E.F b → E'.F b) (hr : ∀ t p lo n y, ¬ (t = k ∧ p ≠ []) → RefOk w E toks t p lo n y → RefOk w' E' toks' t p lo n y) (hp : ∀ t p i j y, ¬ (t = k ∧ p ≠ []) → PtrOk w E toks t p i j y → PtrOk w' E' toks' t p i j y) :
    ∀ (x : AV) (y : Value), SRep w E toks x y → SRep w' E' toks' (killN k x) y
  | .v _, _, k => by simpa [SRep, killN] using k
  | .agg cs, y, k => by simp only [SRep, killN] at k ⊢; obtain ⟨ys, rfl, k⟩ := k; exact ⟨ys, rfl, SRepL.chgN hF hFF hr hp cs _ k⟩
  | .tup cs, y, k => by simp only [SRep, killN] at k ⊢; obtain ⟨ys, rfl, k⟩ := k; exact ⟨ys, rfl, SRepL.chgN hF hFF hr hp cs _ k⟩
  | .sl nl sz es, y, k => by simp only [SRep, killN] at k ⊢; exact k.weak hFF hF
  | .fp e j, y, k => by simp only [SRep, killN] at k ⊢; exact k.weak hFF hF
  | .fn f cs, y, k => by simp only [SRep, killN] at k ⊢; obtain ⟨ys, rfl, k⟩ := k; exact ⟨ys, rfl, SRepL.chgN hF hFF hr hp cs _ k⟩
  | .ref t p lo n, y, h => by
    simp only [killN]; split
    · simp [SRep]
    · rename_i hn; simp only [SRep] at h ⊢; exact hr t p lo n y hn h
  | .ptr t p i j, y, h => by
    simp only [killN]; split
    · simp [SRep]
    · rename_i hn; simp only [SRep] at h ⊢; exact hp t p i j y hn h
  | .junk, _, _ => by simp [SRep, killN]
theorem SRepL.chgN {k : Nat} (hF : Agree E.F w w') (hFF : ∀ b, E.F b → E'.F b) (hr : ∀ t p lo n y, ¬ (t = k ∧ p ≠ []) → RefOk w E toks t p lo n y → RefOk w' E' toks' t p lo n y) (hp : ∀ t p i j y, ¬ (t = k ∧ p ≠ []) → PtrOk w E toks t p i j y → PtrOk w' E' toks' t p i j y) :
    ∀ (x : List AV) (y : List Value), SRepL w E toks x y → SRepL w' E' toks' (killNL k x) y
  | [], _, k => by simpa [SRepL, killNL] using k
  | c :: cs, y, k => by
    simp only [SRepL, killNL] at k ⊢
    obtain ⟨y, ys, rfl, k1, k2⟩ := k
    exact ⟨y, ys, rfl, SRep.chgN hF hFF hr hp c y k1, SRepL.chgN hF hFF hr hp cs ys k2⟩
end
end

/-- Row k has turned into another; all the rest stands. -/
theorem SR.setTok' {U : Ld} {w0 w w' : World} {slots slots' : List AV} {toks : List Tok} {E : Env} {a : Act} {k : Nat} {tk tk' : Tok} (h : SR U w0 ⟨slots, toks⟩ E a w) (htk : toks[k]? = some tk) (hd' : Value) (S' : Nat → Prop)
    (hfr : Frm (fun b => E.S k b) w w') (hS' : ∀ b, S' b → E.S k b ∨ ((w0.heap.size ≤ b ∨ U b) ∧ b < w'.heap.size ∧ ¬ allB E b))
    (hx : tk'.row = .junk ∨ ∃ nl sz es, tk'.row = .sl nl sz es ∧ Excl w' tk'.deep E.F S' nl sz es hd') (hsl : slots'.length = slots.length)
    (hslot : ∀ E' : Env, E'.F = E.F → E'.hd k = hd' → (∀ t, t ≠ k → E'.hd t = E.hd t) → (∀ t, t ≠ k → E'.S t = E.S t) → ∀ i x, slots'[i]? = some x → SRep w' E' (toks.set k tk') x (a.tmps.getD i undef)) :
    ∃ E' : Env, E'.F = E.F ∧ E'.hd k = hd' ∧ (∀ t, t ≠ k → E'.hd t = E.hd t) ∧ (∀ t, t ≠ k → E'.S t = E.S t) ∧ E'.S k = S' ∧ SR U w0 ⟨slots', toks.set k tk'⟩ E' a w' := by
  let E' : Env := { F := E.F, hd := fun t => if t = k then hd' else E.hd t, S := fun t => if t = k then S' else E.S t }
  have hlt : k < toks.length := (List.getElem?_eq_some_iff.1 htk).1
  have e1 : E'.hd k = hd' := by simp [E']
  have e2 : ∀ t, t ≠ k → E'.hd t = E.hd t := fun t ht => by simp [E', ht]
  have e3 : ∀ t, t ≠ k → E'.S t = E.S t := fun t ht => by simp [E', ht]
  have e4 : E'.S k = S' := by simp [E']
  have hblk : ∀ b, b < w.heap.size → ¬ E.S k b → w'.heap[b]? = w.heap[b]? := hfr.block
  refine ⟨E', rfl, e1, e2, e3, e4, ⟨h.defers, by rw [h.size]; exact hsl.symm, hslot E' rfl e1 e2 e3, fun b hb => Nat.lt_of_lt_of_le (h.flt b hb) hfr.size, fun t t' ht => ?_, fun t b hb => ?_, fun t t' b hne hb hb' => ?_, ?_, h.pin⟩⟩
  · by_cases e : t = k
    · subst e
      rw [List.getElem?_set_self hlt] at ht
      obtain rfl := Option.some.inj ht
      rw [e1, e4]; exact hx
    · rw [List.getElem?_set_ne (fun h => e h.symm)] at ht
      rcases h.tokOk t t' ht with hj | ⟨nl, sz, es, h1, h2⟩
      · exact .inl hj
      · refine .inr ⟨nl, sz, es, h1, ?_⟩
        rw [e2 t e, e3 t e]
        exact h2.weak (fun _ h => h) (fun _ h => h) fun b hb => hb.elim (fun hb => hblk b (h.flt b hb) fun hk => (h.slt k b hk).2.1 hb) fun hb => hblk b (h.slt t b hb).1 (h.sep t k b e hb)
  · by_cases e : t = k
    · subst e
      rw [e4] at hb
      rcases hS' b hb with hb | hb
      · exact ⟨Nat.lt_of_lt_of_le (h.slt t b hb).1 hfr.size, (h.slt t b hb).2⟩
      · exact ⟨hb.2.1, fun hF => hb.2.2 (.inl hF), hb.1⟩
    · rw [e3 t e] at hb
      exact ⟨Nat.lt_of_lt_of_le (h.slt t b hb).1 hfr.size, (h.slt t b hb).2⟩
  · by_cases e : t = k <;> by_cases e' : t' = k
    · omega
    · subst e; rw [e4] at hb; rw [e3 t' e'] at hb'
      rcases hS' b hb with hb | hb
      · exact h.sep t t' b hne hb hb'
      · exact hb.2.2 (.inr ⟨t', hb'⟩)
    · subst e'; rw [e4] at hb'; rw [e3 t e] at hb
      rcases hS' b hb' with hb' | hb'
      · exact h.sep t t' b hne hb hb'
      · exact hb'.2.2 (.inr ⟨t, hb⟩)
    · rw [e3 t e] at hb; rw [e3 t' e'] at hb'; exact h.sep t t' b hne hb hb'
  · refine ⟨hfr.os.trans h.frame.os, hfr.tape.trans h.frame.tape, hfr.output.trans h.frame.output, Nat.le_trans h.frame.size hfr.size, fun b hb hU => ?_⟩
    rw [hblk b (Nat.lt_of_lt_of_le hb h.frame.size) fun hk => (h.slt k b hk).2.2.elim (fun h => by omega) hU]
    exact h.frame.block b hb hU

theorem SR.setTok {U : Ld} {w0 w w' : World} {slots slots' : List AV} {toks : List Tok} {E : Env} {a : Act} {k : Nat} {tk tk' : Tok} (h : SR U w0 ⟨slots, toks⟩ E a w) (htk : toks[k]? = some tk) (hd' : Value) (S' : Nat → Prop)
    (hfr : Frm (fun b => E.S k b) w w') (hS' : ∀ b, S' b → E.S k b ∨ ((w0.heap.size ≤ b ∨ U b) ∧ b < w'.heap.size ∧ ¬ allB E b))
    (hx : tk'.row = .junk ∨ ∃ nl sz es, tk'.row = .sl nl sz es ∧ Excl w' tk'.deep E.F S' nl sz es hd') (hsl : slots'.length = slots.length)
    (hslot : ∀ E' : Env, E'.F = E.F → E'.hd k = hd' → (∀ t, t ≠ k → E'.hd t = E.hd t) → (∀ t, t ≠ k → E'.S t = E.S t) → ∀ i x, slots'[i]? = some x → SRep w' E' (toks.set k tk') x (a.tmps.getD i undef)) :
    ∃ E' : Env, E'.F = E.F ∧ E'.hd k = hd' ∧ (∀ t, t ≠ k → E'.hd t = E.hd t) ∧ SR U w0 ⟨slots', toks.set k tk'⟩ E' a w' := by
  obtain ⟨E', e1, e2, e3, _, _, e6⟩ := h.setTok' htk hd' S' hfr hS' hx hsl hslot
  exact ⟨E', e1, e2, e3, e6⟩

section
variable {P : Program} {C : Ctx} {o : Oper} {a : Act} {w : World} {U : Ld} {w0 : World} {st : ASt} {E : Env}

theorem OwnL.v_one {w : World} {d : Bool} {F : Nat → Prop} : ∀ {S : Nat → Prop} {cs : List AV} {ys : List Value}, RepL w F cs ys → (∀ c ∈ cs, ∃ x, c = .v x) → (∀ y ∈ ys, y.oneCell' = true) ∧ OwnL w d F S cs ys
  | _, [], ys, h, _ => by simp only [RepL] at h; subst h; simp [OwnL]
  | S, c :: cs, _, h, hc => by
    simp only [RepL] at h
    obtain ⟨y, ys, rfl, h1, h2⟩ := h
    obtain ⟨x, rfl⟩ := hc c (by simp)
    simp only [Rep] at h1
    obtain ⟨rfl, h1⟩ := h1
    obtain ⟨q1, q2⟩ := OwnL.v_one (d := d) (S := fun _ => False) h2 fun c h => hc c (by simp [h])
    refine ⟨fun z hz => by rcases List.mem_cons.1 hz with rfl | hz; exact h1; exact q1 z hz, ?_⟩
    simp only [OwnL]
    exact ⟨y, ys, fun _ => False, fun _ => False, rfl, fun _ h => h.elim, fun _ h => h.elim, fun _ h => h.elim, by simp [Own, h1], q2⟩

theorem scal_cells {x : AV} (h : scal x = true) : ∀ c ∈ x.cells, ∃ v, c = .v v := by
  cases x with
  | v z => intro c hc; simp [AV.cells] at hc; exact ⟨z, hc⟩
  | agg cs =>
    intro c hc
    simp only [scal, List.all_eq_true] at h
    have := h c hc
    split at this
    · exact ⟨_, rfl⟩
    · simp at this
  | _ => simp [scal] at h

theorem OwnL.len {w : World} {d : Bool} {F : Nat → Prop} : ∀ {S : Nat → Prop} {cs : List AV} {ys : List Value}, OwnL w d F S cs ys → ys.length = cs.length
  | _, [], _, h => by simp only [OwnL] at h; simp [h]
  | _, c :: cs, _, h => by
    simp only [OwnL] at h
    obtain ⟨y, ys, S1, S2, rfl, _, _, _, _, h⟩ := h
    simp [OwnL.len h]

theorem OwnL.mono {w : World} {d : Bool} {F S S' : Nat → Prop} {cs : List AV} {ys : List Value} (h : OwnL w d F S cs ys) (hS : ∀ b, S b → S' b) : OwnL w d F S' cs ys :=
  OwnL.agree (fun _ h => h) (Agree.refl _ _) hS (Agree.refl _ _) cs ys h

theorem OwnRow.agree' {w : World} {d : Bool} {F S S' : Nat → Prop} {b sz o' : Nat} {es : List AV} (h : OwnRow w d F S b sz o' es) (hS : ∀ y, S y → S' y) : OwnRow w d F S' b sz o' es :=
  OwnRow.agree (fun _ h => h) (Agree.refl _ _) hS (Agree.refl _ _) b sz o' rfl es h

theorem OwnL.app {w : World} {d : Bool} {F : Nat → Prop} : ∀ {S S1 S2 : Nat → Prop} {cs cs' : List AV} {ys ys' : List Value}, OwnL w d F S1 cs ys → OwnL w d F S2 cs' ys' → (∀ b, S1 b → S b) → (∀ b, S2 b → S b) → (∀ b, S1 b → ¬ S2 b) → OwnL w d F S (cs ++ cs') (ys ++ ys')
  | S, S1, S2, [], cs', ys, ys', h, h', h1, h2, h3 => by simp only [OwnL] at h; subst h; simpa using h'.mono h2
  | S, S1, S2, c :: cs, cs', ys, ys', h, h', h1, h2, h3 => by
    simp only [OwnL] at h
    obtain ⟨y, ys, T1, T2, rfl, e1, e2, e3, k1, k2⟩ := h
    simp only [List.cons_append, OwnL]
    refine ⟨y, ys ++ ys', T1, fun b => T2 b ∨ S2 b, rfl, fun b hb => h1 b (e1 b hb), fun b hb => hb.elim (fun hb => h1 b (e2 b hb)) (h2 b), fun b hb h => h.elim (e3 b hb) (h3 b (e1 b hb)), k1, ?_⟩
    exact OwnL.app k2 h' (fun b hb => .inl hb) (fun b hb => .inr hb) fun b hb => h3 b (e2 b hb)

theorem OwnL.split {w : World} {d : Bool} {F : Nat → Prop} : ∀ {S : Nat → Prop} (n : Nat) {cs : List AV} {ys : List Value}, OwnL w d F S cs ys →
    ∃ S1 S2, (∀ b, S1 b → S b) ∧ (∀ b, S2 b → S b) ∧ (∀ b, S1 b → ¬ S2 b) ∧ OwnL w d F S1 (cs.take n) (ys.take n) ∧ OwnL w d F S2 (cs.drop n) (ys.drop n)
  | S, 0, cs, ys, h => ⟨fun _ => False, S, fun _ h => h.elim, fun _ h => h, fun _ h => h.elim, by simp [OwnL], by simpa using h⟩
  | S, n + 1, [], ys, h => ⟨fun _ => False, S, fun _ h => h.elim, fun _ h => h, fun _ h => h.elim, by simp only [OwnL] at h; subst h; simp [OwnL], by simp only [OwnL] at h; subst h; simp [OwnL]⟩
  | S, n + 1, c :: cs, ys, h => by
    simp only [OwnL] at h
    obtain ⟨y, ys, T1, T2, rfl, e1, e2, e3, k1, k2⟩ := h
    obtain ⟨S1, S2, g1, g2, g3, g4, g5⟩ := OwnL.split n k2
    refine ⟨fun b => T1 b ∨ S1 b, S2, fun b hb => hb.elim (e1 b) fun hb => e2 b (g1 b hb), fun b hb => e2 b (g2 b hb), fun b hb h => hb.elim (fun hb => e3 b hb (g2 b h)) fun hb => g3 b hb h, ?_, by simpa using g5⟩
    simp only [List.take_succ_cons, OwnL]
    exact ⟨y, _, T1, S1, rfl, fun b hb => .inl hb, fun b hb => .inr hb, fun b hb h => e3 b hb (g1 b h), k1, g4⟩

/-- Some cells of an element are written. -/
theorem put_own {w w' : World} {d d' : Bool} {F S1 Sx : Nat → Prop} {e : AV} {z : Value} {cs : List AV} {vs : List Value} {j : Nat} (hdd : d' = true → d = true) (hown : Own w d F S1 e z) (hn : z.cells.size = e.cells.length) (hA : Agree (fun b => F b ∨ S1 b) w w')
    (hc : OwnL w' d' F Sx cs vs) (h1 : ∀ y ∈ vs, y.oneCell' = true) (hx : ∀ b, Sx b → ¬ S1 b) (hj : j + cs.length ≤ e.cells.length) (hpos : 0 < cs.length) :
    ∃ x', Own w' d' F (fun b => S1 b ∨ Sx b) (putCells e j cs) x' ∧ x'.cells.toList = z.cells.toList.take j ++ vs ++ z.cells.toList.drop (j + vs.length) ∧ (putCells e j cs).cells.length = e.cells.length := by
  have hown' : Own w' d' F S1 e z := (hown.weak (fun _ h => h) (fun _ h => h) hA).dd hdd
  have hl := hc.len
  by_cases hea : ∃ ds, e = .agg ds
  · obtain ⟨ds, rfl⟩ := hea
    simp only [Own] at hown'
    obtain ⟨zs, rfl, hz⟩ := hown'
    obtain ⟨A, B, a1, a2, a3, a4, a5⟩ := hz.split j
    obtain ⟨A', B', b1, b2, b3, b4, b5⟩ := a5.split cs.length
    simp only [AV.cells] at hj
    have hzl : zs.size = ds.length := by simpa [Value.cells, AV.cells] using hn
    refine ⟨.agg (zs.toList.take j ++ vs ++ zs.toList.drop (j + vs.length)).toArray, ?_, by simp [Value.cells], by simp [putCells, AV.cells]; omega⟩
    simp only [putCells, Own]
    refine ⟨_, rfl, ?_⟩
    simp only []
    rw [hl]
    have b5' : OwnL w' d' F B' (ds.drop (j + cs.length)) (zs.toList.drop (j + cs.length)) := by simpa [List.drop_drop] using b5
    exact OwnL.app (S1 := fun b => A b ∨ Sx b) (OwnL.app a4 hc (fun b h => .inl h) (fun b h => .inr h) fun b h h' => hx b h' (a1 b h)) b5'
      (fun b h => h.imp (a1 b) id) (fun b h => .inl (a2 b (b2 b h))) fun b h h' => h.elim (fun h => a3 b h (b2 b h')) fun h => hx b h (a2 b (b2 b h'))
  · have hec : e.cells = [e] := by cases e <;> first | rfl | exact (hea ⟨_, rfl⟩).elim
    rw [hec] at hj hn
    simp at hj
    obtain ⟨c, rfl⟩ : ∃ c, cs = [c] := by
      match cs, hpos, hj with
      | [c], _, _ => exact ⟨c, rfl⟩
      | c :: c' :: l, _, h => simp at h; omega
    obtain ⟨v, rfl⟩ : ∃ v, vs = [v] := by
      match vs, hl with
      | [v], _ => exact ⟨v, rfl⟩
    simp only [List.length_singleton] at hj
    have hj0 : j = 0 := by omega
    subst hj0
    have hp : putCells e 0 [c] = c := by cases e <;> first | rfl | exact (hea ⟨_, rfl⟩).elim
    have hv := h1 v (by simp)
    have hvc : v.cells = #[v] := by cases v <;> first | rfl | simp [Value.oneCell'] at hv
    simp only [OwnL] at hc
    obtain ⟨y, ys, T1, T2, hy, e1, e2, e3, k1, k2⟩ := hc
    simp only [List.cons.injEq] at hy
    obtain ⟨rfl, rfl⟩ := hy
    rw [hp]
    refine ⟨v, k1.weak (fun _ h => h) (fun b h => .inr (e1 b h)) (Agree.refl _ _), ?_, ?_⟩
    · have hz1 : z.cells.toList.drop 1 = [] := List.drop_eq_nil_of_le (by simp at hn ⊢; omega)
      simp [hvc, hz1]
    · rw [hec]
      have : ∀ c' : AV, Own w' d' F T1 c' v → c'.cells.length = 1 := fun c' hc' => by
        cases c' with
        | agg l => simp only [Own] at hc'; obtain ⟨ys, rfl, _⟩ := hc'; simp [Value.oneCell'] at hv
        | _ => rfl
      simpa using this c k1

theorem cell_setRow {w : World} {b p off : Nat} {cur : Array Value} {T : TypeId} {vs : List Value} (hg : w.heap[b]? = some (.cells cur T (0, 0))) (hfit : p + vs.length ≤ cur.size) :
    (w.setRow b (cur.toList.take p ++ vs ++ cur.toList.drop (p + vs.length)).toArray).cell? ⟨b, off, none⟩ = if p ≤ off ∧ off < p + vs.length then vs[off - p]? else w.cell? ⟨b, off, none⟩ := by
  simp only [World.cell?, setRow_heap w b cur _ T (0, 0) hg, hg]
  simp only [Option.isSome_none, Bool.false_eq_true, if_false, List.getElem?_toArray]
  have hlt : (cur.toList.take p).length = p := by simp; omega
  by_cases h1 : off < p
  · rw [if_neg (by omega), List.append_assoc, List.getElem?_append_left (by omega), List.getElem?_take, if_pos h1]
    simp
  · by_cases h2 : off < p + vs.length
    · rw [if_pos ⟨by omega, h2⟩, List.getElem?_append_left (by simp; omega), List.getElem?_append_right (by omega), hlt]
    · rw [if_neg (by omega), List.getElem?_append_right (by simp; omega), List.getElem?_drop]
      have : p + vs.length + (off - (cur.toList.take p ++ vs).length) = off := by simp; omega
      rw [this]; simp

/-- Behind a store of numbers into cells j .. j + m of element i whatever leads through the row's other cells leads there still. -/
theorem follow_store {w w' : World} {d : Bool} {F S : Nat → Prop} {nl : Bool} {sz : Nat} {es : List AV} {b o' hl hc : Nat} {i j : Nat} {e : AV} {cs : List AV}
    (hrow : OwnRow w d F (fun x => S x ∧ x ≠ b) b sz o' es) (hFb : ¬ F b) (hag : ∀ x, x ≠ b → w'.heap[x]? = w.heap[x]?) (he : es[i]? = some e) (hj : j + cs.length ≤ sz) (hesz : e.cells.length = sz) (hv : ∀ c ∈ cs, ∃ v, c = .v v) (hpos : 0 < cs.length)
    (hcell : ∀ off, ¬ (o' + i * sz + j ≤ off ∧ off < o' + i * sz + j + cs.length) → w'.cell? ⟨b, off, none⟩ = w.cell? ⟨b, off, none⟩) :
    ∀ (p : List (Nat × Nat)) (nl' : Bool) (sz' : Nat) (es' : List AV), p ≠ [] → getAt (.sl nl sz (es.set i (putCells e j cs))) p = .sl nl' sz' es' →
      getAt (.sl nl sz es) p = .sl nl' sz' es' ∧ ∀ h, follow w (.sl nl sz es) (.slice (some ⟨b, o', none⟩) hl hc) p = some h → follow w' (.sl nl sz (es.set i (putCells e j cs))) (.slice (some ⟨b, o', none⟩) hl hc) p = some h := by
  intro p nl' sz' es' hp hg
  cases p with
  | nil => exact (hp rfl).elim
  | cons ij p =>
    obtain ⟨i', j'⟩ := ij
    have hlt : i < es.length := (List.getElem?_eq_some_iff.1 he).1
    -- the element and the cell that the path takes
    have key : ∀ e1 c1, es[i']? = some e1 → e1.cells[j']? = some c1 → ¬ (i' = i ∧ j ≤ j' ∧ j' < j + cs.length) → (∃ e2, (es.set i (putCells e j cs))[i']? = some e2 ∧ e2.cells[j']? = some c1) →
        getAt c1 p = .sl nl' sz' es' → ∀ h, follow w (.sl nl sz es) (.slice (some ⟨b, o', none⟩) hl hc) ((i', j') :: p) = some h → follow w' (.sl nl sz (es.set i (putCells e j cs))) (.slice (some ⟨b, o', none⟩) hl hc) ((i', j') :: p) = some h := by
      intro e1 c1 h1 h2 hn ⟨e2, h3, h4⟩ hg1 h hf
      obtain ⟨x, g1, g2, g3, g4⟩ := OwnRow.get hrow i' e1 h1
      obtain ⟨y, hy, hoy⟩ := Own.cell g1 (by rw [g2, g3]) j' c1 h2
      have hjsz : j' < sz := by rw [← g3]; exact (List.getElem?_eq_some_iff.1 h2).1
      have hc0 : w.cell? ⟨b, o' + i' * sz + j', none⟩ = some y := g4 j' y (by simpa using hy)
      have hoff : ¬ (o' + i * sz + j ≤ o' + i' * sz + j' ∧ o' + i' * sz + j' < o' + i * sz + j + cs.length) := by
        rintro ⟨q1, q2⟩
        apply hn
        have hii : i' = i := by
          rcases Nat.lt_trichotomy i' i with hlt' | heq | hgt
          · have := Nat.mul_le_mul_right sz (show i' + 1 ≤ i by omega)
            rw [Nat.add_mul] at this; omega
          · exact heq
          · have := Nat.mul_le_mul_right sz (show i + 1 ≤ i' by omega)
            rw [Nat.add_mul] at this; omega
        subst hii
        exact ⟨rfl, by omega, by omega⟩
      have hc1 : w'.cell? ⟨b, o' + i' * sz + j', none⟩ = some y := by rw [hcell _ hoff]; exact hc0
      simp only [follow, h1, h2, hc0] at hf
      simp only [follow, h3, h4, hc1]
      obtain ⟨h', k1, _⟩ := follow_ok p c1 y nl' sz' es' hoy hg1
      have : h = h' := by have := k1 w (Agree.refl _ _); rw [hf] at this; exact Option.some.inj this
      subst this
      exact k1 w' fun x hx => hag x fun e => by subst e; rcases hx with hx | hx; exact hFb hx; exact hx.2 rfl
    by_cases hii : i' = i
    · subst hii
      simp only [getAt, List.getElem?_set_self hlt] at hg
      -- the written element
      have hput : ∀ m, (putCells e j cs).cells[m]? = if j ≤ m ∧ m < j + cs.length then cs[m - j]? else e.cells[m]? := by
        intro m
        by_cases hea : ∃ ds, e = .agg ds
        · obtain ⟨ds, rfl⟩ := hea
          simp only [putCells, AV.cells] at hesz ⊢
          have hlt1 : (ds.take j).length = j := by simp; omega
          by_cases h1 : m < j
          · rw [if_neg (by omega), List.append_assoc, List.getElem?_append_left (by omega), List.getElem?_take, if_pos h1]
          · by_cases h2 : m < j + cs.length
            · rw [if_pos ⟨by omega, h2⟩, List.getElem?_append_left (by simp; omega), List.getElem?_append_right (by omega), hlt1]
            · rw [if_neg (by omega), List.getElem?_append_right (by simp; omega), List.getElem?_drop]
              congr 1; simp; omega
        · have hec : e.cells = [e] := by cases e <;> first | rfl | exact (hea ⟨_, rfl⟩).elim
          rw [hec] at hesz
          simp at hesz
          obtain ⟨c, rfl⟩ : ∃ c, cs = [c] := by
            match cs, hpos, hj with
            | [c], _, _ => exact ⟨c, rfl⟩
            | c :: c' :: l, _, h => simp at h; omega
          simp only [List.length_singleton] at hj ⊢
          obtain rfl : j = 0 := by omega
          have hp' : putCells e 0 [c] = c := by cases e <;> first | rfl | exact (hea ⟨_, rfl⟩).elim
          obtain ⟨v, rfl⟩ := hv c (by simp)
          rw [hp', hec]
          by_cases h0 : m = 0
          · subst h0; simp [AV.cells]
          · rw [if_neg (by omega), List.getElem?_eq_none (by simp [AV.cells]; omega), List.getElem?_eq_none (by simp; omega)]
      by_cases hin : j ≤ j' ∧ j' < j + cs.length
      · have : ∃ v, (putCells e j cs).cells[j']? = some (.v v) := by
          rw [hput j', if_pos hin]
          have hl : j' - j < cs.length := by omega
          rw [List.getElem?_eq_getElem hl]
          obtain ⟨v, hv⟩ := hv _ (List.getElem_mem hl)
          exact ⟨v, by rw [hv]⟩
        obtain ⟨v, hv⟩ := this
        rw [hv] at hg
        simp only [] at hg
        cases p <;> simp [getAt] at hg
      · have hsame : (putCells e j cs).cells[j']? = e.cells[j']? := by rw [hput j', if_neg hin]
        cases hc1 : e.cells[j']? with
        | none => rw [hsame, hc1] at hg; simp at hg
        | some c1 =>
          rw [hsame, hc1] at hg
          simp only [] at hg
          refine ⟨by simp only [getAt, he, hc1]; exact hg, key e c1 he hc1 (fun h => hin h.2) ⟨_, List.getElem?_set_self hlt, by rw [hsame, hc1]⟩ hg⟩
    · have hs : (es.set i (putCells e j cs))[i']? = es[i']? := List.getElem?_set_ne (fun h => hii h.symm)
      simp only [getAt, hs] at hg ⊢
      cases he1 : es[i']? with
      | none => rw [he1] at hg; simp at hg
      | some e1 =>
        rw [he1] at hg
        simp only [] at hg
        cases hc1 : e1.cells[j']? with
        | none => rw [hc1] at hg; simp at hg
        | some c1 =>
          rw [hc1] at hg
          simp only [] at hg
          refine ⟨by simp only [hc1]; exact hg, key e1 c1 he1 hc1 (fun h => hii h.1) ⟨e1, by rw [hs]; exact he1, hc1⟩ hg⟩

theorem scal_frz {x : AV} (h : scal x = true) : Ax.frz x = true := by
  cases x with
  | v z => rfl
  | agg cs =>
    simp only [scal, Ax.frz, List.all_eq_true] at h ⊢
    intro c hc
    have := h c hc
    split at this
    · rfl
    · simp at this
  | _ => simp [scal] at h

theorem Rep.cellsL {w : World} {F : Nat → Prop} {x : AV} {y : Value} (h : Rep w F x y) (hf : Ax.frz x = true) : RepL w F x.cells y.cells.toList ∧ ∀ z ∈ y.cells.toList, z.oneCell' = true := by
  cases x with
  | v z =>
    have h0 := h
    simp only [Rep] at h; obtain ⟨rfl, h⟩ := h
    have : y.cells = #[y] := by cases y <;> first | rfl | simp [Value.oneCell'] at h
    rw [this]; simp [AV.cells, RepL, Rep, h]
  | sl nl sz es =>
    have h0 := h
    simp only [Rep] at h; obtain ⟨a, l, c, rfl, _⟩ := h
    simp [AV.cells, Value.cells, RepL, h0, Value.oneCell']
  | fp e j =>
    have h0 := h
    simp only [Rep] at h; obtain ⟨b, o, z, rfl, _⟩ := h
    simp [AV.cells, Value.cells, RepL, h0, Value.oneCell']
  | agg cs =>
    simp only [Rep] at h; obtain ⟨ys, rfl, h⟩ := h
    refine ⟨by simpa [AV.cells, Value.cells] using h, ?_⟩
    simp only [Ax.frz, List.all_eq_true] at hf
    simp only [Value.cells]
    generalize ys.toList = l at h
    clear ys
    induction cs generalizing l with
    | nil => simp only [RepL] at h; subst h; simp
    | cons c cs ih =>
      simp only [RepL] at h
      obtain ⟨z, l, rfl, h1, h2⟩ := h
      intro y hy
      rcases List.mem_cons.1 hy with rfl | hy
      · have := hf c (by simp)
        split at this
        · simp only [Rep] at h1; rw [h1.1]; exact h1.2
        · simp only [Rep] at h1; obtain ⟨_, _, _, rfl, _⟩ := h1; rfl
        · simp only [Rep] at h1; obtain ⟨_, _, _, rfl, _⟩ := h1; rfl
        · simp at this
      · exact ih (fun c hc => hf c (by simp [hc])) l h2 y hy
  | _ => simp [Ax.frz] at hf

/-- A store of what is the call's own into a row of the call's own: it becomes a part of that row. -/
theorem goes_absorb (hC : C.Ok P) (hs : SR U w0 st E a w) {t : TypeId} {ad x : Operand} (ho : o.op = .store t ad x) {ti : TI} (hti : C.T t = some ti) {k i j : Nat} (hpt : ev st.slots ad = .ptr k [] i j) {tk : Tok} (htk : st.toks[k]? = some tk)
    {nl : Bool} {sz : Nat} {es : List AV} (hrow : tk.row = .sl nl sz es) {e : AV} (he : es[i]? = some e) {q : AV × List Nat} (hq : ownR st.toks (ev st.slots x) = some q)
    (hcond : q.2.Nodup ∧ k ∉ q.2 ∧ flat q.1.cells = true ∧ q.1.cells.length = ti.size ∧ j + ti.size ≤ sz ∧ 0 < ti.size) :
    Goes P o a w U w0 ⟨.junk, (drops st.slots st.toks q.2).1.map (killN k), (drops st.slots st.toks q.2).2.set k ⟨tk.deep, .sl nl sz (es.set i (putCells e j q.1.cells))⟩⟩ := by
  have ht := hC.T t ti hti
  obtain ⟨hnd, hkq, hflat, hcl, hjm, hpos⟩ := hcond
  have hlt : i < es.length := (List.getElem?_eq_some_iff.1 he).1
  have hpv := hs.ev ad
  rw [hpt] at hpv
  simp only [SRep] at hpv
  obtain ⟨b, o', hl, hc, q1, hy⟩ := hpv.2 tk nl sz es htk (by simp [getAt, hrow]) hlt
  simp only [follow, Option.some.injEq] at q1
  have hv : Own w true E.F (SU E q.2) q.1 (a.eval x) := ownR_ok hs _ _ q (hs.ev x) hq hnd
  have hvc := hv.flatL hflat
  have hone := hvc.flat hflat
  have hvl : (a.eval x).cells.toList.length = ti.size := by rw [hvc.len, hcl]
  have hyn : (a.eval x).cells.size = ti.size := by simpa using hvl
  obtain ⟨E1, f1, f2, f3, hs1⟩ := SR.drops q.2 (slots := st.slots) (toks := st.toks) hs
  have htk1 : (drops st.slots st.toks q.2).2[k]? = some tk := (drops_get q.2 hkq).trans htk
  generalize hst1 : drops st.slots st.toks q.2 = st1 at hs1 htk1 ⊢
  have hlen1 : st1.1.length = st.slots.length := by rw [← hst1]; exact drops_len q.2
  have hkl : k < st1.2.length := (List.getElem?_eq_some_iff.1 htk1).1
  have hSk : ∀ b, E1.S k b ↔ E.S k b := fun b => by rw [f3]; exact ⟨fun h => h.2, fun h => ⟨hkq, h⟩⟩
  have q1' : E1.hd k = .slice (some ⟨b, o', none⟩) hl hc := by rw [f2]; exact q1
  have hSx : ∀ y, SU E q.2 y → (w0.heap.size ≤ y ∨ U y) ∧ y < w.heap.size ∧ ¬ allB E1 y := by
    rintro y ⟨t', ht', hy'⟩
    refine ⟨(hs.slt t' y hy').2.2, (hs.slt t' y hy').1, ?_⟩
    rintro (hF | ⟨t2, h2⟩)
    · rw [f1] at hF; exact (hs.slt t' y hy').2.1 hF
    · rw [f3] at h2
      exact hs.sep t' t2 y (fun e => h2.1 (e ▸ ht')) hy' h2.2
  -- the row
  have hex : Excl w tk.deep E1.F (E1.S k) nl sz es (E1.hd k) := by
    rcases hs1.tok k tk htk1 with hj | ⟨nl', sz', es', h1, h2⟩
    · rw [hrow] at hj; simp at hj
    · rw [hrow] at h1; simp only [AV.sl.injEq] at h1; obtain ⟨rfl, rfl, rfl⟩ := h1; exact h2
  rw [q1'] at hex
  obtain ⟨a1, len, cap, hsl, h1, h2, h3, h4⟩ := hex
  simp only [Value.slice.injEq] at hsl
  obtain ⟨rfl, rfl, rfl⟩ := hsl
  rcases h4 with h4 | ⟨b2, o2, cur, T, hbo, hnl, hSb, hheap, hfit, hown⟩
  · simp at h4
  · simp only [Option.some.injEq, Addr.mk.injEq, and_true] at hbo
    obtain ⟨rfl, rfl⟩ := hbo
    have hFb : ¬ E1.F b := (hs1.slt k b hSb).2.1
    have hSxb : ¬ SU E q.2 b := fun h => (hSx b h).2.2 (.inr ⟨k, hSb⟩)
    have hmul : (i + 1) * sz ≤ hc * sz := Nat.mul_le_mul_right _ (by omega)
    rw [Nat.add_mul] at hmul
    have hfit' : o' + i * sz + j + (a.eval x).cells.toList.length ≤ cur.size := by rw [hvl]; omega
    let w' := w.setRow b (cur.toList.take (o' + i * sz + j) ++ (a.eval x).cells.toList ++ cur.toList.drop (o' + i * sz + j + (a.eval x).cells.toList.length)).toArray
    have hrun : (execOp a.eval o).run P w = .ok .skip w' := by
      have hst := run_storeCells_at (P := P) b (o' + i * sz + j) T (a.eval x).cells.toList 0 cur w hheap (by simpa using hfit') hone
      simp only [Nat.add_zero] at hst
      simp only [execOp, ho, hy, Instr.storeAt, Instr.sureAddr, storeVar, pure_bind, Sem.run_bind, run_size ht, Result.andThen_ok, hyn]
      simp [hst, w']
    have hag : ∀ y, y ≠ b → w'.heap[y]? = w.heap[y]? := fun y hy => setRow_other w b y _ hy
    have hAF : Agree E1.F w w' := fun y hy => hag y fun e => hFb (e ▸ hy)
    have hcell : ∀ off, ¬ (o' + i * sz + j ≤ off ∧ off < o' + i * sz + j + ti.size) → w'.cell? ⟨b, off, none⟩ = w.cell? ⟨b, off, none⟩ := fun off hoff => by
      have := cell_setRow (off := off) hheap hfit'
      rw [hvl] at this
      rw [if_neg hoff] at this
      simpa [w', hvl] using this
    have hcs : OwnL w' tk.deep E1.F (SU E q.2) q.1.cells (a.eval x).cells.toList := by
      have h0 : OwnL w' true E.F (SU E q.2) q.1.cells (a.eval x).cells.toList :=
        OwnL.agree (fun _ h => h) (fun y hy => hag y fun e => hFb (by rw [f1]; exact e ▸ hy)) (fun _ h => h) (fun y hy => hag y fun e => hSxb (e ▸ hy)) _ _ hvc
      have h1 : OwnL w' true E1.F (SU E q.2) q.1.cells (a.eval x).cells.toList := OwnL.deepF _ _ h0
      cases tk.deep with
      | true => exact h1
      | false =>
        have : Own w' false E1.F (SU E q.2) (.agg q.1.cells) (.agg (a.eval x).cells.toList.toArray) :=
          Own.dd (d := true) (by simp only [Own]; exact ⟨_, rfl, by simpa using h1⟩) (by simp)
        simp only [Own] at this
        obtain ⟨ys, h5, h6⟩ := this
        simp only [Value.agg.injEq] at h5
        subst h5; simpa using h6
    have hrow' : OwnRow w' tk.deep E1.F (fun y => (E1.S k y ∧ y ≠ b) ∨ SU E q.2 y) b sz o' (es.set i (putCells e j q.1.cells)) := by
      refine OwnRow.upd (w := w) (d := tk.deep) (Sx := SU E q.2) id hag hFb (fun y hy => hy.2) (fun y hy h => (hSx y hy).2.2 (.inr ⟨k, h.1⟩)) o' es i hown he (fun off hoff => hcell off (by omega)) fun S1 z hS1 hz hzs hes hat => ?_
      obtain ⟨x', g1, g2, g3⟩ := put_own (w' := w') (Sx := SU E q.2) (j := j) id hz (by rw [hzs, hes]) (fun y hy => hag y (by rcases hy with hy | hy; exact fun e => hFb (e ▸ hy); exact (hS1 y hy).2)) hcs hone (fun y h h' => (hSx y h).2.2 (.inr ⟨k, (hS1 y h').1⟩)) (by rw [hcl, hes]; exact hjm) (by rw [hcl]; exact hpos)
      refine ⟨x', g1, ?_, by rw [g3, hes], fun q y hq => ?_⟩
      · rw [← Array.length_toList, g2]; simp [hzs, hvl]; omega
      · rw [g2] at hq
        have hcq := cell_setRow (off := o' + i * sz + q) hheap hfit'
        rw [show w'.cell? ⟨b, o' + i * sz + q, none⟩ = _ from hcq]
        have hzl : z.cells.toList.length = sz := by simpa using hzs
        rw [hvl] at hq ⊢
        by_cases h1 : q < j
        · rw [if_neg (by omega)]
          rw [List.append_assoc, List.getElem?_append_left (by rw [List.length_take]; omega), List.getElem?_take, if_pos h1] at hq
          exact hat q y hq
        · by_cases h2 : q < j + ti.size
          · rw [if_pos ⟨by omega, by omega⟩]
            rw [List.getElem?_append_left (by rw [List.length_append, List.length_take, hvl]; omega), List.getElem?_append_right (by rw [List.length_take]; omega), List.length_take] at hq
            rw [← hq]; congr 1; omega
          · rw [if_neg (by omega)]
            rw [List.getElem?_append_right (by rw [List.length_append, List.length_take, hvl]; omega), List.length_append, List.length_take, hvl, List.getElem?_drop] at hq
            rw [show j + ti.size + (q - (min j z.cells.toList.length + ti.size)) = q by omega] at hq
            exact hat q y hq
    intro hd0 next Q hn
    have hfr : Frm (fun y => E1.S k y) w w' := ⟨rfl, rfl, rfl, by simp [w', World.setRow], fun y _ hy => hag y fun e => hy (e ▸ hSb)⟩
    have hsz' : w'.heap.size = w.heap.size := by simp [w', World.setRow]
    obtain ⟨E', e1, e2, e3, e4⟩ := hs1.setTok (slots' := st1.1.map (killN k)) (tk' := ⟨tk.deep, .sl nl sz (es.set i (putCells e j q.1.cells))⟩) htk1 (E1.hd k) (fun y => E1.S k y ∨ SU E q.2 y) hfr
      (fun y hy => hy.imp id fun h => ⟨(hSx y h).1, by rw [hsz']; exact (hSx y h).2.1, (hSx y h).2.2⟩)
      (.inr ⟨nl, sz, _, rfl, by
        rw [q1']
        refine ⟨_, hl, hc, rfl, by rw [h1]; simp, h2, h3, .inr ⟨b, o', _, T, rfl, hnl, .inl hSb, setRow_heap w b cur _ T (0, 0) hheap, ?_, hrow'.agree' (fun y hy => hy.elim (fun h => ⟨.inl h.1, h.2⟩) fun h => ⟨.inr h, fun e => hSxb (e ▸ h)⟩)⟩⟩
        have : (cur.toList.take (o' + i * sz + j) ++ (a.eval x).cells.toList ++ cur.toList.drop (o' + i * sz + j + (a.eval x).cells.toList.length)).toArray.size = cur.size := by
          simp; simp at hfit'; omega
        rw [this]; exact hfit⟩) (by simp) (fun E' e1 e2 e3 e4 i' z hz => by
          rw [List.getElem?_map] at hz
          cases hz0 : st1.1[i']? with
          | none => rw [hz0] at hz; simp at hz
          | some z0 =>
            rw [hz0] at hz
            simp only [Option.map_some, Option.some.injEq] at hz
            subst hz
            have hset : (st1.2.set k ⟨tk.deep, .sl nl sz (es.set i (putCells e j q.1.cells))⟩)[k]? = some ⟨tk.deep, .sl nl sz (es.set i (putCells e j q.1.cells))⟩ := List.getElem?_set_self hkl
            have hset' : ∀ t, t ≠ k → (st1.2.set k ⟨tk.deep, .sl nl sz (es.set i (putCells e j q.1.cells))⟩)[t]? = st1.2[t]? := fun t h => List.getElem?_set_ne (fun e => h e.symm)
            have hfol : ∀ t, t ≠ k → ∀ tk' p nl' sz' es'', st1.2[t]? = some tk' → getAt tk'.row p = .sl nl' sz' es'' → ∀ h, follow w tk'.row (E1.hd t) p = some h → follow w' tk'.row (E'.hd t) p = some h := by
              intro t htk' tk' p nl' sz' es'' h1 h2 h h3
              rcases hs1.tokOk t tk' h1 with hj | ⟨nl0, sz0, es0, g1, g2⟩
              · rw [hj] at h2; cases p <;> simp [getAt] at h2
              · rw [g1] at h2 h3 ⊢
                obtain ⟨h', k1, _⟩ := follow_ok p _ _ nl' sz' es'' g2.own h2
                have : h = h' := by have := k1 w (Agree.refl _ _); rw [h3] at this; exact Option.some.inj this
                subst this
                rw [e3 t htk']
                exact k1 w' fun y hm => hag y fun e => by rw [e] at hm; exact hm.elim hFb fun hm => hs1.sep t k b htk' hm hSb
            refine SRep.chgN hAF (fun y hy => by rw [e1]; exact hy) (fun t p lo n y hnk hr => ?_) (fun t p i j y hnk hr => ?_) z0 _ (hs1.slot i' z0 hz0)
            · refine ⟨by simpa using hr.1, fun tk' nl' sz' es'' h1 h2 h3 => ?_⟩
              by_cases htk' : t = k
              · subst htk'
                have hp : p = [] := Classical.byContradiction fun hp => hnk ⟨rfl, hp⟩
                subst hp
                rw [hset] at h1; obtain rfl := Option.some.inj h1
                simp only [getAt, AV.sl.injEq] at h2; obtain ⟨rfl, rfl, rfl⟩ := h2
                obtain ⟨h, g1, g2⟩ := hr.2 tk nl sz es htk1 (by simp [getAt, hrow]) (by simpa using h3)
                exact ⟨h, by simp only [follow] at g1 ⊢; rw [e2]; exact g1, g2⟩
              · rw [hset' t htk'] at h1
                obtain ⟨h, g1, g2⟩ := hr.2 tk' nl' sz' es'' h1 h2 h3
                exact ⟨h, hfol t htk' tk' p nl' sz' es'' h1 h2 h g1, g2⟩
            · refine ⟨by simpa using hr.1, fun tk' nl' sz' es'' h1 h2 h3 => ?_⟩
              by_cases htk' : t = k
              · subst htk'
                have hp : p = [] := Classical.byContradiction fun hp => hnk ⟨rfl, hp⟩
                subst hp
                rw [hset] at h1; obtain rfl := Option.some.inj h1
                simp only [getAt, AV.sl.injEq] at h2; obtain ⟨rfl, rfl, rfl⟩ := h2
                obtain ⟨b1, o1, l1, c1, g1, g2⟩ := hr.2 tk nl sz es htk1 (by simp [getAt, hrow]) (by simpa using h3)
                exact ⟨b1, o1, l1, c1, by simp only [follow] at g1 ⊢; rw [e2]; exact g1, g2⟩
              · rw [hset' t htk'] at h1
                obtain ⟨b1, o1, l1, c1, g1, g2⟩ := hr.2 tk' nl' sz' es'' h1 h2 h3
                exact ⟨b1, o1, l1, c1, hfol t htk' tk' p nl' sz' es'' h1 h2 _ g1, g2⟩)
    unfold Oper.wp
    rw [hrun]
    have := hn E' (a.put o.dst undef) w' (SR.put e4 o.dst hd0 (x := .junk) (y := undef) (by simp [SRep]))
    exact this

theorem goes_store (hC : C.Ok P) (hs : SR U w0 st E a w) {t : TypeId} {ad x : Operand} (ho : o.op = .store t ad x)
    (hP : ∀ (ti : TI) (tk : Tok) (nl : Bool) (sz : Nat) (es : List AV) (e : AV) (k : Nat) (p : List (Nat × Nat)) (i j : Nat), C.T t = some ti → ev st.slots ad = .ptr k p i j → st.toks[k]? = some tk → getAt tk.row p = .sl nl sz es → es[i]? = some e →
      (tk.deep = true ∧ scal (ev st.slots x) = true ∧ (ev st.slots x).cells.length = ti.size ∧ j + ti.size ≤ sz ∧ 0 < ti.size) → Goes P o a w U w0 ⟨.junk, st.slots.map (killN k), st.toks.set k ⟨true, setAt tk.row p (.sl nl sz (es.set i (putCells e j (ev st.slots x).cells)))⟩⟩)
    {out : Out} (h : aop C (.store t ad x) st.slots st.toks = some out) : Goes P o a w U w0 out := by
  simp only [aop] at h
  split at h
  · rename_i ti hti
    have ht := hC.T t ti hti
    split at h
    · rename_i k i j hpt
      split at h
      · rename_i tk htk
        split at h
        · rename_i nl sz es hrow
          split at h
          · rename_i e he
            have hlt : i < es.length := (List.getElem?_eq_some_iff.1 he).1
            have hkl : k < st.toks.length := (List.getElem?_eq_some_iff.1 htk).1
            have hpv := hs.ev ad
            rw [hpt] at hpv
            simp only [SRep] at hpv
            obtain ⟨b, o', hl, hc, q1, hy⟩ := hpv.2 tk nl sz es htk (by simp [getAt, hrow]) hlt
            simp only [follow, Option.some.injEq] at q1
            -- the row
            have hex : Excl w tk.deep E.F (E.S k) nl sz es (E.hd k) := by
              rcases hs.tok k tk htk with hj | ⟨nl', sz', es', h1, h2⟩
              · rw [hrow] at hj; simp at hj
              · rw [hrow] at h1; simp only [AV.sl.injEq] at h1; obtain ⟨rfl, rfl, rfl⟩ := h1; exact h2
            rw [q1] at hex
            obtain ⟨a1, len, cap, hsl, h1, h2, h3, h4⟩ := hex
            simp only [Value.slice.injEq] at hsl
            obtain ⟨rfl, rfl, rfl⟩ := hsl
            rcases h4 with h4 | ⟨b2, o2, cur, T, hbo, hnl, hSb, hheap, hfit, hown⟩
            · simp at h4
            · simp only [Option.some.injEq, Addr.mk.injEq, and_true] at hbo
              obtain ⟨rfl, rfl⟩ := hbo
              have hFb : ¬ E.F b := (hs.slt k b hSb).2.1
              have hmul : (i + 1) * sz ≤ hc * sz := Nat.mul_le_mul_right _ (by omega)
              rw [Nat.add_mul] at hmul
              -- what both ways have in common
              have common : ∀ (d' : Bool) (slots' : List AV), Ax.frz (ev st.slots x) = true → (ev st.slots x).cells.length = ti.size → j + ti.size ≤ sz → 0 < ti.size → (d' = true → tk.deep = true ∧ scal (ev st.slots x) = true) → slots'.length = st.slots.length →
                  (∀ w' E', Agree E.F w w' → (∀ x, x ≠ b → w'.heap[x]? = w.heap[x]?) → (∀ off, ¬ (o' + i * sz + j ≤ off ∧ off < o' + i * sz + j + ti.size) → w'.cell? ⟨b, off, none⟩ = w.cell? ⟨b, off, none⟩) →
                    E'.F = E.F → E'.hd k = E.hd k → (∀ t, t ≠ k → E'.hd t = E.hd t) → (∀ t, t ≠ k → E'.S t = E.S t) → ∀ i' z, slots'[i']? = some z → SRep w' E' (st.toks.set k ⟨d', .sl nl sz (es.set i (putCells e j (ev st.slots x).cells))⟩) z (a.tmps.getD i' undef)) →
                  Goes P o a w U w0 ⟨.junk, slots', st.toks.set k ⟨d', .sl nl sz (es.set i (putCells e j (ev st.slots x).cells))⟩⟩ := by
                intro d' slots' hfz hcl hjm hpos hd' hsl' hslots
                have hrx := (hs.ev x).frz hfz
                obtain ⟨hcells, hone⟩ := hrx.cellsL hfz
                have hne : ev st.slots x ≠ .junk := by intro e; rw [e] at hfz; simp [Ax.frz] at hfz
                have hyn : (a.eval x).cells.size = ti.size := by rw [hrx.cellsN hne, hcl]
                have hvl : (a.eval x).cells.toList.length = ti.size := by simpa using hyn
                have hfit' : o' + i * sz + j + (a.eval x).cells.toList.length ≤ cur.size := by rw [hvl]; omega
                let w' := w.setRow b (cur.toList.take (o' + i * sz + j) ++ (a.eval x).cells.toList ++ cur.toList.drop (o' + i * sz + j + (a.eval x).cells.toList.length)).toArray
                have hrun : (execOp a.eval o).run P w = .ok .skip w' := by
                  have hst := run_storeCells_at (P := P) b (o' + i * sz + j) T (a.eval x).cells.toList 0 cur w hheap (by simpa using hfit') hone
                  simp only [Nat.add_zero] at hst
                  simp only [execOp, ho, hy, Instr.storeAt, Instr.sureAddr, storeVar, pure_bind, Sem.run_bind, run_size ht, Result.andThen_ok, hyn]
                  simp [hst, w']
                have hag : ∀ y, y ≠ b → w'.heap[y]? = w.heap[y]? := fun y hy => setRow_other w b y _ hy
                have hAF : Agree E.F w w' := fun y hy => hag y fun e => hFb (e ▸ hy)
                have hcell : ∀ off, ¬ (o' + i * sz + j ≤ off ∧ off < o' + i * sz + j + ti.size) → w'.cell? ⟨b, off, none⟩ = w.cell? ⟨b, off, none⟩ := fun off hoff => by
                  have := cell_setRow (off := off) hheap hfit'
                  rw [hvl] at this
                  rw [if_neg hoff] at this
                  simpa [w', hvl] using this
                have hcs : OwnL w' d' E.F (fun _ => False) (ev st.slots x).cells (a.eval x).cells.toList := by
                  cases d' with
                  | false => exact (RepL.own _ _ (RepL.agree (fun _ h => h) hAF _ _ hcells))
                  | true => exact (OwnL.v_one (RepL.agree (fun _ h => h) hAF _ _ hcells) (scal_cells (hd' rfl).2)).2
                have hdd : d' = true → tk.deep = true := fun h => (hd' h).1
                have hrow' : OwnRow w' d' E.F (fun y => (E.S k y ∧ y ≠ b) ∨ False) b sz o' (es.set i (putCells e j (ev st.slots x).cells)) := by
                  refine OwnRow.upd (w := w) (d := tk.deep) (Sx := fun _ => False) hdd hag hFb (fun y hy => hy.2) (fun _ h => h.elim) o' es i hown he (fun off hoff => hcell off (by omega)) fun S1 z hS1 hz hzs hes hat => ?_
                  obtain ⟨x', g1, g2, g3⟩ := put_own (w' := w') (Sx := fun _ => False) (j := j) hdd hz (by rw [hzs, hes]) (fun y hy => hag y (by rcases hy with hy | hy; exact fun e => hFb (e ▸ hy); exact (hS1 y hy).2)) hcs hone (fun _ h => h.elim) (by rw [hcl, hes]; exact hjm) (by rw [hcl]; exact hpos)
                  refine ⟨x', g1, ?_, by rw [g3, hes], fun q y hq => ?_⟩
                  · rw [← Array.length_toList, g2]; simp [hzs, hvl]; omega
                  · rw [g2] at hq
                    have hcq := cell_setRow (off := o' + i * sz + q) hheap hfit'
                    rw [show w'.cell? ⟨b, o' + i * sz + q, none⟩ = _ from hcq]
                    have hzl : z.cells.toList.length = sz := by simpa using hzs
                    rw [hvl] at hq ⊢
                    by_cases h1 : q < j
                    · rw [if_neg (by omega)]
                      rw [List.append_assoc, List.getElem?_append_left (by rw [List.length_take]; omega), List.getElem?_take, if_pos h1] at hq
                      exact hat q y hq
                    · by_cases h2 : q < j + ti.size
                      · rw [if_pos ⟨by omega, by omega⟩]
                        rw [List.getElem?_append_left (by rw [List.length_append, List.length_take, hvl]; omega), List.getElem?_append_right (by rw [List.length_take]; omega), List.length_take] at hq
                        rw [← hq]; congr 1; omega
                      · rw [if_neg (by omega)]
                        rw [List.getElem?_append_right (by rw [List.length_append, List.length_take, hvl]; omega), List.length_append, List.length_take, hvl, List.getElem?_drop] at hq
                        rw [show j + ti.size + (q - (min j z.cells.toList.length + ti.size)) = q by omega] at hq
                        exact hat q y hq
                intro hd0 next Q hn
                have hfr : Frm (fun y => E.S k y) w w' := ⟨rfl, rfl, rfl, by simp [w', World.setRow], fun y _ hy => hag y fun e => hy (e ▸ hSb)⟩
                obtain ⟨E', e1, e2, e3, e4⟩ := hs.setTok (slots' := slots') (tk' := ⟨d', .sl nl sz (es.set i (putCells e j (ev st.slots x).cells))⟩) htk (E.hd k) (E.S k) hfr (fun y hy => .inl hy)
                  (.inr ⟨nl, sz, _, rfl, by
                    rw [q1]
                    refine ⟨_, hl, hc, rfl, by rw [h1]; simp, h2, h3, .inr ⟨b, o', _, T, rfl, hnl, hSb, setRow_heap w b cur _ T (0, 0) hheap, ?_, hrow'.agree' (fun y hy => hy.resolve_right id)⟩⟩
                    have : (cur.toList.take (o' + i * sz + j) ++ (a.eval x).cells.toList ++ cur.toList.drop (o' + i * sz + j + (a.eval x).cells.toList.length)).toArray.size = cur.size := by
                      simp; simp at hfit'; omega
                    rw [this]; exact hfit⟩) hsl' (fun E' e1 e2 e3 e4 => hslots w' E' hAF hag hcell e1 e2 e3 e4)
                unfold Oper.wp
                rw [hrun]
                have := hn E' (a.put o.dst undef) w' (SR.put e4 o.dst hd0 (x := .junk) (y := undef) (by simp [SRep]))
                exact this
              have other : ∀ (w' : World) (E' : Env) (d' : Bool) (es' : List AV), (∀ x, x ≠ b → w'.heap[x]? = w.heap[x]?) → (∀ t, t ≠ k → E'.hd t = E.hd t) →
                  ∀ t, t ≠ k → (∀ p lo n y, RefOk w E st.toks t p lo n y → RefOk w' E' (st.toks.set k ⟨d', .sl nl sz es'⟩) t p lo n y) ∧ (∀ p i j y, PtrOk w E st.toks t p i j y → PtrOk w' E' (st.toks.set k ⟨d', .sl nl sz es'⟩) t p i j y) := by
                intro w' E' d' es' hag e2 t htk'
                have hset : (st.toks.set k ⟨d', .sl nl sz es'⟩)[t]? = st.toks[t]? := List.getElem?_set_ne (fun h => htk' h.symm)
                have hfol : ∀ tk' p nl' sz' es'', st.toks[t]? = some tk' → getAt tk'.row p = .sl nl' sz' es'' → ∀ h, follow w tk'.row (E.hd t) p = some h → follow w' tk'.row (E'.hd t) p = some h := by
                  intro tk' p nl' sz' es'' h1 h2 h h3
                  rcases hs.tokOk t tk' h1 with hj | ⟨nl0, sz0, es0, g1, g2⟩
                  · rw [hj] at h2; cases p <;> simp [getAt] at h2
                  · rw [g1] at h2 h3 ⊢
                    obtain ⟨h', k1, _⟩ := follow_ok p _ _ nl' sz' es'' g2.own h2
                    have : h = h' := by have := k1 w (Agree.refl _ _); rw [h3] at this; exact Option.some.inj this
                    subst this
                    rw [e2 t htk']
                    exact k1 w' fun y hm => hag y fun e => by rw [e] at hm; exact hm.elim hFb fun hm => hs.sep t k b htk' hm hSb
                refine ⟨fun p lo n y hr => ⟨by simpa using hr.1, fun tk' nl' sz' es'' h1 h2 h3 => ?_⟩, fun p i j y hr => ⟨by simpa using hr.1, fun tk' nl' sz' es'' h1 h2 h3 => ?_⟩⟩
                · rw [hset] at h1
                  obtain ⟨h, g1, g2⟩ := hr.2 tk' nl' sz' es'' h1 h2 h3
                  exact ⟨h, hfol tk' p nl' sz' es'' h1 h2 h g1, g2⟩
                · rw [hset] at h1
                  obtain ⟨b1, o1, l1, c1, g1, g2⟩ := hr.2 tk' nl' sz' es'' h1 h2 h3
                  exact ⟨b1, o1, l1, c1, hfol tk' p nl' sz' es'' h1 h2 _ g1, g2⟩
              have root : ∀ (w' : World) (E' : Env) (d' : Bool) (es' : List AV), es'.length = es.length → E'.hd k = E.hd k →
                  (∀ lo n y, RefOk w E st.toks k [] lo n y → RefOk w' E' (st.toks.set k ⟨d', .sl nl sz es'⟩) k [] lo n y) ∧ (∀ i j y, PtrOk w E st.toks k [] i j y → PtrOk w' E' (st.toks.set k ⟨d', .sl nl sz es'⟩) k [] i j y) := by
                intro w' E' d' es' hl' e1
                have hset : (st.toks.set k ⟨d', .sl nl sz es'⟩)[k]? = some ⟨d', .sl nl sz es'⟩ := List.getElem?_set_self hkl
                refine ⟨fun lo n y hr => ⟨by simpa using hr.1, fun tk' nl' sz' es'' h1 h2 h3 => ?_⟩, fun i j y hr => ⟨by simpa using hr.1, fun tk' nl' sz' es'' h1 h2 h3 => ?_⟩⟩
                all_goals
                  rw [hset] at h1; obtain rfl := Option.some.inj h1
                  simp only [getAt, AV.sl.injEq] at h2; obtain ⟨rfl, rfl, rfl⟩ := h2
                · obtain ⟨h, g1, g2⟩ := hr.2 tk nl sz es htk (by simp [getAt, hrow]) (by omega)
                  exact ⟨h, by simp only [follow] at g1 ⊢; rw [e1]; exact g1, g2⟩
                · obtain ⟨b1, o1, l1, c1, g1, g2⟩ := hr.2 tk nl sz es htk (by simp [getAt, hrow]) (by omega)
                  exact ⟨b1, o1, l1, c1, by simp only [follow] at g1 ⊢; rw [e1]; exact g1, g2⟩
              split at h
              · rename_i hcond
                obtain ⟨hsc, hcl, hjm, hpos⟩ := hcond
                simp only [Option.some.injEq] at h; subst h
                refine common tk.deep st.slots (scal_frz hsc) hcl hjm hpos (fun h => ⟨h, hsc⟩) rfl fun w' E' hAF hag hcell e0 e1 e2 e3 i' z hz => ?_
                have hfs := follow_store (w' := w') (hl := hl) (hc := hc) (nl := nl) hown hFb hag he (by rw [hcl]; exact hjm) (by obtain ⟨_, _, _, q, _⟩ := OwnRow.get hown i e he; exact q) (scal_cells hsc) (by rw [hcl]; exact hpos) (by rw [hcl]; exact hcell)
                have hset : (st.toks.set k ⟨tk.deep, .sl nl sz (es.set i (putCells e j (ev st.slots x).cells))⟩)[k]? = some ⟨tk.deep, .sl nl sz (es.set i (putCells e j (ev st.slots x).cells))⟩ := List.getElem?_set_self hkl
                refine SRep.chg hAF (fun y hy => by rw [e0]; exact hy) (fun t p lo n y hr => ?_) (fun t p i j y hr => ?_) z _ (hs.slot i' z hz)
                · by_cases htk' : t = k
                  · subst htk'
                    by_cases hp : p = []
                    · subst hp; exact (root w' E' _ _ (by simp) e1).1 lo n y hr
                    · refine ⟨by simpa using hr.1, fun tk' nl' sz' es'' h1 h2 h3 => ?_⟩
                      rw [hset] at h1; obtain rfl := Option.some.inj h1
                      obtain ⟨g1, g2⟩ := hfs p nl' sz' es'' hp h2
                      obtain ⟨h, k1, k2⟩ := hr.2 tk nl' sz' es'' htk (by rw [hrow]; exact g1) h3
                      rw [hrow, q1] at k1
                      exact ⟨h, by rw [e1, q1]; exact g2 h k1, k2⟩
                  · exact (other w' E' _ _ hag e2 t htk').1 p lo n y hr
                · by_cases htk' : t = k
                  · subst htk'
                    by_cases hp : p = []
                    · subst hp; exact (root w' E' _ _ (by simp) e1).2 i j y hr
                    · refine ⟨by simpa using hr.1, fun tk' nl' sz' es'' h1 h2 h3 => ?_⟩
                      rw [hset] at h1; obtain rfl := Option.some.inj h1
                      obtain ⟨g1, g2⟩ := hfs p nl' sz' es'' hp h2
                      obtain ⟨b1, o1, l1, c1, k1, k2⟩ := hr.2 tk nl' sz' es'' htk (by rw [hrow]; exact g1) h3
                      rw [hrow, q1] at k1
                      exact ⟨b1, o1, l1, c1, by rw [e1, q1]; exact g2 _ k1, k2⟩
                  · exact (other w' E' _ _ hag e2 t htk').2 p i j y hr
              · split at h
                · rename_i hcond
                  obtain ⟨hsc, hcl, hjm, hpos⟩ := hcond
                  simp only [Option.some.injEq] at h; subst h
                  refine common false (st.slots.map (killN k)) hsc hcl hjm hpos (fun h => by simp at h) (by simp) fun w' E' hAF hag hcell e0 e1 e2 e3 i' z hz => ?_
                  rw [List.getElem?_map] at hz
                  cases hz0 : st.slots[i']? with
                  | none => rw [hz0] at hz; simp at hz
                  | some z0 =>
                    rw [hz0] at hz
                    simp only [Option.map_some, Option.some.injEq] at hz
                    subst hz
                    refine SRep.chgN hAF (fun y hy => by rw [e0]; exact hy) (fun t p lo n y hnk hr => ?_) (fun t p i j y hnk hr => ?_) z0 _ (hs.slot i' z0 hz0)
                    · by_cases htk' : t = k
                      · subst htk'
                        have hp : p = [] := Classical.byContradiction fun hp => hnk ⟨rfl, hp⟩
                        subst hp; exact (root w' E' _ _ (by simp) e1).1 lo n y hr
                      · exact (other w' E' _ _ hag e2 t htk').1 p lo n y hr
                    · by_cases htk' : t = k
                      · subst htk'
                        have hp : p = [] := Classical.byContradiction fun hp => hnk ⟨rfl, hp⟩
                        subst hp; exact (root w' E' _ _ (by simp) e1).2 i j y hr
                      · exact (other w' E' _ _ hag e2 t htk').2 p i j y hr
                · split at h
                  · rename_i q hq
                    split at h
                    · rename_i hcond
                      simp only [Option.some.injEq] at h; subst h
                      exact goes_absorb hC hs ho hti hpt htk hrow he hq hcond
                    · simp at h
                  · simp at h
          · simp at h
        · simp at h
      · simp at h
    · rename_i k p i j _ hpt
      split at h
      · rename_i tk htk
        split at h
        · rename_i nl sz es hg
          split at h
          · rename_i e he
            split at h
            · rename_i hc
              simp only [Option.some.injEq] at h; subst h
              exact hP ti tk nl sz es e k p i j hti hpt htk hg he hc
            · simp at h
          · simp at h
        · simp at h
      · simp at h
    · simp at h
  · simp at h

end

end Go.Proofs.Ytehfjhenilkofaa.Ax
