/-
 A store into a row of the call's own. No condition.
-/
import Derived.Test.YtompijgfpeibnaaGreatDoorCK1
import Derived.Lib.MinMax
import Derived.Laws.Append
import Derived.Great.BuildSlice
namespace Go.Proofs.YtompijgfpeibnaaGreatDoor.Ax
open Go Go.RowKit
section
variable {w w' : World} {E E' : Env} {toks toks' : List Tok}
mutual
theorem SRep.chg (hF : Agree E.F w w') (hFF : ∀ b, E.F b → E'.F b) (hr : ∀ t p lo n y, RefOk w E toks t p lo n y → RefOk w' E' toks' t p lo n y) (hp : ∀ t p i j y, PtrOk w E toks t p i j y → PtrOk w' E' toks' t p i j y) :
  ∀ (x : AV) (y : Value), SRep w E toks x y → SRep w' E' toks' x y
 | .v _, _, k => by simpa [SRep] using k
 | .agg cs, y, k => by simp only [SRep] at k ⊢; obtain ⟨ys, rfl, k⟩ := k; exact ⟨ys, rfl, SRepL.chg hF hFF hr hp cs _ k⟩
 | .tup cs, y, k => by simp only [SRep] at k ⊢; obtain ⟨ys, rfl, k⟩ := k; exact ⟨ys, rfl, SRepL.chg hF hFF hr hp cs _ k⟩
 | .sl nl sz es, y, k => by simp only [SRep] at k ⊢; exact k.weak hFF hF
 | .fp e j, y, k => by simp only [SRep] at k ⊢; exact k.weak hFF hF
 | .fn f cs, y, k => by simp only [SRep] at k ⊢; obtain ⟨ys, rfl, k⟩ := k; exact ⟨ys, rfl, SRepL.chg hF hFF hr hp cs _ k⟩
 | .ref t p lo n, y, k => by simp only [SRep] at k ⊢; exact hr t p lo n y k
 | .ptr t p i j, y, k => by simp only [SRep] at k ⊢; exact hp t p i j y k
 | .junk, _, _ => by simp [SRep]
theorem SRepL.chg (hF : Agree E.F w w') (hFF : ∀ b, E.F b → E'.F b) (hr : ∀ t p lo n y, RefOk w E toks t p lo n y → RefOk w' E' toks' t p lo n y) (hp : ∀ t p i j y, PtrOk w E toks t p i j y → PtrOk w' E' toks' t p i j y) :
  ∀ (x : List AV) (y : List Value), SRepL w E toks x y → SRepL w' E' toks' x y
 | [], _, k => by simpa [SRepL] using k
 | c :: cs, y, k => by
  simp only [SRepL] at k ⊢
  obtain ⟨y, ys, rfl, k1, k2⟩ := k
  exact ⟨y, ys, rfl, SRep.chg hF hFF hr hp c y k1, SRepL.chg hF hFF hr hp cs ys k2⟩
end
mutual
theorem SRep.chgN {k : Nat} (hF : Agree E.F w w') (hFF : ∀ b, E.F b → E'.F b) (hr : ∀ t p lo n y, ¬ (t = k ∧ p ≠ []) → RefOk w E toks t p lo n y → RefOk w' E' toks' t p lo n y) (hp : ∀ t p i j y, ¬ (t = k ∧ p ≠ []) → PtrOk w E toks t p i j y → PtrOk w' E' toks' t p i j y) :
  ∀ (x : AV) (y : Value), SRep w E toks x y → SRep w' E' toks' (killN k x) y
 | .v _, _, k => by simpa [SRep, killN] using k
 | .agg cs, y, k => by simp only [SRep, killN] at k ⊢; obtain ⟨ys, rfl, k⟩ := k; exact ⟨ys, rfl, SRepL.chgN hF hFF hr hp cs _ k⟩
 | .tup cs, y, k => by simp only [SRep, killN] at k ⊢; obtain ⟨ys, rfl, k⟩ := k; exact ⟨ys, rfl, SRepL.chgN hF hFF hr hp cs _ k⟩
 | .sl nl sz es, y, k => by simp only [SRep, killN] at k ⊢; exact k.weak hFF hF
 | .fp e j, y, k => by simp only [SRep, killN] at k ⊢; exact k.weak hFF hF
 | .fn f cs, y, k => by simp only [SRep, killN] at k ⊢; obtain ⟨ys, rfl, k⟩ := k; exact ⟨ys, rfl, SRepL.chgN hF hFF hr hp cs _ k⟩
 | .ref t p lo n, y, h => by
  simp only [killN]; split
  ·simp [SRep]
  ·rename_i hn; simp only [SRep] at h ⊢; exact hr t p lo n y hn h
 | .ptr t p i j, y, h => by
  simp only [killN]; split
  ·simp [SRep]
  ·rename_i hn; simp only [SRep] at h ⊢; exact hp t p i j y hn h
 | .junk, _, _ => by simp [SRep, killN]
theorem SRepL.chgN {k : Nat} (hF : Agree E.F w w') (hFF : ∀ b, E.F b → E'.F b) (hr : ∀ t p lo n y, ¬ (t = k ∧ p ≠ []) → RefOk w E toks t p lo n y → RefOk w' E' toks' t p lo n y) (hp : ∀ t p i j y, ¬ (t = k ∧ p ≠ []) → PtrOk w E toks t p i j y → PtrOk w' E' toks' t p i j y) :
  ∀ (x : List AV) (y : List Value), SRepL w E toks x y → SRepL w' E' toks' (killNL k x) y
 | [], _, k => by simpa [SRepL, killNL] using k
 | c :: cs, y, k => by
  simp only [SRepL, killNL] at k ⊢
  obtain ⟨y, ys, rfl, k1, k2⟩ := k
  exact ⟨y, ys, rfl, SRep.chgN hF hFF hr hp c y k1, SRepL.chgN hF hFF hr hp cs ys k2⟩
end
end
theorem SR.setTok' {U : Ld} {w0 w w' : World} {slots slots' : List AV} {toks : List Tok} {E : Env} {a : Act} {k : Nat} {tk tk' : Tok} (h : SR U w0 ⟨slots, toks⟩ E a w) (htk : toks[k]? = some tk) (hd' : Value) (S' : Nat → Prop)
  (hfr : Frm (fun b => E.S k b) w w') (hS' : ∀ b, S' b → E.S k b ∨ ((w0.heap.size ≤ b ∨ U b) ∧ b < w'.heap.size ∧ ¬ allB E b))
  (hx : tk'.row = .junk ∨ ∃ nl sz es, tk'.row = .sl nl sz es ∧ Excl w' tk'.deep E.F S' nl sz es hd') (hsl : slots'.length = slots.length)
  (hslot : ∀ E' : Env, E'.F = E.F → E'.hd k = hd' → (∀ t, t ≠ k → E'.hd t = E.hd t) → (∀ t, t ≠ k → E'.S t = E.S t) → ∀ i x, slots'[i]? = some x → SRep w' E' (toks.set k tk') x (a.tmps.getD i undef)) :
  ∃ E' : Env, E'.F = E.F ∧ E'.hd k = hd' ∧ (∀ t, t ≠ k → E'.hd t = E.hd t) ∧ (∀ t, t ≠ k → E'.S t = E.S t) ∧ E'.S k = S' ∧ SR U w0 ⟨slots', toks.set k tk'⟩ E' a w' := by
 let E' : Env := { F := E.F, hd := fun t => if t = k then hd' else E.hd t, S := fun t => if t = k then S' else E.S t }
 have hlt : k < toks.length := (List.getElem?_eq_some_iff.1 htk).1
 have e1 : E'.hd k = hd' := by simp [E']
 have e2 : ∀ t, t ≠ k → E'.hd t = E.hd t := fun t ht => by simp [E', ht]
 have e3 : ∀ t, t ≠ k → E'.S t = E.S t := fun t ht => by simp [E', ht]
 have e4 : E'.S k = S' := by simp [E']
 have hblk : ∀ b, b < w.heap.size → ¬ E.S k b → w'.heap[b]? = w.heap[b]? := hfr.block
 refine ⟨E', rfl, e1, e2, e3, e4, ⟨h.defers.mono (fun _ h => h) (fun b hb => hblk b (h.flt b hb) fun e => (h.slt k b e).2.1 hb), by rw [h.size]; exact hsl.symm, hslot E' rfl e1 e2 e3, fun b hb => Nat.lt_of_lt_of_le (h.flt b hb) hfr.size, fun t t' ht => ?_, fun t b hb => ?_, fun t t' b hne hb hb' => ?_, ?_, h.pin⟩⟩
 ·by_cases e : t = k
  ·subst e
   rw [List.getElem?_set_self hlt] at ht
   obtain rfl := Option.some.inj ht
   rw [e1, e4]; exact hx
  ·rw [List.getElem?_set_ne (fun h => e h.symm)] at ht
   rcases h.tokOk t t' ht with hj | ⟨nl, sz, es, h1, h2⟩
   ·exact .inl hj
   ·refine .inr ⟨nl, sz, es, h1, ?_⟩
    rw [e2 t e, e3 t e]
    exact h2.weak (fun _ h => h) (fun _ h => h) fun b hb => hb.elim (fun hb => hblk b (h.flt b hb) fun hk => (h.slt k b hk).2.1 hb) fun hb => hblk b (h.slt t b hb).1 (h.sep t k b e hb)
 ·by_cases e : t = k
  ·subst e
   rw [e4] at hb
   rcases hS' b hb with hb | hb
   ·exact ⟨Nat.lt_of_lt_of_le (h.slt t b hb).1 hfr.size, (h.slt t b hb).2⟩
   ·exact ⟨hb.2.1, fun hF => hb.2.2 (.inl hF), hb.1⟩
  ·rw [e3 t e] at hb
   exact ⟨Nat.lt_of_lt_of_le (h.slt t b hb).1 hfr.size, (h.slt t b hb).2⟩
 ·by_cases e : t = k <;> by_cases e' : t' = k
  ·omega
  ·subst e; rw [e4] at hb; rw [e3 t' e'] at hb'
   rcases hS' b hb with hb | hb
   ·exact h.sep t t' b hne hb hb'
   ·exact hb.2.2 (.inr ⟨t', hb'⟩)
  ·subst e'; rw [e4] at hb'; rw [e3 t e] at hb
   rcases hS' b hb' with hb' | hb'
   ·exact h.sep t t' b hne hb hb'
   ·exact hb'.2.2 (.inr ⟨t, hb⟩)
  ·rw [e3 t e] at hb; rw [e3 t' e'] at hb'; exact h.sep t t' b hne hb hb'
 ·refine ⟨hfr.os.trans h.frame.os, hfr.tape.trans h.frame.tape, hfr.output.trans h.frame.output, Nat.le_trans h.frame.size hfr.size, fun b hb hU => ?_⟩
  rw [hblk b (Nat.lt_of_lt_of_le hb h.frame.size) fun hk => (h.slt k b hk).2.2.elim (fun h => by omega) hU]
  exact h.frame.block b hb hU
theorem SR.setTok {U : Ld} {w0 w w' : World} {slots slots' : List AV} {toks : List Tok} {E : Env} {a : Act} {k : Nat} {tk tk' : Tok} (h : SR U w0 ⟨slots, toks⟩ E a w) (htk : toks[k]? = some tk) (hd' : Value) (S' : Nat → Prop)
  (hfr : Frm (fun b => E.S k b) w w') (hS' : ∀ b, S' b → E.S k b ∨ ((w0.heap.size ≤ b ∨ U b) ∧ b < w'.heap.size ∧ ¬ allB E b))
  (hx : tk'.row = .junk ∨ ∃ nl sz es, tk'.row = .sl nl sz es ∧ Excl w' tk'.deep E.F S' nl sz es hd') (hsl : slots'.length = slots.length)
  (hslot : ∀ E' : Env, E'.F = E.F → E'.hd k = hd' → (∀ t, t ≠ k → E'.hd t = E.hd t) → (∀ t, t ≠ k → E'.S t = E.S t) → ∀ i x, slots'[i]? = some x → SRep w' E' (toks.set k tk') x (a.tmps.getD i undef)) :
  ∃ E' : Env, E'.F = E.F ∧ E'.hd k = hd' ∧ (∀ t, t ≠ k → E'.hd t = E.hd t) ∧ SR U w0 ⟨slots', toks.set k tk'⟩ E' a w' := by
 obtain ⟨E', e1, e2, e3, _, _, e6⟩ := h.setTok' htk hd' S' hfr hS' hx hsl hslot
 exact ⟨E', e1, e2, e3, e6⟩
section
variable {P : Program} {C : Ctx} {o : Oper} {a : Act} {w : World} {U : Ld} {w0 : World} {st : ASt} {E : Env}
theorem OwnL.v_one {w : World} {d : Bool} {F : Nat → Prop} : ∀ {S : Nat → Prop} {cs : List AV} {ys : List Value}, RepL w F cs ys → (∀ c ∈ cs, ∃ x, c = .v x) → (∀ y ∈ ys, y.oneCell' = true) ∧ OwnL w d F S cs ys
 | _, [], ys, h, _ => by simp only [RepL] at h; subst h; simp [OwnL]
 | S, c :: cs, _, h, hc => by
  simp only [RepL] at h
  obtain ⟨y, ys, rfl, h1, h2⟩ := h
  obtain ⟨x, rfl⟩ := hc c (by simp)
  simp only [Rep] at h1
  obtain ⟨rfl, h1⟩ := h1
  obtain ⟨q1, q2⟩ := OwnL.v_one (d := d) (S := fun _ => False) h2 fun c h => hc c (by simp [h])
  refine ⟨fun z hz => by rcases List.mem_cons.1 hz with rfl | hz; exact h1; exact q1 z hz, ?_⟩
  simp only [OwnL]
  exact ⟨y, ys, fun _ => False, fun _ => False, rfl, fun _ h => h.elim, fun _ h => h.elim, fun _ h => h.elim, by simp [Own, h1], q2⟩
theorem OwnL.nilL {w w' : World} {F F' : Nat → Prop} : ∀ {cs : List AV} {ys : List Value}, cs.all nilC = true → RepL w F cs ys → OwnL w' true F' (fun _ => False) cs ys
 | [], ys, _, h => by simp only [RepL] at h; subst h; simp [OwnL]
 | c :: cs, _, hc, h => by
  simp only [List.all_cons, Bool.and_eq_true] at hc
  simp only [RepL] at h
  obtain ⟨y, ys, rfl, h1, h2⟩ := h
  have q2 := OwnL.nilL (F' := F') (w' := w') hc.2 h2
  simp only [OwnL]
  refine ⟨y, ys, fun _ => False, fun _ => False, rfl, fun _ h => h.elim, fun _ h => h.elim, fun _ h => h.elim, ?_, q2⟩
  match c, hc.1, h1 with
  | .v x, _, h1 =>
   simp only [Rep] at h1
   simp [Own, h1]
  | .sl true sz [], _, h1 =>
   simp only [Rep] at h1
   simp only [Own]
   obtain ⟨a, len, cap, rfl, e1, e2, e3, e4⟩ := h1
   refine .inl ⟨a, len, cap, rfl, e1, e2, e3, .inl ?_⟩
   rcases e4 with e4 | ⟨_, _, _, e4, _⟩ | ⟨_, e4, _⟩
   ·exact e4
   ·simp at e4
   ·simp at e4
theorem OwnL.nil1 {w w' : World} {F F' : Nat → Prop} {x : AV} {ys : List Value} (hx : nilS x = true) (h : RepL w F x.cells ys) : OwnL w' true F' (fun _ => False) x.cells ys := by
 refine OwnL.nilL ?_ h
 match x, hx with
 | .sl true sz [], _ => rfl
 | .agg cs, hx => exact hx
theorem scal_cells {x : AV} (h : scal x = true) : ∀ c ∈ x.cells, ∃ v, c = .v v := by
 cases x with
 | v z => intro c hc; simp [AV.cells] at hc; exact ⟨z, hc⟩
 | agg cs =>
  intro c hc
  simp only [scal, List.all_eq_true] at h
  have := h c hc
  split at this
  ·exact ⟨_, rfl⟩
  ·simp at this
 | _ => simp [scal] at h
theorem OwnL.len {w : World} {d : Bool} {F : Nat → Prop} : ∀ {S : Nat → Prop} {cs : List AV} {ys : List Value}, OwnL w d F S cs ys → ys.length = cs.length
 | _, [], _, h => by simp only [OwnL] at h; simp [h]
 | _, c :: cs, _, h => by
  simp only [OwnL] at h
  obtain ⟨y, ys, S1, S2, rfl, _, _, _, _, h⟩ := h
  simp [OwnL.len h]
theorem OwnL.mono {w : World} {d : Bool} {F S S' : Nat → Prop} {cs : List AV} {ys : List Value} (h : OwnL w d F S cs ys) (hS : ∀ b, S b → S' b) : OwnL w d F S' cs ys :=
 OwnL.agree (fun _ h => h) (Agree.refl _ _) hS (Agree.refl _ _) cs ys h
theorem OwnRow.agree' {w : World} {d : Bool} {F S S' : Nat → Prop} {b sz o' : Nat} {es : List AV} (h : OwnRow w d F S b sz o' es) (hS : ∀ y, S y → S' y) : OwnRow w d F S' b sz o' es :=
 OwnRow.agree (fun _ h => h) (Agree.refl _ _) hS (Agree.refl _ _) b sz o' rfl es h
theorem OwnL.app {w : World} {d : Bool} {F : Nat → Prop} : ∀ {S S1 S2 : Nat → Prop} {cs cs' : List AV} {ys ys' : List Value}, OwnL w d F S1 cs ys → OwnL w d F S2 cs' ys' → (∀ b, S1 b → S b) → (∀ b, S2 b → S b) → (∀ b, S1 b → ¬ S2 b) → OwnL w d F S (cs ++ cs') (ys ++ ys')
 | S, S1, S2, [], cs', ys, ys', h, h', h1, h2, h3 => by simp only [OwnL] at h; subst h; simpa using h'.mono h2
 | S, S1, S2, c :: cs, cs', ys, ys', h, h', h1, h2, h3 => by
  simp only [OwnL] at h
  obtain ⟨y, ys, T1, T2, rfl, e1, e2, e3, k1, k2⟩ := h
  simp only [List.cons_append, OwnL]
  refine ⟨y, ys ++ ys', T1, fun b => T2 b ∨ S2 b, rfl, fun b hb => h1 b (e1 b hb), fun b hb => hb.elim (fun hb => h1 b (e2 b hb)) (h2 b), fun b hb h => h.elim (e3 b hb) (h3 b (e1 b hb)), k1, ?_⟩
  exact OwnL.app k2 h' (fun b hb => .inl hb) (fun b hb => .inr hb) fun b hb => h3 b (e2 b hb)
theorem OwnL.split {w : World} {d : Bool} {F : Nat → Prop} : ∀ {S : Nat → Prop} (n : Nat) {cs : List AV} {ys : List Value}, OwnL w d F S cs ys →
  ∃ S1 S2, (∀ b, S1 b → S b) ∧ (∀ b, S2 b → S b) ∧ (∀ b, S1 b → ¬ S2 b) ∧ OwnL w d F S1 (cs.take n) (ys.take n) ∧ OwnL w d F S2 (cs.drop n) (ys.drop n)
 | S, 0, cs, ys, h => ⟨fun _ => False, S, fun _ h => h.elim, fun _ h => h, fun _ h => h.elim, by simp [OwnL], by simpa using h⟩
 | S, n + 1, [], ys, h => ⟨fun _ => False, S, fun _ h => h.elim, fun _ h => h, fun _ h => h.elim, by simp only [OwnL] at h; subst h; simp [OwnL], by simp only [OwnL] at h; subst h; simp [OwnL]⟩
 | S, n + 1, c :: cs, ys, h => by
  simp only [OwnL] at h
  obtain ⟨y, ys, T1, T2, rfl, e1, e2, e3, k1, k2⟩ := h
  obtain ⟨S1, S2, g1, g2, g3, g4, g5⟩ := OwnL.split n k2
  refine ⟨fun b => T1 b ∨ S1 b, S2, fun b hb => hb.elim (e1 b) fun hb => e2 b (g1 b hb), fun b hb => e2 b (g2 b hb), fun b hb h => hb.elim (fun hb => e3 b hb (g2 b h)) fun hb => g3 b hb h, ?_, by simpa using g5⟩
  simp only [List.take_succ_cons, OwnL]
  exact ⟨y, _, T1, S1, rfl, fun b hb => .inl hb, fun b hb => .inr hb, fun b hb h => e3 b hb (g1 b h), k1, g4⟩
theorem put_own {w w' : World} {d d' : Bool} {F S1 Sx : Nat → Prop} {e : AV} {z : Value} {cs : List AV} {vs : List Value} {j : Nat} (hdd : d' = true → d = true) (hown : Own w d F S1 e z) (hn : z.cells.size = e.cells.length) (hA : Agree (fun b => F b ∨ S1 b) w w')
  (hc : OwnL w' d' F Sx cs vs) (h1 : ∀ y ∈ vs, y.oneCell' = true) (hx : ∀ b, Sx b → ¬ S1 b) (hj : j + cs.length ≤ e.cells.length) (hpos : 0 < cs.length) :
  ∃ x', Own w' d' F (fun b => S1 b ∨ Sx b) (putCells e j cs) x' ∧ x'.cells.toList = z.cells.toList.take j ++ vs ++ z.cells.toList.drop (j + vs.length) ∧ (putCells e j cs).cells.length = e.cells.length := by
 have hown' : Own w' d' F S1 e z := (hown.weak (fun _ h => h) (fun _ h => h) hA).dd hdd
 have hl := hc.len
 by_cases hea : ∃ ds, e = .agg ds
 ·obtain ⟨ds, rfl⟩ := hea
  simp only [Own] at hown'
  obtain ⟨zs, rfl, hz⟩ := hown'
  obtain ⟨A, B, a1, a2, a3, a4, a5⟩ := hz.split j
  obtain ⟨A', B', b1, b2, b3, b4, b5⟩ := a5.split cs.length
  simp only [AV.cells] at hj
  have hzl : zs.size = ds.length := by simpa [Value.cells, AV.cells] using hn
  refine ⟨.agg (zs.toList.take j ++ vs ++ zs.toList.drop (j + vs.length)).toArray, ?_, by simp [Value.cells], by simp [putCells, AV.cells]; omega⟩
  simp only [putCells, Own]
  refine ⟨_, rfl, ?_⟩
  simp only []
  rw [hl]
  have b5' : OwnL w' d' F B' (ds.drop (j + cs.length)) (zs.toList.drop (j + cs.length)) := by simpa [List.drop_drop] using b5
  exact OwnL.app (S1 := fun b => A b ∨ Sx b) (OwnL.app a4 hc (fun b h => .inl h) (fun b h => .inr h) fun b h h' => hx b h' (a1 b h)) b5'
   (fun b h => h.imp (a1 b) id) (fun b h => .inl (a2 b (b2 b h))) fun b h h' => h.elim (fun h => a3 b h (b2 b h')) fun h => hx b h (a2 b (b2 b h'))
 ·have hec : e.cells = [e] := by cases e <;> first | rfl | exact (hea ⟨_, rfl⟩).elim
  rw [hec] at hj hn
  simp at hj
  obtain ⟨c, rfl⟩ : ∃ c, cs = [c] := by
   match cs, hpos, hj with
   | [c], _, _ => exact ⟨c, rfl⟩
   | c :: c' :: l, _, h => simp at h; omega
  obtain ⟨v, rfl⟩ : ∃ v, vs = [v] := by
   match vs, hl with
   | [v], _ => exact ⟨v, rfl⟩
  simp only [List.length_singleton] at hj
  have hj0 : j = 0 := by omega
  subst hj0
  have hp : putCells e 0 [c] = c := by cases e <;> first | rfl | exact (hea ⟨_, rfl⟩).elim
  have hv := h1 v (by simp)
  have hvc : v.cells = #[v] := by cases v <;> first | rfl | simp [Value.oneCell'] at hv
  simp only [OwnL] at hc
  obtain ⟨y, ys, T1, T2, hy, e1, e2, e3, k1, k2⟩ := hc
  simp only [List.cons.injEq] at hy
  obtain ⟨rfl, rfl⟩ := hy
  rw [hp]
  refine ⟨v, k1.weak (fun _ h => h) (fun b h => .inr (e1 b h)) (Agree.refl _ _), ?_, ?_⟩
  ·have hz1 : z.cells.toList.drop 1 = [] := List.drop_eq_nil_of_le (by simp at hn ⊢; omega)
   simp [hvc, hz1]
  ·rw [hec]
   have : ∀ c' : AV, Own w' d' F T1 c' v → c'.cells.length = 1 := fun c' hc' => by
    cases c' with
    | agg l => simp only [Own] at hc'; obtain ⟨ys, rfl, _⟩ := hc'; simp [Value.oneCell'] at hv
    | _ => rfl
   simpa using this c k1
theorem cell_setRow {w : World} {b p off : Nat} {cur : Array Value} {T : TypeId} {vs : List Value} (hg : w.heap[b]? = some (.cells cur T (0, 0))) (hfit : p + vs.length ≤ cur.size) :
  (w.setRow b (cur.toList.take p ++ vs ++ cur.toList.drop (p + vs.length)).toArray).cell? ⟨b, off, none⟩ = if p ≤ off ∧ off < p + vs.length then vs[off - p]? else w.cell? ⟨b, off, none⟩ := by
 simp only [World.cell?, setRow_heap w b cur _ T (0, 0) hg, hg]
 simp only [Option.isSome_none, Bool.false_eq_true, if_false, List.getElem?_toArray]
 have hlt : (cur.toList.take p).length = p := by simp; omega
 by_cases h1 : off < p
 ·rw [if_neg (by omega), List.append_assoc, List.getElem?_append_left (by omega), List.getElem?_take, if_pos h1]
  simp
 ·by_cases h2 : off < p + vs.length
  ·rw [if_pos ⟨by omega, h2⟩, List.getElem?_append_left (by simp; omega), List.getElem?_append_right (by omega), hlt]
  ·rw [if_neg (by omega), List.getElem?_append_right (by simp; omega), List.getElem?_drop]
   have : p + vs.length + (off - (cur.toList.take p ++ vs).length) = off := by simp; omega
   rw [this]; simp
theorem follow_store {w w' : World} {d : Bool} {F S : Nat → Prop} {nl : Bool} {sz : Nat} {es : List AV} {b o' hl hc : Nat} {i j : Nat} {e : AV} {cs : List AV}
  (hrow : OwnRow w d F (fun x => S x ∧ x ≠ b) b sz o' es) (hFb : ¬ F b) (hag : ∀ x, x ≠ b → w'.heap[x]? = w.heap[x]?) (he : es[i]? = some e) (hj : j + cs.length ≤ sz) (hesz : e.cells.length = sz) (hv : ∀ c ∈ cs, ∃ v, c = .v v) (hpos : 0 < cs.length)
  (hcell : ∀ off, ¬ (o' + i * sz + j ≤ off ∧ off < o' + i * sz + j + cs.length) → w'.cell? ⟨b, off, none⟩ = w.cell? ⟨b, off, none⟩) :
  ∀ (p : List (Nat × Nat)) (nl' : Bool) (sz' : Nat) (es' : List AV), p ≠ [] → getAt (.sl nl sz (es.set i (putCells e j cs))) p = .sl nl' sz' es' →
   getAt (.sl nl sz es) p = .sl nl' sz' es' ∧ ∀ h, follow w (.sl nl sz es) (.slice (some ⟨b, o', none⟩) hl hc) p = some h → follow w' (.sl nl sz (es.set i (putCells e j cs))) (.slice (some ⟨b, o', none⟩) hl hc) p = some h := by
 intro p nl' sz' es' hp hg
 cases p with
 | nil => exact (hp rfl).elim
 | cons ij p =>
  obtain ⟨i', j'⟩ := ij
  have hlt : i < es.length := (List.getElem?_eq_some_iff.1 he).1
  -- the element and the cell that the path takes
  have key : ∀ e1 c1, es[i']? = some e1 → e1.cells[j']? = some c1 → ¬ (i' = i ∧ j ≤ j' ∧ j' < j + cs.length) → (∃ e2, (es.set i (putCells e j cs))[i']? = some e2 ∧ e2.cells[j']? = some c1) →
    getAt c1 p = .sl nl' sz' es' → ∀ h, follow w (.sl nl sz es) (.slice (some ⟨b, o', none⟩) hl hc) ((i', j') :: p) = some h → follow w' (.sl nl sz (es.set i (putCells e j cs))) (.slice (some ⟨b, o', none⟩) hl hc) ((i', j') :: p) = some h := by
   intro e1 c1 h1 h2 hn ⟨e2, h3, h4⟩ hg1 h hf
   obtain ⟨x, g1, g2, g3, g4⟩ := OwnRow.get hrow i' e1 h1
   obtain ⟨y, hy, hoy⟩ := Own.cell g1 (by rw [g2, g3]) j' c1 h2
   have hjsz : j' < sz := by rw [← g3]; exact (List.getElem?_eq_some_iff.1 h2).1
   have hc0 : w.cell? ⟨b, o' + i' * sz + j', none⟩ = some y := g4 j' y (by simpa using hy)
   have hoff : ¬ (o' + i * sz + j ≤ o' + i' * sz + j' ∧ o' + i' * sz + j' < o' + i * sz + j + cs.length) := by
    rintro ⟨q1, q2⟩
    apply hn
    have hii : i' = i := by
     rcases Nat.lt_trichotomy i' i with hlt' | heq | hgt
     ·have := Nat.mul_le_mul_right sz (show i' + 1 ≤ i by omega)
      rw [Nat.add_mul] at this; omega
     ·exact heq
     ·have := Nat.mul_le_mul_right sz (show i + 1 ≤ i' by omega)
      rw [Nat.add_mul] at this; omega
    subst hii
    exact ⟨rfl, by omega, by omega⟩
   have hc1 : w'.cell? ⟨b, o' + i' * sz + j', none⟩ = some y := by rw [hcell _ hoff]; exact hc0
   simp only [follow, h1, h2, hc0] at hf
   simp only [follow, h3, h4, hc1]
   obtain ⟨h', k1, _⟩ := follow_ok p c1 y nl' sz' es' hoy hg1
   have : h = h' := by have := k1 w (Agree.refl _ _); rw [hf] at this; exact Option.some.inj this
   subst this
   exact k1 w' fun x hx => hag x fun e => by subst e; rcases hx with hx | hx; exact hFb hx; exact hx.2 rfl
  by_cases hii : i' = i
  ·subst hii
   simp only [getAt, List.getElem?_set_self hlt] at hg
   -- the written element
   have hput : ∀ m, (putCells e j cs).cells[m]? = if j ≤ m ∧ m < j + cs.length then cs[m - j]? else e.cells[m]? := by
    intro m
    by_cases hea : ∃ ds, e = .agg ds
    ·obtain ⟨ds, rfl⟩ := hea
     simp only [putCells, AV.cells] at hesz ⊢
     have hlt1 : (ds.take j).length = j := by simp; omega
     by_cases h1 : m < j
     ·rw [if_neg (by omega), List.append_assoc, List.getElem?_append_left (by omega), List.getElem?_take, if_pos h1]
     ·by_cases h2 : m < j + cs.length
      ·rw [if_pos ⟨by omega, h2⟩, List.getElem?_append_left (by simp; omega), List.getElem?_append_right (by omega), hlt1]
      ·rw [if_neg (by omega), List.getElem?_append_right (by simp; omega), List.getElem?_drop]
       congr 1; simp; omega
    ·have hec : e.cells = [e] := by cases e <;> first | rfl | exact (hea ⟨_, rfl⟩).elim
     rw [hec] at hesz
     simp at hesz
     obtain ⟨c, rfl⟩ : ∃ c, cs = [c] := by
      match cs, hpos, hj with
      | [c], _, _ => exact ⟨c, rfl⟩
      | c :: c' :: l, _, h => simp at h; omega
     simp only [List.length_singleton] at hj ⊢
     obtain rfl : j = 0 := by omega
     have hp' : putCells e 0 [c] = c := by cases e <;> first | rfl | exact (hea ⟨_, rfl⟩).elim
     obtain ⟨v, rfl⟩ := hv c (by simp)
     rw [hp', hec]
     by_cases h0 : m = 0
     ·subst h0; simp [AV.cells]
     ·rw [if_neg (by omega), List.getElem?_eq_none (by simp [AV.cells]; omega), List.getElem?_eq_none (by simp; omega)]
   by_cases hin : j ≤ j' ∧ j' < j + cs.length
   ·have : ∃ v, (putCells e j cs).cells[j']? = some (.v v) := by
     rw [hput j', if_pos hin]
     have hl : j' - j < cs.length := by omega
     rw [List.getElem?_eq_getElem hl]
     obtain ⟨v, hv⟩ := hv _ (List.getElem_mem hl)
     exact ⟨v, by rw [hv]⟩
    obtain ⟨v, hv⟩ := this
    rw [hv] at hg
    simp only [] at hg
    cases p <;> simp [getAt] at hg
   ·have hsame : (putCells e j cs).cells[j']? = e.cells[j']? := by rw [hput j', if_neg hin]
    cases hc1 : e.cells[j']? with
    | none => rw [hsame, hc1] at hg; simp at hg
    | some c1 =>
     rw [hsame, hc1] at hg
     simp only [] at hg
     refine ⟨by simp only [getAt, he, hc1]; exact hg, key e c1 he hc1 (fun h => hin h.2) ⟨_, List.getElem?_set_self hlt, by rw [hsame, hc1]⟩ hg⟩
  ·have hs : (es.set i (putCells e j cs))[i']? = es[i']? := List.getElem?_set_ne (fun h => hii h.symm)
   simp only [getAt, hs] at hg ⊢
   cases he1 : es[i']? with
   | none => rw [he1] at hg; simp at hg
   | some e1 =>
    rw [he1] at hg
    simp only [] at hg
    cases hc1 : e1.cells[j']? with
    | none => rw [hc1] at hg; simp at hg
    | some c1 =>
     rw [hc1] at hg
     simp only [] at hg
     refine ⟨by simp only [hc1]; exact hg, key e1 c1 he1 hc1 (fun h => hii h.1) ⟨e1, by rw [hs]; exact he1, hc1⟩ hg⟩
theorem scal_frz {x : AV} (h : scal x = true) : Ax.frz x = true := by
 cases x with
 | v z => rfl
 | agg cs =>
  simp only [scal, Ax.frz, List.all_eq_true] at h ⊢
  intro c hc
  have := h c hc
  split at this
  ·rfl
  ·simp at this
 | _ => simp [scal] at h
theorem Rep.cellsL {w : World} {F : Nat → Prop} {x : AV} {y : Value} (h : Rep w F x y) (hf : Ax.frz x = true) : RepL w F x.cells y.cells.toList ∧ ∀ z ∈ y.cells.toList, z.oneCell' = true := by
 cases x with
 | v z =>
  have h0 := h
  simp only [Rep] at h; obtain ⟨rfl, h⟩ := h
  have : y.cells = #[y] := by cases y <;> first | rfl | simp [Value.oneCell'] at h
  rw [this]; simp [AV.cells, RepL, Rep, h]
 | sl nl sz es =>
  have h0 := h
  simp only [Rep] at h; obtain ⟨a, l, c, rfl, _⟩ := h
  simp [AV.cells, Value.cells, RepL, h0, Value.oneCell']
 | fp e j =>
  have h0 := h
  simp only [Rep] at h; obtain ⟨b, o, z, rfl, _⟩ := h
  simp [AV.cells, Value.cells, RepL, h0, Value.oneCell']
 | agg cs =>
  simp only [Rep] at h; obtain ⟨ys, rfl, h⟩ := h
  refine ⟨by simpa [AV.cells, Value.cells] using h, ?_⟩
  simp only [Ax.frz, List.all_eq_true] at hf
  simp only [Value.cells]
  generalize ys.toList = l at h
  clear ys
  induction cs generalizing l with
  | nil => simp only [RepL] at h; subst h; simp
  | cons c cs ih =>
   simp only [RepL] at h
   obtain ⟨z, l, rfl, h1, h2⟩ := h
   intro y hy
   rcases List.mem_cons.1 hy with rfl | hy
   ·have := hf c (by simp)
    split at this
    ·simp only [Rep] at h1; rw [h1.1]; exact h1.2
    ·simp only [Rep] at h1; obtain ⟨_, _, _, rfl, _⟩ := h1; rfl
    ·simp only [Rep] at h1; obtain ⟨_, _, _, rfl, _⟩ := h1; rfl
    ·simp at this
   ·exact ih (fun c hc => hf c (by simp [hc])) l h2 y hy
 | fn f cs =>
  have h0 := h
  simp only [Rep] at h; obtain ⟨b, rfl, _⟩ := h
  simp [AV.cells, Value.cells, RepL, h0, Value.oneCell']
 | _ => simp [Ax.frz] at hf
theorem goes_absorb (hC : C.Ok P) (hs : SR U w0 st E a w) {t : TypeId} {ad x : Operand} (ho : o.op = .store t ad x) {ti : TI} (hti : C.T t = some ti) {k i j : Nat} (hpt : ev st.slots ad = .ptr k [] i j) {tk : Tok} (htk : st.toks[k]? = some tk)
  {nl : Bool} {sz : Nat} {es : List AV} (hrow : tk.row = .sl nl sz es) {e : AV} (he : es[i]? = some e) {q : AV × List Nat} (hq : ownR st.toks (ev st.slots x) = some q)
  (hcond : q.2.Nodup ∧ k ∉ q.2 ∧ flat q.1.cells = true ∧ q.1.cells.length = ti.size ∧ j + ti.size ≤ sz ∧ 0 < ti.size) :
  Goes P o a w U w0 ⟨.junk, (drops st.slots st.toks q.2).1.map (killN k), (drops st.slots st.toks q.2).2.set k ⟨tk.deep, .sl nl sz (es.set i (putCells e j q.1.cells))⟩⟩ := by
 have ht := hC.T t ti hti
 obtain ⟨hnd, hkq, hflat, hcl, hjm, hpos⟩ := hcond
 have hlt : i < es.length := (List.getElem?_eq_some_iff.1 he).1
 have hpv := hs.ev ad
 rw [hpt] at hpv
 simp only [SRep] at hpv
 obtain ⟨b, o', hl, hc, q1, hy⟩ := hpv.2 tk nl sz es htk (by simp [getAt, hrow]) hlt
 simp only [follow, Option.some.injEq] at q1
 have hv : Own w true E.F (SU E q.2) q.1 (a.eval x) := ownR_ok hs _ _ q (hs.ev x) hq hnd
 have hvc := hv.flatL hflat
 have hone := hvc.flat hflat
 have hvl : (a.eval x).cells.toList.length = ti.size := by rw [hvc.len, hcl]
 have hyn : (a.eval x).cells.size = ti.size := by simpa using hvl
 obtain ⟨E1, f1, f2, f3, hs1⟩ := SR.drops q.2 (slots := st.slots) (toks := st.toks) hs
 have htk1 : (drops st.slots st.toks q.2).2[k]? = some tk := (drops_get q.2 hkq).trans htk
 generalize hst1 : drops st.slots st.toks q.2 = st1 at hs1 htk1 ⊢
 have hlen1 : st1.1.length = st.slots.length := by rw [← hst1]; exact drops_len q.2
 have hkl : k < st1.2.length := (List.getElem?_eq_some_iff.1 htk1).1
 have hSk : ∀ b, E1.S k b ↔ E.S k b := fun b => by rw [f3]; exact ⟨fun h => h.2, fun h => ⟨hkq, h⟩⟩
 have q1' : E1.hd k = .slice (some ⟨b, o', none⟩) hl hc := by rw [f2]; exact q1
 have hSx : ∀ y, SU E q.2 y → (w0.heap.size ≤ y ∨ U y) ∧ y < w.heap.size ∧ ¬ allB E1 y := by
  rintro y ⟨t', ht', hy'⟩
  refine ⟨(hs.slt t' y hy').2.2, (hs.slt t' y hy').1, ?_⟩
  rintro (hF | ⟨t2, h2⟩)
  ·rw [f1] at hF; exact (hs.slt t' y hy').2.1 hF
  ·rw [f3] at h2
   exact hs.sep t' t2 y (fun e => h2.1 (e ▸ ht')) hy' h2.2
 -- the row
 have hex : Excl w tk.deep E1.F (E1.S k) nl sz es (E1.hd k) := by
  rcases hs1.tok k tk htk1 with hj | ⟨nl', sz', es', h1, h2⟩
  ·rw [hrow] at hj; simp at hj
  ·rw [hrow] at h1; simp only [AV.sl.injEq] at h1; obtain ⟨rfl, rfl, rfl⟩ := h1; exact h2
 rw [q1'] at hex
 obtain ⟨a1, len, cap, hsl, h1, h2, h3, h4⟩ := hex
 simp only [Value.slice.injEq] at hsl
 obtain ⟨rfl, rfl, rfl⟩ := hsl
 rcases h4 with h4 | ⟨b2, o2, cur, T, hbo, hnl, hSb, hheap, hfit, hown⟩
 ·simp at h4
 ·simp only [Option.some.injEq, Addr.mk.injEq, and_true] at hbo
  obtain ⟨rfl, rfl⟩ := hbo
  have hFb : ¬ E1.F b := (hs1.slt k b hSb).2.1
  have hSxb : ¬ SU E q.2 b := fun h => (hSx b h).2.2 (.inr ⟨k, hSb⟩)
  have hmul : (i + 1) * sz ≤ hc * sz := Nat.mul_le_mul_right _ (by omega)
  rw [Nat.add_mul] at hmul
  have hfit' : o' + i * sz + j + (a.eval x).cells.toList.length ≤ cur.size := by rw [hvl]; omega
  let w' := w.setRow b (cur.toList.take (o' + i * sz + j) ++ (a.eval x).cells.toList ++ cur.toList.drop (o' + i * sz + j + (a.eval x).cells.toList.length)).toArray
  have hrun : (execOp a.eval o).run P w = .ok .skip w' := by
   have hst := run_storeCells_at (P := P) b (o' + i * sz + j) T (a.eval x).cells.toList 0 cur w hheap (by simpa using hfit') hone
   simp only [Nat.add_zero] at hst
   simp only [execOp, ho, hy, Instr.storeAt, Instr.sureAddr, storeVar, pure_bind, Sem.run_bind, run_size ht, Result.andThen_ok, hyn]
   simp [hst, w']
  have hag : ∀ y, y ≠ b → w'.heap[y]? = w.heap[y]? := fun y hy => setRow_other w b y _ hy
  have hAF : Agree E1.F w w' := fun y hy => hag y fun e => hFb (e ▸ hy)
  have hcell : ∀ off, ¬ (o' + i * sz + j ≤ off ∧ off < o' + i * sz + j + ti.size) → w'.cell? ⟨b, off, none⟩ = w.cell? ⟨b, off, none⟩ := fun off hoff => by
   have := cell_setRow (off := off) hheap hfit'
   rw [hvl] at this
   rw [if_neg hoff] at this
   simpa [w', hvl] using this
  have hcs : OwnL w' tk.deep E1.F (SU E q.2) q.1.cells (a.eval x).cells.toList := by
   have h0 : OwnL w' true E.F (SU E q.2) q.1.cells (a.eval x).cells.toList :=
    OwnL.agree (fun _ h => h) (fun y hy => hag y fun e => hFb (by rw [f1]; exact e ▸ hy)) (fun _ h => h) (fun y hy => hag y fun e => hSxb (e ▸ hy)) _ _ hvc
   have h1 : OwnL w' true E1.F (SU E q.2) q.1.cells (a.eval x).cells.toList := OwnL.deepF _ _ h0
   cases tk.deep with
   | true => exact h1
   | false =>
    have : Own w' false E1.F (SU E q.2) (.agg q.1.cells) (.agg (a.eval x).cells.toList.toArray) :=
     Own.dd (d := true) (by simp only [Own]; exact ⟨_, rfl, by simpa using h1⟩) (by simp)
    simp only [Own] at this
    obtain ⟨ys, h5, h6⟩ := this
    simp only [Value.agg.injEq] at h5
    subst h5; simpa using h6
  have hrow' : OwnRow w' tk.deep E1.F (fun y => (E1.S k y ∧ y ≠ b) ∨ SU E q.2 y) b sz o' (es.set i (putCells e j q.1.cells)) := by
   refine OwnRow.upd (w := w) (d := tk.deep) (Sx := SU E q.2) id hag hFb (fun y hy => hy.2) (fun y hy h => (hSx y hy).2.2 (.inr ⟨k, h.1⟩)) o' es i hown he (fun off hoff => hcell off (by omega)) fun S1 z hS1 hz hzs hes hat => ?_
   obtain ⟨x', g1, g2, g3⟩ := put_own (w' := w') (Sx := SU E q.2) (j := j) id hz (by rw [hzs, hes]) (fun y hy => hag y (by rcases hy with hy | hy; exact fun e => hFb (e ▸ hy); exact (hS1 y hy).2)) hcs hone (fun y h h' => (hSx y h).2.2 (.inr ⟨k, (hS1 y h').1⟩)) (by rw [hcl, hes]; exact hjm) (by rw [hcl]; exact hpos)
   refine ⟨x', g1, ?_, by rw [g3, hes], fun q y hq => ?_⟩
   ·rw [← Array.length_toList, g2]; simp [hzs, hvl]; omega
   ·rw [g2] at hq
    have hcq := cell_setRow (off := o' + i * sz + q) hheap hfit'
    rw [show w'.cell? ⟨b, o' + i * sz + q, none⟩ = _ from hcq]
    have hzl : z.cells.toList.length = sz := by simpa using hzs
    rw [hvl] at hq ⊢
    by_cases h1 : q < j
    ·rw [if_neg (by omega)]
     rw [List.append_assoc, List.getElem?_append_left (by rw [List.length_take]; omega), List.getElem?_take, if_pos h1] at hq
     exact hat q y hq
    ·by_cases h2 : q < j + ti.size
     ·rw [if_pos ⟨by omega, by omega⟩]
      rw [List.getElem?_append_left (by rw [List.length_append, List.length_take, hvl]; omega), List.getElem?_append_right (by rw [List.length_take]; omega), List.length_take] at hq
      rw [← hq]; congr 1; omega
     ·rw [if_neg (by omega)]
      rw [List.getElem?_append_right (by rw [List.length_append, List.length_take, hvl]; omega), List.length_append, List.length_take, hvl, List.getElem?_drop] at hq
      rw [show j + ti.size + (q - (min j z.cells.toList.length + ti.size)) = q by omega] at hq
      exact hat q y hq
  intro hd0 next hn
  have hfr : Frm (fun y => E1.S k y) w w' := ⟨rfl, rfl, rfl, by simp [w', World.setRow], fun y _ hy => hag y fun e => hy (e ▸ hSb)⟩
  have hsz' : w'.heap.size = w.heap.size := by simp [w', World.setRow]
  obtain ⟨E', e1, e2, e3, e4⟩ := hs1.setTok (slots' := st1.1.map (killN k)) (tk' := ⟨tk.deep, .sl nl sz (es.set i (putCells e j q.1.cells))⟩) htk1 (E1.hd k) (fun y => E1.S k y ∨ SU E q.2 y) hfr
   (fun y hy => hy.imp id fun h => ⟨(hSx y h).1, by rw [hsz']; exact (hSx y h).2.1, (hSx y h).2.2⟩)
   (.inr ⟨nl, sz, _, rfl, by
    rw [q1']
    refine ⟨_, hl, hc, rfl, by rw [h1]; simp, h2, h3, .inr ⟨b, o', _, T, rfl, hnl, .inl hSb, setRow_heap w b cur _ T (0, 0) hheap, ?_, hrow'.agree' (fun y hy => hy.elim (fun h => ⟨.inl h.1, h.2⟩) fun h => ⟨.inr h, fun e => hSxb (e ▸ h)⟩)⟩⟩
    have : (cur.toList.take (o' + i * sz + j) ++ (a.eval x).cells.toList ++ cur.toList.drop (o' + i * sz + j + (a.eval x).cells.toList.length)).toArray.size = cur.size := by
     simp; simp at hfit'; omega
    rw [this]; exact hfit⟩) (by simp) (fun E' e1 e2 e3 e4 i' z hz => by
     rw [List.getElem?_map] at hz
     cases hz0 : st1.1[i']? with
     | none => rw [hz0] at hz; simp at hz
     | some z0 =>
      rw [hz0] at hz
      simp only [Option.map_some, Option.some.injEq] at hz
      subst hz
      have hset : (st1.2.set k ⟨tk.deep, .sl nl sz (es.set i (putCells e j q.1.cells))⟩)[k]? = some ⟨tk.deep, .sl nl sz (es.set i (putCells e j q.1.cells))⟩ := List.getElem?_set_self hkl
      have hset' : ∀ t, t ≠ k → (st1.2.set k ⟨tk.deep, .sl nl sz (es.set i (putCells e j q.1.cells))⟩)[t]? = st1.2[t]? := fun t h => List.getElem?_set_ne (fun e => h e.symm)
      have hfol : ∀ t, t ≠ k → ∀ tk' p nl' sz' es'', st1.2[t]? = some tk' → getAt tk'.row p = .sl nl' sz' es'' → ∀ h, follow w tk'.row (E1.hd t) p = some h → follow w' tk'.row (E'.hd t) p = some h := by
       intro t htk' tk' p nl' sz' es'' h1 h2 h h3
       rcases hs1.tokOk t tk' h1 with hj | ⟨nl0, sz0, es0, g1, g2⟩
       ·rw [hj] at h2; cases p <;> simp [getAt] at h2
       ·rw [g1] at h2 h3 ⊢
        obtain ⟨h', k1, _⟩ := follow_ok p _ _ nl' sz' es'' g2.own h2
        have : h = h' := by have := k1 w (Agree.refl _ _); rw [h3] at this; exact Option.some.inj this
        subst this
        rw [e3 t htk']
        exact k1 w' fun y hm => hag y fun e => by rw [e] at hm; exact hm.elim hFb fun hm => hs1.sep t k b htk' hm hSb
      refine SRep.chgN hAF (fun y hy => by rw [e1]; exact hy) (fun t p lo n y hnk hr => ?_) (fun t p i j y hnk hr => ?_) z0 _ (hs1.slot i' z0 hz0)
      ·refine ⟨by simpa using hr.1, fun tk' nl' sz' es'' h1 h2 h3 => ?_⟩
       by_cases htk' : t = k
       ·subst htk'
        have hp : p = [] := Classical.byContradiction fun hp => hnk ⟨rfl, hp⟩
        subst hp
        rw [hset] at h1; obtain rfl := Option.some.inj h1
        simp only [getAt, AV.sl.injEq] at h2; obtain ⟨rfl, rfl, rfl⟩ := h2
        obtain ⟨h, g1, g2⟩ := hr.2 tk nl sz es htk1 (by simp [getAt, hrow]) (by simpa using h3)
        exact ⟨h, by simp only [follow] at g1 ⊢; rw [e2]; exact g1, g2⟩
       ·rw [hset' t htk'] at h1
        obtain ⟨h, g1, g2⟩ := hr.2 tk' nl' sz' es'' h1 h2 h3
        exact ⟨h, hfol t htk' tk' p nl' sz' es'' h1 h2 h g1, g2⟩
      ·refine ⟨by simpa using hr.1, fun tk' nl' sz' es'' h1 h2 h3 => ?_⟩
       by_cases htk' : t = k
       ·subst htk'
        have hp : p = [] := Classical.byContradiction fun hp => hnk ⟨rfl, hp⟩
        subst hp
        rw [hset] at h1; obtain rfl := Option.some.inj h1
        simp only [getAt, AV.sl.injEq] at h2; obtain ⟨rfl, rfl, rfl⟩ := h2
        obtain ⟨b1, o1, l1, c1, g1, g2⟩ := hr.2 tk nl sz es htk1 (by simp [getAt, hrow]) (by simpa using h3)
        exact ⟨b1, o1, l1, c1, by simp only [follow] at g1 ⊢; rw [e2]; exact g1, g2⟩
       ·rw [hset' t htk'] at h1
        obtain ⟨b1, o1, l1, c1, g1, g2⟩ := hr.2 tk' nl' sz' es'' h1 h2 h3
        exact ⟨b1, o1, l1, c1, hfol t htk' tk' p nl' sz' es'' h1 h2 _ g1, g2⟩)
  exact .inr (.inl ⟨_, hrun, hn E' (a.put o.dst undef) w' (SR.put e4 o.dst hd0 (x := .junk) (y := undef) (by simp [SRep]))⟩)
theorem goes_store (hC : C.Ok P) (hs : SR U w0 st E a w) {t : TypeId} {ad x : Operand} (ho : o.op = .store t ad x)
  (hP : ∀ (ti : TI) (tk : Tok) (nl : Bool) (sz : Nat) (es : List AV) (e : AV) (k : Nat) (p : List (Nat × Nat)) (i j : Nat), C.T t = some ti → ev st.slots ad = .ptr k p i j → st.toks[k]? = some tk → getAt tk.row p = .sl nl sz es → es[i]? = some e →
   (tk.deep = true ∧ scal (ev st.slots x) = true ∧ (ev st.slots x).cells.length = ti.size ∧ j + ti.size ≤ sz ∧ 0 < ti.size) → Goes P o a w U w0 ⟨.junk, st.slots.map (killN k), st.toks.set k ⟨true, setAt tk.row p (.sl nl sz (es.set i (putCells e j (ev st.slots x).cells)))⟩⟩)
  {out : Out} (h : aop C (.store t ad x) st.slots st.toks = some out) : Goes P o a w U w0 out := by
 simp only [aop] at h
 split at h
 ·rename_i ti hti
  have ht := hC.T t ti hti
  split at h
  ·rename_i k i j hpt
   split at h
   ·rename_i tk htk
    split at h
    ·rename_i nl sz es hrow
     split at h
     ·rename_i e he
      have hlt : i < es.length := (List.getElem?_eq_some_iff.1 he).1
      have hkl : k < st.toks.length := (List.getElem?_eq_some_iff.1 htk).1
      have hpv := hs.ev ad
      rw [hpt] at hpv
      simp only [SRep] at hpv
      obtain ⟨b, o', hl, hc, q1, hy⟩ := hpv.2 tk nl sz es htk (by simp [getAt, hrow]) hlt
      simp only [follow, Option.some.injEq] at q1
      -- the row
      have hex : Excl w tk.deep E.F (E.S k) nl sz es (E.hd k) := by
       rcases hs.tok k tk htk with hj | ⟨nl', sz', es', h1, h2⟩
       ·rw [hrow] at hj; simp at hj
       ·rw [hrow] at h1; simp only [AV.sl.injEq] at h1; obtain ⟨rfl, rfl, rfl⟩ := h1; exact h2
      rw [q1] at hex
      obtain ⟨a1, len, cap, hsl, h1, h2, h3, h4⟩ := hex
      simp only [Value.slice.injEq] at hsl
      obtain ⟨rfl, rfl, rfl⟩ := hsl
      rcases h4 with h4 | ⟨b2, o2, cur, T, hbo, hnl, hSb, hheap, hfit, hown⟩
      ·simp at h4
      ·simp only [Option.some.injEq, Addr.mk.injEq, and_true] at hbo
       obtain ⟨rfl, rfl⟩ := hbo
       have hFb : ¬ E.F b := (hs.slt k b hSb).2.1
       have hmul : (i + 1) * sz ≤ hc * sz := Nat.mul_le_mul_right _ (by omega)
       rw [Nat.add_mul] at hmul
       -- what both ways have in common
       have common : ∀ (d' : Bool) (slots' : List AV), Ax.frz (ev st.slots x) = true → (ev st.slots x).cells.length = ti.size → j + ti.size ≤ sz → 0 < ti.size → (d' = true → tk.deep = true ∧ (scal (ev st.slots x) = true ∨ nilS (ev st.slots x) = true)) → slots'.length = st.slots.length →
         (∀ w' E', Agree E.F w w' → (∀ x, x ≠ b → w'.heap[x]? = w.heap[x]?) → (∀ off, ¬ (o' + i * sz + j ≤ off ∧ off < o' + i * sz + j + ti.size) → w'.cell? ⟨b, off, none⟩ = w.cell? ⟨b, off, none⟩) →
          E'.F = E.F → E'.hd k = E.hd k → (∀ t, t ≠ k → E'.hd t = E.hd t) → (∀ t, t ≠ k → E'.S t = E.S t) → ∀ i' z, slots'[i']? = some z → SRep w' E' (st.toks.set k ⟨d', .sl nl sz (es.set i (putCells e j (ev st.slots x).cells))⟩) z (a.tmps.getD i' undef)) →
         Goes P o a w U w0 ⟨.junk, slots', st.toks.set k ⟨d', .sl nl sz (es.set i (putCells e j (ev st.slots x).cells))⟩⟩ := by
        intro d' slots' hfz hcl hjm hpos hd' hsl' hslots
        have hrx := (hs.ev x).frz hfz
        obtain ⟨hcells, hone⟩ := hrx.cellsL hfz
        have hne : ev st.slots x ≠ .junk := by intro e; rw [e] at hfz; simp [Ax.frz] at hfz
        have hyn : (a.eval x).cells.size = ti.size := by rw [hrx.cellsN hne, hcl]
        have hvl : (a.eval x).cells.toList.length = ti.size := by simpa using hyn
        have hfit' : o' + i * sz + j + (a.eval x).cells.toList.length ≤ cur.size := by rw [hvl]; omega
        let w' := w.setRow b (cur.toList.take (o' + i * sz + j) ++ (a.eval x).cells.toList ++ cur.toList.drop (o' + i * sz + j + (a.eval x).cells.toList.length)).toArray
        have hrun : (execOp a.eval o).run P w = .ok .skip w' := by
         have hst := run_storeCells_at (P := P) b (o' + i * sz + j) T (a.eval x).cells.toList 0 cur w hheap (by simpa using hfit') hone
         simp only [Nat.add_zero] at hst
         simp only [execOp, ho, hy, Instr.storeAt, Instr.sureAddr, storeVar, pure_bind, Sem.run_bind, run_size ht, Result.andThen_ok, hyn]
         simp [hst, w']
        have hag : ∀ y, y ≠ b → w'.heap[y]? = w.heap[y]? := fun y hy => setRow_other w b y _ hy
        have hAF : Agree E.F w w' := fun y hy => hag y fun e => hFb (e ▸ hy)
        have hcell : ∀ off, ¬ (o' + i * sz + j ≤ off ∧ off < o' + i * sz + j + ti.size) → w'.cell? ⟨b, off, none⟩ = w.cell? ⟨b, off, none⟩ := fun off hoff => by
         have := cell_setRow (off := off) hheap hfit'
         rw [hvl] at this
         rw [if_neg hoff] at this
         simpa [w', hvl] using this
        have hcs : OwnL w' d' E.F (fun _ => False) (ev st.slots x).cells (a.eval x).cells.toList := by
         cases d' with
         | false => exact (RepL.own _ _ (RepL.agree (fun _ h => h) hAF _ _ hcells))
         | true =>
          rcases (hd' rfl).2 with hsc | hnil
          ·exact (OwnL.v_one (RepL.agree (fun _ h => h) hAF _ _ hcells) (scal_cells hsc)).2
          ·exact OwnL.nil1 hnil hcells
        have hdd : d' = true → tk.deep = true := fun h => (hd' h).1
        have hrow' : OwnRow w' d' E.F (fun y => (E.S k y ∧ y ≠ b) ∨ False) b sz o' (es.set i (putCells e j (ev st.slots x).cells)) := by
         refine OwnRow.upd (w := w) (d := tk.deep) (Sx := fun _ => False) hdd hag hFb (fun y hy => hy.2) (fun _ h => h.elim) o' es i hown he (fun off hoff => hcell off (by omega)) fun S1 z hS1 hz hzs hes hat => ?_
         obtain ⟨x', g1, g2, g3⟩ := put_own (w' := w') (Sx := fun _ => False) (j := j) hdd hz (by rw [hzs, hes]) (fun y hy => hag y (by rcases hy with hy | hy; exact fun e => hFb (e ▸ hy); exact (hS1 y hy).2)) hcs hone (fun _ h => h.elim) (by rw [hcl, hes]; exact hjm) (by rw [hcl]; exact hpos)
         refine ⟨x', g1, ?_, by rw [g3, hes], fun q y hq => ?_⟩
         ·rw [← Array.length_toList, g2]; simp [hzs, hvl]; omega
         ·rw [g2] at hq
          have hcq := cell_setRow (off := o' + i * sz + q) hheap hfit'
          rw [show w'.cell? ⟨b, o' + i * sz + q, none⟩ = _ from hcq]
          have hzl : z.cells.toList.length = sz := by simpa using hzs
          rw [hvl] at hq ⊢
          by_cases h1 : q < j
          ·rw [if_neg (by omega)]
           rw [List.append_assoc, List.getElem?_append_left (by rw [List.length_take]; omega), List.getElem?_take, if_pos h1] at hq
           exact hat q y hq
          ·by_cases h2 : q < j + ti.size
           ·rw [if_pos ⟨by omega, by omega⟩]
            rw [List.getElem?_append_left (by rw [List.length_append, List.length_take, hvl]; omega), List.getElem?_append_right (by rw [List.length_take]; omega), List.length_take] at hq
            rw [← hq]; congr 1; omega
           ·rw [if_neg (by omega)]
            rw [List.getElem?_append_right (by rw [List.length_append, List.length_take, hvl]; omega), List.length_append, List.length_take, hvl, List.getElem?_drop] at hq
            rw [show j + ti.size + (q - (min j z.cells.toList.length + ti.size)) = q by omega] at hq
            exact hat q y hq
        intro hd0 next hn
        have hfr : Frm (fun y => E.S k y) w w' := ⟨rfl, rfl, rfl, by simp [w', World.setRow], fun y _ hy => hag y fun e => hy (e ▸ hSb)⟩
        obtain ⟨E', e1, e2, e3, e4⟩ := hs.setTok (slots' := slots') (tk' := ⟨d', .sl nl sz (es.set i (putCells e j (ev st.slots x).cells))⟩) htk (E.hd k) (E.S k) hfr (fun y hy => .inl hy)
         (.inr ⟨nl, sz, _, rfl, by
          rw [q1]
          refine ⟨_, hl, hc, rfl, by rw [h1]; simp, h2, h3, .inr ⟨b, o', _, T, rfl, hnl, hSb, setRow_heap w b cur _ T (0, 0) hheap, ?_, hrow'.agree' (fun y hy => hy.resolve_right id)⟩⟩
          have : (cur.toList.take (o' + i * sz + j) ++ (a.eval x).cells.toList ++ cur.toList.drop (o' + i * sz + j + (a.eval x).cells.toList.length)).toArray.size = cur.size := by
           simp; simp at hfit'; omega
          rw [this]; exact hfit⟩) hsl' (fun E' e1 e2 e3 e4 => hslots w' E' hAF hag hcell e1 e2 e3 e4)
        exact .inr (.inl ⟨_, hrun, hn E' (a.put o.dst undef) w' (SR.put e4 o.dst hd0 (x := .junk) (y := undef) (by simp [SRep]))⟩)
       have other : ∀ (w' : World) (E' : Env) (d' : Bool) (es' : List AV), (∀ x, x ≠ b → w'.heap[x]? = w.heap[x]?) → (∀ t, t ≠ k → E'.hd t = E.hd t) →
         ∀ t, t ≠ k → (∀ p lo n y, RefOk w E st.toks t p lo n y → RefOk w' E' (st.toks.set k ⟨d', .sl nl sz es'⟩) t p lo n y) ∧ (∀ p i j y, PtrOk w E st.toks t p i j y → PtrOk w' E' (st.toks.set k ⟨d', .sl nl sz es'⟩) t p i j y) := by
        intro w' E' d' es' hag e2 t htk'
        have hset : (st.toks.set k ⟨d', .sl nl sz es'⟩)[t]? = st.toks[t]? := List.getElem?_set_ne (fun h => htk' h.symm)
        have hfol : ∀ tk' p nl' sz' es'', st.toks[t]? = some tk' → getAt tk'.row p = .sl nl' sz' es'' → ∀ h, follow w tk'.row (E.hd t) p = some h → follow w' tk'.row (E'.hd t) p = some h := by
         intro tk' p nl' sz' es'' h1 h2 h h3
         rcases hs.tokOk t tk' h1 with hj | ⟨nl0, sz0, es0, g1, g2⟩
         ·rw [hj] at h2; cases p <;> simp [getAt] at h2
         ·rw [g1] at h2 h3 ⊢
          obtain ⟨h', k1, _⟩ := follow_ok p _ _ nl' sz' es'' g2.own h2
          have : h = h' := by have := k1 w (Agree.refl _ _); rw [h3] at this; exact Option.some.inj this
          subst this
          rw [e2 t htk']
          exact k1 w' fun y hm => hag y fun e => by rw [e] at hm; exact hm.elim hFb fun hm => hs.sep t k b htk' hm hSb
        refine ⟨fun p lo n y hr => ⟨by simpa using hr.1, fun tk' nl' sz' es'' h1 h2 h3 => ?_⟩, fun p i j y hr => ⟨by simpa using hr.1, fun tk' nl' sz' es'' h1 h2 h3 => ?_⟩⟩
        ·rw [hset] at h1
         obtain ⟨h, g1, g2⟩ := hr.2 tk' nl' sz' es'' h1 h2 h3
         exact ⟨h, hfol tk' p nl' sz' es'' h1 h2 h g1, g2⟩
        ·rw [hset] at h1
         obtain ⟨b1, o1, l1, c1, g1, g2⟩ := hr.2 tk' nl' sz' es'' h1 h2 h3
         exact ⟨b1, o1, l1, c1, hfol tk' p nl' sz' es'' h1 h2 _ g1, g2⟩
       have root : ∀ (w' : World) (E' : Env) (d' : Bool) (es' : List AV), es'.length = es.length → E'.hd k = E.hd k →
         (∀ lo n y, RefOk w E st.toks k [] lo n y → RefOk w' E' (st.toks.set k ⟨d', .sl nl sz es'⟩) k [] lo n y) ∧ (∀ i j y, PtrOk w E st.toks k [] i j y → PtrOk w' E' (st.toks.set k ⟨d', .sl nl sz es'⟩) k [] i j y) := by
        intro w' E' d' es' hl' e1
        have hset : (st.toks.set k ⟨d', .sl nl sz es'⟩)[k]? = some ⟨d', .sl nl sz es'⟩ := List.getElem?_set_self hkl
        refine ⟨fun lo n y hr => ⟨by simpa using hr.1, fun tk' nl' sz' es'' h1 h2 h3 => ?_⟩, fun i j y hr => ⟨by simpa using hr.1, fun tk' nl' sz' es'' h1 h2 h3 => ?_⟩⟩
        all_goals
         rw [hset] at h1; obtain rfl := Option.some.inj h1
         simp only [getAt, AV.sl.injEq] at h2; obtain ⟨rfl, rfl, rfl⟩ := h2
        ·obtain ⟨h, g1, g2⟩ := hr.2 tk nl sz es htk (by simp [getAt, hrow]) (by omega)
         exact ⟨h, by simp only [follow] at g1 ⊢; rw [e1]; exact g1, g2⟩
        ·obtain ⟨b1, o1, l1, c1, g1, g2⟩ := hr.2 tk nl sz es htk (by simp [getAt, hrow]) (by omega)
         exact ⟨b1, o1, l1, c1, by simp only [follow] at g1 ⊢; rw [e1]; exact g1, g2⟩
       split at h
       ·rename_i hcond
        obtain ⟨hsc, hcl, hjm, hpos⟩ := hcond
        simp only [Option.some.injEq] at h; subst h
        refine common tk.deep st.slots (scal_frz hsc) hcl hjm hpos (fun h => ⟨h, .inl hsc⟩) rfl fun w' E' hAF hag hcell e0 e1 e2 e3 i' z hz => ?_
        have hfs := follow_store (w' := w') (hl := hl) (hc := hc) (nl := nl) hown hFb hag he (by rw [hcl]; exact hjm) (by obtain ⟨_, _, _, q, _⟩ := OwnRow.get hown i e he; exact q) (scal_cells hsc) (by rw [hcl]; exact hpos) (by rw [hcl]; exact hcell)
        have hset : (st.toks.set k ⟨tk.deep, .sl nl sz (es.set i (putCells e j (ev st.slots x).cells))⟩)[k]? = some ⟨tk.deep, .sl nl sz (es.set i (putCells e j (ev st.slots x).cells))⟩ := List.getElem?_set_self hkl
        refine SRep.chg hAF (fun y hy => by rw [e0]; exact hy) (fun t p lo n y hr => ?_) (fun t p i j y hr => ?_) z _ (hs.slot i' z hz)
        ·by_cases htk' : t = k
         ·subst htk'
          by_cases hp : p = []
          ·subst hp; exact (root w' E' _ _ (by simp) e1).1 lo n y hr
          ·refine ⟨by simpa using hr.1, fun tk' nl' sz' es'' h1 h2 h3 => ?_⟩
           rw [hset] at h1; obtain rfl := Option.some.inj h1
           obtain ⟨g1, g2⟩ := hfs p nl' sz' es'' hp h2
           obtain ⟨h, k1, k2⟩ := hr.2 tk nl' sz' es'' htk (by rw [hrow]; exact g1) h3
           rw [hrow, q1] at k1
           exact ⟨h, by rw [e1, q1]; exact g2 h k1, k2⟩
         ·exact (other w' E' _ _ hag e2 t htk').1 p lo n y hr
        ·by_cases htk' : t = k
         ·subst htk'
          by_cases hp : p = []
          ·subst hp; exact (root w' E' _ _ (by simp) e1).2 i j y hr
          ·refine ⟨by simpa using hr.1, fun tk' nl' sz' es'' h1 h2 h3 => ?_⟩
           rw [hset] at h1; obtain rfl := Option.some.inj h1
           obtain ⟨g1, g2⟩ := hfs p nl' sz' es'' hp h2
           obtain ⟨b1, o1, l1, c1, k1, k2⟩ := hr.2 tk nl' sz' es'' htk (by rw [hrow]; exact g1) h3
           rw [hrow, q1] at k1
           exact ⟨b1, o1, l1, c1, by rw [e1, q1]; exact g2 _ k1, k2⟩
         ·exact (other w' E' _ _ hag e2 t htk').2 p i j y hr
       ·split at h
        ·rename_i hcond
         obtain ⟨hsc, hcl, hjm, hpos⟩ := hcond
         simp only [Option.some.injEq] at h; subst h
         refine common (tk.deep && nilS (ev st.slots x)) (st.slots.map (killN k)) hsc hcl hjm hpos (fun h => by rw [Bool.and_eq_true] at h; exact ⟨h.1, .inr h.2⟩) (by simp) fun w' E' hAF hag hcell e0 e1 e2 e3 i' z hz => ?_
         rw [List.getElem?_map] at hz
         cases hz0 : st.slots[i']? with
         | none => rw [hz0] at hz; simp at hz
         | some z0 =>
          rw [hz0] at hz
          simp only [Option.map_some, Option.some.injEq] at hz
          subst hz
          refine SRep.chgN hAF (fun y hy => by rw [e0]; exact hy) (fun t p lo n y hnk hr => ?_) (fun t p i j y hnk hr => ?_) z0 _ (hs.slot i' z0 hz0)
          ·by_cases htk' : t = k
           ·subst htk'
            have hp : p = [] := Classical.byContradiction fun hp => hnk ⟨rfl, hp⟩
            subst hp; exact (root w' E' _ _ (by simp) e1).1 lo n y hr
           ·exact (other w' E' _ _ hag e2 t htk').1 p lo n y hr
          ·by_cases htk' : t = k
           ·subst htk'
            have hp : p = [] := Classical.byContradiction fun hp => hnk ⟨rfl, hp⟩
            subst hp; exact (root w' E' _ _ (by simp) e1).2 i j y hr
           ·exact (other w' E' _ _ hag e2 t htk').2 p i j y hr
        ·split at h
         ·rename_i q hq
          split at h
          ·rename_i hcond
           simp only [Option.some.injEq] at h; subst h
           exact goes_absorb hC hs ho hti hpt htk hrow he hq hcond
          ·simp at h
         ·simp at h
     ·simp at h
    ·simp at h
   ·simp at h
  ·rename_i k p i j _ hpt
   split at h
   ·rename_i tk htk
    split at h
    ·rename_i nl sz es hg
     split at h
     ·rename_i e he
      split at h
      ·rename_i hc
       simp only [Option.some.injEq] at h; subst h
       exact hP ti tk nl sz es e k p i j hti hpt htk hg he hc
      ·simp at h
     ·simp at h
    ·simp at h
   ·simp at h
  ·simp at h
 ·simp at h
end
section
variable {P : Program} {C : Ctx} {o : Oper} {a : Act} {w : World} {U : Ld} {w0 : World} {st : ASt} {E : Env}
theorem SR.newVarS (hs : SR U w0 st E a w) {t : TypeId} {ti : TI} {x : AV} {y : Value} {S : Nat → Prop} (hS : ∀ b, S b → (w0.heap.size ≤ b ∨ U b) ∧ b < w.heap.size ∧ ¬ allB E b) (hsz : y.cells.size = x.cells.length) (hsz' : x.cells.length = ti.size)
  (hx : Own w true E.F S x y) :
  ∃ E' : Env, SR U w0 ⟨st.slots, st.toks ++ [⟨true, .sl false ti.size [x]⟩]⟩ E' a (w.alloc (.cells y.cells t)) ∧
   SRep (w.alloc (.cells y.cells t)) E' (st.toks ++ [⟨true, .sl false ti.size [x]⟩]) (.ptr st.toks.length [] 0 0) (.pointer (some ⟨w.heap.size, 0, none⟩)) := by
 have hfr := frm_alloc (w := w) (.cells y.cells t)
 have hg := hs.grow hfr
 obtain ⟨E', h1, h2, h3, _, h4⟩ := hg.newTok ⟨true, .sl false ti.size [x]⟩ (.slice (some ⟨w.heap.size, 0, none⟩) 1 1) (fun b => S b ∨ b = w.heap.size)
  (fun b hb => by
   rcases hb with hb | rfl
   ·have := hS b hb; exact ⟨this.1, Nat.lt_of_lt_of_le this.2.1 hfr.size, this.2.2⟩
   ·exact ⟨.inl hs.frame.size, by simp, fun h => Nat.lt_irrefl _ (hs.allLt _ h)⟩) (.inr ⟨false, ti.size, [x], rfl, by
   refine ⟨_, 1, 1, rfl, rfl, Nat.le_refl _, by simp [maxLen], .inr ⟨w.heap.size, 0, y.cells, t, rfl, rfl, .inr rfl, heap_alloc_self _, by rw [hsz, hsz']; omega, ?_⟩⟩
   simp only [OwnRow, and_true]
   refine ⟨y, S, fun _ => False, fun b hb => ⟨.inl hb, fun e => by have := (hS b hb).2.1; omega⟩, fun _ h => h.elim, fun _ _ h => h, Own.agree (fun _ h => h) (fun b hb => hfr.block b (hs.flt b hb) id) (fun _ h => h) (fun b hb => hfr.block b (hS b hb).2.1 id) _ _ hx, by rw [hsz, hsz'], hsz', fun j v hj => ?_⟩
   simp only [World.cell?, heap_alloc_self]
   simpa using hj⟩)
 refine ⟨E', h4, ?_⟩
 simp only [SRep]
 refine ⟨by simp, fun tk nl sz es k1 k2 k3 => ?_⟩
 simp at k1; subst k1
 simp only [getAt, AV.sl.injEq] at k2
 obtain ⟨rfl, rfl, rfl⟩ := k2
 exact ⟨w.heap.size, 0, 1, 1, by simp only [follow]; exact congrArg some h2, by simp⟩
theorem goes_box (hs : SR U w0 st E a w) {t : TypeId} {x : Operand} (ho : o.op = .box t x) {out : Out} (h : aop C (.box t x) st.slots st.toks = some out) : Goes P o a w U w0 out := by
 simp only [aop] at h
 split at h
 ·rename_i ti hti
  split at h
  ·rename_i hf
   simp only [Option.some.injEq] at h; subst h
   have hr := (hs.ev x).frz hf.1
   intro hd0 next hn
   have hne : ev st.slots x ≠ .junk := by intro e; rw [e] at hf; simp [Ax.frz] at hf
   obtain ⟨E', h1, h2⟩ := hs.newVar (t := t) (ti := ti) (x := ev st.slots x) (y := a.eval x) (deep := scal (ev st.slots x)) (hr.cellsN hne) hf.2 (fun w' hA => by
    cases hsc : scal (ev st.slots x) with
    | true => exact Own.scal hr hsc
    | false => exact Rep.own _ _ (hr.weak (fun _ h => h) (hA.mono fun b hb => hs.flt b hb)))
   refine wp_val (y := .pointer (some ⟨w.heap.size, 0, none⟩)) (w' := w.alloc (.cells (a.eval x).cells t)) ?_ (hn E' _ _ (SR.put h1 o.dst hd0 h2))
   simp [execOp, ho, Instr.box, newVar, newRow]
  ·split at h
   ·rename_i q hq
    split at h
    ·rename_i hc
     obtain ⟨hnd, hfl, hlen⟩ := hc
     simp only [Option.some.injEq] at h; subst h
     have hown := ownR_ok (F := E.F) hs _ _ q (hs.ev x) hq hnd
     have hsz : (a.eval x).cells.size = q.1.cells.length := by simpa using (hown.flatL hfl).len
     obtain ⟨E1, f1, f2, f3, hs1⟩ := SR.drops q.2 (slots := st.slots) (toks := st.toks) hs
     intro hd0 next hn
     obtain ⟨E', h1, h2⟩ := hs1.newVarS (t := t) (ti := ti) (x := q.1) (y := a.eval x) (S := SU E q.2) (fun b hb => by
      obtain ⟨t', ht', hb⟩ := hb
      refine ⟨(hs.slt t' b hb).2.2, (hs.slt t' b hb).1, ?_⟩
      rintro (hF | ⟨t2, h2⟩)
      ·rw [f1] at hF; exact (hs.slt t' b hb).2.1 hF
      ·rw [f3] at h2
       exact hs.sep t' t2 b (fun e => h2.1 (e ▸ ht')) hb h2.2) hsz hlen (by rw [f1]; exact hown)
     simp only [drops_tlen] at h2
     refine wp_val (y := .pointer (some ⟨w.heap.size, 0, none⟩)) (w' := w.alloc (.cells (a.eval x).cells t)) ?_ (hn E' _ _ (SR.put h1 o.dst hd0 h2))
     simp [execOp, ho, Instr.box, newVar, newRow]
    ·simp at h
   ·simp at h
 ·simp at h
end
open Go Go.RowKit
section
variable {w w' : World} {F : Nat → Prop}
structure Chg (w w' : World) (F S S1 S1' : Nat → Prop) : Prop where
 f : Agree F w w'
 s : ∀ b, S b → ¬ S1 b → w'.heap[b]? = w.heap[b]?
 n : ∀ b, S1' b → S1 b ∨ ¬ S b
theorem Chg.sub {S S' S1 S1' : Nat → Prop} (h : Chg w w' F S S1 S1') (hS : ∀ b, S' b → S b) : Chg w w' F S' S1 S1' := ⟨h.f, fun b hb => h.s b (hS b hb), fun b hb => (h.n b hb).imp id fun hn hb' => hn (hS b hb')⟩
theorem OwnL.focus : ∀ {S : Nat → Prop} {cs : List AV} {ys : List Value} {j : Nat} {c : AV}, OwnL w true F S cs ys → cs[j]? = some c →
  ∃ y, ∃ S1 : Nat → Prop, ys[j]? = some y ∧ (∀ b, S1 b → S b) ∧ Own w true F S1 c y ∧ ∀ (w' : World) (c' : AV) (S1' : Nat → Prop), Own w' true F S1' c' y → Chg w w' F S S1 S1' → OwnL w' true F (fun b => (S b ∧ ¬ S1 b) ∨ S1' b) (cs.set j c') ys
 | _, [], _, _, _, _, h => by simp at h
 | S, c0 :: cs, _, 0, c, k, h => by
  simp only [OwnL] at k
  obtain ⟨y, ys, Sa, Sb, rfl, h1, h2, h3, k1, k2⟩ := k
  simp at h; subst h
  refine ⟨y, Sa, by simp, h1, k1, fun w' c' S1' hc hg => ?_⟩
  simp only [List.set_cons_zero, OwnL]
  refine ⟨y, ys, S1', Sb, rfl, fun b hb => .inr hb, fun b hb => .inl ⟨h2 b hb, fun h => h3 b h hb⟩, fun b hb hb' => ?_, hc, ?_⟩
  ·rcases hg.n b hb with h | h
   ·exact h3 b h hb'
   ·exact h (h2 b hb')
  ·exact OwnL.agree (fun _ h => h) hg.f (fun _ h => h) (fun b hb => hg.s b (h2 b hb) fun h => h3 b h hb) _ _ k2
 | S, c0 :: cs, _, j + 1, c, k, h => by
  simp only [OwnL] at k
  obtain ⟨y, ys, Sa, Sb, rfl, h1, h2, h3, k1, k2⟩ := k
  obtain ⟨y', S1, e1, e2, e3, e4⟩ := OwnL.focus k2 (by simpa using h)
  refine ⟨y', S1, by simpa using e1, fun b hb => h2 b (e2 b hb), e3, fun w' c' S1' hc hg => ?_⟩
  have hr := e4 w' c' S1' hc (hg.sub h2)
  simp only [List.set_cons_succ, OwnL]
  refine ⟨y, ys, Sa, _, rfl, fun b hb => .inl ⟨h1 b hb, fun h => h3 b hb (e2 b h)⟩, fun b hb => hb.elim (fun hb => .inl ⟨h2 b hb.1, hb.2⟩) .inr, fun b hb hb' => ?_, ?_, hr⟩
  ·rcases hb' with hb' | hb'
   ·exact h3 b hb hb'.1
   ·rcases hg.n b hb' with h | h
    ·exact h3 b hb (e2 b h)
    ·exact h (h1 b hb)
  ·exact Own.agree (fun _ h => h) hg.f (fun _ h => h) (fun b hb => hg.s b (h1 b hb) fun h => h3 b hb (e2 b h)) _ _ k1
theorem Own.cellFocus {S : Nat → Prop} {e : AV} {x : Value} {j : Nat} {c : AV} (h : Own w true F S e x) (hsz : x.cells.size = e.cells.length) (hj : e.cells[j]? = some c) (hc : c ≠ .junk) :
  ∃ y, ∃ S1 : Nat → Prop, x.cells[j]? = some y ∧ (∀ b, S1 b → S b) ∧ Own w true F S1 c y ∧ ∀ (w' : World) (c' : AV) (S1' : Nat → Prop), c'.cells.length = 1 → Own w' true F S1' c' y → Chg w w' F S S1 S1' →
   Own w' true F (fun b => (S b ∧ ¬ S1 b) ∨ S1' b) (setCell e j c') x ∧ (setCell e j c').cells.length = e.cells.length := by
 by_cases hagg : ∃ cs, e = .agg cs
 ·obtain ⟨cs, rfl⟩ := hagg
  simp only [Own] at h
  obtain ⟨ys, rfl, h⟩ := h
  obtain ⟨y, S1, e1, e2, e3, e4⟩ := OwnL.focus h hj
  refine ⟨y, S1, by simpa [Value.cells] using e1, e2, e3, fun w' c' S1' _ hc' hg => ⟨?_, by simp [setCell, AV.cells]⟩⟩
  simp only [setCell, Own]
  exact ⟨ys, rfl, e4 w' c' S1' hc' hg⟩
 ·have hc1 : e.cells = [e] := by
   cases e <;> first | rfl | exact (hagg ⟨_, rfl⟩).elim
  have hset : ∀ c', setCell e j c' = c' := fun c' => by
   cases e <;> first | rfl | exact (hagg ⟨_, rfl⟩).elim
  rw [hc1] at hj hsz
  have hj0 : j = 0 := by
   rcases j with _ | j
   ·rfl
   ·simp at hj
  subst hj0
  simp at hj; subst hj
  obtain ⟨y, h1, h2⟩ := Own.cell h (by rw [hc1]; exact hsz) 0 e (by rw [hc1]; rfl)
  have hxy : x.cells = #[y] := by
   have hs1 : x.cells.size = 1 := by simpa using hsz
   apply Array.ext
   ·simp [hs1]
   ·intro i h3 h4
    have : i = 0 := by omega
    subst this
    have := (Array.getElem?_eq_some_iff.1 h1).2
    simpa using this
  refine ⟨y, S, h1, fun _ h => h, h2, fun w' c' S1' hc' hcc hg => ?_⟩
  rw [hset]
  refine ⟨?_, by rw [hc', hc1]; rfl⟩
  have hx : x = y ∨ ∃ ys, x = .agg ys := by
   cases x <;> first | (right; exact ⟨_, rfl⟩) | (left; simp [Value.cells] at hxy; exact hxy)
  rcases hx with rfl | ⟨ys, rfl⟩
  ·exact hcc.weak (fun _ h => h) (fun b hb => .inr hb) (Agree.refl _ _)
  ·exfalso
   cases e with
   | agg cs => exact hagg ⟨_, rfl⟩
   | v z => simp only [Own] at h; obtain ⟨rfl, h⟩ := h; simp [Value.oneCell'] at h
   | tup cs => simp only [Own] at h; obtain ⟨_, h, _⟩ := h; simp at h
   | sl nl sz es => simp only [Own, Rep] at h; rcases h with ⟨_, _, _, h, _⟩ | ⟨_, _, _, _, h, _⟩ <;> simp at h
   | fp e j => simp [Own] at h
   | fn f cs => simp [Own] at h
   | ref _ _ _ _ => simp [Own] at h
   | ptr _ _ _ _ => simp [Own] at h
   | junk => exact hc rfl
theorem OwnRow.focus {b sz : Nat} : ∀ {S : Nat → Prop} {o : Nat} {es : List AV} {i : Nat} {e : AV}, OwnRow w true F S b sz o es → es[i]? = some e →
  ∃ x, ∃ S1 : Nat → Prop, (∀ b, S1 b → S b) ∧ Own w true F S1 e x ∧ x.cells.size = sz ∧ e.cells.length = sz ∧ At w b (o + i * sz) x.cells.toList ∧
   ∀ (w' : World) (e' : AV) (S1' : Nat → Prop), Own w' true F S1' e' x → e'.cells.length = sz → w'.heap[b]? = w.heap[b]? → Chg w w' F S S1 S1' → OwnRow w' true F (fun b => (S b ∧ ¬ S1 b) ∨ S1' b) b sz o (es.set i e')
 | _, _, [], _, _, _, h => by simp at h
 | S, o, e0 :: es, 0, e, k, h => by
  simp only [OwnRow] at k
  obtain ⟨x, Sa, Sb, h1, h2, h3, k1, k2, k2', k3, k4⟩ := k
  simp at h; subst h
  refine ⟨x, Sa, h1, k1, k2, k2', by simpa using k3, fun w' e' S1' he hl hb0 hg => ?_⟩
  simp only [List.set_cons_zero, OwnRow]
  refine ⟨x, S1', Sb, fun b hb => .inr hb, fun b hb => .inl ⟨h2 b hb, fun h => h3 b h hb⟩, fun b hb hb' => ?_, he, k2, hl, k3.agree hb0, ?_⟩
  ·rcases hg.n b hb with h | h
   ·exact h3 b h hb'
   ·exact h (h2 b hb')
  ·exact OwnRow.agree (fun _ h => h) hg.f (fun _ h => h) (fun b hb => hg.s b (h2 b hb) fun h => h3 b h hb) b sz (o + sz) hb0 es k4
 | S, o, e0 :: es, i + 1, e, k, h => by
  simp only [OwnRow] at k
  obtain ⟨x, Sa, Sb, h1, h2, h3, k1, k2, k2', k3, k4⟩ := k
  obtain ⟨x', S1, e1, e2, e3, e4, e5, e6⟩ := OwnRow.focus k4 (by simpa using h)
  refine ⟨x', S1, fun b hb => h2 b (e1 b hb), e2, e3, e4, by rw [show o + (i + 1) * sz = o + sz + i * sz from by rw [Nat.add_mul]; omega]; exact e5, fun w' e' S1' he hl hb0 hg => ?_⟩
  have hr := e6 w' e' S1' he hl hb0 (hg.sub h2)
  simp only [List.set_cons_succ, OwnRow]
  refine ⟨x, Sa, _, fun b hb => .inl ⟨h1 b hb, fun h => h3 b hb (e1 b h)⟩, fun b hb => hb.elim (fun hb => .inl ⟨h2 b hb.1, hb.2⟩) .inr, fun b hb hb' => ?_, ?_, k2, k2', k3.agree hb0, hr⟩
  ·rcases hb' with hb' | hb'
   ·exact h3 b hb hb'.1
   ·rcases hg.n b hb' with h | h
    ·exact h3 b hb (e1 b h)
    ·exact h (h1 b hb)
  ·exact Own.agree (fun _ h => h) hg.f (fun _ h => h) (fun b hb => hg.s b (h1 b hb) fun h => h3 b hb (e1 b h)) _ _ k1
theorem setAt_sl {nl : Bool} {sz : Nat} {es : List AV} : ∀ {p : List (Nat × Nat)} {a : AV} {nl0 : Bool} {sz0 : Nat} {es0 : List AV}, getAt a p = .sl nl0 sz0 es0 → es.length = es0.length → nl = nl0 → sz = sz0 →
  ∀ {nl1 : Bool} {sz1 : Nat} {es1 : List AV}, a = .sl nl1 sz1 es1 → ∃ es2, setAt a p (.sl nl sz es) = .sl nl1 sz1 es2 ∧ es2.length = es1.length
 | [], a, _, _, _, h, hl, h1, h2, nl1, sz1, es1, ha => by
  subst ha
  simp only [getAt, AV.sl.injEq] at h
  obtain ⟨rfl, rfl, rfl⟩ := h
  subst h1; subst h2
  exact ⟨es, rfl, hl⟩
 | (i, j) :: p, a, _, _, _, h, hl, h1, h2, nl1, sz1, es1, ha => by
  subst ha
  simp only [getAt] at h
  cases he : es1[i]? with
  | none => rw [he] at h; simp at h
  | some e =>
   rw [he] at h
   simp only [] at h
   cases hc : e.cells[j]? with
   | none => rw [hc] at h; simp at h
   | some c => exact ⟨_, by simp only [setAt, he, hc]; rfl, by simp⟩
theorem Excl.of_own {S : Nat → Prop} {nl : Bool} {sz : Nat} {es : List AV} {y : Value} (h : Own w true F S (.sl nl sz es) y) : Excl w true F S nl sz es y := by
 simp only [Own] at h
 rcases h with h | h
 ·exact h
 ·simp at h
theorem setAt_cells {c' : AV} (hl : c'.cells.length = 1) : ∀ {p : List (Nat × Nat)} {a : AV} {nl1 : Bool} {sz1 : Nat} {es1 : List AV}, a = .sl nl1 sz1 es1 → (setAt a p c').cells.length = 1
 | [], _, _, _, _, _ => hl
 | (i, j) :: p, _, _, _, es1, rfl => by
  simp only [setAt]
  split
  ·split <;> rfl
  ·rfl
theorem setAt_slJ {c' : AV} : ∀ {p : List (Nat × Nat)} {a : AV} {nl0 : Bool} {sz0 : Nat} {es0 : List AV}, getAt a p = .sl nl0 sz0 es0 → p ≠ [] →
  ∀ {nl1 : Bool} {sz1 : Nat} {es1 : List AV}, a = .sl nl1 sz1 es1 → ∃ es2, setAt a p c' = .sl nl1 sz1 es2 ∧ es2.length = es1.length
 | [], _, _, _, _, _, h, _, _, _, _ => (h rfl).elim
 | (i, j) :: p, a, _, _, _, h, _, nl1, sz1, es1, ha => by
  subst ha
  simp only [getAt] at h
  cases he : es1[i]? with
  | none => rw [he] at h; simp at h
  | some e =>
   rw [he] at h
   simp only [] at h
   cases hc : e.cells[j]? with
   | none => rw [hc] at h; simp at h
   | some c => exact ⟨_, by simp only [setAt, he, hc]; rfl, by simp⟩
theorem Own.focus : ∀ (p : List (Nat × Nat)) {S : Nat → Prop} {a : AV} {v : Value} {nl : Bool} {sz : Nat} {es : List AV}, Own w true F S a v → (∃ nl0 sz0 es0, a = .sl nl0 sz0 es0) → getAt a p = .sl nl sz es →
  (∀ b, S b → ¬ F b) → ∃ h, ∃ S1 : Nat → Prop, follow w a v p = some h ∧ (∀ b, S1 b → S b) ∧ Own w true F S1 (.sl nl sz es) h ∧
   ∀ (w' : World) (c' : AV) (S1' : Nat → Prop), c'.cells.length = 1 → Own w' true F S1' c' h → Chg w w' F S S1 S1' → Own w' true F (fun b => (S b ∧ ¬ S1 b) ∨ S1' b) (setAt a p c') v
 | [], S, a, v, nl, sz, es, h, _, hg, _ => by
  simp only [getAt] at hg; subst hg
  refine ⟨v, S, by simp [follow], fun _ h => h, h, fun w' c' S1' _ ho _ => ?_⟩
  simp only [setAt]
  exact ho.weak (fun _ h => h) (fun b hb => .inr hb) (Agree.refl _ _)
 | (i, j) :: p, S, a, v, nl, sz, es, h, ⟨nl0, sz0, es0, ha⟩, hg, hSF => by
  subst ha
  simp only [getAt] at hg
  cases he : es0[i]? with
  | none => simp [he] at hg
  | some e =>
   cases hcj : e.cells[j]? with
   | none => simp [he, hcj] at hg
   | some c =>
    simp only [he, hcj] at hg
    have hcsl : ∃ nl1 sz1 es1, c = .sl nl1 sz1 es1 := by
     cases p with
     | nil => simp only [getAt] at hg; exact ⟨_, _, _, hg⟩
     | cons q p =>
      cases c with
      | sl _ _ _ => exact ⟨_, _, _, rfl⟩
      | _ => simp [getAt] at hg
    have hcj' : c ≠ .junk := by obtain ⟨_, _, _, rfl⟩ := hcsl; simp
    obtain ⟨a', len, cap, hv, h1, h2, h3, h4⟩ := Excl.of_own h
    rcases h4 with ⟨rfl, rfl, rfl, rfl⟩ | ⟨b, o, cs, T, rfl, rfl, hb, hcs, hsz, hrow⟩
    ·have : es0 = [] := List.length_eq_zero_iff.1 h1.symm
     subst this; simp at he
    ·obtain ⟨x, Sx, q1, q2, q3, q4, q5, q6⟩ := OwnRow.focus hrow he
     obtain ⟨y, Sy, r1, r2, r3, r4⟩ := Own.cellFocus q2 (by rw [q3, q4]) hcj hcj'
     obtain ⟨h', S1, t1, t2, t3, t4⟩ := Own.focus p r3 hcsl hg (fun b hb => hSF b (q1 b (r2 b hb)).1)
     have hcell : w.cell? ⟨b, o + i * sz0 + j, none⟩ = some y := q5 j y (by simpa using r1)
     refine ⟨h', S1, by subst hv; simp only [follow, he, hcj, hcell]; exact t1, fun b hb => (q1 b (r2 b (t2 b hb))).1, t3, fun w' c' S1' hl ho hg' => ?_⟩
     have hbS1 : ¬ S1 b := fun h => (q1 b (r2 b (t2 b h))).2 rfl
     have hb0 : w'.heap[b]? = w.heap[b]? := hg'.s b hb hbS1
     have c1 := t4 w' c' S1' hl ho (hg'.sub fun b hb => (q1 b (r2 b hb)).1)
     have hg2 : Chg w w' F Sx Sy (fun b => (Sy b ∧ ¬ S1 b) ∨ S1' b) := ⟨hg'.f, fun b hb hn => hg'.s b (q1 b hb).1 fun h => hn (t2 b h), fun b hb => hb.elim (fun hb => .inl hb.1) fun hb => (hg'.n b hb).elim (fun h => .inl (t2 b h)) fun h => .inr fun hx => h (q1 b hx).1⟩
     have hlen1 : (setAt c p c').cells.length = 1 := by
      obtain ⟨nl1, sz1, es1, hc1⟩ := hcsl
      exact setAt_cells hl hc1
     obtain ⟨c2, c3⟩ := r4 w' _ _ hlen1 c1 hg2
     have hg3 : Chg w w' F (fun x => S x ∧ x ≠ b) Sx (fun b => (Sx b ∧ ¬ Sy b) ∨ ((Sy b ∧ ¬ S1 b) ∨ S1' b)) := ⟨hg'.f, fun b hb hn => hg'.s b hb.1 fun h => hn (r2 b (t2 b h)), fun b' hb' => by
      rcases hb' with hb' | hb' | hb'
      ·exact .inl hb'.1
      ·exact .inl (r2 b' hb'.1)
      ·rcases hg'.n b' hb' with h | h
       ·exact .inl (r2 b' (t2 b' h))
       ·exact .inr fun h' => h h'.1⟩
     have hr := q6 w' _ _ c2 (by rw [c3, q4]) hb0 hg3
     simp only [setAt, he, hcj, Own]
     refine .inl ⟨_, len, cap, hv, by simp [h1], h2, h3, .inr ⟨b, o, cs, T, rfl, by simp, .inl ⟨hb, hbS1⟩, by rw [hb0]; exact hcs, hsz, ?_⟩⟩
     refine OwnRow.agree (fun _ h => h) (Agree.refl _ _) (fun b' hb' => ?_) (Agree.refl _ _) _ _ _ rfl _ hr
     rcases hb' with hb' | hb' | hb' | hb'
     ·refine ⟨.inl ⟨hb'.1.1, fun h => hb'.2 (r2 b' (t2 b' h))⟩, hb'.1.2⟩
     ·exact ⟨.inl ⟨(q1 b' hb'.1).1, fun h => hb'.2 (t2 b' h)⟩, (q1 b' hb'.1).2⟩
     ·exact ⟨.inl ⟨(q1 b' (r2 b' hb'.1)).1, hb'.2⟩, (q1 b' (r2 b' hb'.1)).2⟩
     ·refine ⟨.inr hb', fun e => ?_⟩
      subst e
      rcases hg'.n b' hb' with h | h
      ·exact hbS1 h
      ·exact h hb
end
open Go Go.RowKit
section
variable {P : Program} {C : Ctx} {o : Oper} {a : Act} {w : World} {U : Ld} {w0 : World} {st : ASt} {E : Env}
theorem setPathG (hs : SR U w0 st E a w) {t : Nat} {tk : Tok} {p : List (Nat × Nat)} {nl : Bool} {sz : Nat} {es : List AV} (htk : st.toks[t]? = some tk) (hdeep : tk.deep = true) (hg : getAt tk.row p = .sl nl sz es) :
  ∃ h, ∃ S1 : Nat → Prop, follow w tk.row (E.hd t) p = some h ∧ (∀ b, S1 b → E.S t b) ∧ Own w true E.F S1 (.sl nl sz es) h ∧
   ∀ (w' : World) (c' : AV) (S1' : Nat → Prop), c'.cells.length = 1 → (∀ nl1 sz1 es1, tk.row = .sl nl1 sz1 es1 → ∃ es2, setAt tk.row p c' = .sl nl1 sz1 es2 ∧ es2.length = es1.length) → Frm S1 w w' → Own w' true E.F S1' c' h → (∀ b, S1' b → S1 b ∨ (w.heap.size ≤ b ∧ b < w'.heap.size)) →
    ∃ E' : Env, E'.F = E.F ∧ (∀ b, allB E' b → allB E b ∨ S1' b) ∧ (∀ b, E'.S t b → (E.S t b ∧ ¬ S1 b) ∨ S1' b) ∧ (∀ t', t' ≠ t → E'.S t' = E.S t') ∧ SR U w0 ⟨st.slots.map (killN t), st.toks.set t ⟨true, setAt tk.row p c'⟩⟩ E' a w' := by
 have hlt : t < st.toks.length := (List.getElem?_eq_some_iff.1 htk).1
 obtain ⟨nl0, sz0, es0, hrow, hex⟩ : ∃ nl0 sz0 es0, tk.row = .sl nl0 sz0 es0 ∧ Excl w true E.F (E.S t) nl0 sz0 es0 (E.hd t) := by
  rcases hs.tok t tk htk with hj | ⟨nl', sz', es', h1, h2⟩
  ·rw [hj] at hg; cases p <;> simp [getAt] at hg
  ·rw [hdeep] at h2; exact ⟨_, _, _, h1, h2⟩
 rw [hrow] at hg ⊢
 obtain ⟨h, S1, f1, f2, f3, f4⟩ := Own.focus p hex.own ⟨_, _, _, rfl⟩ hg fun b hb => (hs.slt t b hb).2.1
 refine ⟨h, S1, f1, f2, f3, fun w' c' S1' hl hsl hfr ho hS1' => ?_⟩
 have hchg : Chg w w' E.F (E.S t) S1 S1' := ⟨fun b hb => hfr.block b (hs.flt b hb) fun hb1 => (hs.slt t b (f2 b hb1)).2.1 hb, fun b hb hn => hfr.block b (hs.slt t b hb).1 hn, fun b hb => (hS1' b hb).imp id fun hb' hb2 => by have := (hs.slt t b hb2).1; omega⟩
 have hnew := f4 w' c' S1' hl ho hchg
 obtain ⟨es2, k1, k2⟩ := hsl nl0 sz0 es0 rfl
 rw [k1] at hnew ⊢
 obtain ⟨E', e1, e2, e3, e4, e5, e6⟩ := hs.setTok' (slots := st.slots) (toks := st.toks) (slots' := st.slots.map (killN t)) (tk' := ⟨true, .sl nl0 sz0 es2⟩) htk (E.hd t) (fun b => (E.S t b ∧ ¬ S1 b) ∨ S1' b)
  ⟨hfr.os, hfr.tape, hfr.output, hfr.size, fun b hb hn => hfr.block b hb fun h => hn (f2 b h)⟩
  (fun b hb => hb.elim (fun hb => .inl hb.1) fun hb => (hS1' b hb).elim (fun h => .inl (f2 b h)) fun hb => .inr ⟨.inl (Nat.le_trans hs.frame.size hb.1), hb.2, fun hA => by have := hs.allLt b hA; omega⟩)
  (.inr ⟨nl0, sz0, es2, rfl, Excl.of_own hnew⟩) (by simp) (fun E' e1 e2 e3 e4 i' z hz => by
   rw [List.getElem?_map] at hz
   cases hz0 : st.slots[i']? with
   | none => rw [hz0] at hz; simp at hz
   | some z0 =>
    rw [hz0] at hz
    simp only [Option.map_some, Option.some.injEq] at hz
    subst hz
    have hset : (st.toks.set t ⟨true, .sl nl0 sz0 es2⟩)[t]? = some ⟨true, .sl nl0 sz0 es2⟩ := List.getElem?_set_self hlt
    have hset' : ∀ t', t' ≠ t → (st.toks.set t ⟨true, .sl nl0 sz0 es2⟩)[t']? = st.toks[t']? := fun t' h => List.getElem?_set_ne (fun e => h e.symm)
    have hfol : ∀ t', t' ≠ t → ∀ tk' p nl' sz' es'', st.toks[t']? = some tk' → getAt tk'.row p = .sl nl' sz' es'' → ∀ h, follow w tk'.row (E.hd t') p = some h → follow w' tk'.row (E'.hd t') p = some h := by
     intro t' htk' tk' p nl' sz' es'' h1 h2 h h3
     rcases hs.tokOk t' tk' h1 with hj | ⟨nl1, sz1, es1, g1, g2⟩
     ·rw [hj] at h2; cases p <;> simp [getAt] at h2
     ·rw [g1] at h2 h3 ⊢
      obtain ⟨h', k1, _⟩ := follow_ok p _ _ nl' sz' es'' g2.own h2
      have : h = h' := by have := k1 w (Agree.refl _ _); rw [h3] at this; exact Option.some.inj this
      subst this
      rw [e3 t' htk']
      exact k1 w' fun y hm => hm.elim (fun hm => hchg.f y hm) fun hm => hfr.block y (hs.slt t' y hm).1 fun hy => hs.sep t' t y htk' hm (f2 y hy)
    refine SRep.chgN hchg.f (fun y hy => by rw [e1]; exact hy) (fun t' p lo n y hnk hr => ?_) (fun t' p i j y hnk hr => ?_) z0 _ (hs.slot i' z0 hz0)
    ·refine ⟨by simpa using hr.1, fun tk' nl' sz' es'' h1 h2 h3 => ?_⟩
     by_cases htk' : t' = t
     ·subst htk'
      have hp : p = [] := Classical.byContradiction fun hp => hnk ⟨rfl, hp⟩
      subst hp
      rw [hset] at h1; obtain rfl := Option.some.inj h1
      simp only [getAt, AV.sl.injEq] at h2; obtain ⟨rfl, rfl, rfl⟩ := h2
      obtain ⟨h, g1, g2⟩ := hr.2 tk nl0 sz0 es0 htk (by simp [getAt, hrow]) (by rw [← k2]; exact h3)
      exact ⟨h, by simp only [follow] at g1 ⊢; rw [e2]; exact g1, g2⟩
     ·rw [hset' t' htk'] at h1
      obtain ⟨h, g1, g2⟩ := hr.2 tk' nl' sz' es'' h1 h2 h3
      exact ⟨h, hfol t' htk' tk' p nl' sz' es'' h1 h2 h g1, g2⟩
    ·refine ⟨by simpa using hr.1, fun tk' nl' sz' es'' h1 h2 h3 => ?_⟩
     by_cases htk' : t' = t
     ·subst htk'
      have hp : p = [] := Classical.byContradiction fun hp => hnk ⟨rfl, hp⟩
      subst hp
      rw [hset] at h1; obtain rfl := Option.some.inj h1
      simp only [getAt, AV.sl.injEq] at h2; obtain ⟨rfl, rfl, rfl⟩ := h2
      obtain ⟨b1, o1, l1, c1, g1, g2⟩ := hr.2 tk nl0 sz0 es0 htk (by simp [getAt, hrow]) (by rw [← k2]; exact h3)
      exact ⟨b1, o1, l1, c1, by simp only [follow] at g1 ⊢; rw [e2]; exact g1, g2⟩
     ·rw [hset' t' htk'] at h1
      obtain ⟨b1, o1, l1, c1, g1, g2⟩ := hr.2 tk' nl' sz' es'' h1 h2 h3
      exact ⟨b1, o1, l1, c1, hfol t' htk' tk' p nl' sz' es'' h1 h2 _ g1, g2⟩)
 refine ⟨E', e1, fun b hb => ?_, fun b hb => by rw [e5] at hb; exact hb, fun t' ht' => funext fun b => by rw [e4 t' ht'], e6⟩
 rcases hb with hb | ⟨t', hb⟩
 ·rw [e1] at hb; exact .inl (.inl hb)
 ·by_cases et : t' = t
  ·subst et; rw [e5] at hb
   exact hb.elim (fun hb => .inl (.inr ⟨t', hb.1⟩)) .inr
  ·rw [e4 t' et] at hb; exact .inl (.inr ⟨t', hb⟩)
theorem setPath_ok (hs : SR U w0 st E a w) {t : Nat} {tk : Tok} {p : List (Nat × Nat)} {nl : Bool} {sz : Nat} {es : List AV} (htk : st.toks[t]? = some tk) (hdeep : tk.deep = true) (hg : getAt tk.row p = .sl nl sz es) :
  ∃ h, ∃ S1 : Nat → Prop, follow w tk.row (E.hd t) p = some h ∧ (∀ b, S1 b → E.S t b) ∧ Own w true E.F S1 (.sl nl sz es) h ∧
   ∀ (w' : World) (es' : List AV) (S1' : Nat → Prop), es'.length = es.length → Frm S1 w w' → Own w' true E.F S1' (.sl nl sz es') h → (∀ b, S1' b → S1 b ∨ (w.heap.size ≤ b ∧ b < w'.heap.size)) →
    ∃ E' : Env, E'.F = E.F ∧ (∀ b, allB E' b → allB E b ∨ S1' b) ∧ SR U w0 ⟨st.slots.map (killN t), st.toks.set t ⟨true, setAt tk.row p (.sl nl sz es')⟩⟩ E' a w' := by
 obtain ⟨h, S1, f1, f2, f3, f4⟩ := setPathG hs htk hdeep hg
 refine ⟨h, S1, f1, f2, f3, fun w' es' S1' hl hfr ho hS1' => ?_⟩
 obtain ⟨E', e1, e2, _, _, e5⟩ := f4 w' (.sl nl sz es') S1' rfl (fun nl1 sz1 es1 hr => setAt_sl hg hl rfl rfl hr) hfr ho hS1'
 exact ⟨E', e1, e2, e5⟩
theorem SR.uproot (hs : SR U w0 st E a w) {i t n : Nat} {p : List (Nat × Nat)} {tk : Tok} {nl : Bool} {sz : Nat} {es : List AV} (hx : st.slots[i]? = some (.ref t p 0 n)) (htk : st.toks[t]? = some tk) (hdeep : tk.deep = true)
  (hg : getAt tk.row p = .sl nl sz es) (hp : p ≠ []) (hn : n = es.length) {szn : Nat} (hz : sz = szn ∨ (nl = true ∧ es = [])) :
  ∃ E', SR U w0 ⟨(st.slots.map (killN t)).set i (.ref st.toks.length [] 0 n), st.toks.set t ⟨true, setAt tk.row p .junk⟩ ++ [⟨true, .sl nl szn es⟩]⟩ E' a w := by
 obtain ⟨h, S1, f1, f2, f3, f4⟩ := setPathG hs htk hdeep hg
 obtain ⟨E1, e1, e2, e3, e4, e5⟩ := f4 w .junk (fun _ => False) rfl (fun nl1 sz1 es1 hr => setAt_slJ hg hp hr) (Frm.refl _ _) (by simp [Own]) (fun _ h => h.elim)
 have hS1 : ∀ b, S1 b → (w0.heap.size ≤ b ∨ U b) ∧ b < w.heap.size ∧ ¬ allB E1 b := fun b hb => by
  have h1 := hs.slt t b (f2 b hb)
  refine ⟨h1.2.2, h1.1, ?_⟩
  rintro (hF | ⟨t', h2⟩)
  ·rw [e1] at hF; exact h1.2.1 hF
  ·by_cases et : t' = t
   ·subst et
    rcases e3 b h2 with h3 | h3
    ·exact h3.2 hb
    ·exact h3
   ·rw [e4 t' et] at h2
    exact hs.sep t t' b (fun e => et e.symm) (f2 b hb) h2
 have hrow0 := Excl.of_own f3
 rw [← e1] at hrow0
 have hnil : nl = true → h = .slice none 0 0 := fun hnl => by
  obtain ⟨a', l', c', q1, q2, q3, q4, q5⟩ := hrow0
  rcases q5 with ⟨q6, _, q7, q8⟩ | ⟨_, _, _, _, _, q6, _⟩
  ·rw [q1, q6, q7, q8]
  ·rw [hnl] at q6; simp at q6
 have hrow : Excl w true E1.F S1 nl szn es h := by
  rcases hz with rfl | ⟨h1, h2⟩
  ·exact hrow0
  ·exact ⟨none, 0, 0, hnil h1, by rw [h2]; rfl, Nat.le_refl _, Nat.zero_le _, .inl ⟨rfl, h1, rfl, rfl⟩⟩
 obtain ⟨E2, g1, g2, g3, _, g5⟩ := e5.newTok ⟨true, .sl nl szn es⟩ h S1 hS1 (.inr ⟨nl, szn, es, rfl, hrow⟩)
 have hil : i < st.slots.length := (List.getElem?_eq_some_iff.1 hx).1
 have hsr := hs.slot i _ hx
 simp only [SRep] at hsr
 obtain ⟨h', k1, k2⟩ := hsr.2 tk nl sz es htk hg (by omega)
 rw [f1] at k1
 obtain rfl := Option.some.inj k1
 refine ⟨E2, g5.defers, by have := g5.size; simpa using this, fun i' x hi' => ?_, g5.flt, g5.tok, g5.slt, g5.sep, g5.frame, g5.pin⟩
 by_cases e : i' = i
 ·subst e
  rw [List.getElem?_set_self (by simpa using hil)] at hi'
  obtain rfl := Option.some.inj hi'
  simp only [SRep]
  refine ⟨by simp, fun tk' nl' sz' es' h1 h2 h3 => ?_⟩
  have hl : (st.toks.set t ⟨true, setAt tk.row p .junk⟩).length = st.toks.length := by simp
  rw [← hl] at h1
  simp at h1; subst h1
  simp only [getAt, AV.sl.injEq] at h2
  obtain ⟨rfl, rfl, rfl⟩ := h2
  refine ⟨h, by simp only [follow]; rw [← hl]; rw [g2], ?_⟩
  rcases hz with rfl | ⟨h4, h5⟩
  ·exact k2
  ·have hn0 := hnil h4
   rcases k2 with ⟨_, k2⟩ | ⟨_, _, _, _, k2⟩ | ⟨_, _, _, _, _, k2, _⟩
   ·exact .inl ⟨hn0, k2⟩
   ·rw [hn0] at k2; simp at k2
   ·rw [hn0] at k2; simp at k2
 ·rw [List.getElem?_set_ne (fun h => e h.symm)] at hi'
  exact g5.slot i' x hi'
def butB (E : Env) (t : Nat) : Nat → Prop := fun b => E.F b ∨ ∃ t', t' ≠ t ∧ E.S t' b
mutual
theorem SRep.resN {toks : List Tok} (hT : ∀ t tk, toks[t]? = some tk → TokOk w E t tk) {t0 : Nat} : ∀ (x : AV) (y : Value), t0 ∉ refs x → SRep w E toks x y → Rep w (butB E t0) (Ax.res toks x) y
 | .v _, _, _, k => by simpa [SRep, Rep, Ax.res] using k
 | .agg cs, y, hn, k => by
  simp only [SRep, Rep, Ax.res] at k ⊢; obtain ⟨ys, rfl, k⟩ := k; exact ⟨ys, rfl, SRepL.resN hT cs _ (by simpa [refs] using hn) k⟩
 | .tup cs, y, hn, k => by
  simp only [SRep, Rep, Ax.res] at k ⊢; obtain ⟨ys, rfl, k⟩ := k; exact ⟨ys, rfl, SRepL.resN hT cs _ (by simpa [refs] using hn) k⟩
 | .sl nl sz es, y, _, k => by simp only [SRep, Ax.res] at k ⊢; exact k.weak (fun _ h => .inl h) (Agree.refl _ _)
 | .fp e j, y, _, k => by simp only [SRep, Ax.res] at k ⊢; exact k.weak (fun _ h => .inl h) (Agree.refl _ _)
 | .fn f cs, y, hn, k => by
  simp only [SRep, Rep, Ax.res] at k ⊢; obtain ⟨ys, rfl, k⟩ := k; exact ⟨ys, rfl, SRepL.resN hT cs _ (by simpa [refs] using hn) k⟩
 | .ref t p lo n, y, hn, k => by
  have hne : t ≠ t0 := fun e => hn (by simp [refs, e])
  simp only [SRep, Ax.res] at k ⊢
  cases ht : toks[t]? with
  | none => simp [Rep]
  | some tk =>
   simp only []
   split
   ·rename_i nl sz es hg
    split
    ·rename_i hle
     obtain ⟨h, g1, g2⟩ := k.2 tk nl sz es ht hg hle
     obtain ⟨h', k1, k2⟩ := (hT t tk ht).follow hg
     have : h = h' := by have := k1 w (Agree.refl _ _); rw [g1] at this; exact Option.some.inj this
     subst this
     exact (k2.rep.weak (fun b hb => hb.elim .inl fun h => .inr ⟨t, hne, h⟩) (Agree.refl _ _)).view g2 hle
    ·simp [Rep]
   ·simp [Rep]
 | .ptr t p i j, y, hn, k => by
  have hne : t ≠ t0 := fun e => hn (by simp [refs, e])
  simp only [SRep, Ax.res] at k ⊢
  cases ht : toks[t]? with
  | none => simp [Rep]
  | some tk =>
   simp only []
   split
   ·rename_i nl sz es hg
    cases he : es[i]? with
    | none => simp [Rep]
    | some e =>
     have hlt : i < es.length := (List.getElem?_eq_some_iff.1 he).1
     obtain ⟨b, o, hl, hc, g1, rfl⟩ := k.2 tk nl sz es ht hg hlt
     obtain ⟨h', k1, k2⟩ := (hT t tk ht).follow hg
     have : h' = .slice (some ⟨b, o, none⟩) hl hc := by have := k1 w (Agree.refl _ _); rw [g1] at this; exact (Option.some.inj this).symm
     subst this
     have hr := k2.rep.weak (F' := butB E t0) (fun b hb => hb.elim .inl fun h => .inr ⟨t, hne, h⟩) (Agree.refl _ _)
     simp only [Rep] at hr ⊢
     obtain ⟨a, len, cap, hs, h1, h2, h3, h4⟩ := hr
     simp only [Value.slice.injEq] at hs
     obtain ⟨rfl, rfl, rfl⟩ := hs
     rcases h4 with h4 | ⟨b2, o2, hb, hnl, h4⟩ | ⟨_, _, rfl⟩
     ·simp at h4
     rotate_left
     ·simp at he
     ·simp only [Option.some.injEq, Addr.mk.injEq, and_true] at hb
      obtain ⟨rfl, rfl⟩ := hb
      obtain ⟨x, q1, q2, q3, q4, q5⟩ := RepRow.get h4 i e he
      exact ⟨b, o + i * sz, x, rfl, q1, q4, q5, by rw [q2, q3]⟩
   ·simp [Rep]
 | .junk, _, _, _ => by simp [Rep, Ax.res]
theorem SRepL.resN {toks : List Tok} (hT : ∀ t tk, toks[t]? = some tk → TokOk w E t tk) {t0 : Nat} : ∀ (x : List AV) (y : List Value), t0 ∉ refsL x → SRepL w E toks x y → RepL w (butB E t0) (Ax.resL toks x) y
 | [], _, _, k => by simpa [SRepL, RepL, Ax.resL] using k
 | c :: cs, y, hn, k => by
  simp only [SRepL, RepL, Ax.resL] at k ⊢
  simp only [refsL, List.mem_append, not_or] at hn
  obtain ⟨y, ys, rfl, k1, k2⟩ := k
  exact ⟨y, ys, rfl, SRep.resN hT c y hn.1 k1, SRepL.resN hT cs ys hn.2 k2⟩
end
theorem refsL_app : ∀ {l l' : List AV}, refsL (l ++ l') = refsL l ++ refsL l'
 | [], _ => rfl
 | c :: cs, l' => by simp [refsL, refsL_app (l := cs)]
theorem not_refs {l : List AV} {t0 : Nat} : ∀ {pos i : Nat} {x : AV}, t0 ∉ refsL (l.eraseIdx pos) → i ≠ pos → l[i]? = some x → t0 ∉ refs x := by
 intro pos i x h hne hx ht
 have hm : x ∈ l.eraseIdx pos := by
  rw [List.mem_eraseIdx_iff_getElem?]
  exact ⟨i, hne, hx⟩
 have : ∀ (l : List AV), x ∈ l → t0 ∈ refsL l := by
  intro l
  induction l with
  | nil => simp
  | cons c cs ih =>
   intro hx
   simp only [refsL, List.mem_append]
   rcases List.mem_cons.1 hx with rfl | hx
   ·exact .inl ht
   ·exact .inr (ih hx)
 exact h (this _ hm)
theorem goes_callM (hC : C.Ok P) (hs : SR U w0 st E a w) {f : Operand} {args : Array Operand} {ts : Array TypeId} (ho : o.op = .call { callee := .value f, args := args, argTypes := ts }) {g : FuncId} {caps : List AV} (hf : ev st.slots f = .fn g caps) {out : Out}
  (h : mutCall st.slots st.toks (args.toList.map (ev st.slots)) caps (C.M g (args.toList.map (fun x => res st.toks (ev st.slots x)) ++ resL st.toks caps)) = some out) : Goes P o a w U w0 out := by
 have hfv := hs.ev f
 rw [hf] at hfv
 simp only [SRep] at hfv
 obtain ⟨cv, hfv, hcaps⟩ := hfv
 cases hM : C.M g (args.toList.map (fun x => res st.toks (ev st.slots x)) ++ resL st.toks caps) with
 | none => rw [hM] at h; simp [mutCall] at h
 | some q =>
 obtain ⟨pos, r, row'⟩ := q
 rw [hM] at h
 obtain ⟨⟨fn, hfn, hn1, hn2⟩, nl1, sz1, es1, es1', ha1, rfl, hcall⟩ := hC.M _ _ _ _ _ hM
 have hrun : (execOp a.eval o).run P w = .ok (.enter g (args.map a.eval ++ cv)) w := by
  have e1 : fn.name ≠ "runtime.NumGoroutine" := by simpa using hn1
  have e2 : fn.body ≠ Option.none := by intro e; rw [e] at hn2; simp at hn2
  simp [execOp, ho, resolve, hfv, Deferred.ofValue, invoke, callFunc, hfn, e1, e2]
 have hcl : cv.size = caps.length := by
  have : ∀ (xs : List AV) (ys : List Value), SRepL w E st.toks xs ys → ys.length = xs.length := by
   intro xs
   induction xs with
   | nil => intro ys h; simp only [SRepL] at h; simp [h]
   | cons c cs ih =>
    intro ys h
    simp only [SRepL] at h
    obtain ⟨y, ys', rfl, _, h2⟩ := h
    simp [ih ys' h2]
  simpa using this _ _ hcaps
 have hcl' : (resL st.toks caps).length = caps.length := by
  have : ∀ l : List AV, (resL st.toks l).length = l.length := by
   intro l; induction l with
   | nil => rfl
   | cons c cs ih => simp [resL, ih]
  exact this caps
 have hresget : ∀ (l : List AV) (i : Nat) (x : AV), (resL st.toks l)[i]? = some x → ∃ c, l[i]? = some c ∧ x = res st.toks c := by
  intro l
  induction l with
  | nil => intro i x h; simp [resL] at h
  | cons c cs ih =>
   intro i x h
   cases i with
   | zero => simp [resL] at h; exact ⟨c, by simp, h.symm⟩
   | succ i => simp [resL] at h; simpa using ih i x h
 simp only [mutCall] at h
 split at h
 ·-- a row
  rename_i t p lo n nl' sz' es' hav hrow'
  simp only [AV.sl.injEq] at hrow'
  obtain ⟨rfl, rfl, rfl⟩ := hrow'
  split at h
  ·rename_i tk htk
   split at h
   ·rename_i nl sz es hg
    split at h
    ·rename_i hc
     obtain ⟨hdeep, rfl, rfl, hlen', rfl, rfl, hnr⟩ := hc
     simp only [Option.some.injEq] at h; subst h
     rw [refsL_app, List.mem_append, not_or] at hnr
     obtain ⟨h, S1, f1, f2, f3, f4⟩ := setPath_ok hs htk hdeep hg
     -- the argument
     have hposlt : pos < args.size := by
      have := (List.getElem?_eq_some_iff.1 hav).1
      simpa using this
     obtain ⟨ox, hox, hoxe⟩ : ∃ ox, args.toList[pos]? = some ox ∧ ev st.slots ox = .ref t p 0 es.length := by
      rw [List.getElem?_map] at hav
      cases hh : args.toList[pos]? with
      | none => rw [hh] at hav; simp at hav
      | some ox => rw [hh] at hav; exact ⟨ox, rfl, by simpa using hav⟩
     have hview := hs.ev ox
     rw [hoxe] at hview
     simp only [SRep] at hview
     obtain ⟨h2, g1, g2⟩ := hview.2 tk _ _ es htk hg (by omega)
     have : h2 = h := by rw [f1] at g1; exact (Option.some.inj g1).symm
     subst this
     have hex := Excl.of_own f3
     have hy : a.eval ox = h2 := by
      obtain ⟨a1, l, c, hhd, hl, _⟩ := hex
      rcases g2 with ⟨q1, q2⟩ | ⟨_, q2, _⟩ | ⟨b, o1, hl', hc, o', q1, q2, q3⟩
      ·rw [q1, q2]
      ·exact q2
      ·rw [q1] at hhd ⊢
       simp only [Value.slice.injEq] at hhd
       rw [q2]
       have : o' = o1 + 0 * sz1 := q3.resolve_right (fun h => h.2.1 rfl)
       rw [this]; simp
       omega
     have harg : (args.toList.map (fun x => res st.toks (ev st.slots x)) ++ resL st.toks caps)[pos]? = some (.sl nl1 sz1 es) := by
      rw [List.getElem?_append_left (by simpa using hposlt), List.getElem?_map, hox]
      simp [hoxe, res, htk, hg, viewEs]
     rw [harg] at ha1
     simp only [Option.some.injEq, AV.sl.injEq, true_and] at ha1
     subst ha1
     intro hd0 next hn
     refine .inr (.inr ⟨_, _, _, hrun, ?_⟩)
     refine (hcall w (butB E t) S1 _ h2 ⟨fun b hb => hb.elim (hs.flt b) fun ⟨t', _, h⟩ => (hs.slt t' b h).1, hs.defers.gl.mono fun _ h => .inl h⟩ (fun b hb => ⟨(hs.slt t b (f2 b hb)).1, ?_⟩) (by simp [hcl, hcl']) (fun i x hi hx => ?_) ?_ ?_).mono fun e w' he => ?_
     ·rintro (hF | ⟨t', ht', hS⟩)
      ·exact (hs.slt t b (f2 b hb)).2.1 hF
      ·exact hs.sep t' t b ht' hS (f2 b hb)
     ·by_cases hia : i < args.size
      ·rw [List.getElem?_append_left (by simpa using hia), List.getElem?_map] at hx
       obtain ⟨oi, hoi⟩ : ∃ oi, args.toList[i]? = some oi := ⟨args.toList[i]'(by simpa using hia), List.getElem?_eq_getElem _⟩
       rw [hoi] at hx
       simp only [Option.map_some, Option.some.injEq] at hx
       subst hx
       refine ⟨a.eval oi, ?_, SRep.resN hs.tokOk _ _ (not_refs (pos := pos) (i := i) hnr.1 hi (by rw [List.getElem?_map, hoi]; rfl)) (hs.ev oi)⟩
       rw [Array.getElem?_append_left (by simpa using hia), Array.getElem?_map]
       have : args[i]? = some oi := by simpa using hoi
       rw [this]; rfl
      ·rw [List.getElem?_append_right (by simpa using hia)] at hx
       simp only [List.length_map, Array.length_toList] at hx
       obtain ⟨c, hc1, rfl⟩ := hresget caps _ x hx
       obtain ⟨y, hy1, hy2⟩ := SRepL.get hcaps _ c hc1
       refine ⟨y, ?_, SRep.resN hs.tokOk _ _ ?_ hy2⟩
       ·rw [Array.getElem?_append_right (by simpa using hia)]
        simpa using hy1
       ·intro ht
        have : ∀ (l : List AV) (i : Nat), l[i]? = some c → t ∈ refsL l := by
         intro l
         induction l with
         | nil => intro i h; simp at h
         | cons d ds ih =>
          intro i h
          simp only [refsL, List.mem_append]
          cases i with
          | zero => simp at h; subst h; exact .inl ht
          | succ i => exact .inr (ih i (by simpa using h))
        exact hnr.2 (this caps _ hc1)
     ·rw [Array.getElem?_append_left (by simpa using hposlt), Array.getElem?_map]
      have : args[pos]? = some ox := by simpa using hox
      rw [this, ← hy]; rfl
     ·have := (Own.deepF (F' := fun _ => False) _ _ f3)
      exact Excl.of_own this
     ·obtain ⟨y, S', Sr, rfl, hfr, hS', hSr, hdis, hown, hexc⟩ := he
      obtain ⟨E1, k1, k2, k3⟩ := f4 w' es1' S' hlen' hfr (Own.deepF _ _ hexc.own) hS'
      obtain ⟨E', h1, _, _, _, h5, h6⟩ := intern_ok (slots := st.slots.map (killN t)) r y Sr (st.toks.set t ⟨true, setAt tk.row p (.sl nl1 sz1 es1')⟩) E1 k3 hown (fun b hb => ⟨.inl (Nat.le_trans hs.frame.size (hSr b hb).1), (hSr b hb).2, fun hA => by
       rcases k2 b hA with hA | hA
       ·have := hs.allLt b hA; have := (hSr b hb).1; omega
       ·exact hdis b hA hb⟩)
      exact ⟨_, rfl, hn E' _ _ (SR.put h5 o.dst hd0 h6)⟩
    ·simp at h
   ·simp at h
  ·simp at h
 ·-- nil
  rename_i sz sz' hav hrow'
  simp only [AV.sl.injEq] at hrow'
  obtain ⟨rfl, rfl, rfl⟩ := hrow'
  split at h
  ·rename_i hsz
   subst hsz
   simp only [Option.some.injEq] at h; subst h
   have hposlt : pos < args.size := by
    have := (List.getElem?_eq_some_iff.1 hav).1
    simpa using this
   obtain ⟨ox, hox, hoxe⟩ : ∃ ox, args.toList[pos]? = some ox ∧ ev st.slots ox = .sl true sz1 [] := by
    rw [List.getElem?_map] at hav
    cases hh : args.toList[pos]? with
    | none => rw [hh] at hav; simp at hav
    | some ox => rw [hh] at hav; exact ⟨ox, rfl, by simpa using hav⟩
   have hvx := hs.ev ox
   rw [hoxe] at hvx
   simp only [SRep, Rep] at hvx
   have hvn : a.eval ox = .slice none 0 0 := by
    obtain ⟨a1, l, c, hv, _, _, _, h4⟩ := hvx
    rcases h4 with ⟨rfl, _, rfl, rfl⟩ | ⟨_, _, _, h, _⟩ | ⟨_, h, _⟩
    ·exact hv
    ·simp at h
    ·simp at h
   have harg : (args.toList.map (fun x => res st.toks (ev st.slots x)) ++ resL st.toks caps)[pos]? = some (.sl true sz1 []) := by
    rw [List.getElem?_append_left (by simpa using hposlt), List.getElem?_map, hox]
    simp [hoxe, res]
   rw [harg] at ha1
   simp only [Option.some.injEq, AV.sl.injEq, true_and] at ha1
   subst ha1
   intro hd0 next hn
   refine .inr (.inr ⟨_, _, _, hrun, ?_⟩)
   refine (hcall w (allB E) (fun _ => False) _ (.slice none 0 0) ⟨hs.allLt, hs.defers.gl.mono fun _ h => .inl h⟩ (fun b hb => hb.elim) (by simp [hcl, hcl']) (fun i x hi hx => ?_) ?_ ⟨none, 0, 0, rfl, rfl, Nat.le_refl _, Nat.zero_le _, .inl ⟨rfl, rfl, rfl, rfl⟩⟩).mono fun e w' he => ?_
   ·have hrep : RepL w (allB E) (args.toList.map (fun x => res st.toks (ev st.slots x)) ++ resL st.toks caps) (args.map a.eval ++ cv).toList := by
     rw [Array.toList_append, Array.toList_map]
     exact RepL_app (RepL_args hs _) (SRepL.res hs.tokOk _ _ hcaps)
    obtain ⟨y, hy1, hy2⟩ := RepL.get hrep i x hx
    exact ⟨y, by rw [← Array.getElem?_toList]; exact hy1, hy2⟩
   ·rw [Array.getElem?_append_left (by simpa using hposlt), Array.getElem?_map]
    have : args[pos]? = some ox := by simpa using hox
    rw [this, ← hvn]; rfl
   ·obtain ⟨y, S', Sr, rfl, hfr, hS', hSr, hdis, hown, hexc⟩ := he
    have hg := hs.grow hfr
    obtain ⟨E', h1, _, _, _, h5, h6⟩ := intern_ok (slots := st.slots) r y Sr st.toks E hg hown (fun b hb => ⟨.inl (Nat.le_trans hs.frame.size (hSr b hb).1), (hSr b hb).2, fun hA => by have := hs.allLt b hA; have := (hSr b hb).1; omega⟩)
    exact ⟨_, rfl, hn E' _ _ (SR.put h5 o.dst hd0 h6)⟩
  ·simp at h
 ·simp at h
theorem others_get {mv : List Nat} {t0 : Nat} : ∀ {l : List AV} {k i : Nat} {x : AV}, t0 ∉ refsL (others mv k l) → (k + i) ∉ mv → l[i]? = some x → t0 ∉ refs x
 | [], _, _, _, _, _, hx => by simp at hx
 | c :: cs, k, i, x, h, hne, hx => by
  simp only [others] at h
  cases i with
  | zero =>
   simp at hx; subst hx
   have : mv.contains k = false := by simpa using hne
   rw [this] at h
   simp only [Bool.false_eq_true, if_false, refsL, List.mem_append, not_or] at h
   exact h.1
  | succ i =>
   refine others_get (l := cs) (k := k + 1) (i := i) (fun hm => h ?_) (by rw [show k + 1 + i = k + (i + 1) by omega]; exact hne) (by simpa using hx)
   split
   ·exact hm
   ·simp only [refsL, List.mem_append]; exact .inr hm
theorem meets_no {l : List Nat} : ∀ {ts : List Nat}, meets ts l = false → ∀ t ∈ ts, t ∉ l
 | [], _, t, ht => by simp at ht
 | x :: xs, h, t, ht => by
  simp only [meets, Bool.or_eq_false_iff] at h
  rcases List.mem_cons.1 ht with rfl | ht
  ·simpa using h.1
  ·exact meets_no h.2 t ht
def butL (E : Env) (ts : List Nat) : Nat → Prop := fun b => E.F b ∨ ∃ t', t' ∉ ts ∧ E.S t' b
mutual
theorem SRep.resM {toks : List Tok} (hT : ∀ t tk, toks[t]? = some tk → TokOk w E t tk) {ts : List Nat} : ∀ (x : AV) (y : Value), (∀ t ∈ ts, t ∉ refs x) → SRep w E toks x y → Rep w (butL E ts) (Ax.res toks x) y
 | .v _, _, _, k => by simpa [SRep, Rep, Ax.res] using k
 | .agg cs, y, hn, k => by
  simp only [SRep, Rep, Ax.res] at k ⊢; obtain ⟨ys, rfl, k⟩ := k; exact ⟨ys, rfl, SRepL.resM hT cs _ (by simpa [refs] using hn) k⟩
 | .tup cs, y, hn, k => by
  simp only [SRep, Rep, Ax.res] at k ⊢; obtain ⟨ys, rfl, k⟩ := k; exact ⟨ys, rfl, SRepL.resM hT cs _ (by simpa [refs] using hn) k⟩
 | .sl nl sz es, y, _, k => by simp only [SRep, Ax.res] at k ⊢; exact k.weak (fun _ h => .inl h) (Agree.refl _ _)
 | .fp e j, y, _, k => by simp only [SRep, Ax.res] at k ⊢; exact k.weak (fun _ h => .inl h) (Agree.refl _ _)
 | .fn f cs, y, hn, k => by
  simp only [SRep, Rep, Ax.res] at k ⊢; obtain ⟨ys, rfl, k⟩ := k; exact ⟨ys, rfl, SRepL.resM hT cs _ (by simpa [refs] using hn) k⟩
 | .ref t p lo n, y, hn, k => by
  have hne : t ∉ ts := fun e => hn t e (by simp [refs])
  have k' := k
  simp only [SRep, Ax.res] at k ⊢
  cases ht : toks[t]? with
  | none => simp [Rep]
  | some tk =>
   simp only []
   split
   ·rename_i nl sz es hg
    split
    ·rename_i hle
     obtain ⟨h, g1, g2⟩ := k.2 tk nl sz es ht hg hle
     obtain ⟨h', k1, k2⟩ := (hT t tk ht).follow hg
     have : h = h' := by have := k1 w (Agree.refl _ _); rw [g1] at this; exact Option.some.inj this
     subst this
     exact (k2.rep.weak (fun b hb => hb.elim .inl fun h => .inr ⟨t, hne, h⟩) (Agree.refl _ _)).view g2 hle
    ·simp [Rep]
   ·simp [Rep]
 | .ptr t p i j, y, hn, k => by
  have hne : t ∉ ts := fun e => hn t e (by simp [refs])
  simp only [SRep, Ax.res] at k ⊢
  cases ht : toks[t]? with
  | none => simp [Rep]
  | some tk =>
   simp only []
   split
   ·rename_i nl sz es hg
    cases he : es[i]? with
    | none => simp [Rep]
    | some e =>
     have hlt : i < es.length := (List.getElem?_eq_some_iff.1 he).1
     obtain ⟨b, o, hl, hc, g1, rfl⟩ := k.2 tk nl sz es ht hg hlt
     obtain ⟨h', k1, k2⟩ := (hT t tk ht).follow hg
     have : h' = .slice (some ⟨b, o, none⟩) hl hc := by have := k1 w (Agree.refl _ _); rw [g1] at this; exact (Option.some.inj this).symm
     subst this
     have hr := k2.rep.weak (F' := butL E ts) (fun b hb => hb.elim .inl fun h => .inr ⟨t, hne, h⟩) (Agree.refl _ _)
     simp only [Rep] at hr ⊢
     obtain ⟨a, len, cap, hs, h1, h2, h3, h4⟩ := hr
     simp only [Value.slice.injEq] at hs
     obtain ⟨rfl, rfl, rfl⟩ := hs
     rcases h4 with h4 | ⟨b2, o2, hb, hnl, h4⟩ | ⟨_, _, rfl⟩
     ·simp at h4
     rotate_left
     ·simp at he
     ·simp only [Option.some.injEq, Addr.mk.injEq, and_true] at hb
      obtain ⟨rfl, rfl⟩ := hb
      obtain ⟨x, q1, q2, q3, q4, q5⟩ := RepRow.get h4 i e he
      exact ⟨b, o + i * sz, x, rfl, q1, q4, q5, by rw [q2, q3]⟩
   ·simp [Rep]
 | .junk, _, _, _ => by simp [Rep, Ax.res]
theorem SRepL.resM {toks : List Tok} (hT : ∀ t tk, toks[t]? = some tk → TokOk w E t tk) {ts : List Nat} : ∀ (x : List AV) (y : List Value), (∀ t ∈ ts, t ∉ refsL x) → SRepL w E toks x y → RepL w (butL E ts) (Ax.resL toks x) y
 | [], _, _, k => by simpa [SRepL, RepL, Ax.resL] using k
 | c :: cs, y, hn, k => by
  simp only [SRepL, RepL, Ax.resL] at k ⊢
  simp only [refsL, List.mem_append, not_or] at hn
  obtain ⟨y, ys, rfl, k1, k2⟩ := k
  exact ⟨y, ys, rfl, SRep.resM hT c y (fun t ht => (hn t ht).1) k1, SRepL.resM hT cs ys (fun t ht => (hn t ht).2) k2⟩
end
theorem SRepL_len {toks : List Tok} : ∀ {xs : List AV} {ys : List Value}, SRepL w E toks xs ys → ys.length = xs.length
 | [], ys, h => by simp only [SRepL] at h; simp [h]
 | c :: cs, ys, h => by
  simp only [SRepL] at h
  obtain ⟨y, ys', rfl, _, h2⟩ := h
  simp [SRepL_len h2]
theorem refsL_memget : ∀ (l : List AV) (i : Nat) (c : AV), l[i]? = some c → ∀ t ∈ refs c, t ∈ refsL l
 | [], _, _, h, _, _ => by simp at h
 | d :: ds, i, c, h, t, ht => by
  simp only [refsL, List.mem_append]
  cases i with
  | zero => simp at h; subst h; exact .inl ht
  | succ i => exact .inr (refsL_memget ds i c (by simpa using h) t ht)
theorem SR.rest {w' : World} (h : SR U w0 st E a w) {S : Nat → Prop} (hw : Frm S w w') (hS : ∀ b, S b → ¬ allB E b ∧ (w0.heap.size ≤ b ∨ U b)) : SR U w0 st E a w' where
 defers := h.defers.mono (fun _ h => h) (fun b hb => hw.block b (h.flt b hb) fun e => (hS b e).1 (.inl hb))
 size := h.size
 slot i x hi := SRep.ext h.tokOk (fun b hb => hw.block b (h.allLt b hb) fun e => (hS b e).1 hb) (fun _ h => h) (fun _ _ => rfl) (Nat.le_refl _) (fun _ _ => rfl) x _ (h.slot i x hi)
 flt b hb := Nat.lt_of_lt_of_le (h.flt b hb) hw.size
 tok t tk ht := (h.tokOk t tk ht).weak (fun b hb => hw.block b (h.allLt b hb) fun e => (hS b e).1 hb) (fun _ h => h) rfl (fun _ h => h)
 slt t b hb := ⟨Nat.lt_of_lt_of_le (h.slt t b hb).1 hw.size, (h.slt t b hb).2⟩
 sep := h.sep
 frame := ⟨hw.os.trans h.frame.os, hw.tape.trans h.frame.tape, hw.output.trans h.frame.output, Nat.le_trans h.frame.size hw.size,
  fun k hk hnU => (hw.block k (Nat.lt_of_lt_of_le hk h.frame.size) fun e => (hS k e).2.elim (fun h => by omega) fun h => hnU h).trans (h.frame.block k hk hnU)⟩
 pin := h.pin
theorem SRepL_evs (hs : SR U w0 st E a w) (args : Array Operand) : ∀ (mv : List Nat), (mv.all fun i => decide (i < args.size)) = true →
  SRepL w E st.toks (mv.map fun i => (args.toList.map (ev st.slots)).getD i .junk) (mv.map fun i => (args.map a.eval).getD i undef)
 | [], _ => by simp [SRepL]
 | i :: mv, h => by
  simp only [List.all_cons, Bool.and_eq_true, decide_eq_true_eq] at h
  simp only [List.map_cons, SRepL]
  refine ⟨_, _, rfl, ?_, SRepL_evs hs args mv h.2⟩
  have hl : args.toList[i]? = some args[i] := by simp [h.1]
  rw [List.getD_eq_getElem?_getD, List.getElem?_map, hl, Array.getD_eq_getD_getElem?, Array.getElem?_map, Array.getElem?_eq_getElem h.1]
  exact hs.ev args[i]
theorem resL_map {toks : List Tok} : ∀ {l : List AV}, resL toks l = l.map (res toks)
 | [] => rfl
 | c :: cs => by simp [resL, resL_map (l := cs)]
theorem viewEs_all {es : List AV} : viewEs es 0 es.length = es := by simp [viewEs]
mutual
theorem ownR_res {toks : List Tok} : ∀ (x : AV) (q : AV × List Nat), ownR toks x = some q → res toks x = q.1
 | .v x, q, h => by simp only [ownR, Option.some.injEq] at h; subst h; rfl
 | .sl nl sz es, q, h => by
  simp only [ownR] at h
  split at h
  ·simp only [Option.some.injEq] at h; subst h; rfl
  ·simp at h
 | .ref t p lo n, q, h => by
  have hv : ownV toks t p lo n = some q → res toks (.ref t p lo n) = q.1 := fun h => by
   unfold ownV at h
   split at h
   ·rename_i tk htk
    split at h
    ·rename_i nl sz es hg
     split at h
     ·rename_i hc
      simp only [Option.some.injEq] at h; subst h
      simp [res, htk, hg, hc.2]
     ·simp at h
    ·simp at h
   ·simp at h
  simp only [ownR] at h
  have h0 := alt_eq h
  clear h
  rcases h0 with h | h
  ·split at h
   ·rename_i tk htk
    split at h
    ·rename_i nl sz es hrow
     split at h
     ·rename_i hc
      simp only [Option.some.injEq] at h; subst h
      simp [res, htk, getAt, hrow, hc.2, viewEs_all]
     ·simp at h
    ·simp at h
   ·simp at h
  ·exact hv h
 | .agg cs, q, h => by
  simp only [ownR, Option.bind_eq_some_iff] at h
  obtain ⟨q', hq', h⟩ := h
  simp only [ownA] at h
  split at h
  ·simp only [Option.some.injEq] at h; subst h
   simp only [res, ownRL_res cs q' hq']
  ·split at h
   ·split at h
    ·simp only [Option.some.injEq] at h; subst h
     simp only [res, ownRL_res cs q' hq']
    ·simp at h
   ·simp at h
 | .tup _, _, h => by simp [ownR] at h
 | .fp _ _, _, h => by simp [ownR] at h
 | .fn _ _, _, h => by simp [ownR] at h
 | .ptr _ _ _ _, _, h => by simp [ownR] at h
 | .junk, _, h => by simp [ownR] at h
theorem ownRL_res {toks : List Tok} : ∀ (x : List AV) (q : List AV × List Nat), ownRL toks x = some q → resL toks x = q.1
 | [], q, h => by simp only [ownRL, Option.some.injEq] at h; subst h; rfl
 | c :: cs, q, h => by
  simp only [ownRL] at h
  split at h
  ·rename_i q1 q2 h1 h2
   simp only [Option.some.injEq] at h; subst h
   simp only [resL, ownR_res c q1 h1, ownRL_res cs q2 h2]
  ·simp at h
end
theorem goes_callV (hC : C.Ok P) (hs : SR U w0 st E a w) {f : Operand} {args : Array Operand} {ts : Array TypeId} (ho : o.op = .call { callee := .value f, args := args, argTypes := ts }) {g : FuncId} {caps : List AV} (hf : ev st.slots f = .fn g caps) {out : Out}
  (h : movCall st.slots st.toks (args.toList.map (ev st.slots)) caps (C.V g (args.toList.map (fun x => res st.toks (ev st.slots x)) ++ resL st.toks caps)) = some out) : Goes P o a w U w0 out := by
 have hfv := hs.ev f
 rw [hf] at hfv
 simp only [SRep] at hfv
 obtain ⟨cv, hfv, hcaps⟩ := hfv
 cases hV : C.V g (args.toList.map (fun x => res st.toks (ev st.slots x)) ++ resL st.toks caps) with
 | none => rw [hV] at h; simp [movCall] at h
 | some q =>
 obtain ⟨mv, r⟩ := q
 rw [hV] at h
 obtain ⟨⟨fn, hfn, hn1, hn2⟩, hcall⟩ := hC.V _ _ _ _ hV
 have hrun : (execOp a.eval o).run P w = .ok (.enter g (args.map a.eval ++ cv)) w := by
  have e1 : fn.name ≠ "runtime.NumGoroutine" := by simpa using hn1
  have e2 : fn.body ≠ Option.none := by intro e; rw [e] at hn2; simp at hn2
  simp [execOp, ho, resolve, hfv, Deferred.ofValue, invoke, callFunc, hfn, e1, e2]
 simp only [movCall] at h
 split at h
 rotate_left
 ·simp at h
 rename_i q hq
 split at h
 rotate_left
 ·simp at h
 rename_i hc
 obtain ⟨hnd, hmeet, hall⟩ := hc
 simp only [Option.some.injEq] at h; subst h
 simp only [List.length_map, Array.length_toList] at hall
 have hno := meets_no hmeet
 have hcl : cv.size = caps.length := by simpa using SRepL_len hcaps
 have hown := ownRL_ok (F := fun _ => False) hs _ _ q (SRepL_evs hs args mv hall) hq hnd
 have hvals : (mv.map fun i => (args.toList.map (fun x => res st.toks (ev st.slots x)) ++ resL st.toks caps).getD i .junk) = q.1 := by
  rw [← ownRL_res _ _ hq, resL_map, resL_map, List.map_map]
  refine List.map_congr_left fun i hi => ?_
  have hi' : i < args.size := by simpa using List.all_eq_true.1 hall i hi
  have hl : args.toList[i]? = some args[i] := by simp [hi']
  simp only [Function.comp, List.getD_eq_getElem?_getD]
  rw [List.getElem?_append_left (by simpa using hi'), List.getElem?_map, List.getElem?_map, hl]
  rfl
 have hvals2 : (mv.map fun i => (args.map a.eval ++ cv).getD i undef) = mv.map fun i => (args.map a.eval).getD i undef := by
  refine List.map_congr_left fun i hi => ?_
  have hi' : i < args.size := by simpa using List.all_eq_true.1 hall i hi
  rw [Array.getD_eq_getD_getElem?, Array.getD_eq_getD_getElem?, Array.getElem?_append_left (by simpa using hi')]
 obtain ⟨E1, e1, e2, e3, e4⟩ := SR.drops q.2 hs
 intro hd0 next hn
 refine .inr (.inr ⟨_, _, _, hrun, ?_⟩)
 refine (hcall w (butL E q.2) (SU E q.2) _ ⟨fun b hb => hb.elim (hs.flt b) fun ⟨t', _, h⟩ => (hs.slt t' b h).1, hs.defers.gl.mono fun _ h => .inl h⟩ (fun b ⟨t, ht, hb⟩ => ⟨(hs.slt t b hb).1, ?_⟩) (by simp [hcl, resL_map]) (fun i x hi hx => ?_) (by rw [hvals, hvals2]; exact hown)).mono fun e w' he => ?_
 ·rintro (hF | ⟨t', ht', hS⟩)
  ·exact (hs.slt t b hb).2.1 hF
  ·exact hs.sep t' t b (fun e => ht' (e ▸ ht)) hS hb
 ·have hno1 : ∀ t ∈ q.2, t ∉ refsL (others mv 0 (args.toList.map (ev st.slots))) := fun t ht hm => hno t ht (by rw [refsL_app]; exact List.mem_append_left _ hm)
  have hno2 : ∀ t ∈ q.2, t ∉ refsL caps := fun t ht hm => hno t ht (by rw [refsL_app]; exact List.mem_append_right _ hm)
  by_cases hia : i < args.size
  ·have hl : args.toList[i]? = some args[i] := by simp [hia]
   rw [List.getElem?_append_left (by simpa using hia), List.getElem?_map, hl] at hx
   simp only [Option.map_some, Option.some.injEq] at hx
   subst hx
   refine ⟨a.eval args[i], ?_, SRep.resM hs.tokOk _ _ (fun t ht => others_get (hno1 t ht) (k := 0) (i := i) (by simpa using hi) (by rw [List.getElem?_map, hl]; rfl)) (hs.ev _)⟩
   rw [Array.getElem?_append_left (by simpa using hia), Array.getElem?_map, Array.getElem?_eq_getElem hia]; rfl
  ·rw [List.getElem?_append_right (by simpa using hia), resL_map, List.getElem?_map] at hx
   simp only [List.length_map, Array.length_toList, Option.map_eq_some_iff] at hx
   obtain ⟨c, hc1, rfl⟩ := hx
   obtain ⟨y, hy1, hy2⟩ := SRepL.get hcaps _ c hc1
   refine ⟨y, ?_, SRep.resM hs.tokOk _ _ (fun t ht hm => hno2 t ht (refsL_memget caps _ c hc1 t hm)) hy2⟩
   rw [Array.getElem?_append_right (by simpa using hia)]
   simpa using hy1
 ·obtain ⟨y, S', rfl, hfr, hS', hown'⟩ := he
  have hnot : ∀ b, SU E q.2 b → ¬ allB E1 b := by
   rintro b ⟨t, ht, hb⟩ (hA | ⟨t', hA⟩)
   ·rw [e1] at hA; exact (hs.slt t b hb).2.1 hA
   ·rw [e3] at hA
    exact hs.sep t t' b (fun e => hA.1 (e ▸ ht)) hb hA.2
  have hS0 : ∀ b, SU E q.2 b → w0.heap.size ≤ b ∨ U b := fun b ⟨t, _, hb⟩ => (hs.slt t b hb).2.2
  have hg := e4.rest hfr fun b hb => ⟨hnot b hb, hS0 b hb⟩
  obtain ⟨E', h1, _, _, _, h5, h6⟩ := intern_ok r y S' _ E1 hg hown' (fun b hb => ⟨(hS' b hb).1.elim (hS0 b) fun h => .inl (Nat.le_trans hs.frame.size h), (hS' b hb).2, fun hA => (hS' b hb).1.elim (fun h => hnot b h hA) fun h => by have := e4.allLt b hA; omega⟩)
  exact ⟨_, rfl, hn E' _ _ (SR.put h5 o.dst hd0 h6)⟩
theorem goes_callH (hC : C.Ok P) (hs : SR U w0 st E a w) {f : Operand} {args : Array Operand} {ts : Array TypeId} (ho : o.op = .call { callee := .value f, args := args, argTypes := ts }) {g : FuncId} {caps : List AV} (hf : ev st.slots f = .fn g caps) {out : Out}
  (h : frzCall st.slots st.toks (refsL (args.toList.map (ev st.slots)) ++ refsL caps) (C.H g (args.toList.map (fun x => res st.toks (ev st.slots x)) ++ resL st.toks caps)) = some out) : Goes P o a w U w0 out := by
 cases hH : C.H g (args.toList.map (fun x => res st.toks (ev st.slots x)) ++ resL st.toks caps) with
 | none => rw [hH] at h; simp [frzCall] at h
 | some q =>
  obtain ⟨sh, r⟩ := q
  rw [hH] at h
  simp only [frzCall] at h
  split at h
  rotate_left
  ·simp at h
  rename_i hc
  simp only [Option.some.injEq] at h; subst h
  obtain ⟨⟨fn, hfn, hn1, hn2⟩, hcall⟩ := hC.H _ _ _ _ hH
  have hfv := hs.ev f
  rw [hf] at hfv
  simp only [SRep] at hfv
  obtain ⟨cv, hfv, hcaps⟩ := hfv
  intro hd0 next hn
  have hrun : (execOp a.eval o).run P w = .ok (.enter g (args.map a.eval ++ cv)) w := by
   have e1 : fn.name ≠ "runtime.NumGoroutine" := by simpa using hn1
   have e2 : fn.body ≠ Option.none := by intro e; rw [e] at hn2; simp at hn2
   simp [execOp, ho, resolve, hfv, Deferred.ofValue, invoke, callFunc, hfn, e1, e2]
  refine .inr (.inr ⟨_, _, _, hrun, ?_⟩)
  obtain ⟨X, hX1, hX2, hrep⟩ : ∃ X : Nat → Prop, Fit X w ∧ (∀ b, sh = true → X b → E.F b) ∧ RepL w X (args.toList.map (fun x => res st.toks (ev st.slots x)) ++ resL st.toks caps) (args.map a.eval ++ cv).toList := by
   rw [Array.toList_append, Array.toList_map]
   by_cases hl : refsL (args.toList.map (ev st.slots)) ++ refsL caps = []
   ·rw [List.append_eq_nil_iff] at hl
    refine ⟨E.F, ⟨hs.flt, hs.defers.gl⟩, fun _ _ h => h, RepL_app ?_ (SRepL.resS (fun _ h => h) hs.tokOk _ _ (by rw [hl.2]; simp) hcaps)⟩
    have key : ∀ l : List Operand, refsL (l.map (ev st.slots)) = [] → RepL w E.F (l.map fun x => res st.toks (ev st.slots x)) (l.map a.eval) := by
     intro l
     induction l with
     | nil => intro _; simp [RepL]
     | cons x l ih =>
      intro hl
      simp only [List.map_cons, refsL, List.append_eq_nil_iff] at hl
      simp only [List.map_cons, RepL]
      exact ⟨_, _, rfl, SRep.resS (fun _ h => h) hs.tokOk _ _ (by rw [hl.1]; simp) (hs.ev x), ih hl.2⟩
    exact key _ hl.1
   ·refine ⟨allB E, ⟨hs.allLt, hs.defers.gl.mono fun _ h => .inl h⟩, fun _ h => ?_, RepL_app (RepL_args hs _) (SRepL.res hs.tokOk _ _ hcaps)⟩
    rcases hc.1 with hc | hc
    ·rw [hc] at h; simp at h
    ·exact (hl hc).elim
  refine (hcall w X _ hX1 hrep).mono fun e w' he => ?_
  obtain ⟨y, F', rfl, hfr, hF', hr⟩ := he
  have hg := hs.grow hfr
  have hX' : ∀ b, F' b → E.F b ∨ w.heap.size ≤ b := fun b hb => (hF' b hb).1.imp (fun h => hX2 b h.1 h.2) id
  have h5 := hg.addF F' fun b hb => ⟨(hF' b hb).2, fun t ht => (hX' b hb).elim (fun h => (hs.slt t b ht).2.1 h) fun h => by have := (hs.slt t b ht).1; omega,
   (hX' b hb).elim (fun h => hs.defers.fz b h) fun h => .inr (.inr (Nat.le_trans hs.frame.size h))⟩
  exact ⟨_, rfl, hn _ _ _ (SR.put h5 o.dst hd0 (SRep.of_rep _ _ (hr.weak (fun _ h => .inr h) (Agree.refl _ _))))⟩
theorem goes_call (hC : C.Ok P) (hs : SR U w0 st E a w) {f : Operand} {args : Array Operand} {ts : Array TypeId} (ho : o.op = .call { callee := .value f, args := args, argTypes := ts }) {out : Out}
  (h : aop C (.call { callee := .value f, args := args, argTypes := ts }) st.slots st.toks = some out) : Goes P o a w U w0 out := by
 simp only [aop] at h
 split at h
 ·rename_i g caps hf
  split at h
  ·rename_i r hr
   simp only [Option.some.injEq] at h; subst h
   exact goes_callG hC hs ho hf hr
  ·rcases alt_eq h with h | h
   ·exact goes_callM hC hs ho hf h
   ·rcases alt_eq h with h | h
    ·exact goes_callV hC hs ho hf h
    ·exact goes_callH hC hs ho hf h
 ·simp at h
theorem frz_scal {x : AV} (h : scal x = true) : frz x = true := by
 cases x with
 | v _ => rfl
 | agg cs =>
  simp only [scal, frz, List.all_eq_true] at h ⊢
  intro c hc
  have := h c hc
  cases c <;> simp_all
 | _ => simp [scal] at h
theorem goes_storeP (hC : C.Ok P) (hs : SR U w0 st E a w) {t : TypeId} {ad x : Operand} (ho : o.op = .store t ad x) (ti : TI) (tk : Tok) (nl : Bool) (sz : Nat) (es : List AV) (e : AV) (k : Nat) (p : List (Nat × Nat)) (i j : Nat)
  (hti : C.T t = some ti) (hpt : ev st.slots ad = .ptr k p i j) (htk : st.toks[k]? = some tk) (hg : getAt tk.row p = .sl nl sz es) (he : es[i]? = some e)
  (hcond : tk.deep = true ∧ scal (ev st.slots x) = true ∧ (ev st.slots x).cells.length = ti.size ∧ j + ti.size ≤ sz ∧ 0 < ti.size) :
  Goes P o a w U w0 ⟨.junk, st.slots.map (killN k), st.toks.set k ⟨true, setAt tk.row p (.sl nl sz (es.set i (putCells e j (ev st.slots x).cells)))⟩⟩ := by
 have ht := hC.T t ti hti
 obtain ⟨hdeep, hsc, hcl, hjm, hpos⟩ := hcond
 have hlt : i < es.length := (List.getElem?_eq_some_iff.1 he).1
 obtain ⟨h, S1, f1, f2, f3, f4⟩ := setPath_ok hs htk hdeep hg
 have hpv := hs.ev ad
 rw [hpt] at hpv
 simp only [SRep] at hpv
 obtain ⟨b, o', hl, hc, q1, hy⟩ := hpv.2 tk nl sz es htk hg hlt
 have hh : h = .slice (some ⟨b, o', none⟩) hl hc := by rw [f1] at q1; exact Option.some.inj q1
 subst hh
 -- the cells of the value
 have hvr : RepL w (allB E) (ev st.slots x).cells (a.eval x).cells.toList ∧ (∀ y ∈ (a.eval x).cells.toList, y.oneCell' = true) ∧ OwnL w true E.F (fun _ => False) (ev st.slots x).cells (a.eval x).cells.toList := by
  have hx := hs.ev x
  cases hv : ev st.slots x with
  | v z =>
   rw [hv] at hx
   simp only [SRep] at hx
   obtain ⟨hz, hz1⟩ := hx
   rw [hz]
   have : z.cells = #[z] := by cases z <;> first | rfl | simp [Value.oneCell'] at hz1
   rw [this]
   refine ⟨?_, by simpa using hz1, ?_⟩
   ·simp only [AV.cells, RepL, Rep]; exact ⟨z, [], rfl, ⟨rfl, hz1⟩, rfl⟩
   ·simp only [AV.cells, OwnL, Own]; exact ⟨z, [], fun _ => False, fun _ => False, rfl, fun _ h => h, fun _ h => h, fun _ h => h.elim, ⟨rfl, hz1⟩, rfl⟩
  | agg cs =>
   rw [hv] at hx hsc
   simp only [SRep] at hx
   obtain ⟨ys, hz, hx⟩ := hx
   rw [hz]
   simp only [scal, List.all_eq_true] at hsc
   have hr : RepL w (allB E) cs ys.toList := by
    have : ∀ (cs : List AV) (ys : List Value), (∀ c ∈ cs, ∃ x, c = .v x) → SRepL w E st.toks cs ys → RepL w (allB E) cs ys := by
     intro cs
     induction cs with
     | nil => intro ys _ h; simpa [SRepL, RepL] using h
     | cons c cs ih =>
      intro ys hcs h
      simp only [SRepL] at h
      obtain ⟨y, ys', rfl, h1, h2⟩ := h
      obtain ⟨z, rfl⟩ := hcs c (by simp)
      simp only [RepL, Rep]
      simp only [SRep] at h1
      exact ⟨y, ys', rfl, h1, ih ys' (fun c hc => hcs c (by simp [hc])) h2⟩
    refine this cs _ (fun c hc => ?_) hx
    have := hsc c hc
    cases c <;> simp_all
   have hv1 : ∀ c ∈ cs, ∃ x, c = .v x := fun c hc => by
    have := hsc c hc
    cases c <;> simp_all
   obtain ⟨v1, v2⟩ := OwnL.v_one (d := true) (S := fun _ => False) hr hv1
   exact ⟨hr, v1, OwnL.deepF _ _ v2⟩
  | _ => rw [hv] at hsc; simp [scal] at hsc
 obtain ⟨hvr1, hone, hvo⟩ := hvr
 have hvl : (a.eval x).cells.toList.length = ti.size := by rw [hvr1.length, hcl]
 have hyn : (a.eval x).cells.size = ti.size := by simpa using hvl
 obtain ⟨a1, len, cap, hsl, h1, h2, h3, h4⟩ := Excl.of_own f3
 simp only [Value.slice.injEq] at hsl
 obtain ⟨rfl, rfl, rfl⟩ := hsl
 rcases h4 with h4 | ⟨b2, o2, cur, T, hbo, hnl, hSb, hheap, hfit, hown⟩
 ·simp at h4
 simp only [Option.some.injEq, Addr.mk.injEq, and_true] at hbo
 obtain ⟨rfl, rfl⟩ := hbo
 have hFb : ¬ E.F b := (hs.slt k b (f2 b hSb)).2.1
 have hmul : (i + 1) * sz ≤ hc * sz := Nat.mul_le_mul_right _ (by omega)
 rw [Nat.add_mul] at hmul
 have hfit' : o' + i * sz + j + (a.eval x).cells.toList.length ≤ cur.size := by rw [hvl]; omega
 let w' := w.setRow b (cur.toList.take (o' + i * sz + j) ++ (a.eval x).cells.toList ++ cur.toList.drop (o' + i * sz + j + (a.eval x).cells.toList.length)).toArray
 have hrun : (execOp a.eval o).run P w = .ok .skip w' := by
  have hst := run_storeCells_at (P := P) b (o' + i * sz + j) T (a.eval x).cells.toList 0 cur w hheap (by simpa using hfit') hone
  simp only [Nat.add_zero] at hst
  simp only [execOp, ho, hy, Instr.storeAt, Instr.sureAddr, storeVar, pure_bind, Sem.run_bind, run_size ht, Result.andThen_ok, hyn]
  simp [hst, w']
 have hag : ∀ y, y ≠ b → w'.heap[y]? = w.heap[y]? := fun y hy => setRow_other w b y _ hy
 have hcell : ∀ off, ¬ (o' + i * sz + j ≤ off ∧ off < o' + i * sz + j + ti.size) → w'.cell? ⟨b, off, none⟩ = w.cell? ⟨b, off, none⟩ := fun off hoff => by
  have := cell_setRow (off := off) hheap hfit'
  rw [hvl] at this
  rw [if_neg hoff] at this
  simpa [w', hvl] using this
 have hcs : OwnL w' true E.F (fun _ => False) (ev st.slots x).cells (a.eval x).cells.toList := OwnL.agree (fun _ h => h) (fun y hy => hag y fun e => hFb (e ▸ hy)) (fun _ h => h) (fun y hy => hy.elim) _ _ hvo
 have hrow' : OwnRow w' true E.F (fun y => (S1 y ∧ y ≠ b) ∨ False) b sz o' (es.set i (putCells e j (ev st.slots x).cells)) := by
  refine OwnRow.upd (w := w) (d := true) (Sx := fun _ => False) id hag hFb (fun y hy => hy.2) (fun y hy => hy.elim) o' es i hown he (fun off hoff => hcell off (by omega)) fun S2 z hS1 hz hzs hes hat => ?_
  obtain ⟨x', g1, g2, g3⟩ := put_own (w' := w') (Sx := fun _ => False) (j := j) id hz (by rw [hzs, hes]) (fun y hy => hag y (by rcases hy with hy | hy; exact fun e => hFb (e ▸ hy); exact (hS1 y hy).2)) hcs hone (fun y h => h.elim) (by rw [hcl, hes]; exact hjm) (by rw [hcl]; exact hpos)
  refine ⟨x', g1, ?_, by rw [g3, hes], fun q y hq => ?_⟩
  ·rw [← Array.length_toList, g2]; simp [hzs, hvl]; omega
  ·rw [g2] at hq
   have hcq := cell_setRow (off := o' + i * sz + q) hheap hfit'
   rw [show w'.cell? ⟨b, o' + i * sz + q, none⟩ = _ from hcq]
   have hzl : z.cells.toList.length = sz := by simpa using hzs
   rw [hvl] at hq ⊢
   by_cases h1 : q < j
   ·rw [if_neg (by omega)]
    rw [List.append_assoc, List.getElem?_append_left (by rw [List.length_take]; omega), List.getElem?_take, if_pos h1] at hq
    exact hat q y hq
   ·by_cases h2 : q < j + ti.size
    ·rw [if_pos ⟨by omega, by omega⟩]
     rw [List.getElem?_append_left (by rw [List.length_append, List.length_take, hvl]; omega), List.getElem?_append_right (by rw [List.length_take]; omega), List.length_take] at hq
     rw [← hq]; congr 1; omega
    ·rw [if_neg (by omega)]
     rw [List.getElem?_append_right (by rw [List.length_append, List.length_take, hvl]; omega), List.length_append, List.length_take, hvl, List.getElem?_drop] at hq
     rw [show j + ti.size + (q - (min j z.cells.toList.length + ti.size)) = q by omega] at hq
     exact hat q y hq
 have hsz' : w'.heap.size = w.heap.size := by simp [w', World.setRow]
 have hown' : Own w' true E.F S1 (.sl nl sz (es.set i (putCells e j (ev st.slots x).cells))) (.slice (some ⟨b, o', none⟩) hl hc) := by
  refine Excl.own (S := S1) ?_
  refine ⟨_, hl, hc, rfl, by rw [h1]; simp, h2, h3, .inr ⟨b, o', _, T, rfl, hnl, hSb, setRow_heap w b cur _ T (0, 0) hheap, ?_, hrow'.agree' (fun y hy => hy.elim (fun h => h) fun h => h.elim)⟩⟩
  have : (cur.toList.take (o' + i * sz + j) ++ (a.eval x).cells.toList ++ cur.toList.drop (o' + i * sz + j + (a.eval x).cells.toList.length)).toArray.size = cur.size := by
   simp; simp at hfit'; omega
  rw [this]; exact hfit
 intro hd0 next hn
 have hfr : Frm S1 w w' := ⟨rfl, rfl, rfl, by rw [hsz']; exact Nat.le_refl _, fun y _ hy => hag y fun e => hy (e ▸ hSb)⟩
 obtain ⟨E', e1, _, e4⟩ := f4 w' _ S1 (by simp) hfr hown' (fun b hb => .inl hb)
 exact .inr (.inl ⟨_, hrun, hn E' (a.put o.dst undef) w' (SR.put e4 o.dst hd0 (x := .junk) (y := undef) (by simp [SRep]))⟩)
end
open Go Go.RowKit
section
variable {P : Program} {C : Ctx} {o : Oper} {a : Act} {w : World} {U : Ld} {w0 : World} {st : ASt} {E : Env}
theorem goes_fieldAddr (hC : C.Ok P) (hs : SR U w0 st E a w) {t : TypeId} {x : Operand} {f : Nat} (ho : o.op = .fieldAddr t x f) {out : Out} (h : aop C (.fieldAddr t x f) st.slots st.toks = some out) : Goes P o a w U w0 out := by
 simp only [aop] at h
 split at h
 ·rename_i ti hti
  have hu := Go.run_underlying (P := P) (hC.T t ti hti).desc
  split at h
  ·rename_i fields hd
   rw [hd] at hu
   split at h
   ·rename_i fd hf
    split at h
    ·rename_i tf htf
     have hsz := run_size (P := P) (w := w) (hC.T _ _ htf)
     split at h
     ·rename_i hpos
      have hne : tf.size ≠ 0 := by omega
      have hx := hs.ev x
      have hrun : ∀ b o', a.eval x = .pointer (some ⟨b, o', none⟩) → (execOp a.eval o).run P w = .ok (.value (.pointer (some ⟨b, o' + fd.offset, none⟩))) w := by
       intro b o' hy
       simp [execOp, ho, Instr.fieldAt, hu, hf, Instr.sureAddr, hy, fieldPlace, hsz, hne, add_addr]
      split at h
      ·rename_i k p i j hp
       split at h
       ·rename_i tk htk
        split at h
        ·rename_i nl sz es hg
         split at h
         ·rename_i hlt
          simp only [Option.some.injEq] at h; subst h
          rw [hp] at hx
          simp only [SRep] at hx
          obtain ⟨b, o', l, c, _, hy⟩ := hx.2 tk nl sz es htk hg hlt
          refine goes_pure (y := .pointer (some ⟨b, o' + i * sz + j + fd.offset, none⟩)) hs (hrun b _ hy) ?_
          simp only [SRep]
          refine ⟨hx.1, fun tk nl sz es h1 h2 h3 => ?_⟩
          obtain ⟨b1, o1, l1, c1, g1, g2⟩ := hx.2 tk nl sz es h1 h2 h3
          rw [hy] at g2
          simp only [Value.pointer.injEq, Option.some.injEq, Addr.mk.injEq, and_true] at g2
          exact ⟨b1, o1, l1, c1, g1, by rw [g2.1, g2.2, Nat.add_assoc]⟩
         ·simp at h
        ·simp at h
       ·simp at h
      ·rename_i e j hp
       simp only [Option.some.injEq] at h; subst h
       rw [hp] at hx
       simp only [SRep, Rep] at hx
       obtain ⟨b, o', z, hy, h1, h2, h3, h4⟩ := hx
       refine goes_pure (y := .pointer (some ⟨b, o' + j + fd.offset, none⟩)) hs (hrun b _ hy) ?_
       simp only [SRep, Rep]
       exact ⟨b, o', z, by rw [Nat.add_assoc], h1, h2, h3, h4⟩
      ·simp at h
     ·simp at h
    ·simp at h
   ·simp at h
  ·simp at h
 ·simp at h
theorem goes_extract (hs : SR U w0 st E a w) {x : Operand} {i : Nat} (ho : o.op = .extract x i) {out : Out} (h : aop C (.extract x i) st.slots st.toks = some out) : Goes P o a w U w0 out := by
 simp only [aop] at h
 split at h
 ·rename_i vs hv
  split at h
  ·rename_i v hi
   simp only [Option.some.injEq] at h; subst h
   have hx := hs.ev x
   rw [hv] at hx
   simp only [SRep] at hx
   obtain ⟨ys, hy, hl⟩ := hx
   obtain ⟨y, h1, h2⟩ := SRepL.get hl i v hi
   refine goes_pure (y := y) hs ?_ h2
   have h1' : ys[i]? = some y := by simpa using h1
   simp [execOp, ho, Instr.extract, hy, h1']
  ·simp at h
 ·simp at h
theorem goes_max (hs : SR U w0 st E a w) {x y : Operand} {ts : Array TypeId} (ho : o.op = .call { callee := .builtin .max, args := #[x, y], argTypes := ts }) {k k' : IntKind} {m n : Int} (hx : ev st.slots x = .v (.int k m)) (hy : ev st.slots y = .v (.int k' n)) : Goes P o a w U w0 ⟨.v (.int k (max m n)), st.slots, st.toks⟩ := by
 have e1 := SRep_v (hs.ev x) hx
 have e2 := SRep_v (hs.ev y) hy
 refine goes_pure (y := .int k (max m n)) hs ?_ (by simp [SRep, Value.oneCell'])
 simp [execOp, ho, resolve, invoke, builtin, e1, e2, Lib.run_max_ints]
theorem goes_min (hs : SR U w0 st E a w) {x y : Operand} {ts : Array TypeId} (ho : o.op = .call { callee := .builtin .min, args := #[x, y], argTypes := ts }) {k k' : IntKind} {m n : Int} (hx : ev st.slots x = .v (.int k m)) (hy : ev st.slots y = .v (.int k' n)) : Goes P o a w U w0 ⟨.v (.int k (min m n)), st.slots, st.toks⟩ := by
 have e1 := SRep_v (hs.ev x) hx
 have e2 := SRep_v (hs.ev y) hy
 refine goes_pure (y := .int k (min m n)) hs ?_ (by simp [SRep, Value.oneCell'])
 simp [execOp, ho, resolve, invoke, builtin, e1, e2, Lib.run_min_ints]
theorem SR.newRow (hs : SR U w0 st E a w) {w1 : World} {t : TypeId} {cs : Array Value} {es : List AV} {sz cap : Nat} {deep : Bool} (hw1 : Frm (fun _ => False) w w1) (hsz1 : w1.heap.size = w.heap.size) (hcap : es.length ≤ cap) (hm : cap ≤ maxLen) (hfit : cap * sz ≤ cs.size)
  (hrow : ∀ w', Agree (fun b => b < w.heap.size) w w' → w'.heap[w.heap.size]? = some (.cells cs t (0, 0)) → OwnRow w' deep E.F (fun _ => False) w.heap.size sz 0 es) :
  ∃ E' : Env, SR U w0 ⟨st.slots, st.toks ++ [⟨deep, .sl false sz es⟩]⟩ E' a (w1.alloc (.cells cs t)) ∧
   SRep (w1.alloc (.cells cs t)) E' (st.toks ++ [⟨deep, .sl false sz es⟩]) (.ref st.toks.length [] 0 es.length) (.slice (some ⟨w.heap.size, 0, none⟩) es.length cap) := by
 have hg1 := hs.grow hw1
 have hfr := frm_alloc (w := w1) (.cells cs t)
 have hg := hg1.grow hfr
 have hself : (w1.alloc (.cells cs t)).heap[w.heap.size]? = some (.cells cs t (0, 0)) := by rw [← hsz1]; exact heap_alloc_self _
 obtain ⟨E', h1, h2, h3, _, h4⟩ := hg.newTok ⟨deep, .sl false sz es⟩ (.slice (some ⟨w.heap.size, 0, none⟩) es.length cap) (fun b => b = w.heap.size)
  (fun b hb => by subst hb; exact ⟨.inl hs.frame.size, by simp [hsz1], fun h => Nat.lt_irrefl _ (hs.allLt _ h)⟩) (.inr ⟨false, sz, es, rfl, by
   refine ⟨_, es.length, cap, rfl, rfl, hcap, hm, .inr ⟨w.heap.size, 0, cs, t, rfl, rfl, rfl, hself, by omega, ?_⟩⟩
   exact (hrow _ (fun b hb => by rw [hfr.block b (by rw [hsz1]; exact hb) id]; exact hw1.block b hb id) hself).agree' fun _ h => h.elim⟩)
 refine ⟨E', h4, ?_⟩
 simp only [SRep]
 refine ⟨by simp, fun tk nl sz' es' k1 k2 k3 => ?_⟩
 simp at k1; subst k1
 simp only [getAt, AV.sl.injEq] at k2
 obtain ⟨rfl, rfl, rfl⟩ := k2
 exact ⟨.slice (some ⟨w.heap.size, 0, none⟩) es.length cap, by simp only [follow]; exact congrArg some h2, .inr (.inr ⟨w.heap.size, 0, es.length, cap, 0, rfl, by simp, .inl (by omega)⟩)⟩
theorem OwnRow_rep {w' : World} {d : Bool} {F : Nat → Prop} {b sz : Nat} {e : AV} {z : Value} (he : ∀ S, Own w' d F S e z) (hz : z.cells.size = sz) (hes : e.cells.length = sz) : ∀ (n o : Nat), (∀ i, i < n → At w' b (o + i * sz) z.cells.toList) → OwnRow w' d F (fun _ => False) b sz o (List.replicate n e)
 | 0, _, _ => by simp [OwnRow]
 | n + 1, o, h => by
  simp only [List.replicate_succ, OwnRow]
  refine ⟨z, fun _ => False, fun _ => False, fun _ h => h, fun _ h => h, fun _ h => h.elim, he _, hz, hes, by simpa using h 0 (by omega), OwnRow_rep he hz hes n (o + sz) fun i hi => ?_⟩
  have := h (i + 1) (by omega)
  rw [show o + (i + 1) * sz = o + sz + i * sz from by rw [Nat.add_mul]; omega] at this; exact this
theorem goes_makeSlice (hC : C.Ok P) (hs : SR U w0 st E a w) {t : TypeId} {l c : Operand} (ho : o.op = .makeSlice t l c) {out : Out} (h : aop C (.makeSlice t l c) st.slots st.toks = some out) : Goes P o a w U w0 out := by
 simp only [aop] at h
 split at h
 ·rename_i ti n n' hti hl hc
  obtain ⟨kl, el⟩ := ev_int hs hl
  obtain ⟨kc, ec⟩ := ev_int hs hc
  split at h
  ·rename_i el' hd
   split at h
   ·rename_i te hte
    split at h
    ·rename_i hcond
     obtain ⟨rfl, hb, hn63⟩ := hcond
     simp only [Option.some.injEq] at h; subst h
     have ht := hC.T t ti hti
     have hte' := hC.T _ te hte
     have hu := ht.desc
     rw [hd] at hu
     obtain ⟨i, hi, hi1, hi2, hi3⟩ := hte'.info
     have hrun := run_make (P := P) w t el' i te.zero hu hi hi3 kl kc n n (by omega) (by omega) (by rw [hi2]; omega) (by omega)
     simp only [Int.toNat_natCast] at hrun
     have hmsz : (madeCells te.zero.cells (n * i.size)).size = n * te.size := by rw [size_madeCells, hi1]
     intro hd0 next hn
     obtain ⟨E', g1, g2⟩ := hs.newRow (w1 := w) (t := el') (cs := madeCells te.zero.cells (n * i.size)) (es := List.replicate n (ofV te.zero)) (sz := te.size) (cap := n) (deep := true) (Frm.refl _ _) rfl (by simp) (by simp [maxLen]; omega) (by rw [hmsz]; exact Nat.le_refl _)
      (fun w' hA hself => OwnRow_rep (fun S => Own_ofV _) hte'.size (by rw [← cells_ofV, hte'.size]) n 0 fun i' hi' j y hj => by
       have hjl : j < te.size := by have := (List.getElem?_eq_some_iff.1 hj).1; simpa [hte'.size] using this
       have hlt : i' * te.size + j < n * te.size := by
        have := Nat.mul_le_mul_right te.size (show i' + 1 ≤ n by omega)
        rw [Nat.add_mul] at this; omega
       simp only [World.cell?, hself, Option.isSome_none, Bool.false_eq_true, if_false, Nat.zero_add]
       rw [Array.getElem?_eq_getElem (by rw [hmsz]; exact hlt)]
       simp only [madeCells, Array.getElem_map, Array.getElem_range]
       have hmod : (i' * te.size + j) % te.zero.cells.size = j := by
        rw [hte'.size, Nat.mul_comm, Nat.mul_add_mod]; exact Nat.mod_eq_of_lt hjl
       rw [hmod]
       have : te.zero.cells[j]? = some y := by simpa using hj
       rw [getElem!_def, this])
     simp only [List.length_replicate] at g2
     refine wp_val (y := .slice (some ⟨w.heap.size, 0, none⟩) n n) (w' := w.alloc (.cells (madeCells te.zero.cells (n * i.size)) el')) ?_ (hn E' _ _ (SR.put g1 o.dst hd0 g2))
     simp [execOp, ho, el, ec, hrun]
    ·simp at h
   ·simp at h
  ·simp at h
 ·simp at h
theorem RepL.srep {toks : List Tok} : ∀ {xs : List AV} {ys : List Value}, RepL w E.F xs ys → SRepL w E toks xs ys := fun {xs ys} h => SRepL.of_rep xs ys h
theorem part_cells (hs : SR U w0 st E a w) {x : AV} {y : Value} (h : SRep w E st.toks x y) (hp : partOk st.toks x = true) : SRepL w E st.toks x.cells y.cells.toList ∧ y.cells.size = x.cells.length := by
 simp only [partOk, Bool.or_eq_true] at hp
 by_cases hf : Ax.frz x = true
 ·have hr := h.frz hf
  refine ⟨(hr.cellsL hf).1.srep, hr.cellsN (by rintro rfl; simp [Ax.frz] at hf)⟩
 ·have hl := hp.resolve_left hf
  obtain ⟨n, hn⟩ := Option.isSome_iff_exists.1 hl
  obtain ⟨ad, cap, rfl⟩ := lenAV_ok hs h hn
  have hc : x.cells = [x] := by
   cases x <;> first | rfl | (simp [lenAV] at hn)
  rw [hc]
  exact ⟨by simp only [Value.cells, SRepL]; exact ⟨_, [], rfl, h, rfl⟩, rfl⟩
theorem foldl_put : ∀ (l : List Value) (k off : Nat) (cs : Array Value), off + k + l.length ≤ cs.size →
  ((l.zipIdx k).foldl (fun cs p => cs.setIfInBounds (off + p.2) p.1) cs).toList = cs.toList.take (off + k) ++ l ++ cs.toList.drop (off + k + l.length)
 | [], k, off, cs, _ => by simp
 | v :: l, k, off, cs, h => by
  simp only [List.zipIdx_cons, List.foldl_cons]
  simp only [List.length_cons] at h
  rw [foldl_put l (k + 1) off _ (by simp; omega)]
  apply List.ext_getElem?
  intro i
  simp only [Array.toList_setIfInBounds, List.length_cons]
  have hl1 : ((cs.toList.set (off + k) v).take (off + (k + 1))).length = off + k + 1 := by simp; omega
  have hl2 : (cs.toList.take (off + k)).length = off + k := by simp; omega
  by_cases h1 : i < off + k
  ·rw [List.append_assoc, List.getElem?_append_left (by omega), List.getElem?_take, if_pos (by omega), List.getElem?_set_ne (by omega), List.append_assoc, List.getElem?_append_left (by omega), List.getElem?_take, if_pos h1]
  ·by_cases h2 : i = off + k
   ·subst h2
    rw [List.append_assoc, List.getElem?_append_left (by omega), List.getElem?_take, if_pos (by omega), List.getElem?_set_self (by simp; omega), List.append_assoc, List.getElem?_append_right (by omega), hl2]
    simp
   ·by_cases h3 : i < off + k + 1 + l.length
    ·rw [List.getElem?_append_left (by simp; omega), List.getElem?_append_right (by omega), hl1, List.getElem?_append_left (by simp; omega), List.getElem?_append_right (by omega), hl2]
     rw [show i - (off + k) = (i - (off + k + 1)) + 1 by omega]
     simp
    ·rw [List.getElem?_append_right (by simp; omega), List.getElem?_append_right (by simp; omega), List.getElem?_drop, List.getElem?_drop, List.getElem?_set_ne (by simp; omega)]
     congr 1; simp; omega
theorem SRepL.take {toks : List Tok} : ∀ {xs : List AV} {ys : List Value} (n : Nat), SRepL w E toks xs ys → SRepL w E toks (xs.take n) (ys.take n)
 | [], ys, n, h => by simp only [SRepL] at h; subst h; simp [SRepL]
 | x :: xs, ys, 0, h => by simp [SRepL]
 | x :: xs, ys, n + 1, h => by
  simp only [SRepL] at h
  obtain ⟨y, ys, rfl, h1, h2⟩ := h
  simp only [List.take_succ_cons, SRepL]
  exact ⟨y, _, rfl, h1, h2.take n⟩
theorem SRepL.drop {toks : List Tok} : ∀ {xs : List AV} {ys : List Value} (n : Nat), SRepL w E toks xs ys → SRepL w E toks (xs.drop n) (ys.drop n)
 | [], ys, n, h => by simp only [SRepL] at h; subst h; simp [SRepL]
 | x :: xs, ys, 0, h => by simpa using h
 | x :: xs, ys, n + 1, h => by
  simp only [SRepL] at h
  obtain ⟨y, ys, rfl, h1, h2⟩ := h
  simpa using h2.drop n
theorem SRepL.app {toks : List Tok} : ∀ {xs xs' : List AV} {ys ys' : List Value}, SRepL w E toks xs ys → SRepL w E toks xs' ys' → SRepL w E toks (xs ++ xs') (ys ++ ys')
 | [], xs', ys, ys', h, h' => by simp only [SRepL] at h; subst h; simpa using h'
 | x :: xs, xs', ys, ys', h, h' => by
  simp only [SRepL] at h
  obtain ⟨y, ys, rfl, h1, h2⟩ := h
  simp only [List.cons_append, SRepL]
  exact ⟨y, _, rfl, h1, h2.app h'⟩
theorem SRepL.len {toks : List Tok} : ∀ {xs : List AV} {ys : List Value}, SRepL w E toks xs ys → ys.length = xs.length
 | [], ys, h => by simp only [SRepL] at h; simp [h]
 | x :: xs, ys, h => by
  simp only [SRepL] at h
  obtain ⟨y, ys, rfl, _, h2⟩ := h
  simp [h2.len]
theorem goes_field (hC : C.Ok P) (hs : SR U w0 st E a w) {t : TypeId} {x : Operand} {f : Nat} (ho : o.op = .field t x f) {out : Out} (h : aop C (.field t x f) st.slots st.toks = some out) : Goes P o a w U w0 out := by
 simp only [aop] at h
 split at h
 rotate_left
 ·simp at h
 rename_i ti hti
 have hu := Go.run_underlying (P := P) (hC.T t ti hti).desc
 split at h
 rotate_left
 ·simp at h
 rename_i fields hd
 rw [hd] at hu
 split at h
 rotate_left
 ·simp at h
 rename_i fd hf
 split at h
 rotate_left
 ·simp at h
 rename_i tf htf
 have hsz := run_size (P := P) (w := w) (hC.T _ _ htf)
 have hag := run_isAgg (P := P) (w := w) (hC.T _ _ htf)
 split at h
 rotate_left
 ·simp at h
 rename_i cs hxe
 have hx := hs.ev x
 rw [hxe] at hx
 simp only [SRep] at hx
 obtain ⟨ys, hy, hl⟩ := hx
 split at h
 ·rename_i hg
  split at h
  ·rename_i hle
   simp only [Option.some.injEq] at h; subst h
   rw [hg] at hag
   refine goes_pure (y := .agg (ys.extract fd.offset (fd.offset + tf.size))) hs ?_ ?_
   ·simp [execOp, ho, Instr.field, hu, hf, hy, part, hag, hsz, asAgg]
   ·simp only [SRep]
    refine ⟨_, rfl, ?_⟩
    have := (hl.drop fd.offset).take tf.size
    rw [Array.toList_extract]
    simpa [List.extract, List.take_drop] using this
  ·simp at h
 ·rename_i hg
  have hg' : TypeDesc.aggB tf.desc = false := by simpa using hg
  split at h
  ·rename_i c hc
   simp only [Option.some.injEq] at h; subst h
   rw [hg'] at hag
   obtain ⟨y, h1, h2⟩ := hl.get _ _ hc
   refine goes_pure (y := y) hs ?_ h2
   have h1' : ys[fd.offset]? = some y := by simpa using h1
   simp [execOp, ho, Instr.field, hu, hf, hy, part, hag, asAgg, h1']
  ·simp at h
theorem bld_ok (hC : C.Ok P) {fields : Array Field} {places : Nat → Option (Nat × Nat)} (hpl : ∀ i f tf, fields[i]? = some f → C.T f.type = some tf → places i = some (f.offset, tf.size)) :
  ∀ (ps : List (Nat × AV)) (vs : List (Nat × Value)) (cells out : List AV) (cs : Array Value), ps.length = vs.length →
   (∀ (j : Nat) (p : Nat × AV) (v : Nat × Value), ps[j]? = some p → vs[j]? = some v → p.1 = v.1 ∧ SRepL w E st.toks p.2.cells v.2.cells.toList ∧ v.2.cells.size = p.2.cells.length) →
   SRepL w E st.toks cells cs.toList → bld C fields.toList ps cells = some out → ∃ cs', Instr.fill places cs vs = some cs' ∧ SRepL w E st.toks out cs'.toList
 | [], vs, cells, out, cs, hl, _, hc, h => by
  simp only [bld, Option.some.injEq] at h; subst h
  have : vs = [] := List.length_eq_zero_iff.1 hl.symm
  subst this
  exact ⟨cs, rfl, hc⟩
 | (i, x) :: ps, [], _, _, _, hl, _, _, _ => by simp at hl
 | (i, x) :: ps, (i', v) :: vs, cells, out, cs, hl, hp, hc, h => by
  obtain ⟨e1, e2, e3⟩ := hp 0 (i, x) (i', v) (by simp) (by simp)
  simp only at e1 e2 e3
  subst e1
  simp only [bld] at h
  split at h
  ·rename_i f hf
   split at h
   ·rename_i tf htf
    split at h
    ·rename_i hcond
     obtain ⟨hsz, hfit⟩ := hcond
     have hf' : fields[i]? = some f := by simpa using hf
     have hpi := hpl i f tf hf' htf
     have hcl := hc.len
     simp only [Array.length_toList] at hcl
     simp only [Instr.fill, hpi]
     have hvs : v.cells.size = tf.size := by rw [e3, hsz]
     have hno : (v.cells.size ≠ tf.size || decide (f.offset + v.cells.size > cs.size)) = false := by simp [hvs]; omega
     rw [hno]
     simp only [Bool.false_eq_true, if_false]
     have hfold := foldl_put v.cells.toList 0 f.offset cs (by simp [hvs]; omega)
     have harr : (v.cells.zipIdx.foldl (fun cs x => match x with | (c, j) => cs.setIfInBounds (f.offset + j) c) cs) = (v.cells.toList.zipIdx 0).foldl (fun cs p => cs.setIfInBounds (f.offset + p.2) p.1) cs := by
      rw [← Array.foldl_toList, Array.toList_zipIdx]
     rw [harr]
     refine bld_ok hC hpl ps vs _ out _ (by simpa using hl) (fun j p v' h1 h2 => hp (j + 1) p v' (by simpa using h1) (by simpa using h2)) ?_ h
     rw [hfold]
     simp only [Nat.add_zero, Array.length_toList, hvs]
     exact ((hc.take _).app e2).app (hc.drop _)
    ·simp at h
   ·simp at h
  ·simp at h
theorem run_places (hC : C.Ok P) : ∀ (fields : List Field), (∀ f ∈ fields, ∃ tf, C.T f.type = some tf) →
  ((fields.mapM fun f => do pure (f.offset, ← sizeOf f.type)) : Sem (List (Nat × Nat))).run P w = .ok (fields.map fun f => (f.offset, ((C.T f.type).map (·.size)).getD 0)) w
 | [], _ => by simp
 | f :: fields, h => by
  obtain ⟨tf, htf⟩ := h f (by simp)
  rw [List.mapM_cons]
  simp only [Sem.run_bind, run_size (hC.T _ _ htf), Result.andThen_ok, Sem.run_pure]
  have ih := run_places hC fields fun f hf => h f (by simp [hf])
  rw [ih]
  simp [htf]
theorem goes_build (hC : C.Ok P) (hs : SR U w0 st E a w) {t : TypeId} {parts : Array (Nat × Operand)} (ho : o.op = .build t parts) {out : Out} (h : aop C (.build t parts) st.slots st.toks = some out) : Goes P o a w U w0 out := by
 simp only [aop] at h
 split at h
 ·rename_i ti hti
  have ht := hC.T t ti hti
  split at h
  ·rename_i fields hd
   split at h
   ·simp at h
   ·rename_i hparts
    simp only [Option.map_eq_some_iff] at h
    obtain ⟨cells, hb, rfl⟩ := h
    have hu := Go.run_underlying (P := P) ht.desc
    rw [hd] at hu
    simp only [not_or, Bool.not_eq_false, List.all_eq_true] at hparts
    have hfl : ∀ f ∈ fields.toList, ∃ tf, C.T f.type = some tf := fun f hf => Option.isSome_iff_exists.1 (hparts.2 f hf)
    have hpl := run_places (w := w) hC fields.toList hfl
    let places : Nat → Option (Nat × Nat) := fun i => (fields.toList.map fun f => (f.offset, ((C.T f.type).map (·.size)).getD 0))[i]?
    obtain ⟨cs', g1, g2⟩ := bld_ok (w := w) (st := st) (E := E) (places := places) hC (fields := fields) (fun i f tf h1 h2 => by
      have h1' : fields.toList[i]? = some f := by simpa using h1
      show (fields.toList.map _)[i]? = _
      rw [List.getElem?_map, h1']; simp [h2])
     (parts.toList.map fun p => (p.1, ev st.slots p.2)) (parts.toList.map fun p => (p.1, a.eval p.2)) _ cells ti.zero.cells (by simp) (fun j p v h1 h2 => by
      rw [List.getElem?_map, Option.map_eq_some_iff] at h1 h2
      obtain ⟨q, hq, rfl⟩ := h1
      obtain ⟨q', hq', rfl⟩ := h2
      rw [hq] at hq'; obtain rfl := Option.some.inj hq'
      have hpq : partOk st.toks (ev st.slots q.2) = true := by
       exact hparts.1 q (List.mem_of_getElem? hq)
      exact ⟨rfl, part_cells hs (hs.ev q.2) hpq⟩) (by
      have := SRep_ofV (w := w) (E := E) (toks := st.toks) ti.zero
      have hz : ∀ z : Value, SRep w E st.toks (ofV z) z → z.cells.size = (ofV z).cells.length → SRepL w E st.toks (ofV z).cells z.cells.toList := by
       intro z hz hn
       cases z with
       | agg cs => simp only [ofV, AV.cells, Value.cells]; exact SRepL_map _ fun y _ => SRep_ofV1 y
       | _ =>
        simp only [ofV, Value.cells]
        have hc1 : ∀ y : Value, (ofV1 y).cells = [ofV1 y] := fun y => by unfold ofV1; split <;> first | rfl | (split <;> rfl)
        rw [hc1]
        simp only [SRepL]
        exact ⟨_, [], rfl, SRep_ofV1 _, rfl⟩
      exact hz _ this (cells_ofV _)) hb
    refine goes_pure (y := .agg cs') hs ?_ (by simp only [SRep]; exact ⟨cs', rfl, g2⟩)
    have hplA : ((fields.mapM fun f => do pure (f.offset, ← sizeOf f.type)) : Sem (Array (Nat × Nat))).run P w = .ok (fields.toList.map fun f => (f.offset, ((C.T f.type).map (·.size)).getD 0)).toArray w := by
     rw [Array.mapM_eq_mapM_toList, Sem.run_map, hpl]; rfl
    have hfill : Instr.fill (fun i => (fields.toList.map fun f => (f.offset, ((C.T f.type).map (·.size)).getD 0)).toArray[i]?) ti.zero.cells (parts.toList.map fun p => (p.1, a.eval p.2)) = some cs' := by
     have : (fun i => (fields.toList.map fun f => (f.offset, ((C.T f.type).map (·.size)).getD 0)).toArray[i]?) = places := by funext i; simp [places]
     rw [this]; exact g1
    simp only [execOp, ho, Instr.build, Sem.run_bind, run_zero ht, Result.andThen_ok, hu, hplA]
    have hpm : (parts.map fun x => match x with | (i, x) => (i, a.eval x)).toList = parts.toList.map fun p => (p.1, a.eval p.2) := by simp
    rw [hpm, hfill]
    rfl
  ·simp at h
 ·simp at h
end
open Go Go.RowKit
section
variable {P : Program} {C : Ctx} {o : Oper} {a : Act} {w : World} {U : Ld} {w0 : World} {st : ASt} {E : Env}
theorem ev_bnd (hs : SR U w0 st E a w) {x : Option Operand} {d n : Nat} (h : bndOf st.slots d x = some n) : (x = none ∧ n = d) ∨ ∃ y k, x = some y ∧ a.eval y = .int k n := by
 cases x with
 | none => simp [bndOf] at h; exact .inl ⟨rfl, h.symm⟩
 | some y =>
  simp only [bndOf] at h
  obtain ⟨k, hk⟩ := ev_int hs h
  exact .inr ⟨y, k, rfl, hk⟩
def partOf (ad : Option Addr) (cap sz l h : Nat) : Value := .slice (if cap = l then ad else ad.map (·.add (l * sz))) (h - l) (cap - l)
theorem run_part {t : TypeId} {ti te : TI} {el : TypeId} {x : Operand} {lo hi : Option Operand} (ho : o.op = .slice t x lo hi none) (ht : TOk P t ti) (hd : ti.desc = .slice el) (hte : TOk P el te)
  {ad : Option Addr} {len cap l h : Nat} (hx : a.eval x = .slice ad len cap) (hl : (lo = none ∧ l = 0) ∨ ∃ y k, lo = some y ∧ a.eval y = .int k l) (hh : (hi = none ∧ h = len) ∨ ∃ y k, hi = some y ∧ a.eval y = .int k h)
  (h1 : l ≤ h) (h2 : h ≤ len) (h3 : len ≤ cap) : (execOp a.eval o).run P w = .ok (.value (partOf ad cap te.size l h)) w := by
 have hu := Go.run_underlying (P := P) ht.desc
 rw [hd] at hu
 have hsz := run_size (P := P) (w := w) hte
 have e1 : (l : Int) ≤ h := by omega
 have e2 : (h : Int) ≤ cap := by omega
 rcases hl with ⟨rfl, rfl⟩ | ⟨y, k, rfl, hy⟩ <;> rcases hh with ⟨rfl, rfl⟩ | ⟨z, k', rfl, hz⟩
 ·simp [execOp, ho, Instr.sliceAt, hu, hx, Instr.slice, Instr.sliceBounds, hsz, partOf]
 ·simp [execOp, ho, Instr.sliceAt, hu, hx, Instr.slice, Instr.sliceBounds, hsz, partOf, hz, run_sliceBound, e2]
 ·simp [execOp, ho, Instr.sliceAt, hu, hx, Instr.slice, Instr.sliceBounds, hsz, partOf, hy, run_sliceBound, e1]
 ·simp [execOp, ho, Instr.sliceAt, hu, hx, Instr.slice, Instr.sliceBounds, hsz, partOf, hy, hz, run_sliceBound, e1, e2]
theorem add_zero_addr (x : Addr) : x.add 0 = x := by simp [Addr.add]
theorem ViewOf.part {hv v : Value} {sz lo n l h : Nat} {ad : Option Addr} {len cap : Nat} (hvw : ViewOf hv sz lo n v) (hx : v = .slice ad len cap) (h1 : l ≤ h) (h2 : h ≤ n)
  (hcap : ∀ b o hl hc, hv = .slice (some ⟨b, o, none⟩) hl hc → lo + n ≤ hc) (hnil : hv = .slice none 0 0 → n = 0) : ViewOf hv sz (lo + l) (h - l) (partOf ad cap sz l h) := by
 subst hx
 rcases hvw with ⟨e1, e2⟩ | ⟨rfl, e2, x, c, e3⟩ | ⟨b, o, hl, hc, o', e1, e2, e3⟩
 ·simp only [Value.slice.injEq] at e2
  obtain ⟨rfl, rfl, rfl⟩ := e2
  have := hnil e1
  obtain rfl : l = 0 := by omega
  obtain rfl : h = 0 := by omega
  exact .inl ⟨e1, by simp [partOf]⟩
 ·obtain rfl : l = 0 := by omega
  obtain rfl : h = 0 := by omega
  refine .inr (.inl ⟨rfl, ?_, x, c, e3⟩)
  rw [e3] at e2 ⊢
  simp only [Value.slice.injEq] at e2
  obtain ⟨rfl, rfl, rfl⟩ := e2
  simp [partOf, add_zero_addr]
 ·simp only [Value.slice.injEq] at e2
  obtain ⟨rfl, rfl, rfl⟩ := e2
  have hle := hcap b o hl hc e1
  have hmul : (lo + l) * sz = lo * sz + l * sz := Nat.add_mul _ _ _
  refine .inr (.inr ⟨b, o, hl, hc, if hc - lo = l then o' else o' + l * sz, e1, ?_, ?_⟩)
  ·simp only [partOf]
   split
   ·rw [Nat.sub_sub]
   ·rw [Nat.sub_sub]; simp [add_addr]
  ·split
   ·rename_i e
    by_cases hl0 : lo + l = 0
    ·left
     have : lo = 0 := by omega
     have hl' : l = 0 := by omega
     subst this; subst hl'
     rcases e3 with e3 | e3
     ·simpa using e3
     ·exact (e3.2.1 rfl).elim
    ·right
     refine ⟨by omega, hl0, ?_⟩
     rcases e3 with e3 | e3
     ·omega
     ·have := e3.2.2; omega
   ·rename_i e
    rcases e3 with e3 | e3
    ·left; omega
    ·omega
theorem goes_slice (hC : C.Ok P) (hs : SR U w0 st E a w) {t : TypeId} {x : Operand} {lo hi mx : Option Operand} (ho : o.op = .slice t x lo hi mx) {out : Out} (h : aop C (.slice t x lo hi mx) st.slots st.toks = some out) : Goes P o a w U w0 out := by
 cases mx with
 | some m => simp [aop] at h
 | none =>
  simp only [aop] at h
  split at h
  ·rename_i ti hti
   have ht := hC.T t ti hti
   split at h
   ·rename_i el nl sz es hd hx
    split at h
    ·rename_i te l hh hte hlo hhi
     split at h
     ·rename_i hcond
      obtain ⟨hsz, h1, h2⟩ := hcond
      simp only [Option.some.injEq] at h; subst h
      have hxv := hs.ev x
      rw [hx] at hxv
      simp only [SRep] at hxv
      have hr := hxv
      simp only [Rep] at hr
      obtain ⟨ad, len, cap, hy, g1, g2, g3, g4⟩ := hr
      rw [← g1] at hhi h2
      have hrun := run_part (w := w) ho ht hd (hC.T _ _ hte) hy (ev_bnd hs hlo) (ev_bnd hs hhi) h1 h2 g2
      refine goes_pure (y := partOf ad cap te.size l hh) hs hrun ?_
      simp only [SRep]
      have hvw : ViewOf (a.eval x) sz 0 len (a.eval x) := by
       rw [hy]
       rcases g4 with ⟨rfl, _, rfl, rfl⟩ | ⟨b, o', rfl, _, _⟩ | ⟨⟨z, rfl⟩, _, he⟩
       ·exact .inl ⟨rfl, rfl⟩
       ·exact .inr (.inr ⟨b, o', len, cap, o', rfl, by simp, .inl (by omega)⟩)
       ·have : len = 0 := by rw [g1, he]; rfl
        subst this
        exact .inr (.inl ⟨rfl, rfl, z, cap, rfl⟩)
      have := hvw.part hy h1 h2 (fun b o' hl hc e => by rw [hy] at e; simp only [Value.slice.injEq] at e; omega) (fun e => by rw [hy] at e; simp only [Value.slice.injEq] at e; omega)
      rw [hsz]
      rw [Nat.zero_add] at this
      exact hxv.view this (by omega)
     ·simp at h
    ·simp at h
   ·rename_i el k p lo0 n hd hx
    split at h
    ·rename_i te l hh tk hte hlo hhi htk
     split at h
     ·rename_i nl sz es hg
      split at h
      ·rename_i hcond
       obtain ⟨hsz, h1, h2, h3⟩ := hcond
       simp only [Option.some.injEq] at h; subst h
       have hxv := hs.ev x
       rw [hx] at hxv
       simp only [SRep] at hxv
       obtain ⟨hv, q1, q2⟩ := hxv.2 tk nl sz es htk hg h3
       obtain ⟨hv', k1, k2⟩ := (hs.tokOk k tk htk).follow hg
       have : hv = hv' := by have := k1 w (Agree.refl _ _); rw [q1] at this; exact Option.some.inj this
       subst this
       have hr := k2.rep
       simp only [Rep] at hr
       obtain ⟨ad0, len0, cap0, hy0, g1, g2, g3, _⟩ := hr
       obtain ⟨ad, cap, hy⟩ : ∃ ad cap, a.eval x = .slice ad n cap ∧ n ≤ cap := by
        rcases q2 with ⟨e1, e2⟩ | ⟨rfl, e2, z, c, e3⟩ | ⟨b, o1, hl, hc, o2, e1, e2, e3⟩
        ·rw [e1] at hy0
         simp only [Value.slice.injEq] at hy0
         exact ⟨none, 0, by rw [e2, show n = 0 by omega], by omega⟩
        ·exact ⟨some z, c, by rw [e2, e3], by omega⟩
        ·rw [e1] at hy0
         simp only [Value.slice.injEq] at hy0
         exact ⟨_, _, e2, by omega⟩
       obtain ⟨hy, hnc⟩ := hy
       have hrun := run_part (w := w) ho ht hd (hC.T _ _ hte) hy (ev_bnd hs hlo) (ev_bnd hs hhi) h1 h2 hnc
       refine goes_pure (y := partOf ad cap te.size l hh) hs hrun ?_
       simp only [SRep]
       refine ⟨hxv.1, fun tk' nl' sz' es' c1 c2 c3 => ?_⟩
       rw [htk] at c1; obtain rfl := Option.some.inj c1
       rw [hg] at c2; simp only [AV.sl.injEq] at c2; obtain ⟨rfl, rfl, rfl⟩ := c2
       refine ⟨hv, q1, ?_⟩
       rw [hsz]
       exact q2.part hy h1 h2 (fun b o' hl hc e => by rw [hy0] at e; simp only [Value.slice.injEq] at e; omega) (fun e => by rw [hy0] at e; simp only [Value.slice.injEq] at e; omega)
      ·simp at h
     ·simp at h
    ·simp at h
   ·rename_i s hd hx
    split at h
    ·rename_i l hh hlo hhi
     split at h
     ·rename_i hcond
      obtain ⟨h1, h2⟩ := hcond
      simp only [Option.some.injEq] at h; subst h
      have hy := SRep_v (hs.ev x) hx
      refine goes_pure (y := .string (s.extract l hh)) hs ?_ (by simp [SRep, Value.oneCell'])
      have hu := Go.run_underlying (P := P) ht.desc
      rw [hd] at hu
      have e1 : (l : Int) ≤ hh := by omega
      have e2 : (hh : Int) ≤ s.size := by omega
      rcases ev_bnd hs hlo with ⟨rfl, rfl⟩ | ⟨y, k, rfl, hyv⟩ <;> rcases ev_bnd hs hhi with ⟨rfl, rfl⟩ | ⟨z, k', rfl, hz⟩
      ·simp [execOp, ho, Instr.sliceAt, hu, hy, Instr.slice, Instr.sliceBounds]
      ·simp [execOp, ho, Instr.sliceAt, hu, hy, Instr.slice, Instr.sliceBounds, hz, run_sliceBound, e2]
      ·simp [execOp, ho, Instr.sliceAt, hu, hy, Instr.slice, Instr.sliceBounds, hyv, run_sliceBound, e1]
      ·simp [execOp, ho, Instr.sliceAt, hu, hy, Instr.slice, Instr.sliceBounds, hyv, hz, run_sliceBound, e1, e2]
     ·simp at h
    ·simp at h
   ·simp at h
  ·simp at h
end
open Go Go.RowKit
theorem OwnRow.app {w : World} {d : Bool} {F : Nat → Prop} {b sz : Nat} : ∀ {S S1 S2 : Nat → Prop} {o : Nat} {es fs : List AV}, OwnRow w d F S1 b sz o es → OwnRow w d F S2 b sz (o + es.length * sz) fs → (∀ b, S1 b → S b) → (∀ b, S2 b → S b) → (∀ b, S1 b → ¬ S2 b) → OwnRow w d F S b sz o (es ++ fs)
 | S, S1, S2, o, [], fs, _, h2, _, g2, _ => by simpa using h2.agree' g2
 | S, S1, S2, o, e :: es, fs, h1, h2, g1, g2, g3 => by
  simp only [OwnRow] at h1
  obtain ⟨x, T1, T2, a1, a2, a3, k1, k2, k3, k4, k5⟩ := h1
  simp only [List.cons_append, OwnRow]
  refine ⟨x, T1, fun b => T2 b ∨ S2 b, fun b hb => g1 b (a1 b hb), fun b hb => hb.elim (fun hb => g1 b (a2 b hb)) (g2 b), fun b hb h => h.elim (a3 b hb) (g3 b (a1 b hb)), k1, k2, k3, k4, ?_⟩
  refine OwnRow.app k5 ?_ (fun b hb => .inl hb) (fun b hb => .inr hb) (fun b hb => g3 b (a2 b hb))
  rw [show o + sz + es.length * sz = o + (e :: es).length * sz by simp only [List.length_cons, Nat.add_mul]; omega]
  exact h2
theorem OwnRow.move {w w' : World} {d : Bool} {F : Nat → Prop} {b b' sz : Nat} (hF : Agree F w w') : ∀ {S : Nat → Prop} {o o' : Nat} {es : List AV}, Agree S w w' → OwnRow w d F S b sz o es →
  (∀ j v, j < es.length * sz → w.cell? ⟨b, o + j, none⟩ = some v → w'.cell? ⟨b', o' + j, none⟩ = some v) → OwnRow w' d F S b' sz o' es
 | _, _, _, [], _, _, _ => by simp [OwnRow]
 | S, o, o', e :: es, hS, h, hc => by
  simp only [OwnRow] at h ⊢
  obtain ⟨x, T1, T2, a1, a2, a3, k1, k2, k3, k4, k5⟩ := h
  refine ⟨x, T1, T2, a1, a2, a3, Own.agree (fun _ h => h) hF (fun _ h => h) (hS.mono a1) _ _ k1, k2, k3, fun j v hj => ?_, OwnRow.move hF (hS.mono a2) k5 fun j v hj hv => ?_⟩
  ·have hlt := (List.getElem?_eq_some_iff.1 hj).1
   simp at hlt
   exact hc j v (by simp only [List.length_cons, Nat.add_mul]; omega) (k4 j v hj)
  ·rw [Nat.add_assoc] at hv ⊢
   exact hc (sz + j) v (by simp only [List.length_cons, Nat.add_mul]; omega) hv
theorem OwnRow.scal_of {w : World} {d : Bool} {F S : Nat → Prop} {b sz : Nat} : ∀ {o : Nat} {es : List AV}, (∀ (i : Nat) (e : AV), es[i]? = some e → ∃ x F', Rep w F' e x ∧ x.cells.size = sz ∧ e.cells.length = sz ∧ At w b (o + i * sz) x.cells.toList) → es.all scal = true → OwnRow w d F S b sz o es
 | _, [], _, _ => by simp [OwnRow]
 | o, e :: es, h, hs => by
  simp only [List.all_cons, Bool.and_eq_true] at hs
  obtain ⟨x, F', h1, h2, h3, h4⟩ := h 0 e rfl
  simp only [OwnRow]
  refine ⟨x, fun _ => False, fun _ => False, fun _ h => h.elim, fun _ h => h.elim, fun _ h => h.elim, ?_, h2, h3, by simpa using h4, OwnRow.scal_of (fun i e' hi => ?_) hs.2⟩
  ·exact Own.scal (E := ⟨F', fun _ => undef, fun _ _ => False⟩) h1 hs.1
  ·obtain ⟨x, F', g1, g2, g3, g4⟩ := h (i + 1) e' (by simpa using hi)
   refine ⟨x, F', g1, g2, g3, ?_⟩
   rw [show o + sz + i * sz = o + (i + 1) * sz by rw [Nat.add_mul]; omega]; exact g4
theorem OwnRow.list {w : World} {d : Bool} {F : Nat → Prop} {b sz : Nat} : ∀ {S : Nat → Prop} {o : Nat} {es : List AV}, OwnRow w d F S b sz o es → (es.all fun e => flat e.cells) = true →
  ∃ l : List Value, l.length = es.length * sz ∧ (∀ j v, l[j]? = some v → w.cell? ⟨b, o + j, none⟩ = some v) ∧ ∀ v ∈ l, v.oneCell' = true
 | _, _, [], _, _ => ⟨[], by simp, by simp, by simp⟩
 | S, o, e :: es, h, hf => by
  simp only [OwnRow] at h
  obtain ⟨x, T1, T2, a1, a2, a3, k1, k2, k3, k4, k5⟩ := h
  simp only [List.all_cons, Bool.and_eq_true] at hf
  obtain ⟨l, g1, g2, g3⟩ := k5.list hf.2
  have hxl : x.cells.toList.length = sz := by simpa using k2
  refine ⟨x.cells.toList ++ l, by simp only [List.length_append, hxl, g1, List.length_cons, Nat.add_mul]; omega, fun j v hj => ?_, fun v hv => ?_⟩
  ·by_cases hlt : j < sz
   ·rw [List.getElem?_append_left (by omega)] at hj; exact k4 j v hj
   ·rw [List.getElem?_append_right (by omega), hxl] at hj
    have := g2 (j - sz) v hj
    rw [show o + sz + (j - sz) = o + j by omega] at this; exact this
  ·rcases List.mem_append.1 hv with hv | hv
   ·exact (k1.flatL hf.1).flat hf.1 v hv
   ·exact g3 v hv
theorem OwnRow.list0 {w : World} {d : Bool} {F : Nat → Prop} {b sz : Nat} : ∀ {S : Nat → Prop} {o : Nat} {es : List AV}, OwnRow w d F S b sz o es →
  ∃ l : List Value, l.length = es.length * sz ∧ (∀ j v, l[j]? = some v → w.cell? ⟨b, o + j, none⟩ = some v)
 | _, _, [], _ => ⟨[], by simp, by simp⟩
 | S, o, e :: es, h => by
  simp only [OwnRow] at h
  obtain ⟨x, T1, T2, a1, a2, a3, k1, k2, k3, k4, k5⟩ := h
  obtain ⟨l, g1, g2⟩ := k5.list0
  have hxl : x.cells.toList.length = sz := by simpa using k2
  refine ⟨x.cells.toList ++ l, by simp only [List.length_append, hxl, g1, List.length_cons, Nat.add_mul]; omega, fun j v hj => ?_⟩
  by_cases hlt : j < sz
  ·rw [List.getElem?_append_left (by omega)] at hj; exact k4 j v hj
  ·rw [List.getElem?_append_right (by omega), hxl] at hj
   have := g2 (j - sz) v hj
   rw [show o + sz + (j - sz) = o + j by omega] at this; exact this
section
variable {P : Program} {w : World}
theorem run_grow {t ty el : TypeId} {te : TI} (hu : P.underlying t = some (.slice el)) (hte : TOk P el te) (_hpos : 0 < te.size)
  {ad : Option Addr} {len cap : Nat} {xs : List Value} (hm : cap ≤ maxLen)
  (hx : (ad = none ∧ len = 0 ∧ cap = 0 ∧ xs = []) ∨ ∃ b o cur T, ad = some ⟨b, o, none⟩ ∧ w.heap[b]? = some (.cells cur T (0, 0)) ∧ o + cap * te.size ≤ cur.size ∧ len ≤ cap ∧ xs.length = len * te.size ∧ ∀ j v, xs[j]? = some v → w.cell? ⟨b, o + j, none⟩ = some v)
  {ad2 : Option Addr} {m c2 : Nat} {news : List Value} (hnl : news.length = m * te.size) (hone : ∀ v ∈ news, v.oneCell' = true)
  (hy : m = 0 ∨ ∃ b2 o2, ad2 = some ⟨b2, o2, none⟩ ∧ ∀ j v, news[j]? = some v → w.cell? ⟨b2, o2 + j, none⟩ = some v)
  (h63 : len + m ≤ maxLen) (hbytes : (len + m) * te.bytes ≤ 140737488355328) :
  ∃ ad' cap' w', (Builtin.append_ #[t, t] ty #[.slice ad len cap, .slice ad2 m c2]).run P w = .ok (.slice ad' (len + m) cap') w' ∧ cap' ≤ maxLen ∧
   ((ad' = none ∧ ad = none ∧ m = 0 ∧ cap' = 0 ∧ w' = w) ∨
    ∃ b' o' cur' T', ad' = some ⟨b', o', none⟩ ∧ w'.heap[b']? = some (.cells cur' T' (0, 0)) ∧ o' + cap' * te.size ≤ cur'.size ∧ len + m ≤ cap' ∧ (ad = none → 0 < m) ∧
     (∀ j v, (xs ++ news)[j]? = some v → w'.cell? ⟨b', o' + j, none⟩ = some v) ∧
     ((b' = w.heap.size ∧ Frm (fun _ => False) w w' ∧ b' < w'.heap.size) ∨ ((∃ o1, ad = some ⟨b', o1, none⟩) ∧ Frm (fun b => b = b') w w' ∧ w'.heap.size = w.heap.size))) := by
 obtain ⟨i, hi, hi1, hi2, hi3⟩ := hte.info
 have hsz := hi1
 have hfirst : ∀ w1 : World, (∀ a, w1.cell? a = w.cell? a) → (Builtin.firstCells i.size m (.slice ad2 m c2)).run P w1 = .ok news.toArray w1 := by
  intro w1 hw1
  rcases hy with rfl | ⟨b2, o2, rfl, hy⟩
  ·have : news = [] := List.eq_nil_of_length_eq_zero (by simpa using hnl)
   subst this
   cases ad2 with
   | none => simp [Builtin.firstCells]
   | some a2 => exact run_firstCells_some w1 i.size 0 a2 0 c2 [] (by simp) (by simp)
  ·exact run_firstCells_some w1 i.size m ⟨b2, o2, none⟩ m c2 news (by rw [hnl, hsz]) (fun j v hj => by rw [hw1, add_addr]; exact hy j v hj)
 by_cases hroom : len + m ≤ cap
 ·-- in its place
  rcases hx with ⟨rfl, rfl, rfl, rfl⟩ | ⟨b, o, cur, T, rfl, hg, hfit, hlc, hxl, hxc⟩
  ·obtain rfl : m = 0 := by omega
   refine ⟨none, 0, w, ?_, hm, .inl ⟨rfl, rfl, rfl, rfl, rfl⟩⟩
   have := hfirst w (fun _ => rfl)
   simp [Builtin.append_, run_underlying hu, sizeOf, typeInfo, hi, Builtin.lenOf, this]
  ·have hmul : (len + m) * te.size ≤ cap * te.size := Nat.mul_le_mul_right _ hroom
   rw [Nat.add_mul] at hmul
   have hfit' : o + len * te.size + news.length ≤ cur.size := by rw [hnl]; omega
   have hst := run_storeCells_at (P := P) b (o + len * te.size) T news 0 cur w hg (by simpa using hfit') hone
   simp only [Nat.add_zero] at hst
   have hf := hfirst w (fun _ => rfl)
   rw [hsz] at hf
   refine ⟨some ⟨b, o, none⟩, cap, w.setRow b (cur.toList.take (o + len * te.size) ++ news ++ cur.toList.drop (o + len * te.size + news.length)).toArray, ?_, hm, .inr ⟨b, o, _, T, rfl, setRow_heap w b cur _ T (0, 0) hg, ?_, hroom, (fun h => by simp at h), ?_, .inr ⟨⟨o, rfl⟩, ⟨rfl, rfl, rfl, by simp [World.setRow], fun k _ hk => setRow_other w b k _ hk⟩, by simp [World.setRow]⟩⟩⟩
   ·simp [Builtin.append_, run_underlying hu, sizeOf, typeInfo, hi, Builtin.lenOf, hroom, hf, add_addr, hst, hsz]
   ·simp only [List.size_toArray, List.length_append, List.length_take, List.length_drop, Array.length_toList]
    omega
   ·intro j v hj
    rw [cell_setRow hg hfit']
    by_cases hlt : j < len * te.size
    ·rw [if_neg (by omega)]
     rw [List.getElem?_append_left (by omega)] at hj
     exact hxc j v hj
    ·rw [List.getElem?_append_right (by omega), hxl] at hj
     have := (List.getElem?_eq_some_iff.1 hj).1
     rw [if_pos ⟨by omega, by omega⟩]
     rw [show o + j - (o + len * te.size) = j - len * te.size by omega]; exact hj
 ·-- elsewhere
  have hmpos : 0 < m := by rcases hx with ⟨_, rfl, rfl, _⟩ | ⟨_, _, _, _, _, _, _, h, _⟩ <;> omega
  obtain ⟨b2, o2, rfl, hy2⟩ := hy.resolve_left (by omega)
  have hge := grownCap_ge w (len + m) cap el
  have hcm : grownCap w (len + m) cap el ≤ maxLen := grownCap_le_maxLen w (len + m) cap el h63
  have h63' : ((len + m : Nat) : Int) ≤ 9223372036854775807 := by simp only [maxLen] at h63; omega
  have hn2 : ∀ j v, news[j]? = some v → w.cell? ((⟨b2, o2, none⟩ : Addr).add j) = some v := fun j v hj => by rw [add_addr]; exact hy2 j v hj
  have hxlen : xs.length = len * i.size := by rcases hx with ⟨_, rfl, _, rfl⟩ | ⟨_, _, _, _, _, _, _, _, h, _⟩; simp; rw [hsz]; exact h
  refine ⟨some ⟨w.heap.size, 0, none⟩, grownCap w (len + m) cap el, w.drew.alloc (.cells (xs.toArray ++ news.toArray ++ Builtin.zeroCells te.zero.cells (grownCap w (len + m) cap el - (len + m))) el), ?_, hcm, .inr ⟨w.heap.size, 0, _, el, rfl, heap_alloc_new w.drew _, ?_, hge, (fun _ => hmpos), ?_, .inl ⟨rfl, ⟨rfl, rfl, rfl, by simp, fun k hk _ => heap_alloc_old w.drew _ hk⟩, by simp⟩⟩⟩
  ·rcases hx with ⟨rfl, rfl, rfl, rfl⟩ | ⟨b, o, cur, T, rfl, hg, hfit, hlc, hxl, hxc⟩
   ·have := run_append_nil (P := P) w t ty el i te.zero hu hi hi3 ⟨b2, o2, none⟩ m c2 news (by rw [hnl, hsz]) hn2 (by omega) (by simp only [Nat.zero_add] at h63'; exact h63') (by rw [hi2]; simp only [Nat.zero_add] at hbytes; omega)
    simpa using this
   ·exact run_append_grow (P := P) w t ty el i te.zero hu hi hi3 ⟨b, o, none⟩ len cap xs hxlen (fun j v hj => by rw [add_addr]; exact hxc j v hj) ⟨b2, o2, none⟩ m c2 news (by rw [hnl, hsz]) hn2 (by omega) h63' (growslice_fits (by omega) (by rw [hi2]; exact hbytes))
  ·simp only [Array.size_append, List.size_toArray, size_zeroCells, hte.size, hxlen, hnl, hsz, ← Nat.add_mul]
   rw [show len + m + (grownCap w (len + m) cap el - (len + m)) = grownCap w (len + m) cap el by omega]; omega
  ·intro j v hj
   have hcell := cell_of_row (w.drew.alloc (.cells (xs.toArray ++ news.toArray ++ Builtin.zeroCells te.zero.cells (grownCap w (len + m) cap el - (len + m))) el)) w.heap.size j _ el (0, 0) (heap_alloc_new w.drew _)
   rw [Nat.zero_add, hcell]
   have hlt := (List.getElem?_eq_some_iff.1 hj).1
   rw [← Array.getElem?_toList]
   simp only [Array.toList_append]
   rw [List.getElem?_append_left (by simpa using hlt)]
   exact hj
end
open Go Go.RowKit
section
variable {P : Program} {C : Ctx} {o : Oper} {a : Act} {w : World} {U : Ld} {w0 : World} {st : ASt} {E : Env}
theorem RepRow.own {w : World} {F : Nat → Prop} {b sz : Nat} : ∀ {S : Nat → Prop} {o : Nat} {es : List AV}, RepRow w F b sz o es → OwnRow w false F S b sz o es
 | _, _, [], _ => by simp [OwnRow]
 | S, o, e :: es, h => by
  simp only [RepRow] at h
  obtain ⟨⟨x, h1, h2, h3, h4, h5⟩, h6⟩ := h
  simp only [OwnRow]
  exact ⟨x, fun _ => False, fun _ => False, fun _ h => h.elim, fun _ h => h.elim, fun _ h => h.elim, Rep.own _ _ h1, h2, h3, h5, RepRow.own h6⟩
theorem OwnRow.dd {w : World} {d d' : Bool} {F : Nat → Prop} {b sz : Nat} (hd : d' = true → d = true) : ∀ {S : Nat → Prop} {o : Nat} {es : List AV}, OwnRow w d F S b sz o es → OwnRow w d' F S b sz o es
 | _, _, [], _ => by simp [OwnRow]
 | S, o, e :: es, h => by
  simp only [OwnRow] at h ⊢
  obtain ⟨x, T1, T2, a1, a2, a3, k1, k2, k3, k4, k5⟩ := h
  exact ⟨x, T1, T2, a1, a2, a3, k1.dd hd, k2, k3, k4, OwnRow.dd hd k5⟩
theorem flat_scal {e : AV} (h : scal e = true) : flat e.cells = true := by
 cases e with
 | v x => rfl
 | agg cs =>
  simp only [AV.cells]
  induction cs with
  | nil => rfl
  | cons c cs ih =>
   simp only [scal, List.all_cons, Bool.and_eq_true] at h
   have hc := h.1
   split at hc
   ·simp only [flat]; exact ih (by simp only [scal]; exact h.2)
   ·simp at hc
 | _ => simp [scal] at h
theorem appX_ok (hs : SR U w0 st E a w) {x : Operand} {sz : Nat} {es : List AV} {ux : List Nat} {dx nl : Bool} (h : appX sz st.toks (ev st.slots x) = some (es, ux, dx, nl)) :
  ∃ ad cap, a.eval x = .slice ad es.length cap ∧ es.length ≤ cap ∧ cap ≤ maxLen ∧
   ((ad = none ∧ nl = true ∧ es = [] ∧ cap = 0) ∨ ∃ b o' cur T t, ux = [t] ∧ ad = some ⟨b, o', none⟩ ∧ nl = false ∧ E.S t b ∧ w.heap[b]? = some (.cells cur T (0, 0)) ∧ o' + cap * sz ≤ cur.size ∧ OwnRow w dx E.F (fun y => E.S t y ∧ y ≠ b) b sz o' es) := by
 have hx := hs.ev x
 revert h hx
 cases ev st.slots x with
 | sl nl' sz' es' =>
  intro h hx
  simp only [appX] at h
  split at h
  ·simp only [Option.some.injEq, Prod.mk.injEq] at h
   obtain ⟨rfl, rfl, rfl, rfl⟩ := h
   simp only [SRep, Rep] at hx
   obtain ⟨ad, l, cap, hv, h1, h2, h3, h4⟩ := hx
   have hl : l = 0 := by simpa using h1
   subst hl
   rcases h4 with ⟨rfl, _, _, rfl⟩ | ⟨_, _, _, h, _⟩ | ⟨_, h, _⟩
   ·exact ⟨none, 0, hv, by simp, h3, .inl ⟨rfl, rfl, rfl, rfl⟩⟩
   ·simp at h
   ·simp at h
  ·simp at h
 | ref t p lo n =>
  intro h hx
  simp only [appX] at h
  split at h
  ·rename_i tk htk
   split at h
   ·rename_i nl' sz' es' hrow
    split at h
    ·rename_i hc
     obtain ⟨rfl, rfl⟩ := hc
     simp only [Option.some.injEq, Prod.mk.injEq] at h
     obtain ⟨rfl, rfl, rfl, rfl⟩ := h
     simp only [SRep] at hx
     obtain ⟨hv, g1, g2⟩ := hx.2 tk nl' sz' es' htk (by simp [getAt, hrow]) (by omega)
     simp only [follow, Option.some.injEq] at g1
     rcases hs.tok t tk htk with hj | ⟨nl2, sz2, es2, e1, e2⟩
     ·rw [hrow] at hj; simp at hj
     ·rw [hrow] at e1; simp only [AV.sl.injEq] at e1; obtain ⟨rfl, rfl, rfl⟩ := e1
      obtain ⟨ad, l, cap, hhd, h1, h2, h3, h4⟩ := e2
      rw [g1] at hhd
      have hval : a.eval x = .slice ad es'.length cap := by
       rcases g2 with ⟨q1, q2⟩ | ⟨_, q2, _⟩ | ⟨b, o1, hl', hc, o2, q1, q2, q3⟩
       ·rw [q2, ← q1, hhd, h1]
       ·rw [q2, hhd, h1]
       ·rw [q1] at hhd
        simp only [Value.slice.injEq] at hhd
        obtain ⟨rfl, rfl, rfl⟩ := hhd
        have : o2 = o1 + 0 * sz' := q3.resolve_right (fun h => h.2.1 rfl)
        rw [q2, this]; simp
      refine ⟨ad, cap, hval, by omega, h3, ?_⟩
      rcases h4 with ⟨rfl, rfl, hl0, rfl⟩ | ⟨b, o1, cur, T, rfl, rfl, hS, hh, hfit, hrow'⟩
      ·exact .inl ⟨rfl, rfl, List.length_eq_zero_iff.1 (by omega), rfl⟩
      ·exact .inr ⟨b, o1, cur, T, t, rfl, rfl, rfl, hS, hh, hfit, hrow'⟩
    ·simp at h
   ·simp at h
  ·simp at h
 | _ => intro h _; simp [appX] at h
theorem appY_ok (hs : SR U w0 st E a w) {y : Operand} {sz : Nat} {ys : List AV} {uy : List Nat} {dy : Bool} (h : appY sz st.toks (ev st.slots y) = some (ys, uy, dy)) :
  (ys.all fun e => flat e.cells) = true ∧ ∃ ad c2, a.eval y = .slice ad ys.length c2 ∧ (ys = [] ∨ ∃ b2 o2, ad = some ⟨b2, o2, none⟩ ∧ OwnRow w dy E.F (SU E uy) b2 sz o2 ys) := by
 have hy := hs.ev y
 revert h hy
 cases ev st.slots y with
 | sl nl' sz' es' =>
  intro h hy
  simp only [appY] at h
  split at h
  ·rename_i hc
   obtain ⟨rfl, hfl⟩ := hc
   simp only [Option.some.injEq, Prod.mk.injEq] at h
   obtain ⟨rfl, rfl, rfl⟩ := h
   refine ⟨hfl, ?_⟩
   simp only [SRep, Rep] at hy
   obtain ⟨ad, l, cap, hv, h1, h2, h3, h4⟩ := hy
   refine ⟨ad, cap, by rw [hv, h1], ?_⟩
   rcases h4 with ⟨rfl, _, h, _⟩ | ⟨b, o1, rfl, _, h4⟩ | ⟨_, _, h⟩
   ·exact .inl (List.length_eq_zero_iff.1 (by omega))
   ·right
    refine ⟨b, o1, rfl, ?_⟩
    cases hsc : es'.all scal with
    | true => exact OwnRow.scal_of (fun i e he => by
      obtain ⟨x, k1, k2, k3, k4, k5⟩ := RepRow.get h4 i e he
      exact ⟨x, E.F, k1, k2, k3, k5⟩) hsc
    | false => exact RepRow.own h4
   ·exact .inl h
  ·simp at h
 | ref t p lo n =>
  intro h hy
  simp only [appY] at h
  split at h
  ·rename_i tk htk
   split at h
   ·rename_i nl' sz' es' hg
    split at h
    ·rename_i hc
     obtain ⟨rfl, hle⟩ := hc
     simp only [SRep] at hy
     obtain ⟨hv, g1, g2⟩ := hy.2 tk nl' sz' es' htk hg hle
     obtain ⟨hv', k1, k2⟩ := (hs.tokOk t tk htk).follow hg
     have : hv = hv' := by have := k1 w (Agree.refl _ _); rw [g1] at this; exact Option.some.inj this
     subst this
     have hr := k2.rep
     have hvlen : ∃ ad0 cap0, hv = .slice ad0 es'.length cap0 := by
      simp only [Rep] at hr; obtain ⟨x, l, c, hh, h1, _⟩ := hr; exact ⟨x, c, by rw [hh, h1]⟩
     obtain ⟨ad0, cap0, hhv⟩ := hvlen
     have hview := hr.view g2 hle
     have hvl : (viewEs es' lo n).length = n := by simp [viewEs]; omega
     split at h
     ·rename_i hsc
      simp only [Option.some.injEq, Prod.mk.injEq] at h
      obtain ⟨rfl, rfl, rfl⟩ := h
      refine ⟨by rw [List.all_eq_true] at hsc ⊢; exact fun e he => flat_scal (hsc e he), ?_⟩
      simp only [Rep] at hview
      obtain ⟨ad, l, cap, hval, h1, h2, h3, h4⟩ := hview
      refine ⟨ad, cap, by rw [hval, h1], ?_⟩
      rcases h4 with ⟨rfl, _, h, _⟩ | ⟨b, o1, rfl, _, h4⟩ | ⟨_, _, h⟩
      ·exact .inl (List.length_eq_zero_iff.1 (by omega))
      ·right
       refine ⟨b, o1, rfl, OwnRow.scal_of (fun i e he => ?_) hsc⟩
       obtain ⟨x, k1, k2, k3, k4, k5⟩ := RepRow.get h4 i e he
       exact ⟨x, _, k1, k2, k3, k5⟩
      ·exact .inl h
     ·split at h
      ·rename_i hc
       obtain ⟨rfl, rfl, rfl, hfl⟩ := hc
       simp only [Option.some.injEq, Prod.mk.injEq] at h
       obtain ⟨rfl, rfl, rfl⟩ := h
       refine ⟨hfl, ?_⟩
       simp only [getAt] at hg
       simp only [follow, Option.some.injEq] at g1
       rcases hs.tok t tk htk with hj | ⟨nl2, sz2, es2, e1, e2⟩
       ·rw [hg] at hj; simp at hj
       ·rw [hg] at e1; simp only [AV.sl.injEq] at e1; obtain ⟨rfl, rfl, rfl⟩ := e1
        obtain ⟨ad, l, cap, hhd, h1, h2, h3, h4⟩ := e2
        rw [g1] at hhd
        have hval : a.eval y = .slice ad es'.length cap := by
         rcases g2 with ⟨q1, q2⟩ | ⟨_, q2, _⟩ | ⟨b, o1, hl', hc, o2, q1, q2, q3⟩
         ·rw [q2, ← q1, hhd, h1]
         ·rw [q2, hhd, h1]
         ·rw [q1] at hhd
          simp only [Value.slice.injEq] at hhd
          obtain ⟨rfl, rfl, rfl⟩ := hhd
          have : o2 = o1 + 0 * sz' := q3.resolve_right (fun h => h.2.1 rfl)
          rw [q2, this]; simp
        refine ⟨ad, cap, hval, ?_⟩
        rcases h4 with ⟨rfl, rfl, hl0, rfl⟩ | ⟨b, o1, cur, T, rfl, rfl, hS, hh, hfit, hrow'⟩
        ·exact .inl (List.length_eq_zero_iff.1 (by omega))
        ·exact .inr ⟨b, o1, rfl, hrow'.agree' fun y hy => ⟨t, by simp, hy.1⟩⟩
      ·simp at h
    ·simp at h
   ·simp at h
  ·simp at h
 | _ => intro h _; simp [appY] at h
theorem run_append_zeros {w : World} (t u ty e : TypeId) (i : TypeInfo) (z : Value) (k kl : IntKind) (ht : P.underlying t = some (.slice e)) (hu : P.underlying u = some (.int k)) (hi : P.info? e = some i) (hz : i.zero = some z) (hpos : 0 < i.size)
  (n : Nat) (h0 : 0 < n) (h63 : n ≤ 4611686018427387904) (h48 : n * i.bytes ≤ 140737488355328) :
  (Builtin.append_ #[t, u] ty #[.slice none 0 0, .int kl (n : Int)]).run P w =
   .ok (.slice (some ⟨w.heap.size, 0, none⟩) n (grownCap w n 0 e)) (w.drew.alloc (.cells (Builtin.zeroCells z.cells n ++ Builtin.zeroCells z.cells (grownCap w n 0 e - n)) e)) := by
 have hn : n ≠ 0 := by omega
 have hw : IntKind.i64.wrap (n : Int) = (n : Int) := Go.IntWalk.i64_in _ ⟨by omega, by omega⟩
 have hm : IntKind.i64.max = 9223372036854775807 := by decide
 have h1 : ¬ ((n : Int) * (i.bytes : Int) > 2 ^ 48) := by
  rw [← Int.natCast_mul]; omega
 have h1' : ¬ ((281474976710656 : Int) < (n : Int) * (i.bytes : Int)) := by
  rw [← Int.natCast_mul]; omega
 have h48' : ¬ (281474976710656 < Builtin.nextslicecap n 0 * i.bytes) := by rw [nextslicecap_zero h0]; omega
 have h2 : ¬ ((9223372036854775807 : Int) < (n : Int)) := by omega
 have h3 : ¬ ((n : Int) < 0) := by omega
 simp [Builtin.append_, run_underlying ht, run_underlying hu, sizeOf, typeInfo, zeroValue, hi, hz, asInt, asIntOf, hw, h1', hn, h2, h3, h48', Question.forced, run_firstCells_none, newRow, grownCap, hm]
 intro h
 exact absurd h (Nat.pos_iff_ne_zero.1 (Nat.mul_pos h0 hpos))
theorem goes_appendZ (hC : C.Ok P) (hs : SR U w0 st E a w) {args : Array Operand} {ts : Array TypeId} (ho : o.op = .call { callee := .builtin .append, args := args, argTypes := ts }) {x y : Operand} {t t' : TypeId} (hargs : args.toList = [x, y]) (hts : ts.toList = [t, t']) {out : Out}
  (h : (match C.T t, C.T t', ev st.slots x, asNat (ev st.slots y) with
     | some ti, some ti', .sl true _ [], some n => (match ti.desc, ti'.desc with
      | .slice el, .int _ => (match C.T el with
       | some te => if 0 < te.size ∧ 0 < n ∧ n ≤ 4611686018427387904 ∧ n * te.bytes ≤ 140737488355328 then
         some (⟨.ref st.toks.length [] 0 n, st.slots, st.toks ++ [⟨true, .sl false te.size (List.replicate n (ofV te.zero))⟩]⟩ : Out) else none
       | none => none)
      | _, _ => none)
     | _, _, _, _ => none) = some out) : Goes P o a w U w0 out := by
 split at h
 rotate_left
 ·simp at h
 rename_i ti ti' sz n hti hti' hx hy
 split at h
 rotate_left
 ·simp at h
 rename_i el k hd hd'
 split at h
 rotate_left
 ·simp at h
 rename_i te hte
 split at h
 rotate_left
 ·simp at h
 rename_i hcond
 obtain ⟨hpos, h0, h63, h48⟩ := hcond
 simp only [Option.some.injEq] at h; subst h
 have ha : args = #[x, y] := by cases args; simp_all
 have hts' : ts = #[t, t'] := by cases ts; simp_all
 subst ha
 subst hts'
 have hu := (hC.T t ti hti).desc
 rw [hd] at hu
 have hu' := (hC.T t' ti' hti').desc
 rw [hd'] at hu'
 have hte' := hC.T _ te hte
 obtain ⟨i, hi, hi1, hi2, hi3⟩ := hte'.info
 obtain ⟨kl, ey⟩ := ev_int hs hy
 have hxv := hs.ev x
 rw [hx] at hxv
 simp only [SRep, Rep] at hxv
 obtain ⟨a1, l1, c1, hxe, q1, _, _, hxk⟩ := hxv
 have hx0 : a1 = none ∧ c1 = 0 := by
  rcases hxk with h | ⟨_, _, _, h, _⟩ | ⟨_, h, _⟩
  ·exact ⟨h.1, h.2.2.2⟩
  ·simp at h
  ·simp at h
 obtain ⟨rfl, rfl⟩ := hx0
 have hl1 : l1 = 0 := by simpa using q1
 subst hl1
 have hrun := run_append_zeros (P := P) (w := w) t t' o.type el i te.zero k kl hu hu' hi hi3 (by omega) n h0 h63 (by rw [hi2]; exact h48)
 have hge := grownCap_ge w n 0 el
 have hcm : grownCap w n 0 el ≤ maxLen := grownCap_le_maxLen w n 0 el (by simp only [maxLen]; omega)
 intro hd0 next hn
 obtain ⟨E', g1, g2⟩ := hs.newRow (w1 := w.drew) (t := el) (cs := Builtin.zeroCells te.zero.cells n ++ Builtin.zeroCells te.zero.cells (grownCap w n 0 el - n)) (es := List.replicate n (ofV te.zero)) (sz := te.size) (cap := grownCap w n 0 el) (deep := true) ⟨rfl, rfl, rfl, Nat.le_refl _, fun _ _ _ => rfl⟩ rfl (by simpa using hge) hcm
  (by simp only [Array.size_append, size_zeroCells, hte'.size, ← Nat.add_mul]; rw [show n + (grownCap w n 0 el - n) = grownCap w n 0 el by omega]; exact Nat.le_refl _)
  (fun w' hA hself => OwnRow_rep (fun S => Own_ofV _) hte'.size (by rw [← cells_ofV, hte'.size]) n 0 fun i' hi' j y hj => by
   have hjl : j < te.size := by have := (List.getElem?_eq_some_iff.1 hj).1; simpa [hte'.size] using this
   have hlt : i' * te.size + j < n * te.size := by
    have := Nat.mul_le_mul_right te.size (show i' + 1 ≤ n by omega)
    rw [Nat.add_mul] at this; omega
   have hzs : (Builtin.zeroCells te.zero.cells n).size = n * te.size := by rw [size_zeroCells, hte'.size]
   simp only [World.cell?, hself, Option.isSome_none, Bool.false_eq_true, if_false, Nat.zero_add]
   rw [Array.getElem?_append_left (by omega), Array.getElem?_eq_getElem (by omega)]
   simp only [Builtin.zeroCells, Array.getElem_map, Array.getElem_range]
   have hmod : (i' * te.size + j) % te.zero.cells.size = j := by
    rw [hte'.size, Nat.mul_comm, Nat.mul_add_mod]; exact Nat.mod_eq_of_lt hjl
   rw [hmod]
   have : te.zero.cells[j]? = some y := by simpa using hj
   rw [getElem!_def, this])
 simp only [List.length_replicate] at g2
 refine wp_val (y := .slice (some ⟨w.heap.size, 0, none⟩) n (grownCap w n 0 el)) (w' := w.drew.alloc (.cells (Builtin.zeroCells te.zero.cells n ++ Builtin.zeroCells te.zero.cells (grownCap w n 0 el - n)) el)) ?_ (hn E' _ _ (SR.put g1 o.dst hd0 g2))
 simp only [execOp, ho, resolve, invoke, builtin, Sem.run_bind, Sem.run_pure, Result.andThen_ok, List.map_toArray, List.map_cons, List.map_nil, hxe, ey, hrun]
theorem goes_append (hC : C.Ok P) (hs : SR U w0 st E a w) {args : Array Operand} {ts : Array TypeId} (ho : o.op = .call { callee := .builtin .append, args := args, argTypes := ts }) {out : Out}
  (h : appO C { callee := .builtin .append, args := args, argTypes := ts } st.slots st.toks = some out) : Goes P o a w U w0 out := by
 simp only [appO] at h
 split at h
 rotate_left
 ·simp at h
 rename_i x y t t' hargs hts
 split at h
 rotate_left
 ·exact goes_appendZ hC hs ho hargs hts h
 rename_i htt
 subst htt
 split at h
 rotate_left
 ·simp at h
 rename_i ti hti
 split at h
 rotate_left
 ·simp at h
 rename_i el hd
 split at h
 rotate_left
 ·simp at h
 rename_i te hte
 split at h
 rotate_left
 ·simp at h
 rename_i es ux dx nl ys uy dy hX hY
 split at h
 rotate_left
 ·simp at h
 rename_i hcond
 obtain ⟨hnd, hpos, hn63, hbytes⟩ := hcond
 simp only [Option.some.injEq] at h
 subst h
 have ha : args = #[x, y] := by cases args; simp_all
 have hts' : ts = #[t, t] := by cases ts; simp_all
 subst ha
 subst hts'
 have hu := (hC.T t ti hti).desc
 rw [hd] at hu
 have hte' := hC.T _ te hte
 obtain ⟨ad, cap, hvx, hlc, hcm, hXc⟩ := appX_ok hs hX
 obtain ⟨hfl, ad2, c2, hvy, hYc⟩ := appY_ok hs hY
 -- the cells
 obtain ⟨xs, hxl, hxc⟩ : ∃ xs : List Value, xs.length = es.length * te.size ∧ ((ad = none ∧ es.length = 0 ∧ cap = 0 ∧ xs = []) ∨ ∃ b o cur T, ad = some ⟨b, o, none⟩ ∧ w.heap[b]? = some (.cells cur T (0, 0)) ∧ o + cap * te.size ≤ cur.size ∧ es.length ≤ cap ∧ xs.length = es.length * te.size ∧ ∀ j v, xs[j]? = some v → w.cell? ⟨b, o + j, none⟩ = some v) := by
  rcases hXc with ⟨h1, _, rfl, h2⟩ | ⟨b, o', cur, T, t1, _, rfl, _, _, hh, hfit, hrow⟩
  ·exact ⟨[], by simp, .inl ⟨h1, rfl, h2, rfl⟩⟩
  ·obtain ⟨l, g1, g2⟩ := hrow.list0
   exact ⟨l, g1, .inr ⟨b, o', cur, T, rfl, hh, hfit, hlc, g1, g2⟩⟩
 obtain ⟨news, hnl, hone, hyc⟩ : ∃ news : List Value, news.length = ys.length * te.size ∧ (∀ v ∈ news, v.oneCell' = true) ∧ (ys.length = 0 ∨ ∃ b2 o2, ad2 = some ⟨b2, o2, none⟩ ∧ ∀ j v, news[j]? = some v → w.cell? ⟨b2, o2 + j, none⟩ = some v) := by
  rcases hYc with rfl | ⟨b2, o2, rfl, hrow⟩
  ·exact ⟨[], by simp, by simp, .inl rfl⟩
  ·obtain ⟨l, g1, g2, g3⟩ := hrow.list hfl
   exact ⟨l, g1, g3, .inr ⟨b2, o2, rfl, g2⟩⟩
 obtain ⟨ad', cap', w', hrun, hcm', hres⟩ := run_grow (P := P) (w := w) (ty := o.type) hu hte' hpos (c2 := c2) hcm hxc hnl hone hyc (by simp only [maxLen]; omega) hbytes
 obtain ⟨E1, f1, f2, f3, hs1⟩ := SR.drops (ux ++ uy) (slots := st.slots) (toks := st.toks) hs
 have htl : (drops st.slots st.toks (ux ++ uy)).2.length = st.toks.length := drops_tlen _
 generalize drops st.slots st.toks (ux ++ uy) = st1 at hs1 htl ⊢
 have hU : ∀ b, SU E (ux ++ uy) b → (w0.heap.size ≤ b ∨ U b) ∧ b < w.heap.size ∧ ¬ allB E1 b := by
  rintro b ⟨t', ht', hb⟩
  refine ⟨(hs.slt t' b hb).2.2, (hs.slt t' b hb).1, ?_⟩
  rintro (hF | ⟨t2, h2⟩)
  ·rw [f1] at hF; exact (hs.slt t' b hb).2.1 hF
  ·rw [f3] at h2
   exact hs.sep t' t2 b (fun e => h2.1 (e ▸ ht')) hb h2.2
 have hFlt : ∀ b, E.F b → b < w.heap.size := hs.flt
 intro hd0
 have hfinal : ∀ (E' : Env), SR U w0 ⟨st1.1, st1.2 ++ [⟨dx && dy, .sl (nl && ys.isEmpty) te.size (es ++ ys)⟩]⟩ E' a w' → E'.hd st1.2.length = .slice ad' (es.length + ys.length) cap' → (ad' = none → es.length + ys.length = 0 ∧ cap' = 0) → (∀ z, ad' = some z → ∃ b o1, z = ⟨b, o1, none⟩) →
   ∀ (next : Act → World → Prop), (∀ E' a' w', SR U w0 ⟨putD st1.1 o.dst (.ref st.toks.length [] 0 (es.length + ys.length)), st1.2 ++ [⟨dx && dy, .sl (nl && ys.isEmpty) te.size (es ++ ys)⟩]⟩ E' a' w' → next a' w') → Does P o a w next := by
  intro E' hsr hhd hnone hsome next hn
  have hsrep : SRep w' E' (st1.2 ++ [⟨dx && dy, .sl (nl && ys.isEmpty) te.size (es ++ ys)⟩]) (.ref st.toks.length [] 0 (es.length + ys.length)) (.slice ad' (es.length + ys.length) cap') := by
   simp only [SRep]
   refine ⟨by simp [htl], fun tk nl' sz' es' k1 k2 k3 => ?_⟩
   rw [← htl] at k1
   simp at k1; subst k1
   simp only [getAt, AV.sl.injEq] at k2
   obtain ⟨rfl, rfl, rfl⟩ := k2
   refine ⟨_, by simp only [follow]; rw [← htl, hhd], ?_⟩
   cases ad' with
   | none => obtain ⟨h1, h2⟩ := hnone rfl; exact .inl ⟨by rw [h1, h2], by rw [h1, h2]⟩
   | some z => obtain ⟨b, o1, rfl⟩ := hsome z rfl; exact .inr (.inr ⟨b, o1, _, cap', o1, rfl, by simp, .inl (by omega)⟩)
  refine wp_val (y := .slice ad' (es.length + ys.length) cap') (w' := w') ?_ (hn E' _ _ (SR.put hsr o.dst hd0 hsrep))
  simp only [execOp, ho, resolve, invoke, builtin, Sem.run_bind, Sem.run_pure, Result.andThen_ok, List.map_toArray, List.map_cons, List.map_nil, hvx, hvy, hrun]
 intro next hn
 rcases hres with ⟨rfl, hadn, hm0, rfl, rfl⟩ | ⟨b', o', cur', T', rfl, hh', hfit', hle', hadm, hcells, hwhere⟩
 ·have hys : ys = [] := List.length_eq_zero_iff.1 hm0
  have hes : es = [] ∧ nl = true := by
   rcases hXc with ⟨_, h1, h2, _⟩ | ⟨b, o', cur, T, t1, _, h1, _⟩
   ·exact ⟨h2, h1⟩
   ·rw [hadn] at h1; simp at h1
  obtain ⟨rfl, rfl⟩ := hes
  subst hys
  obtain ⟨E', e1, e2, e3, _, e5⟩ := hs1.newTok ⟨dx && dy, .sl (true && ([] : List AV).isEmpty) te.size ([] ++ [])⟩ (.slice none 0 0) (fun _ => False) (fun _ h => h.elim) (.inr ⟨_, _, _, rfl, ⟨none, 0, 0, rfl, rfl, Nat.le_refl _, Nat.zero_le _, .inl ⟨rfl, rfl, rfl, rfl⟩⟩⟩)
  exact hfinal E' e5 (by rw [e2]; rfl) (fun _ => ⟨rfl, rfl⟩) (fun z h => by simp at h) next hn
 ·-- the row, in w'
  have hb'F : ¬ E.F b' := by
   rcases hwhere with ⟨rfl, _⟩ | ⟨⟨o1, h1⟩, _⟩
   ·intro h; exact Nat.lt_irrefl _ (hFlt _ h)
   ·rcases hXc with ⟨h2, _⟩ | ⟨b, o2, cur, T, t1, _, h2, _, hS, _⟩
    ·rw [h1] at h2; simp at h2
    ·rw [h1] at h2; simp at h2; rw [h2.1]; exact (hs.slt t1 b hS).2.1
  have hsame : ∀ b, b < w.heap.size → b ≠ b' → w'.heap[b]? = w.heap[b]? := fun b hb hne => by
   rcases hwhere with ⟨_, hf, _⟩ | ⟨_, hf, _⟩
   ·exact hf.block b hb id
   ·exact hf.block b hb hne
  have hsr2 : SR U w0 ⟨st1.1, st1.2⟩ E1 a w' := by
   rcases hwhere with ⟨_, hf, _⟩ | ⟨⟨o1, h1⟩, hf, _⟩
   ·exact hs1.grow hf
   ·rcases hXc with ⟨h2, _⟩ | ⟨b, o2, cur, T, t1, hu1, h2, _, hS, _⟩
    ·rw [h1] at h2; simp at h2
    ·rw [h1] at h2; simp at h2
     have := hU b ⟨t1, by simp [hu1], hS⟩
     rw [← h2.1] at this
     exact hs1.other hf this.2.2 this.1
  have hw'sz : w.heap.size ≤ w'.heap.size := by rcases hwhere with ⟨_, hf, _⟩ | ⟨_, hf, _⟩ <;> exact hf.size
  have hb'lt : b' < w'.heap.size := (Array.getElem?_eq_some_iff.1 hh').1
  have hSX : ∃ SX : Nat → Prop, (∀ b, SX b → SU E ux b ∧ b ≠ b') ∧ OwnRow w' (dx && dy) E1.F SX b' te.size o' es := by
   rcases hXc with ⟨_, _, rfl, _⟩ | ⟨b, o2, cur, T, t1, hu1, had, _, hS, hh, hfit, hrow⟩
   ·exact ⟨fun _ => False, fun _ h => h.elim, by simp [OwnRow]⟩
   ·have hne : ∀ z, E.S t1 z ∧ z ≠ b → z ≠ b' := fun z hz e => by
     rcases hwhere with ⟨h1, _⟩ | ⟨⟨o1, h1⟩, _⟩
     ·have := (hs.slt t1 z hz.1).1; omega
     ·rw [had] at h1; simp only [Option.some.injEq, Addr.mk.injEq, and_true] at h1; exact hz.2 (e.trans h1.1.symm)
    refine ⟨fun z => E.S t1 z ∧ z ≠ b, fun z hz => ⟨⟨t1, by simp [hu1], hz.1⟩, hne z hz⟩, ?_⟩
    rw [f1]
    refine OwnRow.dd (d := dx) (fun h => by simp at h; exact h.1) (OwnRow.move (w := w) (b := b) (o := o2) (fun z hz => hsame z (hFlt z hz) fun e => hb'F (e ▸ hz)) (fun z hz => hsame z (hs.slt t1 z hz.1).1 (hne z hz)) hrow fun j v hj hv => ?_)
    rcases hxc with ⟨h1, _⟩ | ⟨b3, o3, _, _, h1, _, _, _, _, hcx⟩
    ·rw [had] at h1; simp at h1
    ·rw [had] at h1
     simp only [Option.some.injEq, Addr.mk.injEq, and_true] at h1
     obtain ⟨rfl, rfl⟩ := h1
     have hjl : j < xs.length := by omega
     have hxj := hcx j _ (List.getElem?_eq_getElem hjl)
     rw [hv] at hxj
     refine hcells j v ?_
     rw [List.getElem?_append_left hjl, List.getElem?_eq_getElem hjl]
     exact hxj.symm
  have hSY : ∃ SY : Nat → Prop, (∀ b, SY b → SU E uy b ∧ b ≠ b') ∧ OwnRow w' (dx && dy) E1.F SY b' te.size (o' + es.length * te.size) ys := by
   rcases hYc with rfl | ⟨b2, o2, had2, hrow⟩
   ·exact ⟨fun _ => False, fun _ h => h.elim, by simp [OwnRow]⟩
   ·have hne : ∀ z, SU E uy z → z ≠ b' := fun z hz e => by
     rcases hwhere with ⟨h1, _⟩ | ⟨⟨o1, h1⟩, _⟩
     ·obtain ⟨t2, _, hz⟩ := hz
      have := (hs.slt t2 z hz).1; omega
     ·rcases hXc with ⟨h2, _⟩ | ⟨b, o3, cur, T, t1, hu1, h2, _, hS, _⟩
      ·rw [h1] at h2; simp at h2
      ·rw [h1] at h2; simp at h2
       exact SU_disj hs hnd z ⟨t1, by simp [hu1], by rw [e, h2.1]; exact hS⟩ hz
    refine ⟨SU E uy, fun z hz => ⟨hz, hne z hz⟩, ?_⟩
    rw [f1]
    refine OwnRow.dd (d := dy) (fun h => by simp at h; exact h.2) (OwnRow.move (w := w) (b := b2) (o := o2) (fun z hz => hsame z (hFlt z hz) fun e => hb'F (e ▸ hz)) (fun z hz => hsame z (by obtain ⟨t2, _, hz⟩ := hz; exact (hs.slt t2 z hz).1) (hne z hz)) hrow fun j v hj hv => ?_)
    rcases hyc with h1 | ⟨b3, o3, h1, hcy⟩
    ·rw [h1] at hj; simp at hj
    ·rw [had2] at h1
     simp only [Option.some.injEq, Addr.mk.injEq, and_true] at h1
     obtain ⟨rfl, rfl⟩ := h1
     have hjl : j < news.length := by omega
     have hxj := hcy j _ (List.getElem?_eq_getElem hjl)
     rw [hv] at hxj
     rw [Nat.add_assoc]
     refine hcells (es.length * te.size + j) v ?_
     rw [List.getElem?_append_right (by omega), hxl, show es.length * te.size + j - es.length * te.size = j by omega, List.getElem?_eq_getElem hjl]
     exact hxj.symm
  obtain ⟨SX, hSX1, hSX2⟩ := hSX
  obtain ⟨SY, hSY1, hSY2⟩ := hSY
  have hnl : (nl && ys.isEmpty) = false := by
   rcases hXc with ⟨h1, _, _, _⟩ | ⟨_, _, _, _, _, _, _, h1, _⟩
   ·have := hadm h1
    cases ys with
    | nil => simp at this
    | cons _ _ => simp
   ·simp [h1]
  have hrowN : OwnRow w' (dx && dy) E1.F (fun y => (SU E (ux ++ uy) y ∨ y = b') ∧ y ≠ b') b' te.size o' (es ++ ys) := by
   refine OwnRow.app hSX2 hSY2 (fun b hb => ?_) (fun b hb => ?_) (fun b hb hb2 => SU_disj hs hnd b (hSX1 b hb).1 (hSY1 b hb2).1)
   ·obtain ⟨⟨t1, h1, h2⟩, h3⟩ := hSX1 b hb
    exact ⟨.inl ⟨t1, by simp [h1], h2⟩, h3⟩
   ·obtain ⟨⟨t1, h1, h2⟩, h3⟩ := hSY1 b hb
    exact ⟨.inl ⟨t1, by simp [h1], h2⟩, h3⟩
  obtain ⟨E', e1, e2, e3, _, e5⟩ := hsr2.newTok ⟨dx && dy, .sl (nl && ys.isEmpty) te.size (es ++ ys)⟩ (.slice (some ⟨b', o', none⟩) (es.length + ys.length) cap') (fun b => SU E (ux ++ uy) b ∨ b = b')
   (fun b hb => by
    rcases hb with hb | rfl
    ·have := hU b hb; exact ⟨this.1, Nat.lt_of_lt_of_le this.2.1 hw'sz, this.2.2⟩
    ·rcases hwhere with ⟨rfl, hf, _⟩ | ⟨⟨o1, h1⟩, hf, _⟩
     ·exact ⟨.inl hs.frame.size, hb'lt, fun h => Nat.lt_irrefl _ (hs1.allLt _ h)⟩
     ·rcases hXc with ⟨h2, _⟩ | ⟨b, o2, cur, T, t1, hu1, h2, _, hS, _⟩
      ·rw [h1] at h2; simp at h2
      ·rw [h1] at h2; simp at h2
       have := hU b ⟨t1, by simp [hu1], hS⟩
       rw [← h2.1] at this
       exact ⟨this.1, hb'lt, this.2.2⟩)
   (.inr ⟨_, _, _, rfl, ⟨_, _, cap', rfl, by simp, hle', hcm', .inr ⟨b', o', cur', T', rfl, hnl, .inr rfl, hh', hfit', hrowN⟩⟩⟩)
  exact hfinal E' e5 e2 (fun h => by simp at h) (fun z h => by simp at h; exact ⟨b', o', h.symm⟩) next hn
end
open Go Go.RowKit
theorem OwnRow.of_list {w w' : World} {d : Bool} {F : Nat → Prop} {b sz : Nat} (hF : Agree F w w') : ∀ {S : Nat → Prop} {o : Nat} {es : List AV} {ys : List Value}, Agree S w w' → OwnL w d F S es ys →
  (∀ (i : Nat) (e : AV) (y : Value), es[i]? = some e → ys[i]? = some y → y.cells.size = sz ∧ e.cells.length = sz ∧ At w' b (o + i * sz) y.cells.toList) → OwnRow w' d F S b sz o es
 | _, _, [], _, _, _, _ => by simp [OwnRow]
 | S, o, e :: es, ys, hS, h, hc => by
  simp only [OwnL] at h
  obtain ⟨y, ys, S1, S2, rfl, a1, a2, a3, k1, k2⟩ := h
  simp only [OwnRow]
  obtain ⟨g1, g2, g3⟩ := hc 0 e y rfl rfl
  refine ⟨y, S1, S2, a1, a2, a3, Own.agree (fun _ h => h) hF (fun _ h => h) (hS.mono a1) _ _ k1, g1, g2, by simpa using g3, OwnRow.of_list hF (hS.mono a2) k2 fun i e' y' he hy => ?_⟩
  obtain ⟨c1, c2, c3⟩ := hc (i + 1) e' y' (by simpa using he) (by simpa using hy)
  refine ⟨c1, c2, ?_⟩
  rw [show o + sz + i * sz = o + (i + 1) * sz by rw [Nat.add_mul]; omega]; exact c3
theorem fill_rows {sz : Nat} : ∀ (ps : List (Nat × Value)) (k : Nat) (cs : Array Value), ps.map (·.1) = List.range' k ps.length → (∀ p ∈ ps, p.2.cells.size = sz) → (k + ps.length) * sz ≤ cs.size →
  ∃ cs', Instr.fill (fun i => some (i * sz, sz)) cs ps = some cs' ∧ cs'.size = cs.size ∧ (∀ (i : Nat) (p : Nat × Value), ps[i]? = some p → ∀ (j : Nat) (y : Value), p.2.cells.toList[j]? = some y → cs'[(k + i) * sz + j]? = some y) ∧ (∀ m, m < k * sz → cs'[m]? = cs[m]?)
 | [], k, cs, _, _, _ => ⟨cs, rfl, rfl, by simp, fun _ _ => rfl⟩
 | (i0, v) :: ps, k, cs, hi, hs, hfit => by
  simp only [List.map_cons, List.length_cons, List.range'_succ, List.cons.injEq] at hi
  obtain ⟨rfl, hi⟩ := hi
  have hv : v.cells.size = sz := hs (i0, v) (by simp)
  have hmul : (i0 + (ps.length + 1)) * sz = i0 * sz + (ps.length * sz + sz) := by rw [Nat.add_mul, Nat.add_mul]; omega
  simp only [List.length_cons] at hfit
  have hno : (v.cells.size ≠ sz || decide (i0 * sz + v.cells.size > cs.size)) = false := by simp [hv]; omega
  have hfold := foldl_put v.cells.toList 0 (i0 * sz) cs (by simp [hv]; omega)
  have harr : (v.cells.zipIdx.foldl (fun cs x => match x with | (c, j) => cs.setIfInBounds (i0 * sz + j) c) cs) = (v.cells.toList.zipIdx 0).foldl (fun cs p => cs.setIfInBounds (i0 * sz + p.2) p.1) cs := by
   rw [← Array.foldl_toList, Array.toList_zipIdx]
  generalize hcs1 : (v.cells.zipIdx.foldl (fun cs x => match x with | (c, j) => cs.setIfInBounds (i0 * sz + j) c) cs) = cs1 at harr
  rw [← harr] at hfold
  simp only [Nat.add_zero, Array.length_toList, hv] at hfold
  have hvl : v.cells.toList.length = sz := by simpa using hv
  have hsz1 : cs1.size = cs.size := by
   rw [← Array.length_toList, hfold]; simp [hv]; omega
  obtain ⟨cs', g1, g2, g3, g4⟩ := fill_rows ps (i0 + 1) cs1 hi (fun p hp => hs p (by simp [hp])) (by rw [hsz1]; rw [show i0 + 1 + ps.length = i0 + (ps.length + 1) by omega]; exact hfit)
  refine ⟨cs', ?_, by rw [g2, hsz1], fun i p hp j y hj => ?_, fun m hm => ?_⟩
  ·simp only [Instr.fill, hno, Bool.false_eq_true, if_false, hcs1]
   exact g1
  ·cases i with
   | zero =>
    simp at hp; subst hp
    simp only at hj
    have hjl : j < sz := by have := (List.getElem?_eq_some_iff.1 hj).1; omega
    rw [Nat.add_zero, g4 _ (by rw [Nat.add_mul]; omega), ← Array.getElem?_toList, hfold]
    rw [List.getElem?_append_left (by simp [hv]; omega), List.getElem?_append_right (by simp; omega)]
    have : i0 * sz + j - (cs.toList.take (i0 * sz)).length = j := by simp; omega
    rw [this]; exact hj
   | succ i =>
    have := g3 i p (by simpa using hp) j y hj
    rw [show i0 + (i + 1) = i0 + 1 + i by omega]; exact this
  ·rw [g4 m (by rw [Nat.add_mul]; omega), ← Array.getElem?_toList, hfold]
   rw [List.append_assoc, List.getElem?_append_left (by simp; omega), List.getElem?_take, if_pos hm]
   simp
section
variable {P : Program} {C : Ctx} {o : Oper} {a : Act} {w : World} {U : Ld} {w0 : World} {st : ASt} {E : Env}
theorem lit_row (hs : SR U w0 st E a w) {t el : TypeId} {te : TI} {len : Nat} {parts : Array (Nat × Operand)} (ho : o.op = .buildSlice t len parts) (hu : P.underlying t = some (.slice el)) (hte : TOk P el te) (hpos : 0 < te.size) (hsmall : len * te.size ≤ 1000) (hidx : parts.toList.map (·.1) = List.range len)
  {st1 : List AV × List Tok} {E1 : Env} (hs1 : SR U w0 ⟨st1.1, st1.2⟩ E1 a w) (htl : st1.2.length = st.toks.length) {S : Nat → Prop} (hS : ∀ b, S b → (w0.heap.size ≤ b ∨ U b) ∧ b < w.heap.size ∧ ¬ allB E1 b)
  {d : Bool} {vals : List AV} (hvl : vals.length = len) (hown : OwnL w d E1.F S vals (parts.toList.map fun p => a.eval p.2)) (hsz : ∀ (i : Nat) (e : AV) (y : Value), vals[i]? = some e → (parts.toList.map fun p => a.eval p.2)[i]? = some y → y.cells.size = te.size ∧ e.cells.length = te.size) :
  Goes P o a w U w0 ⟨.ref st.toks.length [] 0 len, st1.1, st1.2 ++ [⟨d, .sl false te.size vals⟩]⟩ := by
 obtain ⟨i, hi, hi1, hi2, hi3⟩ := hte.info
 have hpl : parts.toList.length = len := by have := congrArg List.length hidx; simpa using this
 let ps : List (Nat × Value) := parts.toList.map fun p => (p.1, a.eval p.2)
 have hps : ps.length = len := by simp [ps, hpl]
 obtain ⟨cs', g1, g2, g3, _⟩ := fill_rows (sz := te.size) ps 0 ((Array.range (len * te.size)).map (te.zero.cells[· % te.zero.cells.size]!)) (by
   rw [hps, ← List.range_eq_range']; rw [← hidx]; simp [ps]) (fun p hp => by
   obtain ⟨i, hi⟩ := List.getElem?_of_mem hp
   have hil : i < len := by have := (List.getElem?_eq_some_iff.1 hi).1; omega
   have h1 : (parts.toList.map fun p => a.eval p.2)[i]? = some p.2 := by
    have := congrArg (Option.map (·.2)) hi
    simp only [ps, List.getElem?_map, Option.map_map] at this
    simpa [List.getElem?_map, Function.comp_def] using this
   exact (hsz i _ _ (List.getElem?_eq_getElem (by omega)) h1).1) (by simp [hps])
 have hcsz : cs'.size = len * te.size := by rw [g2]; simp
 have hrun : (execOp a.eval o).run P w = .ok (.value (.slice (some ⟨w.heap.size, 0, none⟩) len len)) (w.alloc (.cells cs' el)) := by
  have hmap : (parts.map fun x => match x with | (i, x) => (i, a.eval x)).toList = ps := by simp [ps]
  have hb : (Instr.buildSlice t len (parts.map fun x => match x with | (i, x) => (i, a.eval x))).run P w = .ok (.slice (some ⟨w.heap.size, 0, none⟩) len len) (w.alloc (.cells cs' el)) := by
   by_cases hz : len = 0
   ·subst hz
    have hpn : ps = [] := List.eq_nil_of_length_eq_zero hps
    have hc : cs' = #[] := by apply Array.eq_empty_of_size_eq_zero; rw [hcsz]; simp
    subst hc
    have hpe : parts = #[] := by apply Array.eq_empty_of_size_eq_zero; simpa using hpl
    subst hpe
    have hr0 : Array.range 0 = #[] := rfl
    simp [Instr.buildSlice, run_underlying hu, sizeOf, typeInfo, hi, Instr.fill, newRow, hr0]
   ·refine run_buildSlice w t el len _ cs' i te.zero hu hi hi3 (by rw [hi1]; omega) (by rw [hi1]; intro h; rcases Nat.mul_eq_zero.1 h with h | h <;> omega) ?_
    rw [hi1, hmap]; exact g1
  simp only [execOp, ho, Sem.run_bind, hb]
  rfl
 have hfr : Frm (fun _ => False) w (w.alloc (.cells cs' el)) := frm_alloc _
 have hself : (w.alloc (.cells cs' el)).heap[w.heap.size]? = some (.cells cs' el (0, 0)) := heap_alloc_self _
 have hg := hs1.grow hfr
 obtain ⟨E', e1, e2, e3, _, e5⟩ := hg.newTok ⟨d, .sl false te.size vals⟩ (.slice (some ⟨w.heap.size, 0, none⟩) len len) (fun b => S b ∨ b = w.heap.size)
  (fun b hb => by
   rcases hb with hb | rfl
   ·have := hS b hb; exact ⟨this.1, Nat.lt_of_lt_of_le this.2.1 hfr.size, this.2.2⟩
   ·exact ⟨.inl hs.frame.size, by simp, fun h => Nat.lt_irrefl _ (hs1.allLt _ h)⟩)
  (.inr ⟨_, _, _, rfl, ⟨_, len, len, rfl, hvl.symm, Nat.le_refl _, by simp only [maxLen]; have := Nat.le_mul_of_pos_right len hpos; omega, .inr ⟨w.heap.size, 0, cs', el, rfl, rfl, .inr rfl, hself, by omega, by
   have hrow : OwnRow (w.alloc (.cells cs' el)) d E1.F S w.heap.size te.size 0 vals :=
    OwnRow.of_list (fun b hb => hfr.block b (hs1.flt b hb) id) (fun b hb => hfr.block b (hS b hb).2.1 id) hown fun i e y he hy => by
     obtain ⟨c1, c2⟩ := hsz i e y he hy
     refine ⟨c1, c2, fun j v hj => ?_⟩
     have hpi : ∃ p, ps[i]? = some p ∧ p.2 = y := by
      simp only [List.getElem?_map, Option.map_eq_some_iff] at hy
      obtain ⟨q, hq, rfl⟩ := hy
      exact ⟨(q.1, a.eval q.2), by simp [ps, hq], rfl⟩
     obtain ⟨p, hp, rfl⟩ := hpi
     have := g3 i p hp j v hj
     simp only [World.cell?, hself, Option.isSome_none, Bool.false_eq_true, if_false, Nat.zero_add] at this ⊢
     exact this
   exact hrow.agree' fun b hb => ⟨.inl hb, fun e => by have := (hS b hb).2.1; omega⟩⟩⟩⟩)
 intro hd0 next hn
 refine wp_val (y := .slice (some ⟨w.heap.size, 0, none⟩) len len) (w' := w.alloc (.cells cs' el)) hrun (hn E' _ _ (SR.put e5 o.dst hd0 ?_))
 simp only [SRep]
 refine ⟨by simp [htl], fun tk nl' sz' es' k1 k2 k3 => ?_⟩
 rw [← htl] at k1
 simp at k1; subst k1
 simp only [getAt, AV.sl.injEq] at k2
 obtain ⟨rfl, rfl, rfl⟩ := k2
 exact ⟨_, by simp only [follow]; rw [← htl, e2], .inr (.inr ⟨w.heap.size, 0, len, len, 0, rfl, by simp, .inl (by omega)⟩)⟩
theorem evs_srep (hs : SR U w0 st E a w) : ∀ (l : List (Nat × Operand)), SRepL w E st.toks (l.map fun p => ev st.slots p.2) (l.map fun p => a.eval p.2)
 | [] => by simp [SRepL]
 | p :: l => by simp only [List.map_cons, SRepL]; exact ⟨_, _, rfl, hs.ev p.2, evs_srep hs l⟩
theorem goes_buildSlice (hC : C.Ok P) (hs : SR U w0 st E a w) {t : TypeId} {len : Nat} {parts : Array (Nat × Operand)} (ho : o.op = .buildSlice t len parts) {out : Out} (h : aop C (.buildSlice t len parts) st.slots st.toks = some out) : Goes P o a w U w0 out := by
 simp only [aop] at h
 split at h
 rotate_left
 ·simp at h
 rename_i ti hti
 split at h
 rotate_left
 ·simp at h
 rename_i el hd
 split at h
 rotate_left
 ·simp at h
 rename_i te hte
 split at h
 rotate_left
 ·simp at h
 rename_i hcond
 obtain ⟨hidx, hpos, hsmall⟩ := hcond
 have hu := (hC.T t ti hti).desc
 rw [hd] at hu
 have hte' := hC.T _ te hte
 have hpl : parts.toList.length = len := by have := congrArg List.length hidx; simpa using this
 have hev := evs_srep hs parts.toList
 split at h
 ·rename_i q hq
  split at h
  ·rename_i hc
   obtain ⟨hnd, _, hall⟩ := hc
   simp only [Option.some.injEq] at h; subst h
   have hown := ownRL_ok (F := E.F) hs _ _ q hev hq hnd
   obtain ⟨E1, f1, f2, f3, hs1⟩ := SR.drops q.2 (slots := st.slots) (toks := st.toks) hs
   have hlen := hown.len
   refine lit_row hs ho hu hte' hpos hsmall hidx hs1 (drops_tlen _) (S := SU E q.2) ?_ (by rw [← hlen]; simpa using hpl) (by rw [f1]; exact hown) fun i e y he hy => ?_
   ·rintro b ⟨t', ht', hb⟩
    refine ⟨(hs.slt t' b hb).2.2, (hs.slt t' b hb).1, ?_⟩
    rintro (hF | ⟨t2, h2⟩)
    ·rw [f1] at hF; exact (hs.slt t' b hb).2.1 hF
    ·rw [f3] at h2
     exact hs.sep t' t2 b (fun e => h2.1 (e ▸ ht')) hb h2.2
   ·rw [List.all_eq_true] at hall
    have := hall e (List.mem_of_getElem? he)
    simp only [Bool.and_eq_true, decide_eq_true_eq] at this
    obtain ⟨y', hy', hoy⟩ := OwnL.get hown i e he
    rw [hy] at hy'; obtain rfl := Option.some.inj hy'
    have := (hoy.flatL this.2).len
    refine ⟨?_, by omega⟩
    simpa [‹e.cells.length = te.size ∧ _›.1] using this
  ·simp at h
 ·split at h
  ·rename_i hall
   simp only [Option.some.injEq] at h; subst h
   rw [List.all_eq_true] at hall
   have hrep : RepL w E.F (parts.toList.map fun p => ev st.slots p.2) (parts.toList.map fun p => a.eval p.2) := by
    have : ∀ l : List (Nat × Operand), (∀ x ∈ l.map (fun p => ev st.slots p.2), frz x = true) → RepL w E.F (l.map fun p => ev st.slots p.2) (l.map fun p => a.eval p.2) := by
     intro l
     induction l with
     | nil => intro _; simp [RepL]
     | cons p l ih =>
      intro hl
      simp only [List.map_cons, RepL]
      exact ⟨_, _, rfl, (hs.ev p.2).frz (hl _ (by simp)), ih fun x hx => hl x (by simp only [List.map_cons]; exact List.mem_cons_of_mem _ hx)⟩
    refine this _ fun x hx => ?_
    have := hall x hx
    simp only [Bool.and_eq_true] at this
    exact this.1
   refine lit_row hs ho hu hte' hpos hsmall hidx (st1 := (st.slots, st.toks)) hs rfl (S := fun _ => False) (fun _ h => h.elim) (by simpa using hpl) (RepL.own _ _ hrep) fun i e y he hy => ?_
   have := hall e (List.mem_of_getElem? he)
   simp only [Bool.and_eq_true, decide_eq_true_eq] at this
   obtain ⟨y', hy', hoy⟩ := RepL.get hrep i e he
   rw [hy] at hy'; obtain rfl := Option.some.inj hy'
   refine ⟨?_, this.2⟩
   rw [hoy.cellsN (by intro e'; rw [e'] at this; simp [frz] at this), this.2]
  ·split at h
   rotate_left
   ·simp at h
   rename_i hall
   replace hall := hall.2
   simp only [Option.some.injEq] at h; subst h
   rw [List.all_eq_true] at hall
   obtain ⟨E1, f1, f2, f3, hs1⟩ := SR.drops (refsL (parts.toList.map fun p => ev st.slots p.2)) (slots := st.slots) (toks := st.toks) hs
   have hs2 := hs1.addF (SU E (refsL (parts.toList.map fun p => ev st.slots p.2))) fun b hb => by
    obtain ⟨t', ht', hb⟩ := hb
    refine ⟨(hs.slt t' b hb).1, fun t2 h2 => ?_, ?_⟩
    ·rw [f3] at h2
     exact hs.sep t' t2 b (fun e => h2.1 (e ▸ ht')) hb h2.2
    ·exact .inr (hs.slt t' b hb).2.2.symm
   have hrep : RepL w (fun b => E.F b ∨ SU E (refsL (parts.toList.map fun p => ev st.slots p.2)) b) (resL st.toks (parts.toList.map fun p => ev st.slots p.2)) (parts.toList.map fun p => a.eval p.2) :=
    SRepL.resS (fun _ h => .inl h) hs.tokOk _ _ (fun t ht b hb => .inr ⟨t, ht, hb⟩) hev
   have hvl : (resL st.toks (parts.toList.map fun p => ev st.slots p.2)).length = len := by rw [← hrep.length]; simpa using hpl
   refine lit_row hs ho hu hte' hpos hsmall hidx hs2 (drops_tlen _) (S := fun _ => False) (fun _ h => h.elim) hvl (RepL.own _ _ (by rw [f1]; exact hrep)) fun i e y he hy => ?_
   have := hall e (List.mem_of_getElem? he)
   simp only [Bool.and_eq_true, decide_eq_true_eq] at this
   obtain ⟨y', hy', hoy⟩ := RepL.get hrep i e he
   rw [hy] at hy'; obtain rfl := Option.some.inj hy'
   refine ⟨?_, this.2⟩
   rw [hoy.cellsN (by intro e'; rw [e'] at this; simp [frz] at this), this.2]
end
end Go.Proofs.YtompijgfpeibnaaGreatDoor.Ax
