/-
  A row at the end of a path turns: by a call that is lent it, by a store. No condition.
-/
import Derived.Test.YtehfjhenilkofaaAxFocus
namespace Go.Proofs.Ytehfjhenilkofaa.Ax
open Go Go.RowKit

section
variable {P : Program} {C : Ctx} {o : Oper} {a : Act} {w : World} {U : Ld} {w0 : World} {st : ASt} {E : Env}

theorem setPath_ok (hs : SR U w0 st E a w) {t : Nat} {tk : Tok} {p : List (Nat × Nat)} {nl : Bool} {sz : Nat} {es : List AV} (htk : st.toks[t]? = some tk) (hdeep : tk.deep = true) (hg : getAt tk.row p = .sl nl sz es) :
    ∃ h, ∃ S1 : Nat → Prop, follow w tk.row (E.hd t) p = some h ∧ (∀ b, S1 b → E.S t b) ∧ Own w true E.F S1 (.sl nl sz es) h ∧
      ∀ (w' : World) (es' : List AV) (S1' : Nat → Prop), es'.length = es.length → Frm S1 w w' → Own w' true E.F S1' (.sl nl sz es') h → (∀ b, S1' b → S1 b ∨ (w.heap.size ≤ b ∧ b < w'.heap.size)) →
        ∃ E' : Env, E'.F = E.F ∧ (∀ b, allB E' b → allB E b ∨ S1' b) ∧ SR U w0 ⟨st.slots.map (killN t), st.toks.set t ⟨true, setAt tk.row p (.sl nl sz es')⟩⟩ E' a w' := by
  have hlt : t < st.toks.length := (List.getElem?_eq_some_iff.1 htk).1
  obtain ⟨nl0, sz0, es0, hrow, hex⟩ : ∃ nl0 sz0 es0, tk.row = .sl nl0 sz0 es0 ∧ Excl w true E.F (E.S t) nl0 sz0 es0 (E.hd t) := by
    rcases hs.tok t tk htk with hj | ⟨nl', sz', es', h1, h2⟩
    · rw [hj] at hg; cases p <;> simp [getAt] at hg
    · rw [hdeep] at h2; exact ⟨_, _, _, h1, h2⟩
  rw [hrow] at hg ⊢
  obtain ⟨h, S1, f1, f2, f3, f4⟩ := Own.focus p hex.own ⟨_, _, _, rfl⟩ hg fun b hb => (hs.slt t b hb).2.1
  refine ⟨h, S1, f1, f2, f3, fun w' es' S1' hl hfr ho hS1' => ?_⟩
  have hchg : Chg w w' E.F (E.S t) S1 S1' := ⟨fun b hb => hfr.block b (hs.flt b hb) fun hb1 => (hs.slt t b (f2 b hb1)).2.1 hb, fun b hb hn => hfr.block b (hs.slt t b hb).1 hn, fun b hb => (hS1' b hb).imp id fun hb' hb2 => by have := (hs.slt t b hb2).1; omega⟩
  have hnew := f4 w' es' S1' hl ho hchg
  obtain ⟨es2, k1, k2⟩ := setAt_sl (es := es') hg hl rfl rfl (rfl : (AV.sl nl0 sz0 es0) = .sl nl0 sz0 es0)
  rw [k1] at hnew ⊢
  obtain ⟨E', e1, e2, e3, e4, e5, e6⟩ := hs.setTok' (slots := st.slots) (toks := st.toks) (slots' := st.slots.map (killN t)) (tk' := ⟨true, .sl nl0 sz0 es2⟩) htk (E.hd t) (fun b => (E.S t b ∧ ¬ S1 b) ∨ S1' b)
    ⟨hfr.os, hfr.tape, hfr.output, hfr.size, fun b hb hn => hfr.block b hb fun h => hn (f2 b h)⟩
    (fun b hb => hb.elim (fun hb => .inl hb.1) fun hb => (hS1' b hb).elim (fun h => .inl (f2 b h)) fun hb => .inr ⟨.inl (Nat.le_trans hs.frame.size hb.1), hb.2, fun hA => by have := hs.allLt b hA; omega⟩)
    (.inr ⟨nl0, sz0, es2, rfl, Excl.of_own hnew⟩) (by simp) (fun E' e1 e2 e3 e4 i' z hz => by
      rw [List.getElem?_map] at hz
      cases hz0 : st.slots[i']? with
      | none => rw [hz0] at hz; simp at hz
      | some z0 =>
        rw [hz0] at hz
        simp only [Option.map_some, Option.some.injEq] at hz
        subst hz
        have hset : (st.toks.set t ⟨true, .sl nl0 sz0 es2⟩)[t]? = some ⟨true, .sl nl0 sz0 es2⟩ := List.getElem?_set_self hlt
        have hset' : ∀ t', t' ≠ t → (st.toks.set t ⟨true, .sl nl0 sz0 es2⟩)[t']? = st.toks[t']? := fun t' h => List.getElem?_set_ne (fun e => h e.symm)
        have hfol : ∀ t', t' ≠ t → ∀ tk' p nl' sz' es'', st.toks[t']? = some tk' → getAt tk'.row p = .sl nl' sz' es'' → ∀ h, follow w tk'.row (E.hd t') p = some h → follow w' tk'.row (E'.hd t') p = some h := by
          intro t' htk' tk' p nl' sz' es'' h1 h2 h h3
          rcases hs.tokOk t' tk' h1 with hj | ⟨nl1, sz1, es1, g1, g2⟩
          · rw [hj] at h2; cases p <;> simp [getAt] at h2
          · rw [g1] at h2 h3 ⊢
            obtain ⟨h', k1, _⟩ := follow_ok p _ _ nl' sz' es'' g2.own h2
            have : h = h' := by have := k1 w (Agree.refl _ _); rw [h3] at this; exact Option.some.inj this
            subst this
            rw [e3 t' htk']
            exact k1 w' fun y hm => hm.elim (fun hm => hchg.f y hm) fun hm => hfr.block y (hs.slt t' y hm).1 fun hy => hs.sep t' t y htk' hm (f2 y hy)
        refine SRep.chgN hchg.f (fun y hy => by rw [e1]; exact hy) (fun t' p lo n y hnk hr => ?_) (fun t' p i j y hnk hr => ?_) z0 _ (hs.slot i' z0 hz0)
        · refine ⟨by simpa using hr.1, fun tk' nl' sz' es'' h1 h2 h3 => ?_⟩
          by_cases htk' : t' = t
          · subst htk'
            have hp : p = [] := Classical.byContradiction fun hp => hnk ⟨rfl, hp⟩
            subst hp
            rw [hset] at h1; obtain rfl := Option.some.inj h1
            simp only [getAt, AV.sl.injEq] at h2; obtain ⟨rfl, rfl, rfl⟩ := h2
            obtain ⟨h, g1, g2⟩ := hr.2 tk nl0 sz0 es0 htk (by simp [getAt, hrow]) (by rw [← k2]; exact h3)
            exact ⟨h, by simp only [follow] at g1 ⊢; rw [e2]; exact g1, g2⟩
          · rw [hset' t' htk'] at h1
            obtain ⟨h, g1, g2⟩ := hr.2 tk' nl' sz' es'' h1 h2 h3
            exact ⟨h, hfol t' htk' tk' p nl' sz' es'' h1 h2 h g1, g2⟩
        · refine ⟨by simpa using hr.1, fun tk' nl' sz' es'' h1 h2 h3 => ?_⟩
          by_cases htk' : t' = t
          · subst htk'
            have hp : p = [] := Classical.byContradiction fun hp => hnk ⟨rfl, hp⟩
            subst hp
            rw [hset] at h1; obtain rfl := Option.some.inj h1
            simp only [getAt, AV.sl.injEq] at h2; obtain ⟨rfl, rfl, rfl⟩ := h2
            obtain ⟨b1, o1, l1, c1, g1, g2⟩ := hr.2 tk nl0 sz0 es0 htk (by simp [getAt, hrow]) (by rw [← k2]; exact h3)
            exact ⟨b1, o1, l1, c1, by simp only [follow] at g1 ⊢; rw [e2]; exact g1, g2⟩
          · rw [hset' t' htk'] at h1
            obtain ⟨b1, o1, l1, c1, g1, g2⟩ := hr.2 tk' nl' sz' es'' h1 h2 h3
            exact ⟨b1, o1, l1, c1, hfol t' htk' tk' p nl' sz' es'' h1 h2 _ g1, g2⟩)
  refine ⟨E', e1, fun b hb => ?_, e6⟩
  rcases hb with hb | ⟨t', hb⟩
  · rw [e1] at hb; exact .inl (.inl hb)
  · by_cases et : t' = t
    · subst et; rw [e5] at hb
      exact hb.elim (fun hb => .inl (.inr ⟨t', hb.1⟩)) .inr
    · rw [e4 t' et] at hb; exact .inl (.inr ⟨t', hb⟩)

/-- All but what row t holds. -/
def butB (E : Env) (t : Nat) : Nat → Prop := fun b => E.F b ∨ ∃ t', t' ≠ t ∧ E.S t' b

mutual
/-- What does not lead into row t reads as 'res' says, by what lies outside of it. -/
theorem SRep.resN {toks : List Tok} (hT : ∀ t tk, toks[t]? = some tk → TokOk w E t tk) {t0 : Nat} : ∀ (x : AV) (y : Value), t0 ∉ refs x → SRep w E toks x y → Rep w (butB E t0) (Ax.res toks x) y
  | .v _, _, _, k => by simpa [SRep, Rep, Ax.res] using k
  | .agg cs, y, hn, k => by
    simp only [SRep, Rep, Ax.res] at k ⊢; obtain ⟨ys, rfl, k⟩ := k; exact ⟨ys, rfl, SRepL.resN hT cs _ (by simpa [refs] using hn) k⟩
  | .tup cs, y, hn, k => by
    simp only [SRep, Rep, Ax.res] at k ⊢; obtain ⟨ys, rfl, k⟩ := k; exact ⟨ys, rfl, SRepL.resN hT cs _ (by simpa [refs] using hn) k⟩
  | .sl nl sz es, y, _, k => by simp only [SRep, Ax.res] at k ⊢; exact k.weak (fun _ h => .inl h) (Agree.refl _ _)
  | .fp e j, y, _, k => by simp only [SRep, Ax.res] at k ⊢; exact k.weak (fun _ h => .inl h) (Agree.refl _ _)
  | .fn f cs, y, hn, k => by
    simp only [SRep, Rep, Ax.res] at k ⊢; obtain ⟨ys, rfl, k⟩ := k; exact ⟨ys, rfl, SRepL.resN hT cs _ (by simpa [refs] using hn) k⟩
  | .ref t p lo n, y, hn, k => by
    have hne : t ≠ t0 := fun e => hn (by simp [refs, e])
    simp only [SRep, Ax.res] at k ⊢
    cases ht : toks[t]? with
    | none => simp [Rep]
    | some tk =>
      simp only []
      split
      · rename_i nl sz es hg
        split
        · rename_i hle
          obtain ⟨h, g1, g2⟩ := k.2 tk nl sz es ht hg hle
          obtain ⟨h', k1, k2⟩ := (hT t tk ht).follow hg
          have : h = h' := by have := k1 w (Agree.refl _ _); rw [g1] at this; exact Option.some.inj this
          subst this
          exact (k2.rep.weak (fun b hb => hb.elim .inl fun h => .inr ⟨t, hne, h⟩) (Agree.refl _ _)).view g2 hle
        · simp [Rep]
      · simp [Rep]
  | .ptr t p i j, y, hn, k => by
    have hne : t ≠ t0 := fun e => hn (by simp [refs, e])
    simp only [SRep, Ax.res] at k ⊢
    cases ht : toks[t]? with
    | none => simp [Rep]
    | some tk =>
      simp only []
      split
      · rename_i nl sz es hg
        cases he : es[i]? with
        | none => simp [Rep]
        | some e =>
          have hlt : i < es.length := (List.getElem?_eq_some_iff.1 he).1
          obtain ⟨b, o, hl, hc, g1, rfl⟩ := k.2 tk nl sz es ht hg hlt
          obtain ⟨h', k1, k2⟩ := (hT t tk ht).follow hg
          have : h' = .slice (some ⟨b, o, none⟩) hl hc := by have := k1 w (Agree.refl _ _); rw [g1] at this; exact (Option.some.inj this).symm
          subst this
          have hr := k2.rep.weak (F' := butB E t0) (fun b hb => hb.elim .inl fun h => .inr ⟨t, hne, h⟩) (Agree.refl _ _)
          simp only [Rep] at hr ⊢
          obtain ⟨a, len, cap, hs, h1, h2, h3, h4⟩ := hr
          simp only [Value.slice.injEq] at hs
          obtain ⟨rfl, rfl, rfl⟩ := hs
          rcases h4 with h4 | ⟨b2, o2, hb, hnl, h4⟩ | ⟨_, _, rfl⟩
          · simp at h4
          rotate_left
          · simp at he
          · simp only [Option.some.injEq, Addr.mk.injEq, and_true] at hb
            obtain ⟨rfl, rfl⟩ := hb
            obtain ⟨x, q1, q2, q3, q4, q5⟩ := RepRow.get h4 i e he
            exact ⟨b, o + i * sz, x, rfl, q1, q4, q5, by rw [q2, q3]⟩
      · simp [Rep]
  | .junk, _, _, _ => by simp [Rep, Ax.res]
theorem SRepL.resN {toks : List Tok} (hT : ∀ t tk, toks[t]? = some tk → TokOk w E t tk) {t0 : Nat} : ∀ (x : List AV) (y : List Value), t0 ∉ refsL x → SRepL w E toks x y → RepL w (butB E t0) (Ax.resL toks x) y
  | [], _, _, k => by simpa [SRepL, RepL, Ax.resL] using k
  | c :: cs, y, hn, k => by
    simp only [SRepL, RepL, Ax.resL] at k ⊢
    simp only [refsL, List.mem_append, not_or] at hn
    obtain ⟨y, ys, rfl, k1, k2⟩ := k
    exact ⟨y, ys, rfl, SRep.resN hT c y hn.1 k1, SRepL.resN hT cs ys hn.2 k2⟩
end

theorem refsL_app : ∀ {l l' : List AV}, refsL (l ++ l') = refsL l ++ refsL l'
  | [], _ => rfl
  | c :: cs, l' => by simp [refsL, refsL_app (l := cs)]

theorem not_refs {l : List AV} {t0 : Nat} : ∀ {pos i : Nat} {x : AV}, t0 ∉ refsL (l.eraseIdx pos) → i ≠ pos → l[i]? = some x → t0 ∉ refs x := by
  intro pos i x h hne hx ht
  have hm : x ∈ l.eraseIdx pos := by
    rw [List.mem_eraseIdx_iff_getElem?]
    exact ⟨i, hne, hx⟩
  have : ∀ (l : List AV), x ∈ l → t0 ∈ refsL l := by
    intro l
    induction l with
    | nil => simp
    | cons c cs ih =>
      intro hx
      simp only [refsL, List.mem_append]
      rcases List.mem_cons.1 hx with rfl | hx
      · exact .inl ht
      · exact .inr (ih hx)
  exact h (this _ hm)

theorem goes_callM (hC : C.Ok P) (hs : SR U w0 st E a w) {f : Operand} {args : Array Operand} {ts : Array TypeId} (ho : o.op = .call { callee := .value f, args := args, argTypes := ts }) {g : FuncId} {caps : List AV} (hf : ev st.slots f = .fn g caps) {out : Out}
    (h : mutCall st.slots st.toks (args.toList.map (ev st.slots)) caps (C.M g (args.toList.map (fun x => res st.toks (ev st.slots x)) ++ resL st.toks caps)) = some out) : Goes P o a w U w0 out := by
  have hfv := hs.ev f
  rw [hf] at hfv
  simp only [SRep] at hfv
  obtain ⟨cv, hfv, hcaps⟩ := hfv
  cases hM : C.M g (args.toList.map (fun x => res st.toks (ev st.slots x)) ++ resL st.toks caps) with
  | none => rw [hM] at h; simp [mutCall] at h
  | some q =>
  obtain ⟨pos, r, row'⟩ := q
  rw [hM] at h
  obtain ⟨⟨fn, hfn, hn1, hn2⟩, nl1, sz1, es1, es1', ha1, rfl, hcall⟩ := hC.M _ _ _ _ _ hM
  have hrun : (execOp a.eval o).run P w = .ok (.enter g (args.map a.eval ++ cv)) w := by
    have e1 : fn.name ≠ "runtime.NumGoroutine" := by simpa using hn1
    have e2 : fn.body ≠ Option.none := by intro e; rw [e] at hn2; simp at hn2
    simp [execOp, ho, resolve, hfv, Deferred.ofValue, invoke, callFunc, hfn, e1, e2]
  have hcl : cv.size = caps.length := by
    have : ∀ (xs : List AV) (ys : List Value), SRepL w E st.toks xs ys → ys.length = xs.length := by
      intro xs
      induction xs with
      | nil => intro ys h; simp only [SRepL] at h; simp [h]
      | cons c cs ih =>
        intro ys h
        simp only [SRepL] at h
        obtain ⟨y, ys', rfl, _, h2⟩ := h
        simp [ih ys' h2]
    simpa using this _ _ hcaps
  have hcl' : (resL st.toks caps).length = caps.length := by
    have : ∀ l : List AV, (resL st.toks l).length = l.length := by
      intro l; induction l with
      | nil => rfl
      | cons c cs ih => simp [resL, ih]
    exact this caps
  have hresget : ∀ (l : List AV) (i : Nat) (x : AV), (resL st.toks l)[i]? = some x → ∃ c, l[i]? = some c ∧ x = res st.toks c := by
    intro l
    induction l with
    | nil => intro i x h; simp [resL] at h
    | cons c cs ih =>
      intro i x h
      cases i with
      | zero => simp [resL] at h; exact ⟨c, by simp, h.symm⟩
      | succ i => simp [resL] at h; simpa using ih i x h
  simp only [mutCall] at h
  split at h
  · -- a row
    rename_i t p lo n nl' sz' es' hav hrow'
    simp only [AV.sl.injEq] at hrow'
    obtain ⟨rfl, rfl, rfl⟩ := hrow'
    split at h
    · rename_i tk htk
      split at h
      · rename_i nl sz es hg
        split at h
        · rename_i hc
          obtain ⟨hdeep, rfl, rfl, hlen', rfl, rfl, hnr⟩ := hc
          simp only [Option.some.injEq] at h; subst h
          rw [refsL_app, List.mem_append, not_or] at hnr
          obtain ⟨h, S1, f1, f2, f3, f4⟩ := setPath_ok hs htk hdeep hg
          -- the argument
          have hposlt : pos < args.size := by
            have := (List.getElem?_eq_some_iff.1 hav).1
            simpa using this
          obtain ⟨ox, hox, hoxe⟩ : ∃ ox, args.toList[pos]? = some ox ∧ ev st.slots ox = .ref t p 0 es.length := by
            rw [List.getElem?_map] at hav
            cases hh : args.toList[pos]? with
            | none => rw [hh] at hav; simp at hav
            | some ox => rw [hh] at hav; exact ⟨ox, rfl, by simpa using hav⟩
          have hview := hs.ev ox
          rw [hoxe] at hview
          simp only [SRep] at hview
          obtain ⟨h2, g1, g2⟩ := hview.2 tk _ _ es htk hg (by omega)
          have : h2 = h := by rw [f1] at g1; exact (Option.some.inj g1).symm
          subst this
          have hex := Excl.of_own f3
          have hy : a.eval ox = h2 := by
            obtain ⟨a1, l, c, hhd, hl, _⟩ := hex
            rcases g2 with ⟨q1, q2⟩ | ⟨_, q2, _⟩ | ⟨b, o1, hl', hc, o', q1, q2, q3⟩
            · rw [q1, q2]
            · exact q2
            · rw [q1] at hhd ⊢
              simp only [Value.slice.injEq] at hhd
              rw [q2]
              have : o' = o1 + 0 * sz1 := q3.resolve_right (fun h => h.2.1 rfl)
              rw [this]; simp
              omega
          have harg : (args.toList.map (fun x => res st.toks (ev st.slots x)) ++ resL st.toks caps)[pos]? = some (.sl nl1 sz1 es) := by
            rw [List.getElem?_append_left (by simpa using hposlt), List.getElem?_map, hox]
            simp [hoxe, res, htk, hg, viewEs]
          rw [harg] at ha1
          simp only [Option.some.injEq, AV.sl.injEq, true_and] at ha1
          subst ha1
          intro hd0 next Q hn
          unfold Oper.wp
          rw [hrun]
          refine (hcall w (butB E t) S1 _ h2 (fun b hb => hb.elim (hs.flt b) fun ⟨t', _, h⟩ => (hs.slt t' b h).1) (fun b hb => ⟨(hs.slt t b (f2 b hb)).1, ?_⟩) (by simp [hcl, hcl']) (fun i x hi hx => ?_) ?_ ?_).mono fun e w' he => ?_
          · rintro (hF | ⟨t', ht', hS⟩)
            · exact (hs.slt t b (f2 b hb)).2.1 hF
            · exact hs.sep t' t b ht' hS (f2 b hb)
          · by_cases hia : i < args.size
            · rw [List.getElem?_append_left (by simpa using hia), List.getElem?_map] at hx
              obtain ⟨oi, hoi⟩ : ∃ oi, args.toList[i]? = some oi := ⟨args.toList[i]'(by simpa using hia), List.getElem?_eq_getElem _⟩
              rw [hoi] at hx
              simp only [Option.map_some, Option.some.injEq] at hx
              subst hx
              refine ⟨a.eval oi, ?_, SRep.resN hs.tokOk _ _ (not_refs (pos := pos) (i := i) hnr.1 hi (by rw [List.getElem?_map, hoi]; rfl)) (hs.ev oi)⟩
              rw [Array.getElem?_append_left (by simpa using hia), Array.getElem?_map]
              have : args[i]? = some oi := by simpa using hoi
              rw [this]; rfl
            · rw [List.getElem?_append_right (by simpa using hia)] at hx
              simp only [List.length_map, Array.length_toList] at hx
              obtain ⟨c, hc1, rfl⟩ := hresget caps _ x hx
              obtain ⟨y, hy1, hy2⟩ := SRepL.get hcaps _ c hc1
              refine ⟨y, ?_, SRep.resN hs.tokOk _ _ ?_ hy2⟩
              · rw [Array.getElem?_append_right (by simpa using hia)]
                simpa using hy1
              · intro ht
                have : ∀ (l : List AV) (i : Nat), l[i]? = some c → t ∈ refsL l := by
                  intro l
                  induction l with
                  | nil => intro i h; simp at h
                  | cons d ds ih =>
                    intro i h
                    simp only [refsL, List.mem_append]
                    cases i with
                    | zero => simp at h; subst h; exact .inl ht
                    | succ i => exact .inr (ih i (by simpa using h))
                exact hnr.2 (this caps _ hc1)
          · rw [Array.getElem?_append_left (by simpa using hposlt), Array.getElem?_map]
            have : args[pos]? = some ox := by simpa using hox
            rw [this, ← hy]; rfl
          · have := (Own.deepF (F' := fun _ => False) _ _ f3)
            exact Excl.of_own this
          · obtain ⟨y, S', Sr, rfl, hfr, hS', hSr, hdis, hown, hexc⟩ := he
            obtain ⟨E1, k1, k2, k3⟩ := f4 w' es1' S' hlen' hfr (Own.deepF _ _ hexc.own) hS'
            obtain ⟨E', h1, _, _, _, h5, h6⟩ := intern_ok (slots := st.slots.map (killN t)) r y Sr (st.toks.set t ⟨true, setAt tk.row p (.sl nl1 sz1 es1')⟩) E1 k3 hown (fun b hb => ⟨Nat.le_trans hs.frame.size (hSr b hb).1, (hSr b hb).2, fun hA => by
              rcases k2 b hA with hA | hA
              · have := hs.allLt b hA; have := (hSr b hb).1; omega
              · exact hdis b hA hb⟩)
            exact hn E' _ _ (SR.put h5 o.dst hd0 h6)
        · simp at h
      · simp at h
    · simp at h
  · -- nil
    rename_i sz sz' hav hrow'
    simp only [AV.sl.injEq] at hrow'
    obtain ⟨rfl, rfl, rfl⟩ := hrow'
    split at h
    · rename_i hsz
      subst hsz
      simp only [Option.some.injEq] at h; subst h
      have hposlt : pos < args.size := by
        have := (List.getElem?_eq_some_iff.1 hav).1
        simpa using this
      obtain ⟨ox, hox, hoxe⟩ : ∃ ox, args.toList[pos]? = some ox ∧ ev st.slots ox = .sl true sz1 [] := by
        rw [List.getElem?_map] at hav
        cases hh : args.toList[pos]? with
        | none => rw [hh] at hav; simp at hav
        | some ox => rw [hh] at hav; exact ⟨ox, rfl, by simpa using hav⟩
      have hvx := hs.ev ox
      rw [hoxe] at hvx
      simp only [SRep, Rep] at hvx
      have hvn : a.eval ox = .slice none 0 0 := by
        obtain ⟨a1, l, c, hv, _, _, _, h4⟩ := hvx
        rcases h4 with ⟨rfl, _, rfl, rfl⟩ | ⟨_, _, _, h, _⟩ | ⟨_, h, _⟩
        · exact hv
        · simp at h
        · simp at h
      have harg : (args.toList.map (fun x => res st.toks (ev st.slots x)) ++ resL st.toks caps)[pos]? = some (.sl true sz1 []) := by
        rw [List.getElem?_append_left (by simpa using hposlt), List.getElem?_map, hox]
        simp [hoxe, res]
      rw [harg] at ha1
      simp only [Option.some.injEq, AV.sl.injEq, true_and] at ha1
      subst ha1
      intro hd0 next Q hn
      unfold Oper.wp
      rw [hrun]
      refine (hcall w (allB E) (fun _ => False) _ (.slice none 0 0) hs.allLt (fun b hb => hb.elim) (by simp [hcl, hcl']) (fun i x hi hx => ?_) ?_ ⟨none, 0, 0, rfl, rfl, Nat.le_refl _, Nat.zero_le _, .inl ⟨rfl, rfl, rfl, rfl⟩⟩).mono fun e w' he => ?_
      · have hrep : RepL w (allB E) (args.toList.map (fun x => res st.toks (ev st.slots x)) ++ resL st.toks caps) (args.map a.eval ++ cv).toList := by
          rw [Array.toList_append, Array.toList_map]
          exact RepL_app (RepL_args hs _) (SRepL.res hs.tokOk _ _ hcaps)
        obtain ⟨y, hy1, hy2⟩ := RepL.get hrep i x hx
        exact ⟨y, by rw [← Array.getElem?_toList]; exact hy1, hy2⟩
      · rw [Array.getElem?_append_left (by simpa using hposlt), Array.getElem?_map]
        have : args[pos]? = some ox := by simpa using hox
        rw [this, ← hvn]; rfl
      · obtain ⟨y, S', Sr, rfl, hfr, hS', hSr, hdis, hown, hexc⟩ := he
        have hg := hs.grow hfr
        obtain ⟨E', h1, _, _, _, h5, h6⟩ := intern_ok (slots := st.slots) r y Sr st.toks E hg hown (fun b hb => ⟨Nat.le_trans hs.frame.size (hSr b hb).1, (hSr b hb).2, fun hA => by have := hs.allLt b hA; have := (hSr b hb).1; omega⟩)
        exact hn E' _ _ (SR.put h5 o.dst hd0 h6)
    · simp at h
  · simp at h

theorem goes_call (hC : C.Ok P) (hs : SR U w0 st E a w) {f : Operand} {args : Array Operand} {ts : Array TypeId} (ho : o.op = .call { callee := .value f, args := args, argTypes := ts }) {out : Out}
    (h : aop C (.call { callee := .value f, args := args, argTypes := ts }) st.slots st.toks = some out) : Goes P o a w U w0 out := by
  simp only [aop] at h
  split at h
  · rename_i g caps hf
    split at h
    · rename_i r hr
      simp only [Option.some.injEq] at h; subst h
      exact goes_callG hC hs ho hf hr
    · exact goes_callM hC hs ho hf h
  · simp at h

theorem frz_scal {x : AV} (h : scal x = true) : frz x = true := by
  cases x with
  | v _ => rfl
  | agg cs =>
    simp only [scal, frz, List.all_eq_true] at h ⊢
    intro c hc
    have := h c hc
    cases c <;> simp_all
  | _ => simp [scal] at h

/-- A store of what has no memory in it, into a row at the end of a path. -/
theorem goes_storeP (hC : C.Ok P) (hs : SR U w0 st E a w) {t : TypeId} {ad x : Operand} (ho : o.op = .store t ad x) (ti : TI) (tk : Tok) (nl : Bool) (sz : Nat) (es : List AV) (e : AV) (k : Nat) (p : List (Nat × Nat)) (i j : Nat)
    (hti : C.T t = some ti) (hpt : ev st.slots ad = .ptr k p i j) (htk : st.toks[k]? = some tk) (hg : getAt tk.row p = .sl nl sz es) (he : es[i]? = some e)
    (hcond : tk.deep = true ∧ scal (ev st.slots x) = true ∧ (ev st.slots x).cells.length = ti.size ∧ j + ti.size ≤ sz ∧ 0 < ti.size) :
    Goes P o a w U w0 ⟨.junk, st.slots.map (killN k), st.toks.set k ⟨true, setAt tk.row p (.sl nl sz (es.set i (putCells e j (ev st.slots x).cells)))⟩⟩ := by
  have ht := hC.T t ti hti
  obtain ⟨hdeep, hsc, hcl, hjm, hpos⟩ := hcond
  have hlt : i < es.length := (List.getElem?_eq_some_iff.1 he).1
  obtain ⟨h, S1, f1, f2, f3, f4⟩ := setPath_ok hs htk hdeep hg
  have hpv := hs.ev ad
  rw [hpt] at hpv
  simp only [SRep] at hpv
  obtain ⟨b, o', hl, hc, q1, hy⟩ := hpv.2 tk nl sz es htk hg hlt
  have hh : h = .slice (some ⟨b, o', none⟩) hl hc := by rw [f1] at q1; exact Option.some.inj q1
  subst hh
  -- the cells of the value
  have hvr : RepL w (allB E) (ev st.slots x).cells (a.eval x).cells.toList ∧ (∀ y ∈ (a.eval x).cells.toList, y.oneCell' = true) ∧ OwnL w true E.F (fun _ => False) (ev st.slots x).cells (a.eval x).cells.toList := by
    have hx := hs.ev x
    cases hv : ev st.slots x with
    | v z =>
      rw [hv] at hx
      simp only [SRep] at hx
      obtain ⟨hz, hz1⟩ := hx
      rw [hz]
      have : z.cells = #[z] := by cases z <;> first | rfl | simp [Value.oneCell'] at hz1
      rw [this]
      refine ⟨?_, by simpa using hz1, ?_⟩
      · simp only [AV.cells, RepL, Rep]; exact ⟨z, [], rfl, ⟨rfl, hz1⟩, rfl⟩
      · simp only [AV.cells, OwnL, Own]; exact ⟨z, [], fun _ => False, fun _ => False, rfl, fun _ h => h, fun _ h => h, fun _ h => h.elim, ⟨rfl, hz1⟩, rfl⟩
    | agg cs =>
      rw [hv] at hx hsc
      simp only [SRep] at hx
      obtain ⟨ys, hz, hx⟩ := hx
      rw [hz]
      simp only [scal, List.all_eq_true] at hsc
      have hr : RepL w (allB E) cs ys.toList := by
        have : ∀ (cs : List AV) (ys : List Value), (∀ c ∈ cs, ∃ x, c = .v x) → SRepL w E st.toks cs ys → RepL w (allB E) cs ys := by
          intro cs
          induction cs with
          | nil => intro ys _ h; simpa [SRepL, RepL] using h
          | cons c cs ih =>
            intro ys hcs h
            simp only [SRepL] at h
            obtain ⟨y, ys', rfl, h1, h2⟩ := h
            obtain ⟨z, rfl⟩ := hcs c (by simp)
            simp only [RepL, Rep]
            simp only [SRep] at h1
            exact ⟨y, ys', rfl, h1, ih ys' (fun c hc => hcs c (by simp [hc])) h2⟩
        refine this cs _ (fun c hc => ?_) hx
        have := hsc c hc
        cases c <;> simp_all
      have hv1 : ∀ c ∈ cs, ∃ x, c = .v x := fun c hc => by
        have := hsc c hc
        cases c <;> simp_all
      obtain ⟨v1, v2⟩ := OwnL.v_one (d := true) (S := fun _ => False) hr hv1
      exact ⟨hr, v1, OwnL.deepF _ _ v2⟩
    | _ => rw [hv] at hsc; simp [scal] at hsc
  obtain ⟨hvr1, hone, hvo⟩ := hvr
  have hvl : (a.eval x).cells.toList.length = ti.size := by rw [hvr1.length, hcl]
  have hyn : (a.eval x).cells.size = ti.size := by simpa using hvl
  obtain ⟨a1, len, cap, hsl, h1, h2, h3, h4⟩ := Excl.of_own f3
  simp only [Value.slice.injEq] at hsl
  obtain ⟨rfl, rfl, rfl⟩ := hsl
  rcases h4 with h4 | ⟨b2, o2, cur, T, hbo, hnl, hSb, hheap, hfit, hown⟩
  · simp at h4
  simp only [Option.some.injEq, Addr.mk.injEq, and_true] at hbo
  obtain ⟨rfl, rfl⟩ := hbo
  have hFb : ¬ E.F b := (hs.slt k b (f2 b hSb)).2.1
  have hmul : (i + 1) * sz ≤ hc * sz := Nat.mul_le_mul_right _ (by omega)
  rw [Nat.add_mul] at hmul
  have hfit' : o' + i * sz + j + (a.eval x).cells.toList.length ≤ cur.size := by rw [hvl]; omega
  let w' := w.setRow b (cur.toList.take (o' + i * sz + j) ++ (a.eval x).cells.toList ++ cur.toList.drop (o' + i * sz + j + (a.eval x).cells.toList.length)).toArray
  have hrun : (execOp a.eval o).run P w = .ok .skip w' := by
    have hst := run_storeCells_at (P := P) b (o' + i * sz + j) T (a.eval x).cells.toList 0 cur w hheap (by simpa using hfit') hone
    simp only [Nat.add_zero] at hst
    simp only [execOp, ho, hy, Instr.storeAt, Instr.sureAddr, storeVar, pure_bind, Sem.run_bind, run_size ht, Result.andThen_ok, hyn]
    simp [hst, w']
  have hag : ∀ y, y ≠ b → w'.heap[y]? = w.heap[y]? := fun y hy => setRow_other w b y _ hy
  have hcell : ∀ off, ¬ (o' + i * sz + j ≤ off ∧ off < o' + i * sz + j + ti.size) → w'.cell? ⟨b, off, none⟩ = w.cell? ⟨b, off, none⟩ := fun off hoff => by
    have := cell_setRow (off := off) hheap hfit'
    rw [hvl] at this
    rw [if_neg hoff] at this
    simpa [w', hvl] using this
  have hcs : OwnL w' true E.F (fun _ => False) (ev st.slots x).cells (a.eval x).cells.toList := OwnL.agree (fun _ h => h) (fun y hy => hag y fun e => hFb (e ▸ hy)) (fun _ h => h) (fun y hy => hy.elim) _ _ hvo
  have hrow' : OwnRow w' true E.F (fun y => (S1 y ∧ y ≠ b) ∨ False) b sz o' (es.set i (putCells e j (ev st.slots x).cells)) := by
    refine OwnRow.upd (w := w) (d := true) (Sx := fun _ => False) id hag hFb (fun y hy => hy.2) (fun y hy => hy.elim) o' es i hown he (fun off hoff => hcell off (by omega)) fun S2 z hS1 hz hzs hes hat => ?_
    obtain ⟨x', g1, g2, g3⟩ := put_own (w' := w') (Sx := fun _ => False) (j := j) id hz (by rw [hzs, hes]) (fun y hy => hag y (by rcases hy with hy | hy; exact fun e => hFb (e ▸ hy); exact (hS1 y hy).2)) hcs hone (fun y h => h.elim) (by rw [hcl, hes]; exact hjm) (by rw [hcl]; exact hpos)
    refine ⟨x', g1, ?_, by rw [g3, hes], fun q y hq => ?_⟩
    · rw [← Array.length_toList, g2]; simp [hzs, hvl]; omega
    · rw [g2] at hq
      have hcq := cell_setRow (off := o' + i * sz + q) hheap hfit'
      rw [show w'.cell? ⟨b, o' + i * sz + q, none⟩ = _ from hcq]
      have hzl : z.cells.toList.length = sz := by simpa using hzs
      rw [hvl] at hq ⊢
      by_cases h1 : q < j
      · rw [if_neg (by omega)]
        rw [List.append_assoc, List.getElem?_append_left (by rw [List.length_take]; omega), List.getElem?_take, if_pos h1] at hq
        exact hat q y hq
      · by_cases h2 : q < j + ti.size
        · rw [if_pos ⟨by omega, by omega⟩]
          rw [List.getElem?_append_left (by rw [List.length_append, List.length_take, hvl]; omega), List.getElem?_append_right (by rw [List.length_take]; omega), List.length_take] at hq
          rw [← hq]; congr 1; omega
        · rw [if_neg (by omega)]
          rw [List.getElem?_append_right (by rw [List.length_append, List.length_take, hvl]; omega), List.length_append, List.length_take, hvl, List.getElem?_drop] at hq
          rw [show j + ti.size + (q - (min j z.cells.toList.length + ti.size)) = q by omega] at hq
          exact hat q y hq
  have hsz' : w'.heap.size = w.heap.size := by simp [w', World.setRow]
  have hown' : Own w' true E.F S1 (.sl nl sz (es.set i (putCells e j (ev st.slots x).cells))) (.slice (some ⟨b, o', none⟩) hl hc) := by
    refine Excl.own (S := S1) ?_
    refine ⟨_, hl, hc, rfl, by rw [h1]; simp, h2, h3, .inr ⟨b, o', _, T, rfl, hnl, hSb, setRow_heap w b cur _ T (0, 0) hheap, ?_, hrow'.agree' (fun y hy => hy.elim (fun h => h) fun h => h.elim)⟩⟩
    have : (cur.toList.take (o' + i * sz + j) ++ (a.eval x).cells.toList ++ cur.toList.drop (o' + i * sz + j + (a.eval x).cells.toList.length)).toArray.size = cur.size := by
      simp; simp at hfit'; omega
    rw [this]; exact hfit
  intro hd0 next Q hn
  have hfr : Frm S1 w w' := ⟨rfl, rfl, rfl, by rw [hsz']; exact Nat.le_refl _, fun y _ hy => hag y fun e => hy (e ▸ hSb)⟩
  obtain ⟨E', e1, _, e4⟩ := f4 w' _ S1 (by simp) hfr hown' (fun b hb => .inl hb)
  unfold Oper.wp
  rw [hrun]
  have := hn E' (a.put o.dst undef) w' (SR.put e4 o.dst hd0 (x := .junk) (y := undef) (by simp [SRep]))
  exact this

end
end Go.Proofs.Ytehfjhenilkofaa.Ax
