/-
  'append' and slices that are written out, as the abstract run has them. No condition.
-/
import Derived.Test.YtehfjhenilkofaaAxGrow
namespace Go.Proofs.Ytehfjhenilkofaa.Ax
open Go Go.RowKit
section
variable {P : Program} {C : Ctx} {o : Oper} {a : Act} {w : World} {U : Ld} {w0 : World} {st : ASt} {E : Env}

theorem RepRow.own {w : World} {F : Nat → Prop} {b sz : Nat} : ∀ {S : Nat → Prop} {o : Nat} {es : List AV}, RepRow w F b sz o es → OwnRow w false F S b sz o es
  | _, _, [], _ => by simp [OwnRow]
  | S, o, e :: es, h => by
    simp only [RepRow] at h
    obtain ⟨⟨x, h1, h2, h3, h4, h5⟩, h6⟩ := h
    simp only [OwnRow]
    exact ⟨x, fun _ => False, fun _ => False, fun _ h => h.elim, fun _ h => h.elim, fun _ h => h.elim, Rep.own _ _ h1, h2, h3, h5, RepRow.own h6⟩

theorem OwnRow.dd {w : World} {d d' : Bool} {F : Nat → Prop} {b sz : Nat} (hd : d' = true → d = true) : ∀ {S : Nat → Prop} {o : Nat} {es : List AV}, OwnRow w d F S b sz o es → OwnRow w d' F S b sz o es
  | _, _, [], _ => by simp [OwnRow]
  | S, o, e :: es, h => by
    simp only [OwnRow] at h ⊢
    obtain ⟨x, T1, T2, a1, a2, a3, k1, k2, k3, k4, k5⟩ := h
    exact ⟨x, T1, T2, a1, a2, a3, k1.dd hd, k2, k3, k4, OwnRow.dd hd k5⟩

theorem flat_scal {e : AV} (h : scal e = true) : flat e.cells = true := by
  cases e with
  | v x => rfl
  | agg cs =>
    simp only [AV.cells]
    induction cs with
    | nil => rfl
    | cons c cs ih =>
      simp only [scal, List.all_cons, Bool.and_eq_true] at h
      have hc := h.1
      split at hc
      · simp only [flat]; exact ih (by simp only [scal]; exact h.2)
      · simp at hc
  | _ => simp [scal] at h

theorem appX_ok (hs : SR U w0 st E a w) {x : Operand} {sz : Nat} {es : List AV} {ux : List Nat} {dx nl : Bool} (h : appX sz st.toks (ev st.slots x) = some (es, ux, dx, nl)) :
    ∃ ad cap, a.eval x = .slice ad es.length cap ∧ es.length ≤ cap ∧ cap ≤ maxLen ∧
      ((ad = none ∧ nl = true ∧ es = [] ∧ cap = 0) ∨ ∃ b o' cur T t, ux = [t] ∧ ad = some ⟨b, o', none⟩ ∧ nl = false ∧ E.S t b ∧ w.heap[b]? = some (.cells cur T (0, 0)) ∧ o' + cap * sz ≤ cur.size ∧ OwnRow w dx E.F (fun y => E.S t y ∧ y ≠ b) b sz o' es) := by
  have hx := hs.ev x
  revert h hx
  cases ev st.slots x with
  | sl nl' sz' es' =>
    intro h hx
    simp only [appX] at h
    split at h
    · simp only [Option.some.injEq, Prod.mk.injEq] at h
      obtain ⟨rfl, rfl, rfl, rfl⟩ := h
      simp only [SRep, Rep] at hx
      obtain ⟨ad, l, cap, hv, h1, h2, h3, h4⟩ := hx
      have hl : l = 0 := by simpa using h1
      subst hl
      rcases h4 with ⟨rfl, _, _, rfl⟩ | ⟨_, _, _, h, _⟩ | ⟨_, h, _⟩
      · exact ⟨none, 0, hv, by simp, h3, .inl ⟨rfl, rfl, rfl, rfl⟩⟩
      · simp at h
      · simp at h
    · simp at h
  | ref t p lo n =>
    intro h hx
    simp only [appX] at h
    split at h
    · rename_i tk htk
      split at h
      · rename_i nl' sz' es' hrow
        split at h
        · rename_i hc
          obtain ⟨rfl, rfl⟩ := hc
          simp only [Option.some.injEq, Prod.mk.injEq] at h
          obtain ⟨rfl, rfl, rfl, rfl⟩ := h
          simp only [SRep] at hx
          obtain ⟨hv, g1, g2⟩ := hx.2 tk nl' sz' es' htk (by simp [getAt, hrow]) (by omega)
          simp only [follow, Option.some.injEq] at g1
          rcases hs.tok t tk htk with hj | ⟨nl2, sz2, es2, e1, e2⟩
          · rw [hrow] at hj; simp at hj
          · rw [hrow] at e1; simp only [AV.sl.injEq] at e1; obtain ⟨rfl, rfl, rfl⟩ := e1
            obtain ⟨ad, l, cap, hhd, h1, h2, h3, h4⟩ := e2
            rw [g1] at hhd
            have hval : a.eval x = .slice ad es'.length cap := by
              rcases g2 with ⟨q1, q2⟩ | ⟨_, q2, _⟩ | ⟨b, o1, hl', hc, o2, q1, q2, q3⟩
              · rw [q2, ← q1, hhd, h1]
              · rw [q2, hhd, h1]
              · rw [q1] at hhd
                simp only [Value.slice.injEq] at hhd
                obtain ⟨rfl, rfl, rfl⟩ := hhd
                have : o2 = o1 + 0 * sz' := q3.resolve_right (fun h => h.2.1 rfl)
                rw [q2, this]; simp
            refine ⟨ad, cap, hval, by omega, h3, ?_⟩
            rcases h4 with ⟨rfl, rfl, hl0, rfl⟩ | ⟨b, o1, cur, T, rfl, rfl, hS, hh, hfit, hrow'⟩
            · exact .inl ⟨rfl, rfl, List.length_eq_zero_iff.1 (by omega), rfl⟩
            · exact .inr ⟨b, o1, cur, T, t, rfl, rfl, rfl, hS, hh, hfit, hrow'⟩
        · simp at h
      · simp at h
    · simp at h
  | _ => intro h _; simp [appX] at h

theorem appY_ok (hs : SR U w0 st E a w) {y : Operand} {sz : Nat} {ys : List AV} {uy : List Nat} {dy : Bool} (h : appY sz st.toks (ev st.slots y) = some (ys, uy, dy)) :
    (ys.all fun e => flat e.cells) = true ∧ ∃ ad c2, a.eval y = .slice ad ys.length c2 ∧ (ys = [] ∨ ∃ b2 o2, ad = some ⟨b2, o2, none⟩ ∧ OwnRow w dy E.F (SU E uy) b2 sz o2 ys) := by
  have hy := hs.ev y
  revert h hy
  cases ev st.slots y with
  | sl nl' sz' es' =>
    intro h hy
    simp only [appY] at h
    split at h
    · rename_i hc
      obtain ⟨rfl, hfl⟩ := hc
      simp only [Option.some.injEq, Prod.mk.injEq] at h
      obtain ⟨rfl, rfl, rfl⟩ := h
      refine ⟨hfl, ?_⟩
      simp only [SRep, Rep] at hy
      obtain ⟨ad, l, cap, hv, h1, h2, h3, h4⟩ := hy
      refine ⟨ad, cap, by rw [hv, h1], ?_⟩
      rcases h4 with ⟨rfl, _, h, _⟩ | ⟨b, o1, rfl, _, h4⟩ | ⟨_, _, h⟩
      · exact .inl (List.length_eq_zero_iff.1 (by omega))
      · right
        refine ⟨b, o1, rfl, ?_⟩
        cases hsc : es'.all scal with
        | true => exact OwnRow.scal_of (fun i e he => by
            obtain ⟨x, k1, k2, k3, k4, k5⟩ := RepRow.get h4 i e he
            exact ⟨x, E.F, k1, k2, k3, k5⟩) hsc
        | false => exact RepRow.own h4
      · exact .inl h
    · simp at h
  | ref t p lo n =>
    intro h hy
    simp only [appY] at h
    split at h
    · rename_i tk htk
      split at h
      · rename_i nl' sz' es' hg
        split at h
        · rename_i hc
          obtain ⟨rfl, hle⟩ := hc
          simp only [SRep] at hy
          obtain ⟨hv, g1, g2⟩ := hy.2 tk nl' sz' es' htk hg hle
          obtain ⟨hv', k1, k2⟩ := (hs.tokOk t tk htk).follow hg
          have : hv = hv' := by have := k1 w (Agree.refl _ _); rw [g1] at this; exact Option.some.inj this
          subst this
          have hr := k2.rep
          have hvlen : ∃ ad0 cap0, hv = .slice ad0 es'.length cap0 := by
            simp only [Rep] at hr; obtain ⟨x, l, c, hh, h1, _⟩ := hr; exact ⟨x, c, by rw [hh, h1]⟩
          obtain ⟨ad0, cap0, hhv⟩ := hvlen
          have hview := hr.view g2 hle
          have hvl : (viewEs es' lo n).length = n := by simp [viewEs]; omega
          split at h
          · rename_i hsc
            simp only [Option.some.injEq, Prod.mk.injEq] at h
            obtain ⟨rfl, rfl, rfl⟩ := h
            refine ⟨by rw [List.all_eq_true] at hsc ⊢; exact fun e he => flat_scal (hsc e he), ?_⟩
            simp only [Rep] at hview
            obtain ⟨ad, l, cap, hval, h1, h2, h3, h4⟩ := hview
            refine ⟨ad, cap, by rw [hval, h1], ?_⟩
            rcases h4 with ⟨rfl, _, h, _⟩ | ⟨b, o1, rfl, _, h4⟩ | ⟨_, _, h⟩
            · exact .inl (List.length_eq_zero_iff.1 (by omega))
            · right
              refine ⟨b, o1, rfl, OwnRow.scal_of (fun i e he => ?_) hsc⟩
              obtain ⟨x, k1, k2, k3, k4, k5⟩ := RepRow.get h4 i e he
              exact ⟨x, _, k1, k2, k3, k5⟩
            · exact .inl h
          · split at h
            · rename_i hc
              obtain ⟨rfl, rfl, rfl, hfl⟩ := hc
              simp only [Option.some.injEq, Prod.mk.injEq] at h
              obtain ⟨rfl, rfl, rfl⟩ := h
              refine ⟨hfl, ?_⟩
              simp only [getAt] at hg
              simp only [follow, Option.some.injEq] at g1
              rcases hs.tok t tk htk with hj | ⟨nl2, sz2, es2, e1, e2⟩
              · rw [hg] at hj; simp at hj
              · rw [hg] at e1; simp only [AV.sl.injEq] at e1; obtain ⟨rfl, rfl, rfl⟩ := e1
                obtain ⟨ad, l, cap, hhd, h1, h2, h3, h4⟩ := e2
                rw [g1] at hhd
                have hval : a.eval y = .slice ad es'.length cap := by
                  rcases g2 with ⟨q1, q2⟩ | ⟨_, q2, _⟩ | ⟨b, o1, hl', hc, o2, q1, q2, q3⟩
                  · rw [q2, ← q1, hhd, h1]
                  · rw [q2, hhd, h1]
                  · rw [q1] at hhd
                    simp only [Value.slice.injEq] at hhd
                    obtain ⟨rfl, rfl, rfl⟩ := hhd
                    have : o2 = o1 + 0 * sz' := q3.resolve_right (fun h => h.2.1 rfl)
                    rw [q2, this]; simp
                refine ⟨ad, cap, hval, ?_⟩
                rcases h4 with ⟨rfl, rfl, hl0, rfl⟩ | ⟨b, o1, cur, T, rfl, rfl, hS, hh, hfit, hrow'⟩
                · exact .inl (List.length_eq_zero_iff.1 (by omega))
                · exact .inr ⟨b, o1, rfl, hrow'.agree' fun y hy => ⟨t, by simp, hy.1⟩⟩
            · simp at h
        · simp at h
      · simp at h
    · simp at h
  | _ => intro h _; simp [appY] at h

theorem goes_append (hC : C.Ok P) (hs : SR U w0 st E a w) {args : Array Operand} {ts : Array TypeId} (ho : o.op = .call { callee := .builtin .append, args := args, argTypes := ts }) {out : Out}
    (h : aop C (.call { callee := .builtin .append, args := args, argTypes := ts }) st.slots st.toks = some out) : Goes P o a w U w0 out := by
  simp only [aop] at h
  split at h
  rotate_left
  · simp at h
  rename_i x y t t' hargs hts
  split at h
  rotate_left
  · simp at h
  rename_i htt
  subst htt
  split at h
  rotate_left
  · simp at h
  rename_i ti hti
  split at h
  rotate_left
  · simp at h
  rename_i el hd
  split at h
  rotate_left
  · simp at h
  rename_i te hte
  split at h
  rotate_left
  · simp at h
  rename_i es ux dx nl ys uy dy hX hY
  split at h
  rotate_left
  · simp at h
  rename_i hcond
  obtain ⟨hnd, hpos, hn63, hbytes⟩ := hcond
  simp only [Option.some.injEq] at h
  subst h
  have ha : args = #[x, y] := by cases args; simp_all
  have hts' : ts = #[t, t] := by cases ts; simp_all
  subst ha
  subst hts'
  have hu := (hC.T t ti hti).desc
  rw [hd] at hu
  have hte' := hC.T _ te hte
  obtain ⟨ad, cap, hvx, hlc, hcm, hXc⟩ := appX_ok hs hX
  obtain ⟨hfl, ad2, c2, hvy, hYc⟩ := appY_ok hs hY
  -- the cells
  obtain ⟨xs, hxl, hxc⟩ : ∃ xs : List Value, xs.length = es.length * te.size ∧ ((ad = none ∧ es.length = 0 ∧ cap = 0 ∧ xs = []) ∨ ∃ b o cur T, ad = some ⟨b, o, none⟩ ∧ w.heap[b]? = some (.cells cur T (0, 0)) ∧ o + cap * te.size ≤ cur.size ∧ es.length ≤ cap ∧ xs.length = es.length * te.size ∧ ∀ j v, xs[j]? = some v → w.cell? ⟨b, o + j, none⟩ = some v) := by
    rcases hXc with ⟨h1, _, rfl, h2⟩ | ⟨b, o', cur, T, t1, _, rfl, _, _, hh, hfit, hrow⟩
    · exact ⟨[], by simp, .inl ⟨h1, rfl, h2, rfl⟩⟩
    · obtain ⟨l, g1, g2⟩ := hrow.list0
      exact ⟨l, g1, .inr ⟨b, o', cur, T, rfl, hh, hfit, hlc, g1, g2⟩⟩
  obtain ⟨news, hnl, hone, hyc⟩ : ∃ news : List Value, news.length = ys.length * te.size ∧ (∀ v ∈ news, v.oneCell' = true) ∧ (ys.length = 0 ∨ ∃ b2 o2, ad2 = some ⟨b2, o2, none⟩ ∧ ∀ j v, news[j]? = some v → w.cell? ⟨b2, o2 + j, none⟩ = some v) := by
    rcases hYc with rfl | ⟨b2, o2, rfl, hrow⟩
    · exact ⟨[], by simp, by simp, .inl rfl⟩
    · obtain ⟨l, g1, g2, g3⟩ := hrow.list hfl
      exact ⟨l, g1, g3, .inr ⟨b2, o2, rfl, g2⟩⟩
  obtain ⟨ad', cap', w', hrun, hcm', hres⟩ := run_grow (P := P) (w := w) (ty := o.type) hu hte' hpos (c2 := c2) hcm hxc hnl hone hyc (by simp only [maxLen]; omega) hbytes
  obtain ⟨E1, f1, f2, f3, hs1⟩ := SR.drops (ux ++ uy) (slots := st.slots) (toks := st.toks) hs
  have htl : (drops st.slots st.toks (ux ++ uy)).2.length = st.toks.length := drops_tlen _
  generalize drops st.slots st.toks (ux ++ uy) = st1 at hs1 htl ⊢
  have hU : ∀ b, SU E (ux ++ uy) b → (w0.heap.size ≤ b ∨ U b) ∧ b < w.heap.size ∧ ¬ allB E1 b := by
    rintro b ⟨t', ht', hb⟩
    refine ⟨(hs.slt t' b hb).2.2, (hs.slt t' b hb).1, ?_⟩
    rintro (hF | ⟨t2, h2⟩)
    · rw [f1] at hF; exact (hs.slt t' b hb).2.1 hF
    · rw [f3] at h2
      exact hs.sep t' t2 b (fun e => h2.1 (e ▸ ht')) hb h2.2
  have hFlt : ∀ b, E.F b → b < w.heap.size := hs.flt
  intro hd0
  have hfinal : ∀ (E' : Env), SR U w0 ⟨st1.1, st1.2 ++ [⟨dx && dy, .sl (nl && ys.isEmpty) te.size (es ++ ys)⟩]⟩ E' a w' → E'.hd st1.2.length = .slice ad' (es.length + ys.length) cap' → (ad' = none → es.length + ys.length = 0 ∧ cap' = 0) → (∀ z, ad' = some z → ∃ b o1, z = ⟨b, o1, none⟩) →
      ∀ (next : Act → World → Prop) (Q : Exit → Act → World → Prop), (∀ E' a' w', SR U w0 ⟨putD st1.1 o.dst (.ref st.toks.length [] 0 (es.length + ys.length)), st1.2 ++ [⟨dx && dy, .sl (nl && ys.isEmpty) te.size (es ++ ys)⟩]⟩ E' a' w' → next a' w') → o.wp P a w next Q := by
    intro E' hsr hhd hnone hsome next Q hn
    have hsrep : SRep w' E' (st1.2 ++ [⟨dx && dy, .sl (nl && ys.isEmpty) te.size (es ++ ys)⟩]) (.ref st.toks.length [] 0 (es.length + ys.length)) (.slice ad' (es.length + ys.length) cap') := by
      simp only [SRep]
      refine ⟨by simp [htl], fun tk nl' sz' es' k1 k2 k3 => ?_⟩
      rw [← htl] at k1
      simp at k1; subst k1
      simp only [getAt, AV.sl.injEq] at k2
      obtain ⟨rfl, rfl, rfl⟩ := k2
      refine ⟨_, by simp only [follow]; rw [← htl, hhd], ?_⟩
      cases ad' with
      | none => obtain ⟨h1, h2⟩ := hnone rfl; exact .inl ⟨by rw [h1, h2], by rw [h1, h2]⟩
      | some z => obtain ⟨b, o1, rfl⟩ := hsome z rfl; exact .inr (.inr ⟨b, o1, _, cap', o1, rfl, by simp, .inl (by omega)⟩)
    refine wp_val (y := .slice ad' (es.length + ys.length) cap') (w' := w') ?_ (hn E' _ _ (SR.put hsr o.dst hd0 hsrep))
    simp only [execOp, ho, resolve, invoke, builtin, Sem.run_bind, Sem.run_pure, Result.andThen_ok, List.map_toArray, List.map_cons, List.map_nil, hvx, hvy, hrun]
  intro next Q hn
  rcases hres with ⟨rfl, hadn, hm0, rfl, rfl⟩ | ⟨b', o', cur', T', rfl, hh', hfit', hle', hadm, hcells, hwhere⟩
  · have hys : ys = [] := List.length_eq_zero_iff.1 hm0
    have hes : es = [] ∧ nl = true := by
      rcases hXc with ⟨_, h1, h2, _⟩ | ⟨b, o', cur, T, t1, _, h1, _⟩
      · exact ⟨h2, h1⟩
      · rw [hadn] at h1; simp at h1
    obtain ⟨rfl, rfl⟩ := hes
    subst hys
    obtain ⟨E', e1, e2, e3, _, e5⟩ := hs1.newTok ⟨dx && dy, .sl (true && ([] : List AV).isEmpty) te.size ([] ++ [])⟩ (.slice none 0 0) (fun _ => False) (fun _ h => h.elim) (.inr ⟨_, _, _, rfl, ⟨none, 0, 0, rfl, rfl, Nat.le_refl _, Nat.zero_le _, .inl ⟨rfl, rfl, rfl, rfl⟩⟩⟩)
    exact hfinal E' e5 (by rw [e2]; rfl) (fun _ => ⟨rfl, rfl⟩) (fun z h => by simp at h) next Q hn
  · -- the row, in w'
    have hb'F : ¬ E.F b' := by
      rcases hwhere with ⟨rfl, _⟩ | ⟨⟨o1, h1⟩, _⟩
      · intro h; exact Nat.lt_irrefl _ (hFlt _ h)
      · rcases hXc with ⟨h2, _⟩ | ⟨b, o2, cur, T, t1, _, h2, _, hS, _⟩
        · rw [h1] at h2; simp at h2
        · rw [h1] at h2; simp at h2; rw [h2.1]; exact (hs.slt t1 b hS).2.1
    have hsame : ∀ b, b < w.heap.size → b ≠ b' → w'.heap[b]? = w.heap[b]? := fun b hb hne => by
      rcases hwhere with ⟨_, hf, _⟩ | ⟨_, hf, _⟩
      · exact hf.block b hb id
      · exact hf.block b hb hne
    have hsr2 : SR U w0 ⟨st1.1, st1.2⟩ E1 a w' := by
      rcases hwhere with ⟨_, hf, _⟩ | ⟨⟨o1, h1⟩, hf, _⟩
      · exact hs1.grow hf
      · rcases hXc with ⟨h2, _⟩ | ⟨b, o2, cur, T, t1, hu1, h2, _, hS, _⟩
        · rw [h1] at h2; simp at h2
        · rw [h1] at h2; simp at h2
          have := hU b ⟨t1, by simp [hu1], hS⟩
          rw [← h2.1] at this
          exact hs1.other hf this.2.2 this.1
    have hw'sz : w.heap.size ≤ w'.heap.size := by rcases hwhere with ⟨_, hf, _⟩ | ⟨_, hf, _⟩ <;> exact hf.size
    have hb'lt : b' < w'.heap.size := (Array.getElem?_eq_some_iff.1 hh').1
    have hSX : ∃ SX : Nat → Prop, (∀ b, SX b → SU E ux b ∧ b ≠ b') ∧ OwnRow w' (dx && dy) E1.F SX b' te.size o' es := by
      rcases hXc with ⟨_, _, rfl, _⟩ | ⟨b, o2, cur, T, t1, hu1, had, _, hS, hh, hfit, hrow⟩
      · exact ⟨fun _ => False, fun _ h => h.elim, by simp [OwnRow]⟩
      · have hne : ∀ z, E.S t1 z ∧ z ≠ b → z ≠ b' := fun z hz e => by
          rcases hwhere with ⟨h1, _⟩ | ⟨⟨o1, h1⟩, _⟩
          · have := (hs.slt t1 z hz.1).1; omega
          · rw [had] at h1; simp only [Option.some.injEq, Addr.mk.injEq, and_true] at h1; exact hz.2 (e.trans h1.1.symm)
        refine ⟨fun z => E.S t1 z ∧ z ≠ b, fun z hz => ⟨⟨t1, by simp [hu1], hz.1⟩, hne z hz⟩, ?_⟩
        rw [f1]
        refine OwnRow.dd (d := dx) (fun h => by simp at h; exact h.1) (OwnRow.move (w := w) (b := b) (o := o2) (fun z hz => hsame z (hFlt z hz) fun e => hb'F (e ▸ hz)) (fun z hz => hsame z (hs.slt t1 z hz.1).1 (hne z hz)) hrow fun j v hj hv => ?_)
        rcases hxc with ⟨h1, _⟩ | ⟨b3, o3, _, _, h1, _, _, _, _, hcx⟩
        · rw [had] at h1; simp at h1
        · rw [had] at h1
          simp only [Option.some.injEq, Addr.mk.injEq, and_true] at h1
          obtain ⟨rfl, rfl⟩ := h1
          have hjl : j < xs.length := by omega
          have hxj := hcx j _ (List.getElem?_eq_getElem hjl)
          rw [hv] at hxj
          refine hcells j v ?_
          rw [List.getElem?_append_left hjl, List.getElem?_eq_getElem hjl]
          exact hxj.symm
    have hSY : ∃ SY : Nat → Prop, (∀ b, SY b → SU E uy b ∧ b ≠ b') ∧ OwnRow w' (dx && dy) E1.F SY b' te.size (o' + es.length * te.size) ys := by
      rcases hYc with rfl | ⟨b2, o2, had2, hrow⟩
      · exact ⟨fun _ => False, fun _ h => h.elim, by simp [OwnRow]⟩
      · have hne : ∀ z, SU E uy z → z ≠ b' := fun z hz e => by
          rcases hwhere with ⟨h1, _⟩ | ⟨⟨o1, h1⟩, _⟩
          · obtain ⟨t2, _, hz⟩ := hz
            have := (hs.slt t2 z hz).1; omega
          · rcases hXc with ⟨h2, _⟩ | ⟨b, o3, cur, T, t1, hu1, h2, _, hS, _⟩
            · rw [h1] at h2; simp at h2
            · rw [h1] at h2; simp at h2
              exact SU_disj hs hnd z ⟨t1, by simp [hu1], by rw [e, h2.1]; exact hS⟩ hz
        refine ⟨SU E uy, fun z hz => ⟨hz, hne z hz⟩, ?_⟩
        rw [f1]
        refine OwnRow.dd (d := dy) (fun h => by simp at h; exact h.2) (OwnRow.move (w := w) (b := b2) (o := o2) (fun z hz => hsame z (hFlt z hz) fun e => hb'F (e ▸ hz)) (fun z hz => hsame z (by obtain ⟨t2, _, hz⟩ := hz; exact (hs.slt t2 z hz).1) (hne z hz)) hrow fun j v hj hv => ?_)
        rcases hyc with h1 | ⟨b3, o3, h1, hcy⟩
        · rw [h1] at hj; simp at hj
        · rw [had2] at h1
          simp only [Option.some.injEq, Addr.mk.injEq, and_true] at h1
          obtain ⟨rfl, rfl⟩ := h1
          have hjl : j < news.length := by omega
          have hxj := hcy j _ (List.getElem?_eq_getElem hjl)
          rw [hv] at hxj
          rw [Nat.add_assoc]
          refine hcells (es.length * te.size + j) v ?_
          rw [List.getElem?_append_right (by omega), hxl, show es.length * te.size + j - es.length * te.size = j by omega, List.getElem?_eq_getElem hjl]
          exact hxj.symm
    obtain ⟨SX, hSX1, hSX2⟩ := hSX
    obtain ⟨SY, hSY1, hSY2⟩ := hSY
    have hnl : (nl && ys.isEmpty) = false := by
      rcases hXc with ⟨h1, _, _, _⟩ | ⟨_, _, _, _, _, _, _, h1, _⟩
      · have := hadm h1
        cases ys with
        | nil => simp at this
        | cons _ _ => simp
      · simp [h1]
    have hrowN : OwnRow w' (dx && dy) E1.F (fun y => (SU E (ux ++ uy) y ∨ y = b') ∧ y ≠ b') b' te.size o' (es ++ ys) := by
      refine OwnRow.app hSX2 hSY2 (fun b hb => ?_) (fun b hb => ?_) (fun b hb hb2 => SU_disj hs hnd b (hSX1 b hb).1 (hSY1 b hb2).1)
      · obtain ⟨⟨t1, h1, h2⟩, h3⟩ := hSX1 b hb
        exact ⟨.inl ⟨t1, by simp [h1], h2⟩, h3⟩
      · obtain ⟨⟨t1, h1, h2⟩, h3⟩ := hSY1 b hb
        exact ⟨.inl ⟨t1, by simp [h1], h2⟩, h3⟩
    obtain ⟨E', e1, e2, e3, _, e5⟩ := hsr2.newTok ⟨dx && dy, .sl (nl && ys.isEmpty) te.size (es ++ ys)⟩ (.slice (some ⟨b', o', none⟩) (es.length + ys.length) cap') (fun b => SU E (ux ++ uy) b ∨ b = b')
      (fun b hb => by
        rcases hb with hb | rfl
        · have := hU b hb; exact ⟨this.1, Nat.lt_of_lt_of_le this.2.1 hw'sz, this.2.2⟩
        · rcases hwhere with ⟨rfl, hf, _⟩ | ⟨⟨o1, h1⟩, hf, _⟩
          · exact ⟨.inl hs.frame.size, hb'lt, fun h => Nat.lt_irrefl _ (hs1.allLt _ h)⟩
          · rcases hXc with ⟨h2, _⟩ | ⟨b, o2, cur, T, t1, hu1, h2, _, hS, _⟩
            · rw [h1] at h2; simp at h2
            · rw [h1] at h2; simp at h2
              have := hU b ⟨t1, by simp [hu1], hS⟩
              rw [← h2.1] at this
              exact ⟨this.1, hb'lt, this.2.2⟩)
      (.inr ⟨_, _, _, rfl, ⟨_, _, cap', rfl, by simp, hle', hcm', .inr ⟨b', o', cur', T', rfl, hnl, .inr rfl, hh', hfit', hrowN⟩⟩⟩)
    exact hfinal E' e5 e2 (fun h => by simp at h) (fun z h => by simp at h; exact ⟨b', o', h.symm⟩) next Q hn

end
end Go.Proofs.Ytehfjhenilkofaa.Ax
