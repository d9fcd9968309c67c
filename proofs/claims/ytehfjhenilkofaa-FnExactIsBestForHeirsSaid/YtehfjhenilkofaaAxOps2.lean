/-
  Each abstract operation is met by the model's, all in one theorem. No condition.
-/
import Derived.Test.YtehfjhenilkofaaAxOps
namespace Go.Proofs.Ytehfjhenilkofaa.Ax
open Go Go.RowKit
section
variable {P : Program} {C : Ctx} {o : Oper} {a : Act} {w : World} {next : Act → World → Prop} {Q : Exit → Act → World → Prop} {U : Ld} {w0 : World} {st : ASt} {E : Env}

/-- What an operation has to give. -/
def Goes (P : Program) (o : Oper) (a : Act) (w : World) (U : Ld) (w0 : World) (out : Out) : Prop :=
  (∀ e, o.dst = some e → e ∉ U.idx) → ∀ (next : Act → World → Prop) (Q : Exit → Act → World → Prop), (∀ E' a' w', SR U w0 ⟨putD out.slots o.dst out.val, out.toks⟩ E' a' w' → next a' w') → o.wp P a w next Q

theorem goes_pure {x : AV} {y : Value} (hs : SR U w0 st E a w) (hrun : (execOp a.eval o).run P w = .ok (.value y) w) (hx : SRep w E st.toks x y) : Goes P o a w U w0 ⟨x, st.slots, st.toks⟩ :=
  fun hd _ _ hn => wp_pure hs hd hrun hx hn

theorem SRep_v {toks : List Tok} {x : AV} {v y : Value} (h : SRep w E toks x y) (hx : x = .v v) : y = v := by
  subst hx; simp only [SRep] at h; exact h.1

theorem abin_one {op : BinOp} {x y r : Value} (h : abin op x y = some r) : r.oneCell' = true := by
  unfold abin at h
  split at h
  · split at h
    · split at h <;> first | (split at h <;> simp_all [Value.oneCell'] <;> (obtain rfl := h; rfl)) | (simp at h; try (subst h; rfl))
    · simp at h
  · split at h <;> simp at h <;> subst h <;> rfl
  · simp at h

theorem aun_one {op : UnOp} {x r : Value} (h : aun op x = some r) : r.oneCell' = true := by
  unfold aun at h
  split at h
  · split at h <;> simp at h <;> subst h <;> rfl
  · split at h <;> simp at h <;> subst h <;> rfl
  · simp at h

theorem cellInts_ok {toks : List Tok} : ∀ {cs : List AV} {ys : List Value} {ns : List Int}, SRepL w E toks cs ys → cellInts cs = some ns → ys = ns.map (Value.int .i64)
  | [], ys, ns, h, hc => by simp only [SRepL] at h; simp only [cellInts, Option.some.injEq] at hc; subst hc; subst h; rfl
  | c :: cs, ys, ns, h, hc => by
    simp only [SRepL] at h
    obtain ⟨y, ys, rfl, h1, h2⟩ := h
    unfold cellInts at hc
    split at hc
    · rename_i e; simp at e
    · rename_i n cs' e
      simp only [List.cons.injEq] at e
      obtain ⟨rfl, rfl⟩ := e
      split at hc
      · rename_i ns' hns
        simp only [Option.some.injEq] at hc; subst hc
        simp only [SRep] at h1
        rw [h1.1, cellInts_ok h2 hns]; rfl
      · simp at hc
    · simp at hc

theorem goes_binOp (hC : C.Ok P) (hs : SR U w0 st E a w) {op : BinOp} {t t' : TypeId} {x y : Operand} (ho : o.op = .binOp op t x y t') {out : Out} (h : aop C (.binOp op t x y t') st.slots st.toks = some out) : Goes P o a w U w0 out := by
  simp only [aop] at h
  split at h
  · rename_i u v hu hv
    have e1 := SRep_v (hs.ev x) hu
    have e2 := SRep_v (hs.ev y) hv
    split at h
    · rename_i r hr
      simp only [Option.some.injEq] at h; subst h
      refine goes_pure (y := r) hs ?_ (by simp only [SRep]; exact ⟨trivial, abin_one hr⟩)
      have := abin_run (P := P) (w := w) (t := t) hr x y
      simp only [execOp, ho, e1, e2]
      rw [Sem.run_bind, this]; rfl
    · split at h
      · rename_i s b z p q hti hab
        simp only [Option.some.injEq] at h; subst h
        have hd := (hC.T t _ hti).desc
        refine goes_pure (y := .bool (p == q)) hs ?_ (by simp [SRep, Value.oneCell'])
        have hq := run_equalIn_bool' (P := P) w 9999 t p q hd
        simp [execOp, ho, e1, e2, eqGuard, binOp, Op.equal, Op.maxDepth, hq]
      · rename_i s b z p q hti hab
        simp only [Option.some.injEq] at h; subst h
        have hd := (hC.T t _ hti).desc
        refine goes_pure (y := .bool (!(p == q))) hs ?_ (by simp [SRep, Value.oneCell'])
        have hq := run_equalIn_bool' (P := P) w 9999 t p q hd
        simp [execOp, ho, e1, e2, eqGuard, binOp, Op.equal, Op.maxDepth, hq]
      · simp at h
  · rename_i cs ds hx hy
    have hxv := hs.ev x
    have hyv := hs.ev y
    rw [hx] at hxv; rw [hy] at hyv
    simp only [SRep] at hxv hyv
    obtain ⟨xv, hxe, hxl⟩ := hxv
    obtain ⟨yv, hye, hyl⟩ := hyv
    split at h
    · rename_i n xs ys hX hcs hds
      split at h
      · rename_i hl
        simp only [Option.some.injEq] at h; subst h
        obtain ⟨hg, hq⟩ := hC.X t n hX
        have hq := hq w xs ys hl.1 hl.2
        have ex : xv = (xs.map (Value.int .i64)).toArray := by rw [← cellInts_ok hxl hcs]
        have ey : yv = (ys.map (Value.int .i64)).toArray := by rw [← cellInts_ok hyl hds]
        rw [← ex, ← ey] at hq
        refine goes_pure (y := .bool (decide (xs = ys))) hs ?_ (by simp [SRep, Value.oneCell'])
        simp only [execOp, ho, hxe, hye, Sem.run_bind, run_eqGuard_agg w .eql t x y xv yv hg, Result.andThen_ok, run_eql_struct, hq]; rfl
      · simp at h
    · rename_i n xs ys hX hcs hds
      split at h
      · rename_i hl
        simp only [Option.some.injEq] at h; subst h
        obtain ⟨hg, hq⟩ := hC.X t n hX
        have hq := hq w xs ys hl.1 hl.2
        have ex : xv = (xs.map (Value.int .i64)).toArray := by rw [← cellInts_ok hxl hcs]
        have ey : yv = (ys.map (Value.int .i64)).toArray := by rw [← cellInts_ok hyl hds]
        rw [← ex, ← ey] at hq
        refine goes_pure (y := .bool (!decide (xs = ys))) hs ?_ (by simp [SRep, Value.oneCell'])
        simp only [execOp, ho, hxe, hye, Sem.run_bind, run_eqGuard_agg w .neq t x y xv yv hg, Result.andThen_ok, run_neq_struct, hq]; rfl
      · simp at h
    · simp at h
  · simp at h

theorem goes_unOp (hs : SR U w0 st E a w) {op : UnOp} {t : TypeId} {x : Operand} (ho : o.op = .unOp op t x) {out : Out} (h : aop C (.unOp op t x) st.slots st.toks = some out) : Goes P o a w U w0 out := by
  simp only [aop] at h
  split at h
  · rename_i u hu
    simp only [Option.map_eq_some_iff] at h
    obtain ⟨r, hr, rfl⟩ := h
    have e1 := SRep_v (hs.ev x) hu
    refine goes_pure (y := r) hs ?_ (by simp only [SRep]; exact ⟨trivial, aun_one hr⟩)
    simp only [execOp, ho, e1]
    rw [Sem.run_bind, aun_run hr]; rfl
  · simp at h

theorem goes_pick (hs : SR U w0 st E a w) {c x y : Operand} (ho : o.op = .pick c x y) {out : Out} (h : aop C (.pick c x y) st.slots st.toks = some out) : Goes P o a w U w0 out := by
  simp only [aop] at h
  split at h
  · rename_i t ht
    simp only [Option.some.injEq] at h; subst h
    have e1 := SRep_v (hs.ev c) ht
    refine goes_pure (y := if t = true then a.eval x else a.eval y) hs ?_ (SRep_pick (hs.ev x) (hs.ev y))
    simp [execOp, ho, e1, asBool_run]
  · simp at h

theorem goes_move (hs : SR U w0 st E a w) {x : Operand} (ho : o.op = .move x ∨ o.op = .assign x) : Goes P o a w U w0 ⟨ev st.slots x, st.slots, st.toks⟩ := by
  refine goes_pure (y := a.eval x) hs ?_ (hs.ev x)
  rcases ho with ho | ho <;> simp [execOp, ho]

theorem Own_ofV1 {d : Bool} {F S : Nat → Prop} (x : Value) : Own w d F S (ofV1 x) x := by
  unfold ofV1
  split
  · simp only [Own]; exact .inl ⟨none, 0, 0, rfl, rfl, Nat.le_refl _, Nat.zero_le _, .inl ⟨rfl, trivial, rfl, rfl⟩⟩
  · split
    · simp [Own, *]
    · simp [Own]

theorem OwnL_map {d : Bool} {F : Nat → Prop} {f : Value → AV} : ∀ {S : Nat → Prop} (ys : List Value), (∀ y ∈ ys, Own w d F (fun _ => False) (f y) y) → OwnL w d F S (ys.map f) ys
  | _, [], _ => by simp [OwnL]
  | S, y :: ys, h => by
    simp only [List.map_cons, OwnL]
    exact ⟨y, ys, fun _ => False, fun _ => False, rfl, fun _ h => h.elim, fun _ h => h.elim, fun _ h => h.elim, h y (by simp), OwnL_map ys fun z hz => h z (by simp [hz])⟩

theorem Own_ofV {d : Bool} {F S : Nat → Prop} (x : Value) : Own w d F S (ofV x) x := by
  unfold ofV
  split
  · simp only [Own]; exact ⟨_, rfl, OwnL_map _ fun y _ => Own_ofV1 y⟩
  · exact Own_ofV1 _

theorem cells_ofV1 (x : Value) : (ofV1 x).cells.length = 1 := by
  unfold ofV1
  split
  · rfl
  · split <;> rfl

theorem cells_ofV (x : Value) : x.cells.size = (ofV x).cells.length := by
  cases x <;> first
    | (simp [ofV, Value.cells, AV.cells]; done)
    | (simp only [ofV]; rw [cells_ofV1]; rfl)

theorem goes_alloc (hC : C.Ok P) (hs : SR U w0 st E a w) {t : TypeId} (ho : o.op = .alloc t) {out : Out} (h : aop C (.alloc t) st.slots st.toks = some out) : Goes P o a w U w0 out := by
  simp only [aop] at h
  split at h
  · rename_i ti hti
    simp only [Option.some.injEq] at h; subst h
    have ht := hC.T t ti hti
    intro hd0 next Q hn
    obtain ⟨E', h1, h2⟩ := hs.newVar (t := t) (ti := ti) (x := ofV ti.zero) (y := ti.zero) (deep := true) (cells_ofV _) (by rw [← cells_ofV, ht.size]) (fun w' _ => Own_ofV _)
    refine wp_val (y := .pointer (some ⟨w.heap.size, 0, none⟩)) (w' := w.alloc (.cells ti.zero.cells t)) ?_ (hn E' _ _ (SR.put h1 o.dst hd0 h2))
    simp [execOp, ho, Instr.alloc, run_zero ht, newVar, newRow]
  · simp at h

mutual
theorem SRep.frz {toks : List Tok} {x : AV} {y : Value} (h : SRep w E toks x y) (hf : Ax.frz x = true) : Rep w E.F x y := by
  cases x with
  | v z => simpa [SRep, Rep] using h
  | sl nl sz es => simpa only [SRep] using h
  | fp e j => simpa only [SRep] using h
  | agg cs =>
    simp only [SRep, Rep] at h ⊢
    obtain ⟨ys, rfl, h⟩ := h
    refine ⟨ys, rfl, SRepL.frz cs _ h fun c hc => ?_⟩
    simp only [Ax.frz, List.all_eq_true] at hf
    have := hf c hc
    split at this <;> first | exact .inl ⟨_, rfl⟩ | exact .inr (.inl ⟨_, _, _, rfl⟩) | exact .inr (.inr ⟨_, _, rfl⟩) | simp at this
  | _ => simp [Ax.frz] at hf
theorem SRepL.frz {toks : List Tok} : ∀ (cs : List AV) (ys : List Value), SRepL w E toks cs ys → (∀ c ∈ cs, (∃ x, c = .v x) ∨ (∃ nl sz es, c = .sl nl sz es) ∨ ∃ e j, c = .fp e j) → RepL w E.F cs ys
  | [], _, h, _ => by simpa [SRepL, RepL] using h
  | c :: cs, ys, h, hc => by
    simp only [SRepL, RepL] at h ⊢
    obtain ⟨y, ys, rfl, h1, h2⟩ := h
    refine ⟨y, ys, rfl, ?_, SRepL.frz cs ys h2 fun c h => hc c (by simp [h])⟩
    rcases hc c (by simp) with ⟨x, rfl⟩ | ⟨nl, sz, es, rfl⟩ | ⟨e, j, rfl⟩
    · simpa [SRep, Rep] using h1
    · simpa only [SRep] using h1
    · simpa only [SRep] using h1
end

mutual
theorem Own.scal {x : AV} {y : Value} (h : Rep w E.F x y) (hf : Ax.scal x = true) {d : Bool} {F S : Nat → Prop} {w' : World} : Own w' d F S x y := by
  cases x with
  | v z => simpa [Own, Rep] using h
  | agg cs =>
    simp only [Own, Rep] at h ⊢
    obtain ⟨ys, rfl, h⟩ := h
    refine ⟨ys, rfl, OwnL.scal cs _ h fun c hc => ?_⟩
    simp only [Ax.scal, List.all_eq_true] at hf
    have := hf c hc
    split at this <;> first | exact ⟨_, rfl⟩ | simp at this
  | _ => simp [Ax.scal] at hf
theorem OwnL.scal : ∀ (cs : List AV) (ys : List Value), RepL w E.F cs ys → (∀ c ∈ cs, ∃ x, c = .v x) → ∀ {d : Bool} {F S : Nat → Prop} {w' : World}, OwnL w' d F S cs ys
  | [], _, h, _, _, _, _, _ => by simpa [OwnL, RepL] using h
  | c :: cs, ys, h, hc, d, F, S, w' => by
    simp only [OwnL, RepL] at h ⊢
    obtain ⟨y, ys, rfl, h1, h2⟩ := h
    obtain ⟨x, rfl⟩ := hc c (by simp)
    exact ⟨y, ys, fun _ => False, fun _ => False, rfl, fun _ h => h.elim, fun _ h => h.elim, fun _ h => h.elim, by simpa [Own, Rep] using h1, OwnL.scal cs ys h2 fun c h => hc c (by simp [h])⟩
end

theorem Rep.cellsN {F : Nat → Prop} {x : AV} {y : Value} (h : Rep w F x y) (hj : x ≠ .junk) : y.cells.size = x.cells.length := by
  cases x with
  | v z => simp only [Rep] at h; obtain ⟨rfl, h⟩ := h; cases y <;> first | rfl | simp [Value.oneCell'] at h
  | agg cs => simp only [Rep] at h; obtain ⟨ys, rfl, h⟩ := h; simpa [Value.cells, AV.cells] using h.length
  | tup cs => simp only [Rep] at h; obtain ⟨ys, rfl, h⟩ := h; rfl
  | sl nl sz es => simp only [Rep] at h; obtain ⟨a, l, c, rfl, _⟩ := h; rfl
  | fp e j => simp only [Rep] at h; obtain ⟨b, o, x, rfl, _⟩ := h; rfl
  | fn f cs => simp only [Rep] at h; obtain ⟨b, rfl, _⟩ := h; rfl
  | junk => exact (hj rfl).elim
  | _ => simp [Rep] at h

theorem goes_box (hs : SR U w0 st E a w) {t : TypeId} {x : Operand} (ho : o.op = .box t x) {out : Out} (h : aop C (.box t x) st.slots st.toks = some out) : Goes P o a w U w0 out := by
  simp only [aop] at h
  split at h
  · rename_i ti hti
    split at h
    · rename_i hf
      simp only [Option.some.injEq] at h; subst h
      have hr := (hs.ev x).frz hf.1
      intro hd0 next Q hn
      have hne : ev st.slots x ≠ .junk := by intro e; rw [e] at hf; simp [Ax.frz] at hf
      obtain ⟨E', h1, h2⟩ := hs.newVar (t := t) (ti := ti) (x := ev st.slots x) (y := a.eval x) (deep := scal (ev st.slots x)) (hr.cellsN hne) hf.2 (fun w' hA => by
        cases hsc : scal (ev st.slots x) with
        | true => exact Own.scal hr hsc
        | false => exact Rep.own _ _ (hr.weak (fun _ h => h) (hA.mono fun b hb => hs.flt b hb)))
      refine wp_val (y := .pointer (some ⟨w.heap.size, 0, none⟩)) (w' := w.alloc (.cells (a.eval x).cells t)) ?_ (hn E' _ _ (SR.put h1 o.dst hd0 h2))
      simp [execOp, ho, Instr.box, newVar, newRow]
    · simp at h
  · simp at h

theorem goes_makeFunc (hs : SR U w0 st E a w) {f : FuncId} {first captured : Array Operand} (ho : o.op = .makeFunc (.func f) first captured) {out : Out} (h : aop C (.makeFunc (.func f) first captured) st.slots st.toks = some out) : Goes P o a w U w0 out := by
  simp only [aop] at h
  split at h
  · rename_i hf
    simp only [Option.some.injEq] at h; subst h
    have he : first = #[] := Array.eq_empty_of_size_eq_zero hf
    refine goes_pure (y := .func (.func f) #[] (captured.map a.eval)) hs ?_ ?_
    · simp [execOp, ho, Instr.makeFunc, he]
    · simp only [SRep]
      refine ⟨_, rfl, ?_⟩
      rw [Array.toList_map]
      generalize captured.toList = l
      induction l with
      | nil => simp [SRepL]
      | cons c l ih => simp only [List.map_cons, SRepL]; exact ⟨_, _, rfl, hs.ev c, ih⟩
  · simp at h

theorem lenAV_ok {x : AV} {y : Value} (hs : SR U w0 st E a w) (h : SRep w E st.toks x y) {n : Nat} (hn : lenAV st.toks x = some n) : ∃ ad cap, y = .slice ad n cap := by
  unfold lenAV at hn
  split at hn
  · simp only [Option.some.injEq] at hn; subst hn
    simp only [SRep, Rep] at h
    obtain ⟨ad, l, cap, rfl, rfl, _⟩ := h
    exact ⟨_, _, rfl⟩
  · rename_i t p lo m
    cases ht : st.toks[t]? with
    | none => simp [ht] at hn
    | some tk =>
      simp only [ht] at hn
      split at hn
      · rename_i nl sz es hg
        split at hn
        · rename_i hle
          simp only [Option.some.injEq] at hn; subst hn
          simp only [SRep] at h
          obtain ⟨hv, g1, g2⟩ := h.2 tk nl sz es ht hg hle
          obtain ⟨hv', k1, k2⟩ := (hs.tokOk t tk ht).follow hg
          have : hv = hv' := by have := k1 w (Agree.refl _ _); rw [g1] at this; exact Option.some.inj this
          subst this
          rcases g2 with ⟨rfl, rfl⟩ | ⟨rfl, rfl, x, c, rfl⟩ | ⟨b, o, hl, hc, o', rfl, rfl, _⟩
          rotate_left
          · exact ⟨_, _, rfl⟩
          rotate_left
          · have hr := k2.rep
            simp only [Rep, Value.slice.injEq] at hr
            obtain ⟨a, l, c, ⟨rfl, rfl, rfl⟩, h1, _⟩ := hr
            exact ⟨none, 0, by rw [show m = 0 by omega]⟩
          · exact ⟨_, _, rfl⟩
        · simp at hn
      · simp at hn
  · simp at hn

theorem goes_len (hs : SR U w0 st E a w) {x : Operand} {ts : Array TypeId} (ho : o.op = .call { callee := .builtin .len, args := #[x], argTypes := ts }) {t el : TypeId} (hts : ts = #[t]) (hu : P.underlying t = some (.slice el)) {n : Nat}
    (h : lenAV st.toks (ev st.slots x) = some n) : Goes P o a w U w0 ⟨.v (.int .i64 n), st.slots, st.toks⟩ := by
  obtain ⟨ad, cap, hy⟩ := lenAV_ok hs (hs.ev x) h
  refine goes_pure (y := .int .i64 n) hs ?_ (by simp [SRep, Value.oneCell'])
  subst hts
  simp [execOp, ho, resolve, invoke, builtin, Builtin.len_, Go.run_underlying hu, hy, goInt]

end
end Go.Proofs.Ytehfjhenilkofaa.Ax
