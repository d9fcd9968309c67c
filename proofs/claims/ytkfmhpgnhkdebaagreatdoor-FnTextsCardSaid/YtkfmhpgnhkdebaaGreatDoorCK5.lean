/-
  A range over an iterator that has memory of its own (it turns it from round to round), made just ahead of the loop. No condition.
-/
import Derived.Test.YtkfmhpgnhkdebaaGreatDoorCK4
namespace Go.Proofs.YtkfmhpgnhkdebaaGreatDoor.Ax
open Go Go.RowKit
def IterAt (P : Program) (gf : FuncId) (cv : Array Value) (w : World) (Bi : Nat → Prop) (xs : List AV) : Prop :=
  (∃ fn, P.funcs[gf]? = some fn ∧ (fn.name == "runtime.NumGoroutine") = false ∧ fn.body.isNone = false) ∧
  ∀ (W1 : World) (F B0 : Nat → Prop), Frm (fun _ => False) w W1 → Fit F W1 → (∀ b, F b → ¬ Bi b) → (∀ b, B0 b → b < W1.heap.size ∧ ¬ F b ∧ ¬ Bi b) →
  ∀ (l : Nat) (J Jx : Nat → (Nat → Prop) → World → Prop),
    (∀ k B W W', J k B W → Frm (fun b => ¬ B b) W W' → J k B W') → (∀ k B W W', Jx k B W → Frm (fun b => ¬ B b) W W' → Jx k B W') →
    (∀ k x y B Fi W, J k B W → xs[k]? = some x → Rep W Fi x y → (∀ b, Fi b → b < W.heap.size ∧ ¬ B b) → (∀ b, B b → b < W.heap.size) → Frm (fun b => B0 b ∨ Bi b) W1 W →
      YieldAt (fen none) 0 P l #[y] W fun e W' => Frm B W W' ∧ ∃ B' : Nat → Prop, (∀ b, B' b → (B b ∨ W.heap.size ≤ b) ∧ b < W'.heap.size) ∧
        ((e = .returned (.bool true) ∧ J (k + 1) B' W') ∨ (e = .returned (.bool false) ∧ Jx (k + 1) B' W'))) →
    J 0 B0 W1 →
    CallsIn (fen none) 0 P gf (#[.func (.yield l) #[] #[]] ++ cv) W1 fun e W' => (∃ v, e = .returned v) ∧ Frm (fun b => B0 b ∨ Bi b) W1 W' ∧
      ∃ (k : Nat) (B' : Nat → Prop), ((k = xs.length ∧ J k B' W') ∨ Jx k B' W')
def rngP (lv : List Bool) (S0 : List AV) (I : Nat → List Tok) (pp : Nat → Prop) (k : Nat) (Q : Exit → ASt → Prop) : Exit → ASt → Prop
  | .normal, s => sub (clean lv s) ⟨S0, I (k + 1)⟩ ∧ pp (k + 1)
  | .ret, s => ∃ T, sub (clean lv s) ⟨S0, T⟩ ∧ (∀ (t : Nat) (tk : Tok), T[t]? = some tk → tk.row = .junk ∨ tk.deep = true) ∧ Q .ret ⟨S0, T⟩
  | .exit id, s => ∃ T, sub (clean lv s) ⟨S0, T⟩ ∧ (∀ (t : Nat) (tk : Tok), T[t]? = some tk → tk.row = .junk ∨ tk.deep = true) ∧ Q (.exit id) ⟨S0, T⟩
  | _, _ => False
def asgP (P : Program) (C : Ctx) (live lv : List Bool) (idx : List Nat) (pin : Nat → Value) (dt : List (Nat × RD)) (l : Nat) (body : Code) (S0 : List AV) (I : Nat → List Tok) (pp : Nat → Prop) (k : Nat) (Q : Exit → ASt → Prop) : Exit → ASt → Prop
  | .normal, s => ∀ US w1, awp P C live (ldR US idx pin dt l) w1 body s (rngP lv S0 I pp k Q)
  | _, _ => False
theorem asgP_normal {P : Program} {C : Ctx} {live lv : List Bool} {idx : List Nat} {pin : Nat → Value} {dt : List (Nat × RD)} {l : Nat} {body : Code} {S0 : List AV} {I : Nat → List Tok} {pp : Nat → Prop} {k : Nat} {Q : Exit → ASt → Prop} {s : ASt} :
    asgP P C live lv idx pin dt l body S0 I pp k Q .normal s = ∀ US w1, awp P C live (ldR US idx pin dt l) w1 body s (rngP lv S0 I pp k Q) := rfl
theorem wp_rangeM {P : Program} {C : Ctx} {U : Ld} {w0 : World} {Q : Exit → ASt → Prop} {live lv : List Bool} {g : Operand} {p : Nat} {assign body : Code} {gf : Nat} {cv : Array Value} {xs : List AV} {S0 : List AV} {I : Nat → List Tok} (idx : List Nat)
    (hC : C.Ok P) (hm : P.follows .mixedOrders = true) (hro : U.ro = none) (hnm : U.nm = false) {E : Env} {a : Act} {w : World} (hs : SR U w0 ⟨S0, I 0⟩ E a w) (hgv : a.eval g = .func (.func gf) #[] cv) {Bi : Nat → Prop} (hit : IterAt P gf cv w Bi xs)
    (hBi : ∀ b, Bi b → b < w.heap.size ∧ ¬ E.F b ∧ (∀ t, ¬ E.S t b) ∧ (w0.heap.size ≤ b ∨ U.U b))
    (hp : p < S0.length) (hpi : p ∉ idx) (hS : ∀ i x, S0[i]? = some x → x = .junk ∨ i ∈ idx) (hdeep : ∀ k, k ≤ xs.length → ∀ (t : Nat) (tk : Tok), (I k)[t]? = some tk → tk.row = .junk ∨ tk.deep = true)
    (hck : codeOk U.dt idx assign = true ∧ codeOk U.dt idx body = true)
    (pp : Nat → Prop) (hp0 : pp 0) (hround : ∀ k x, xs[k]? = some x → pp k → ∀ pin l US w1, awp P C live (ldR US idx pin U.dt l) w1 assign ⟨S0.set p x, I k⟩ (asgP P C live lv idx pin U.dt l body S0 I pp k Q))
    (hend : pp xs.length → Q .normal ⟨S0, I xs.length⟩) {K : Exit → Act → World → Prop} (hK : ∀ (e : Exit) (s : ASt) (E' : Env) (a' : Act) (w' : World), Q e s → SR U w0 s E' a' w' → K e a' w') : Code.wpIn (fen U.ro) 0 P (.rangeFunc g #[p] assign body) K a w := by
  obtain ⟨⟨gfn, hgf, hgn, hgb⟩, hit⟩ := hit
  rw [hro]
  refine wpIn_rangeFunc ?_
  intro fn hfn
  obtain ⟨rec, hrec⟩ : ∃ rec : LoopState → Option Code → Loop, rec = fun st pe => { state := st, pending := pe, fn, tmps := a.tmps, params := #[p], assign, body, defers := w.heap.size } := ⟨_, rfl⟩
  obtain ⟨W1, hW1⟩ : ∃ W1, (w.alloc (.deferred (some []))).alloc (.loop (rec .ready none)) = W1 := ⟨_, rfl⟩
  have hsz1 : W1.heap.size = w.heap.size + 2 := by rw [← hW1]; simp
  have hL1 : W1.heap[w.heap.size + 1]? = some (.loop (rec .ready none)) := by
    rw [← hW1]; have := World.alloc_heap_new (w.alloc (.deferred (some []))) (.loop (rec .ready none)); rwa [World.size_alloc] at this
  have hK1 : W1.heap[w.heap.size]? = some (.deferred (some [])) := by
    rw [← hW1]; exact (Below.heap_alloc _ _ _ (by simp)).trans (World.alloc_heap_new w _)
  have hF1 : Frm (fun _ => False) w W1 := by
    rw [← hW1]; exact (frm_alloc _).comp (frm_alloc _) (fun _ _ h => h) (fun _ _ h => h)
  have hown0 : ∀ t b, E.S t b → b < w.heap.size ∧ ¬ E.F b ∧ (w0.heap.size ≤ b ∨ U b) := hs.slt
  have hB0 : Bt U w0 E.F S0 a.tmps w.heap.size (w.heap.size + 1) (I 0) (.loop (rec .ready none)) (fun b => (∃ t, E.S t b) ∨ b = w.heap.size ∨ b = w.heap.size + 1) W1 := by
    refine ⟨⟨w, E, hs.slot, fun t tk ht => (hs.tokOk t tk ht).noF (hdeep 0 (Nat.zero_le _) t tk ht), fun t b hb => ⟨.inl ⟨t, hb⟩, by have := (hown0 t b hb).1; omega, by have := (hown0 t b hb).1; omega⟩, hs.sep, fun t b hb => hF1.block b (hown0 t b hb).1 id⟩, hL1, hK1, ⟨.inr (.inl rfl), .inr (.inr rfl)⟩, by omega, fun b hb => ?_⟩
    rcases hb with ⟨t, hb⟩ | rfl | rfl
    · exact ⟨(hown0 t b hb).2.2, (hown0 t b hb).2.1, by have := (hown0 t b hb).1; omega⟩
    · exact ⟨.inl hs.frame.size, fun h => by have := hs.flt _ h; omega, by omega⟩
    · exact ⟨.inl (Nat.le_trans hs.frame.size (by omega)), fun h => by have := hs.flt _ h; omega, by omega⟩
  -- what is known of the world at any later time
  have hlater : ∀ W, Frm (fun b => ((∃ t, E.S t b) ∨ b = w.heap.size ∨ b = w.heap.size + 1) ∨ Bi b) W1 W → Agree E.F w W ∧ w.heap.size ≤ W.heap.size ∧ Frm U.U w0 W := fun W hW => by
    refine ⟨fun b hb => (hW.block b (by have := hs.flt b hb; omega) ?_).trans (hF1.block b (hs.flt b hb) id), by have := hW.size; omega, ?_⟩
    · rintro ((⟨t, h⟩ | h | h) | h)
      · exact (hown0 t b h).2.1 hb
      · have := hs.flt b hb; omega
      · have := hs.flt b hb; omega
      · exact (hBi b h).2.1 hb
    · refine (hs.frame.comp hF1 (X := U.U) (fun _ _ h => h) (fun _ _ h => h.elim)).comp hW (fun _ _ h => h) fun b hb h => ?_
      have := hs.frame.size
      rcases h with (⟨t, h⟩ | h | h) | h
      · exact (hown0 t b h).2.2.elim (fun h => by omega) id
      · omega
      · omega
      · exact (hBi b h).2.2.2.elim (fun h => by omega) id
  refine ⟨w.heap.size + 1, [{ target := .collected w.heap.size, args := #[] }], W1, { target := .fn (.func gf) cv, args := #[.func (.yield (w.heap.size + 1)) #[] #[]] }, W1, gf,
    #[.func (.yield (w.heap.size + 1)) #[] #[]] ++ cv, W1, ?_, ?_, fun _ _ => trivial, ?_, fun hd => by simp [fen, Fence.wide] at hd, ?_⟩
  · rw [← hW1, hrec]; exact run_enterLoop_outer _ _ _ _ _
  · simp only [resolve, hgv]
    simp [go_sem]
  · have e1 : gfn.name ≠ "runtime.NumGoroutine" := by simpa using hgn
    have e2 : gfn.body ≠ Option.none := by intro e; rw [e] at hgb; simp at hgb
    simp [invoke, callFunc, hgf, e1, e2]
  · refine (hit W1 E.F (fun b => (∃ t, E.S t b) ∨ b = w.heap.size ∨ b = w.heap.size + 1) hF1 ⟨fun b hb => by have := hs.flt b hb; omega, hs.defers.gl.agree fun b hb => hF1.block b (hs.flt b hb) id⟩ (fun b hb h => (hBi b h).2.1 hb) (fun b hb => ⟨(hB0.org b hb).2.2, (hB0.org b hb).2.1, fun h => by
        obtain ⟨g1, _, g3, _⟩ := hBi b h
        rcases hb with ⟨t, hb⟩ | hb | hb
        · exact g3 t hb
        · omega
        · omega⟩) (w.heap.size + 1)
      (fun k B W => k ≤ xs.length ∧ pp k ∧ Bt U w0 E.F S0 a.tmps w.heap.size (w.heap.size + 1) (I k) (.loop (rec .ready none)) B W)
      (fun k B W => ∃ (c : Code) (T : List Tok), ((c = .ret ∧ Q .ret ⟨S0, T⟩) ∨ ∃ id, c = .exit id ∧ Q (.exit id) ⟨S0, T⟩) ∧ Bt U w0 E.F S0 a.tmps w.heap.size (w.heap.size + 1) T (.loop (rec .done (some c))) B W)
      (fun k B W W' h hW => ⟨h.1, h.2.1, h.2.2.later hW⟩) (fun k B W W' h hW => by obtain ⟨c, T, h1, h2⟩ := h; exact ⟨c, T, h1, h2.later hW⟩) ?_ ⟨Nat.zero_le _, hp0, hB0⟩).mono ?_
    · -- one round
      rintro k x y B Fi W ⟨hk, hpk, hJ⟩ hx hr hFi hBlt hW
      obtain ⟨hA, hszW, _⟩ := hlater W hW
      have hkl : k < xs.length := (List.getElem?_eq_some_iff.1 hx).1
      have hlW := (hJ.org _ hJ.inB.2).2.2
      have hDW := (hJ.org _ hJ.inB.1).2.2
      have hy := run_yield (P := P) (args := #[y]) hJ.rc (by rw [hrec]; rfl)
      rw [hrec] at hy
      refine ⟨fn, _, assign, body, hy, ?_⟩
      obtain ⟨E1, hE1, hs1⟩ := hJ.start (idx := idx) (dt := U.dt) (p := p) hs hA hszW hr hFi hp hpi
      refine roundIn_of_wpIn trivial ?_
      have htm : (Array.foldl (fun tmps x => match x with | (t, a) => tmps.setIfInBounds t a) a.tmps (#[p].zip #[y])) = a.tmps.setIfInBounds p y := by simp
      show Code.wpIn (fen (some (w.heap.size + 1))) 0 P assign _ { tmps := Array.foldl (fun tmps x => match x with | (t, a) => tmps.setIfInBounds t a) a.tmps (#[p].zip #[y]), defers := [] } W
      rw [htm]
      refine tr_awp hC hm assign _ _ (hround k x hx hpk _ (w.heap.size + 1) _ W) hck.1 E1 _ W hs1 _ fun e s E2 a2 W2 hq hs2 => ?_
      cases e with
      | normal =>
        simp only [asgP] at hq
        -- the record
        have hl2 : W2.heap[w.heap.size + 1]? = some (.loop (rec .ready none)) := (hs2.frame.block _ hlW fun ⟨t, h⟩ => (hE1 t _ h).2.2 rfl).trans hJ.rc
        have hd2 : W2.heap[w.heap.size]? = some (.deferred (some [])) := (hs2.frame.block _ hDW fun ⟨t, h⟩ => (hE1 t _ h).2.1 rfl).trans hJ.dfr
        have hE2 : ∀ t b, E2.S t b → (W.heap.size ≤ b ∨ B b) ∧ b ≠ w.heap.size ∧ b ≠ w.heap.size + 1 := fun t b hb => by
          rcases (hs2.slt t b hb).2.2 with h | ⟨t', h⟩
          · exact ⟨.inl h, by omega, by omega⟩
          · exact ⟨.inr (hE1 t' b h).1, (hE1 t' b h).2⟩
        have hls2 : w.heap.size + 1 < W2.heap.size := (Array.getElem?_eq_some_iff.1 hl2).1
        refine ⟨W2.putObj (w.heap.size + 1) (.loop { rec .ready none with state := .busy }), run_beginRound hl2 (by rw [hrec]), ?_⟩
        obtain ⟨W3, hW3⟩ : ∃ W3, W2.putObj (w.heap.size + 1) (.loop { rec .ready none with state := .busy }) = W3 := ⟨_, rfl⟩
        have hf3 : Frm (fun b => b = w.heap.size + 1) W2 W3 := by rw [← hW3]; exact frm_put
        have hs3 : SR (ldR (fun b => ∃ t, E2.S t b) idx (fun i => a.tmps.getD i undef) U.dt (w.heap.size + 1)) W3 s E2 a2 W3 := by
          have hnF : ¬ E2.F (w.heap.size + 1) := fun h => by
            rcases hs2.defers.fz _ h with h | h | h
            · exact h rfl
            · obtain ⟨t, h⟩ := h; exact (hE1 t _ h).2.2 rfl
            · omega
          have hno : ¬ allB E2 (w.heap.size + 1) := fun h => h.elim hnF fun ⟨t, h⟩ => (hE2 t _ h).2.2 rfl
          have h1 := (hs2.rebase (X := fun b => (∃ t, E2.S t b) ∨ b = w.heap.size + 1) (idx := idx) (pin := fun i => a.tmps.getD i undef) (dt := U.dt) (l := w.heap.size + 1) hnF (fun t b h => .inl ⟨t, h⟩) hs2.pin).other hf3 hno (.inr (.inr rfl))
          exact h1.rebase hnF (fun t b h => ⟨t, h⟩) h1.pin
        rw [hW3]
        have hl3 : W3.heap[w.heap.size + 1]? = some (.loop { rec .ready none with state := .busy }) := by rw [← hW3]; exact World.putObj_heap_same hls2
        have hd3 : W3.heap[w.heap.size]? = some (.deferred (some [])) := by rw [← hW3]; exact (World.putObj_heap_other (by omega)).trans hd2
        refine tr_awp hC hm body _ _ (hq _ W3) hck.2 E2 _ W3 hs3 _ fun e s3 E3 a3 W4 hq3 hs4 => ?_
        -- the end of the round
        have hl4 : W4.heap[w.heap.size + 1]? = some (.loop { rec .ready none with state := .busy }) := (hs4.frame.block _ (Array.getElem?_eq_some_iff.1 hl3).1 fun ⟨t, h⟩ => (hE2 t _ h).2.2 rfl).trans hl3
        have hd4 : W4.heap[w.heap.size]? = some (.deferred (some [])) := (hs4.frame.block _ (Array.getElem?_eq_some_iff.1 hd3).1 fun ⟨t, h⟩ => (hE2 t _ h).2.1 rfl).trans hd3
        have hls4 : w.heap.size + 1 < W4.heap.size := (Array.getElem?_eq_some_iff.1 hl4).1
        have hfW4 : Frm B W W4 := by
          refine ((hs2.frame.comp hf3 (X := B) (fun b _ h => ?_) fun b _ h => ?_).comp hs4.frame (fun _ _ h => h) fun b hb h => ?_)
          · obtain ⟨t, h⟩ := h; exact (hE1 t b h).1
          · rw [h]; exact hJ.inB.2
          · obtain ⟨t, h⟩ := h; exact (hE2 t b h).1.elim (fun h => by omega) id
        have key : ∀ (T : List Tok) (jump : Option Code), (∃ E4, SR (ldR (fun b => ∃ t, E2.S t b) idx (fun i => a.tmps.getD i undef) U.dt (w.heap.size + 1)) W3 ⟨S0, T⟩ E4 a3 W4) → (∀ (t : Nat) (tk : Tok), T[t]? = some tk → tk.row = .junk ∨ tk.deep = true) →
            ∃ (W5 : World) (B' : Nat → Prop), (Instr.endRound (w.heap.size + 1) jump).run P W4 = .ok (.bool jump.isNone) W5 ∧ Frm B W W5 ∧ (∀ b, B' b → (B b ∨ W.heap.size ≤ b) ∧ b < W5.heap.size) ∧
              Bt U w0 E.F S0 a.tmps w.heap.size (w.heap.size + 1) T (.loop (rec (if jump.isNone then .ready else .done) jump)) B' W5 := fun T jump ⟨E4, hs5⟩ hdp => by
          have hrun := run_endRound (P := P) jump hl4
          have hE4 : ∀ t b, E4.S t b → (W.heap.size ≤ b ∨ B b) ∧ b ≠ w.heap.size ∧ b ≠ w.heap.size + 1 ∧ b < W4.heap.size := fun t b hb => by
            have hlt := (hs5.slt t b hb).1
            rcases (hs5.slt t b hb).2.2 with h | ⟨t', h⟩
            · have := hs2.frame.size; have := hf3.size
              exact ⟨.inl (by omega), by omega, by omega, hlt⟩
            · exact ⟨(hE2 t' b h).1, (hE2 t' b h).2.1, (hE2 t' b h).2.2, hlt⟩
          have hBW : ∀ b, B b → b < W.heap.size := hBlt
          refine ⟨_, fun b => (∃ t, E4.S t b) ∨ b = w.heap.size ∨ b = w.heap.size + 1, hrun, hfW4.comp frm_put (fun _ _ h => h) (fun b _ h => by rw [h]; exact hJ.inB.2), fun b hb => ?_, ?_⟩
          · rw [World.putObj_size]
            rcases hb with ⟨t, hb⟩ | rfl | rfl
            · exact ⟨(hE4 t b hb).1.symm, (hE4 t b hb).2.2.2⟩
            · exact ⟨.inl hJ.inB.1, by omega⟩
            · exact ⟨.inl hJ.inB.2, hls4⟩
          · refine ⟨⟨W4, E4, fun i x' hi => ?_, fun t tk ht => (hs5.tokOk t tk ht).noF (hdp t tk ht), fun t b hb => ⟨.inl ⟨t, hb⟩, (hE4 t b hb).2.1, (hE4 t b hb).2.2.1⟩, hs5.sep, fun t b hb => World.putObj_heap_other (hE4 t b hb).2.2.1⟩, ?_, (World.putObj_heap_other (by omega)).trans hd4, ⟨.inr (.inl rfl), .inr (.inr rfl)⟩, by omega, fun b hb => ?_⟩
            · rcases hS i x' hi with rfl | hi'
              · simp only [SRep]
              · have := hs5.slot i x' hi
                rwa [hs5.pin i hi'] at this
            · have : rec (if jump.isNone then .ready else .done) jump = { ({ rec .ready none with state := .busy } : Loop) with state := if jump.isNone then .ready else .done, pending := jump } := by rw [hrec]
              rw [this]; exact World.putObj_heap_same hls4
            · rw [World.putObj_size]
              rcases hb with ⟨t, hb⟩ | rfl | rfl
              · rcases (hE4 t b hb).1 with h | h
                · exact ⟨.inl (Nat.le_trans hs.frame.size (by omega)), fun hF => by have := hs.flt b hF; omega, (hE4 t b hb).2.2.2⟩
                · exact ⟨(hJ.org b h).1, (hJ.org b h).2.1, (hE4 t b hb).2.2.2⟩
              · exact ⟨(hJ.org _ hJ.inB.1).1, (hJ.org _ hJ.inB.1).2.1, by omega⟩
              · exact ⟨(hJ.org _ hJ.inB.2).1, (hJ.org _ hJ.inB.2).2.1, hls4⟩
        have sub5 : ∀ T, sub (clean lv s3) ⟨S0, T⟩ → ∃ E4, SR (ldR (fun b => ∃ t, E2.S t b) idx (fun i => a.tmps.getD i undef) U.dt (w.heap.size + 1)) W3 ⟨S0, T⟩ E4 a3 W4 := fun T h => by
          obtain ⟨E', h'⟩ := le_clean lv E3 a3 W4 hs4
          exact le_sub h E' a3 W4 h'
        cases e with
        | normal =>
          obtain ⟨W5, B', h1, h2, h3, h4⟩ := key (I (k + 1)) none (sub5 _ hq3.1) (hdeep (k + 1) (by omega))
          exact ⟨_, W5, h1, h2, B', h3, .inl ⟨rfl, by omega, hq3.2, h4⟩⟩
        | ret =>
          obtain ⟨T, q1, q2, q3⟩ := hq3
          obtain ⟨W5, B', h1, h2, h3, h4⟩ := key T (some .ret) (sub5 _ q1) q2
          exact ⟨_, W5, h1, h2, B', h3, .inr ⟨rfl, .ret, T, .inl ⟨rfl, q3⟩, h4⟩⟩
        | exit id =>
          obtain ⟨T, q1, q2, q3⟩ := hq3
          obtain ⟨W5, B', h1, h2, h3, h4⟩ := key T (some (.exit id)) (sub5 _ q1) q2
          exact ⟨_, W5, h1, h2, B', h3, .inr ⟨rfl, .exit id, T, .inr ⟨id, rfl, q3⟩, h4⟩⟩
        | _ => exact hq3.elim
      | _ => exact hq.elim
    · -- behind the iterator
      rintro e W2 ⟨⟨v, rfl⟩, hW2, k, B', h⟩
      obtain ⟨hA, hszW, hfr⟩ := hlater W2 hW2
      have fin : ∀ (T : List Tok) (st : LoopState) (pe : Option Code), st ≠ .busy → Bt U w0 E.F S0 a.tmps w.heap.size (w.heap.size + 1) T (.loop (rec st pe)) B' W2 →
          (Instr.endLoop (w.heap.size + 1)).run P W2 = .ok pe (W2.putObj (w.heap.size + 1) (.loop { rec st pe with state := .exhausted })) ∧
          ∃ E', SR U w0 ⟨S0, T⟩ E' { a with defers := { target := .collected w.heap.size, args := #[] } :: a.defers } (W2.putObj (w.heap.size + 1) (.loop { rec st pe with state := .exhausted })) := fun T st pe hst hb => by
        have hrun := run_endLoop (P := P) hb.rc (by rw [hrec]; exact hst)
        obtain ⟨E', h1, h2⟩ := hb.sr hs hA hfr hszW rfl hnm
        refine ⟨by rw [hrec] at hrun ⊢; exact hrun, E', h1.other frm_put h2 (.inl (Nat.le_trans hs.frame.size (by omega)))⟩
      rcases h with ⟨rfl, _, hpp, hb⟩ | ⟨c, T, hc, hb⟩
      · obtain ⟨h1, E', h2⟩ := fin _ _ _ (by simp) hb
        exact ⟨none, _, h1, hK _ _ E' _ _ (hend hpp) h2⟩
      · obtain ⟨h1, E', h2⟩ := fin _ _ _ (by simp) hb
        rcases hc with ⟨rfl, hq⟩ | ⟨id, rfl, hq⟩
        · exact ⟨some .ret, _, h1, wpIn_ret (hK _ _ E' _ _ hq h2)⟩
        · exact ⟨some (.exit id), _, h1, wpIn_exit (hK _ _ E' _ _ hq h2)⟩
def SeqOk (P : Program) (f : FuncId) (args xs : List AV) : Prop :=
  (∃ fn, P.funcs[f]? = some fn ∧ (fn.name == "runtime.NumGoroutine") = false ∧ fn.body.isNone = false) ∧
  ∀ (w : World) (F : Nat → Prop) (vals : Array Value), Fit F w → RepL w F args vals.toList →
    Calls P f vals w fun e w' => ∃ (gf : FuncId) (cv : Array Value) (Bi : Nat → Prop), e = .returned (.func (.func gf) #[] cv) ∧ Frm (fun _ => False) w w' ∧ (∀ b, Bi b → w.heap.size ≤ b ∧ b < w'.heap.size) ∧ IterAt P gf cv w' Bi xs
theorem tr_seqRange {P : Program} {C : Ctx} {U : Ld} {w0 : World} {st : ASt} {Q : Exit → ASt → Prop} {live lv : List Bool} {p d id bid : Nat} {assign body : Code} {xs : List AV} {S0 : List AV} {I : Nat → List Tok} (idx : List Nat)
    (hC : C.Ok P) (hm : P.follows .mixedOrders = true) (hro : U.ro = none) (hnm : U.nm = false) (hidx : U.idx = []) {ops : Array Oper} {pre : List Oper} {oc : Oper} (hops : ops.toList = pre ++ [oc]) {fo : Operand} {args : Array Operand} {ts : Array TypeId} (hop : oc.op = .call ⟨.value fo, args, ts⟩) (hgd : oc.guard = none) (hdst : oc.dst = some d)
    {st1 : ASt} (hpre : rrun C ops.toList pre st = some st1) {g : FuncId} {ex : List AV} (hfo : ev st1.slots fo = .fn g []) (hargs : (args.toList.map fun x => res st1.toks (ev st1.slots x)) = ex) (hseq : SeqOk P g ex xs)
    (h0 : Le U w0 st1 ⟨S0, I 0⟩) (hd : putD S0 (some d) .junk = S0) (hdl : d < S0.length)
    (hp : p < S0.length) (hpi : p ∉ idx) (hS : ∀ i x, S0[i]? = some x → x = .junk ∨ i ∈ idx) (hdeep : ∀ k, k ≤ xs.length → ∀ (t : Nat) (tk : Tok), (I k)[t]? = some tk → tk.row = .junk ∨ tk.deep = true)
    (hck : codeOk U.dt idx assign = true ∧ codeOk U.dt idx body = true)
    (pp : Nat → Prop) (hp0 : pp 0) (hround : ∀ k x, xs[k]? = some x → pp k → ∀ pin l US w1, awp P C live (ldR US idx pin U.dt l) w1 assign ⟨S0.set p x, I k⟩ (asgP P C live lv idx pin U.dt l body S0 I pp k (inBlock bid Q)))
    (hend : pp xs.length → Q .normal ⟨S0, I xs.length⟩) : Tr P U w0 (.seq (.region id ops false) (.block bid (.rangeFunc (.tmp d) #[p] assign body))) st Q := by
  intro hcd E a w hs K hK
  simp only [codeOk, Bool.and_eq_true] at hcd
  rw [hro]
  refine wpIn_seq (wpIn_region ?_)
  have hlen' : ops.size = pre.length + 1 := by rw [← Array.length_toList, hops]; simp
  have hget : ∀ j : Nat, ops[j]? = (pre ++ [oc])[j]? := fun j => by rw [← hops]; simp
  rw [List.range_eq_range', hlen', show List.range' 0 (pre.length + 1) = List.range' 0 pre.length ++ [pre.length] by
    rw [← List.range'_append_1, Nat.zero_add]; rfl]
  refine rrun_okR hC (fun _ _ _ _ _ => by rw [hidx]; simp) none (fun E' a' W' hs1 => ?_) pre 0 _ E a w (fun j hj => by rw [Nat.zero_add, hget, List.getElem?_append_left hj]) hs hpre
  rw [wpOpsIn_cons]
  have hi : ops[pre.length]? = some oc := by rw [hget]; simp
  unfold wpOpIn
  simp only [hi]
  have hw : Region.wanted oc (yielded ops a'.tmps) = true := by simp [Region.wanted, hgd]
  rw [if_pos hw]
  have hfv := hs1.ev fo
  rw [hfo] at hfv
  simp only [SRep, SRepL] at hfv
  obtain ⟨cv0, hfv, hcv⟩ := hfv
  have hav := RepL_args hs1 args.toList
  rw [hargs] at hav
  obtain ⟨⟨gn, hgn, hn1, hn2⟩, hcall⟩ := hseq
  have hcall := hcall W' (allB E') (args.toList.map a'.eval).toArray ⟨hs1.allLt, hs1.defers.gl.mono fun _ h => .inl h⟩ (by simpa using hav)
  have hexec : (execOp a'.eval oc).run P W' = .ok (.enter g (args.toList.map a'.eval).toArray) W' := by
    have e1 : gn.name ≠ "runtime.NumGoroutine" := by simpa using hn1
    have e2 : gn.body ≠ Option.none := by intro e; rw [e] at hn2; simp at hn2
    have e3 : args.map a'.eval = (args.toList.map a'.eval).toArray := by
      apply Array.ext'
      rw [Array.toList_map]
    have e4 : cv0 = #[] := by
      apply Array.ext'
      rw [hcv]
    subst e4
    simp [execOp, hop, resolve, hfv, Deferred.ofValue, invoke, callFunc, hgn, e1, e2, ← e3]
  obtain ⟨E1, hs2⟩ := h0 E' a' W' hs1
  refine Does.wpIn none (.inr (.inr ⟨g, _, W', hexec, hcall.mono fun e w2 he => ?_⟩))
  obtain ⟨gf, cv, Bi, rfl, hfr, hBi, hit⟩ := he
  refine ⟨_, rfl, ?_⟩
  have hs3 := SR.put (hs2.grow hfr) oc.dst (fun _ _ => by rw [hidx]; simp) (x := .junk) (y := .func (.func gf) #[] cv) (by simp [SRep])
  rw [hdst, hd] at hs3
  have hev : (a'.put oc.dst (.func (.func gf) #[] cv)).eval (.tmp d) = .func (.func gf) #[] cv := by
    have hsz := hs2.size
    simp only at hsz
    rw [hdst]
    show (a'.put (some d) _).tmps.getD d undef = _
    rw [getD_put (by rw [hsz]; exact hdl), if_pos rfl]
  have hBi2 : ∀ b, Bi b → b < w2.heap.size ∧ ¬ E1.F b ∧ (∀ t, ¬ E1.S t b) ∧ (w0.heap.size ≤ b ∨ U.U b) := fun b hb => by
    obtain ⟨g1, g2⟩ := hBi b hb
    have hsz := hs2.frame.size
    refine ⟨g2, fun h => ?_, fun t h => ?_, .inl (Nat.le_trans hsz g1)⟩
    · have := hs2.allLt b (.inl h); omega
    · have := hs2.allLt b (.inr ⟨t, h⟩); omega
  rw [hdst] at hev ⊢
  show (Code.block bid (.rangeFunc (.tmp d) #[p] assign body)).wpIn (fen none) 0 P K _ w2
  have hmain := wp_rangeM idx hC hm hro hnm hs3 hev hit hBi2 hp hpi hS hdeep hck pp hp0 hround (K := Exit.inBlock bid K) hend fun e s E' a' w' hq hs' => ?_
  · rw [hro] at hmain
    exact wpIn_block hmain
  · cases e with
    | exit id' =>
      simp only [inBlock, Exit.inBlock] at hq ⊢
      split
      · rename_i h; rw [if_pos h] at hq; exact hK _ _ E' a' w' hq hs'
      · rename_i h; rw [if_neg h] at hq; exact hK _ _ E' a' w' hq hs'
    | _ => exact hK _ _ E' a' w' hq hs'
end Go.Proofs.YtkfmhpgnhkdebaaGreatDoor.Ax
namespace Go.Proofs.YtkfmhpgnhkdebaaGreatDoor.Ax
open Go Go.RowKit
section
variable {P : Program} {C : Ctx} {w : World} {F0 B0 : Nat → Prop} {dt : List (Nat × RD)} {ι : Type} {i : ι} {st : ASt}
theorem ty_yieldP {J : JT} {Q : Exit → ASt → Bool × Nat → Prop} (hC : C.Ok P) (hJ : ∀ i B W W', J i B W → Frm (fun b => ¬ B b) W W' → J i B W') {l : Nat} {xs : List AV}
    (hyield : ∀ k x y B Fi W, J (true, k) B W → xs[k]? = some x → Rep W Fi x y → (∀ b, Fi b → b < W.heap.size ∧ ¬ B b) → (∀ b, B b → b < W.heap.size) → Frm B0 w W →
      YieldAt (fen none) 0 P l #[y] W fun e W' => Frm B W W' ∧ ∃ B' : Nat → Prop, (∀ b, B' b → (B b ∨ W.heap.size ≤ b) ∧ b < W'.heap.size) ∧
        ((e = .returned (.bool true) ∧ J (true, k + 1) B' W') ∨ (e = .returned (.bool false) ∧ J (false, k + 1) B' W')))
    {id : Nat} {ops : Array Oper} {pre : List Oper} {oy : Oper} {post : List Oper} {d : Nat} {f arg : Operand} {ts : Array TypeId} (hops : ops.toList = pre ++ oy :: post) (hop : oy.op = .call ⟨.value f, #[arg], ts⟩) (hg : oy.guard = none) (hd : oy.dst = some d)
    {slots : List AV} {toks : List Tok} (hpre : rrun C ops.toList pre st = some ⟨slots, toks⟩) (hf : ev slots f = yv l) {k : Nat} {x : AV} (hx : res toks (ev slots arg) = x) (hxs : xs[k]? = some x)
    {sT sF : ASt} (hpT : rrun C ops.toList post ⟨slots.set d (.v (.bool true)), toks⟩ = some sT) (hpF : rrun C ops.toList post ⟨slots.set d (.v (.bool false)), toks⟩ = some sF) (ht : Q .normal sT (true, k + 1)) (hfalse : Q .normal sF (false, k + 1)) : TY P w F0 B0 dt J (.region id ops false) st (true, k) Q := by
  intro hc a W hs K hK
  have hlen : ops.toList.length = pre.length + (post.length + 1) := by rw [hops]; simp
  have hlen' : ops.size = pre.length + (post.length + 1) := by rw [← hlen]; simp
  have hget : ∀ j : Nat, ops[j]? = (pre ++ oy :: post)[j]? := fun j => by rw [← hops]; simp
  obtain ⟨X, A, E, h1, h2⟩ := hs.now hJ
  refine wpIn_region ?_
  rw [List.range_eq_range', hlen', show List.range' 0 (pre.length + (post.length + 1)) = List.range' 0 pre.length ++ (pre.length :: List.range' (pre.length + 1) post.length) by
    rw [← List.range'_append_1, Nat.zero_add, List.range'_succ]]
  refine rrun_okR (U := (⟨X, [], fun _ => undef, dt, none, A, true⟩ : Ld)) hC (fun _ _ _ _ _ => by simp) none (fun E' a' W' hs' => ?_) pre 0 st E a W (fun j hj => by rw [Nat.zero_add, hget, List.getElem?_append_left hj]) h1 hpre
  obtain ⟨E1, B, hs1, hj1, hB1⟩ := h2 _ _ _ _ hs'
  rw [wpOpsIn_cons]
  have hi : ops[pre.length]? = some oy := by rw [hget]; simp
  unfold wpOpIn
  simp only [hi]
  have hw : Region.wanted oy (yielded ops a'.tmps) = true := by simp [Region.wanted, hg]
  rw [if_pos hw]
  have hfv := hs1.ev f
  simp only at hfv
  rw [hf] at hfv
  simp only [yv, SRep] at hfv
  have hav := SRep.res hs1.tokOk _ _ (hs1.ev arg)
  simp only at hav
  rw [hx] at hav
  have hY := hyield k x (a'.eval arg) B (allB E1) W' hj1 hxs hav (fun b hb => ⟨hs1.allLt b hb, fun h => (hB1 b h).2.2 hb⟩) (fun b hb => (hB1 b hb).2.1) hs1.frame
  obtain ⟨fn, tmps, assign, body, hrun, hround⟩ := hY
  have hexec : (execOp a'.eval oy).run P W' = .ok (.round l fn tmps assign body) W' := by
    simp [execOp, hop, resolve, hfv.1, Deferred.ofValue, invoke, hrun]
  refine ⟨fun _ _ => trivial, ?_⟩
  have hsem : (oy.semAt (fen none).round a'.eval).run P W' = .ok (.round l fn tmps assign body) W' := by
    rw [Oper.semAt_eq]
    · exact hexec
    · intro c hcc; rw [hop] at hcc; simp at hcc
  rw [hsem, Oper.uponIn_round]
  refine ⟨fun hd => by simp [fen, Fence.wide] at hd, ?_⟩
  refine hround.mono fun e W2 he => ?_
  obtain ⟨hfr, B', hB', he⟩ := he
  have hsr := hs1.rest hfr fun b hb => ⟨(hB1 b hb).2.2, (hB1 b hb).1.symm⟩
  have hB2 : ∀ b, B' b → (B0 b ∨ w.heap.size ≤ b) ∧ b < W2.heap.size ∧ ¬ allB E1 b := fun b hb => by
    refine ⟨?_, (hB' b hb).2, ?_⟩
    · rcases (hB' b hb).1 with h | h
      · exact (hB1 b h).1
      · exact .inr (Nat.le_trans hs1.frame.size h)
    · rcases (hB' b hb).1 with h | h
      · exact (hB1 b h).2.2
      · intro h'; have := hs1.allLt b h'; omega
  have hpost : ∀ (a3 : Act) (i' : Bool × Nat) (s3 s4 : ASt), IR w F0 B0 dt J i' s3 a3 W2 → rrun C ops.toList post s3 = some s4 → Q .normal s4 i' → wpOpsIn (fen none) 0 P ops K (List.range' (pre.length + 1) post.length) a3 W2 := fun a3 i' s3 s4 hir hrr hq => by
    obtain ⟨X3, A3, E3, g1, g2⟩ := hir.now hJ
    have := rrun_okR (U := (⟨X3, [], fun _ => undef, dt, none, A3, true⟩ : Ld)) (rest := []) (Q := K) hC (fun _ _ _ _ _ => by simp) none (fun E' a' W' hs' => (by simp only [wpOpsIn]; exact hK _ _ _ _ _ hq (g2 _ _ _ _ hs'))) post (pre.length + 1) s3 E3 a3 W2 (fun j hj => by
      rw [hget, List.getElem?_append_right (by omega), show pre.length + 1 + j - pre.length = j + 1 by omega]
      simp) g1 hrr
    simpa using this
  rcases he with ⟨rfl, hj⟩ | ⟨rfl, hj⟩
  · refine hpost _ _ _ _ ⟨E1, B', ?_, hj, hB2⟩ hpT ht
    have := SR.put (slots := slots) (toks := toks) hsr oy.dst (fun _ _ => by simp [ldI]) (x := .v (.bool true)) (y := .bool true) (by simp [SRep, Value.oneCell'])
    rw [hd] at this ⊢
    exact this
  · refine hpost _ _ _ _ ⟨E1, B', ?_, hj, hB2⟩ hpF hfalse
    have := SR.put (slots := slots) (toks := toks) hsr oy.dst (fun _ _ => by simp [ldI]) (x := .v (.bool false)) (y := .bool false) (by simp [SRep, Value.oneCell'])
    rw [hd] at this ⊢
    exact this
theorem iterAt_of_ty {gf : Nat} {fn : Func} {c : Code} {cv : Array Value} {Bi : Nat → Prop} {caps xs : List AV} {T0 : List Tok} (hf : P.funcs[gf]? = some fn) (hb : fn.body = some c) (hname : (fn.name == "runtime.NumGoroutine") = false) (hres : fn.results = #[]) (hck : codeOk dt [] c = true) (hlen : cv.size = caps.length)
    (hBi : ∀ b, Bi b → b < w.heap.size)
    (hcaps : ∀ (W1 : World) (F : Nat → Prop), Frm (fun _ => False) w W1 → ∃ E : Env, E.F = F ∧ (∀ t b, E.S t b → Bi b) ∧ SRepL W1 E T0 caps cv.toList ∧ (∀ t tk, T0[t]? = some tk → TokOk W1 E t tk) ∧ (∀ t t' b, t ≠ t' → E.S t b → ¬ E.S t' b))
    (h : ∀ (W1 : World) (F0 B0 : Nat → Prop) (l : Nat) (J : JT), (∀ i B W W', J i B W → Frm (fun b => ¬ B b) W W' → J i B W') →
      (∀ k x y B Fi W, J (true, k) B W → xs[k]? = some x → Rep W Fi x y → (∀ b, Fi b → b < W.heap.size ∧ ¬ B b) → (∀ b, B b → b < W.heap.size) → Frm B0 W1 W →
      YieldAt (fen none) 0 P l #[y] W fun e W' => Frm B W W' ∧ ∃ B' : Nat → Prop, (∀ b, B' b → (B b ∨ W.heap.size ≤ b) ∧ b < W'.heap.size) ∧
        ((e = .returned (.bool true) ∧ J (true, k + 1) B' W') ∨ (e = .returned (.bool false) ∧ J (false, k + 1) B' W'))) →
      TY P W1 F0 B0 dt J c ⟨(yv l :: caps) ++ List.replicate (fn.ntmps - (caps.length + 1)) .junk, T0⟩ (true, 0) (fun e _ i => (e = .normal ∨ e = .ret) ∧ (i = (true, xs.length) ∨ i.1 = false))) : IterAt P gf cv w Bi xs := by
  refine ⟨⟨fn, hf, hname, by rw [hb]; rfl⟩, fun W1 F B0 hW1 hF hFB hB0 l J Jx hJ hJx hyield h0 => ?_⟩
  let JJ : JT := fun i => if i.1 then J i.2 else Jx i.2
  have hJJ : ∀ i B W W', JJ i B W → Frm (fun b => ¬ B b) W W' → JJ i B W' := fun i B W W' hj hf => by
    obtain ⟨t, k⟩ := i
    cases t with
    | true => exact hJ k B W W' hj hf
    | false => exact hJx k B W W' hj hf
  refine callsIn_of_wp_marks hf hb trivial ?_
  obtain ⟨E, hEF, hES, hrep, htok, hsep⟩ := hcaps W1 F hW1
  have hBi1 : ∀ b, Bi b → b < W1.heap.size := fun b hb => Nat.lt_of_lt_of_le (hBi b hb) hW1.size
  have hs : SR (ldI (fun b => B0 b ∨ Bi b) F dt) W1 ⟨(yv l :: caps) ++ List.replicate (fn.ntmps - (caps.length + 1)) .junk, T0⟩ E { tmps := (#[Value.func (.yield l) #[] #[]] ++ cv) ++ Array.replicate (fn.ntmps - (#[Value.func (.yield l) #[] #[]] ++ cv).size) undef, defers := [] } W1 := by
    refine ⟨Marks.nil (hEF ▸ hF.gl) (fun b h => .inl (hEF ▸ h)), by simp [hlen]; omega, fun i x hi => ?_, fun b hb => hF.lt b (hEF ▸ hb), htok, fun t b hb => ⟨hBi1 b (hES t b hb), fun h => hFB b (hEF ▸ h) (hES t b hb), .inr (.inr (hES t b hb))⟩, hsep, Frm.refl _ _, fun i hi => by simp [ldI] at hi⟩
    have hrepL : SRepL W1 E T0 (yv l :: caps) (#[Value.func (.yield l) #[] #[]] ++ cv).toList := by
      simp only [SRepL]
      exact ⟨Value.func (.yield l) #[] #[], cv.toList, by simp, by simp [yv, SRep, Value.oneCell'], hrep⟩
    by_cases hlt : i < (yv l :: caps).length
    · rw [List.getElem?_append_left hlt] at hi
      obtain ⟨y, h1, h2⟩ := SRepL.get hrepL i x hi
      have h1' : (#[Value.func (.yield l) #[] #[]] ++ cv)[i]? = some y := by rw [← Array.getElem?_toList]; exact h1
      have hsz : i < (#[Value.func (.yield l) #[] #[]] ++ cv).size := by
        simp only [List.length_cons] at hlt
        simp [hlen]; omega
      have : ((#[Value.func (.yield l) #[] #[]] ++ cv) ++ Array.replicate (fn.ntmps - (#[Value.func (.yield l) #[] #[]] ++ cv).size) undef).getD i undef = y := by
        rw [Array.getD_eq_getD_getElem?, Array.getElem?_append_left hsz, h1']; rfl
      rw [this]; exact h2
    · rw [List.getElem?_append_right (by omega)] at hi
      have := List.mem_of_getElem? hi
      rw [List.mem_replicate] at this
      rw [this.2]; simp [SRep]
  have hty := h W1 F (fun b => B0 b ∨ Bi b) l JJ hJJ (fun k x y B Fi W hj => hyield k x y B Fi W hj)
  refine hty hck _ W1 ⟨E, B0, hs, h0, fun b hb => ⟨.inl (.inl hb), (hB0 b hb).1, fun h => h.elim (fun h => (hB0 b hb).2.1 (hEF ▸ h)) fun ⟨t, h⟩ => (hB0 b hb).2.2 (hES t b h)⟩⟩ _ fun e st' i' a' W' hq hs' => ?_
  obtain ⟨E', B', hsr, hj, hB'⟩ := hs'
  have hpost : LeavesInM (fen none) 0 P fn a'.tmps (fun e W' => (∃ v, e = .returned v) ∧ Frm (fun b => B0 b ∨ Bi b) W1 W' ∧
      ∃ (k : Nat) (B' : Nat → Prop), ((k = xs.length ∧ J k B' W') ∨ Jx k B' W')) a'.defers .returning W' := by
    rw [hsr.defers.none rfl]
    refine ⟨.tuple #[], ?_, ⟨_, rfl⟩, hsr.frame, i'.2, B', ?_⟩
    · rw [results_eq, hres]
      simp
    · rcases hq.2 with rfl | hf'
      · exact .inl ⟨rfl, hj⟩
      · refine .inr ?_
        have : JJ i' B' W' := hj
        simpa [JJ, hf'] using this
  rcases hq.1 with rfl | rfl
  · exact hpost
  · exact hpost
theorem SRepL.ptrF {w : World} {E : Env} {toks : List Tok} (F : Nat → Prop) : ∀ {caps : List AV} {ys : List Value}, (∀ c ∈ caps, ∃ t p i j, c = .ptr t p i j) → SRepL w E toks caps ys → SRepL w { E with F := F } toks caps ys
  | [], ys, _, h => by simp only [SRepL] at h ⊢; exact h
  | c :: cs, ys, hp, h => by
    simp only [SRepL] at h ⊢
    obtain ⟨y, ys', rfl, h1, h2⟩ := h
    obtain ⟨t, p, i, j, rfl⟩ := hp c (by simp)
    refine ⟨y, ys', rfl, ?_, SRepL.ptrF F (fun c hc => hp c (by simp [hc])) h2⟩
    simp only [SRep] at h1 ⊢
    exact h1.setF
theorem seqOk_of_awp (hC : C.Ok P) (hm : P.follows .mixedOrders = true) {live : List Bool} {f : FuncId} {fn : Func} {c : Code} {args caps xs : List AV} {gf : FuncId} {T0 : List Tok} {d : Nat} (hf : P.funcs[f]? = some fn) (hb : fn.body = some c) (hname : (fn.name == "runtime.NumGoroutine") = false) (hck : codeOk dt [] c = true)
    (hres : fn.results = #[.tmp d]) (hcp : ∀ c ∈ caps, ∃ t p i j, c = .ptr t p i j) (hdeep : ∀ (t : Nat) (tk : Tok), T0[t]? = some tk → tk.row = .junk ∨ tk.deep = true)
    (hitr : ∀ (w : World) (cv : Array Value) (Bi : Nat → Prop), cv.size = caps.length → (∀ b, Bi b → b < w.heap.size) → (∀ (W1 : World) (F : Nat → Prop), Frm (fun _ => False) w W1 → ∃ E : Env, E.F = F ∧ (∀ t b, E.S t b → Bi b) ∧ SRepL W1 E T0 caps cv.toList ∧ (∀ t tk, T0[t]? = some tk → TokOk W1 E t tk) ∧ (∀ t t' b, t ≠ t' → E.S t b → ¬ E.S t' b)) → IterAt P gf cv w Bi xs)
    (h : ∀ A w0, awp P C live (frzLd A dt) w0 c ⟨args ++ List.replicate (fn.ntmps - args.length) .junk, []⟩ (fun e s => (e = .normal ∨ e = .ret) ∧ s.slots[d]? = some (.fn gf caps) ∧ s.toks = T0)) : SeqOk P f args xs := by
  refine ⟨⟨fn, hf, hname, by rw [hb]; rfl⟩, fun w F vals hF hvals => ?_⟩
  have hlen : vals.size = args.length := by simpa using hvals.length
  refine (callsIn_wide (n := 0)).1 (callsIn_of_wp_marks hf hb trivial ?_)
  let E : Env := { F := F, hd := fun _ => undef, S := fun _ _ => False }
  have hs : SR (frzLd F dt) w ⟨args ++ List.replicate (fn.ntmps - args.length) .junk, []⟩ E { tmps := vals ++ Array.replicate (fn.ntmps - vals.size) undef, defers := [] } w := by
    refine ⟨Marks.nil hF.gl (fun _ h => .inl h), by simp [hlen], fun i x hi => ?_, hF.lt, fun t tk ht => by simp at ht, fun t b hb => hb.elim, fun t t' b _ hb => hb.elim, Frm.refl _ _, fun i hi => by simp [frzLd] at hi⟩
    by_cases hlt : i < args.length
    · rw [List.getElem?_append_left hlt] at hi
      obtain ⟨y, h1, h2⟩ := RepL_srep (E := E) rfl hvals i x hi
      have h1' : vals[i]? = some y := by simpa using h1
      have : (vals ++ Array.replicate (fn.ntmps - vals.size) undef).getD i undef = y := by
        rw [Array.getD_eq_getD_getElem?, Array.getElem?_append_left (by omega), h1']; rfl
      rw [this]; exact h2
    · rw [List.getElem?_append_right (by omega)] at hi
      have := List.mem_of_getElem? hi
      rw [List.mem_replicate] at this
      rw [this.2]; simp [SRep]
  refine tr_awp hC hm c _ _ (h F w) hck E _ w hs _ fun e st' E' a' w' hq hs' => ?_
  obtain ⟨he, hslot, htoks⟩ := hq
  have hv := hs'.slot d _ hslot
  simp only [SRep] at hv
  obtain ⟨cv, hv, hcv⟩ := hv
  rw [htoks] at hcv
  have hpost : LeavesInM Fence.wide 0 P fn a'.tmps (fun e w' => ∃ (gf : FuncId) (cv : Array Value) (Bi : Nat → Prop), e = .returned (.func (.func gf) #[] cv) ∧ Frm (fun _ => False) w w' ∧ (∀ b, Bi b → w.heap.size ≤ b ∧ b < w'.heap.size) ∧ IterAt P gf cv w' Bi xs) a'.defers .returning w' := by
    rw [hs'.defers.none rfl]
    have hbnd : ∀ t b, E'.S t b → w.heap.size ≤ b ∧ b < w'.heap.size := fun t b hb => ⟨(hs'.slt t b hb).2.2.resolve_right fun h => h, (hs'.slt t b hb).1⟩
    refine ⟨.func (.func gf) #[] cv, ?_, gf, cv, fun b => ∃ t, E'.S t b, rfl, hs'.frame, fun b ⟨t, hb⟩ => hbnd t b hb, ?_⟩
    · rw [results_eq, hres]
      simp [resSem]
      simpa [Array.getD_eq_getD_getElem?] using hv
    · refine hitr w' cv _ ?_ (fun b ⟨t, hb⟩ => (hbnd t b hb).2) fun W1 F1 hW1 => ?_
      · have := hcv.len; simpa using this
      · have hg := hs'.grow hW1
        have hv1 := hg.slot d _ hslot
        simp only [SRep] at hv1
        obtain ⟨cv1, hv1, hcv1⟩ := hv1
        rw [hv] at hv1
        simp only [Value.func.injEq, true_and] at hv1
        subst hv1
        rw [htoks] at hcv1
        refine ⟨{ E' with F := F1 }, rfl, fun t b hb => ⟨t, hb⟩, hcv1.ptrF F1 hcp, fun t tk ht => ?_, hg.sep⟩
        have := (hg.tokOk t tk (by rw [htoks]; exact ht)).noF (hdeep t tk ht)
        exact this.weak (fun b hb => rfl) (fun b h => h.elim) rfl (fun b h => h)
  rcases he with rfl | rfl
  · exact hpost
  · exact hpost
end
end Go.Proofs.YtkfmhpgnhkdebaaGreatDoor.Ax
