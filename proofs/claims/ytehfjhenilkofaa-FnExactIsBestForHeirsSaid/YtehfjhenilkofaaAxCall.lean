/-
  A call of a Go function by its contract; a store. No condition.
-/
import Derived.Test.YtehfjhenilkofaaAxOps3
namespace Go.Proofs.Ytehfjhenilkofaa.Ax
open Go Go.RowKit
section
variable {P : Program} {C : Ctx} {o : Oper} {a : Act} {w : World} {U : Ld} {w0 : World} {st : ASt} {E : Env}

theorem RepL_app {F : Nat → Prop} : ∀ {xs : List AV} {ys : List Value} {xs' : List AV} {ys' : List Value}, RepL w F xs ys → RepL w F xs' ys' → RepL w F (xs ++ xs') (ys ++ ys')
  | [], ys, _, _, h, h' => by simp only [RepL] at h; subst h; simpa using h'
  | x :: xs, _, _, _, h, h' => by
    simp only [RepL] at h
    obtain ⟨y, ys, rfl, h1, h2⟩ := h
    simp only [List.cons_append, RepL]
    exact ⟨y, _, rfl, h1, RepL_app h2 h'⟩

theorem RepL_args (hs : SR U w0 st E a w) : ∀ (l : List Operand), RepL w (allB E) (l.map fun x => res st.toks (ev st.slots x)) (l.map a.eval)
  | [] => by simp [RepL]
  | x :: l => by simp only [List.map_cons, RepL]; exact ⟨_, _, rfl, SRep.res hs.tokOk _ _ (hs.ev x), RepL_args hs l⟩

theorem goes_callG (hC : C.Ok P) (hs : SR U w0 st E a w) {f : Operand} {args : Array Operand} {ts : Array TypeId} (ho : o.op = .call { callee := .value f, args := args, argTypes := ts }) {g : FuncId} {caps : List AV} (hf : ev st.slots f = .fn g caps) {r : AV}
    (hr : C.G g (args.toList.map (fun x => res st.toks (ev st.slots x)) ++ resL st.toks caps) = some r) : Goes P o a w U w0 ⟨(intern st.toks r).1, st.slots, (intern st.toks r).2⟩ := by
  · obtain ⟨⟨fn, hfn, hn1, hn2⟩, hcall⟩ := hC.G _ _ _ hr
    have hfv := hs.ev f
    rw [hf] at hfv
    simp only [SRep] at hfv
    obtain ⟨cv, hfv, hcaps⟩ := hfv
    intro hd0 next Q hn
    have hrep : RepL w (allB E) (args.toList.map (fun x => res st.toks (ev st.slots x)) ++ resL st.toks caps) (args.map a.eval ++ cv).toList := by
      rw [Array.toList_append, Array.toList_map]
      exact RepL_app (RepL_args hs _) (SRepL.res hs.tokOk _ _ hcaps)
    have hrun : (execOp a.eval o).run P w = .ok (.enter g (args.map a.eval ++ cv)) w := by
      have e1 : fn.name ≠ "runtime.NumGoroutine" := by simpa using hn1
      have e2 : fn.body ≠ Option.none := by intro e; rw [e] at hn2; simp at hn2
      simp [execOp, ho, resolve, hfv, Deferred.ofValue, invoke, callFunc, hfn, e1, e2]
    unfold Oper.wp
    rw [hrun]
    refine (hcall w (allB E) _ hs.allLt hrep).mono fun e w' he => ?_
    obtain ⟨y, S, rfl, hfr, hS, hown⟩ := he
    have hg := hs.grow hfr
    obtain ⟨E', h1, h2, h3, h4, h5, h6⟩ := intern_ok (slots := st.slots) r y S st.toks E hg hown (fun b hb => ⟨Nat.le_trans hs.frame.size (hS b hb).1, (hS b hb).2, fun hA => by have := hs.allLt b hA; have := (hS b hb).1; omega⟩)
    exact hn E' _ _ (SR.put h5 o.dst hd0 h6)

mutual
/-- What is wholly the call's own is the call's own. -/
theorem Own.undeep {F : Nat → Prop} : ∀ {S : Nat → Prop} (x : AV) (y : Value), Own w true F S x y → Own w false F S x y
  | S, .v _, _, k => by simpa [Own] using k
  | S, .agg cs, y, k => by simp only [Own] at k ⊢; obtain ⟨ys, rfl, k⟩ := k; exact ⟨ys, rfl, OwnL.undeep cs _ k⟩
  | S, .tup cs, y, k => by simp only [Own] at k ⊢; obtain ⟨ys, rfl, k⟩ := k; exact ⟨ys, rfl, OwnL.undeep cs _ k⟩
  | S, .sl nl sz es, y, k => by
    simp only [Own, Bool.true_eq_false, false_and, or_false] at k
    simp only [Own]
    obtain ⟨a', len, cap, rfl, h1, h2, h3, h4⟩ := k
    refine .inl ⟨a', len, cap, rfl, h1, h2, h3, ?_⟩
    rcases h4 with h4 | ⟨b, o, cs, T, rfl, rfl, hb, hcs, hsz, h4⟩
    · exact .inl h4
    · exact .inr ⟨b, o, cs, T, rfl, rfl, hb, hcs, hsz, OwnRow.undeep _ _ _ _ h4⟩
  | S, .fp e j, y, k => by simp [Own] at k
  | S, .fn f cs, y, k => by simp [Own] at k
  | _, .ref _ _ _ _, _, k => by simp [Own] at k
  | _, .ptr _ _ _ _, _, k => by simp [Own] at k
  | _, .junk, _, _ => by simp [Own]
theorem OwnL.undeep {F : Nat → Prop} : ∀ {S : Nat → Prop} (x : List AV) (y : List Value), OwnL w true F S x y → OwnL w false F S x y
  | _, [], _, k => by simpa [OwnL] using k
  | S, c :: cs, y, k => by
    simp only [OwnL] at k ⊢
    obtain ⟨y, ys, S1, S2, rfl, h1, h2, h3, k1, k2⟩ := k
    exact ⟨y, ys, S1, S2, rfl, h1, h2, h3, Own.undeep c y k1, OwnL.undeep cs ys k2⟩
theorem OwnRow.undeep {F : Nat → Prop} : ∀ {S : Nat → Prop} (b sz o : Nat) (es : List AV), OwnRow w true F S b sz o es → OwnRow w false F S b sz o es
  | _, _, _, _, [], _ => by simp [OwnRow]
  | S, b, sz, o, e :: es, k => by
    simp only [OwnRow] at k ⊢
    obtain ⟨x, S1, S2, h1, h2, h3, k1, k2, k2', k3, k4⟩ := k
    exact ⟨x, S1, S2, h1, h2, h3, Own.undeep e x k1, k2, k2', k3, OwnRow.undeep b sz (o + sz) es k4⟩
end

theorem Own.dd {d d' : Bool} {F S : Nat → Prop} {x : AV} {y : Value} (h : Own w d F S x y) (hd : d' = true → d = true) : Own w d' F S x y := by
  cases d' with
  | true => rw [hd rfl] at h; exact h
  | false => cases d with
    | true => exact h.undeep
    | false => exact h

section
variable {w' : World} {d d' : Bool} {F : Nat → Prop} {b sz : Nat}

/-- A row of which no cell, and no block that hangs in it, has turned. -/
theorem OwnRow.keep (hdd : d' = true → d = true) (hag : ∀ x, x ≠ b → w'.heap[x]? = w.heap[x]?) (hFb : ¬ F b) : ∀ {S : Nat → Prop}, (∀ x, S x → x ≠ b) → ∀ (o : Nat) (es : List AV), OwnRow w d F S b sz o es →
    (∀ off, o ≤ off → off < o + es.length * sz → w'.cell? ⟨b, off, none⟩ = w.cell? ⟨b, off, none⟩) → OwnRow w' d' F S b sz o es
  | _, _, _, [], _, _ => by simp [OwnRow]
  | S, hS, o, e :: es, k, hc => by
    simp only [OwnRow] at k ⊢
    obtain ⟨x, S1, S2, h1, h2, h3, k1, k2, k2', k3, k4⟩ := k
    have hl : (e :: es).length * sz = sz + es.length * sz := by rw [List.length_cons, Nat.add_mul]; omega
    refine ⟨x, S1, S2, h1, h2, h3, (Own.agree (w' := w') (fun _ h => h) (fun y hy => hag y fun e => hFb (e ▸ hy)) (fun _ h => h) (fun y hy => hag y (hS y (h1 y hy))) _ _ k1).dd hdd, k2, k2', fun j y hj => ?_,
      OwnRow.keep hdd hag hFb (fun x hx => hS x (h2 x hx)) (o + sz) es k4 fun off q1 q2 => hc off (by omega) (by rw [hl]; omega)⟩
    have hjl : j < sz := by have := (List.getElem?_eq_some_iff.1 hj).1; simpa [k2] using this
    rw [hc (o + j) (by omega) (by rw [hl]; omega)]
    exact k3 j y hj

/-- One element of a row is written. -/
theorem OwnRow.upd {Sx : Nat → Prop} {e e' : AV} (hdd : d' = true → d = true) (hag : ∀ x, x ≠ b → w'.heap[x]? = w.heap[x]?) (hFb : ¬ F b) : ∀ {S : Nat → Prop}, (∀ x, S x → x ≠ b) → (∀ x, Sx x → ¬ S x) →
    ∀ (o : Nat) (es : List AV) (i : Nat), OwnRow w d F S b sz o es → es[i]? = some e →
    (∀ off, (off < o + i * sz ∨ o + i * sz + sz ≤ off) → w'.cell? ⟨b, off, none⟩ = w.cell? ⟨b, off, none⟩) →
    (∀ (S1 : Nat → Prop) x, (∀ y, S1 y → S y) → Own w d F S1 e x → x.cells.size = sz → e.cells.length = sz → At w b (o + i * sz) x.cells.toList → ∃ x', Own w' d' F (fun y => S1 y ∨ Sx y) e' x' ∧ x'.cells.size = sz ∧ e'.cells.length = sz ∧ At w' b (o + i * sz) x'.cells.toList) →
    OwnRow w' d' F (fun y => S y ∨ Sx y) b sz o (es.set i e')
  | _, _, _, _, [], _, _, h, _, _ => by simp at h
  | S, hS, hSx, o, e0 :: es, 0, k, he, hc, hnew => by
    simp only [OwnRow, List.set_cons_zero] at k ⊢
    simp at he; subst he
    obtain ⟨x, S1, S2, h1, h2, h3, k1, k2, k2', k3, k4⟩ := k
    obtain ⟨x', g1, g2, g3, g4⟩ := hnew S1 x h1 k1 k2 k2' (by simpa using k3)
    refine ⟨x', fun y => S1 y ∨ Sx y, S2, fun y hy => hy.imp (h1 y) id, fun y hy => .inl (h2 y hy), fun y hy h => hy.elim (fun hy => h3 y hy h) fun hy => hSx y hy (h2 y h), g1, g2, g3, by simpa using g4, ?_⟩
    exact OwnRow.keep hdd hag hFb (fun x hx => hS x (h2 x hx)) (o + sz) es k4 fun off q1 _ => hc off (.inr (by omega))
  | S, hS, hSx, o, e0 :: es, i + 1, k, he, hc, hnew => by
    simp only [OwnRow, List.set_cons_succ] at k ⊢
    obtain ⟨x, S1, S2, h1, h2, h3, k1, k2, k2', k3, k4⟩ := k
    have hi : o + (i + 1) * sz = o + sz + i * sz := by rw [Nat.add_mul]; omega
    rw [hi] at hc hnew
    refine ⟨x, S1, fun y => S2 y ∨ Sx y, fun y hy => .inl (h1 y hy), fun y hy => hy.imp (h2 y) id, fun y hy h => h.elim (h3 y hy) fun h => hSx y h (h1 y hy),
      (Own.agree (w' := w') (fun _ h => h) (fun y hy => hag y fun e => hFb (e ▸ hy)) (fun _ h => h) (fun y hy => hag y (hS y (h1 y hy))) _ _ k1).dd hdd, k2, k2', fun j y hj => ?_, ?_⟩
    · have hjl : j < sz := by have := (List.getElem?_eq_some_iff.1 hj).1; simpa [k2] using this
      rw [hc (o + j) (.inl (by omega))]
      exact k3 j y hj
    · exact OwnRow.upd hdd hag hFb (fun x hx => hS x (h2 x hx)) (fun x hx h => hSx x hx (h2 x h)) (o + sz) es i k4 (by simpa using he) hc
        fun S1' x hS1 => hnew S1' x (fun y hy => h2 y (hS1 y hy))
end

end
end Go.Proofs.Ytehfjhenilkofaa.Ax
