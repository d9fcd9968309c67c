/-
  Each abstract operation is met by the model's: the first ones (copies, numbers, new variables, elements, loads, calls). No condition.
-/
import Derived.Test.YtehfjhenilkofaaAxSound
namespace Go.Proofs.Ytehfjhenilkofaa.Ax
open Go Go.RowKit

/-- 'Called with arguments that read as args, f returns a value that is new, the call's own, and reads as r; nothing that was there has turned.' -/
def CallOk (P : Program) (f : FuncId) (args : List AV) (r : AV) : Prop :=
  (∃ fn, P.funcs[f]? = some fn ∧ (fn.name == "runtime.NumGoroutine") = false ∧ fn.body.isNone = false) ∧
  ∀ (w : World) (F : Nat → Prop) (vals : Array Value), (∀ b, F b → b < w.heap.size) → RepL w F args vals.toList →
    Calls P f vals w fun e w' => ∃ (y : Value) (S : Nat → Prop), e = .returned y ∧ Frm (fun _ => False) w w' ∧ (∀ b, S b → w.heap.size ≤ b ∧ b < w'.heap.size) ∧ Own w' true (fun _ => False) S r y

/-- 'Called with arguments that read as args, of which number pos is a row of the caller's own, f returns a value that is new and reads as r; the row reads as row' then; nothing else that was there has turned.' -/
def MutOk (P : Program) (f : FuncId) (args : List AV) (pos : Nat) (r : AV) (row' : AV) : Prop :=
  (∃ fn, P.funcs[f]? = some fn ∧ (fn.name == "runtime.NumGoroutine") = false ∧ fn.body.isNone = false) ∧
  ∃ nl sz es es', args[pos]? = some (.sl nl sz es) ∧ row' = .sl nl sz es' ∧
  ∀ (w : World) (F S : Nat → Prop) (vals : Array Value) (h : Value), (∀ b, F b → b < w.heap.size) → (∀ b, S b → b < w.heap.size ∧ ¬ F b) → vals.size = args.length →
    (∀ i a, i ≠ pos → args[i]? = some a → ∃ y, vals[i]? = some y ∧ Rep w F a y) → vals[pos]? = some h → Excl w true (fun _ => False) S nl sz es h →
    Calls P f vals w fun e w' => ∃ (y : Value) (S' Sr : Nat → Prop), e = .returned y ∧ Frm S w w' ∧ (∀ b, S' b → S b ∨ (w.heap.size ≤ b ∧ b < w'.heap.size)) ∧ (∀ b, Sr b → w.heap.size ≤ b ∧ b < w'.heap.size) ∧ (∀ b, S' b → ¬ Sr b) ∧
      Own w' true (fun _ => False) Sr r y ∧ Excl w' true (fun _ => False) S' nl sz es' h

structure TOk (P : Program) (t : TypeId) (ti : TI) : Prop where
  desc : P.underlying t = some ti.desc
  info : ∃ i, P.info? t = some i ∧ i.size = ti.size ∧ i.bytes = ti.bytes ∧ i.zero = some ti.zero
  size : ti.zero.cells.size = ti.size
  one : ti.zero.cells.all (·.oneCell') = true

/-- '==' of two structs of plain ints. -/
def EqOk (P : Program) (t : TypeId) (n : Nat) : Prop :=
  P.eqGuardType P.depth t = false ∧ ∀ (w : World) (xs ys : List Int), xs.length = n → ys.length = n → (Op.equalIn 10000 t (.agg (xs.map (Value.int .i64)).toArray) (.agg (ys.map (Value.int .i64)).toArray)).run P w = .ok (decide (xs = ys)) w

structure Ctx.Ok (P : Program) (C : Ctx) : Prop where
  T : ∀ t ti, C.T t = some ti → TOk P t ti
  X : ∀ t n, C.X t = some n → EqOk P t n
  G : ∀ f args r, C.G f args = some r → CallOk P f args r
  M : ∀ f args pos r row', C.M f args = some (pos, r, row') → MutOk P f args pos r row'

theorem noM_ok {P : Program} {C : Ctx} (h : C.Ok P) : (noM C).Ok P := ⟨h.T, h.X, h.G, fun _ _ _ _ _ h => by simp [noM] at h⟩

section
variable {P : Program} {o : Oper} {a : Act} {w : World} {next : Act → World → Prop} {Q : Exit → Act → World → Prop} {U : Ld} {w0 : World} {st : ASt} {E : Env}

theorem wp_val {y : Value} {w' : World} (hrun : (execOp a.eval o).run P w = .ok (.value y) w') (h : next (a.put o.dst y) w') : o.wp P a w next Q := by
  unfold Oper.wp; rw [hrun]; exact h

theorem wp_pure {x : AV} {y : Value} (hs : SR U w0 st E a w) (hd : ∀ e, o.dst = some e → e ∉ U.idx) (hrun : (execOp a.eval o).run P w = .ok (.value y) w) (hx : SRep w E st.toks x y)
    (hn : ∀ E' a' w', SR U w0 ⟨putD st.slots o.dst x, st.toks⟩ E' a' w' → next a' w') : o.wp P a w next Q :=
  wp_val hrun (hn E _ _ (SR.put (slots := st.slots) (toks := st.toks) hs o.dst hd hx))

theorem abin_run {op : BinOp} {t : TypeId} {x y r : Value} (h : abin op x y = some r) (ox oy : Operand) : (do eqGuard op t ox oy x y; binOp op t x y : Sem Value).run P w = .ok r w := by
  cases x <;> cases y <;> first | (simp [abin] at h; done) | skip
  · rename_i k a k' b
    simp only [abin] at h
    split at h
    · rename_i hk; subst hk
      cases op <;> first
        | (simp at h; done)
        | (simp at h; subst h; simp [eqGuard, binOp, Op.intArith, Op.intCmp]; done)
        | (simp at h; obtain ⟨h0, h⟩ := h; subst h; simp [eqGuard, binOp, Op.intDiv, h0]; done)
    · simp at h
  · cases op <;> first | (simp [abin] at h; done) | (simp only [abin, Option.some.injEq] at h; subst h; simp [eqGuard, binOp, Op.stringOp]; done)

theorem aun_run {op : UnOp} {x r : Value} (h : aun op x = some r) : (Op.unary op x).run P w = .ok r w := by
  cases x <;> first | (simp [aun] at h; done) | skip
  all_goals cases op <;> first | (simp [aun] at h; done) | (simp [aun] at h; subst h; simp [Op.unary, Op.intArith]; done)

theorem add_addr (b o n : Nat) : (⟨b, o, none⟩ : Addr).add n = ⟨b, o + n, none⟩ := by
  unfold Addr.add; split <;> simp_all

theorem At.add {b o : Nat} {ys : List Value} (h : At w b o ys) : ∀ j v, ys[j]? = some v → w.cell? ((⟨b, o, none⟩ : Addr).add j) = some v := fun j v hj => by rw [add_addr]; exact h j v hj

theorem run_isAgg {t : TypeId} {ti : TI} (ht : TOk P t ti) : (isAgg t).run P w = .ok (TypeDesc.aggB ti.desc) w := by
  simp only [isAgg, Sem.run_bind, Go.run_underlying ht.desc, Result.andThen_ok]
  cases ti.desc <;> simp [TypeDesc.aggB]

theorem run_size {t : TypeId} {ti : TI} (ht : TOk P t ti) : (sizeOf t).run P w = .ok ti.size w := by
  obtain ⟨i, hi, h1, _⟩ := ht.info
  simp [sizeOf, typeInfo, hi, h1]

theorem run_zero {t : TypeId} {ti : TI} (ht : TOk P t ti) : (zeroValue t).run P w = .ok ti.zero w := by
  obtain ⟨i, hi, _, _, h1⟩ := ht.info
  simp [zeroValue, typeInfo, hi, h1]

theorem run_load_agg {t : TypeId} {ti : TI} {b o' : Nat} {ys : List Value} (ht : TOk P t ti) (hg : TypeDesc.aggB ti.desc = true) (hat : At w b o' ys) (hl : ys.length = ti.size) :
    (Instr.loadAt t (.pointer (some ⟨b, o', none⟩))).run P w = .ok (.agg ys.toArray) w := by
  have := run_loadCells_list (P := P) (w := w) ⟨b, o', none⟩ ys hat.add
  simp [Instr.loadAt, Instr.sureAddr, loadVar, run_isAgg ht, hg, run_size ht, ← hl, this]

theorem run_load_one {t : TypeId} {ti : TI} {b o' : Nat} {y : Value} (ht : TOk P t ti) (hg : TypeDesc.aggB ti.desc = false) (hc : w.cell? ⟨b, o', none⟩ = some y) :
    (Instr.loadAt t (.pointer (some ⟨b, o', none⟩))).run P w = .ok y w := by
  simp [Instr.loadAt, Instr.sureAddr, loadVar, run_isAgg ht, hg, hc]

theorem run_newVar_cells (t : TypeId) (v : Value) : (newVar t v).run P w = .ok ⟨w.heap.size, 0, none⟩ (w.alloc (.cells v.cells t)) := by
  simp [newVar, newRow]

theorem heap_alloc_self (c : Obj) : (w.alloc c).heap[w.heap.size]? = some c := by show (w.heap.push c)[w.heap.size]? = _; simp

theorem frm_alloc (c : Obj) : Frm (fun _ => False) w (w.alloc c) := ⟨rfl, rfl, rfl, by simp, fun k hk _ => by show (w.heap.push c)[k]? = _; rw [Array.getElem?_push, if_neg (Nat.ne_of_lt hk)]⟩

/-- What is written into a new variable: nothing of it is another's. -/
theorem SR.newVar (hs : SR U w0 st E a w) {t : TypeId} {ti : TI} {x : AV} {y : Value} {deep : Bool} (hsz : y.cells.size = x.cells.length) (hsz' : x.cells.length = ti.size)
    (hx : ∀ w', Agree (fun b => b < w.heap.size) w w' → Own w' deep E.F (fun _ => False) x y) :
    ∃ E' : Env, SR U w0 ⟨st.slots, st.toks ++ [⟨deep, .sl false ti.size [x]⟩]⟩ E' a (w.alloc (.cells y.cells t)) ∧
      SRep (w.alloc (.cells y.cells t)) E' (st.toks ++ [⟨deep, .sl false ti.size [x]⟩]) (.ptr st.toks.length [] 0 0) (.pointer (some ⟨w.heap.size, 0, none⟩)) := by
  have hg := hs.grow (frm_alloc (w := w) (.cells y.cells t))
  obtain ⟨E', h1, h2, h3, _, h4⟩ := hg.newTok ⟨deep, .sl false ti.size [x]⟩ (.slice (some ⟨w.heap.size, 0, none⟩) 1 1) (fun b => b = w.heap.size)
    (fun b hb => by subst hb; exact ⟨.inl hs.frame.size, by simp, fun h => Nat.lt_irrefl _ (hs.allLt _ h)⟩) (.inr ⟨false, ti.size, [x], rfl, by
      refine ⟨_, 1, 1, rfl, rfl, Nat.le_refl _, by simp [maxLen], .inr ⟨w.heap.size, 0, y.cells, t, rfl, rfl, rfl, heap_alloc_self _, by rw [hsz, hsz']; omega, ?_⟩⟩
      simp only [OwnRow, and_true]
      refine ⟨y, fun _ => False, fun _ => False, fun _ h => h.elim, fun _ h => h.elim, fun _ h => h.elim, hx _ (fun b hb => (frm_alloc (w := w) (.cells y.cells t)).block b hb id), by rw [hsz, hsz'], hsz', fun j v hj => ?_⟩
      simp only [World.cell?, heap_alloc_self]
      simpa using hj⟩)
  refine ⟨E', h4, ?_⟩
  simp only [SRep]
  refine ⟨by simp, fun tk nl sz es k1 k2 k3 => ?_⟩
  simp at k1; subst k1
  simp only [getAt, AV.sl.injEq] at k2
  obtain ⟨rfl, rfl, rfl⟩ := k2
  exact ⟨w.heap.size, 0, 1, 1, by simp only [follow]; exact congrArg some h2, by simp⟩

theorem list_getD {slots : List AV} {t : Nat} : slots.getD t .junk = (slots[t]?).getD .junk := List.getD_eq_getElem?_getD

theorem asBool_run (b : Bool) : (asBool (.bool b)).run P w = .ok b w := rfl

theorem SRep_pick {toks : List Tok} {t : Bool} {x y : AV} {u v : Value} (hx : SRep w E toks x u) (hy : SRep w E toks y v) : SRep w E toks (pickAV t x y) (if t = true then u else v) := by
  unfold pickAV
  split
  · simp only [SRep] at hx hy ⊢
    obtain ⟨rfl, _⟩ := hx; obtain ⟨rfl, _⟩ := hy
    cases t <;> simp [Value.oneCell']
  · cases t <;> simpa

theorem asNat_eq {x : AV} {n : Nat} (h : asNat x = some n) : ∃ k, x = .v (.int k n) := by
  unfold asNat at h
  split at h
  · split at h
    · rename_i k m hm
      simp only [Option.some.injEq] at h
      exact ⟨k, by rw [← h, Int.toNat_of_nonneg hm]⟩
    · simp at h
  · simp at h

theorem run_index {t : TypeId} {ti : TI} {el : TypeId} (ht : TOk P t ti) (hd : ti.desc = .slice el) {te : TI} (hte : TOk P el te) {k : IntKind} {i : Nat} {b o' len cap : Nat} (hi : i < len) :
    (Instr.indexAt t (.slice (some ⟨b, o', none⟩) len cap) (.int k i)).run P w = .ok (.pointer (some ⟨b, o' + i * te.size, none⟩)) w := by
  have hu := Go.run_underlying (P := P) ht.desc
  rw [hd] at hu
  simp [Instr.indexAt, asIntOf, hu, run_size hte, add_addr]
  intro h; omega

/-- An element of a slice of the call's own. -/
theorem Own.elem {d : Bool} {F S : Nat → Prop} {nl : Bool} {sz : Nat} {es : List AV} {v : Value} {i : Nat} {e : AV} (h : Own w d F S (.sl nl sz es) v) (he : es[i]? = some e) :
    ∃ b o l cp x, v = .slice (some ⟨b, o, none⟩) l cp ∧ l = es.length ∧ (F b ∨ S b) ∧ Own w d F S e x ∧ x.cells.size = sz ∧ e.cells.length = sz ∧ At w b (o + i * sz) x.cells.toList := by
  simp only [Own] at h
  rcases h with ⟨a, l, cp, rfl, h1, h2, h3, h4⟩ | h
  · rcases h4 with ⟨rfl, rfl, rfl, rfl⟩ | ⟨b, o, cs, T, rfl, rfl, hb, hcs, hsz, h4⟩
    · have : es = [] := List.length_eq_zero_iff.1 h1.symm
      subst this; simp at he
    · obtain ⟨x, g1, g2, g3, g4⟩ := OwnRow.get h4 i e he
      exact ⟨b, o, l, cp, x, rfl, h1, .inr hb, Own.agree (fun _ h => h) (Agree.refl _ _) (fun _ h => h.1) (Agree.refl _ _) _ _ g1, g2, g3, g4⟩
  · simp only [Rep] at h
    obtain ⟨rfl, a, l, cp, rfl, h1, h2, h3, h4⟩ := h
    rcases h4 with ⟨rfl, rfl, rfl, rfl⟩ | ⟨b, o, rfl, rfl, h4⟩ | ⟨_, _, rfl⟩
    · have : es = [] := List.length_eq_zero_iff.1 h1.symm
      subst this; simp at he
    rotate_left
    · simp at he
    · obtain ⟨x, g1, g2, g3, g4, g5⟩ := RepRow.get h4 i e he
      exact ⟨b, o, l, cp, x, rfl, h1, .inl g4, Rep.own _ _ g1, g2, g3, g5⟩

theorem follow_app {i j : Nat} {nl : Bool} {sz : Nat} {es : List AV} {e c : AV} {b o' hl hc : Nat} {x : Value} (he : es[i]? = some e) (hj : e.cells[j]? = some c) (hx : w.cell? ⟨b, o' + i * sz + j, none⟩ = some x) :
    ∀ (p : List (Nat × Nat)) (a : AV) (v : Value), getAt a p = .sl nl sz es → follow w a v p = some (.slice (some ⟨b, o', none⟩) hl hc) → getAt a (p ++ [(i, j)]) = c ∧ follow w a v (p ++ [(i, j)]) = some x := by
  intro p
  induction p with
  | nil =>
    intro a v h1 h2
    simp only [getAt] at h1
    simp only [follow, Option.some.injEq] at h2
    subst h1; subst h2
    simp [getAt, follow, he, hj, hx]
  | cons ij p ih =>
    obtain ⟨i', j'⟩ := ij
    intro a v h1 h2
    cases a with
    | sl nl0 sz0 es0 =>
      cases v with
      | slice ad l cp =>
        cases ad with
        | none => simp [follow] at h2
        | some ad =>
          simp only [getAt] at h1
          simp only [follow] at h2
          simp only [List.cons_append, getAt, follow]
          cases he0 : es0[i']? with
          | none => simp [he0] at h2
          | some e0 =>
            simp only [he0] at h1 h2 ⊢
            cases hc0 : e0.cells[j']? with
            | none => simp [hc0] at h2
            | some c0 =>
              simp only [hc0] at h1 h2 ⊢
              cases hx0 : w.cell? ⟨ad.block, ad.off + i' * sz0 + j', none⟩ with
              | none => simp [hx0] at h2
              | some x0 => simp only [hx0] at h2 ⊢; exact ih c0 x0 h1 h2
      | _ => simp [follow] at h2
    | _ => simp [getAt] at h1

/-- A loaded cell. -/
theorem SRep_loadCell {toks : List Tok} {k : Nat} {tk : Tok} (hk : toks[k]? = some tk) {p : List (Nat × Nat)} {nl : Bool} {sz : Nat} {es : List AV} (hg : getAt tk.row p = .sl nl sz es)
    {i j : Nat} {e c : AV} (he : es[i]? = some e) (hj : e.cells[j]? = some c) {b o' hl hc : Nat} {y : Value} (hy : w.cell? ⟨b, o' + i * sz + j, none⟩ = some y) (hf : follow w tk.row (E.hd k) p = some (.slice (some ⟨b, o', none⟩) hl hc))
    (hown : Own w tk.deep E.F (E.S k) c y) : SRep w E toks (loadCell k p i j c) y := by
  have hlt : k < toks.length := (List.getElem?_eq_some_iff.1 hk).1
  cases c with
  | v x => simpa [loadCell, SRep, Own] using hown
  | sl nl' sz' es' =>
    simp only [loadCell, SRep]
    refine ⟨hlt, fun tk' nl2 sz2 es2 k1 k2 k3 => ?_⟩
    rw [hk] at k1; obtain rfl := Option.some.inj k1
    obtain ⟨q1, q2⟩ := follow_app he hj hy p _ _ hg hf
    rw [q1] at k2
    simp only [AV.sl.injEq] at k2
    obtain ⟨rfl, rfl, rfl⟩ := k2
    refine ⟨y, q2, ?_⟩
    simp only [Own, Rep] at hown
    rcases hown with ⟨a, l, cp, rfl, h1, _, _, ⟨rfl, _, rfl, rfl⟩ | ⟨b2, o2, _, _, rfl, _⟩⟩ | ⟨_, a, l, cp, rfl, h1, _, _, ⟨rfl, _, rfl, rfl⟩ | ⟨b2, o2, rfl, _⟩ | ⟨⟨x, rfl⟩, _, rfl⟩⟩
    · exact .inl ⟨rfl, rfl⟩
    · exact .inr (.inr ⟨b2, o2, l, cp, o2, rfl, by simp [h1], .inl (by omega)⟩)
    · exact .inl ⟨rfl, rfl⟩
    · exact .inr (.inr ⟨b2, o2, l, cp, o2, rfl, by simp [h1], .inl (by omega)⟩)
    · simp at h1; subst h1; exact .inr (.inl ⟨by simp, rfl, x, cp, rfl⟩)
  | fp e' j' => simp only [loadCell, SRep]; simp only [Own] at hown; exact hown.2
  | fn f cs =>
    simp only [loadCell]; simp only [Own] at hown
    exact SRep.of_rep _ _ hown.2
  | _ => simp [loadCell, SRep]

end
end Go.Proofs.Ytehfjhenilkofaa.Ax
