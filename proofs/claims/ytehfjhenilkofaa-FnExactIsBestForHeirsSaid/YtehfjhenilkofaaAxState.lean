/-
  The abstract state of a call: what its slots stand for, what the rows of its own hold; when an act and a world of the model stand for it. No condition.
-/
import Derived.Test.YtehfjhenilkofaaAxRep
namespace Go.Proofs.Ytehfjhenilkofaa.Ax
open Go Go.RowKit

def getAt : AV → List (Nat × Nat) → AV
  | a, [] => a
  | .sl _ _ es, (i, j) :: p => match es[i]? with
    | some e => (match e.cells[j]? with
      | some c => getAt c p
      | none => .junk)
    | none => .junk
  | _, _ :: _ => .junk

def follow (w : World) : AV → Value → List (Nat × Nat) → Option Value
  | _, v, [] => some v
  | .sl _ sz es, .slice (some ad) _ _, (i, j) :: p => match es[i]? with
    | some e => (match e.cells[j]?, w.cell? ⟨ad.block, ad.off + i * sz + j, none⟩ with
      | some c, some x => follow w c x p
      | _, _ => none)
    | none => none
  | _, _, _ :: _ => none

structure Tok where
  deep : Bool
  row : AV

structure ASt where
  slots : List AV
  toks : List Tok

structure Env where
  F : Nat → Prop
  hd : Nat → Value
  S : Nat → Nat → Prop


/-- y: the elements lo .. lo + n of the slice h. -/
def ViewOf (h : Value) (sz lo n : Nat) (y : Value) : Prop :=
  (h = .slice none 0 0 ∧ y = .slice none 0 0) ∨ (n = 0 ∧ y = h ∧ ∃ x c, h = .slice (some x) 0 c) ∨
  ∃ b o hl hc o', h = .slice (some ⟨b, o, none⟩) hl hc ∧ y = .slice (some ⟨b, o', none⟩) n (hc - lo) ∧ (o' = o + lo * sz ∨ (hc = lo ∧ lo ≠ 0 ∧ o' ≤ o + lo * sz))

def RefOk (w : World) (E : Env) (toks : List Tok) (t : Nat) (p : List (Nat × Nat)) (lo n : Nat) (y : Value) : Prop :=
  t < toks.length ∧ ∀ tk nl sz es, toks[t]? = some tk → getAt tk.row p = .sl nl sz es → lo + n ≤ es.length → ∃ h, follow w tk.row (E.hd t) p = some h ∧ ViewOf h sz lo n y

def PtrOk (w : World) (E : Env) (toks : List Tok) (t : Nat) (p : List (Nat × Nat)) (i j : Nat) (y : Value) : Prop :=
  t < toks.length ∧ ∀ tk nl sz es, toks[t]? = some tk → getAt tk.row p = .sl nl sz es → i < es.length → ∃ b o hl hc, follow w tk.row (E.hd t) p = some (.slice (some ⟨b, o, none⟩) hl hc) ∧ y = .pointer (some ⟨b, o + i * sz + j, none⟩)

mutual
def SRep (w : World) (E : Env) (toks : List Tok) : AV → Value → Prop
  | .v x, y => y = x ∧ x.oneCell' = true
  | .agg cs, y => ∃ ys : Array Value, y = .agg ys ∧ SRepL w E toks cs ys.toList
  | .tup vs, y => ∃ ys : Array Value, y = .tuple ys ∧ SRepL w E toks vs ys.toList
  | .sl nl sz es, y => Rep w E.F (.sl nl sz es) y
  | .fp e j, y => Rep w E.F (.fp e j) y
  | .fn f caps, y => ∃ cv : Array Value, y = .func (.func f) #[] cv ∧ SRepL w E toks caps cv.toList
  | .ref t p lo n, y => RefOk w E toks t p lo n y
  | .ptr t p i j, y => PtrOk w E toks t p i j y
  | .junk, _ => True
def SRepL (w : World) (E : Env) (toks : List Tok) : List AV → List Value → Prop
  | [], ys => ys = []
  | c :: cs, ys => ∃ y ys', ys = y :: ys' ∧ SRep w E toks c y ∧ SRepL w E toks cs ys'
end

theorem SRepL.get {w : World} {E : Env} {toks : List Tok} : ∀ {cs : List AV} {ys : List Value}, SRepL w E toks cs ys → ∀ (i : Nat) (c : AV), cs[i]? = some c → ∃ y, ys[i]? = some y ∧ SRep w E toks c y
  | [], _, _, i, c, h => by simp at h
  | c :: cs, _, k, 0, c', h => by
    simp only [SRepL] at k; obtain ⟨y, ys, rfl, k1, _⟩ := k; simp at h; subst h; exact ⟨y, by simp, k1⟩
  | c :: cs, _, k, i + 1, c', h => by
    simp only [SRepL] at k
    obtain ⟨y, ys, rfl, _, k2⟩ := k
    obtain ⟨y', h1, h2⟩ := SRepL.get k2 i c' (by simpa using h)
    exact ⟨y', by simpa using h1, h2⟩

/-- What was lent to a call: the blocks that may turn; the slots that hold what was lent, and what they hold. -/
structure Ld where
  U : Nat → Prop
  idx : List Nat
  pin : Nat → Value
instance : CoeFun Ld (fun _ => Nat → Prop) := ⟨Ld.U⟩
def noLd : Ld := ⟨fun _ => False, [], fun _ => undef⟩

/-- Below the heap's size when the call began, and beside the rows U that were handed to it, nothing has turned. -/
structure Frm (U : Nat → Prop) (w w' : World) : Prop where
  os : w'.os = w.os
  tape : w'.tape = w.tape
  output : w'.output = w.output
  size : w.heap.size ≤ w'.heap.size
  block : ∀ k, k < w.heap.size → ¬ U k → w'.heap[k]? = w.heap[k]?

theorem Frm.refl (U : Nat → Prop) (w : World) : Frm U w w := ⟨rfl, rfl, rfl, Nat.le_refl _, fun _ _ _ => rfl⟩

structure SR (U : Ld) (w0 : World) (st : ASt) (E : Env) (a : Act) (w : World) : Prop where
  defers : a.defers = []
  size : a.tmps.size = st.slots.length
  slot : ∀ i x, st.slots[i]? = some x → SRep w E st.toks x (a.tmps.getD i undef)
  flt : ∀ b, E.F b → b < w.heap.size
  tok : ∀ t tk, st.toks[t]? = some tk → tk.row = .junk ∨ ∃ nl sz es, tk.row = .sl nl sz es ∧ Excl w tk.deep E.F (E.S t) nl sz es (E.hd t)
  slt : ∀ t b, E.S t b → b < w.heap.size ∧ ¬ E.F b ∧ (w0.heap.size ≤ b ∨ U b)
  sep : ∀ t t' b, t ≠ t' → E.S t b → ¬ E.S t' b
  frame : Frm U.U w0 w
  pin : ∀ i, i ∈ U.idx → a.tmps.getD i undef = U.pin i

theorem Excl.own {w : World} {d : Bool} {F S : Nat → Prop} {nl : Bool} {sz : Nat} {es : List AV} {y : Value} (h : Excl w d F S nl sz es y) : Own w d F S (.sl nl sz es) y := by
  simp only [Own]; exact .inl h

mutual
theorem Rep.own {w : World} {F : Nat → Prop} : ∀ {S : Nat → Prop} (a : AV) (y : Value), Rep w F a y → Own w false F S a y
  | S, .v _, _, k => by simpa [Own, Rep] using k
  | S, .agg cs, y, k => by
    simp only [Own, Rep] at k ⊢; obtain ⟨ys, rfl, k⟩ := k; exact ⟨ys, rfl, RepL.own cs _ k⟩
  | S, .tup cs, y, k => by
    simp only [Own, Rep] at k ⊢; obtain ⟨ys, rfl, k⟩ := k; exact ⟨ys, rfl, RepL.own cs _ k⟩
  | S, .sl nl sz es, y, k => by simp only [Own]; exact .inr ⟨trivial, k⟩
  | S, .fp e j, y, k => by simp only [Own]; exact ⟨trivial, k⟩
  | S, .fn f cs, y, k => by simp only [Own]; exact ⟨trivial, k⟩
  | _, .ref _ _ _ _, _, k => by simp [Rep] at k
  | _, .ptr _ _ _ _, _, k => by simp [Rep] at k
  | _, .junk, _, _ => by simp [Own]
theorem RepL.own {w : World} {F : Nat → Prop} : ∀ {S : Nat → Prop} (a : List AV) (y : List Value), RepL w F a y → OwnL w false F S a y
  | _, [], _, k => by simpa [OwnL, RepL] using k
  | S, c :: cs, y, k => by
    simp only [OwnL, RepL] at k ⊢
    obtain ⟨y, ys, rfl, k1, k2⟩ := k
    exact ⟨y, ys, fun _ => False, fun _ => False, rfl, fun _ h => h.elim, fun _ h => h.elim, fun _ h => h.elim, Rep.own c y k1, RepL.own cs ys k2⟩
end

theorem OwnL.get {w : World} {d : Bool} {F : Nat → Prop} : ∀ {S : Nat → Prop} {cs : List AV} {ys : List Value}, OwnL w d F S cs ys → ∀ (i : Nat) (c : AV), cs[i]? = some c → ∃ y, ys[i]? = some y ∧ Own w d F S c y
  | _, [], _, _, i, c, h => by simp at h
  | S, c :: cs, _, k, i, c', h => by
    simp only [OwnL] at k
    obtain ⟨y, ys, S1, S2, rfl, h1, h2, _, k1, k2⟩ := k
    cases i with
    | zero => simp at h; subst h; exact ⟨y, by simp, Own.agree (fun _ h => h) (Agree.refl _ _) h1 (Agree.refl _ _) _ _ k1⟩
    | succ i =>
      obtain ⟨y', e1, e2⟩ := OwnL.get k2 i c' (by simpa using h)
      exact ⟨y', by simpa using e1, Own.agree (fun _ h => h) (Agree.refl _ _) h2 (Agree.refl _ _) _ _ e2⟩

theorem Own.cell {w : World} {d : Bool} {F S : Nat → Prop} {e : AV} {x : Value} (h : Own w d F S e x) (hsz : x.cells.size = e.cells.length) (j : Nat) (c : AV) (hj : e.cells[j]? = some c) : ∃ y, x.cells[j]? = some y ∧ Own w d F S c y := by
  by_cases hagg : ∃ cs, e = .agg cs
  · obtain ⟨cs, rfl⟩ := hagg
    simp only [Own] at h
    obtain ⟨ys, rfl, h⟩ := h
    obtain ⟨y, h1, h2⟩ := OwnL.get h j c hj
    exact ⟨y, by simpa [Value.cells] using h1, h2⟩
  · have hc : e.cells = [e] := by
      cases e <;> first | rfl | exact (hagg ⟨_, rfl⟩).elim
    rw [hc] at hj hsz
    have hj0 : j = 0 := by
      rcases j with _ | j
      · rfl
      · simp at hj
    subst hj0
    simp at hj; subst hj
    by_cases hjk : e = .junk
    · subst hjk
      exact ⟨x.cells[0]'(by rw [hsz]; simp), by simp, by simp [Own]⟩
    refine ⟨x, ?_, h⟩
    have hx : x.cells = #[x] := by
      cases e with
      | agg cs => exact (hagg ⟨_, rfl⟩).elim
      | v z => simp only [Own] at h; obtain ⟨rfl, h⟩ := h; cases x <;> first | rfl | simp [Value.oneCell'] at h
      | tup cs => simp only [Own] at h; obtain ⟨ys, rfl, _⟩ := h; rfl
      | sl nl sz es =>
        simp only [Own, Rep] at h
        rcases h with ⟨a, l, c, rfl, _⟩ | ⟨_, a, l, c, rfl, _⟩ <;> rfl
      | fp e j => simp only [Own, Rep] at h; obtain ⟨_, b, o, x, rfl, _⟩ := h; rfl
      | fn f cs => simp only [Own, Rep] at h; obtain ⟨_, b, rfl, _⟩ := h; rfl
      | ref _ _ _ _ => simp [Own] at h
      | ptr _ _ _ _ => simp [Own] at h
      | junk => exact (hjk rfl).elim
    rw [hx]; rfl

theorem OwnRow.get {w : World} {d : Bool} {F : Nat → Prop} {b sz : Nat} : ∀ {S : Nat → Prop} {o : Nat} {es : List AV}, OwnRow w d F S b sz o es → ∀ (i : Nat) (e : AV), es[i]? = some e →
    ∃ x, Own w d F S e x ∧ x.cells.size = sz ∧ e.cells.length = sz ∧ At w b (o + i * sz) x.cells.toList
  | _, _, [], _, i, e, h => by simp at h
  | S, o, e' :: es, k, 0, e, h => by
    simp only [OwnRow] at k; simp at h; subst h
    obtain ⟨x, S1, S2, h1, h2, h3, k1, k2, k2', k3, k4⟩ := k
    exact ⟨x, Own.agree (fun _ h => h) (Agree.refl _ _) h1 (Agree.refl _ _) _ _ k1, k2, k2', by simpa using k3⟩
  | S, o, e' :: es, k, i + 1, e, h => by
    simp only [OwnRow] at k
    obtain ⟨x, S1, S2, h1, h2, h3, k1, k2, k2', k3, k4⟩ := k
    obtain ⟨x', g1, g2, g3, g4⟩ := OwnRow.get k4 i e (by simpa using h)
    refine ⟨x', Own.agree (fun _ h => h) (Agree.refl _ _) h2 (Agree.refl _ _) _ _ g1, g2, g3, ?_⟩
    rw [show o + (i + 1) * sz = o + sz + i * sz from by rw [Nat.add_mul]; omega]; exact g4

/-- Along a path of the abstract value the memory is followed, in every world that agrees. -/
theorem follow_ok {w : World} {d : Bool} {F S : Nat → Prop} : ∀ (p : List (Nat × Nat)) (a : AV) (v : Value) (nl : Bool) (sz : Nat) (es : List AV), Own w d F S a v → getAt a p = .sl nl sz es →
    ∃ h, (∀ w', Agree (fun b => F b ∨ S b) w w' → follow w' a v p = some h) ∧ Own w d F S (.sl nl sz es) h := by
  intro p
  induction p with
  | nil => intro a v nl sz es h hg; simp only [getAt] at hg; subst hg; exact ⟨v, fun _ _ => by simp [follow], h⟩
  | cons ij p ih =>
    obtain ⟨i, j⟩ := ij
    intro a v nl sz es h hg
    cases a with
    | sl nl0 sz0 es0 =>
      simp only [getAt] at hg
      cases he : es0[i]? with
      | none => simp [he] at hg
      | some e =>
        cases hc : e.cells[j]? with
        | none => simp [he, hc] at hg
        | some c =>
          simp only [he, hc] at hg
          -- the element's own memory
          have key : ∃ b o l cp x, v = .slice (some ⟨b, o, none⟩) l cp ∧ (F b ∨ S b) ∧ Own w d F S e x ∧ x.cells.size = e.cells.length ∧ At w b (o + i * sz0) x.cells.toList := by
            simp only [Own] at h
            rcases h with ⟨a, l, cp, rfl, h1, h2, h3, h4⟩ | h
            · rcases h4 with ⟨rfl, rfl, rfl, rfl⟩ | ⟨b, o, cs, T, rfl, rfl, hb, hcs, hsz, h4⟩
              · have : es0 = [] := List.length_eq_zero_iff.1 h1.symm
                subst this; simp at he
              · obtain ⟨x, g1, g2, g3, g4⟩ := OwnRow.get h4 i e he
                exact ⟨b, o, l, cp, x, rfl, .inr hb, Own.agree (fun _ h => h) (Agree.refl _ _) (fun _ h => h.1) (Agree.refl _ _) _ _ g1, by rw [g2, g3], g4⟩
            · simp only [Rep] at h
              obtain ⟨rfl, a, l, cp, rfl, h1, h2, h3, h4⟩ := h
              rcases h4 with ⟨rfl, rfl, rfl, rfl⟩ | ⟨b, o, rfl, rfl, h4⟩ | ⟨_, _, rfl⟩
              · have : es0 = [] := List.length_eq_zero_iff.1 h1.symm
                subst this; simp at he
              rotate_left
              · simp at he
              · obtain ⟨x, g1, g2, g3, g4, g5⟩ := RepRow.get h4 i e he
                exact ⟨b, o, l, cp, x, rfl, .inl g4, Rep.own _ _ g1, by rw [g2, g3], g5⟩
          obtain ⟨b, o, l, cp, x, rfl, hb, hx, hxs, hat⟩ := key
          obtain ⟨y, hy, hoy⟩ := Own.cell hx hxs j c hc
          obtain ⟨h', hf, ho⟩ := ih c y nl sz es hoy hg
          refine ⟨h', fun w' hA => ?_, ho⟩
          have hcell : w'.cell? ⟨b, o + i * sz0 + j, none⟩ = some y := (hat.agree (hA b hb)) j y (by simpa using hy)
          simp only [follow, he, hc, hcell]
          exact hf w' hA
    | _ => simp [getAt] at hg

end Go.Proofs.Ytehfjhenilkofaa.Ax
