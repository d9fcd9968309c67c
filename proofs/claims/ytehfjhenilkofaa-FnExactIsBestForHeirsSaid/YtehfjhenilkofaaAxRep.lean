/-
  A small logic of my own over the model: abstract values that stand for what a slice, a struct, a pointer reads as; when a value of the model stands for one of them. No condition.
-/
import Derived.WalkKit
namespace Go.Proofs.Ytehfjhenilkofaa.Ax
open Go Go.RowKit

/-- Abstract values. 'sl': a slice that is only read; 'fp': a pointer to what is only read (cell j of an element); 'ref', 'ptr': a slice, a pointer into a row that the call owns. -/
inductive AV where
  | v (x : Value)
  | agg (cs : List AV)
  | tup (vs : List AV)
  | sl (nl : Bool) (sz : Nat) (es : List AV)
  | fp (e : AV) (j : Nat)
  | fn (f : FuncId) (caps : List AV)
  | ref (t : Nat) (p : List (Nat × Nat)) (lo n : Nat)
  | ptr (t : Nat) (p : List (Nat × Nat)) (i j : Nat)
  | junk

def AV.cells : AV → List AV
  | .agg cs => cs
  | a => [a]

/-- The cells from 'o' on of block b hold ys. -/
def At (w : World) (b o : Nat) (ys : List Value) : Prop := ∀ j y, ys[j]? = some y → w.cell? ⟨b, o + j, none⟩ = some y

def Agree (X : Nat → Prop) (w w' : World) : Prop := ∀ b, X b → w'.heap[b]? = w.heap[b]?

theorem Agree.mono {X Y : Nat → Prop} {w w' : World} (h : Agree X w w') (hY : ∀ b, Y b → X b) : Agree Y w w' := fun b hb => h b (hY b hb)
theorem Agree.refl (X : Nat → Prop) (w : World) : Agree X w w := fun _ _ => rfl
theorem Agree.trans {X : Nat → Prop} {a b c : World} (h : Agree X a b) (k : Agree X b c) : Agree X a c := fun x hx => (k x hx).trans (h x hx)

theorem At.agree {w w' : World} {b o : Nat} {ys : List Value} (h : At w b o ys) (k : w'.heap[b]? = w.heap[b]?) : At w' b o ys := fun j y hj => by
  rw [World.cell?_of_block (w := w) k]; exact h j y hj

mutual
/-- 'In w the value y reads as a, and all the memory that is read lies in blocks of F.' -/
def Rep (w : World) (F : Nat → Prop) : AV → Value → Prop
  | .v x, y => y = x ∧ x.oneCell' = true
  | .agg cs, y => ∃ ys : Array Value, y = .agg ys ∧ RepL w F cs ys.toList
  | .tup vs, y => ∃ ys : Array Value, y = .tuple ys ∧ RepL w F vs ys.toList
  | .sl nl sz es, y => ∃ a len cap, y = .slice a len cap ∧ len = es.length ∧ len ≤ cap ∧ cap ≤ maxLen ∧
      ((a = none ∧ nl = true ∧ len = 0 ∧ cap = 0) ∨ (∃ b o, a = some ⟨b, o, none⟩ ∧ nl = false ∧ RepRow w F b sz o es) ∨ (∃ x, a = some x) ∧ nl = false ∧ es = [])
  | .fp e j, y => ∃ b o x, y = .pointer (some ⟨b, o + j, none⟩) ∧ Rep w F e x ∧ F b ∧ At w b o x.cells.toList ∧ x.cells.size = e.cells.length
  | .fn f caps, y => ∃ cv : Array Value, y = .func (.func f) #[] cv ∧ RepL w F caps cv.toList
  | .ref _ _ _ _, _ => False
  | .ptr _ _ _ _, _ => False
  | .junk, _ => True
def RepL (w : World) (F : Nat → Prop) : List AV → List Value → Prop
  | [], ys => ys = []
  | c :: cs, ys => ∃ y ys', ys = y :: ys' ∧ Rep w F c y ∧ RepL w F cs ys'
def RepRow (w : World) (F : Nat → Prop) (b sz : Nat) : Nat → List AV → Prop
  | _, [] => True
  | o, e :: es => (∃ x, Rep w F e x ∧ x.cells.size = sz ∧ e.cells.length = sz ∧ F b ∧ At w b o x.cells.toList) ∧ RepRow w F b sz (o + sz) es
end

mutual
/-- 'The same, and the memory is the call's own: every slice's row a block of S, no block met twice'; what is only read (F) may hang in it. -/
def Own (w : World) (d : Bool) (F : Nat → Prop) : (Nat → Prop) → AV → Value → Prop
  | _, .v x, y => y = x ∧ x.oneCell' = true
  | S, .agg cs, y => ∃ ys : Array Value, y = .agg ys ∧ OwnL w d F S cs ys.toList
  | S, .tup vs, y => ∃ ys : Array Value, y = .tuple ys ∧ OwnL w d F S vs ys.toList
  | S, .sl nl sz es, y => (∃ a len cap, y = .slice a len cap ∧ len = es.length ∧ len ≤ cap ∧ cap ≤ maxLen ∧
      ((a = none ∧ nl = true ∧ len = 0 ∧ cap = 0) ∨ ∃ b o cs T, a = some ⟨b, o, none⟩ ∧ nl = false ∧ S b ∧ w.heap[b]? = some (.cells cs T (0, 0)) ∧ o + cap * sz ≤ cs.size ∧
        OwnRow w d F (fun x => S x ∧ x ≠ b) b sz o es)) ∨ (d = false ∧ Rep w F (.sl nl sz es) y)
  | _, .fp e j, y => d = false ∧ Rep w F (.fp e j) y
  | _, .fn f caps, y => d = false ∧ Rep w F (.fn f caps) y
  | _, .ref _ _ _ _, _ => False
  | _, .ptr _ _ _ _, _ => False
  | _, .junk, _ => True
def OwnL (w : World) (d : Bool) (F : Nat → Prop) : (Nat → Prop) → List AV → List Value → Prop
  | _, [], ys => ys = []
  | S, c :: cs, ys => ∃ y ys' S1 S2, ys = y :: ys' ∧ (∀ b, S1 b → S b) ∧ (∀ b, S2 b → S b) ∧ (∀ b, S1 b → ¬ S2 b) ∧ Own w d F S1 c y ∧ OwnL w d F S2 cs ys'
def OwnRow (w : World) (d : Bool) (F : Nat → Prop) : (Nat → Prop) → Nat → Nat → Nat → List AV → Prop
  | _, _, _, _, [] => True
  | S, b, sz, o, e :: es => ∃ x S1 S2, (∀ b, S1 b → S b) ∧ (∀ b, S2 b → S b) ∧ (∀ b, S1 b → ¬ S2 b) ∧ Own w d F S1 e x ∧ x.cells.size = sz ∧ e.cells.length = sz ∧ At w b o x.cells.toList ∧ OwnRow w d F S2 b sz (o + sz) es
end

/-- A slice of the call's own: its row is a block of S, of the call's own. -/
def Excl (w : World) (d : Bool) (F S : Nat → Prop) (nl : Bool) (sz : Nat) (es : List AV) (y : Value) : Prop :=
  ∃ a len cap, y = .slice a len cap ∧ len = es.length ∧ len ≤ cap ∧ cap ≤ maxLen ∧
      ((a = none ∧ nl = true ∧ len = 0 ∧ cap = 0) ∨ ∃ b o cs T, a = some ⟨b, o, none⟩ ∧ nl = false ∧ S b ∧ w.heap[b]? = some (.cells cs T (0, 0)) ∧ o + cap * sz ≤ cs.size ∧
        OwnRow w d F (fun x => S x ∧ x ≠ b) b sz o es)

mutual
theorem Rep.agree {w w' : World} {F F' : Nat → Prop} (hF : ∀ b, F b → F' b) (h : Agree F w w') : ∀ (a : AV) (y : Value), Rep w F a y → Rep w' F' a y
  | .v _, _, k => by simpa [Rep] using k
  | .agg cs, y, k => by
    simp only [Rep] at k ⊢; obtain ⟨ys, rfl, k⟩ := k; exact ⟨ys, rfl, RepL.agree hF h cs _ k⟩
  | .tup cs, y, k => by
    simp only [Rep] at k ⊢; obtain ⟨ys, rfl, k⟩ := k; exact ⟨ys, rfl, RepL.agree hF h cs _ k⟩
  | .sl nl sz es, y, k => by
    simp only [Rep] at k ⊢
    obtain ⟨a, len, cap, rfl, h1, h2, h3, k⟩ := k
    refine ⟨a, len, cap, rfl, h1, h2, h3, ?_⟩
    rcases k with k | ⟨b, o, rfl, rfl, k⟩ | k
    · exact .inl k
    · exact .inr (.inl ⟨b, o, rfl, rfl, RepRow.agree hF h b sz o es k⟩)
    · exact .inr (.inr k)
  | .fp e j, y, k => by
    simp only [Rep] at k ⊢
    obtain ⟨b, o, x, rfl, k1, k2, k3, k4⟩ := k
    exact ⟨b, o, x, rfl, Rep.agree hF h e x k1, hF b k2, k3.agree (h b k2), k4⟩
  | .fn f cs, y, k => by
    simp only [Rep] at k ⊢; obtain ⟨ys, rfl, k⟩ := k; exact ⟨ys, rfl, RepL.agree hF h cs _ k⟩
  | .ref _ _ _ _, _, k => by simp [Rep] at k
  | .ptr _ _ _ _, _, k => by simp [Rep] at k
  | .junk, _, _ => by simp [Rep]
theorem RepL.agree {w w' : World} {F F' : Nat → Prop} (hF : ∀ b, F b → F' b) (h : Agree F w w') : ∀ (a : List AV) (y : List Value), RepL w F a y → RepL w' F' a y
  | [], _, k => by simpa [RepL] using k
  | c :: cs, y, k => by
    simp only [RepL] at k ⊢
    obtain ⟨y, ys, rfl, k1, k2⟩ := k
    exact ⟨y, ys, rfl, Rep.agree hF h c y k1, RepL.agree hF h cs ys k2⟩
theorem RepRow.agree {w w' : World} {F F' : Nat → Prop} (hF : ∀ b, F b → F' b) (h : Agree F w w') (b sz : Nat) : ∀ (o : Nat) (es : List AV), RepRow w F b sz o es → RepRow w' F' b sz o es
  | _, [], _ => by simp [RepRow]
  | o, e :: es, k => by
    simp only [RepRow] at k ⊢
    obtain ⟨⟨x, k1, k2, k2', k3, k4⟩, k5⟩ := k
    exact ⟨⟨x, Rep.agree hF h e x k1, k2, k2', hF b k3, k4.agree (h b k3)⟩, RepRow.agree hF h b sz (o + sz) es k5⟩
end

mutual
theorem Own.agree {w w' : World} {d : Bool} {F F' : Nat → Prop} (hF : ∀ b, F b → F' b) (hA : Agree F w w') : ∀ {S S' : Nat → Prop}, (∀ b, S b → S' b) → Agree S w w' → ∀ (a : AV) (y : Value), Own w d F S a y → Own w' d F' S' a y
  | S, S', hS, h, .v _, _, k => by simpa [Own] using k
  | S, S', hS, h, .agg cs, y, k => by
    simp only [Own] at k ⊢; obtain ⟨ys, rfl, k⟩ := k; exact ⟨ys, rfl, OwnL.agree hF hA hS h cs _ k⟩
  | S, S', hS, h, .tup cs, y, k => by
    simp only [Own] at k ⊢; obtain ⟨ys, rfl, k⟩ := k; exact ⟨ys, rfl, OwnL.agree hF hA hS h cs _ k⟩
  | S, S', hS, h, .sl nl sz es, y, k => by
    simp only [Own] at k ⊢
    rcases k with ⟨a, len, cap, rfl, h1, h2, h3, k⟩ | k
    · refine .inl ⟨a, len, cap, rfl, h1, h2, h3, ?_⟩
      rcases k with k | ⟨b, o, cs, T, rfl, rfl, hb, hcs, hsz, k⟩
      · exact .inl k
      · exact .inr ⟨b, o, cs, T, rfl, rfl, hS b hb, by rw [h b hb]; exact hcs, hsz, OwnRow.agree hF hA (fun x hx => ⟨hS x hx.1, hx.2⟩) (h.mono fun x hx => hx.1) b sz o (h b hb) es k⟩
    · exact .inr ⟨k.1, Rep.agree hF hA _ _ k.2⟩
  | S, S', hS, h, .fp e j, y, k => by simp only [Own] at k ⊢; exact ⟨k.1, Rep.agree hF hA _ _ k.2⟩
  | S, S', hS, h, .fn f cs, y, k => by simp only [Own] at k ⊢; exact ⟨k.1, Rep.agree hF hA _ _ k.2⟩
  | _, _, _, _, .ref _ _ _ _, _, k => by simp [Own] at k
  | _, _, _, _, .ptr _ _ _ _, _, k => by simp [Own] at k
  | _, _, _, _, .junk, _, _ => by simp [Own]
theorem OwnL.agree {w w' : World} {d : Bool} {F F' : Nat → Prop} (hF : ∀ b, F b → F' b) (hA : Agree F w w') : ∀ {S S' : Nat → Prop}, (∀ b, S b → S' b) → Agree S w w' → ∀ (a : List AV) (y : List Value), OwnL w d F S a y → OwnL w' d F' S' a y
  | _, _, _, _, [], _, k => by simpa [OwnL] using k
  | S, S', hS, h, c :: cs, y, k => by
    simp only [OwnL] at k ⊢
    obtain ⟨y, ys, S1, S2, rfl, h1, h2, h3, k1, k2⟩ := k
    exact ⟨y, ys, S1, S2, rfl, fun b hb => hS b (h1 b hb), fun b hb => hS b (h2 b hb), h3, Own.agree hF hA (fun _ hb => hb) (h.mono h1) c y k1, OwnL.agree hF hA (fun _ hb => hb) (h.mono h2) cs ys k2⟩
theorem OwnRow.agree {w w' : World} {d : Bool} {F F' : Nat → Prop} (hF : ∀ b, F b → F' b) (hA : Agree F w w') : ∀ {S S' : Nat → Prop}, (∀ b, S b → S' b) → Agree S w w' → ∀ (b sz o : Nat), w'.heap[b]? = w.heap[b]? → ∀ (es : List AV), OwnRow w d F S b sz o es → OwnRow w' d F' S' b sz o es
  | _, _, _, _, _, _, _, _, [], _ => by simp [OwnRow]
  | S, S', hS, h, b, sz, o, hb, e :: es, k => by
    simp only [OwnRow] at k ⊢
    obtain ⟨x, S1, S2, h1, h2, h3, k1, k2, k2', k3, k4⟩ := k
    exact ⟨x, S1, S2, fun b hb => hS b (h1 b hb), fun b hb => hS b (h2 b hb), h3, Own.agree hF hA (fun _ hb => hb) (h.mono h1) e x k1, k2, k2', k3.agree hb, OwnRow.agree hF hA (fun _ hb => hb) (h.mono h2) b sz (o + sz) hb es k4⟩
end

mutual
/-- What is owned reads so. -/
theorem Own.rep {w : World} {d : Bool} {F : Nat → Prop} : ∀ {S : Nat → Prop} (a : AV) (y : Value), Own w d F S a y → Rep w (fun b => F b ∨ S b) a y
  | S, .v _, _, k => by simpa [Own, Rep] using k
  | S, .agg cs, y, k => by
    simp only [Own, Rep] at k ⊢; obtain ⟨ys, rfl, k⟩ := k; exact ⟨ys, rfl, OwnL.rep cs _ k⟩
  | S, .tup cs, y, k => by
    simp only [Own, Rep] at k ⊢; obtain ⟨ys, rfl, k⟩ := k; exact ⟨ys, rfl, OwnL.rep cs _ k⟩
  | S, .sl nl sz es, y, k => by
    simp only [Own] at k
    rcases k with ⟨a, len, cap, rfl, h1, h2, h3, k⟩ | k
    · simp only [Rep]
      refine ⟨a, len, cap, rfl, h1, h2, h3, ?_⟩
      rcases k with k | ⟨b, o, cs, T, rfl, rfl, hb, hcs, hsz, k⟩
      · exact .inl k
      · exact .inr (.inl ⟨b, o, rfl, rfl, OwnRow.rep (fun x hx => hx.1) hb sz o es k⟩)
    · exact Rep.agree (fun _ hb => .inl hb) (Agree.refl _ _) _ _ k.2
  | S, .fp e j, y, k => by simp only [Own] at k; exact Rep.agree (fun _ hb => .inl hb) (Agree.refl _ _) _ _ k.2
  | S, .fn f cs, y, k => by simp only [Own] at k; exact Rep.agree (fun _ hb => .inl hb) (Agree.refl _ _) _ _ k.2
  | _, .ref _ _ _ _, _, k => by simp [Own] at k
  | _, .ptr _ _ _ _, _, k => by simp [Own] at k
  | _, .junk, _, _ => by simp [Rep]
theorem OwnL.rep {w : World} {d : Bool} {F : Nat → Prop} : ∀ {S : Nat → Prop} (a : List AV) (y : List Value), OwnL w d F S a y → RepL w (fun b => F b ∨ S b) a y
  | _, [], _, k => by simpa [OwnL, RepL] using k
  | S, c :: cs, y, k => by
    simp only [OwnL, RepL] at k ⊢
    obtain ⟨y, ys, S1, S2, rfl, h1, h2, h3, k1, k2⟩ := k
    exact ⟨y, ys, rfl, Rep.agree (fun b hb => hb.imp id (h1 b)) (Agree.refl _ _) _ _ (Own.rep c y k1), RepL.agree (fun b hb => hb.imp id (h2 b)) (Agree.refl _ _) _ _ (OwnL.rep cs ys k2)⟩
theorem OwnRow.rep {w : World} {d : Bool} {F S' : Nat → Prop} {b : Nat} : ∀ {S : Nat → Prop}, (∀ b, S b → S' b) → S' b → ∀ (sz o : Nat) (es : List AV), OwnRow w d F S b sz o es → RepRow w (fun b => F b ∨ S' b) b sz o es
  | _, _, _, _, _, [], _ => by simp [RepRow]
  | S, hS, hb, sz, o, e :: es, k => by
    simp only [OwnRow, RepRow] at k ⊢
    obtain ⟨x, S1, S2, h1, h2, h3, k1, k2, k2', k3, k4⟩ := k
    exact ⟨⟨x, Rep.agree (fun b hb => hb.imp id (fun hb => hS b (h1 b hb))) (Agree.refl _ _) _ _ (Own.rep e x k1), k2, k2', .inr hb, k3⟩, OwnRow.rep (fun b hb => hS b (h2 b hb)) hb sz (o + sz) es k4⟩
end

/-- An element of a row that is read. -/
theorem RepRow.get {w : World} {F : Nat → Prop} {b sz : Nat} : ∀ {o : Nat} {es : List AV}, RepRow w F b sz o es → ∀ (i : Nat) (e : AV), es[i]? = some e →
    ∃ x, Rep w F e x ∧ x.cells.size = sz ∧ e.cells.length = sz ∧ F b ∧ At w b (o + i * sz) x.cells.toList
  | _, [], _, i, e, h => by simp at h
  | o, e' :: es, k, 0, e, h => by
    simp only [RepRow] at k; simp at h; subst h; simpa using k.1
  | o, e' :: es, k, i + 1, e, h => by
    simp only [RepRow] at k
    have := RepRow.get k.2 i e (by simpa using h)
    rw [show o + (i + 1) * sz = o + sz + i * sz from by rw [Nat.add_mul]; omega]; exact this

theorem RepRow.mk {w : World} {F : Nat → Prop} {b sz : Nat} : ∀ {o : Nat} {es : List AV}, (∀ (i : Nat) (e : AV), es[i]? = some e →
    ∃ x, Rep w F e x ∧ x.cells.size = sz ∧ e.cells.length = sz ∧ F b ∧ At w b (o + i * sz) x.cells.toList) → RepRow w F b sz o es
  | _, [], _ => by simp [RepRow]
  | o, e :: es, k => by
    simp only [RepRow]
    refine ⟨by simpa using k 0 e (by simp), RepRow.mk fun i e' h => ?_⟩
    have := k (i + 1) e' (by simpa using h)
    rw [show o + (i + 1) * sz = o + sz + i * sz from by rw [Nat.add_mul]; omega] at this; exact this

theorem RepL.length {w : World} {F : Nat → Prop} : ∀ {cs : List AV} {ys : List Value}, RepL w F cs ys → ys.length = cs.length
  | [], _, k => by simp only [RepL] at k; simp [k]
  | c :: cs, _, k => by
    simp only [RepL] at k
    obtain ⟨y, ys, rfl, _, k2⟩ := k
    simp [RepL.length k2]

theorem RepL.get {w : World} {F : Nat → Prop} : ∀ {cs : List AV} {ys : List Value}, RepL w F cs ys → ∀ (i : Nat) (c : AV), cs[i]? = some c → ∃ y, ys[i]? = some y ∧ Rep w F c y
  | [], _, _, i, c, h => by simp at h
  | c :: cs, _, k, 0, c', h => by
    simp only [RepL] at k; obtain ⟨y, ys, rfl, k1, _⟩ := k; simp at h; subst h; exact ⟨y, by simp, k1⟩
  | c :: cs, _, k, i + 1, c', h => by
    simp only [RepL] at k
    obtain ⟨y, ys, rfl, _, k2⟩ := k
    obtain ⟨y', h1, h2⟩ := RepL.get k2 i c' (by simpa using h)
    exact ⟨y', by simpa using h1, h2⟩

end Go.Proofs.Ytehfjhenilkofaa.Ax
