/-
 A small logic of my own over the model: abstract values that stand for what a slice, a struct, a pointer reads as; when a value of the model stands for one of them. No condition.
-/
import Derived.WalkKit
import Derived.OrdersIn
import Derived.LoopNIn
import Derived.RangeFuncOwn
import Derived.RangeFuncCalls
import Derived.Test.YtompijgfpeibnaaGreatDoorProg
import Derived.Lib.ItoaNum
namespace Go.Proofs.YtompijgfpeibnaaGreatDoor.Ax
open Go Go.RowKit
inductive AV where
 | v (x : Value)
 | agg (cs : List AV)
 | tup (vs : List AV)
 | sl (nl : Bool) (sz : Nat) (es : List AV)
 | fp (e : AV) (j : Nat)
 | fn (f : FuncId) (caps : List AV)
 | ref (t : Nat) (p : List (Nat × Nat)) (lo n : Nat)
 | ptr (t : Nat) (p : List (Nat × Nat)) (i j : Nat)
 | junk
def AV.cells : AV → List AV
 | .agg cs => cs
 | a => [a]
def At (w : World) (b o : Nat) (ys : List Value) : Prop := ∀ j y, ys[j]? = some y → w.cell? ⟨b, o + j, none⟩ = some y
def Agree (X : Nat → Prop) (w w' : World) : Prop := ∀ b, X b → w'.heap[b]? = w.heap[b]?
theorem Agree.mono {X Y : Nat → Prop} {w w' : World} (h : Agree X w w') (hY : ∀ b, Y b → X b) : Agree Y w w' := fun b hb => h b (hY b hb)
theorem Agree.refl (X : Nat → Prop) (w : World) : Agree X w w := fun _ _ => rfl
theorem At.agree {w w' : World} {b o : Nat} {ys : List Value} (h : At w b o ys) (k : w'.heap[b]? = w.heap[b]?) : At w' b o ys := fun j y hj => by
 rw [World.cell?_of_block (w := w) k]; exact h j y hj
mutual
def Rep (w : World) (F : Nat → Prop) : AV → Value → Prop
 | .v x, y => y = x ∧ x.oneCell' = true
 | .agg cs, y => ∃ ys : Array Value, y = .agg ys ∧ RepL w F cs ys.toList
 | .tup vs, y => ∃ ys : Array Value, y = .tuple ys ∧ RepL w F vs ys.toList
 | .sl nl sz es, y => ∃ a len cap, y = .slice a len cap ∧ len = es.length ∧ len ≤ cap ∧ cap ≤ maxLen ∧
   ((a = none ∧ nl = true ∧ len = 0 ∧ cap = 0) ∨ (∃ b o, a = some ⟨b, o, none⟩ ∧ nl = false ∧ RepRow w F b sz o es) ∨ (∃ x, a = some x) ∧ nl = false ∧ es = [])
 | .fp e j, y => ∃ b o x, y = .pointer (some ⟨b, o + j, none⟩) ∧ Rep w F e x ∧ F b ∧ At w b o x.cells.toList ∧ x.cells.size = e.cells.length
 | .fn f caps, y => ∃ cv : Array Value, y = .func (.func f) #[] cv ∧ RepL w F caps cv.toList
 | .ref _ _ _ _, _ => False
 | .ptr _ _ _ _, _ => False
 | .junk, _ => True
def RepL (w : World) (F : Nat → Prop) : List AV → List Value → Prop
 | [], ys => ys = []
 | c :: cs, ys => ∃ y ys', ys = y :: ys' ∧ Rep w F c y ∧ RepL w F cs ys'
def RepRow (w : World) (F : Nat → Prop) (b sz : Nat) : Nat → List AV → Prop
 | _, [] => True
 | o, e :: es => (∃ x, Rep w F e x ∧ x.cells.size = sz ∧ e.cells.length = sz ∧ F b ∧ At w b o x.cells.toList) ∧ RepRow w F b sz (o + sz) es
end
mutual
def Own (w : World) (d : Bool) (F : Nat → Prop) : (Nat → Prop) → AV → Value → Prop
 | _, .v x, y => y = x ∧ x.oneCell' = true
 | S, .agg cs, y => ∃ ys : Array Value, y = .agg ys ∧ OwnL w d F S cs ys.toList
 | S, .tup vs, y => ∃ ys : Array Value, y = .tuple ys ∧ OwnL w d F S vs ys.toList
 | S, .sl nl sz es, y => (∃ a len cap, y = .slice a len cap ∧ len = es.length ∧ len ≤ cap ∧ cap ≤ maxLen ∧
   ((a = none ∧ nl = true ∧ len = 0 ∧ cap = 0) ∨ ∃ b o cs T, a = some ⟨b, o, none⟩ ∧ nl = false ∧ S b ∧ w.heap[b]? = some (.cells cs T (0, 0)) ∧ o + cap * sz ≤ cs.size ∧
    OwnRow w d F (fun x => S x ∧ x ≠ b) b sz o es)) ∨ (d = false ∧ Rep w F (.sl nl sz es) y)
 | _, .fp e j, y => d = false ∧ Rep w F (.fp e j) y
 | _, .fn f caps, y => d = false ∧ Rep w F (.fn f caps) y
 | _, .ref _ _ _ _, _ => False
 | _, .ptr _ _ _ _, _ => False
 | _, .junk, _ => True
def OwnL (w : World) (d : Bool) (F : Nat → Prop) : (Nat → Prop) → List AV → List Value → Prop
 | _, [], ys => ys = []
 | S, c :: cs, ys => ∃ y ys' S1 S2, ys = y :: ys' ∧ (∀ b, S1 b → S b) ∧ (∀ b, S2 b → S b) ∧ (∀ b, S1 b → ¬ S2 b) ∧ Own w d F S1 c y ∧ OwnL w d F S2 cs ys'
def OwnRow (w : World) (d : Bool) (F : Nat → Prop) : (Nat → Prop) → Nat → Nat → Nat → List AV → Prop
 | _, _, _, _, [] => True
 | S, b, sz, o, e :: es => ∃ x S1 S2, (∀ b, S1 b → S b) ∧ (∀ b, S2 b → S b) ∧ (∀ b, S1 b → ¬ S2 b) ∧ Own w d F S1 e x ∧ x.cells.size = sz ∧ e.cells.length = sz ∧ At w b o x.cells.toList ∧ OwnRow w d F S2 b sz (o + sz) es
end
def Excl (w : World) (d : Bool) (F S : Nat → Prop) (nl : Bool) (sz : Nat) (es : List AV) (y : Value) : Prop :=
 ∃ a len cap, y = .slice a len cap ∧ len = es.length ∧ len ≤ cap ∧ cap ≤ maxLen ∧
   ((a = none ∧ nl = true ∧ len = 0 ∧ cap = 0) ∨ ∃ b o cs T, a = some ⟨b, o, none⟩ ∧ nl = false ∧ S b ∧ w.heap[b]? = some (.cells cs T (0, 0)) ∧ o + cap * sz ≤ cs.size ∧
    OwnRow w d F (fun x => S x ∧ x ≠ b) b sz o es)
mutual
theorem Rep.agree {w w' : World} {F F' : Nat → Prop} (hF : ∀ b, F b → F' b) (h : Agree F w w') : ∀ (a : AV) (y : Value), Rep w F a y → Rep w' F' a y
 | .v _, _, k => by simpa [Rep] using k
 | .agg cs, y, k => by
  simp only [Rep] at k ⊢; obtain ⟨ys, rfl, k⟩ := k; exact ⟨ys, rfl, RepL.agree hF h cs _ k⟩
 | .tup cs, y, k => by
  simp only [Rep] at k ⊢; obtain ⟨ys, rfl, k⟩ := k; exact ⟨ys, rfl, RepL.agree hF h cs _ k⟩
 | .sl nl sz es, y, k => by
  simp only [Rep] at k ⊢
  obtain ⟨a, len, cap, rfl, h1, h2, h3, k⟩ := k
  refine ⟨a, len, cap, rfl, h1, h2, h3, ?_⟩
  rcases k with k | ⟨b, o, rfl, rfl, k⟩ | k
  ·exact .inl k
  ·exact .inr (.inl ⟨b, o, rfl, rfl, RepRow.agree hF h b sz o es k⟩)
  ·exact .inr (.inr k)
 | .fp e j, y, k => by
  simp only [Rep] at k ⊢
  obtain ⟨b, o, x, rfl, k1, k2, k3, k4⟩ := k
  exact ⟨b, o, x, rfl, Rep.agree hF h e x k1, hF b k2, k3.agree (h b k2), k4⟩
 | .fn f cs, y, k => by
  simp only [Rep] at k ⊢; obtain ⟨ys, rfl, k⟩ := k; exact ⟨ys, rfl, RepL.agree hF h cs _ k⟩
 | .ref _ _ _ _, _, k => by simp [Rep] at k
 | .ptr _ _ _ _, _, k => by simp [Rep] at k
 | .junk, _, _ => by simp [Rep]
theorem RepL.agree {w w' : World} {F F' : Nat → Prop} (hF : ∀ b, F b → F' b) (h : Agree F w w') : ∀ (a : List AV) (y : List Value), RepL w F a y → RepL w' F' a y
 | [], _, k => by simpa [RepL] using k
 | c :: cs, y, k => by
  simp only [RepL] at k ⊢
  obtain ⟨y, ys, rfl, k1, k2⟩ := k
  exact ⟨y, ys, rfl, Rep.agree hF h c y k1, RepL.agree hF h cs ys k2⟩
theorem RepRow.agree {w w' : World} {F F' : Nat → Prop} (hF : ∀ b, F b → F' b) (h : Agree F w w') (b sz : Nat) : ∀ (o : Nat) (es : List AV), RepRow w F b sz o es → RepRow w' F' b sz o es
 | _, [], _ => by simp [RepRow]
 | o, e :: es, k => by
  simp only [RepRow] at k ⊢
  obtain ⟨⟨x, k1, k2, k2', k3, k4⟩, k5⟩ := k
  exact ⟨⟨x, Rep.agree hF h e x k1, k2, k2', hF b k3, k4.agree (h b k3)⟩, RepRow.agree hF h b sz (o + sz) es k5⟩
end
mutual
theorem Own.agree {w w' : World} {d : Bool} {F F' : Nat → Prop} (hF : ∀ b, F b → F' b) (hA : Agree F w w') : ∀ {S S' : Nat → Prop}, (∀ b, S b → S' b) → Agree S w w' → ∀ (a : AV) (y : Value), Own w d F S a y → Own w' d F' S' a y
 | S, S', hS, h, .v _, _, k => by simpa [Own] using k
 | S, S', hS, h, .agg cs, y, k => by
  simp only [Own] at k ⊢; obtain ⟨ys, rfl, k⟩ := k; exact ⟨ys, rfl, OwnL.agree hF hA hS h cs _ k⟩
 | S, S', hS, h, .tup cs, y, k => by
  simp only [Own] at k ⊢; obtain ⟨ys, rfl, k⟩ := k; exact ⟨ys, rfl, OwnL.agree hF hA hS h cs _ k⟩
 | S, S', hS, h, .sl nl sz es, y, k => by
  simp only [Own] at k ⊢
  rcases k with ⟨a, len, cap, rfl, h1, h2, h3, k⟩ | k
  ·refine .inl ⟨a, len, cap, rfl, h1, h2, h3, ?_⟩
   rcases k with k | ⟨b, o, cs, T, rfl, rfl, hb, hcs, hsz, k⟩
   ·exact .inl k
   ·exact .inr ⟨b, o, cs, T, rfl, rfl, hS b hb, by rw [h b hb]; exact hcs, hsz, OwnRow.agree hF hA (fun x hx => ⟨hS x hx.1, hx.2⟩) (h.mono fun x hx => hx.1) b sz o (h b hb) es k⟩
  ·exact .inr ⟨k.1, Rep.agree hF hA _ _ k.2⟩
 | S, S', hS, h, .fp e j, y, k => by simp only [Own] at k ⊢; exact ⟨k.1, Rep.agree hF hA _ _ k.2⟩
 | S, S', hS, h, .fn f cs, y, k => by simp only [Own] at k ⊢; exact ⟨k.1, Rep.agree hF hA _ _ k.2⟩
 | _, _, _, _, .ref _ _ _ _, _, k => by simp [Own] at k
 | _, _, _, _, .ptr _ _ _ _, _, k => by simp [Own] at k
 | _, _, _, _, .junk, _, _ => by simp [Own]
theorem OwnL.agree {w w' : World} {d : Bool} {F F' : Nat → Prop} (hF : ∀ b, F b → F' b) (hA : Agree F w w') : ∀ {S S' : Nat → Prop}, (∀ b, S b → S' b) → Agree S w w' → ∀ (a : List AV) (y : List Value), OwnL w d F S a y → OwnL w' d F' S' a y
 | _, _, _, _, [], _, k => by simpa [OwnL] using k
 | S, S', hS, h, c :: cs, y, k => by
  simp only [OwnL] at k ⊢
  obtain ⟨y, ys, S1, S2, rfl, h1, h2, h3, k1, k2⟩ := k
  exact ⟨y, ys, S1, S2, rfl, fun b hb => hS b (h1 b hb), fun b hb => hS b (h2 b hb), h3, Own.agree hF hA (fun _ hb => hb) (h.mono h1) c y k1, OwnL.agree hF hA (fun _ hb => hb) (h.mono h2) cs ys k2⟩
theorem OwnRow.agree {w w' : World} {d : Bool} {F F' : Nat → Prop} (hF : ∀ b, F b → F' b) (hA : Agree F w w') : ∀ {S S' : Nat → Prop}, (∀ b, S b → S' b) → Agree S w w' → ∀ (b sz o : Nat), w'.heap[b]? = w.heap[b]? → ∀ (es : List AV), OwnRow w d F S b sz o es → OwnRow w' d F' S' b sz o es
 | _, _, _, _, _, _, _, _, [], _ => by simp [OwnRow]
 | S, S', hS, h, b, sz, o, hb, e :: es, k => by
  simp only [OwnRow] at k ⊢
  obtain ⟨x, S1, S2, h1, h2, h3, k1, k2, k2', k3, k4⟩ := k
  exact ⟨x, S1, S2, fun b hb => hS b (h1 b hb), fun b hb => hS b (h2 b hb), h3, Own.agree hF hA (fun _ hb => hb) (h.mono h1) e x k1, k2, k2', k3.agree hb, OwnRow.agree hF hA (fun _ hb => hb) (h.mono h2) b sz (o + sz) hb es k4⟩
end
mutual
theorem Own.rep {w : World} {d : Bool} {F : Nat → Prop} : ∀ {S : Nat → Prop} (a : AV) (y : Value), Own w d F S a y → Rep w (fun b => F b ∨ S b) a y
 | S, .v _, _, k => by simpa [Own, Rep] using k
 | S, .agg cs, y, k => by
  simp only [Own, Rep] at k ⊢; obtain ⟨ys, rfl, k⟩ := k; exact ⟨ys, rfl, OwnL.rep cs _ k⟩
 | S, .tup cs, y, k => by
  simp only [Own, Rep] at k ⊢; obtain ⟨ys, rfl, k⟩ := k; exact ⟨ys, rfl, OwnL.rep cs _ k⟩
 | S, .sl nl sz es, y, k => by
  simp only [Own] at k
  rcases k with ⟨a, len, cap, rfl, h1, h2, h3, k⟩ | k
  ·simp only [Rep]
   refine ⟨a, len, cap, rfl, h1, h2, h3, ?_⟩
   rcases k with k | ⟨b, o, cs, T, rfl, rfl, hb, hcs, hsz, k⟩
   ·exact .inl k
   ·exact .inr (.inl ⟨b, o, rfl, rfl, OwnRow.rep (fun x hx => hx.1) hb sz o es k⟩)
  ·exact Rep.agree (fun _ hb => .inl hb) (Agree.refl _ _) _ _ k.2
 | S, .fp e j, y, k => by simp only [Own] at k; exact Rep.agree (fun _ hb => .inl hb) (Agree.refl _ _) _ _ k.2
 | S, .fn f cs, y, k => by simp only [Own] at k; exact Rep.agree (fun _ hb => .inl hb) (Agree.refl _ _) _ _ k.2
 | _, .ref _ _ _ _, _, k => by simp [Own] at k
 | _, .ptr _ _ _ _, _, k => by simp [Own] at k
 | _, .junk, _, _ => by simp [Rep]
theorem OwnL.rep {w : World} {d : Bool} {F : Nat → Prop} : ∀ {S : Nat → Prop} (a : List AV) (y : List Value), OwnL w d F S a y → RepL w (fun b => F b ∨ S b) a y
 | _, [], _, k => by simpa [OwnL, RepL] using k
 | S, c :: cs, y, k => by
  simp only [OwnL, RepL] at k ⊢
  obtain ⟨y, ys, S1, S2, rfl, h1, h2, h3, k1, k2⟩ := k
  exact ⟨y, ys, rfl, Rep.agree (fun b hb => hb.imp id (h1 b)) (Agree.refl _ _) _ _ (Own.rep c y k1), RepL.agree (fun b hb => hb.imp id (h2 b)) (Agree.refl _ _) _ _ (OwnL.rep cs ys k2)⟩
theorem OwnRow.rep {w : World} {d : Bool} {F S' : Nat → Prop} {b : Nat} : ∀ {S : Nat → Prop}, (∀ b, S b → S' b) → S' b → ∀ (sz o : Nat) (es : List AV), OwnRow w d F S b sz o es → RepRow w (fun b => F b ∨ S' b) b sz o es
 | _, _, _, _, _, [], _ => by simp [RepRow]
 | S, hS, hb, sz, o, e :: es, k => by
  simp only [OwnRow, RepRow] at k ⊢
  obtain ⟨x, S1, S2, h1, h2, h3, k1, k2, k2', k3, k4⟩ := k
  exact ⟨⟨x, Rep.agree (fun b hb => hb.imp id (fun hb => hS b (h1 b hb))) (Agree.refl _ _) _ _ (Own.rep e x k1), k2, k2', .inr hb, k3⟩, OwnRow.rep (fun b hb => hS b (h2 b hb)) hb sz (o + sz) es k4⟩
end
theorem RepRow.get {w : World} {F : Nat → Prop} {b sz : Nat} : ∀ {o : Nat} {es : List AV}, RepRow w F b sz o es → ∀ (i : Nat) (e : AV), es[i]? = some e →
  ∃ x, Rep w F e x ∧ x.cells.size = sz ∧ e.cells.length = sz ∧ F b ∧ At w b (o + i * sz) x.cells.toList
 | _, [], _, i, e, h => by simp at h
 | o, e' :: es, k, 0, e, h => by
  simp only [RepRow] at k; simp at h; subst h; simpa using k.1
 | o, e' :: es, k, i + 1, e, h => by
  simp only [RepRow] at k
  have := RepRow.get k.2 i e (by simpa using h)
  rw [show o + (i + 1) * sz = o + sz + i * sz from by rw [Nat.add_mul]; omega]; exact this
theorem RepRow.mk {w : World} {F : Nat → Prop} {b sz : Nat} : ∀ {o : Nat} {es : List AV}, (∀ (i : Nat) (e : AV), es[i]? = some e →
  ∃ x, Rep w F e x ∧ x.cells.size = sz ∧ e.cells.length = sz ∧ F b ∧ At w b (o + i * sz) x.cells.toList) → RepRow w F b sz o es
 | _, [], _ => by simp [RepRow]
 | o, e :: es, k => by
  simp only [RepRow]
  refine ⟨by simpa using k 0 e (by simp), RepRow.mk fun i e' h => ?_⟩
  have := k (i + 1) e' (by simpa using h)
  rw [show o + (i + 1) * sz = o + sz + i * sz from by rw [Nat.add_mul]; omega] at this; exact this
theorem RepL.length {w : World} {F : Nat → Prop} : ∀ {cs : List AV} {ys : List Value}, RepL w F cs ys → ys.length = cs.length
 | [], _, k => by simp only [RepL] at k; simp [k]
 | c :: cs, _, k => by
  simp only [RepL] at k
  obtain ⟨y, ys, rfl, _, k2⟩ := k
  simp [RepL.length k2]
theorem RepL.get {w : World} {F : Nat → Prop} : ∀ {cs : List AV} {ys : List Value}, RepL w F cs ys → ∀ (i : Nat) (c : AV), cs[i]? = some c → ∃ y, ys[i]? = some y ∧ Rep w F c y
 | [], _, _, i, c, h => by simp at h
 | c :: cs, _, k, 0, c', h => by
  simp only [RepL] at k; obtain ⟨y, ys, rfl, k1, _⟩ := k; simp at h; subst h; exact ⟨y, by simp, k1⟩
 | c :: cs, _, k, i + 1, c', h => by
  simp only [RepL] at k
  obtain ⟨y, ys, rfl, _, k2⟩ := k
  obtain ⟨y', h1, h2⟩ := RepL.get k2 i c' (by simpa using h)
  exact ⟨y', by simpa using h1, h2⟩
open Go Go.RowKit
def getAt : AV → List (Nat × Nat) → AV
 | a, [] => a
 | .sl _ _ es, (i, j) :: p => match es[i]? with
  | some e => (match e.cells[j]? with
   | some c => getAt c p
   | none => .junk)
  | none => .junk
 | _, _ :: _ => .junk
def follow (w : World) : AV → Value → List (Nat × Nat) → Option Value
 | _, v, [] => some v
 | .sl _ sz es, .slice (some ad) _ _, (i, j) :: p => match es[i]? with
  | some e => (match e.cells[j]?, w.cell? ⟨ad.block, ad.off + i * sz + j, none⟩ with
   | some c, some x => follow w c x p
   | _, _ => none)
  | none => none
 | _, _, _ :: _ => none
structure Tok where
 deep : Bool
 row : AV
structure ASt where
 slots : List AV
 toks : List Tok
structure Env where
 F : Nat → Prop
 hd : Nat → Value
 S : Nat → Nat → Prop
def ViewOf (h : Value) (sz lo n : Nat) (y : Value) : Prop :=
 (h = .slice none 0 0 ∧ y = .slice none 0 0) ∨ (n = 0 ∧ y = h ∧ ∃ x c, h = .slice (some x) 0 c) ∨
 ∃ b o hl hc o', h = .slice (some ⟨b, o, none⟩) hl hc ∧ y = .slice (some ⟨b, o', none⟩) n (hc - lo) ∧ (o' = o + lo * sz ∨ (hc = lo ∧ lo ≠ 0 ∧ o' ≤ o + lo * sz))
def RefOk (w : World) (E : Env) (toks : List Tok) (t : Nat) (p : List (Nat × Nat)) (lo n : Nat) (y : Value) : Prop :=
 t < toks.length ∧ ∀ tk nl sz es, toks[t]? = some tk → getAt tk.row p = .sl nl sz es → lo + n ≤ es.length → ∃ h, follow w tk.row (E.hd t) p = some h ∧ ViewOf h sz lo n y
def PtrOk (w : World) (E : Env) (toks : List Tok) (t : Nat) (p : List (Nat × Nat)) (i j : Nat) (y : Value) : Prop :=
 t < toks.length ∧ ∀ tk nl sz es, toks[t]? = some tk → getAt tk.row p = .sl nl sz es → i < es.length → ∃ b o hl hc, follow w tk.row (E.hd t) p = some (.slice (some ⟨b, o, none⟩) hl hc) ∧ y = .pointer (some ⟨b, o + i * sz + j, none⟩)
mutual
def SRep (w : World) (E : Env) (toks : List Tok) : AV → Value → Prop
 | .v x, y => y = x ∧ x.oneCell' = true
 | .agg cs, y => ∃ ys : Array Value, y = .agg ys ∧ SRepL w E toks cs ys.toList
 | .tup vs, y => ∃ ys : Array Value, y = .tuple ys ∧ SRepL w E toks vs ys.toList
 | .sl nl sz es, y => Rep w E.F (.sl nl sz es) y
 | .fp e j, y => Rep w E.F (.fp e j) y
 | .fn f caps, y => ∃ cv : Array Value, y = .func (.func f) #[] cv ∧ SRepL w E toks caps cv.toList
 | .ref t p lo n, y => RefOk w E toks t p lo n y
 | .ptr t p i j, y => PtrOk w E toks t p i j y
 | .junk, _ => True
def SRepL (w : World) (E : Env) (toks : List Tok) : List AV → List Value → Prop
 | [], ys => ys = []
 | c :: cs, ys => ∃ y ys', ys = y :: ys' ∧ SRep w E toks c y ∧ SRepL w E toks cs ys'
end
theorem SRepL.get {w : World} {E : Env} {toks : List Tok} : ∀ {cs : List AV} {ys : List Value}, SRepL w E toks cs ys → ∀ (i : Nat) (c : AV), cs[i]? = some c → ∃ y, ys[i]? = some y ∧ SRep w E toks c y
 | [], _, _, i, c, h => by simp at h
 | c :: cs, _, k, 0, c', h => by
  simp only [SRepL] at k; obtain ⟨y, ys, rfl, k1, _⟩ := k; simp at h; subst h; exact ⟨y, by simp, k1⟩
 | c :: cs, _, k, i + 1, c', h => by
  simp only [SRepL] at k
  obtain ⟨y, ys, rfl, _, k2⟩ := k
  obtain ⟨y', h1, h2⟩ := SRepL.get k2 i c' (by simpa using h)
  exact ⟨y', by simpa using h1, h2⟩
structure RD where
 prs : List (Nat × Nat)
 cs : List Nat
 wr : List Nat
def dtGet : List (Nat × RD) → Nat → RD
 | [], _ => ⟨[], [], []⟩
 | (k, d) :: l, i => if k = i then d else dtGet l i
structure Ld where
 U : Nat → Prop
 idx : List Nat
 pin : Nat → Value
 dt : List (Nat × RD)
 ro : Option Nat
 A : Nat → Prop
 nm : Bool
instance : CoeFun Ld (fun _ => Nat → Prop) := ⟨Ld.U⟩
def noLd (dt : List (Nat × RD)) : Ld := ⟨fun _ => False, [], fun _ => undef, dt, none, fun _ => True, false⟩
theorem noLd_dt {dt : List (Nat × RD)} : (noLd dt).dt = dt := rfl
def mkLd (S : Nat → Prop) (idx : List Nat) (v : Value) (dt : List (Nat × RD)) : Ld := ⟨S, idx, fun _ => v, dt, none, fun _ => True, false⟩
def ldR (S : Nat → Prop) (idx : List Nat) (pin : Nat → Value) (dt : List (Nat × RD)) (l : Nat) : Ld := ⟨S, idx, pin, dt, some l, fun b => b ≠ l, false⟩
def frzLd (A : Nat → Prop) (dt : List (Nat × RD)) : Ld := ⟨fun _ => False, [], fun _ => undef, dt, none, A, true⟩
theorem frzLd_dt {A : Nat → Prop} {dt : List (Nat × RD)} : (frzLd A dt).dt = dt := rfl
theorem ldR_dt {S : Nat → Prop} {idx : List Nat} {pin : Nat → Value} {dt : List (Nat × RD)} {l : Nat} : (ldR S idx pin dt l).dt = dt := rfl
theorem mkLd_dt {S : Nat → Prop} {idx : List Nat} {v : Value} {dt : List (Nat × RD)} : (mkLd S idx v dt).dt = dt := rfl
structure Frm (U : Nat → Prop) (w w' : World) : Prop where
 os : w'.os = w.os
 tape : w'.tape = w.tape
 output : w'.output = w.output
 size : w.heap.size ≤ w'.heap.size
 block : ∀ k, k < w.heap.size → ¬ U k → w'.heap[k]? = w.heap[k]?
theorem Frm.refl (U : Nat → Prop) (w : World) : Frm U w w := ⟨rfl, rfl, rfl, Nat.le_refl _, fun _ _ _ => rfl⟩
def MarksD (F : Nat → Prop) (w0 w : World) (ds : List Deferred) : Prop := ∃ Ds : List Nat, ds = Ds.map (fun D => ({ target := .collected D, args := #[] } : Deferred)) ∧ Ds.Nodup ∧ ∀ D ∈ Ds, F D ∧ w0.heap.size ≤ D ∧ w.heap[D]? = some (.deferred (some []))
theorem MarksD.nil {F : Nat → Prop} {w0 w : World} : MarksD F w0 w [] := ⟨[], rfl, List.nodup_nil, by simp⟩
theorem MarksD.mono {F F' : Nat → Prop} {w0 w w' : World} {ds : List Deferred} (h : MarksD F w0 w ds) (hF : ∀ b, F b → F' b) (hA : Agree F w w') : MarksD F' w0 w' ds := by
 obtain ⟨Ds, h1, h2, h3⟩ := h
 exact ⟨Ds, h1, h2, fun D hD => ⟨hF D (h3 D hD).1, (h3 D hD).2.1, (hA D (h3 D hD).1).trans (h3 D hD).2.2⟩⟩
def GlT (F : Nat → Prop) (w : World) : Prop := ∀ g, Tryz.prog.globalNamed "internal/strconv.uint64pow10" = some g → F g ∧ ∃ x y, w.heap[g]? = some (.cells (Lib.pow10Tab.map fun z => Value.int .u64 z).toArray x y)
theorem GlT.mono {F F' : Nat → Prop} {w : World} (h : GlT F w) (hF : ∀ b, F b → F' b) : GlT F' w := fun g hg => ⟨hF _ (h g hg).1, (h g hg).2⟩
theorem GlT.agree {F : Nat → Prop} {w w' : World} (h : GlT F w) (hA : Agree F w w') : GlT F w' := fun g hg => by
 obtain ⟨h1, x, y, h2⟩ := h g hg
 exact ⟨h1, x, y, (hA g h1).trans h2⟩
def ErrG (n : String) (F : Nat → Prop) (w : World) : Prop := ∀ g, Tryz.prog.globalNamed n = some g → F g ∧ ∃ u v x y, w.heap[g]? = some (.cells #[.iface u v] x y)
theorem ErrG.mono {n : String} {F F' : Nat → Prop} {w : World} (h : ErrG n F w) (hF : ∀ b, F b → F' b) : ErrG n F' w := fun g hg => ⟨hF _ (h g hg).1, (h g hg).2⟩
theorem ErrG.agree {n : String} {F : Nat → Prop} {w w' : World} (h : ErrG n F w) (hA : Agree F w w') : ErrG n F w' := fun g hg => by
 obtain ⟨h1, u, v, x, y, h2⟩ := h g hg
 exact ⟨h1, u, v, x, y, (hA g h1).trans h2⟩
def GlE (F : Nat → Prop) (w : World) : Prop := ErrG "strconv.ErrSyntax" F w ∧ ErrG "strconv.ErrRange" F w
theorem GlE.mono {F F' : Nat → Prop} {w : World} (h : GlE F w) (hF : ∀ b, F b → F' b) : GlE F' w := ⟨h.1.mono hF, h.2.mono hF⟩
theorem GlE.agree {F : Nat → Prop} {w w' : World} (h : GlE F w) (hA : Agree F w w') : GlE F w' := ⟨h.1.agree hA, h.2.agree hA⟩
def Gl (F : Nat → Prop) (w : World) : Prop := GlT F w ∧ GlE F w
theorem Gl.mono {F F' : Nat → Prop} {w : World} (h : Gl F w) (hF : ∀ b, F b → F' b) : Gl F' w := ⟨h.1.mono hF, h.2.mono hF⟩
theorem Gl.agree {F : Nat → Prop} {w w' : World} (h : Gl F w) (hA : Agree F w w') : Gl F w' := ⟨h.1.agree hA, h.2.agree hA⟩
structure Fit (F : Nat → Prop) (w : World) : Prop where
 lt : ∀ b, F b → b < w.heap.size
 gl : Gl F w
structure Marks (U : Ld) (F : Nat → Prop) (w0 w : World) (ds : List Deferred) : Prop where
 marks : U.ro = none → MarksD F w0 w ds
 none : U.nm = true → ds = []
 fz : ∀ b, F b → U.A b ∨ U.U b ∨ w0.heap.size ≤ b
 gl : Gl F w
theorem Marks.nil {U : Ld} {F : Nat → Prop} {w0 w : World} (hg : Gl F w) (h : ∀ b, F b → U.A b ∨ U.U b ∨ w0.heap.size ≤ b) : Marks U F w0 w [] := ⟨fun _ => MarksD.nil, fun _ => rfl, h, hg⟩
theorem Marks.mono {U : Ld} {F : Nat → Prop} {w0 w w' : World} {ds : List Deferred} (h : Marks U F w0 w ds) (_ : ∀ b, F b → F b) (hA : Agree F w w') : Marks U F w0 w' ds :=
 ⟨fun hr => (h.marks hr).mono (fun _ h => h) hA, h.none, h.fz, h.gl.agree hA⟩
structure SR (U : Ld) (w0 : World) (st : ASt) (E : Env) (a : Act) (w : World) : Prop where
 defers : Marks U E.F w0 w a.defers
 size : a.tmps.size = st.slots.length
 slot : ∀ i x, st.slots[i]? = some x → SRep w E st.toks x (a.tmps.getD i undef)
 flt : ∀ b, E.F b → b < w.heap.size
 tok : ∀ t tk, st.toks[t]? = some tk → tk.row = .junk ∨ ∃ nl sz es, tk.row = .sl nl sz es ∧ Excl w tk.deep E.F (E.S t) nl sz es (E.hd t)
 slt : ∀ t b, E.S t b → b < w.heap.size ∧ ¬ E.F b ∧ (w0.heap.size ≤ b ∨ U b)
 sep : ∀ t t' b, t ≠ t' → E.S t b → ¬ E.S t' b
 frame : Frm U.U w0 w
 pin : ∀ i, i ∈ U.idx → a.tmps.getD i undef = U.pin i
theorem Excl.own {w : World} {d : Bool} {F S : Nat → Prop} {nl : Bool} {sz : Nat} {es : List AV} {y : Value} (h : Excl w d F S nl sz es y) : Own w d F S (.sl nl sz es) y := by
 simp only [Own]; exact .inl h
mutual
theorem Rep.own {w : World} {F : Nat → Prop} : ∀ {S : Nat → Prop} (a : AV) (y : Value), Rep w F a y → Own w false F S a y
 | S, .v _, _, k => by simpa [Own, Rep] using k
 | S, .agg cs, y, k => by
  simp only [Own, Rep] at k ⊢; obtain ⟨ys, rfl, k⟩ := k; exact ⟨ys, rfl, RepL.own cs _ k⟩
 | S, .tup cs, y, k => by
  simp only [Own, Rep] at k ⊢; obtain ⟨ys, rfl, k⟩ := k; exact ⟨ys, rfl, RepL.own cs _ k⟩
 | S, .sl nl sz es, y, k => by simp only [Own]; exact .inr ⟨trivial, k⟩
 | S, .fp e j, y, k => by simp only [Own]; exact ⟨trivial, k⟩
 | S, .fn f cs, y, k => by simp only [Own]; exact ⟨trivial, k⟩
 | _, .ref _ _ _ _, _, k => by simp [Rep] at k
 | _, .ptr _ _ _ _, _, k => by simp [Rep] at k
 | _, .junk, _, _ => by simp [Own]
theorem RepL.own {w : World} {F : Nat → Prop} : ∀ {S : Nat → Prop} (a : List AV) (y : List Value), RepL w F a y → OwnL w false F S a y
 | _, [], _, k => by simpa [OwnL, RepL] using k
 | S, c :: cs, y, k => by
  simp only [OwnL, RepL] at k ⊢
  obtain ⟨y, ys, rfl, k1, k2⟩ := k
  exact ⟨y, ys, fun _ => False, fun _ => False, rfl, fun _ h => h.elim, fun _ h => h.elim, fun _ h => h.elim, Rep.own c y k1, RepL.own cs ys k2⟩
end
theorem OwnL.get {w : World} {d : Bool} {F : Nat → Prop} : ∀ {S : Nat → Prop} {cs : List AV} {ys : List Value}, OwnL w d F S cs ys → ∀ (i : Nat) (c : AV), cs[i]? = some c → ∃ y, ys[i]? = some y ∧ Own w d F S c y
 | _, [], _, _, i, c, h => by simp at h
 | S, c :: cs, _, k, i, c', h => by
  simp only [OwnL] at k
  obtain ⟨y, ys, S1, S2, rfl, h1, h2, _, k1, k2⟩ := k
  cases i with
  | zero => simp at h; subst h; exact ⟨y, by simp, Own.agree (fun _ h => h) (Agree.refl _ _) h1 (Agree.refl _ _) _ _ k1⟩
  | succ i =>
   obtain ⟨y', e1, e2⟩ := OwnL.get k2 i c' (by simpa using h)
   exact ⟨y', by simpa using e1, Own.agree (fun _ h => h) (Agree.refl _ _) h2 (Agree.refl _ _) _ _ e2⟩
theorem Own.cell {w : World} {d : Bool} {F S : Nat → Prop} {e : AV} {x : Value} (h : Own w d F S e x) (hsz : x.cells.size = e.cells.length) (j : Nat) (c : AV) (hj : e.cells[j]? = some c) : ∃ y, x.cells[j]? = some y ∧ Own w d F S c y := by
 by_cases hagg : ∃ cs, e = .agg cs
 ·obtain ⟨cs, rfl⟩ := hagg
  simp only [Own] at h
  obtain ⟨ys, rfl, h⟩ := h
  obtain ⟨y, h1, h2⟩ := OwnL.get h j c hj
  exact ⟨y, by simpa [Value.cells] using h1, h2⟩
 ·have hc : e.cells = [e] := by
   cases e <;> first | rfl | exact (hagg ⟨_, rfl⟩).elim
  rw [hc] at hj hsz
  have hj0 : j = 0 := by
   rcases j with _ | j
   ·rfl
   ·simp at hj
  subst hj0
  simp at hj; subst hj
  by_cases hjk : e = .junk
  ·subst hjk
   exact ⟨x.cells[0]'(by rw [hsz]; simp), by simp, by simp [Own]⟩
  refine ⟨x, ?_, h⟩
  have hx : x.cells = #[x] := by
   cases e with
   | agg cs => exact (hagg ⟨_, rfl⟩).elim
   | v z => simp only [Own] at h; obtain ⟨rfl, h⟩ := h; cases x <;> first | rfl | simp [Value.oneCell'] at h
   | tup cs => simp only [Own] at h; obtain ⟨ys, rfl, _⟩ := h; rfl
   | sl nl sz es =>
    simp only [Own, Rep] at h
    rcases h with ⟨a, l, c, rfl, _⟩ | ⟨_, a, l, c, rfl, _⟩ <;> rfl
   | fp e j => simp only [Own, Rep] at h; obtain ⟨_, b, o, x, rfl, _⟩ := h; rfl
   | fn f cs => simp only [Own, Rep] at h; obtain ⟨_, b, rfl, _⟩ := h; rfl
   | ref _ _ _ _ => simp [Own] at h
   | ptr _ _ _ _ => simp [Own] at h
   | junk => exact (hjk rfl).elim
  rw [hx]; rfl
theorem OwnRow.get {w : World} {d : Bool} {F : Nat → Prop} {b sz : Nat} : ∀ {S : Nat → Prop} {o : Nat} {es : List AV}, OwnRow w d F S b sz o es → ∀ (i : Nat) (e : AV), es[i]? = some e →
  ∃ x, Own w d F S e x ∧ x.cells.size = sz ∧ e.cells.length = sz ∧ At w b (o + i * sz) x.cells.toList
 | _, _, [], _, i, e, h => by simp at h
 | S, o, e' :: es, k, 0, e, h => by
  simp only [OwnRow] at k; simp at h; subst h
  obtain ⟨x, S1, S2, h1, h2, h3, k1, k2, k2', k3, k4⟩ := k
  exact ⟨x, Own.agree (fun _ h => h) (Agree.refl _ _) h1 (Agree.refl _ _) _ _ k1, k2, k2', by simpa using k3⟩
 | S, o, e' :: es, k, i + 1, e, h => by
  simp only [OwnRow] at k
  obtain ⟨x, S1, S2, h1, h2, h3, k1, k2, k2', k3, k4⟩ := k
  obtain ⟨x', g1, g2, g3, g4⟩ := OwnRow.get k4 i e (by simpa using h)
  refine ⟨x', Own.agree (fun _ h => h) (Agree.refl _ _) h2 (Agree.refl _ _) _ _ g1, g2, g3, ?_⟩
  rw [show o + (i + 1) * sz = o + sz + i * sz from by rw [Nat.add_mul]; omega]; exact g4
theorem follow_ok {w : World} {d : Bool} {F S : Nat → Prop} : ∀ (p : List (Nat × Nat)) (a : AV) (v : Value) (nl : Bool) (sz : Nat) (es : List AV), Own w d F S a v → getAt a p = .sl nl sz es →
  ∃ h, (∀ w', Agree (fun b => F b ∨ S b) w w' → follow w' a v p = some h) ∧ Own w d F S (.sl nl sz es) h := by
 intro p
 induction p with
 | nil => intro a v nl sz es h hg; simp only [getAt] at hg; subst hg; exact ⟨v, fun _ _ => by simp [follow], h⟩
 | cons ij p ih =>
  obtain ⟨i, j⟩ := ij
  intro a v nl sz es h hg
  cases a with
  | sl nl0 sz0 es0 =>
   simp only [getAt] at hg
   cases he : es0[i]? with
   | none => simp [he] at hg
   | some e =>
    cases hc : e.cells[j]? with
    | none => simp [he, hc] at hg
    | some c =>
     simp only [he, hc] at hg
     -- the element's own memory
     have key : ∃ b o l cp x, v = .slice (some ⟨b, o, none⟩) l cp ∧ (F b ∨ S b) ∧ Own w d F S e x ∧ x.cells.size = e.cells.length ∧ At w b (o + i * sz0) x.cells.toList := by
      simp only [Own] at h
      rcases h with ⟨a, l, cp, rfl, h1, h2, h3, h4⟩ | h
      ·rcases h4 with ⟨rfl, rfl, rfl, rfl⟩ | ⟨b, o, cs, T, rfl, rfl, hb, hcs, hsz, h4⟩
       ·have : es0 = [] := List.length_eq_zero_iff.1 h1.symm
        subst this; simp at he
       ·obtain ⟨x, g1, g2, g3, g4⟩ := OwnRow.get h4 i e he
        exact ⟨b, o, l, cp, x, rfl, .inr hb, Own.agree (fun _ h => h) (Agree.refl _ _) (fun _ h => h.1) (Agree.refl _ _) _ _ g1, by rw [g2, g3], g4⟩
      ·simp only [Rep] at h
       obtain ⟨rfl, a, l, cp, rfl, h1, h2, h3, h4⟩ := h
       rcases h4 with ⟨rfl, rfl, rfl, rfl⟩ | ⟨b, o, rfl, rfl, h4⟩ | ⟨_, _, rfl⟩
       ·have : es0 = [] := List.length_eq_zero_iff.1 h1.symm
        subst this; simp at he
       rotate_left
       ·simp at he
       ·obtain ⟨x, g1, g2, g3, g4, g5⟩ := RepRow.get h4 i e he
        exact ⟨b, o, l, cp, x, rfl, .inl g4, Rep.own _ _ g1, by rw [g2, g3], g5⟩
     obtain ⟨b, o, l, cp, x, rfl, hb, hx, hxs, hat⟩ := key
     obtain ⟨y, hy, hoy⟩ := Own.cell hx hxs j c hc
     obtain ⟨h', hf, ho⟩ := ih c y nl sz es hoy hg
     refine ⟨h', fun w' hA => ?_, ho⟩
     have hcell : w'.cell? ⟨b, o + i * sz0 + j, none⟩ = some y := (hat.agree (hA b hb)) j y (by simpa using hy)
     simp only [follow, he, hc, hcell]
     exact hf w' hA
  | _ => simp [getAt] at hg
open Go Go.RowKit
structure TI where
 desc : TypeDesc
 size : Nat
 bytes : Nat
 zero : Value
def TypeDesc.aggB : TypeDesc → Bool
 | .struct _ => true
 | .array _ _ => true
 | _ => false
def ofV1 : Value → AV
 | .slice none 0 0 => .sl true 1 []
 | x => if x.oneCell' then .v x else .junk
def ofV : Value → AV
 | .agg cs => .agg (cs.toList.map ofV1)
 | x => ofV1 x
def ev (slots : List AV) : Operand → AV
 | .tmp t => slots.getD t .junk
 | .const c => ofV c
 | .func f => .fn f []
 | .global _ => .junk
def scal : AV → Bool
 | .v _ => true
 | .agg cs => cs.all fun | .v _ => true | _ => false
 | _ => false
def frz : AV → Bool
 | .v _ => true
 | .agg cs => cs.all fun | .v _ | .sl _ _ _ | .fp _ _ => true | _ => false
 | .sl _ _ _ => true
 | .fp _ _ => true
 | .fn _ cs => cs.all fun | .v _ | .sl _ _ _ | .fp _ _ => true | _ => false
 | _ => false
def nilC : AV → Bool
 | .v _ => true
 | .sl true _ [] => true
 | _ => false
def nilS : AV → Bool
 | .sl true _ [] => true
 | .agg cs => cs.all nilC
 | _ => false
def viewEs (es : List AV) (lo n : Nat) : List AV := (es.drop lo).take n
mutual
def res (toks : List Tok) : AV → AV
 | .v x => .v x
 | .agg cs => .agg (resL toks cs)
 | .tup cs => .tup (resL toks cs)
 | .sl nl sz es => .sl nl sz es
 | .fp e j => .fp e j
 | .fn f cs => .fn f (resL toks cs)
 | .ref t p lo n => match toks[t]? with
  | some tk => (match getAt tk.row p with
   | .sl nl sz es => if lo + n ≤ es.length then .sl nl sz (viewEs es lo n) else .junk
   | _ => .junk)
  | none => .junk
 | .ptr t p i j => match toks[t]? with
  | some tk => (match getAt tk.row p with
   | .sl _ _ es => (match es[i]? with
    | some e => .fp e j
    | none => .junk)
   | _ => .junk)
  | none => .junk
 | .junk => .junk
def resL (toks : List Tok) : List AV → List AV
 | [] => []
 | c :: cs => res toks c :: resL toks cs
end
mutual
def kill (t : Nat) : AV → AV
 | .agg cs => .agg (killL t cs)
 | .tup cs => .tup (killL t cs)
 | .fn f cs => .fn f (killL t cs)
 | .ref t' p lo n => if t' = t then .junk else .ref t' p lo n
 | .ptr t' p i j => if t' = t then .junk else .ptr t' p i j
 | a => a
def killL (t : Nat) : List AV → List AV
 | [] => []
 | c :: cs => kill t c :: killL t cs
end
mutual
def killN (t : Nat) : AV → AV
 | .v x => .v x
 | .agg cs => .agg (killNL t cs)
 | .tup cs => .tup (killNL t cs)
 | .sl nl sz es => .sl nl sz es
 | .fp e j => .fp e j
 | .fn f cs => .fn f (killNL t cs)
 | .ref t' p lo n => if t' = t ∧ p ≠ [] then .junk else .ref t' p lo n
 | .ptr t' p i j => if t' = t ∧ p ≠ [] then .junk else .ptr t' p i j
 | .junk => .junk
def killNL (t : Nat) : List AV → List AV
 | [] => []
 | c :: cs => killN t c :: killNL t cs
end
mutual
def refs : AV → List Nat
 | .v _ => []
 | .agg cs => refsL cs
 | .tup cs => refsL cs
 | .sl _ _ _ => []
 | .fp _ _ => []
 | .fn _ cs => refsL cs
 | .ref t _ _ _ => [t]
 | .ptr t _ _ _ => [t]
 | .junk => []
def refsL : List AV → List Nat
 | [] => []
 | c :: cs => refs c ++ refsL cs
end
mutual
def ren (f : Nat → Nat) : AV → AV
 | .v x => .v x
 | .agg cs => .agg (renL f cs)
 | .tup cs => .tup (renL f cs)
 | .sl nl sz es => .sl nl sz es
 | .fp e j => .fp e j
 | .fn g cs => .fn g (renL f cs)
 | .ref t p lo n => .ref (f t) p lo n
 | .ptr t p i j => .ptr (f t) p i j
 | .junk => .junk
def renL (f : Nat → Nat) : List AV → List AV
 | [] => []
 | c :: cs => ren f c :: renL f cs
end
def setCell : AV → Nat → AV → AV
 | .agg cs, j, c => .agg (cs.set j c)
 | _, _, c => c
def setAt : AV → List (Nat × Nat) → AV → AV
 | _, [], r => r
 | .sl nl sz es, (i, j) :: p, r => match es[i]? with
  | some e => (match e.cells[j]? with
   | some c => .sl nl sz (es.set i (setCell e j (setAt c p r)))
   | none => .junk)
  | none => .junk
 | _, _ :: _, _ => .junk
structure Out where
 val : AV
 slots : List AV
 toks : List Tok
def shlI (k : IntKind) (a b : Int) : Int := k.wrap (a * 2 ^ min b.toNat k.bits)
def shrI (k : IntKind) (a b : Int) : Int := a.fdiv (2 ^ min b.toNat k.bits)
def andI (k : IntKind) (a b : Int) : Int := k.wrap (BitVec.ofInt k.bits a &&& BitVec.ofInt k.bits b).toNat
def orI (k : IntKind) (a b : Int) : Int := k.wrap (BitVec.ofInt k.bits a ||| BitVec.ofInt k.bits b).toNat
def abin (op : BinOp) : Value → Value → Option Value
 | .int k a, .int k' b => if k = k' then (match op with
  | .add => some (.int k (k.wrap (a + b)))
  | .sub => some (.int k (k.wrap (a - b)))
  | .mul => some (.int k (k.wrap (a * b)))
  | .quo => if b = 0 then none else some (.int k (k.wrap (a.tdiv b)))
  | .rem => if b = 0 then none else some (.int k (a.tmod b))
  | .eql => some (.bool (a == b))
  | .neq => some (.bool (a != b))
  | .lss => some (.bool (decide (a < b)))
  | .leq => some (.bool (decide (a ≤ b)))
  | .gtr => some (.bool (decide (a > b)))
  | .geq => some (.bool (decide (a ≥ b)))
  | .shl => if b < 0 then none else some (.int k (shlI k a b))
  | .shr => if b < 0 then none else some (.int k (shrI k a b))
  | .and => some (.int k (andI k a b))
  | .or => some (.int k (orI k a b))
  | _ => none) else none
 | .string a, .string b => (match op with
  | .eql => some (.bool (a.toList == b.toList))
  | .neq => some (.bool !(a.toList == b.toList))
  | .add => if a.size + b.size ≤ 9223372036854775807 then some (.string (a ++ b)) else none
  | _ => none)
 | _, _ => none
def aun (op : UnOp) : Value → Option Value
 | .int k a => (match op with
  | .neg => some (.int k (k.wrap (0 - a)))
  | _ => none)
 | .bool b => (match op with
  | .not => some (.bool !b)
  | _ => none)
 | _ => none
def pickAV (c : Bool) : AV → AV → AV
 | .v (.bool p), .v (.bool q) => .v (.bool (bif c then p else q))
 | x, y => bif c then x else y
def loadCell (t : Nat) (p : List (Nat × Nat)) (i j : Nat) : AV → AV
 | .sl _ _ es => .ref t (p ++ [(i, j)]) 0 es.length
 | .v x => .v x
 | .fp e k => .fp e k
 | .fn f cs => .fn f cs
 | _ => .junk
def loadCells (t : Nat) (p : List (Nat × Nat)) (i : Nat) : Nat → List AV → List AV
 | _, [] => []
 | j, c :: cs => loadCell t p i j c :: loadCells t p i (j + 1) cs
def putCells (e : AV) (j : Nat) (cs : List AV) : AV :=
 match e with
 | .agg ds => .agg (ds.take j ++ cs ++ ds.drop (j + cs.length))
 | a => (match cs with
  | [c] => c
  | _ => a)
structure Ctx where
 T : TypeId → Option TI
 X : TypeId → Option Nat
 G : FuncId → List AV → Option AV
 M : FuncId → List AV → Option (Nat × AV × AV)
 V : FuncId → List AV → Option (List Nat × AV)
 H : FuncId → List AV → Option (Bool × AV)
 W : Bool
def noM (C : Ctx) : Ctx := ⟨C.T, C.X, C.G, fun _ _ => none, fun _ _ => none, C.H, C.W⟩
theorem noM_mk {T : TypeId → Option TI} {X : TypeId → Option Nat} {G : FuncId → List AV → Option AV} {M : FuncId → List AV → Option (Nat × AV × AV)} {V : FuncId → List AV → Option (List Nat × AV)} {H : FuncId → List AV → Option (Bool × AV)} {W : Bool} : noM ⟨T, X, G, M, V, H, W⟩ = ⟨T, X, G, fun _ _ => none, fun _ _ => none, H, W⟩ := rfl
def cellInts : List AV → Option (List Int)
 | [] => some []
 | .v (.int .i64 n) :: cs => (match cellInts cs with
  | some ns => some (n :: ns)
  | none => none)
 | _ :: _ => none
def bld (C : Ctx) (fields : List Field) : List (Nat × AV) → List AV → Option (List AV)
 | [], cells => some cells
 |(i, x) :: rest, cells => (match fields[i]? with
  | some f => (match C.T f.type with
   | some tf => if x.cells.length = tf.size ∧ f.offset + tf.size ≤ cells.length then bld C fields rest (cells.take f.offset ++ x.cells ++ cells.drop (f.offset + tf.size)) else none
   | none => none)
  | none => none)
mutual
def intern (toks : List Tok) : AV → AV × List Tok
 | .sl nl sz es => (.ref toks.length [] 0 es.length, toks ++ [⟨true, .sl nl sz es⟩])
 | .tup vs => (.tup (internL toks vs).1, (internL toks vs).2)
 | .agg vs => (.agg (internL toks vs).1, (internL toks vs).2)
 | .v x => (.v x, toks)
 | _ => (.junk, toks)
def internL (toks : List Tok) : List AV → List AV × List Tok
 | [] => ([], toks)
 | c :: cs => ((intern toks c).1 :: (internL (intern toks c).2 cs).1, (internL (intern toks c).2 cs).2)
end
def asNat : AV → Option Nat
 | .v (.int _ n) => if 0 ≤ n then some n.toNat else none
 | _ => none
def lenAV (toks : List Tok) : AV → Option Nat
 | .sl _ _ es => some es.length
 | .ref t p lo n => (match toks[t]? with
  | some tk => (match getAt tk.row p with
   | .sl _ _ es => if lo + n ≤ es.length then some n else none
   | _ => none)
  | none => none)
 | _ => none
def allS (es : List AV) : Bool := es.all scal
def nilAV (toks : List Tok) : AV → Option Bool
 | .sl nl _ _ => some nl
 | .ref t p lo n => (match toks[t]? with
  | some tk => (match getAt tk.row p with
   | .sl nl _ es => if lo + n ≤ es.length then some nl else none
   | _ => none)
  | none => none)
 | _ => none
def bytesOf : List AV → Option (List UInt8)
 | [] => some []
 | .v (.int .u8 n) :: cs => (match bytesOf cs with
  | some bs => some (UInt8.ofNat n.toNat :: bs)
  | none => none)
 | _ :: _ => none
def partOk (toks : List Tok) (x : AV) : Bool := frz x || (lenAV toks x).isSome
def alt {α : Type} : Option α → Option α → Option α
 | some x, _ => some x
 | none, y => y
theorem alt_some {α : Type} {x : α} {y : Option α} : alt (some x) y = some x := rfl
theorem alt_none {α : Type} {y : Option α} : alt none y = y := rfl
def ownV (toks : List Tok) (t : Nat) (p : List (Nat × Nat)) (lo n : Nat) : Option (AV × List Nat) := match toks[t]? with
 | some tk => (match getAt tk.row p with
  | .sl nl sz es => if tk.deep = true ∧ lo + n ≤ es.length then some (.sl nl sz (viewEs es lo n), [t]) else none
  | _ => none)
 | none => none
def wholeP (t : Nat) : Nat → List AV → Bool
 | _, [] => true
 | k, .v _ :: cs => wholeP t (k + 1) cs
 | k, .sl _ _ _ :: cs => wholeP t (k + 1) cs
 | k, .ref t' p _ _ :: cs => decide (t' = t) && decide (p = [(0, k)]) && wholeP t (k + 1) cs
 | _, _ => false
def isAgg1 : AV → Bool
 | .sl _ _ [.agg _] => true
 | _ => false
def wholeB (toks : List Tok) (t : Nat) (cs : List AV) : Bool := match toks[t]? with
 | some tk => tk.deep && isAgg1 tk.row && wholeP t 0 cs
 | none => false
def ownA (toks : List Tok) (cs : List AV) (q : List AV × List Nat) : Option (AV × List Nat) :=
 if q.2.Nodup then some (.agg q.1, q.2) else match refsL cs with
 | t :: _ => if wholeB toks t cs = true then some (.agg q.1, [t]) else none
 | [] => none
mutual
def ownR (toks : List Tok) : AV → Option (AV × List Nat)
 | .v x => some (.v x, [])
 | .sl nl sz es => (match nl, es with
  | true, [] => some (.sl true sz [], [])
  | _, _ => none)
 | .ref t p lo n => alt (match p, lo, toks[t]? with
  | [], 0, some tk => (match tk.row with
   | .sl nl sz es => if tk.deep = true ∧ n = es.length then some (.sl nl sz es, [t]) else none
   | _ => none)
  | _, _, _ => none) (ownV toks t p lo n)
 | .agg cs => (ownRL toks cs).bind (ownA toks cs)
 | _ => none
def ownRL (toks : List Tok) : List AV → Option (List AV × List Nat)
 | [] => some ([], [])
 | c :: cs => (match ownR toks c, ownRL toks cs with
  | some q, some q' => some (q.1 :: q'.1, q.2 ++ q'.2)
  | _, _ => none)
end
def drops (slots : List AV) (toks : List Tok) : List Nat → List AV × List Tok
 | [] => (slots, toks)
 | t :: l => drops (slots.map (kill t)) (toks.set t ⟨true, .junk⟩) l
def flat : List AV → Bool
 | [] => true
 | .v _ :: cs => flat cs
 | .sl _ _ _ :: cs => flat cs
 | _ :: _ => false
def appX (sz : Nat) (toks : List Tok) : AV → Option (List AV × List Nat × Bool × Bool)
 | .sl nl _ es => (match nl, es with
  | true, [] => some ([], [], true, true)
  | _, _ => none)
 | .ref t p lo n => (match p, lo, toks[t]? with
  | [], 0, some tk => (match tk.row with
   | .sl nl sz' es => if n = es.length ∧ sz' = sz then some (es, [t], tk.deep, nl) else none
   | _ => none)
  | _, _, _ => none)
 | _ => none
def appY (sz : Nat) (toks : List Tok) : AV → Option (List AV × List Nat × Bool)
 | .sl _ sz' ys => if sz' = sz ∧ (ys.all fun e => flat e.cells) = true then some (ys, [], ys.all scal) else none
 | .ref t p lo n => (match toks[t]? with
  | some tk => (match getAt tk.row p with
   | .sl _ sz' es => if sz' = sz ∧ lo + n ≤ es.length then
     (if (viewEs es lo n).all scal = true then some (viewEs es lo n, [], true)
      else if p = [] ∧ lo = 0 ∧ n = es.length ∧ (es.all fun e => flat e.cells) = true then some (es, [t], tk.deep) else none) else none
   | _ => none)
  | none => none)
 | _ => none
def bndOf (slots : List AV) (d : Nat) : Option Operand → Option Nat
 | none => some d
 | some x => asNat (ev slots x)
def mutCall (slots : List AV) (toks : List Tok) (avs caps : List AV) : Option (Nat × AV × AV) → Option Out
 | some (pos, r, row') => (match avs[pos]?, row' with
  | some (.ref t p lo n), .sl nl' sz' es' => (match toks[t]? with
   | some tk => (match getAt tk.row p with
    | .sl nl sz es => if tk.deep = true ∧ lo = 0 ∧ n = es.length ∧ es'.length = n ∧ nl' = nl ∧ sz' = sz ∧ t ∉ refsL (avs.eraseIdx pos ++ caps) then
      some ⟨(intern (toks.set t ⟨true, setAt tk.row p (.sl nl sz es')⟩) r).1, slots.map (killN t), (intern (toks.set t ⟨true, setAt tk.row p (.sl nl sz es')⟩) r).2⟩ else none
    | _ => none)
   | none => none)
  | some (.sl true sz []), .sl true sz' [] => if sz' = sz then some ⟨(intern toks r).1, slots, (intern toks r).2⟩ else none
  | _, _ => none)
 | none => none
def others (mv : List Nat) : Nat → List AV → List AV
 | _, [] => []
 | i, x :: xs => if mv.contains i then others mv (i + 1) xs else x :: others mv (i + 1) xs
def meets : List Nat → List Nat → Bool
 | [], _ => false
 | t :: ts, l => l.contains t || meets ts l
def movCall (slots : List AV) (toks : List Tok) (avs caps : List AV) : Option (List Nat × AV) → Option Out
 | some (mv, r) => (match ownRL toks (mv.map fun i => avs.getD i .junk) with
  | some q => if q.2.Nodup ∧ meets q.2 (refsL (others mv 0 avs ++ caps)) = false ∧ mv.all (fun i => decide (i < avs.length)) = true then
    some ⟨(intern (drops slots toks q.2).2 r).1, (drops slots toks q.2).1, (intern (drops slots toks q.2).2 r).2⟩ else none
  | none => none)
 | none => none
def frzCall (slots : List AV) (toks : List Tok) (l : List Nat) : Option (Bool × AV) → Option Out
 | some (sh, r) => if (sh = false ∨ l = []) ∧ refs r = [] then some ⟨r, slots, toks⟩ else none
 | none => none
def appO (C : Ctx) (c : Call) (slots : List AV) (toks : List Tok) : Option Out :=
 match c.args.toList, c.argTypes.toList with
   | [x, y], [t, t'] => if t = t' then (match C.T t with
    | some ti => (match ti.desc with
     | .slice el => (match C.T el with
      | some te => (match appX te.size toks (ev slots x), appY te.size toks (ev slots y) with
       | some (es, ux, dx, nl), some (ys, uy, dy) => if (ux ++ uy).Nodup ∧ 0 < te.size ∧ es.length + ys.length ≤ 4611686018427387904 ∧ (es.length + ys.length) * te.bytes ≤ 140737488355328 then
         some ⟨.ref toks.length [] 0 (es.length + ys.length), (drops slots toks (ux ++ uy)).1, (drops slots toks (ux ++ uy)).2 ++ [⟨dx && dy, .sl (nl && ys.isEmpty) te.size (es ++ ys)⟩]⟩ else none
       | _, _ => none)
      | none => none)
     | _ => none)
    | none => none) else (match C.T t, C.T t', ev slots x, asNat (ev slots y) with
     | some ti, some ti', .sl true _ [], some n => (match ti.desc, ti'.desc with
      | .slice el, .int _ => (match C.T el with
       | some te => if 0 < te.size ∧ 0 < n ∧ n ≤ 4611686018427387904 ∧ n * te.bytes ≤ 140737488355328 then
         some ⟨.ref toks.length [] 0 n, slots, toks ++ [⟨true, .sl false te.size (List.replicate n (ofV te.zero))⟩]⟩ else none
       | none => none)
      | _, _ => none)
     | _, _, _, _ => none)
   | _, _ => none
def upX (sz : Nat) (toks : List Tok) : AV → Option (List AV × Nat × Tok × Bool)
 | .ref t p lo n => (match p, lo, toks[t]? with
  | _ :: _, 0, some tk => (match getAt tk.row p with
   | .sl nl sz' es => if n = es.length ∧ (sz' = sz ∨ (nl = true ∧ es = [])) ∧ tk.deep = true then some (es, t, ⟨true, setAt tk.row p .junk⟩, nl) else none
   | _ => none)
  | _, _, _ => none)
 | _ => none
def appU (C : Ctx) (c : Call) (slots : List AV) (toks : List Tok) : Option Out :=
 match c.args.toList, c.argTypes.toList with
 | [x, y], [t, t'] => if t = t' then (match C.T t with
  | some ti => (match ti.desc with
   | .slice el => (match C.T el with
    | some te => (match upX te.size toks (ev slots x), appY te.size toks (ev slots y) with
     | some (es, k, tk, nl), some (ys, uy, dy) => if k ∉ refs (ev slots y) ∧ uy.Nodup ∧ 0 < te.size ∧ es.length + ys.length ≤ 4611686018427387904 ∧ (es.length + ys.length) * te.bytes ≤ 140737488355328 then
       some ⟨.ref (toks.length + 1) [] 0 (es.length + ys.length), (drops (slots.map (killN k)) (toks.set k tk) uy).1, (drops (slots.map (killN k)) (toks.set k tk) uy).2 ++ [⟨true, .junk⟩, ⟨dy, .sl (nl && ys.isEmpty) te.size (es ++ ys)⟩]⟩ else none
     | _, _ => none)
    | none => none)
   | _ => none)
  | none => none) else none
 | _, _ => none
def aop (C : Ctx) (op : Op) (slots : List AV) (toks : List Tok) : Option Out :=
 match op with
 | .move x => some ⟨ev slots x, slots, toks⟩
 | .assign x => some ⟨ev slots x, slots, toks⟩
 | .pick c a b => (match ev slots c with
  | .v (.bool t) => some ⟨pickAV t (ev slots a) (ev slots b), slots, toks⟩
  | _ => none)
 | .binOp op t x y _ => (match ev slots x, ev slots y with
  | .v a, .v b => (match abin op a b with
   | some r => some ⟨.v r, slots, toks⟩
   | none => (match C.T t, op, a, b with
    | some ⟨.bool, _, _, _⟩, .eql, .bool p, .bool q => some ⟨.v (.bool (p == q)), slots, toks⟩
    | some ⟨.bool, _, _, _⟩, .neq, .bool p, .bool q => some ⟨.v (.bool (!(p == q))), slots, toks⟩
    | _, _, _, _ => none))
  | .agg cs, .agg ds => (match C.X t, cellInts cs, cellInts ds, op with
   | some n, some xs, some ys, .eql => if xs.length = n ∧ ys.length = n then some ⟨.v (.bool (decide (xs = ys))), slots, toks⟩ else none
   | some n, some xs, some ys, .neq => if xs.length = n ∧ ys.length = n then some ⟨.v (.bool (!decide (xs = ys))), slots, toks⟩ else none
   | _, _, _, _ => none)
  | _, .sl true _ [] => (match C.T t, nilAV toks (ev slots x), op with
   | some ⟨.slice _, _, _, _⟩, some b, .eql => some ⟨.v (.bool b), slots, toks⟩
   | some ⟨.slice _, _, _, _⟩, some b, .neq => some ⟨.v (.bool (!b)), slots, toks⟩
   | _, _, _ => none)
  | _, _ => none)
 | .convert s d x => (match C.T s, C.T d with
  | some ts, some td => (match ts.desc, td.desc, res toks (ev slots x) with
   | _, .int k, .v (.int _ n) => some ⟨.v (.int k (k.wrap n)), slots, toks⟩
   | .slice el, .string, .sl _ sz es => (match C.T el, bytesOf es with
    | some te, some bs => (match te.desc with
     | .int .u8 => if sz = 1 then some ⟨.v (.string ⟨bs.toArray⟩), slots, toks⟩ else none
     | _ => none)
    | _, _ => none)
   | .string, .string, .v (.string b) => some ⟨.v (.string b), slots, toks⟩
   | _, _, _ => none)
  | _, _ => none)
 | .index t x ix => (match C.T t, ev slots x, asNat (ev slots ix) with
  | some ti, .v (.string s), some i => (match ti.desc, s[i]? with
   | .string, some b => some ⟨.v (.int .u8 (b.toNat : Int)), slots, toks⟩
   | _, _ => none)
  | _, _, _ => none)
 | .unOp op _ x => (match ev slots x with
  | .v a => (aun op a).map fun r => ⟨.v r, slots, toks⟩
  | _ => none)
 | .alloc t => (match C.T t with
  | some ti => some ⟨.ptr toks.length [] 0 0, slots, toks ++ [⟨true, .sl false ti.size [ofV ti.zero]⟩]⟩
  | none => none)
 | .box t x => (match C.T t with
  | some ti => if frz (ev slots x) ∧ (ev slots x).cells.length = ti.size then some ⟨.ptr toks.length [] 0 0, slots, toks ++ [⟨scal (ev slots x), .sl false ti.size [ev slots x]⟩]⟩
   else (match ownR toks (ev slots x) with
    | some q => if q.2.Nodup ∧ flat q.1.cells ∧ q.1.cells.length = ti.size then some ⟨.ptr toks.length [] 0 0, (drops slots toks q.2).1, (drops slots toks q.2).2 ++ [⟨true, .sl false ti.size [q.1]⟩]⟩ else none
    | none => none)
  | none => none)
 | .indexAddr t x ix => (match C.T t, asNat (ev slots ix) with
  | some ti, some i => (match ti.desc, ev slots x with
   | .slice el, .sl _ sz es => (match C.T el, es[i]? with
    | some te, some e => if te.size = sz then some ⟨.fp e 0, slots, toks⟩ else none
    | _, _ => none)
   | .slice el, .ref k p lo n => (match C.T el, toks[k]? with
    | some te, some tk => (match getAt tk.row p with
     | .sl _ sz es => if te.size = sz ∧ i < n ∧ lo + n ≤ es.length then some ⟨.ptr k p (lo + i) 0, slots, toks⟩ else none
     | _ => none)
    | _, _ => none)
   | .array n el, .ptr k p q j => (match C.T el, toks[k]? with
    | some te, some tk => (match getAt tk.row p with
     | .sl _ _ es => if i < n ∧ q < es.length then some ⟨.ptr k p q (j + i * te.size), slots, toks⟩ else none
     | _ => none)
    | _, _ => none)
   | _, _ => none)
  | _, _ => none)
 | .load t a => (match C.T t with
  | some ti => (match ev slots a with
   | .fp e j => if TypeDesc.aggB ti.desc then (match e with
      | .agg cs => if j = 0 ∧ cs.length = ti.size then some ⟨.agg cs, slots, toks⟩ else if j + ti.size ≤ cs.length then some ⟨.agg ((cs.drop j).take ti.size), slots, toks⟩ else none
      | _ => none)
     else (match e.cells[j]? with
      | some c => some ⟨c, slots, toks⟩
      | none => none)
   | .ptr k p i j => (match toks[k]? with
    | some tk => (match getAt tk.row p with
     | .sl _ _ es => (match es[i]? with
      | some e => if TypeDesc.aggB ti.desc then (match e with
         | .agg cs => if j = 0 ∧ cs.length = ti.size then some ⟨.agg (loadCells k p i 0 cs), slots, toks⟩ else if j + ti.size ≤ cs.length then some ⟨.agg (loadCells k p i j ((cs.drop j).take ti.size)), slots, toks⟩ else none
         | _ => none)
        else (match e.cells[j]? with
         | some c => some ⟨loadCell k p i j c, slots, toks⟩
         | none => none)
      | none => none)
     | _ => none)
    | none => none)
   | _ => none)
  | none => none)
 | .store t a x => (match C.T t with
  | some ti => (match ev slots a with
   | .ptr k [] i j => (match toks[k]? with
    | some tk => (match tk.row with
     | .sl nl sz es => (match es[i]? with
      | some e => if scal (ev slots x) ∧ (ev slots x).cells.length = ti.size ∧ j + ti.size ≤ sz ∧ 0 < ti.size then
         some ⟨.junk, slots, toks.set k ⟨tk.deep, .sl nl sz (es.set i (putCells e j (ev slots x).cells))⟩⟩
        else if frz (ev slots x) ∧ (ev slots x).cells.length = ti.size ∧ j + ti.size ≤ sz ∧ 0 < ti.size then
         some ⟨.junk, slots.map (killN k), toks.set k ⟨tk.deep && nilS (ev slots x), .sl nl sz (es.set i (putCells e j (ev slots x).cells))⟩⟩
        else (match ownR toks (ev slots x) with
         | some q => if q.2.Nodup ∧ k ∉ q.2 ∧ flat q.1.cells ∧ q.1.cells.length = ti.size ∧ j + ti.size ≤ sz ∧ 0 < ti.size then
           some ⟨.junk, (drops slots toks q.2).1.map (killN k), (drops slots toks q.2).2.set k ⟨tk.deep, .sl nl sz (es.set i (putCells e j q.1.cells))⟩⟩ else none
         | none => none)
      | none => none)
     | _ => none)
    | none => none)
   | .ptr k p i j => (match toks[k]? with
    | some tk => (match getAt tk.row p with
     | .sl nl sz es => (match es[i]? with
      | some e => if tk.deep = true ∧ scal (ev slots x) = true ∧ (ev slots x).cells.length = ti.size ∧ j + ti.size ≤ sz ∧ 0 < ti.size then
         some ⟨.junk, slots.map (killN k), toks.set k ⟨true, setAt tk.row p (.sl nl sz (es.set i (putCells e j (ev slots x).cells)))⟩⟩ else none
      | none => none)
     | _ => none)
    | none => none)
   | _ => none)
  | none => none)
 | .fieldAddr t x f => (match C.T t with
  | some ti => (match ti.desc with
   | .struct fields => (match fields[f]? with
    | some fd => (match C.T fd.type with
     | some tf => if 0 < tf.size then (match ev slots x with
       | .ptr k p i j => (match toks[k]? with
        | some tk => (match getAt tk.row p with
         | .sl _ _ es => if i < es.length then some ⟨.ptr k p i (j + fd.offset), slots, toks⟩ else none
         | _ => none)
        | none => none)
       | .fp e j => some ⟨.fp e (j + fd.offset), slots, toks⟩
       | _ => none) else none
     | none => none)
    | none => none)
   | _ => none)
  | none => none)
 | .slice t x lo hi none => (match C.T t with
  | some ti => (match ti.desc, ev slots x with
   | .slice el, .sl nl sz es => (match C.T el, bndOf slots 0 lo, bndOf slots es.length hi with
    | some te, some l, some h => if te.size = sz ∧ l ≤ h ∧ h ≤ es.length then some ⟨.sl nl sz (viewEs es l (h - l)), slots, toks⟩ else none
    | _, _, _ => none)
   | .slice el, .ref k p lo0 n => (match C.T el, bndOf slots 0 lo, bndOf slots n hi, toks[k]? with
    | some te, some l, some h, some tk => (match getAt tk.row p with
     | .sl _ sz es => if te.size = sz ∧ l ≤ h ∧ h ≤ n ∧ lo0 + n ≤ es.length then some ⟨.ref k p (lo0 + l) (h - l), slots, toks⟩ else none
     | _ => none)
    | _, _, _, _ => none)
   | .string, .v (.string s) => (match bndOf slots 0 lo, bndOf slots s.size hi with
    | some l, some h => if l ≤ h ∧ h ≤ s.size then some ⟨.v (.string (s.extract l h)), slots, toks⟩ else none
    | _, _ => none)
   | _, _ => none)
  | none => none)
 | .field t x f => (match C.T t with
  | some ti => (match ti.desc with
   | .struct fields => (match fields[f]? with
    | some fd => (match C.T fd.type with
     | some tf => (match ev slots x with
      | .agg cs => if TypeDesc.aggB tf.desc then (if fd.offset + tf.size ≤ cs.length then some ⟨.agg ((cs.drop fd.offset).take tf.size), slots, toks⟩ else none)
        else (match cs[fd.offset]? with
         | some c => some ⟨c, slots, toks⟩
         | none => none)
      | _ => none)
     | none => none)
    | none => none)
   | _ => none)
  | none => none)
 | .extract x i => (match ev slots x with
  | .tup vs => (match vs[i]? with
   | some v => some ⟨v, slots, toks⟩
   | none => none)
  | _ => none)
 | .makeSlice t l c => (match C.T t, asNat (ev slots l), asNat (ev slots c) with
  | some ti, some n, some n' => (match ti.desc with
   | .slice el => (match C.T el with
    | some te => if n = n' ∧ te.bytes * n ≤ 281474976710656 ∧ n ≤ 4611686018427387904 then some ⟨.ref toks.length [] 0 n, slots, toks ++ [⟨true, .sl false te.size (List.replicate n (ofV te.zero))⟩]⟩ else none
    | none => none)
   | _ => none)
  | _, _, _ => none)
 | .build t parts => (match C.T t with
  | some ti => (match ti.desc with
   | .struct fields => if (parts.toList.all fun p => partOk toks (ev slots p.2)) = false ∨ (fields.toList.all fun f => (C.T f.type).isSome) = false then none else (bld C fields.toList (parts.toList.map fun p => (p.1, ev slots p.2)) (ofV ti.zero).cells).map fun cells => ⟨.agg cells, slots, toks⟩
   | _ => none)
  | none => none)
 | .buildSlice t len parts => (match C.T t with
  | some ti => (match ti.desc with
   | .slice el => (match C.T el with
    | some te => if (parts.toList.map (·.1)) = List.range len ∧ 0 < te.size ∧ len * te.size ≤ 1000 then
      (match ownRL toks (parts.toList.map fun p => ev slots p.2) with
      | some q => if q.2.Nodup ∧ (C.W = true ∨ q.2 = []) ∧ (q.1.all fun v => decide (v.cells.length = te.size) && flat v.cells) = true then
        some ⟨.ref toks.length [] 0 len, (drops slots toks q.2).1, (drops slots toks q.2).2 ++ [⟨true, .sl false te.size q.1⟩]⟩ else none
      | none => if ((parts.toList.map fun p => ev slots p.2).all fun v => frz v && decide (v.cells.length = te.size)) = true then
        some ⟨.ref toks.length [] 0 len, slots, toks ++ [⟨false, .sl false te.size (parts.toList.map fun p => ev slots p.2)⟩]⟩
       else if C.W = true ∧ ((resL toks (parts.toList.map fun p => ev slots p.2)).all fun v => frz v && decide (v.cells.length = te.size)) = true then
        some ⟨.ref toks.length [] 0 len, (drops slots toks (refsL (parts.toList.map fun p => ev slots p.2))).1, (drops slots toks (refsL (parts.toList.map fun p => ev slots p.2))).2 ++ [⟨false, .sl false te.size (resL toks (parts.toList.map fun p => ev slots p.2))⟩]⟩ else none) else none
    | none => none)
   | _ => none)
  | none => none)
 | .makeFunc (.func f) first captured => if first.size = 0 then some ⟨.fn f (captured.toList.map (ev slots)), slots, toks⟩ else none
 | .call c => (match c.callee with
  | .builtin .len => (match c.args.toList, c.argTypes.toList with
   | [x], [t] => (match C.T t with
    | some ti => (match ti.desc with
     | .slice _ => (lenAV toks (ev slots x)).map fun (n : Nat) => ⟨.v (.int .i64 (n : Int)), slots, toks⟩
     | .string => (match ev slots x with
      | .v (.string s) => some ⟨.v (.int .i64 (s.size : Int)), slots, toks⟩
      | _ => none)
     | _ => none)
    | none => none)
   | _, _ => none)
  | .builtin .append => alt (appO C c slots toks) (appU C c slots toks)
  | .builtin .cap => (match c.args.toList, c.argTypes.toList with
   | [x], [t] => (match C.T t, ev slots x with
    | some ti, .sl true _ [] => (match ti.desc with
     | .slice _ => some ⟨.v (.int .i64 0), slots, toks⟩
     | _ => none)
    | _, _ => none)
   | _, _ => none)
  | .builtin .copy => (match c.args.toList, c.argTypes.toList with
   | [x, y], [t, _] => (match C.T t, ev slots x, res toks (ev slots y) with
    | some ti, .ref k [] lo n, .sl _ sz' ys => (match ti.desc, toks[k]? with
     | .slice el, some tk => (match C.T el, tk.row with
      | some te, .sl nl sz es => if sz = te.size ∧ sz' = te.size ∧ 0 < te.size ∧ lo + n ≤ es.length ∧ allS es = true ∧ allS ys = true then
        some ⟨.v (.int .i64 ((min ys.length n : Nat) : Int)), slots.map (killN k), toks.set k ⟨tk.deep, .sl nl sz (es.take lo ++ ys.take (min ys.length n) ++ es.drop (lo + min ys.length n))⟩⟩ else none
      | _, _ => none)
     | _, _ => none)
    | _, _, _ => none)
   | _, _ => none)
  | .builtin .max => (match c.args.toList with
   | [x, y] => (match ev slots x, ev slots y with
    | .v (.int k a), .v (.int _ b) => some ⟨.v (.int k (max a b)), slots, toks⟩
    | _, _ => none)
   | _ => none)
  | .builtin .min => (match c.args.toList with
   | [x, y] => (match ev slots x, ev slots y with
    | .v (.int k a), .v (.int _ b) => some ⟨.v (.int k (min a b)), slots, toks⟩
    | _, _ => none)
   | _ => none)
  | .value f => (match ev slots f with
   | .fn g caps => (match C.G g (c.args.toList.map (fun x => res toks (ev slots x)) ++ resL toks caps) with
    | some r => some ⟨(intern toks r).1, slots, (intern toks r).2⟩
    | none => alt (mutCall slots toks (c.args.toList.map (ev slots)) caps (C.M g (c.args.toList.map (fun x => res toks (ev slots x)) ++ resL toks caps)))
      (alt (movCall slots toks (c.args.toList.map (ev slots)) caps (C.V g (c.args.toList.map (fun x => res toks (ev slots x)) ++ resL toks caps)))
       (frzCall slots toks (refsL (c.args.toList.map (ev slots)) ++ refsL caps) (C.H g (c.args.toList.map (fun x => res toks (ev slots x)) ++ resL toks caps)))))
   | _ => none)
  | _ => none)
 | _ => none
def guardOk (ops : List Oper) (slots : List AV) (o : Oper) : Option Bool :=
 match o.guard with
 | none => some true
 | some (j, want) => (match ops[j]? with
  | some o' => (match o'.dst with
   | some d => (match slots.getD d .junk with
    | .v (.bool b) => some (b == want)
    | .tup _ => some false
    | _ => none)
   | none => none)
  | none => none)
def putD (slots : List AV) (d : Option Nat) (x : AV) : List AV :=
 match d with
 | some d => slots.set d x
 | none => slots
def rstep (C : Ctx) (ops : List Oper) (o : Oper) (st : ASt) : Option ASt :=
 match guardOk ops st.slots o with
 | some g => if g then (aop C o.op st.slots st.toks).map fun r => ⟨putD r.slots o.dst r.val, r.toks⟩ else some ⟨putD st.slots o.dst (.tup []), st.toks⟩
 | none => none
def rrun (C : Ctx) (ops : List Oper) : List Oper → ASt → Option ASt
 | [], st => some st
 | o :: rest, st => (match rstep C ops o st with
  | some st' => rrun C ops rest st'
  | none => none)
open Go Go.RowKit
def allB (E : Env) : Nat → Prop := fun b => E.F b ∨ ∃ t, E.S t b
def TokOk (w : World) (E : Env) (t : Nat) (tk : Tok) : Prop := tk.row = .junk ∨ ∃ nl sz es, tk.row = .sl nl sz es ∧ Excl w tk.deep E.F (E.S t) nl sz es (E.hd t)
theorem Own.weak {w w' : World} {d : Bool} {F F' S S' : Nat → Prop} {a : AV} {y : Value} (h : Own w d F S a y) (hF : ∀ b, F b → F' b) (hS : ∀ b, S b → S' b) (hA : Agree (fun b => F b ∨ S b) w w') : Own w' d F' S' a y :=
 Own.agree hF (hA.mono fun _ h => .inl h) hS (hA.mono fun _ h => .inr h) a y h
theorem Rep.weak {w w' : World} {F F' : Nat → Prop} {a : AV} {y : Value} (h : Rep w F a y) (hF : ∀ b, F b → F' b) (hA : Agree F w w') : Rep w' F' a y := Rep.agree hF hA a y h
theorem Excl.weak {w w' : World} {d : Bool} {F F' S S' : Nat → Prop} {nl : Bool} {sz : Nat} {es : List AV} {y : Value} (h : Excl w d F S nl sz es y) (hF : ∀ b, F b → F' b) (hS : ∀ b, S b → S' b) (hA : Agree (fun b => F b ∨ S b) w w') :
  Excl w' d F' S' nl sz es y := by
 obtain ⟨a, len, cap, rfl, h1, h2, h3, k⟩ := h
 refine ⟨a, len, cap, rfl, h1, h2, h3, ?_⟩
 rcases k with k | ⟨b, o, cs, T, rfl, rfl, hb, hcs, hsz, k⟩
 ·exact .inl k
 ·exact .inr ⟨b, o, cs, T, rfl, rfl, hS b hb, by rw [hA b (.inr hb)]; exact hcs, hsz,
   OwnRow.agree hF (hA.mono fun _ h => .inl h) (fun x hx => ⟨hS x hx.1, hx.2⟩) (hA.mono fun x hx => .inr hx.1) b sz o (hA b (.inr hb)) es k⟩
theorem TokOk.weak {w w' : World} {E E' : Env} {t : Nat} {tk : Tok} (h : TokOk w E t tk) (hA : Agree (allB E) w w') (hF : ∀ b, E.F b → E'.F b) (hhd : E'.hd t = E.hd t) (hS : ∀ b, E.S t b → E'.S t b) : TokOk w' E' t tk := by
 rcases h with h | ⟨nl, sz, es, h1, h2⟩
 ·exact .inl h
 ·refine .inr ⟨nl, sz, es, h1, ?_⟩
  rw [hhd]
  exact h2.weak hF hS (hA.mono fun b hb => hb.elim .inl fun h => .inr ⟨t, h⟩)
theorem TokOk.follow {w : World} {E : Env} {t : Nat} {tk : Tok} (h : TokOk w E t tk) {p : List (Nat × Nat)} {nl : Bool} {sz : Nat} {es : List AV} (hg : getAt tk.row p = .sl nl sz es) :
  ∃ h, (∀ w', Agree (allB E) w w' → Ax.follow w' tk.row (E.hd t) p = some h) ∧ Own w tk.deep E.F (E.S t) (.sl nl sz es) h := by
 rcases h with h | ⟨nl0, sz0, es0, h1, h2⟩
 ·rw [h] at hg; cases p <;> simp [getAt] at hg
 ·rw [h1] at hg ⊢
  obtain ⟨v, g1, g2⟩ := follow_ok p _ _ nl sz es h2.own hg
  exact ⟨v, fun w' hA => g1 w' (hA.mono fun b hb => hb.elim .inl fun h => .inr ⟨t, h⟩), g2⟩
section
variable {w w' : World} {E E' : Env} {toks toks' : List Tok}
theorem RefOk.ext (hT : ∀ t tk, toks[t]? = some tk → TokOk w E t tk) (hA : Agree (allB E) w w') (ht : ∀ t, t < toks.length → toks'[t]? = toks[t]?) (hl : toks.length ≤ toks'.length)
  (hhd : ∀ t, t < toks.length → E'.hd t = E.hd t) {t : Nat} {p : List (Nat × Nat)} {lo n : Nat} {y : Value} (h : RefOk w E toks t p lo n y) : RefOk w' E' toks' t p lo n y := by
 refine ⟨Nat.lt_of_lt_of_le h.1 hl, fun tk nl sz es h1 h2 h3 => ?_⟩
 rw [ht t h.1] at h1
 obtain ⟨v, g1, g2⟩ := h.2 tk nl sz es h1 h2 h3
 obtain ⟨v', k1, _⟩ := (hT t tk h1).follow h2
 have : v = v' := by have := k1 w (Agree.refl _ _); rw [g1] at this; exact Option.some.inj this
 subst this
 exact ⟨v, by rw [hhd t h.1]; exact k1 w' hA, g2⟩
theorem PtrOk.ext (hT : ∀ t tk, toks[t]? = some tk → TokOk w E t tk) (hA : Agree (allB E) w w') (ht : ∀ t, t < toks.length → toks'[t]? = toks[t]?) (hl : toks.length ≤ toks'.length)
  (hhd : ∀ t, t < toks.length → E'.hd t = E.hd t) {t : Nat} {p : List (Nat × Nat)} {i j : Nat} {y : Value} (h : PtrOk w E toks t p i j y) : PtrOk w' E' toks' t p i j y := by
 refine ⟨Nat.lt_of_lt_of_le h.1 hl, fun tk nl sz es h1 h2 h3 => ?_⟩
 rw [ht t h.1] at h1
 obtain ⟨b, o, hl', hc, g1, g2⟩ := h.2 tk nl sz es h1 h2 h3
 obtain ⟨v', k1, _⟩ := (hT t tk h1).follow h2
 have : v' = .slice (some ⟨b, o, none⟩) hl' hc := by have := k1 w (Agree.refl _ _); rw [g1] at this; exact (Option.some.inj this).symm
 subst this
 exact ⟨b, o, hl', hc, by rw [hhd t h.1]; exact k1 w' hA, g2⟩
mutual
theorem SRep.ext (hT : ∀ t tk, toks[t]? = some tk → TokOk w E t tk) (hA : Agree (allB E) w w') (hF : ∀ b, E.F b → E'.F b) (ht : ∀ t, t < toks.length → toks'[t]? = toks[t]?) (hl : toks.length ≤ toks'.length)
  (hhd : ∀ t, t < toks.length → E'.hd t = E.hd t) : ∀ (x : AV) (y : Value), SRep w E toks x y → SRep w' E' toks' x y
 | .v _, _, k => by simpa [SRep] using k
 | .agg cs, y, k => by
  simp only [SRep] at k ⊢; obtain ⟨ys, rfl, k⟩ := k; exact ⟨ys, rfl, SRepL.ext hT hA hF ht hl hhd cs _ k⟩
 | .tup cs, y, k => by
  simp only [SRep] at k ⊢; obtain ⟨ys, rfl, k⟩ := k; exact ⟨ys, rfl, SRepL.ext hT hA hF ht hl hhd cs _ k⟩
 | .sl nl sz es, y, k => by simp only [SRep] at k ⊢; exact k.weak hF (hA.mono fun _ h => .inl h)
 | .fp e j, y, k => by simp only [SRep] at k ⊢; exact k.weak hF (hA.mono fun _ h => .inl h)
 | .fn f cs, y, k => by
  simp only [SRep] at k ⊢; obtain ⟨ys, rfl, k⟩ := k; exact ⟨ys, rfl, SRepL.ext hT hA hF ht hl hhd cs _ k⟩
 | .ref t p lo n, y, k => by simp only [SRep] at k ⊢; exact k.ext hT hA ht hl hhd
 | .ptr t p i j, y, k => by simp only [SRep] at k ⊢; exact k.ext hT hA ht hl hhd
 | .junk, _, _ => by simp [SRep]
theorem SRepL.ext (hT : ∀ t tk, toks[t]? = some tk → TokOk w E t tk) (hA : Agree (allB E) w w') (hF : ∀ b, E.F b → E'.F b) (ht : ∀ t, t < toks.length → toks'[t]? = toks[t]?) (hl : toks.length ≤ toks'.length)
  (hhd : ∀ t, t < toks.length → E'.hd t = E.hd t) : ∀ (x : List AV) (y : List Value), SRepL w E toks x y → SRepL w' E' toks' x y
 | [], _, k => by simpa [SRepL] using k
 | c :: cs, y, k => by
  simp only [SRepL] at k ⊢
  obtain ⟨y, ys, rfl, k1, k2⟩ := k
  exact ⟨y, ys, rfl, SRep.ext hT hA hF ht hl hhd c y k1, SRepL.ext hT hA hF ht hl hhd cs ys k2⟩
end
mutual
theorem SRep.of_rep : ∀ (x : AV) (y : Value), Rep w E.F x y → SRep w E toks x y
 | .v _, _, k => by simpa [SRep, Rep] using k
 | .agg cs, y, k => by
  simp only [SRep, Rep] at k ⊢; obtain ⟨ys, rfl, k⟩ := k; exact ⟨ys, rfl, SRepL.of_rep cs _ k⟩
 | .tup cs, y, k => by
  simp only [SRep, Rep] at k ⊢; obtain ⟨ys, rfl, k⟩ := k; exact ⟨ys, rfl, SRepL.of_rep cs _ k⟩
 | .sl nl sz es, y, k => by simpa only [SRep] using k
 | .fp e j, y, k => by simpa only [SRep] using k
 | .fn f cs, y, k => by
  simp only [SRep, Rep] at k ⊢; obtain ⟨ys, rfl, k⟩ := k; exact ⟨ys, rfl, SRepL.of_rep cs _ k⟩
 | .ref t p lo n, y, k => by simp [Rep] at k
 | .ptr t p i j, y, k => by simp [Rep] at k
 | .junk, _, _ => by simp [SRep]
theorem SRepL.of_rep : ∀ (x : List AV) (y : List Value), RepL w E.F x y → SRepL w E toks x y
 | [], _, k => by simpa [SRepL, RepL] using k
 | c :: cs, y, k => by
  simp only [SRepL, RepL] at k ⊢
  obtain ⟨y, ys, rfl, k1, k2⟩ := k
  exact ⟨y, ys, rfl, SRep.of_rep c y k1, SRepL.of_rep cs ys k2⟩
end
end
theorem SR.tokOk {U : Ld} {w0 w : World} {st : ASt} {E : Env} {a : Act} (h : SR U w0 st E a w) (t : Nat) (tk : Tok) (ht : st.toks[t]? = some tk) : TokOk w E t tk := h.tok t tk ht
theorem SR.allLt {U : Ld} {w0 w : World} {st : ASt} {E : Env} {a : Act} (h : SR U w0 st E a w) (b : Nat) (hb : allB E b) : b < w.heap.size :=
 hb.elim (h.flt b) fun ⟨t, ht⟩ => (h.slt t b ht).1
theorem SR.grow {U : Ld} {w0 w w' : World} {st : ASt} {E : Env} {a : Act} (h : SR U w0 st E a w) (hw : Frm (fun _ => False) w w') : SR U w0 st E a w' where
 defers := h.defers.mono (fun _ h => h) (fun b hb => hw.block b (h.flt b hb) id)
 size := h.size
 slot i x hi := SRep.ext h.tokOk (fun b hb => hw.block b (h.allLt b hb) id) (fun _ h => h) (fun _ _ => rfl) (Nat.le_refl _) (fun _ _ => rfl) x _ (h.slot i x hi)
 flt b hb := Nat.lt_of_lt_of_le (h.flt b hb) hw.size
 tok t tk ht := (h.tokOk t tk ht).weak (fun b hb => hw.block b (h.allLt b hb) id) (fun _ h => h) rfl (fun _ h => h)
 slt t b hb := ⟨Nat.lt_of_lt_of_le (h.slt t b hb).1 hw.size, (h.slt t b hb).2⟩
 sep := h.sep
 frame := ⟨hw.os.trans h.frame.os, hw.tape.trans h.frame.tape, hw.output.trans h.frame.output, Nat.le_trans h.frame.size hw.size,
  fun k hk hU => (hw.block k (Nat.lt_of_lt_of_le hk h.frame.size) id).trans (h.frame.block k hk hU)⟩
 pin := h.pin
theorem SR.other {U : Ld} {w0 w w' : World} {st : ASt} {E : Env} {a : Act} (h : SR U w0 st E a w) {b' : Nat} (hw : Frm (fun b => b = b') w w') (hb' : ¬ allB E b') (hU : w0.heap.size ≤ b' ∨ U b') : SR U w0 st E a w' where
 defers := h.defers.mono (fun _ h => h) (fun b hb => hw.block b (h.flt b hb) fun e => hb' (e ▸ .inl hb))
 size := h.size
 slot i x hi := SRep.ext h.tokOk (fun b hb => hw.block b (h.allLt b hb) fun e => hb' (e ▸ hb)) (fun _ h => h) (fun _ _ => rfl) (Nat.le_refl _) (fun _ _ => rfl) x _ (h.slot i x hi)
 flt b hb := Nat.lt_of_lt_of_le (h.flt b hb) hw.size
 tok t tk ht := (h.tokOk t tk ht).weak (fun b hb => hw.block b (h.allLt b hb) fun e => hb' (e ▸ hb)) (fun _ h => h) rfl (fun _ h => h)
 slt t b hb := ⟨Nat.lt_of_lt_of_le (h.slt t b hb).1 hw.size, (h.slt t b hb).2⟩
 sep := h.sep
 frame := ⟨hw.os.trans h.frame.os, hw.tape.trans h.frame.tape, hw.output.trans h.frame.output, Nat.le_trans h.frame.size hw.size,
  fun k hk hnU => (hw.block k (Nat.lt_of_lt_of_le hk h.frame.size) fun e => hU.elim (fun h => by omega) fun h => hnU (e ▸ h)).trans (h.frame.block k hk hnU)⟩
 pin := h.pin
theorem SR.newTok {U : Ld} {w0 w : World} {st : ASt} {E : Env} {a : Act} (h : SR U w0 st E a w) (tk : Tok) (hd : Value) (Sn : Nat → Prop)
  (hSn : ∀ b, Sn b → (w0.heap.size ≤ b ∨ U b) ∧ b < w.heap.size ∧ ¬ allB E b) (hx : tk.row = .junk ∨ ∃ nl sz es, tk.row = .sl nl sz es ∧ Excl w tk.deep E.F Sn nl sz es hd) :
  ∃ E' : Env, E'.F = E.F ∧ E'.hd st.toks.length = hd ∧ (∀ t, t < st.toks.length → E'.hd t = E.hd t) ∧ (∀ b, allB E' b → allB E b ∨ Sn b) ∧ SR U w0 ⟨st.slots, st.toks ++ [tk]⟩ E' a w := by
 let E' : Env := { F := E.F, hd := fun t => if t = st.toks.length then hd else E.hd t, S := fun t => if t = st.toks.length then Sn else E.S t }
 have hhd : ∀ t, t < st.toks.length → E'.hd t = E.hd t := fun t ht => by simp [E', Nat.ne_of_lt ht]
 have hS : ∀ t, t < st.toks.length → E'.S t = E.S t := fun t ht => by simp [E', Nat.ne_of_lt ht]
 refine ⟨E', rfl, by simp [E'], hhd, fun b hb => ?_, ?_⟩
 ·rcases hb with hb | ⟨t, hb⟩
  ·exact .inl (.inl hb)
  ·by_cases e : t = st.toks.length
   ·simp only [E', if_pos e] at hb; exact .inr hb
   ·simp only [E', if_neg e] at hb; exact .inl (.inr ⟨t, hb⟩)
 refine ⟨h.defers, h.size, fun i x hi => ?_, h.flt, fun t tk' ht => ?_, fun t b hb => ?_, fun t t' b hne hb hb' => ?_, h.frame, h.pin⟩
 ·exact SRep.ext (E' := E') (toks' := st.toks ++ [tk]) h.tokOk (Agree.refl _ _) (fun _ h => h) (fun t ht => List.getElem?_append_left ht) (by simp) hhd x _ (h.slot i x hi)
 ·by_cases e : t = st.toks.length
  ·subst e
   simp at ht; subst ht
   have e1 : E'.S st.toks.length = Sn := by simp [E']
   have e2 : E'.hd st.toks.length = hd := by simp [E']
   rw [e1, e2]; exact hx
  ·have hlt : t < st.toks.length := by
    have : t < (st.toks ++ [tk]).length := (List.getElem?_eq_some_iff.1 ht).1
    simp at this; omega
   rw [List.getElem?_append_left hlt] at ht
   have := (h.tokOk t tk' ht).weak (E' := E') (Agree.refl _ _) (fun _ h => h) (hhd t hlt) (fun b hb => by rw [hS t hlt]; exact hb)
   exact this
 ·by_cases e : t = st.toks.length
  ·subst e
   simp only [E', if_true] at hb
   have := hSn b hb
   exact ⟨this.2.1, fun hF => this.2.2 (.inl hF), this.1⟩
  ·simp only [E', if_neg e] at hb
   exact h.slt t b hb
 ·by_cases e : t = st.toks.length <;> by_cases e' : t' = st.toks.length
  ·omega
  ·simp only [E', if_neg e', if_pos e] at hb hb'
   exact (hSn b hb).2.2 (.inr ⟨t', hb'⟩)
  ·simp only [E', if_neg e, if_pos e'] at hb hb'
   exact (hSn b hb').2.2 (.inr ⟨t, hb⟩)
  ·simp only [E', if_neg e, if_neg e'] at hb hb'
   exact h.sep t t' b hne hb hb'
theorem getD_put {a : Act} {d : Nat} {y : Value} {i : Nat} (hd : d < a.tmps.size) : (a.put (some d) y).tmps.getD i undef = if i = d then y else a.tmps.getD i undef := by
 simp only [Act.put, Array.getD_eq_getD_getElem?]
 by_cases e : i = d
 ·subst e; simp [hd]
 ·rw [Array.getElem?_setIfInBounds_ne (by omega), if_neg e]
theorem SR.put {U : Ld} {w0 w : World} {slots : List AV} {toks : List Tok} {E : Env} {a : Act} (h : SR U w0 ⟨slots, toks⟩ E a w) (d : Option Nat) (hd : ∀ e, d = some e → e ∉ U.idx) {x : AV} {y : Value} (hx : SRep w E toks x y) :
  SR U w0 ⟨putD slots d x, toks⟩ E (a.put d y) w := by
 cases d with
 | none => exact h
 | some d =>
  refine ⟨h.defers, ?_, fun i x' hi => ?_, h.flt, h.tok, h.slt, h.sep, h.frame, fun i hi => ?_⟩
  ·simpa [Act.put, putD] using h.size
  ·simp only [putD] at hi
   by_cases e : i = d
   ·subst e
    by_cases hlt : i < slots.length
    ·rw [List.getElem?_set_self hlt] at hi
     obtain rfl := Option.some.inj hi
     rw [getD_put (by rw [h.size]; exact hlt), if_pos rfl]; exact hx
    ·rw [List.getElem?_eq_none (by simpa using hlt)] at hi; simp at hi
   ·rw [List.getElem?_set_ne (fun h => e h.symm)] at hi
    have := h.slot i x' hi
    by_cases hlt : d < a.tmps.size
    ·rw [getD_put hlt, if_neg e]; exact this
    ·have : (a.put (some d) y).tmps = a.tmps := by simp [Act.put, Array.setIfInBounds, hlt]
     rw [this]; assumption
  ·rw [← h.pin i hi]
   have hne : i ≠ d := fun e => hd d rfl (e ▸ hi)
   by_cases hlt : d < a.tmps.size
   ·rw [getD_put hlt, if_neg hne]
   ·have : (a.put (some d) y).tmps = a.tmps := by simp [Act.put, Array.setIfInBounds, hlt]
    rw [this]
theorem SRepL_map {w : World} {E : Env} {toks : List Tok} {f : Value → AV} : ∀ (ys : List Value), (∀ y ∈ ys, SRep w E toks (f y) y) → SRepL w E toks (ys.map f) ys
 | [], _ => by simp [SRepL]
 | y :: ys, h => by simp only [List.map_cons, SRepL]; exact ⟨y, ys, rfl, h y (by simp), SRepL_map ys fun z hz => h z (by simp [hz])⟩
theorem SRep_ofV1 {w : World} {E : Env} {toks : List Tok} (x : Value) : SRep w E toks (ofV1 x) x := by
 unfold ofV1
 split
 ·simp only [SRep, Rep]; exact ⟨none, 0, 0, rfl, rfl, Nat.le_refl _, Nat.zero_le _, .inl ⟨rfl, trivial, rfl, rfl⟩⟩
 ·split
  ·simp [SRep, *]
  ·simp [SRep]
theorem SRep_ofV {w : World} {E : Env} {toks : List Tok} (x : Value) : SRep w E toks (ofV x) x := by
 unfold ofV
 split
 ·simp only [SRep]; exact ⟨_, rfl, SRepL_map _ fun y _ => SRep_ofV1 y⟩
 ·exact SRep_ofV1 _
theorem SR.ev {U : Ld} {w0 w : World} {st : ASt} {E : Env} {a : Act} (h : SR U w0 st E a w) (x : Operand) : SRep w E st.toks (Ax.ev st.slots x) (a.eval x) := by
 cases x with
 | tmp t =>
  simp only [Ax.ev, Act.eval, List.getD_eq_getElem?_getD]
  cases ht : st.slots[t]? with
  | none => simp [SRep]
  | some x => exact h.slot t x ht
 | const c => exact SRep_ofV c
 | func f => simp only [Ax.ev, Act.eval, SRep]; exact ⟨#[], rfl, by simp [SRepL]⟩
 | global g => simp [Ax.ev, SRep]
theorem Rep.view {w : World} {F : Nat → Prop} {nl : Bool} {sz : Nat} {es : List AV} {h y : Value} {lo n : Nat} (hr : Rep w F (.sl nl sz es) h) (hv : ViewOf h sz lo n y) (hle : lo + n ≤ es.length) : Rep w F (.sl nl sz (viewEs es lo n)) y := by
 simp only [Rep] at hr ⊢
 obtain ⟨a, len, cap, rfl, h1, h2, h3, h4⟩ := hr
 have hlen : (viewEs es lo n).length = n := by simp [viewEs]; omega
 rcases hv with ⟨hv, rfl⟩ | ⟨rfl, rfl, x, c, hv⟩ | ⟨b, o, hl, hc, o', hv, rfl, ha'⟩
 ·simp only [Value.slice.injEq] at hv
  obtain ⟨rfl, rfl, rfl⟩ := hv
  refine ⟨none, 0, 0, rfl, by rw [hlen]; omega, Nat.le_refl _, Nat.zero_le _, ?_⟩
  rcases h4 with h4 | ⟨b, o, h, _⟩ | ⟨⟨x, h⟩, _⟩
  ·exact .inl ⟨rfl, h4.2.1, rfl, rfl⟩
  ·simp at h
  ·simp at h
 ·simp only [Value.slice.injEq] at hv
  obtain ⟨rfl, rfl, rfl⟩ := hv
  have he : viewEs es lo 0 = [] := List.length_eq_zero_iff.1 hlen
  refine ⟨some x, 0, cap, rfl, by rw [hlen], h2, h3, ?_⟩
  rcases h4 with h4 | ⟨b, o, h, hn, _⟩ | ⟨_, hn, _⟩
  ·simp at h4
  ·exact .inr (.inr ⟨⟨x, rfl⟩, hn, he⟩)
  ·exact .inr (.inr ⟨⟨x, rfl⟩, hn, he⟩)
 ·simp only [Value.slice.injEq] at hv
  obtain ⟨rfl, rfl, rfl⟩ := hv
  rcases h4 with h4 | ⟨b2, o2, hb, hnl, h4⟩ | ⟨_, hnl, he⟩
  ·simp at h4
  rotate_left
  ·subst he
   exact ⟨_, n, _, rfl, hlen.symm, by simp at hle; omega, by omega, .inr (.inr ⟨⟨_, rfl⟩, hnl, by simp [viewEs]⟩)⟩
  ·simp only [Option.some.injEq, Addr.mk.injEq, and_true] at hb
   obtain ⟨rfl, rfl⟩ := hb
   refine ⟨some ⟨b, o', none⟩, n, _, rfl, hlen.symm, by omega, by omega, .inr (.inl ⟨b, o', rfl, hnl, ?_⟩)⟩
   by_cases hn : n = 0
   ·subst hn
    have he : viewEs es lo 0 = [] := List.length_eq_zero_iff.1 hlen
    rw [he]; simp [RepRow]
   ·obtain rfl := ha'.resolve_right (by omega)
    refine RepRow.mk fun i e hi => ?_
    simp only [viewEs, List.getElem?_take, List.getElem?_drop] at hi
    split at hi
    ·obtain ⟨x, g1, g2, g3, g4, g5⟩ := RepRow.get h4 (lo + i) e hi
     refine ⟨x, g1, g2, g3, g4, ?_⟩
     rw [show o + lo * sz + i * sz = o + (lo + i) * sz from by rw [Nat.add_mul]; omega]; exact g5
    ·simp at hi
mutual
theorem SRep.resS {w : World} {E : Env} {toks : List Tok} {X : Nat → Prop} (hX : ∀ b, E.F b → X b) (hT : ∀ t tk, toks[t]? = some tk → TokOk w E t tk) : ∀ (x : AV) (y : Value), (∀ t ∈ refs x, ∀ b, E.S t b → X b) → SRep w E toks x y → Rep w X (Ax.res toks x) y
 | .v _, _, _, k => by simpa [SRep, Rep, Ax.res] using k
 | .agg cs, y, hr, k => by
  simp only [SRep, Rep, Ax.res] at k ⊢; obtain ⟨ys, rfl, k⟩ := k; exact ⟨ys, rfl, SRepL.resS hX hT cs _ (by simpa only [refs] using hr) k⟩
 | .tup cs, y, hr, k => by
  simp only [SRep, Rep, Ax.res] at k ⊢; obtain ⟨ys, rfl, k⟩ := k; exact ⟨ys, rfl, SRepL.resS hX hT cs _ (by simpa only [refs] using hr) k⟩
 | .sl nl sz es, y, _, k => by simp only [SRep, Ax.res] at k ⊢; exact k.weak hX (Agree.refl _ _)
 | .fp e j, y, _, k => by simp only [SRep, Ax.res] at k ⊢; exact k.weak hX (Agree.refl _ _)
 | .fn f cs, y, hr, k => by
  simp only [SRep, Rep, Ax.res] at k ⊢; obtain ⟨ys, rfl, k⟩ := k; exact ⟨ys, rfl, SRepL.resS hX hT cs _ (by simpa only [refs] using hr) k⟩
 | .ref t p lo n, y, hr, k => by
  simp only [SRep, Ax.res] at k ⊢
  cases ht : toks[t]? with
  | none => simp [Rep]
  | some tk =>
   simp only []
   split
   ·rename_i nl sz es hg
    split
    ·rename_i hle
     obtain ⟨h, g1, g2⟩ := k.2 tk nl sz es ht hg hle
     obtain ⟨h', k1, k2⟩ := (hT t tk ht).follow hg
     have : h = h' := by have := k1 w (Agree.refl _ _); rw [g1] at this; exact Option.some.inj this
     subst this
     exact (k2.rep.weak (fun b hb => hb.elim (hX b) fun h => hr t (by simp [refs]) b h) (Agree.refl _ _)).view g2 hle
    ·simp [Rep]
   ·simp [Rep]
 | .ptr t p i j, y, hr, k => by
  simp only [SRep, Ax.res] at k ⊢
  cases ht : toks[t]? with
  | none => simp [Rep]
  | some tk =>
   simp only []
   split
   ·rename_i nl sz es hg
    cases he : es[i]? with
    | none => simp [Rep]
    | some e =>
     have hlt : i < es.length := (List.getElem?_eq_some_iff.1 he).1
     obtain ⟨b, o, hl, hc, g1, rfl⟩ := k.2 tk nl sz es ht hg hlt
     obtain ⟨h', k1, k2⟩ := (hT t tk ht).follow hg
     have : h' = .slice (some ⟨b, o, none⟩) hl hc := by have := k1 w (Agree.refl _ _); rw [g1] at this; exact (Option.some.inj this).symm
     subst this
     have hr := k2.rep.weak (F' := X) (fun b hb => hb.elim (hX b) fun h => hr t (by simp [refs]) b h) (Agree.refl _ _)
     simp only [Rep] at hr ⊢
     obtain ⟨a, len, cap, hs, h1, h2, h3, h4⟩ := hr
     simp only [Value.slice.injEq] at hs
     obtain ⟨rfl, rfl, rfl⟩ := hs
     rcases h4 with h4 | ⟨b2, o2, hb, hnl, h4⟩ | ⟨_, _, rfl⟩
     ·simp at h4
     rotate_left
     ·simp at he
     ·simp only [Option.some.injEq, Addr.mk.injEq, and_true] at hb
      obtain ⟨rfl, rfl⟩ := hb
      obtain ⟨x, q1, q2, q3, q4, q5⟩ := RepRow.get h4 i e he
      exact ⟨b, o + i * sz, x, rfl, q1, q4, q5, by rw [q2, q3]⟩
   ·simp [Rep]
 | .junk, _, _, _ => by simp [Rep, Ax.res]
theorem SRepL.resS {w : World} {E : Env} {toks : List Tok} {X : Nat → Prop} (hX : ∀ b, E.F b → X b) (hT : ∀ t tk, toks[t]? = some tk → TokOk w E t tk) : ∀ (x : List AV) (y : List Value), (∀ t ∈ refsL x, ∀ b, E.S t b → X b) → SRepL w E toks x y → RepL w X (Ax.resL toks x) y
 | [], _, _, k => by simpa [SRepL, RepL, Ax.resL] using k
 | c :: cs, y, hr, k => by
  simp only [SRepL, RepL, Ax.resL] at k ⊢
  obtain ⟨y, ys, rfl, k1, k2⟩ := k
  exact ⟨y, ys, rfl, SRep.resS hX hT c y (fun t ht => hr t (by simp [refsL, ht])) k1, SRepL.resS hX hT cs ys (fun t ht => hr t (by simp [refsL, ht])) k2⟩
end
theorem SRep.res {w : World} {E : Env} {toks : List Tok} (hT : ∀ t tk, toks[t]? = some tk → TokOk w E t tk) (x : AV) (y : Value) (h : SRep w E toks x y) : Rep w (allB E) (Ax.res toks x) y :=
 SRep.resS (fun _ h => .inl h) hT x y (fun t _ _ h => .inr ⟨t, h⟩) h
theorem SRepL.res {w : World} {E : Env} {toks : List Tok} (hT : ∀ t tk, toks[t]? = some tk → TokOk w E t tk) (x : List AV) (y : List Value) (h : SRepL w E toks x y) : RepL w (allB E) (Ax.resL toks x) y :=
 SRepL.resS (fun _ h => .inl h) hT x y (fun t _ _ h => .inr ⟨t, h⟩) h
theorem SR.addF {U : Ld} {w0 w : World} {st : ASt} {E : Env} {a : Act} (h : SR U w0 st E a w) (X : Nat → Prop) (hX : ∀ b, X b → b < w.heap.size ∧ (∀ t, ¬ E.S t b) ∧ (U.A b ∨ U.U b ∨ w0.heap.size ≤ b)) :
  SR U w0 st { E with F := fun b => E.F b ∨ X b } a w where
 defers := ⟨fun hr => (h.defers.marks hr).mono (fun _ h => .inl h) (Agree.refl _ _), h.defers.none, fun b hb => hb.elim (h.defers.fz b) fun hb => (hX b hb).2.2, h.defers.gl.mono fun _ h => .inl h⟩
 size := h.size
 slot i x hi := SRep.ext (E' := { E with F := fun b => E.F b ∨ X b }) h.tokOk (Agree.refl _ _) (fun _ h => .inl h) (fun _ _ => rfl) (Nat.le_refl _) (fun _ _ => rfl) x _ (h.slot i x hi)
 flt b hb := hb.elim (h.flt b) fun hb => (hX b hb).1
 tok t tk ht := (h.tokOk t tk ht).weak (E' := { E with F := fun b => E.F b ∨ X b }) (Agree.refl _ _) (fun _ h => .inl h) rfl (fun _ h => h)
 slt t b hb := ⟨(h.slt t b hb).1, fun h' => h'.elim (h.slt t b hb).2.1 fun h' => (hX b h').2.1 t hb, (h.slt t b hb).2.2⟩
 sep := h.sep
 frame := h.frame
 pin := h.pin
open Go Go.RowKit
def CallOk (P : Program) (f : FuncId) (args : List AV) (r : AV) : Prop :=
 (∃ fn, P.funcs[f]? = some fn ∧ (fn.name == "runtime.NumGoroutine") = false ∧ fn.body.isNone = false) ∧
 ∀ (w : World) (F : Nat → Prop) (vals : Array Value), Fit F w → RepL w F args vals.toList →
  Calls P f vals w fun e w' => ∃ (y : Value) (S : Nat → Prop), e = .returned y ∧ Frm (fun _ => False) w w' ∧ (∀ b, S b → w.heap.size ≤ b ∧ b < w'.heap.size) ∧ Own w' true (fun _ => False) S r y
def MutOk (P : Program) (f : FuncId) (args : List AV) (pos : Nat) (r : AV) (row' : AV) : Prop :=
 (∃ fn, P.funcs[f]? = some fn ∧ (fn.name == "runtime.NumGoroutine") = false ∧ fn.body.isNone = false) ∧
 ∃ nl sz es es', args[pos]? = some (.sl nl sz es) ∧ row' = .sl nl sz es' ∧
 ∀ (w : World) (F S : Nat → Prop) (vals : Array Value) (h : Value), Fit F w → (∀ b, S b → b < w.heap.size ∧ ¬ F b) → vals.size = args.length →
  (∀ i a, i ≠ pos → args[i]? = some a → ∃ y, vals[i]? = some y ∧ Rep w F a y) → vals[pos]? = some h → Excl w true (fun _ => False) S nl sz es h →
  Calls P f vals w fun e w' => ∃ (y : Value) (S' Sr : Nat → Prop), e = .returned y ∧ Frm S w w' ∧ (∀ b, S' b → S b ∨ (w.heap.size ≤ b ∧ b < w'.heap.size)) ∧ (∀ b, Sr b → w.heap.size ≤ b ∧ b < w'.heap.size) ∧ (∀ b, S' b → ¬ Sr b) ∧
   Own w' true (fun _ => False) Sr r y ∧ Excl w' true (fun _ => False) S' nl sz es' h
def MovOk (P : Program) (f : FuncId) (args : List AV) (mv : List Nat) (r : AV) : Prop :=
 (∃ fn, P.funcs[f]? = some fn ∧ (fn.name == "runtime.NumGoroutine") = false ∧ fn.body.isNone = false) ∧
 ∀ (w : World) (F S : Nat → Prop) (vals : Array Value), Fit F w → (∀ b, S b → b < w.heap.size ∧ ¬ F b) → vals.size = args.length →
  (∀ i a, i ∉ mv → args[i]? = some a → ∃ y, vals[i]? = some y ∧ Rep w F a y) → OwnL w true (fun _ => False) S (mv.map fun i => args.getD i .junk) (mv.map fun i => vals.getD i undef) →
  Calls P f vals w fun e w' => ∃ (y : Value) (S' : Nat → Prop), e = .returned y ∧ Frm S w w' ∧ (∀ b, S' b → (S b ∨ w.heap.size ≤ b) ∧ b < w'.heap.size) ∧ Own w' true (fun _ => False) S' r y
def FrzOk (P : Program) (f : FuncId) (args : List AV) (sh : Bool) (r : AV) : Prop :=
 (∃ fn, P.funcs[f]? = some fn ∧ (fn.name == "runtime.NumGoroutine") = false ∧ fn.body.isNone = false) ∧
 ∀ (w : World) (F : Nat → Prop) (vals : Array Value), Fit F w → RepL w F args vals.toList →
  Calls P f vals w fun e w' => ∃ (y : Value) (F' : Nat → Prop), e = .returned y ∧ Frm (fun _ => False) w w' ∧ (∀ b, F' b → ((sh = true ∧ F b) ∨ w.heap.size ≤ b) ∧ b < w'.heap.size) ∧ Rep w' F' r y
structure TOk (P : Program) (t : TypeId) (ti : TI) : Prop where
 desc : P.underlying t = some ti.desc
 info : ∃ i, P.info? t = some i ∧ i.size = ti.size ∧ i.bytes = ti.bytes ∧ i.zero = some ti.zero
 size : ti.zero.cells.size = ti.size
 one : ti.zero.cells.all (·.oneCell') = true
def EqOk (P : Program) (t : TypeId) (n : Nat) : Prop :=
 P.eqGuardType P.depth t = false ∧ ∀ (w : World) (xs ys : List Int), xs.length = n → ys.length = n → (Op.equalIn 10000 t (.agg (xs.map (Value.int .i64)).toArray) (.agg (ys.map (Value.int .i64)).toArray)).run P w = .ok (decide (xs = ys)) w
structure Ctx.Ok (P : Program) (C : Ctx) : Prop where
 T : ∀ t ti, C.T t = some ti → TOk P t ti
 X : ∀ t n, C.X t = some n → EqOk P t n
 G : ∀ f args r, C.G f args = some r → CallOk P f args r
 M : ∀ f args pos r row', C.M f args = some (pos, r, row') → MutOk P f args pos r row'
 V : ∀ f args mv r, C.V f args = some (mv, r) → MovOk P f args mv r
 H : ∀ f args sh r, C.H f args = some (sh, r) → FrzOk P f args sh r
theorem noM_ok {P : Program} {C : Ctx} (h : C.Ok P) : (noM C).Ok P := ⟨h.T, h.X, h.G, fun _ _ _ _ _ h => by simp [noM] at h, fun _ _ _ _ h => by simp [noM] at h, h.H⟩
def Does (P : Program) (o : Oper) (a : Act) (w : World) (next : Act → World → Prop) : Prop :=
 (∃ y w', (execOp a.eval o).run P w = .ok (.value y) w' ∧ next (a.put o.dst y) w') ∨ (∃ w', (execOp a.eval o).run P w = .ok .skip w' ∧ next (a.put o.dst undef) w') ∨
 ∃ f args w1, (execOp a.eval o).run P w = .ok (.enter f args) w1 ∧ Calls P f args w1 fun e w' => ∃ y, e = .returned y ∧ next (a.put o.dst y) w'
theorem Does.some {P : Program} {o : Oper} {a : Act} {w : World} {next : Act → World → Prop} (h : Does P o a w next) : ∃ a' w', next a' w' := by
 rcases h with ⟨_, _, _, h⟩ | ⟨_, _, h⟩ | ⟨f, args, w1, _, h⟩
 ·exact ⟨_, _, h⟩
 ·exact ⟨_, _, h⟩
 ·obtain ⟨e, w', fr, ⟨y, _, h⟩, _⟩ := h []
  exact ⟨_, _, h⟩
def fen (ro : Option Nat) : Fence := { Fence.wide with round := ro }
theorem Does.wpIn {P : Program} {o : Oper} {a : Act} {w : World} {next : Act → World → Prop} {Q : Exit → Act → World → Prop} (ro : Option Nat) (h : Does P o a w next) : o.wpIn (fen ro) 0 P a w next Q := by
 have hsem : ∀ r w', (execOp a.eval o).run P w = .ok r w' → (∀ d, r ≠ .defer d) → (o.semAt (fen ro).round a.eval).run P w = .ok r w' := fun r w' hr hd => by
  rw [Oper.semAt_eq]
  ·exact hr
  ·intro c hc
   rw [execOp] at hr
   simp only [hc, Sem.run_bind] at hr
   cases hres : (resolve a.eval c o.type).run P w with
   | ok d w2 => rw [hres] at hr; simp [Result.andThen] at hr; exact hd d hr.1.symm
   | halt x w2 => rw [hres] at hr; simp [Result.andThen] at hr
 refine ⟨fun _ _ => trivial, ?_⟩
 rcases h with ⟨y, w', hr, h⟩ | ⟨w', hr, h⟩ | ⟨f, args, w1, hr, h⟩
 ·rw [hsem _ _ hr (by simp)]; exact h
 ·rw [hsem _ _ hr (by simp)]; exact h
 ·rw [hsem _ _ hr (by simp), Oper.uponIn_enter]
  refine ⟨fun hd => by simp [fen, Fence.wide] at hd, ?_⟩
  have hc : CallsIn Fence.wide (0 - 1) P f args w1 (fun e w' => ∃ y, e = .returned y ∧ next (a.put o.dst y) w') := callsIn_wide.2 h
  have hc' : CallsIn (fen ro) (0 - 1) P f args w1 (fun e w' => ∃ y, e = .returned y ∧ next (a.put o.dst y) w') := hc
  refine hc'.mono fun e w' he => ?_
  obtain ⟨y, rfl, he⟩ := he
  exact he
section
variable {P : Program} {o : Oper} {a : Act} {w : World} {next : Act → World → Prop} {Q : Exit → Act → World → Prop} {U : Ld} {w0 : World} {st : ASt} {E : Env}
theorem wp_val {y : Value} {w' : World} (hrun : (execOp a.eval o).run P w = .ok (.value y) w') (h : next (a.put o.dst y) w') : Does P o a w next := .inl ⟨y, w', hrun, h⟩
theorem wp_pure {x : AV} {y : Value} (hs : SR U w0 st E a w) (hd : ∀ e, o.dst = some e → e ∉ U.idx) (hrun : (execOp a.eval o).run P w = .ok (.value y) w) (hx : SRep w E st.toks x y)
  (hn : ∀ E' a' w', SR U w0 ⟨putD st.slots o.dst x, st.toks⟩ E' a' w' → next a' w') : Does P o a w next :=
 wp_val hrun (hn E _ _ (SR.put (slots := st.slots) (toks := st.toks) hs o.dst hd hx))
theorem abin_run {op : BinOp} {t : TypeId} {x y r : Value} (h : abin op x y = some r) (ox oy : Operand) : (do eqGuard op t ox oy x y; binOp op t x y : Sem Value).run P w = .ok r w := by
 cases x <;> cases y <;> first | (simp [abin] at h; done) | skip
 ·rename_i k a k' b
  simp only [abin] at h
  split at h
  ·rename_i hk; subst hk
   cases op <;> first
    | (simp at h; done)
    | (simp at h; subst h; simp [eqGuard, binOp, Op.intArith, Op.intCmp]; done)
    | (simp at h; obtain ⟨h0, h⟩ := h; subst h; simp [eqGuard, binOp, Op.intDiv, h0]; done)
    | (simp at h; subst h; simp [eqGuard, binOp, Op.intBits, andI, orI]; done)
    | (simp at h; obtain ⟨h0, h⟩ := h; subst h; simp [eqGuard, binOp, Op.shift, Int.not_lt.2 h0, shlI, shrI]; done)
  ·simp at h
 ·cases op <;> first
   | (simp [abin] at h; done)
   | (simp only [abin, Option.some.injEq] at h; subst h; simp [eqGuard, binOp, Op.stringOp]; done)
   |(simp only [abin] at h
     split at h
     ·rename_i hc
      simp only [Option.some.injEq] at h; subst h
      have hm : IntKind.i64.max = 9223372036854775807 := by decide
      simp [eqGuard, binOp, Op.stringOp, hm]
      omega
     ·simp at h)
theorem aun_run {op : UnOp} {x r : Value} (h : aun op x = some r) : (Op.unary op x).run P w = .ok r w := by
 cases x <;> first | (simp [aun] at h; done) | skip
 all_goals cases op <;> first | (simp [aun] at h; done) | (simp [aun] at h; subst h; simp [Op.unary, Op.intArith]; done)
theorem add_addr (b o n : Nat) : (⟨b, o, none⟩ : Addr).add n = ⟨b, o + n, none⟩ := by
 unfold Addr.add; split <;> simp_all
theorem At.add {b o : Nat} {ys : List Value} (h : At w b o ys) : ∀ j v, ys[j]? = some v → w.cell? ((⟨b, o, none⟩ : Addr).add j) = some v := fun j v hj => by rw [add_addr]; exact h j v hj
theorem run_isAgg {t : TypeId} {ti : TI} (ht : TOk P t ti) : (isAgg t).run P w = .ok (TypeDesc.aggB ti.desc) w := by
 simp only [isAgg, Sem.run_bind, Go.run_underlying ht.desc, Result.andThen_ok]
 cases ti.desc <;> simp [TypeDesc.aggB]
theorem run_size {t : TypeId} {ti : TI} (ht : TOk P t ti) : (sizeOf t).run P w = .ok ti.size w := by
 obtain ⟨i, hi, h1, _⟩ := ht.info
 simp [sizeOf, typeInfo, hi, h1]
theorem run_zero {t : TypeId} {ti : TI} (ht : TOk P t ti) : (zeroValue t).run P w = .ok ti.zero w := by
 obtain ⟨i, hi, _, _, h1⟩ := ht.info
 simp [zeroValue, typeInfo, hi, h1]
theorem run_load_agg {t : TypeId} {ti : TI} {b o' : Nat} {ys : List Value} (ht : TOk P t ti) (hg : TypeDesc.aggB ti.desc = true) (hat : At w b o' ys) (hl : ys.length = ti.size) :
  (Instr.loadAt t (.pointer (some ⟨b, o', none⟩))).run P w = .ok (.agg ys.toArray) w := by
 have := run_loadCells_list (P := P) (w := w) ⟨b, o', none⟩ ys hat.add
 simp [Instr.loadAt, Instr.sureAddr, loadVar, run_isAgg ht, hg, run_size ht, ← hl, this]
theorem run_load_one {t : TypeId} {ti : TI} {b o' : Nat} {y : Value} (ht : TOk P t ti) (hg : TypeDesc.aggB ti.desc = false) (hc : w.cell? ⟨b, o', none⟩ = some y) :
  (Instr.loadAt t (.pointer (some ⟨b, o', none⟩))).run P w = .ok y w := by
 simp [Instr.loadAt, Instr.sureAddr, loadVar, run_isAgg ht, hg, hc]
theorem heap_alloc_self (c : Obj) : (w.alloc c).heap[w.heap.size]? = some c := by show (w.heap.push c)[w.heap.size]? = _; simp
theorem frm_alloc (c : Obj) : Frm (fun _ => False) w (w.alloc c) := ⟨rfl, rfl, rfl, by simp, fun k hk _ => by show (w.heap.push c)[k]? = _; rw [Array.getElem?_push, if_neg (Nat.ne_of_lt hk)]⟩
theorem SR.newVar (hs : SR U w0 st E a w) {t : TypeId} {ti : TI} {x : AV} {y : Value} {deep : Bool} (hsz : y.cells.size = x.cells.length) (hsz' : x.cells.length = ti.size)
  (hx : ∀ w', Agree (fun b => b < w.heap.size) w w' → Own w' deep E.F (fun _ => False) x y) :
  ∃ E' : Env, SR U w0 ⟨st.slots, st.toks ++ [⟨deep, .sl false ti.size [x]⟩]⟩ E' a (w.alloc (.cells y.cells t)) ∧
   SRep (w.alloc (.cells y.cells t)) E' (st.toks ++ [⟨deep, .sl false ti.size [x]⟩]) (.ptr st.toks.length [] 0 0) (.pointer (some ⟨w.heap.size, 0, none⟩)) := by
 have hg := hs.grow (frm_alloc (w := w) (.cells y.cells t))
 obtain ⟨E', h1, h2, h3, _, h4⟩ := hg.newTok ⟨deep, .sl false ti.size [x]⟩ (.slice (some ⟨w.heap.size, 0, none⟩) 1 1) (fun b => b = w.heap.size)
  (fun b hb => by subst hb; exact ⟨.inl hs.frame.size, by simp, fun h => Nat.lt_irrefl _ (hs.allLt _ h)⟩) (.inr ⟨false, ti.size, [x], rfl, by
   refine ⟨_, 1, 1, rfl, rfl, Nat.le_refl _, by simp [maxLen], .inr ⟨w.heap.size, 0, y.cells, t, rfl, rfl, rfl, heap_alloc_self _, by rw [hsz, hsz']; omega, ?_⟩⟩
   simp only [OwnRow, and_true]
   refine ⟨y, fun _ => False, fun _ => False, fun _ h => h.elim, fun _ h => h.elim, fun _ h => h.elim, hx _ (fun b hb => (frm_alloc (w := w) (.cells y.cells t)).block b hb id), by rw [hsz, hsz'], hsz', fun j v hj => ?_⟩
   simp only [World.cell?, heap_alloc_self]
   simpa using hj⟩)
 refine ⟨E', h4, ?_⟩
 simp only [SRep]
 refine ⟨by simp, fun tk nl sz es k1 k2 k3 => ?_⟩
 simp at k1; subst k1
 simp only [getAt, AV.sl.injEq] at k2
 obtain ⟨rfl, rfl, rfl⟩ := k2
 exact ⟨w.heap.size, 0, 1, 1, by simp only [follow]; exact congrArg some h2, by simp⟩
theorem asBool_run (b : Bool) : (asBool (.bool b)).run P w = .ok b w := rfl
theorem SRep_pick {toks : List Tok} {t : Bool} {x y : AV} {u v : Value} (hx : SRep w E toks x u) (hy : SRep w E toks y v) : SRep w E toks (pickAV t x y) (if t = true then u else v) := by
 unfold pickAV
 split
 ·simp only [SRep] at hx hy ⊢
  obtain ⟨rfl, _⟩ := hx; obtain ⟨rfl, _⟩ := hy
  cases t <;> simp [Value.oneCell']
 ·cases t <;> simpa
theorem asNat_eq {x : AV} {n : Nat} (h : asNat x = some n) : ∃ k, x = .v (.int k n) := by
 unfold asNat at h
 split at h
 ·split at h
  ·rename_i k m hm
   simp only [Option.some.injEq] at h
   exact ⟨k, by rw [← h, Int.toNat_of_nonneg hm]⟩
  ·simp at h
 ·simp at h
theorem run_index {t : TypeId} {ti : TI} {el : TypeId} (ht : TOk P t ti) (hd : ti.desc = .slice el) {te : TI} (hte : TOk P el te) {k : IntKind} {i : Nat} {b o' len cap : Nat} (hi : i < len) :
  (Instr.indexAt t (.slice (some ⟨b, o', none⟩) len cap) (.int k i)).run P w = .ok (.pointer (some ⟨b, o' + i * te.size, none⟩)) w := by
 have hu := Go.run_underlying (P := P) ht.desc
 rw [hd] at hu
 simp [Instr.indexAt, asIntOf, hu, run_size hte, add_addr]
 intro h; omega
theorem run_indexArr {t : TypeId} {ti : TI} {el : TypeId} {n : Nat} (ht : TOk P t ti) (hd : ti.desc = .array n el) {te : TI} (hte : TOk P el te) {k : IntKind} {i : Nat} {b o' : Nat} (hi : i < n) :
  (Instr.indexAt t (.pointer (some ⟨b, o', none⟩)) (.int k i)).run P w = .ok (.pointer (some ⟨b, o' + i * te.size, none⟩)) w := by
 have hu := Go.run_underlying (P := P) ht.desc
 rw [hd] at hu
 simp [Instr.indexAt, asIntOf, hu, run_size hte, add_addr, Instr.sureAddr]
 intro h; omega
theorem Own.elem {d : Bool} {F S : Nat → Prop} {nl : Bool} {sz : Nat} {es : List AV} {v : Value} {i : Nat} {e : AV} (h : Own w d F S (.sl nl sz es) v) (he : es[i]? = some e) :
  ∃ b o l cp x, v = .slice (some ⟨b, o, none⟩) l cp ∧ l = es.length ∧ (F b ∨ S b) ∧ Own w d F S e x ∧ x.cells.size = sz ∧ e.cells.length = sz ∧ At w b (o + i * sz) x.cells.toList := by
 simp only [Own] at h
 rcases h with ⟨a, l, cp, rfl, h1, h2, h3, h4⟩ | h
 ·rcases h4 with ⟨rfl, rfl, rfl, rfl⟩ | ⟨b, o, cs, T, rfl, rfl, hb, hcs, hsz, h4⟩
  ·have : es = [] := List.length_eq_zero_iff.1 h1.symm
   subst this; simp at he
  ·obtain ⟨x, g1, g2, g3, g4⟩ := OwnRow.get h4 i e he
   exact ⟨b, o, l, cp, x, rfl, h1, .inr hb, Own.agree (fun _ h => h) (Agree.refl _ _) (fun _ h => h.1) (Agree.refl _ _) _ _ g1, g2, g3, g4⟩
 ·simp only [Rep] at h
  obtain ⟨rfl, a, l, cp, rfl, h1, h2, h3, h4⟩ := h
  rcases h4 with ⟨rfl, rfl, rfl, rfl⟩ | ⟨b, o, rfl, rfl, h4⟩ | ⟨_, _, rfl⟩
  ·have : es = [] := List.length_eq_zero_iff.1 h1.symm
   subst this; simp at he
  rotate_left
  ·simp at he
  ·obtain ⟨x, g1, g2, g3, g4, g5⟩ := RepRow.get h4 i e he
   exact ⟨b, o, l, cp, x, rfl, h1, .inl g4, Rep.own _ _ g1, g2, g3, g5⟩
theorem follow_app {i j : Nat} {nl : Bool} {sz : Nat} {es : List AV} {e c : AV} {b o' hl hc : Nat} {x : Value} (he : es[i]? = some e) (hj : e.cells[j]? = some c) (hx : w.cell? ⟨b, o' + i * sz + j, none⟩ = some x) :
  ∀ (p : List (Nat × Nat)) (a : AV) (v : Value), getAt a p = .sl nl sz es → follow w a v p = some (.slice (some ⟨b, o', none⟩) hl hc) → getAt a (p ++ [(i, j)]) = c ∧ follow w a v (p ++ [(i, j)]) = some x := by
 intro p
 induction p with
 | nil =>
  intro a v h1 h2
  simp only [getAt] at h1
  simp only [follow, Option.some.injEq] at h2
  subst h1; subst h2
  simp [getAt, follow, he, hj, hx]
 | cons ij p ih =>
  obtain ⟨i', j'⟩ := ij
  intro a v h1 h2
  cases a with
  | sl nl0 sz0 es0 =>
   cases v with
   | slice ad l cp =>
    cases ad with
    | none => simp [follow] at h2
    | some ad =>
     simp only [getAt] at h1
     simp only [follow] at h2
     simp only [List.cons_append, getAt, follow]
     cases he0 : es0[i']? with
     | none => simp [he0] at h2
     | some e0 =>
      simp only [he0] at h1 h2 ⊢
      cases hc0 : e0.cells[j']? with
      | none => simp [hc0] at h2
      | some c0 =>
       simp only [hc0] at h1 h2 ⊢
       cases hx0 : w.cell? ⟨ad.block, ad.off + i' * sz0 + j', none⟩ with
       | none => simp [hx0] at h2
       | some x0 => simp only [hx0] at h2 ⊢; exact ih c0 x0 h1 h2
   | _ => simp [follow] at h2
  | _ => simp [getAt] at h1
theorem SRep_loadCell {toks : List Tok} {k : Nat} {tk : Tok} (hk : toks[k]? = some tk) {p : List (Nat × Nat)} {nl : Bool} {sz : Nat} {es : List AV} (hg : getAt tk.row p = .sl nl sz es)
  {i j : Nat} {e c : AV} (he : es[i]? = some e) (hj : e.cells[j]? = some c) {b o' hl hc : Nat} {y : Value} (hy : w.cell? ⟨b, o' + i * sz + j, none⟩ = some y) (hf : follow w tk.row (E.hd k) p = some (.slice (some ⟨b, o', none⟩) hl hc))
  (hown : Own w tk.deep E.F (E.S k) c y) : SRep w E toks (loadCell k p i j c) y := by
 have hlt : k < toks.length := (List.getElem?_eq_some_iff.1 hk).1
 cases c with
 | v x => simpa [loadCell, SRep, Own] using hown
 | sl nl' sz' es' =>
  simp only [loadCell, SRep]
  refine ⟨hlt, fun tk' nl2 sz2 es2 k1 k2 k3 => ?_⟩
  rw [hk] at k1; obtain rfl := Option.some.inj k1
  obtain ⟨q1, q2⟩ := follow_app he hj hy p _ _ hg hf
  rw [q1] at k2
  simp only [AV.sl.injEq] at k2
  obtain ⟨rfl, rfl, rfl⟩ := k2
  refine ⟨y, q2, ?_⟩
  simp only [Own, Rep] at hown
  rcases hown with ⟨a, l, cp, rfl, h1, _, _, ⟨rfl, _, rfl, rfl⟩ | ⟨b2, o2, _, _, rfl, _⟩⟩ | ⟨_, a, l, cp, rfl, h1, _, _, ⟨rfl, _, rfl, rfl⟩ | ⟨b2, o2, rfl, _⟩ | ⟨⟨x, rfl⟩, _, rfl⟩⟩
  ·exact .inl ⟨rfl, rfl⟩
  ·exact .inr (.inr ⟨b2, o2, l, cp, o2, rfl, by simp [h1], .inl (by omega)⟩)
  ·exact .inl ⟨rfl, rfl⟩
  ·exact .inr (.inr ⟨b2, o2, l, cp, o2, rfl, by simp [h1], .inl (by omega)⟩)
  ·simp at h1; subst h1; exact .inr (.inl ⟨by simp, rfl, x, cp, rfl⟩)
 | fp e' j' => simp only [loadCell, SRep]; simp only [Own] at hown; exact hown.2
 | fn f cs =>
  simp only [loadCell]; simp only [Own] at hown
  exact SRep.of_rep _ _ hown.2
 | _ => simp [loadCell, SRep]
end
open Go Go.RowKit
section
variable {P : Program} {C : Ctx} {o : Oper} {a : Act} {w : World} {next : Act → World → Prop} {Q : Exit → Act → World → Prop} {U : Ld} {w0 : World} {st : ASt} {E : Env}
def Goes (P : Program) (o : Oper) (a : Act) (w : World) (U : Ld) (w0 : World) (out : Out) : Prop :=
 (∀ e, o.dst = some e → e ∉ U.idx) → ∀ (next : Act → World → Prop), (∀ E' a' w', SR U w0 ⟨putD out.slots o.dst out.val, out.toks⟩ E' a' w' → next a' w') → Does P o a w next
theorem goes_pure {x : AV} {y : Value} (hs : SR U w0 st E a w) (hrun : (execOp a.eval o).run P w = .ok (.value y) w) (hx : SRep w E st.toks x y) : Goes P o a w U w0 ⟨x, st.slots, st.toks⟩ :=
 fun hd _ hn => wp_pure hs hd hrun hx hn
theorem SRep_v {toks : List Tok} {x : AV} {v y : Value} (h : SRep w E toks x y) (hx : x = .v v) : y = v := by
 subst hx; simp only [SRep] at h; exact h.1
theorem abin_one {op : BinOp} {x y r : Value} (h : abin op x y = some r) : r.oneCell' = true := by
 unfold abin at h
 split at h
 ·split at h
  ·split at h <;> first | (split at h <;> simp_all [Value.oneCell'] <;> (obtain rfl := h; rfl)) | (simp at h; try (subst h; rfl))
  ·simp at h
 ·split at h <;> simp at h <;> first | (subst h; rfl) | (obtain ⟨_, rfl⟩ := h; rfl)
 ·simp at h
theorem aun_one {op : UnOp} {x r : Value} (h : aun op x = some r) : r.oneCell' = true := by
 unfold aun at h
 split at h
 ·split at h <;> simp at h <;> subst h <;> rfl
 ·split at h <;> simp at h <;> subst h <;> rfl
 ·simp at h
theorem cellInts_ok {toks : List Tok} : ∀ {cs : List AV} {ys : List Value} {ns : List Int}, SRepL w E toks cs ys → cellInts cs = some ns → ys = ns.map (Value.int .i64)
 | [], ys, ns, h, hc => by simp only [SRepL] at h; simp only [cellInts, Option.some.injEq] at hc; subst hc; subst h; rfl
 | c :: cs, ys, ns, h, hc => by
  simp only [SRepL] at h
  obtain ⟨y, ys, rfl, h1, h2⟩ := h
  unfold cellInts at hc
  split at hc
  ·rename_i e; simp at e
  ·rename_i n cs' e
   simp only [List.cons.injEq] at e
   obtain ⟨rfl, rfl⟩ := e
   split at hc
   ·rename_i ns' hns
    simp only [Option.some.injEq] at hc; subst hc
    simp only [SRep] at h1
    rw [h1.1, cellInts_ok h2 hns]; rfl
   ·simp at hc
  ·simp at hc
theorem SR.nilAV (hs : SR U w0 st E a w) {x : AV} {y : Value} (hx : SRep w E st.toks x y) {b : Bool} (h : Ax.nilAV st.toks x = some b) : ∃ a1 l1 c1, y = .slice a1 l1 c1 ∧ a1.isNone = b := by
 have hrep : ∀ {F : Nat → Prop} {nl : Bool} {sz : Nat} {es : List AV} {v : Value}, Rep w F (.sl nl sz es) v → ∃ a1 l1 c1, v = .slice a1 l1 c1 ∧ a1.isNone = nl := by
  intro F nl sz es v hr
  simp only [Rep] at hr
  obtain ⟨a1, l1, c1, rfl, _, _, _, hk⟩ := hr
  refine ⟨a1, l1, c1, rfl, ?_⟩
  rcases hk with ⟨rfl, rfl, _⟩ | ⟨_, _, rfl, rfl, _⟩ | ⟨⟨_, rfl⟩, rfl, _⟩ <;> rfl
 cases x with
 | sl nl sz es =>
  simp only [Ax.nilAV, Option.some.injEq] at h; subst h
  simp only [SRep] at hx
  exact hrep hx
 | ref t p lo n =>
  simp only [Ax.nilAV] at h
  split at h
  ·rename_i tk htk
   split at h
   ·rename_i nl sz es hg
    split at h
    ·rename_i hle
     simp only [Option.some.injEq] at h; subst h
     simp only [SRep] at hx
     obtain ⟨hv, g1, g2⟩ := hx.2 tk nl sz es htk hg hle
     obtain ⟨hv', k1, k2⟩ := (hs.tokOk t tk htk).follow hg
     have : hv = hv' := by have := k1 w (Agree.refl _ _); rw [g1] at this; exact Option.some.inj this
     subst this
     obtain ⟨a1, l1, c1, h1, h2⟩ := hrep k2.rep
     subst h1
     rcases g2 with ⟨q, rfl⟩ | ⟨_, rfl, _, _, q⟩ | ⟨b, o, hl, hc, o', q, rfl, _⟩
     ·simp only [Value.slice.injEq] at q; obtain ⟨rfl, _⟩ := q; exact ⟨_, _, _, rfl, h2⟩
     ·exact ⟨_, _, _, rfl, h2⟩
     ·simp only [Value.slice.injEq] at q; obtain ⟨rfl, _⟩ := q; exact ⟨_, _, _, rfl, h2⟩
    ·simp at h
   ·simp at h
  ·simp at h
 | _ => simp [Ax.nilAV] at h
theorem goes_binOp (hC : C.Ok P) (hs : SR U w0 st E a w) {op : BinOp} {t t' : TypeId} {x y : Operand} (ho : o.op = .binOp op t x y t') {out : Out} (h : aop C (.binOp op t x y t') st.slots st.toks = some out) : Goes P o a w U w0 out := by
 simp only [aop] at h
 split at h
 ·rename_i u v hu hv
  have e1 := SRep_v (hs.ev x) hu
  have e2 := SRep_v (hs.ev y) hv
  split at h
  ·rename_i r hr
   simp only [Option.some.injEq] at h; subst h
   refine goes_pure (y := r) hs ?_ (by simp only [SRep]; exact ⟨trivial, abin_one hr⟩)
   have := abin_run (P := P) (w := w) (t := t) hr x y
   simp only [execOp, ho, e1, e2]
   rw [Sem.run_bind, this]; rfl
  ·split at h
   ·rename_i s b z p q hti hab
    simp only [Option.some.injEq] at h; subst h
    have hd := (hC.T t _ hti).desc
    refine goes_pure (y := .bool (p == q)) hs ?_ (by simp [SRep, Value.oneCell'])
    have hq := run_equalIn_bool' (P := P) w 9999 t p q hd
    simp [execOp, ho, e1, e2, eqGuard, binOp, Op.equal, Op.maxDepth, hq]
   ·rename_i s b z p q hti hab
    simp only [Option.some.injEq] at h; subst h
    have hd := (hC.T t _ hti).desc
    refine goes_pure (y := .bool (!(p == q))) hs ?_ (by simp [SRep, Value.oneCell'])
    have hq := run_equalIn_bool' (P := P) w 9999 t p q hd
    simp [execOp, ho, e1, e2, eqGuard, binOp, Op.equal, Op.maxDepth, hq]
   ·simp at h
 ·rename_i cs ds hx hy
  have hxv := hs.ev x
  have hyv := hs.ev y
  rw [hx] at hxv; rw [hy] at hyv
  simp only [SRep] at hxv hyv
  obtain ⟨xv, hxe, hxl⟩ := hxv
  obtain ⟨yv, hye, hyl⟩ := hyv
  split at h
  ·rename_i n xs ys hX hcs hds
   split at h
   ·rename_i hl
    simp only [Option.some.injEq] at h; subst h
    obtain ⟨hg, hq⟩ := hC.X t n hX
    have hq := hq w xs ys hl.1 hl.2
    have ex : xv = (xs.map (Value.int .i64)).toArray := by rw [← cellInts_ok hxl hcs]
    have ey : yv = (ys.map (Value.int .i64)).toArray := by rw [← cellInts_ok hyl hds]
    rw [← ex, ← ey] at hq
    refine goes_pure (y := .bool (decide (xs = ys))) hs ?_ (by simp [SRep, Value.oneCell'])
    simp only [execOp, ho, hxe, hye, Sem.run_bind, run_eqGuard_agg w .eql t x y xv yv hg, Result.andThen_ok, run_eql_struct, hq]; rfl
   ·simp at h
  ·rename_i n xs ys hX hcs hds
   split at h
   ·rename_i hl
    simp only [Option.some.injEq] at h; subst h
    obtain ⟨hg, hq⟩ := hC.X t n hX
    have hq := hq w xs ys hl.1 hl.2
    have ex : xv = (xs.map (Value.int .i64)).toArray := by rw [← cellInts_ok hxl hcs]
    have ey : yv = (ys.map (Value.int .i64)).toArray := by rw [← cellInts_ok hyl hds]
    rw [← ex, ← ey] at hq
    refine goes_pure (y := .bool (!decide (xs = ys))) hs ?_ (by simp [SRep, Value.oneCell'])
    simp only [execOp, ho, hxe, hye, Sem.run_bind, run_eqGuard_agg w .neq t x y xv yv hg, Result.andThen_ok, run_neq_struct, hq]; rfl
   ·simp at h
  ·simp at h
 ·rename_i sz hy
  have hyv := hs.ev y
  rw [hy] at hyv
  simp only [SRep, Rep] at hyv
  obtain ⟨a2, l2, c2, hye, _, _, _, hyk⟩ := hyv
  have ha2 : a2 = none := by
   rcases hyk with h | ⟨_, _, _, h, _⟩ | ⟨_, h, _⟩
   ·exact h.1
   ·simp at h
   ·simp at h
  subst ha2
  have key : ∀ el s1 s2 z b, C.T t = some ⟨.slice el, s1, s2, z⟩ → nilAV st.toks (ev st.slots x) = some b → ∃ a1 l1 c1, a.eval x = .slice a1 l1 c1 ∧ a1.isNone = b ∧ (Op.equal t (.slice a1 l1 c1) (.slice none l2 c2)).run P w = .ok b w := fun el s1 s2 z b hti hb => by
   obtain ⟨a1, l1, c1, h1, h2⟩ := hs.nilAV (hs.ev x) hb
   refine ⟨a1, l1, c1, h1, h2, ?_⟩
   subst h2
   have hq : ∀ d, (Op.equalIn (d + 1) t (.slice a1 l1 c1) (.slice none l2 c2)).run P w = .ok a1.isNone w := fun d => by
    rw [Op.equalIn, Sem.run_bind, run_underlying (P := P) (w := w) (hC.T t _ hti).desc]
    cases a1 <;> rfl
   exact hq 9999
  split at h
  ·rename_i el s1 s2 z b hti hb
   simp only [Option.some.injEq] at h; subst h
   obtain ⟨a1, l1, c1, h1, _, h2⟩ := key _ _ _ _ _ hti hb
   refine goes_pure (y := .bool b) hs ?_ (by simp [SRep, Value.oneCell'])
   simp [execOp, ho, h1, hye, eqGuard, binOp, h2]
  ·rename_i el s1 s2 z b hti hb
   simp only [Option.some.injEq] at h; subst h
   obtain ⟨a1, l1, c1, h1, _, h2⟩ := key _ _ _ _ _ hti hb
   refine goes_pure (y := .bool (!b)) hs ?_ (by simp [SRep, Value.oneCell'])
   simp [execOp, ho, h1, hye, eqGuard, binOp, h2]
  ·simp at h
 ·simp at h
theorem goes_unOp (hs : SR U w0 st E a w) {op : UnOp} {t : TypeId} {x : Operand} (ho : o.op = .unOp op t x) {out : Out} (h : aop C (.unOp op t x) st.slots st.toks = some out) : Goes P o a w U w0 out := by
 simp only [aop] at h
 split at h
 ·rename_i u hu
  simp only [Option.map_eq_some_iff] at h
  obtain ⟨r, hr, rfl⟩ := h
  have e1 := SRep_v (hs.ev x) hu
  refine goes_pure (y := r) hs ?_ (by simp only [SRep]; exact ⟨trivial, aun_one hr⟩)
  simp only [execOp, ho, e1]
  rw [Sem.run_bind, aun_run hr]; rfl
 ·simp at h
theorem goes_pick (hs : SR U w0 st E a w) {c x y : Operand} (ho : o.op = .pick c x y) {out : Out} (h : aop C (.pick c x y) st.slots st.toks = some out) : Goes P o a w U w0 out := by
 simp only [aop] at h
 split at h
 ·rename_i t ht
  simp only [Option.some.injEq] at h; subst h
  have e1 := SRep_v (hs.ev c) ht
  refine goes_pure (y := if t = true then a.eval x else a.eval y) hs ?_ (SRep_pick (hs.ev x) (hs.ev y))
  simp [execOp, ho, e1, asBool_run]
 ·simp at h
theorem goes_move (hs : SR U w0 st E a w) {x : Operand} (ho : o.op = .move x ∨ o.op = .assign x) : Goes P o a w U w0 ⟨ev st.slots x, st.slots, st.toks⟩ := by
 refine goes_pure (y := a.eval x) hs ?_ (hs.ev x)
 rcases ho with ho | ho <;> simp [execOp, ho]
theorem Own_ofV1 {d : Bool} {F S : Nat → Prop} (x : Value) : Own w d F S (ofV1 x) x := by
 unfold ofV1
 split
 ·simp only [Own]; exact .inl ⟨none, 0, 0, rfl, rfl, Nat.le_refl _, Nat.zero_le _, .inl ⟨rfl, trivial, rfl, rfl⟩⟩
 ·split
  ·simp [Own, *]
  ·simp [Own]
theorem OwnL_map {d : Bool} {F : Nat → Prop} {f : Value → AV} : ∀ {S : Nat → Prop} (ys : List Value), (∀ y ∈ ys, Own w d F (fun _ => False) (f y) y) → OwnL w d F S (ys.map f) ys
 | _, [], _ => by simp [OwnL]
 | S, y :: ys, h => by
  simp only [List.map_cons, OwnL]
  exact ⟨y, ys, fun _ => False, fun _ => False, rfl, fun _ h => h.elim, fun _ h => h.elim, fun _ h => h.elim, h y (by simp), OwnL_map ys fun z hz => h z (by simp [hz])⟩
theorem Own_ofV {d : Bool} {F S : Nat → Prop} (x : Value) : Own w d F S (ofV x) x := by
 unfold ofV
 split
 ·simp only [Own]; exact ⟨_, rfl, OwnL_map _ fun y _ => Own_ofV1 y⟩
 ·exact Own_ofV1 _
theorem cells_ofV1 (x : Value) : (ofV1 x).cells.length = 1 := by
 unfold ofV1
 split
 ·rfl
 ·split <;> rfl
theorem cells_ofV (x : Value) : x.cells.size = (ofV x).cells.length := by
 cases x <;> first
  | (simp [ofV, Value.cells, AV.cells]; done)
  | (simp only [ofV]; rw [cells_ofV1]; rfl)
theorem goes_alloc (hC : C.Ok P) (hs : SR U w0 st E a w) {t : TypeId} (ho : o.op = .alloc t) {out : Out} (h : aop C (.alloc t) st.slots st.toks = some out) : Goes P o a w U w0 out := by
 simp only [aop] at h
 split at h
 ·rename_i ti hti
  simp only [Option.some.injEq] at h; subst h
  have ht := hC.T t ti hti
  intro hd0 next hn
  obtain ⟨E', h1, h2⟩ := hs.newVar (t := t) (ti := ti) (x := ofV ti.zero) (y := ti.zero) (deep := true) (cells_ofV _) (by rw [← cells_ofV, ht.size]) (fun w' _ => Own_ofV _)
  refine wp_val (y := .pointer (some ⟨w.heap.size, 0, none⟩)) (w' := w.alloc (.cells ti.zero.cells t)) ?_ (hn E' _ _ (SR.put h1 o.dst hd0 h2))
  simp [execOp, ho, Instr.alloc, run_zero ht, newVar, newRow]
 ·simp at h
mutual
theorem SRep.frz {toks : List Tok} {x : AV} {y : Value} (h : SRep w E toks x y) (hf : Ax.frz x = true) : Rep w E.F x y := by
 cases x with
 | v z => simpa [SRep, Rep] using h
 | sl nl sz es => simpa only [SRep] using h
 | fp e j => simpa only [SRep] using h
 | agg cs =>
  simp only [SRep, Rep] at h ⊢
  obtain ⟨ys, rfl, h⟩ := h
  refine ⟨ys, rfl, SRepL.frz cs _ h fun c hc => ?_⟩
  simp only [Ax.frz, List.all_eq_true] at hf
  have := hf c hc
  split at this <;> first | exact .inl ⟨_, rfl⟩ | exact .inr (.inl ⟨_, _, _, rfl⟩) | exact .inr (.inr ⟨_, _, rfl⟩) | simp at this
 | fn f cs =>
  simp only [SRep, Rep] at h ⊢
  obtain ⟨ys, rfl, h⟩ := h
  refine ⟨ys, rfl, SRepL.frz cs _ h fun c hc => ?_⟩
  simp only [Ax.frz, List.all_eq_true] at hf
  have := hf c hc
  split at this <;> first | exact .inl ⟨_, rfl⟩ | exact .inr (.inl ⟨_, _, _, rfl⟩) | exact .inr (.inr ⟨_, _, rfl⟩) | simp at this
 | _ => simp [Ax.frz] at hf
theorem SRepL.frz {toks : List Tok} : ∀ (cs : List AV) (ys : List Value), SRepL w E toks cs ys → (∀ c ∈ cs, (∃ x, c = .v x) ∨ (∃ nl sz es, c = .sl nl sz es) ∨ ∃ e j, c = .fp e j) → RepL w E.F cs ys
 | [], _, h, _ => by simpa [SRepL, RepL] using h
 | c :: cs, ys, h, hc => by
  simp only [SRepL, RepL] at h ⊢
  obtain ⟨y, ys, rfl, h1, h2⟩ := h
  refine ⟨y, ys, rfl, ?_, SRepL.frz cs ys h2 fun c h => hc c (by simp [h])⟩
  rcases hc c (by simp) with ⟨x, rfl⟩ | ⟨nl, sz, es, rfl⟩ | ⟨e, j, rfl⟩
  ·simpa [SRep, Rep] using h1
  ·simpa only [SRep] using h1
  ·simpa only [SRep] using h1
end
mutual
theorem Own.scal {x : AV} {y : Value} (h : Rep w E.F x y) (hf : Ax.scal x = true) {d : Bool} {F S : Nat → Prop} {w' : World} : Own w' d F S x y := by
 cases x with
 | v z => simpa [Own, Rep] using h
 | agg cs =>
  simp only [Own, Rep] at h ⊢
  obtain ⟨ys, rfl, h⟩ := h
  refine ⟨ys, rfl, OwnL.scal cs _ h fun c hc => ?_⟩
  simp only [Ax.scal, List.all_eq_true] at hf
  have := hf c hc
  split at this <;> first | exact ⟨_, rfl⟩ | simp at this
 | _ => simp [Ax.scal] at hf
theorem OwnL.scal : ∀ (cs : List AV) (ys : List Value), RepL w E.F cs ys → (∀ c ∈ cs, ∃ x, c = .v x) → ∀ {d : Bool} {F S : Nat → Prop} {w' : World}, OwnL w' d F S cs ys
 | [], _, h, _, _, _, _, _ => by simpa [OwnL, RepL] using h
 | c :: cs, ys, h, hc, d, F, S, w' => by
  simp only [OwnL, RepL] at h ⊢
  obtain ⟨y, ys, rfl, h1, h2⟩ := h
  obtain ⟨x, rfl⟩ := hc c (by simp)
  exact ⟨y, ys, fun _ => False, fun _ => False, rfl, fun _ h => h.elim, fun _ h => h.elim, fun _ h => h.elim, by simpa [Own, Rep] using h1, OwnL.scal cs ys h2 fun c h => hc c (by simp [h])⟩
end
theorem Rep.cellsN {F : Nat → Prop} {x : AV} {y : Value} (h : Rep w F x y) (hj : x ≠ .junk) : y.cells.size = x.cells.length := by
 cases x with
 | v z => simp only [Rep] at h; obtain ⟨rfl, h⟩ := h; cases y <;> first | rfl | simp [Value.oneCell'] at h
 | agg cs => simp only [Rep] at h; obtain ⟨ys, rfl, h⟩ := h; simpa [Value.cells, AV.cells] using h.length
 | tup cs => simp only [Rep] at h; obtain ⟨ys, rfl, h⟩ := h; rfl
 | sl nl sz es => simp only [Rep] at h; obtain ⟨a, l, c, rfl, _⟩ := h; rfl
 | fp e j => simp only [Rep] at h; obtain ⟨b, o, x, rfl, _⟩ := h; rfl
 | fn f cs => simp only [Rep] at h; obtain ⟨b, rfl, _⟩ := h; rfl
 | junk => exact (hj rfl).elim
 | _ => simp [Rep] at h
theorem goes_makeFunc (hs : SR U w0 st E a w) {f : FuncId} {first captured : Array Operand} (ho : o.op = .makeFunc (.func f) first captured) {out : Out} (h : aop C (.makeFunc (.func f) first captured) st.slots st.toks = some out) : Goes P o a w U w0 out := by
 simp only [aop] at h
 split at h
 ·rename_i hf
  simp only [Option.some.injEq] at h; subst h
  have he : first = #[] := Array.eq_empty_of_size_eq_zero hf
  refine goes_pure (y := .func (.func f) #[] (captured.map a.eval)) hs ?_ ?_
  ·simp [execOp, ho, Instr.makeFunc, he]
  ·simp only [SRep]
   refine ⟨_, rfl, ?_⟩
   rw [Array.toList_map]
   generalize captured.toList = l
   induction l with
   | nil => simp [SRepL]
   | cons c l ih => simp only [List.map_cons, SRepL]; exact ⟨_, _, rfl, hs.ev c, ih⟩
 ·simp at h
theorem lenAV_ok {x : AV} {y : Value} (hs : SR U w0 st E a w) (h : SRep w E st.toks x y) {n : Nat} (hn : lenAV st.toks x = some n) : ∃ ad cap, y = .slice ad n cap := by
 unfold lenAV at hn
 split at hn
 ·simp only [Option.some.injEq] at hn; subst hn
  simp only [SRep, Rep] at h
  obtain ⟨ad, l, cap, rfl, rfl, _⟩ := h
  exact ⟨_, _, rfl⟩
 ·rename_i t p lo m
  cases ht : st.toks[t]? with
  | none => simp [ht] at hn
  | some tk =>
   simp only [ht] at hn
   split at hn
   ·rename_i nl sz es hg
    split at hn
    ·rename_i hle
     simp only [Option.some.injEq] at hn; subst hn
     simp only [SRep] at h
     obtain ⟨hv, g1, g2⟩ := h.2 tk nl sz es ht hg hle
     obtain ⟨hv', k1, k2⟩ := (hs.tokOk t tk ht).follow hg
     have : hv = hv' := by have := k1 w (Agree.refl _ _); rw [g1] at this; exact Option.some.inj this
     subst this
     rcases g2 with ⟨rfl, rfl⟩ | ⟨rfl, rfl, x, c, rfl⟩ | ⟨b, o, hl, hc, o', rfl, rfl, _⟩
     rotate_left
     ·exact ⟨_, _, rfl⟩
     rotate_left
     ·have hr := k2.rep
      simp only [Rep, Value.slice.injEq] at hr
      obtain ⟨a, l, c, ⟨rfl, rfl, rfl⟩, h1, _⟩ := hr
      exact ⟨none, 0, by rw [show m = 0 by omega]⟩
     ·exact ⟨_, _, rfl⟩
    ·simp at hn
   ·simp at hn
 ·simp at hn
theorem goes_len (hs : SR U w0 st E a w) {x : Operand} {ts : Array TypeId} (ho : o.op = .call { callee := .builtin .len, args := #[x], argTypes := ts }) {t el : TypeId} (hts : ts = #[t]) (hu : P.underlying t = some (.slice el)) {n : Nat}
  (h : lenAV st.toks (ev st.slots x) = some n) : Goes P o a w U w0 ⟨.v (.int .i64 n), st.slots, st.toks⟩ := by
 obtain ⟨ad, cap, hy⟩ := lenAV_ok hs (hs.ev x) h
 refine goes_pure (y := .int .i64 n) hs ?_ (by simp [SRep, Value.oneCell'])
 subst hts
 simp [execOp, ho, resolve, invoke, builtin, Builtin.len_, Go.run_underlying hu, hy, goInt]
end
open Go Go.RowKit
section
variable {P : Program} {C : Ctx} {o : Oper} {a : Act} {w : World} {U : Ld} {w0 : World} {st : ASt} {E : Env}
mutual
theorem Own.deepF {F F' : Nat → Prop} : ∀ {S : Nat → Prop} (x : AV) (y : Value), Own w true F S x y → Own w true F' S x y
 | S, .v _, _, k => by simpa [Own] using k
 | S, .agg cs, y, k => by simp only [Own] at k ⊢; obtain ⟨ys, rfl, k⟩ := k; exact ⟨ys, rfl, OwnL.deepF cs _ k⟩
 | S, .tup cs, y, k => by simp only [Own] at k ⊢; obtain ⟨ys, rfl, k⟩ := k; exact ⟨ys, rfl, OwnL.deepF cs _ k⟩
 | S, .sl nl sz es, y, k => by
  simp only [Own, Bool.true_eq_false, false_and, or_false] at k ⊢
  obtain ⟨a', len, cap, rfl, h1, h2, h3, h4⟩ := k
  refine ⟨a', len, cap, rfl, h1, h2, h3, ?_⟩
  rcases h4 with h4 | ⟨b, o, cs, T, rfl, rfl, hb, hcs, hsz, h4⟩
  ·exact .inl h4
  ·exact .inr ⟨b, o, cs, T, rfl, rfl, hb, hcs, hsz, OwnRow.deepF _ _ _ _ h4⟩
 | S, .fp e j, y, k => by simp [Own] at k
 | S, .fn f cs, y, k => by simp [Own] at k
 | _, .ref _ _ _ _, _, k => by simp [Own] at k
 | _, .ptr _ _ _ _, _, k => by simp [Own] at k
 | _, .junk, _, _ => by simp [Own]
theorem OwnL.deepF {F F' : Nat → Prop} : ∀ {S : Nat → Prop} (x : List AV) (y : List Value), OwnL w true F S x y → OwnL w true F' S x y
 | _, [], _, k => by simpa [OwnL] using k
 | S, c :: cs, y, k => by
  simp only [OwnL] at k ⊢
  obtain ⟨y, ys, S1, S2, rfl, h1, h2, h3, k1, k2⟩ := k
  exact ⟨y, ys, S1, S2, rfl, h1, h2, h3, Own.deepF c y k1, OwnL.deepF cs ys k2⟩
theorem OwnRow.deepF {F F' : Nat → Prop} : ∀ {S : Nat → Prop} (b sz o : Nat) (es : List AV), OwnRow w true F S b sz o es → OwnRow w true F' S b sz o es
 | _, _, _, _, [], _ => by simp [OwnRow]
 | S, b, sz, o, e :: es, k => by
  simp only [OwnRow] at k ⊢
  obtain ⟨x, S1, S2, h1, h2, h3, k1, k2, k2', k3, k4⟩ := k
  exact ⟨x, S1, S2, h1, h2, h3, Own.deepF e x k1, k2, k2', k3, OwnRow.deepF b sz (o + sz) es k4⟩
end
theorem ev_int (hs : SR U w0 st E a w) {x : Operand} {n : Nat} (h : asNat (ev st.slots x) = some n) : ∃ k, a.eval x = .int k n := by
 obtain ⟨k, hk⟩ := asNat_eq h
 exact ⟨k, SRep_v (hs.ev x) hk⟩
theorem goes_indexAddr (hC : C.Ok P) (hs : SR U w0 st E a w) {t : TypeId} {x ix : Operand} (ho : o.op = .indexAddr t x ix) {out : Out} (h : aop C (.indexAddr t x ix) st.slots st.toks = some out) : Goes P o a w U w0 out := by
 simp only [aop] at h
 split at h
 ·rename_i ti i hti hi
  obtain ⟨k, hik⟩ := ev_int hs hi
  have ht := hC.T t ti hti
  split at h
  ·rename_i el nl sz es hd hx
   split at h
   ·rename_i te e hte he
    split at h
    ·rename_i hsz
     simp only [Option.some.injEq] at h; subst h
     have hx' := hs.ev x
     rw [hx] at hx'
     simp only [SRep] at hx'
     obtain ⟨b, o', l, cp, z, hv, hl, hF, g1, g2, g3, g4⟩ := Own.elem (Rep.own (S := fun _ => False) _ _ hx') he
     have hF : E.F b := hF.resolve_right id
     have hlt : i < l := by rw [hl]; exact (List.getElem?_eq_some_iff.1 he).1
     have hrz : Rep w E.F e z := (g1.rep).weak (fun b h => h.resolve_right id) (Agree.refl _ _)
     refine goes_pure (y := .pointer (some ⟨b, o' + i * te.size, none⟩)) hs ?_ ?_
     ·have := run_index (P := P) (w := w) ht hd (hC.T _ _ hte) (k := k) (i := i) (b := b) (o' := o') (len := l) (cap := cp) hlt
      simp only [execOp, ho, hik, hv, Sem.run_bind, this]; rfl
     ·simp only [SRep, Rep]
      exact ⟨b, o' + i * te.size, z, rfl, hrz, hF, by rw [hsz]; exact g4, by rw [g2, g3]⟩
    ·simp at h
   ·simp at h
  ·rename_i el kk p lo n hd hx
   split at h
   ·rename_i te tk hte htk
    split at h
    ·rename_i nl sz es hg
     split at h
     ·rename_i hcond
      obtain ⟨hsz, hin, hle⟩ := hcond
      simp only [Option.some.injEq] at h; subst h
      have hx' := hs.ev x
      rw [hx] at hx'
      simp only [SRep] at hx'
      obtain ⟨hv, q1, q2⟩ := hx'.2 tk nl sz es htk hg hle
      obtain ⟨hv', k1, k2⟩ := (hs.tokOk kk tk htk).follow hg
      have : hv = hv' := by have := k1 w (Agree.refl _ _); rw [q1] at this; exact Option.some.inj this
      subst this
      have hlt : lo + i < es.length := by omega
      obtain ⟨b, o', l, cp, z, hv2, hl, hF, g1, g2, g3, g4⟩ := Own.elem k2 (List.getElem?_eq_getElem hlt)
      subst hv2
      rcases q2 with ⟨q, _⟩ | ⟨h0, _⟩ | ⟨b1, o1, hl1, hc1, o2, q, hy, hor⟩
      ·simp at q
      ·omega
      ·simp only [Value.slice.injEq, Option.some.injEq, Addr.mk.injEq, and_true] at q
       obtain ⟨⟨rfl, rfl⟩, rfl, rfl⟩ := q
       have hcap : cp ≠ lo := by
        have hr := k2.rep
        simp only [Rep, Value.slice.injEq] at hr
        obtain ⟨_, _, _, ⟨rfl, rfl, rfl⟩, _, h3, _⟩ := hr
        omega
       obtain rfl := hor.resolve_right (fun h => hcap h.1)
       refine goes_pure (y := .pointer (some ⟨b, o' + lo * sz + i * te.size, none⟩)) hs ?_ ?_
       ·have := run_index (P := P) (w := w) ht hd (hC.T _ _ hte) (k := k) (i := i) (b := b) (o' := o' + lo * sz) (len := n) (cap := cp - lo) hin
        simp only [execOp, ho, hik, hy, Sem.run_bind, this]; rfl
       ·simp only [SRep]
        refine ⟨hx'.1, fun tk' nl' sz' es' h1 h2 h3 => ?_⟩
        rw [htk] at h1; obtain rfl := Option.some.inj h1
        rw [hg] at h2; simp only [AV.sl.injEq] at h2; obtain ⟨rfl, rfl, rfl⟩ := h2
        exact ⟨b, o', l, cp, q1, by rw [hsz, Nat.add_mul, Nat.add_assoc]; rfl⟩
     ·simp at h
    ·simp at h
   ·simp at h
  ·rename_i n el kk p q j hd hx
   split at h
   ·rename_i te tk hte htk
    split at h
    ·rename_i nl sz es hg
     split at h
     ·rename_i hcond
      simp only [Option.some.injEq] at h; subst h
      have hx' := hs.ev x
      rw [hx] at hx'
      simp only [SRep] at hx'
      obtain ⟨b, o', l, c, _, hy⟩ := hx'.2 tk nl sz es htk hg hcond.2
      refine goes_pure (y := .pointer (some ⟨b, o' + q * sz + j + i * te.size, none⟩)) hs ?_ ?_
      ·have := run_indexArr (P := P) (w := w) ht hd (hC.T _ _ hte) (k := k) (i := i) (b := b) (o' := o' + q * sz + j) hcond.1
       simp only [execOp, ho, hik, hy, Sem.run_bind, this]; rfl
      ·simp only [SRep]
       refine ⟨hx'.1, fun tk nl sz es h1 h2 h3 => ?_⟩
       obtain ⟨b1, o1, l1, c1, g1, g2⟩ := hx'.2 tk nl sz es h1 h2 h3
       rw [hy] at g2
       simp only [Value.pointer.injEq, Option.some.injEq, Addr.mk.injEq, and_true] at g2
       exact ⟨b1, o1, l1, c1, g1, by rw [g2.1, g2.2, Nat.add_assoc]⟩
     ·simp at h
    ·simp at h
   ·simp at h
  ·simp at h
 ·simp at h
theorem loadCells_ok {k : Nat} {tk : Tok} (hk : st.toks[k]? = some tk) {p : List (Nat × Nat)} {nl : Bool} {sz : Nat} {es : List AV} (hg : getAt tk.row p = .sl nl sz es)
  {i : Nat} {cs : List AV} (he : es[i]? = some (.agg cs)) {b o' hl hc : Nat} (hf : follow w tk.row (E.hd k) p = some (.slice (some ⟨b, o', none⟩) hl hc)) {ys : List Value} (hat : At w b (o' + i * sz) ys)
  (hown : ∀ (j : Nat) (c : AV), cs[j]? = some c → ∃ y : Value, ys[j]? = some y ∧ Own w tk.deep E.F (E.S k) c y) :
  ∀ (j : Nat) (l : List AV) (yl : List Value), (∀ m, m < l.length → l[m]? = cs[j + m]?) → (∀ m, m < l.length → yl[m]? = ys[j + m]?) → l.length = yl.length → SRepL w E st.toks (loadCells k p i j l) yl
 | _, [], yl, _, _, h => by have := List.length_eq_zero_iff.1 h.symm; subst this; simp [loadCells, SRepL]
 | j, c :: l, [], _, _, h => by simp at h
 | j, c :: l, y :: yl, h1, h2, h3 => by
  simp only [loadCells, SRepL]
  have hc := (h1 0 (by simp)).symm; have hy := (h2 0 (by simp)).symm
  simp at hc hy
  obtain ⟨y', e1, e2⟩ := hown j c hc
  rw [hy] at e1; obtain rfl := Option.some.inj e1
  refine ⟨y, yl, rfl, SRep_loadCell hk hg he (by simpa [AV.cells] using hc) (hat j y hy) hf e2, loadCells_ok hk hg he hf hat hown (j + 1) l yl (fun m hm => ?_) (fun m hm => ?_) (by simpa using h3)⟩
  ·have := h1 (m + 1) (by simp; omega); simp at this; rw [this]; congr 1; omega
  ·have := h2 (m + 1) (by simp; omega); simp at this; rw [this]; congr 1; omega
theorem RepL.drop {w : World} {F : Nat → Prop} : ∀ {j : Nat} {cs : List AV} {ys : List Value}, RepL w F cs ys → RepL w F (cs.drop j) (ys.drop j)
 | 0, _, _, h => by simpa using h
 | j + 1, [], ys, h => by simp only [RepL] at h; subst h; simp [RepL]
 | j + 1, c :: cs, ys, h => by
  simp only [RepL] at h
  obtain ⟨y, ys', rfl, _, h⟩ := h
  simpa using RepL.drop (j := j) h
theorem RepL.take {w : World} {F : Nat → Prop} : ∀ {j : Nat} {cs : List AV} {ys : List Value}, RepL w F cs ys → RepL w F (cs.take j) (ys.take j)
 | 0, _, _, h => by simp [RepL]
 | j + 1, [], ys, h => by simp only [RepL] at h; subst h; simp [RepL]
 | j + 1, c :: cs, ys, h => by
  simp only [RepL] at h
  obtain ⟨y, ys', rfl, h1, h⟩ := h
  simp only [List.take_succ_cons, RepL]
  exact ⟨y, _, rfl, h1, RepL.take h⟩
theorem At.sub {w : World} {b o : Nat} {ys : List Value} (h : At w b o ys) (j n : Nat) : At w b (o + j) ((ys.drop j).take n) := fun m y hm => by
 rw [Nat.add_assoc]
 refine h (j + m) y ?_
 have := (List.getElem?_eq_some_iff.1 hm).1
 rw [List.getElem?_take_of_lt (by simp at this; omega), List.getElem?_drop] at hm
 exact hm
theorem goes_load (hC : C.Ok P) (hs : SR U w0 st E a w) {t : TypeId} {x : Operand} (ho : o.op = .load t x) {out : Out} (h : aop C (.load t x) st.slots st.toks = some out) : Goes P o a w U w0 out := by
 simp only [aop] at h
 split at h
 ·rename_i ti hti
  have ht := hC.T t ti hti
  have hx' := hs.ev x
  split at h
  ·rename_i e j hx
   rw [hx] at hx'
   simp only [SRep, Rep] at hx'
   obtain ⟨b, o', z, hy, hr, hF, hat, hzn⟩ := hx'
   split at h
   ·rename_i hagg
    split at h
    ·rename_i cs
     split at h
     ·rename_i hcond
      obtain ⟨rfl, hlen⟩ := hcond
      simp only [Option.some.injEq] at h; subst h
      have hcn := hr.cellsN (by simp)
      simp only [Rep] at hr
      obtain ⟨ys, rfl, hr⟩ := hr
      refine goes_pure (y := .agg ys) hs ?_ ?_
      ·have := run_load_agg (P := P) (w := w) (b := b) (o' := o') (ys := ys.toList) ht hagg hat (by rw [← hlen]; simpa [Value.cells, AV.cells] using hcn)
       simp only [execOp, ho, hy, Nat.add_zero, Sem.run_bind, this]; rfl
      ·exact SRep.of_rep _ _ (by simp only [Rep]; exact ⟨ys, rfl, hr⟩)
     ·split at h
      ·rename_i hcond
       simp only [Option.some.injEq] at h; subst h
       have hcn := hr.cellsN (by simp)
       simp only [Rep] at hr
       obtain ⟨ys, rfl, hr⟩ := hr
       have hyl : ys.toList.length = cs.length := by simpa [Value.cells, AV.cells] using hcn
       refine goes_pure (y := .agg ((ys.toList.drop j).take ti.size).toArray) hs ?_ ?_
       ·have := run_load_agg (P := P) (w := w) (b := b) (o' := o' + j) (ys := (ys.toList.drop j).take ti.size) ht hagg (At.sub hat j ti.size) (by rw [List.length_take, List.length_drop, hyl]; omega)
        simp only [execOp, ho, hy, Sem.run_bind, this]; rfl
       ·exact SRep.of_rep _ _ (by simp only [Rep]; exact ⟨_, rfl, by simpa using hr.drop.take⟩)
      ·simp at h
    ·simp at h
   ·rename_i hagg
    split at h
    ·rename_i c hc
     simp only [Option.some.injEq] at h; subst h
     obtain ⟨y, hyc, hoc⟩ := Own.cell (Rep.own (S := fun _ => False) _ _ hr) hzn j c hc
     have hcell : w.cell? ⟨b, o' + j, none⟩ = some y := hat j y (by simpa using hyc)
     refine goes_pure (y := y) hs ?_ (SRep.of_rep _ _ (hoc.rep.weak (fun b h => h.resolve_right id) (Agree.refl _ _)))
     have := run_load_one (P := P) (w := w) (b := b) (o' := o' + j) ht (by simpa using hagg) hcell
     simp only [execOp, ho, hy, Sem.run_bind, this]; rfl
    ·simp at h
  ·rename_i k p i j hx
   rw [hx] at hx'
   simp only [SRep] at hx'
   split at h
   ·rename_i tk htk
    split at h
    ·rename_i nl sz es hg
     split at h
     ·rename_i e he
      have hlt : i < es.length := (List.getElem?_eq_some_iff.1 he).1
      obtain ⟨b, o', hl, hc, q1, hy⟩ := hx'.2 tk nl sz es htk hg hlt
      obtain ⟨hv', k1, k2⟩ := (hs.tokOk k tk htk).follow hg
      have : hv' = .slice (some ⟨b, o', none⟩) hl hc := by have := k1 w (Agree.refl _ _); rw [q1] at this; exact (Option.some.inj this).symm
      subst this
      obtain ⟨b2, o2, l, cp, z, hv2, _, hF, g1, g2, g3, g4⟩ := Own.elem k2 he
      simp only [Value.slice.injEq, Option.some.injEq, Addr.mk.injEq, and_true] at hv2
      obtain ⟨⟨rfl, rfl⟩, rfl, rfl⟩ := hv2
      split at h
      ·rename_i hagg
       split at h
       ·rename_i cs
        split at h
        ·rename_i hcond
         obtain ⟨rfl, hlen⟩ := hcond
         simp only [Option.some.injEq] at h; subst h
         have hsz : sz = ti.size := by rw [← hlen]; simpa [AV.cells] using g3.symm
         have hzc : z.cells.size = cs.length := by rw [g2, hsz, hlen]
         simp only [Own] at g1
         obtain ⟨ys, rfl, g1⟩ := g1
         refine goes_pure (y := .agg ys) hs ?_ ?_
         ·have := run_load_agg (P := P) (w := w) (b := b) (o' := o' + i * sz) (ys := ys.toList) ht hagg g4 (by rw [← hlen, ← hzc]; simp [Value.cells])
          simp only [execOp, ho, hy, Nat.add_zero, Sem.run_bind, this]; rfl
         ·simp only [SRep]
          exact ⟨ys, rfl, loadCells_ok htk hg he q1 g4 (fun j c hc => OwnL.get g1 j c hc) 0 cs ys.toList (fun m _ => by simp) (fun m _ => by simp [Value.cells]) (by simpa [Value.cells] using hzc.symm)⟩
        ·split at h
         ·rename_i hcond
          simp only [Option.some.injEq] at h; subst h
          have hzc : z.cells.size = cs.length := by rw [g2]; simpa [AV.cells] using g3.symm
          simp only [Own] at g1
          obtain ⟨ys, rfl, g1⟩ := g1
          have hyl : ys.toList.length = cs.length := by simpa [Value.cells] using hzc
          have hyz : ys.size = cs.length := by simpa using hyl
          refine goes_pure (y := .agg ((ys.toList.drop j).take ti.size).toArray) hs ?_ ?_
          ·have := run_load_agg (P := P) (w := w) (b := b) (o' := o' + i * sz + j) (ys := (ys.toList.drop j).take ti.size) ht hagg (At.sub g4 j ti.size) (by rw [List.length_take, List.length_drop, hyl]; omega)
           simp only [execOp, ho, hy, Sem.run_bind, this]; rfl
          ·simp only [SRep]
           refine ⟨_, rfl, loadCells_ok htk hg he q1 g4 (fun j c hc => OwnL.get g1 j c hc) j ((cs.drop j).take ti.size) _ (fun m hm => ?_) (fun m hm => ?_) (by simp; omega)⟩
           ·rw [List.length_take, List.length_drop] at hm
            rw [List.getElem?_take_of_lt (by omega), List.getElem?_drop]
           ·rw [List.length_take, List.length_drop] at hm
            simp only [Value.cells]
            rw [List.getElem?_take_of_lt (by omega), List.getElem?_drop]
         ·simp at h
       ·simp at h
      ·rename_i hagg
       split at h
       ·rename_i c hc
        simp only [Option.some.injEq] at h; subst h
        obtain ⟨y, hyc, hoc⟩ := Own.cell g1 (by rw [g2, g3]) j c hc
        have hcell : w.cell? ⟨b, o' + i * sz + j, none⟩ = some y := g4 j y (by simpa using hyc)
        refine goes_pure (y := y) hs ?_ (SRep_loadCell htk hg he hc hcell q1 hoc)
        have := run_load_one (P := P) (w := w) (b := b) (o' := o' + i * sz + j) ht (by simpa using hagg) hcell
        simp only [execOp, ho, hy, Sem.run_bind, this]; rfl
       ·simp at h
     ·simp at h
    ·simp at h
   ·simp at h
  ·simp at h
 ·simp at h
theorem SR.toksExt {toks toks' : List Tok} {E' : Env} {slots : List AV} (h : SR U w0 ⟨slots, toks⟩ E a w) (hF : E'.F = E.F) (hp : ∃ m, toks' = toks ++ m) (hhd : ∀ t, t < toks.length → E'.hd t = E.hd t) (x : AV) (y : Value) (hx : SRep w E toks x y) : SRep w E' toks' x y := by
 obtain ⟨m, rfl⟩ := hp
 exact SRep.ext h.tokOk (Agree.refl _ _) (fun b hb => by rw [hF]; exact hb) (fun t ht => List.getElem?_append_left ht) (by simp) hhd x y hx
mutual
theorem intern_ok {slots : List AV} {F : Nat → Prop} : ∀ (r : AV) (y : Value) (S : Nat → Prop) (toks : List Tok) (E : Env), SR U w0 ⟨slots, toks⟩ E a w → Own w true F S r y → (∀ b, S b → (w0.heap.size ≤ b ∨ U b) ∧ b < w.heap.size ∧ ¬ allB E b) →
  ∃ E' : Env, E'.F = E.F ∧ (∀ t, t < toks.length → E'.hd t = E.hd t) ∧ (∀ b, allB E' b → allB E b ∨ S b) ∧ (∃ m, (intern toks r).2 = toks ++ m) ∧ SR U w0 ⟨slots, (intern toks r).2⟩ E' a w ∧ SRep w E' (intern toks r).2 (intern toks r).1 y
 | .v x, y, S, toks, E, hs, h, hS => by
  refine ⟨E, rfl, fun _ _ => rfl, fun _ h => .inl h, ⟨[], by simp [intern]⟩, hs, ?_⟩
  simpa [intern, SRep, Own] using h
 | .junk, y, S, toks, E, hs, h, hS => ⟨E, rfl, fun _ _ => rfl, fun _ h => .inl h, ⟨[], by simp [intern]⟩, hs, by simp [intern, SRep]⟩
 | .fp _ _, y, S, toks, E, hs, h, hS => ⟨E, rfl, fun _ _ => rfl, fun _ h => .inl h, ⟨[], by simp [intern]⟩, hs, by simp [intern, SRep]⟩
 | .fn _ _, y, S, toks, E, hs, h, hS => ⟨E, rfl, fun _ _ => rfl, fun _ h => .inl h, ⟨[], by simp [intern]⟩, hs, by simp [intern, SRep]⟩
 | .ref _ _ _ _, y, S, toks, E, hs, h, hS => ⟨E, rfl, fun _ _ => rfl, fun _ h => .inl h, ⟨[], by simp [intern]⟩, hs, by simp [intern, SRep]⟩
 | .ptr _ _ _ _, y, S, toks, E, hs, h, hS => ⟨E, rfl, fun _ _ => rfl, fun _ h => .inl h, ⟨[], by simp [intern]⟩, hs, by simp [intern, SRep]⟩
 | .sl nl sz es, y, S, toks, E, hs, h, hS => by
  have hx : Excl w true E.F S nl sz es y := by
   simp only [Own, Bool.true_eq_false, false_and, or_false] at h
   obtain ⟨a', len, cap, rfl, h1, h2, h3, h4⟩ := h
   refine ⟨a', len, cap, rfl, h1, h2, h3, ?_⟩
   rcases h4 with h4 | ⟨b, o, cs, T, rfl, rfl, hb, hcs, hsz, h4⟩
   ·exact .inl h4
   ·exact .inr ⟨b, o, cs, T, rfl, rfl, hb, hcs, hsz, OwnRow.deepF _ _ _ _ h4⟩
  obtain ⟨E', h1, h2, h3, h4, h5⟩ := hs.newTok ⟨true, .sl nl sz es⟩ y S (hS) (.inr ⟨nl, sz, es, rfl, hx⟩)
  refine ⟨E', h1, h3, h4, ⟨_, rfl⟩, h5, ?_⟩
  simp only [intern, SRep]
  refine ⟨by simp, fun tk nl' sz' es' k1 k2 k3 => ?_⟩
  simp at k1; subst k1
  simp only [getAt, AV.sl.injEq] at k2; obtain ⟨rfl, rfl, rfl⟩ := k2
  refine ⟨y, by simp only [follow]; exact congrArg some h2, ?_⟩
  obtain ⟨a', len, cap, rfl, g1, g2, g3, ⟨rfl, _, rfl, rfl⟩ | ⟨b, o, cs, T, rfl, _⟩⟩ := hx
  ·exact .inl ⟨rfl, rfl⟩
  ·exact .inr (.inr ⟨b, o, len, cap, o, rfl, by simp [g1], .inl (by omega)⟩)
 | .tup vs, y, S, toks, E, hs, h, hS => by
  simp only [Own] at h
  obtain ⟨ys, rfl, h⟩ := h
  obtain ⟨E', h1, h2, h3, h4, h5, h6⟩ := internL_ok vs ys.toList S toks E hs h hS
  exact ⟨E', h1, h2, h3, h4, h5, by simp only [intern, SRep]; exact ⟨ys, rfl, h6⟩⟩
 | .agg vs, y, S, toks, E, hs, h, hS => by
  simp only [Own] at h
  obtain ⟨ys, rfl, h⟩ := h
  obtain ⟨E', h1, h2, h3, h4, h5, h6⟩ := internL_ok vs ys.toList S toks E hs h hS
  exact ⟨E', h1, h2, h3, h4, h5, by simp only [intern, SRep]; exact ⟨ys, rfl, h6⟩⟩
theorem internL_ok {slots : List AV} {F : Nat → Prop} : ∀ (r : List AV) (y : List Value) (S : Nat → Prop) (toks : List Tok) (E : Env), SR U w0 ⟨slots, toks⟩ E a w → OwnL w true F S r y → (∀ b, S b → (w0.heap.size ≤ b ∨ U b) ∧ b < w.heap.size ∧ ¬ allB E b) →
  ∃ E' : Env, E'.F = E.F ∧ (∀ t, t < toks.length → E'.hd t = E.hd t) ∧ (∀ b, allB E' b → allB E b ∨ S b) ∧ (∃ m, (internL toks r).2 = toks ++ m) ∧ SR U w0 ⟨slots, (internL toks r).2⟩ E' a w ∧ SRepL w E' (internL toks r).2 (internL toks r).1 y
 | [], y, S, toks, E, hs, h, hS => ⟨E, rfl, fun _ _ => rfl, fun _ h => .inl h, ⟨[], by simp [internL]⟩, hs, by simpa [internL, SRepL, OwnL] using h⟩
 | c :: cs, y, S, toks, E, hs, h, hS => by
  simp only [OwnL] at h
  obtain ⟨y, ys, S1, S2, rfl, d1, d2, d3, k1, k2⟩ := h
  obtain ⟨E1, a1, a2, a3, ⟨m1, a4⟩, a5, a6⟩ := intern_ok c y S1 toks E hs k1 (fun b hb => hS b (d1 b hb))
  obtain ⟨E2, b1, b2, b3, ⟨m2, b4⟩, b5, b6⟩ := internL_ok cs ys S2 (intern toks c).2 E1 a5 k2 (fun b hb => ⟨(hS b (d2 b hb)).1, (hS b (d2 b hb)).2.1, fun hA => (a3 b hA).elim (hS b (d2 b hb)).2.2 fun h => d3 b h hb⟩)
  have hlen : toks.length ≤ (intern toks c).2.length := by rw [a4]; simp
  refine ⟨E2, b1.trans a1, fun t ht => (b2 t (Nat.lt_of_lt_of_le ht hlen)).trans (a2 t ht), fun b hb => ?_, ⟨m1 ++ m2, by simp only [internL]; rw [b4, a4, List.append_assoc]⟩, b5, ?_⟩
  ·rcases b3 b hb with h | h
   ·exact (a3 b h).imp id (d1 b)
   ·exact .inr (d2 b h)
  ·simp only [internL, SRepL]
   exact ⟨y, ys, rfl, SR.toksExt a5 b1 ⟨m2, b4⟩ b2 _ _ a6, b6⟩
end
end
open Go Go.RowKit
section
variable {P : Program} {C : Ctx} {o : Oper} {a : Act} {w : World} {U : Ld} {w0 : World} {st : ASt} {E : Env}
theorem RepL_app {F : Nat → Prop} : ∀ {xs : List AV} {ys : List Value} {xs' : List AV} {ys' : List Value}, RepL w F xs ys → RepL w F xs' ys' → RepL w F (xs ++ xs') (ys ++ ys')
 | [], ys, _, _, h, h' => by simp only [RepL] at h; subst h; simpa using h'
 | x :: xs, _, _, _, h, h' => by
  simp only [RepL] at h
  obtain ⟨y, ys, rfl, h1, h2⟩ := h
  simp only [List.cons_append, RepL]
  exact ⟨y, _, rfl, h1, RepL_app h2 h'⟩
theorem RepL_args (hs : SR U w0 st E a w) : ∀ (l : List Operand), RepL w (allB E) (l.map fun x => res st.toks (ev st.slots x)) (l.map a.eval)
 | [] => by simp [RepL]
 | x :: l => by simp only [List.map_cons, RepL]; exact ⟨_, _, rfl, SRep.res hs.tokOk _ _ (hs.ev x), RepL_args hs l⟩
theorem goes_callG (hC : C.Ok P) (hs : SR U w0 st E a w) {f : Operand} {args : Array Operand} {ts : Array TypeId} (ho : o.op = .call { callee := .value f, args := args, argTypes := ts }) {g : FuncId} {caps : List AV} (hf : ev st.slots f = .fn g caps) {r : AV}
  (hr : C.G g (args.toList.map (fun x => res st.toks (ev st.slots x)) ++ resL st.toks caps) = some r) : Goes P o a w U w0 ⟨(intern st.toks r).1, st.slots, (intern st.toks r).2⟩ := by
 ·obtain ⟨⟨fn, hfn, hn1, hn2⟩, hcall⟩ := hC.G _ _ _ hr
  have hfv := hs.ev f
  rw [hf] at hfv
  simp only [SRep] at hfv
  obtain ⟨cv, hfv, hcaps⟩ := hfv
  intro hd0 next hn
  have hrep : RepL w (allB E) (args.toList.map (fun x => res st.toks (ev st.slots x)) ++ resL st.toks caps) (args.map a.eval ++ cv).toList := by
   rw [Array.toList_append, Array.toList_map]
   exact RepL_app (RepL_args hs _) (SRepL.res hs.tokOk _ _ hcaps)
  have hrun : (execOp a.eval o).run P w = .ok (.enter g (args.map a.eval ++ cv)) w := by
   have e1 : fn.name ≠ "runtime.NumGoroutine" := by simpa using hn1
   have e2 : fn.body ≠ Option.none := by intro e; rw [e] at hn2; simp at hn2
   simp [execOp, ho, resolve, hfv, Deferred.ofValue, invoke, callFunc, hfn, e1, e2]
  refine .inr (.inr ⟨_, _, _, hrun, ?_⟩)
  refine (hcall w (allB E) _ ⟨hs.allLt, hs.defers.gl.mono fun _ h => .inl h⟩ hrep).mono fun e w' he => ?_
  obtain ⟨y, S, rfl, hfr, hS, hown⟩ := he
  have hg := hs.grow hfr
  obtain ⟨E', h1, h2, h3, h4, h5, h6⟩ := intern_ok (slots := st.slots) r y S st.toks E hg hown (fun b hb => ⟨.inl (Nat.le_trans hs.frame.size (hS b hb).1), (hS b hb).2, fun hA => by have := hs.allLt b hA; have := (hS b hb).1; omega⟩)
  exact ⟨_, rfl, hn E' _ _ (SR.put h5 o.dst hd0 h6)⟩
mutual
theorem Own.undeep {F : Nat → Prop} : ∀ {S : Nat → Prop} (x : AV) (y : Value), Own w true F S x y → Own w false F S x y
 | S, .v _, _, k => by simpa [Own] using k
 | S, .agg cs, y, k => by simp only [Own] at k ⊢; obtain ⟨ys, rfl, k⟩ := k; exact ⟨ys, rfl, OwnL.undeep cs _ k⟩
 | S, .tup cs, y, k => by simp only [Own] at k ⊢; obtain ⟨ys, rfl, k⟩ := k; exact ⟨ys, rfl, OwnL.undeep cs _ k⟩
 | S, .sl nl sz es, y, k => by
  simp only [Own, Bool.true_eq_false, false_and, or_false] at k
  simp only [Own]
  obtain ⟨a', len, cap, rfl, h1, h2, h3, h4⟩ := k
  refine .inl ⟨a', len, cap, rfl, h1, h2, h3, ?_⟩
  rcases h4 with h4 | ⟨b, o, cs, T, rfl, rfl, hb, hcs, hsz, h4⟩
  ·exact .inl h4
  ·exact .inr ⟨b, o, cs, T, rfl, rfl, hb, hcs, hsz, OwnRow.undeep _ _ _ _ h4⟩
 | S, .fp e j, y, k => by simp [Own] at k
 | S, .fn f cs, y, k => by simp [Own] at k
 | _, .ref _ _ _ _, _, k => by simp [Own] at k
 | _, .ptr _ _ _ _, _, k => by simp [Own] at k
 | _, .junk, _, _ => by simp [Own]
theorem OwnL.undeep {F : Nat → Prop} : ∀ {S : Nat → Prop} (x : List AV) (y : List Value), OwnL w true F S x y → OwnL w false F S x y
 | _, [], _, k => by simpa [OwnL] using k
 | S, c :: cs, y, k => by
  simp only [OwnL] at k ⊢
  obtain ⟨y, ys, S1, S2, rfl, h1, h2, h3, k1, k2⟩ := k
  exact ⟨y, ys, S1, S2, rfl, h1, h2, h3, Own.undeep c y k1, OwnL.undeep cs ys k2⟩
theorem OwnRow.undeep {F : Nat → Prop} : ∀ {S : Nat → Prop} (b sz o : Nat) (es : List AV), OwnRow w true F S b sz o es → OwnRow w false F S b sz o es
 | _, _, _, _, [], _ => by simp [OwnRow]
 | S, b, sz, o, e :: es, k => by
  simp only [OwnRow] at k ⊢
  obtain ⟨x, S1, S2, h1, h2, h3, k1, k2, k2', k3, k4⟩ := k
  exact ⟨x, S1, S2, h1, h2, h3, Own.undeep e x k1, k2, k2', k3, OwnRow.undeep b sz (o + sz) es k4⟩
end
theorem Own.dd {d d' : Bool} {F S : Nat → Prop} {x : AV} {y : Value} (h : Own w d F S x y) (hd : d' = true → d = true) : Own w d' F S x y := by
 cases d' with
 | true => rw [hd rfl] at h; exact h
 | false => cases d with
  | true => exact h.undeep
  | false => exact h
section
variable {w' : World} {d d' : Bool} {F : Nat → Prop} {b sz : Nat}
theorem OwnRow.keep (hdd : d' = true → d = true) (hag : ∀ x, x ≠ b → w'.heap[x]? = w.heap[x]?) (hFb : ¬ F b) : ∀ {S : Nat → Prop}, (∀ x, S x → x ≠ b) → ∀ (o : Nat) (es : List AV), OwnRow w d F S b sz o es →
  (∀ off, o ≤ off → off < o + es.length * sz → w'.cell? ⟨b, off, none⟩ = w.cell? ⟨b, off, none⟩) → OwnRow w' d' F S b sz o es
 | _, _, _, [], _, _ => by simp [OwnRow]
 | S, hS, o, e :: es, k, hc => by
  simp only [OwnRow] at k ⊢
  obtain ⟨x, S1, S2, h1, h2, h3, k1, k2, k2', k3, k4⟩ := k
  have hl : (e :: es).length * sz = sz + es.length * sz := by rw [List.length_cons, Nat.add_mul]; omega
  refine ⟨x, S1, S2, h1, h2, h3, (Own.agree (w' := w') (fun _ h => h) (fun y hy => hag y fun e => hFb (e ▸ hy)) (fun _ h => h) (fun y hy => hag y (hS y (h1 y hy))) _ _ k1).dd hdd, k2, k2', fun j y hj => ?_,
   OwnRow.keep hdd hag hFb (fun x hx => hS x (h2 x hx)) (o + sz) es k4 fun off q1 q2 => hc off (by omega) (by rw [hl]; omega)⟩
  have hjl : j < sz := by have := (List.getElem?_eq_some_iff.1 hj).1; simpa [k2] using this
  rw [hc (o + j) (by omega) (by rw [hl]; omega)]
  exact k3 j y hj
theorem OwnRow.upd {Sx : Nat → Prop} {e e' : AV} (hdd : d' = true → d = true) (hag : ∀ x, x ≠ b → w'.heap[x]? = w.heap[x]?) (hFb : ¬ F b) : ∀ {S : Nat → Prop}, (∀ x, S x → x ≠ b) → (∀ x, Sx x → ¬ S x) →
  ∀ (o : Nat) (es : List AV) (i : Nat), OwnRow w d F S b sz o es → es[i]? = some e →
  (∀ off, (off < o + i * sz ∨ o + i * sz + sz ≤ off) → w'.cell? ⟨b, off, none⟩ = w.cell? ⟨b, off, none⟩) →
  (∀ (S1 : Nat → Prop) x, (∀ y, S1 y → S y) → Own w d F S1 e x → x.cells.size = sz → e.cells.length = sz → At w b (o + i * sz) x.cells.toList → ∃ x', Own w' d' F (fun y => S1 y ∨ Sx y) e' x' ∧ x'.cells.size = sz ∧ e'.cells.length = sz ∧ At w' b (o + i * sz) x'.cells.toList) →
  OwnRow w' d' F (fun y => S y ∨ Sx y) b sz o (es.set i e')
 | _, _, _, _, [], _, _, h, _, _ => by simp at h
 | S, hS, hSx, o, e0 :: es, 0, k, he, hc, hnew => by
  simp only [OwnRow, List.set_cons_zero] at k ⊢
  simp at he; subst he
  obtain ⟨x, S1, S2, h1, h2, h3, k1, k2, k2', k3, k4⟩ := k
  obtain ⟨x', g1, g2, g3, g4⟩ := hnew S1 x h1 k1 k2 k2' (by simpa using k3)
  refine ⟨x', fun y => S1 y ∨ Sx y, S2, fun y hy => hy.imp (h1 y) id, fun y hy => .inl (h2 y hy), fun y hy h => hy.elim (fun hy => h3 y hy h) fun hy => hSx y hy (h2 y h), g1, g2, g3, by simpa using g4, ?_⟩
  exact OwnRow.keep hdd hag hFb (fun x hx => hS x (h2 x hx)) (o + sz) es k4 fun off q1 _ => hc off (.inr (by omega))
 | S, hS, hSx, o, e0 :: es, i + 1, k, he, hc, hnew => by
  simp only [OwnRow, List.set_cons_succ] at k ⊢
  obtain ⟨x, S1, S2, h1, h2, h3, k1, k2, k2', k3, k4⟩ := k
  have hi : o + (i + 1) * sz = o + sz + i * sz := by rw [Nat.add_mul]; omega
  rw [hi] at hc hnew
  refine ⟨x, S1, fun y => S2 y ∨ Sx y, fun y hy => .inl (h1 y hy), fun y hy => hy.imp (h2 y) id, fun y hy h => h.elim (h3 y hy) fun h => hSx y h (h1 y hy),
   (Own.agree (w' := w') (fun _ h => h) (fun y hy => hag y fun e => hFb (e ▸ hy)) (fun _ h => h) (fun y hy => hag y (hS y (h1 y hy))) _ _ k1).dd hdd, k2, k2', fun j y hj => ?_, ?_⟩
  ·have hjl : j < sz := by have := (List.getElem?_eq_some_iff.1 hj).1; simpa [k2] using this
   rw [hc (o + j) (.inl (by omega))]
   exact k3 j y hj
  ·exact OwnRow.upd hdd hag hFb (fun x hx => hS x (h2 x hx)) (fun x hx h => hSx x hx (h2 x h)) (o + sz) es i k4 (by simpa using he) hc
    fun S1' x hS1 => hnew S1' x (fun y hy => h2 y (hS1 y hy))
end
end
open Go Go.RowKit
section
variable {P : Program} {C : Ctx} {a : Act} {w : World} {U : Ld} {w0 : World} {st : ASt} {E : Env}
def SU (E : Env) (L : List Nat) : Nat → Prop := fun b => ∃ t, t ∈ L ∧ E.S t b
theorem SU_disj (hs : SR U w0 st E a w) {L L' : List Nat} (h : (L ++ L').Nodup) (b : Nat) (h1 : SU E L b) (h2 : SU E L' b) : False := by
 obtain ⟨t, ht, h1⟩ := h1
 obtain ⟨t', ht', h2⟩ := h2
 refine hs.sep t t' b (fun e => ?_) h1 h2
 subst e
 rw [List.nodup_append] at h
 exact h.2.2 t ht t ht' rfl
theorem SU_app {L L' : List Nat} : ∀ b, SU E (L ++ L') b ↔ SU E L b ∨ SU E L' b := fun b => by
 constructor
 ·rintro ⟨t, ht, h⟩
  rcases List.mem_append.1 ht with ht | ht
  ·exact .inl ⟨t, ht, h⟩
  ·exact .inr ⟨t, ht, h⟩
 ·rintro (⟨t, ht, h⟩ | ⟨t, ht, h⟩)
  ·exact ⟨t, by simp [ht], h⟩
  ·exact ⟨t, by simp [ht], h⟩
theorem OwnRow.mono {d : Bool} {F S S' : Nat → Prop} {b sz o : Nat} {es : List AV} (h : OwnRow w d F S b sz o es) (hS : ∀ y, S y → S' y) : OwnRow w d F S' b sz o es :=
 OwnRow.agree (fun _ h => h) (Agree.refl _ _) hS (Agree.refl _ _) b sz o rfl es h
theorem OwnRow.take {d : Bool} {F : Nat → Prop} {b sz : Nat} : ∀ {S : Nat → Prop} {o : Nat} {es : List AV} (n : Nat), OwnRow w d F S b sz o es → OwnRow w d F S b sz o (es.take n)
 | _, _, [], n, _ => by simp [OwnRow]
 | _, _, _ :: _, 0, _ => by simp [OwnRow]
 | S, o, e :: es, n + 1, h => by
  simp only [OwnRow, List.take_succ_cons] at h ⊢
  obtain ⟨x, S1, S2, h1, h2, h3, k1, k2, k2', k3, k4⟩ := h
  exact ⟨x, S1, S2, h1, h2, h3, k1, k2, k2', k3, OwnRow.take n k4⟩
theorem OwnRow.drop {d : Bool} {F : Nat → Prop} {b sz : Nat} : ∀ {S : Nat → Prop} {o : Nat} {es : List AV} (n : Nat), OwnRow w d F S b sz o es → OwnRow w d F S b sz (o + n * sz) (es.drop n)
 | _, _, [], n, _ => by simp [OwnRow]
 | _, _, _ :: _, 0, h => by simpa using h
 | S, o, e :: es, n + 1, h => by
  simp only [OwnRow, List.drop_succ_cons] at h ⊢
  obtain ⟨x, S1, S2, h1, h2, h3, k1, k2, k2', k3, k4⟩ := h
  rw [show o + (n + 1) * sz = o + sz + n * sz from by rw [Nat.add_mul]; omega]
  exact (OwnRow.drop n k4).mono h2
theorem Own.view {F S : Nat → Prop} {nl : Bool} {sz : Nat} {es : List AV} {h y : Value} {lo n : Nat} (hr : Own w true F S (.sl nl sz es) h) (hv : ViewOf h sz lo n y) (hle : lo + n ≤ es.length) : Own w true F S (.sl nl sz (viewEs es lo n)) y := by
 simp only [Own, Bool.true_eq_false, false_and, or_false] at hr ⊢
 obtain ⟨a, len, cap, rfl, h1, h2, h3, h4⟩ := hr
 have hlen : (viewEs es lo n).length = n := by simp [viewEs]; omega
 rcases hv with ⟨hv, rfl⟩ | ⟨rfl, rfl, x, c, hv⟩ | ⟨b, o, hl, hc, o', hv, rfl, ha'⟩
 ·simp only [Value.slice.injEq] at hv
  obtain ⟨rfl, rfl, rfl⟩ := hv
  refine ⟨none, 0, 0, rfl, by rw [hlen]; omega, Nat.le_refl _, Nat.zero_le _, .inl ?_⟩
  rcases h4 with h4 | ⟨_, _, _, _, h, _⟩
  ·exact ⟨rfl, h4.2.1, rfl, rfl⟩
  ·simp at h
 ·simp only [Value.slice.injEq] at hv
  obtain ⟨rfl, rfl, rfl⟩ := hv
  have he : viewEs es lo 0 = [] := List.length_eq_zero_iff.1 hlen
  refine ⟨some x, 0, cap, rfl, by rw [hlen], h2, h3, ?_⟩
  rcases h4 with h4 | ⟨b, o, cs, T, h, hn, hb, hcs, hsz, _⟩
  ·simp at h4
  ·exact .inr ⟨b, o, cs, T, h, hn, hb, hcs, hsz, by rw [he]; simp [OwnRow]⟩
 ·simp only [Value.slice.injEq] at hv
  obtain ⟨rfl, rfl, rfl⟩ := hv
  rcases h4 with h4 | ⟨b2, o2, cs, T, hb, hnl, hS, hcs, hsz, h4⟩
  ·simp at h4
  ·simp only [Option.some.injEq, Addr.mk.injEq, and_true] at hb
   obtain ⟨rfl, rfl⟩ := hb
   have hlc : lo ≤ cap := by omega
   have hmul : lo * sz + (cap - lo) * sz = cap * sz := by rw [← Nat.add_mul]; congr 1; omega
   refine ⟨some ⟨b, o', none⟩, n, cap - lo, rfl, hlen.symm, by omega, by omega, .inr ⟨b, o', cs, T, rfl, hnl, hS, hcs, ?_, ?_⟩⟩
   ·rcases ha' with rfl | ⟨rfl, _, ha'⟩
    ·omega
    ·simp; omega
   ·by_cases hn : n = 0
    ·subst hn
     have he : viewEs es lo 0 = [] := List.length_eq_zero_iff.1 hlen
     rw [he]; simp [OwnRow]
    ·obtain rfl := ha'.resolve_right (by omega)
     exact OwnRow.take n (OwnRow.drop lo h4)
theorem ownV_ok (hs : SR U w0 st E a w) {F : Nat → Prop} {t : Nat} {p : List (Nat × Nat)} {lo n : Nat} {y : Value} {q : AV × List Nat} (h : RefOk w E st.toks t p lo n y) (hq : ownV st.toks t p lo n = some q) : Own w true F (SU E q.2) q.1 y := by
 unfold ownV at hq
 split at hq
 ·rename_i tk htk
  split at hq
  ·rename_i nl sz es hg
   split at hq
   ·rename_i hc
    simp only [Option.some.injEq] at hq; subst hq
    obtain ⟨v, g1, g2⟩ := h.2 tk nl sz es htk hg hc.2
    obtain ⟨v', k1, k2⟩ := (hs.tokOk t tk htk).follow hg
    have : v = v' := by have := k1 w (Agree.refl _ _); rw [g1] at this; exact Option.some.inj this
    subst this
    rw [hc.1] at k2
    exact Own.deepF _ _ ((k2.view g2 hc.2).weak (fun _ h => h) (fun b hb => ⟨t, by simp, hb⟩) (Agree.refl _ _))
   ·simp at hq
  ·simp at hq
 ·simp at hq
theorem alt_eq {α : Type} {x y : Option α} {z : α} (h : alt x y = some z) : x = some z ∨ y = some z := by
 cases x with
 | none => exact .inr h
 | some x => exact .inl h
theorem OwnL.weak0 {F S S' : Nat → Prop} : ∀ {x : List AV} {y : List Value}, OwnL w true F S x y → (∀ b, S b → S' b) → OwnL w true F S' x y
 | [], _, h, _ => by simpa [OwnL] using h
 | c :: cs, _, h, hS => by
  simp only [OwnL] at h ⊢
  obtain ⟨y, ys, S1, S2, e, h1, h2, h3, h4, h5⟩ := h
  exact ⟨y, ys, S1, S2, e, fun b hb => hS b (h1 b hb), fun b hb => hS b (h2 b hb), h3, h4, h5⟩
theorem wholeP_ok {F F' : Nat → Prop} {t : Nat} {tk : Tok} {nl : Bool} {sz : Nat} {ds : List AV} (htk : st.toks[t]? = some tk) (hrow : tk.row = .sl nl sz [.agg ds]) (hd : tk.deep = true) :
  ∀ (cs : List AV) (k : Nat) (ys : List Value) (q : List AV × List Nat) (S : Nat → Prop) (xs : List Value), SRepL w E st.toks cs ys → ownRL st.toks cs = some q → wholeP t k cs = true →
   OwnL w true F' S (ds.drop k) xs → (∀ j y, xs[j]? = some y → k + j < ds.length → follow w tk.row (E.hd t) [(0, k + j)] = some y) → OwnL w true F S q.1 ys
 | [], _, ys, q, S, xs, h, hq, _, _, _ => by
  simp only [ownRL, Option.some.injEq] at hq; subst hq
  simpa [SRepL, OwnL] using h
 | c :: cs, k, ys, q, S, xs, h, hq, hw, ho, hf => by
  simp only [ownRL] at hq
  split at hq
  rotate_left
  ·simp at hq
  rename_i q1 q2 g1 g2
  simp only [Option.some.injEq] at hq; subst hq
  simp only [SRepL] at h
  obtain ⟨y, ys, rfl, k1, k2⟩ := h
  -- the rest of the box
  have rest : ∃ S1 S2 xs', (∀ b, S1 b → S b) ∧ (∀ b, S2 b → S b) ∧ (∀ b, S1 b → ¬ S2 b) ∧ OwnL w true F' S2 (ds.drop (k + 1)) xs' ∧ (∀ j y, xs'[j]? = some y → k + 1 + j < ds.length → follow w tk.row (E.hd t) [(0, k + 1 + j)] = some y) ∧
    ∀ d, ds[k]? = some d → ∃ x, Own w true F' S1 d x ∧ follow w tk.row (E.hd t) [(0, k)] = some x := by
   by_cases hk : k < ds.length
   ·rw [List.drop_eq_getElem_cons hk] at ho
    simp only [OwnL] at ho
    obtain ⟨x, xs', S1, S2, rfl, h1, h2, h3, h4, h5⟩ := ho
    refine ⟨S1, S2, xs', h1, h2, h3, h5, fun j y hj hl => ?_, fun d hdk => ⟨x, ?_, ?_⟩⟩
    ·have := hf (j + 1) y (by simpa using hj) (by omega)
     rwa [show k + (j + 1) = k + 1 + j by omega] at this
    ·rw [List.getElem?_eq_getElem hk] at hdk
     rw [← Option.some.inj hdk]; exact h4
    ·exact hf 0 x (by simp) (by omega)
   ·rw [List.drop_of_length_le (by omega)] at ho
    refine ⟨fun _ => False, fun _ => False, [], fun _ h => h.elim, fun _ h => h.elim, fun _ h => h.elim, ?_, fun j y hj => by simp at hj, fun d hdk => ?_⟩
    ·rw [List.drop_of_length_le (by omega)]; simp [OwnL]
    ·rw [List.getElem?_eq_none (by omega)] at hdk; simp at hdk
  obtain ⟨S1, S2, xs', r1, r2, r3, r4, r5, r6⟩ := rest
  have simple : ∀ (hq1 : q1.2 = []) (hw' : wholeP t (k + 1) cs = true) (hO : Own w true F (fun _ => False) q1.1 y), OwnL w true F S (q1.1 :: q2.1) (y :: ys) := fun _ hw' hO => by
   simp only [OwnL]
   exact ⟨y, ys, fun _ => False, S2, rfl, fun _ h => h.elim, r2, fun _ h => h.elim, hO, wholeP_ok htk hrow hd cs (k + 1) ys q2 S2 xs' k2 g2 hw' r4 r5⟩
  cases c with
  | v x =>
   simp only [wholeP] at hw
   simp only [ownR, Option.some.injEq] at g1; subst g1
   exact simple rfl hw (by simpa [SRep, Own] using k1)
  | sl nl' sz' es' =>
   simp only [wholeP] at hw
   simp only [ownR] at g1
   split at g1
   ·simp only [Option.some.injEq] at g1; subst g1
    refine simple rfl hw ?_
    simp only [SRep, Rep] at k1
    obtain ⟨a', l, c, rfl, h1, h2, h3, h4⟩ := k1
    simp only [Own]
    refine .inl ⟨a', l, c, rfl, h1, h2, h3, .inl ?_⟩
    rcases h4 with h4 | ⟨b, o, _, h, _⟩ | ⟨_, h, _⟩
    ·exact ⟨h4.1, trivial, h4.2.2⟩
    ·simp at h
    ·simp at h
   ·simp at g1
  | ref t' p lo n =>
   simp only [wholeP, Bool.and_eq_true, decide_eq_true_eq] at hw
   obtain ⟨⟨rfl, rfl⟩, hw⟩ := hw
   have g1' : ownV st.toks t' [(0, k)] lo n = some q1 := by
    simp only [ownR] at g1
    exact (alt_eq g1).resolve_left (by simp)
   clear g1
   simp only [ownV, htk] at g1'
   split at g1'
   ·rename_i nl2 sz2 es2 hg
    split at g1'
    ·rename_i hc
     simp only [Option.some.injEq] at g1'; subst g1'
     simp only [SRep] at k1
     obtain ⟨v, e1, e2⟩ := k1.2 tk nl2 sz2 es2 htk hg hc.2
     have hdk : ds[k]? = some (.sl nl2 sz2 es2) := by
      rw [hrow] at hg
      simp only [getAt, List.getElem?_cons_zero, AV.cells] at hg
      split at hg
      ·rename_i c hck
       rw [hg] at hck
       exact hck
      ·simp at hg
     obtain ⟨x, o1, o2⟩ := r6 _ hdk
     rw [o2] at e1
     obtain rfl := Option.some.inj e1
     simp only [OwnL]
     exact ⟨y, ys, S1, S2, rfl, r1, r2, r3, Own.deepF _ _ (o1.view e2 hc.2), wholeP_ok htk hrow hd cs (k + 1) ys q2 S2 xs' k2 g2 hw r4 r5⟩
    ·simp at g1'
   ·simp at g1'
  | agg _ => simp [wholeP] at hw
  | tup _ => simp [wholeP] at hw
  | fp _ _ => simp [wholeP] at hw
  | fn _ _ => simp [wholeP] at hw
  | ptr _ _ _ _ => simp [wholeP] at hw
  | junk => simp [wholeP] at hw
theorem wholeB_ok (hs : SR U w0 st E a w) {F : Nat → Prop} {t : Nat} {cs : List AV} {ys : List Value} {q : List AV × List Nat} (hb : wholeB st.toks t cs = true) (h : SRepL w E st.toks cs ys) (hq : ownRL st.toks cs = some q) : OwnL w true F (E.S t) q.1 ys := by
 unfold wholeB at hb
 split at hb
 ·rename_i tk htk
  simp only [Bool.and_eq_true] at hb
  obtain ⟨⟨hd, ha⟩, hw⟩ := hb
  obtain ⟨nl, sz, ds, hrow⟩ : ∃ nl sz ds, tk.row = .sl nl sz [.agg ds] := by
   unfold isAgg1 at ha
   split at ha
   ·rename_i nl sz ds he; exact ⟨nl, sz, ds, he⟩
   ·simp at ha
  rcases hs.tok t tk htk with hj | ⟨nl', sz', es', e1, e2⟩
  ·rw [hrow] at hj; simp at hj
  ·rw [hrow] at e1; simp only [AV.sl.injEq] at e1; obtain ⟨rfl, rfl, rfl⟩ := e1
   rw [hd] at e2
   obtain ⟨a1, l, c, hhd, hl, hl2, hl3, h4⟩ := e2
   rcases h4 with ⟨_, _, h4, _⟩ | ⟨b, o, cells, T, rfl, _, hSb, hcs, hsz, hr⟩
   ·rw [h4] at hl; simp at hl
   ·simp only [OwnRow] at hr
    obtain ⟨x, S1, S2, r1, r2, r3, r4, r5, r6, r7, _⟩ := hr
    simp only [Own] at r4
    obtain ⟨xs, rfl, r4⟩ := r4
    refine OwnL.weak0 (S := S1) (wholeP_ok htk hrow hd cs 0 ys q S1 xs.toList h hq hw (by simpa using r4) fun j y hj hjl => ?_) fun b hb => (r1 b hb).1
    rw [hrow, hhd]
    have hcell : w.cell? ⟨b, o + 0 * sz + j, none⟩ = some y := by
     have := r7 j y (by simpa [Value.cells] using hj)
     simpa using this
    have hdj : ds[0 + j]? = some ds[0 + j] := List.getElem?_eq_getElem hjl
    simp only [follow, List.getElem?_cons_zero, AV.cells, Nat.zero_add]
    rw [show o + 0 * sz + j = o + 0 * sz + (0 + j) by omega] at hcell
    simp only [Nat.zero_add] at hdj hcell
    simp only [hdj, hcell]
 ·simp at hb
mutual
theorem ownR_ok (hs : SR U w0 st E a w) {F : Nat → Prop} : ∀ (x : AV) (y : Value) (q : AV × List Nat), SRep w E st.toks x y → ownR st.toks x = some q → q.2.Nodup → Own w true F (SU E q.2) q.1 y
 | .v x, y, q, h, hq, _ => by
  simp only [ownR, Option.some.injEq] at hq; subst hq
  simpa [SRep, Own] using h
 | .sl nl sz es, y, q, h, hq, _ => by
  simp only [ownR] at hq
  split at hq
  ·simp only [Option.some.injEq] at hq; subst hq
   simp only [SRep, Rep] at h
   obtain ⟨a', l, c, rfl, h1, h2, h3, h4⟩ := h
   simp only [Own]
   refine .inl ⟨a', l, c, rfl, h1, h2, h3, .inl ?_⟩
   rcases h4 with h4 | ⟨b, o, _, h, _⟩ | ⟨_, h, _⟩
   ·exact ⟨h4.1, trivial, h4.2.2⟩
   ·simp at h
   ·simp at h
  ·simp at hq
 | .ref t p lo n, y, q, h, hq, _ => by
  simp only [ownR] at hq
  have hq0 := alt_eq hq
  clear hq
  rcases hq0 with hq | hq
  rotate_left
  ·simp only [SRep] at h; exact ownV_ok hs h hq
  split at hq
  ·rename_i tk htk
   split at hq
   ·rename_i nl sz es hrow
    split at hq
    ·rename_i hc
     simp only [Option.some.injEq] at hq; subst hq
     obtain ⟨hd, rfl⟩ := hc
     simp only [SRep] at h
     obtain ⟨hv, g1, g2⟩ := h.2 tk nl sz es htk (by simp [getAt, hrow]) (by omega)
     simp only [follow, Option.some.injEq] at g1
     rcases hs.tok t tk htk with hj | ⟨nl', sz', es', e1, e2⟩
     ·rw [hrow] at hj; simp at hj
     ·rw [hrow] at e1; simp only [AV.sl.injEq] at e1; obtain ⟨rfl, rfl, rfl⟩ := e1
      rw [hd] at e2
      have hy : y = E.hd t := by
       rw [g1]
       obtain ⟨a1, l, c, hhd, hl, _⟩ := e2
       rw [g1] at hhd
       rcases g2 with ⟨q1, q2⟩ | ⟨_, q2, _⟩ | ⟨b, o, hl', hc, o', q1, q2, q3⟩
       ·rw [q1, q2]
       ·exact q2
       ·rw [q1] at hhd ⊢
        simp only [Value.slice.injEq] at hhd
        rw [q2]
        have : o' = o + 0 * sz := q3.resolve_right (fun h => h.2.1 rfl)
        rw [this]; simp
        omega
      rw [hy]
      exact Own.deepF _ _ (e2.own.weak (fun _ h => h) (fun b hb => ⟨t, by simp, hb⟩) (Agree.refl _ _))
    ·simp at hq
   ·simp at hq
  ·simp at hq
 | .agg cs, y, q, h, hq, hn => by
  simp only [ownR, Option.bind_eq_some_iff] at hq
  obtain ⟨q', hq', hq⟩ := hq
  simp only [SRep] at h
  obtain ⟨ys, rfl, h⟩ := h
  simp only [ownA] at hq
  split at hq
  ·rename_i hn'
   simp only [Option.some.injEq] at hq; subst hq
   simp only [Own]
   exact ⟨ys, rfl, ownRL_ok hs cs ys.toList q' h hq' hn'⟩
  ·split at hq
   ·rename_i t l hl
    split at hq
    ·rename_i hb
     simp only [Option.some.injEq] at hq; subst hq
     simp only [Own]
     exact ⟨ys, rfl, (wholeB_ok hs hb h hq').weak0 fun b hb => ⟨t, by simp, hb⟩⟩
    ·simp at hq
   ·simp at hq
 | .tup _, _, _, _, hq, _ => by simp [ownR] at hq
 | .fp _ _, _, _, _, hq, _ => by simp [ownR] at hq
 | .fn _ _, _, _, _, hq, _ => by simp [ownR] at hq
 | .ptr _ _ _ _, _, _, _, hq, _ => by simp [ownR] at hq
 | .junk, _, _, _, hq, _ => by simp [ownR] at hq
theorem ownRL_ok (hs : SR U w0 st E a w) {F : Nat → Prop} : ∀ (x : List AV) (y : List Value) (q : List AV × List Nat), SRepL w E st.toks x y → ownRL st.toks x = some q → q.2.Nodup → OwnL w true F (SU E q.2) q.1 y
 | [], y, q, h, hq, _ => by
  simp only [ownRL, Option.some.injEq] at hq; subst hq
  simpa [SRepL, OwnL] using h
 | c :: cs, y, q, h, hq, hn => by
  simp only [ownRL] at hq
  split at hq
  ·rename_i q1 q2 h1 h2
   simp only [Option.some.injEq] at hq; subst hq
   simp only [SRepL] at h
   obtain ⟨y, ys, rfl, k1, k2⟩ := h
   simp only [OwnL]
   have hn' := hn
   rw [List.nodup_append] at hn
   exact ⟨y, ys, SU E q1.2, SU E q2.2, rfl, fun b hb => (SU_app b).2 (.inl hb), fun b hb => (SU_app b).2 (.inr hb), fun b hb hb' => SU_disj hs hn' b hb hb', ownR_ok hs c y q1 k1 h1 hn.1, ownRL_ok hs cs ys q2 k2 h2 hn.2.1⟩
  ·simp at hq
end
end
section
variable {w : World} {E E' : Env} {toks toks' : List Tok} {t : Nat}
mutual
theorem SRep.kill (hF : ∀ b, E.F b → E'.F b) (hr : ∀ t' p lo n y, t' ≠ t → RefOk w E toks t' p lo n y → RefOk w E' toks' t' p lo n y) (hp : ∀ t' p i j y, t' ≠ t → PtrOk w E toks t' p i j y → PtrOk w E' toks' t' p i j y) :
  ∀ (x : AV) (y : Value), SRep w E toks x y → SRep w E' toks' (kill t x) y
 | .v _, _, k => by simpa [SRep, Ax.kill] using k
 | .agg cs, y, k => by simp only [SRep, Ax.kill] at k ⊢; obtain ⟨ys, rfl, k⟩ := k; exact ⟨ys, rfl, SRepL.kill hF hr hp cs _ k⟩
 | .tup cs, y, k => by simp only [SRep, Ax.kill] at k ⊢; obtain ⟨ys, rfl, k⟩ := k; exact ⟨ys, rfl, SRepL.kill hF hr hp cs _ k⟩
 | .sl nl sz es, y, k => by simp only [SRep, Ax.kill] at k ⊢; exact k.weak hF (Agree.refl _ _)
 | .fp e j, y, k => by simp only [SRep, Ax.kill] at k ⊢; exact k.weak hF (Agree.refl _ _)
 | .fn f cs, y, k => by simp only [SRep, Ax.kill] at k ⊢; obtain ⟨ys, rfl, k⟩ := k; exact ⟨ys, rfl, SRepL.kill hF hr hp cs _ k⟩
 | .ref t' p lo n, y, k => by
  simp only [Ax.kill]; split
  ·simp [SRep]
  ·rename_i h; simp only [SRep] at k ⊢; exact hr t' p lo n y h k
 | .ptr t' p i j, y, k => by
  simp only [Ax.kill]; split
  ·simp [SRep]
  ·rename_i h; simp only [SRep] at k ⊢; exact hp t' p i j y h k
 | .junk, _, _ => by simp [SRep, Ax.kill]
theorem SRepL.kill (hF : ∀ b, E.F b → E'.F b) (hr : ∀ t' p lo n y, t' ≠ t → RefOk w E toks t' p lo n y → RefOk w E' toks' t' p lo n y) (hp : ∀ t' p i j y, t' ≠ t → PtrOk w E toks t' p i j y → PtrOk w E' toks' t' p i j y) :
  ∀ (x : List AV) (y : List Value), SRepL w E toks x y → SRepL w E' toks' (killL t x) y
 | [], _, k => by simpa [SRepL, killL] using k
 | c :: cs, y, k => by
  simp only [SRepL, killL] at k ⊢
  obtain ⟨y, ys, rfl, k1, k2⟩ := k
  exact ⟨y, ys, rfl, SRep.kill hF hr hp c y k1, SRepL.kill hF hr hp cs ys k2⟩
end
end
section
variable {a : Act} {w : World} {U : Ld} {w0 : World} {E : Env}
theorem SR.drop1 {slots : List AV} {toks : List Tok} (h : SR U w0 ⟨slots, toks⟩ E a w) (t : Nat) :
  SR U w0 ⟨slots.map (kill t), toks.set t ⟨true, .junk⟩⟩ { F := E.F, hd := E.hd, S := fun t' b => t' ≠ t ∧ E.S t' b } a w := by
 refine ⟨h.defers, by simpa using h.size, fun i x hx => ?_, h.flt, fun t' tk ht => ?_, fun t' b hb => h.slt t' b hb.2, fun t' t2 b hne hb hb' => h.sep t' t2 b hne hb.2 hb'.2, h.frame, h.pin⟩
 ·simp only [List.getElem?_map, Option.map_eq_some_iff] at hx
  obtain ⟨x, hx, rfl⟩ := hx
  refine SRep.kill (E := E) (E' := { F := E.F, hd := E.hd, S := fun t' b => t' ≠ t ∧ E.S t' b }) (toks := toks) (toks' := toks.set t ⟨true, .junk⟩) (t := t) (fun _ h => h) (fun t' p lo n y ht hr => ⟨by simpa using hr.1, fun tk nl sz es h1 h2 h3 => ?_⟩) (fun t' p i j y ht hr => ⟨by simpa using hr.1, fun tk nl sz es h1 h2 h3 => ?_⟩) x _ (h.slot i x hx)
  ·rw [List.getElem?_set_ne (fun e => ht e.symm)] at h1; exact hr.2 tk nl sz es h1 h2 h3
  ·rw [List.getElem?_set_ne (fun e => ht e.symm)] at h1; exact hr.2 tk nl sz es h1 h2 h3
 ·by_cases e : t' = t
  ·subst e
   by_cases hlt : t' < toks.length
   ·rw [List.getElem?_set_self hlt] at ht; obtain rfl := Option.some.inj ht; exact .inl rfl
   ·rw [List.getElem?_eq_none (by simpa using hlt)] at ht; simp at ht
  ·rw [List.getElem?_set_ne (fun h => e h.symm)] at ht
   rcases h.tok t' tk ht with hj | ⟨nl, sz, es, h1, h2⟩
   ·exact .inl hj
   ·refine .inr ⟨nl, sz, es, h1, ?_⟩
    exact h2.weak (fun _ h => h) (fun b hb => ⟨e, hb⟩) fun _ _ => rfl
theorem SR.drops : ∀ (L : List Nat) {slots : List AV} {toks : List Tok} {E : Env}, SR U w0 ⟨slots, toks⟩ E a w →
  ∃ E1 : Env, E1.F = E.F ∧ E1.hd = E.hd ∧ (∀ t b, E1.S t b ↔ t ∉ L ∧ E.S t b) ∧ SR U w0 ⟨(drops slots toks L).1, (drops slots toks L).2⟩ E1 a w
 | [], _, _, E, h => ⟨E, rfl, rfl, by simp, h⟩
 | t :: L, _, _, E, h => by
  obtain ⟨E1, h1, h2, h3, h4⟩ := SR.drops L (h.drop1 t)
  refine ⟨E1, h1, h2, fun t' b => ?_, h4⟩
  rw [h3]; simp only [List.mem_cons, not_or]
  constructor
  ·rintro ⟨a, b, c⟩; exact ⟨⟨b, a⟩, c⟩
  ·rintro ⟨⟨b, a⟩, c⟩; exact ⟨a, b, c⟩
theorem drops_get : ∀ (L : List Nat) {slots : List AV} {toks : List Tok} {k : Nat}, k ∉ L → (Ax.drops slots toks L).2[k]? = toks[k]?
 | [], _, _, _, _ => rfl
 | t :: L, slots, toks, k, h => by
  simp only [List.mem_cons, not_or] at h
  rw [Ax.drops, drops_get L h.2, List.getElem?_set_ne (fun e => h.1 e.symm)]
theorem drops_len : ∀ (L : List Nat) {slots : List AV} {toks : List Tok}, (Ax.drops slots toks L).1.length = slots.length
 | [], _, _ => rfl
 | t :: L, slots, toks => by rw [Ax.drops, drops_len L]; simp
theorem drops_tlen : ∀ (L : List Nat) {slots : List AV} {toks : List Tok}, (Ax.drops slots toks L).2.length = toks.length
 | [], _, _ => rfl
 | t :: L, slots, toks => by rw [Ax.drops, drops_tlen L]; simp
theorem OwnL.flat {d : Bool} {F : Nat → Prop} : ∀ {S : Nat → Prop} {cs : List AV} {ys : List Value}, OwnL w d F S cs ys → Ax.flat cs = true → ∀ y ∈ ys, y.oneCell' = true
 | _, [], ys, h, _ => by simp only [OwnL] at h; subst h; simp
 | S, c :: cs, _, h, hf => by
  simp only [OwnL] at h
  obtain ⟨y, ys, S1, S2, rfl, _, _, _, h1, h2⟩ := h
  intro z hz
  rcases List.mem_cons.1 hz with rfl | hz
  ·cases c with
   | v x => simp only [Own] at h1; rw [h1.1]; exact h1.2
   | sl nl sz es =>
    have := h1.rep
    simp only [Rep] at this
    obtain ⟨_, _, _, rfl, _⟩ := this
    rfl
   | _ => simp [Ax.flat] at hf
  ·exact h2.flat (by cases c <;> simp_all [Ax.flat]) z hz
theorem Own.flatL {d : Bool} {F S : Nat → Prop} {x : AV} {y : Value} (h : Own w d F S x y) (hf : Ax.flat x.cells = true) : OwnL w d F S x.cells y.cells.toList := by
 have one : ∀ c : AV, Own w d F S c y → y.oneCell' = true → OwnL w d F S [c] y.cells.toList := fun c hc hy => by
  have : y.cells = #[y] := by cases y <;> first | rfl | simp [Value.oneCell'] at hy
  rw [this]
  simp only [OwnL]
  exact ⟨y, [], S, fun _ => False, rfl, fun _ h => h, fun _ h => h.elim, fun _ _ h => h, hc, rfl⟩
 cases x with
 | agg cs => simp only [Own] at h; obtain ⟨ys, rfl, h⟩ := h; simpa [Value.cells, AV.cells] using h
 | v z => exact one _ h (by simp only [Own] at h; rw [h.1]; exact h.2)
 | sl nl sz es =>
  exact one _ h (by
   have := h.rep
   simp only [Rep] at this
   obtain ⟨_, _, _, rfl, _⟩ := this
   rfl)
 | _ => simp [Ax.flat, AV.cells] at hf
end
end Go.Proofs.YtompijgfpeibnaaGreatDoor.Ax
