/-
  The program's own table of types, as the abstract run asks it. No condition.
-/
import Derived.Test.YtehfjhenilkofaaAxFn
import Derived.KernelRfl
namespace Go.Proofs.Ytehfjhenilkofaa.Ax
open Go Go.RowKit

def tyOf (P : Program) (t : TypeId) : Option TI :=
  match P.underlying t, P.info? t with
  | some d, some i => (match i.zero with
    | some z => if z.cells.size = i.size ∧ z.cells.all (·.oneCell') = true then some ⟨d, i.size, i.bytes, z⟩ else none
    | none => none)
  | _, _ => none

theorem tyOf_ok {P : Program} {t : TypeId} {ti : TI} (h : tyOf P t = some ti) : TOk P t ti := by
  unfold tyOf at h
  split at h
  · rename_i d i hd hi
    split at h
    · rename_i z hz
      split at h
      · rename_i hc
        simp only [Option.some.injEq] at h; subst h
        exact ⟨hd, ⟨i, hi, rfl, rfl, hz⟩, hc.1, hc.2⟩
      · simp at h
    · simp at h
  · simp at h

/-- The contracts that a proof leans on, by the functions' numbers. -/
def G (l : List (Nat × (List AV → Option AV))) (f : FuncId) (args : List AV) : Option AV :=
  match l with
  | [] => none
  | (g, m) :: l => if f = g then m args else G l f args

/-- 'Wherever the model m answers, the function answers so.' -/
def FnOk (P : Program) (f : FuncId) (m : List AV → Option AV) : Prop := ∀ args r, m args = some r → CallOk P f args r

inductive FnsOk (P : Program) : List (Nat × (List AV → Option AV)) → Prop
  | nil : FnsOk P []
  | cons {f : FuncId} {m : List AV → Option AV} {l : List (Nat × (List AV → Option AV))} : FnOk P f m → FnsOk P l → FnsOk P ((f, m) :: l)

theorem G_ok {P : Program} {l : List (Nat × (List AV → Option AV))} (h : FnsOk P l) : ∀ f args r, G l f args = some r → CallOk P f args r := by
  induction h with
  | nil => intro f args r h; simp [G] at h
  | cons hm _ ih =>
    intro f args r h
    simp only [G] at h
    split at h
    · rename_i e; subst e; exact hm args r h
    · exact ih f args r h

def ctx (P : Program) (X : TypeId → Option Nat) (l : List (Nat × (List AV → Option AV))) : Ctx := ⟨tyOf P, X, G l, fun _ _ => none, true⟩

theorem ctx_ok {P : Program} {X : TypeId → Option Nat} {l : List (Nat × (List AV → Option AV))} (hX : ∀ t n, X t = some n → EqOk P t n) (h : FnsOk P l) : (ctx P X l).Ok P := ⟨fun _ _ h => tyOf_ok h, hX, G_ok h, fun _ _ _ _ _ h => by simp [ctx] at h⟩

/-- Contracts of functions that change an argument, by the functions' numbers. -/
def GM (l : List (Nat × (List AV → Option (Nat × AV × AV)))) (f : FuncId) (args : List AV) : Option (Nat × AV × AV) :=
  match l with
  | [] => none
  | (g, m) :: l => if f = g then m args else GM l f args

def FnMut (P : Program) (f : FuncId) (m : List AV → Option (Nat × AV × AV)) : Prop := ∀ args pos r row', m args = some (pos, r, row') → MutOk P f args pos r row'

inductive FnsMut (P : Program) : List (Nat × (List AV → Option (Nat × AV × AV))) → Prop
  | nil : FnsMut P []
  | cons {f : FuncId} {m : List AV → Option (Nat × AV × AV)} {l : List (Nat × (List AV → Option (Nat × AV × AV)))} : FnMut P f m → FnsMut P l → FnsMut P ((f, m) :: l)

theorem GM_ok {P : Program} {l : List (Nat × (List AV → Option (Nat × AV × AV)))} (h : FnsMut P l) : ∀ f args pos r row', GM l f args = some (pos, r, row') → MutOk P f args pos r row' := by
  induction h with
  | nil => intro f args pos r row' h; simp [GM] at h
  | cons hm _ ih =>
    intro f args pos r row' h
    simp only [GM] at h
    split at h
    · rename_i e; subst e; exact hm args pos r row' h
    · exact ih f args pos r row' h

def ctxM (P : Program) (X : TypeId → Option Nat) (l : List (Nat × (List AV → Option AV))) (m : List (Nat × (List AV → Option (Nat × AV × AV)))) : Ctx := ⟨tyOf P, X, G l, GM m, true⟩

theorem ctxM_ok {P : Program} {X : TypeId → Option Nat} {l : List (Nat × (List AV → Option AV))} {m : List (Nat × (List AV → Option (Nat × AV × AV)))} (hX : ∀ t n, X t = some n → EqOk P t n) (h : FnsOk P l) (hm : FnsMut P m) : (ctxM P X l m).Ok P := ⟨fun _ _ h => tyOf_ok h, hX, G_ok h, GM_ok hm⟩

/-- A struct of two ints. -/
theorem eqOk_two {P : Program} {t ti : TypeId} {a b : String} {s1 s2 s3 s4 : String} {e1 e2 : Bool} {n1 n2 : Nat} (hg : P.eqGuardType P.depth t = false) (hp : P.stoodInHeld t = false) (hi : P.underlying ti = some (.int .i64))
    (ht : P.underlying t = some (.struct #[⟨a, ti, 0, e1, s1, s2, n1⟩, ⟨b, ti, 1, e2, s3, s4, n2⟩])) (ha : a ≠ "_") (hb : b ≠ "_") : EqOk P t 2 := by
  refine ⟨hg, fun w xs ys hx hy => ?_⟩
  obtain ⟨x0, x1, rfl⟩ : ∃ x0 x1, xs = [x0, x1] := by
    match xs, hx with
    | [x0, x1], _ => exact ⟨x0, x1, rfl⟩
  obtain ⟨y0, y1, rfl⟩ : ∃ y0 y1, ys = [y0, y1] := by
    match ys, hy with
    | [y0, y1], _ => exact ⟨y0, y1, rfl⟩
  have hf : P.fieldsOf t = #[⟨a, ti, 0, e1, s1, s2, n1⟩, ⟨b, ti, 1, e2, s3, s4, n2⟩] := by simp [Program.fieldsOf, ht]
  have hu := Go.run_underlying hi
  have q0 := run_equalIn_int (P := P) w 9998 ti .i64 .i64 x0 y0 hi
  have q1 := run_equalIn_int (P := P) w 9998 ti .i64 .i64 x1 y1 hi
  rw [run_equalIn_struct w 9999 t _ _ (by rw [hf]; exact ht) hp, hf]
  simp [Op.eqFields, ha, hb, part, isAgg, hu, q0, q1]
  by_cases h0 : x0 = y0
  · subst h0; simp
    by_cases h1 : x1 = y1
    · subst h1; simp
    · simp [h1]
  · simp [h0]

/-- A model by a family of arguments that are spoken of (those that meet 'pre'), and what the function answers there. -/
noncomputable def mk {α : Type} (pre : α → Prop) (enc : α → List AV) (f : α → AV) (args : List AV) : Option AV :=
  open Classical in if h : ∃ x, pre x ∧ enc x = args then some (f h.choose) else none

theorem mk_eq {α : Type} {pre : α → Prop} {enc : α → List AV} {f : α → AV} (hinj : ∀ x y, enc x = enc y → f x = f y) {x : α} (hx : pre x) : mk pre enc f (enc x) = some (f x) := by
  unfold mk
  have h : ∃ y, pre y ∧ enc y = enc x := ⟨x, hx, rfl⟩
  rw [dif_pos h, hinj _ _ h.choose_spec.2]

theorem mk_ok {P : Program} {α : Type} {pre : α → Prop} {enc : α → List AV} {f : α → AV} {g : FuncId} (h : ∀ x, pre x → CallOk P g (enc x) (f x)) : FnOk P g (mk pre enc f) := by
  intro args r hr
  unfold mk at hr
  split at hr
  · rename_i hx
    simp only [Option.some.injEq] at hr; subst hr
    have := h _ hx.choose_spec.1
    rw [hx.choose_spec.2] at this; exact this
  · simp at hr

/-- The same for functions that change an argument. -/
noncomputable def mkM {α : Type} (pre : α → Prop) (enc : α → List AV) (f : α → Nat × AV × AV) (args : List AV) : Option (Nat × AV × AV) :=
  open Classical in if h : ∃ x, pre x ∧ enc x = args then some (f h.choose) else none

theorem mkM_eq {α : Type} {pre : α → Prop} {enc : α → List AV} {f : α → Nat × AV × AV} (hinj : ∀ x y, enc x = enc y → f x = f y) {x : α} (hx : pre x) : mkM pre enc f (enc x) = some (f x) := by
  unfold mkM
  have h : ∃ y, pre y ∧ enc y = enc x := ⟨x, hx, rfl⟩
  rw [dif_pos h, hinj _ _ h.choose_spec.2]

theorem mkM_ok {P : Program} {α : Type} {pre : α → Prop} {enc : α → List AV} {f : α → Nat × AV × AV} {g : FuncId} (h : ∀ x, pre x → MutOk P g (enc x) (f x).1 (f x).2.1 (f x).2.2) : FnMut P g (mkM pre enc f) := by
  intro args pos r row' hr
  unfold mkM at hr
  split at hr
  · rename_i hx
    simp only [Option.some.injEq] at hr
    have := h _ hx.choose_spec.1
    rw [hx.choose_spec.2, hr] at this; exact this
  · simp at hr

def int (n : Int) : AV := .v (.int .i64 n)
def bool (b : Bool) : AV := .v (.bool b)
def ints (nl : Bool) (xs : List Int) : AV := .sl nl 1 (xs.map int)

theorem int_inj {a b : Int} : int a = int b ↔ a = b := by simp [int]
theorem map_int_inj {a b : List Int} : a.map int = b.map int ↔ a = b := by
  constructor
  · intro h
    exact (List.map_inj_right (fun x y => int_inj.1)).1 h
  · rintro rfl; rfl

end Go.Proofs.Ytehfjhenilkofaa.Ax
