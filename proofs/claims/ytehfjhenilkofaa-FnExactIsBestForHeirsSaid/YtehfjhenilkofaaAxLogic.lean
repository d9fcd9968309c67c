/-
  From operations to code: what a piece of code does to the abstract state. No condition.
-/
import Derived.Test.YtehfjhenilkofaaAxDraw
import Derived.LoopN
namespace Go.Proofs.Ytehfjhenilkofaa.Ax
open Go Go.RowKit

/-- Every region whose order is open is of the kind that any order serves; no slot of L is written. -/
def codeOk (L : List Nat) : Code → Bool
  | .region _ ops draw => (!draw || drawOk ops) && ops.all fun o => match o.dst with | some d => !L.contains d | none => true
  | .seq x y => codeOk L x && codeOk L y
  | .cond _ x y => codeOk L x && codeOk L y
  | .block _ x => codeOk L x
  | .loop x => codeOk L x
  | .rangeFunc _ _ x y => codeOk L x && codeOk L y
  | .scope x => codeOk L x
  | _ => true

/-- From a state st the code c comes to an end and a state of Q. -/
def Tr (P : Program) (U : Ld) (w0 : World) (c : Code) (st : ASt) (Q : Exit → ASt → Prop) : Prop :=
  codeOk U.idx c = true → ∀ (E : Env) (a : Act) (w : World), SR U w0 st E a w → ∀ K : Exit → Act → World → Prop, (∀ e st' E' a' w', Q e st' → SR U w0 st' E' a' w' → K e a' w') → c.wp P K a w

/-- st' says no more than st. -/
def Le (U : Ld) (w0 : World) (st st' : ASt) : Prop := ∀ E a w, SR U w0 st E a w → ∃ E', SR U w0 st' E' a w

section
variable {P : Program} {C : Ctx} {U : Ld} {w0 : World} {st : ASt} {Q : Exit → ASt → Prop}

theorem Tr.weak {c : Code} {Q' : Exit → ASt → Prop} (h : Tr P U w0 c st Q) (hq : ∀ e s, Q e s → Q' e s) : Tr P U w0 c st Q' :=
  fun hc E a w hs K hK => h hc E a w hs K fun e s E' a' w' q => hK e s E' a' w' (hq e s q)

theorem Tr.pre {c : Code} {st' : ASt} (h : Tr P U w0 c st' Q) (hl : Le U w0 st st') : Tr P U w0 c st Q :=
  fun hc E a w hs K hK => by obtain ⟨E', hs'⟩ := hl E a w hs; exact h hc E' a w hs' K hK

theorem tr_skip (h : Q .normal st) : Tr P U w0 .skip st Q := fun _ E a w hs _ hK => wp_skip (hK _ _ E a w h hs)
theorem tr_exit {id : Nat} (h : Q (.exit id) st) : Tr P U w0 (.exit id) st Q := fun _ E a w hs _ hK => wp_exit (hK _ _ E a w h hs)
theorem tr_ret (h : Q .ret st) : Tr P U w0 .ret st Q := fun _ E a w hs _ hK => wp_ret (hK _ _ E a w h hs)

/-- What comes behind. -/
def andThen (N : ASt → Prop) (Q : Exit → ASt → Prop) : Exit → ASt → Prop
  | .normal, s => N s
  | e, s => Q e s

theorem tr_seq {x y : Code} (h : Tr P U w0 x st (andThen (fun s => Tr P U w0 y s Q) Q)) : Tr P U w0 (.seq x y) st Q := by
  intro hc E a w hs K hK
  simp only [codeOk, Bool.and_eq_true] at hc
  refine wp_seq (h hc.1 E a w hs _ fun e s E' a' w' hq hs' => ?_)
  cases e with
  | normal => exact hq hc.2 E' a' w' hs' K hK
  | _ => exact hK _ _ E' a' w' hq hs'

theorem tr_cond {c : Operand} {x y : Code} {t : Bool} (he : ev st.slots c = .v (.bool t)) (hx : t = true → Tr P U w0 x st Q) (hy : t = false → Tr P U w0 y st Q) : Tr P U w0 (.cond c x y) st Q := by
  intro hc E a w hs K hK
  simp only [codeOk, Bool.and_eq_true] at hc
  have := SRep_v (hs.ev c) he
  exact wp_cond_split this (fun ht => hx ht hc.1 E a w hs K hK) (fun ht => hy ht hc.2 E a w hs K hK)

def inBlock (id : Nat) (Q : Exit → ASt → Prop) : Exit → ASt → Prop
  | .exit id', s => if id' = id then Q .normal s else Q (.exit id') s
  | e, s => Q e s

theorem tr_block {id : Nat} {c : Code} (h : Tr P U w0 c st (inBlock id Q)) : Tr P U w0 (.block id c) st Q := by
  intro hc E a w hs K hK
  simp only [codeOk] at hc
  refine wp_block (h hc E a w hs _ fun e s E' a' w' hq hs' => ?_)
  cases e with
  | exit id' =>
    simp only [inBlock, Exit.inBlock] at hq ⊢
    split
    · rename_i h; rw [if_pos h] at hq; exact hK _ _ E' a' w' hq hs'
    · rename_i h; rw [if_neg h] at hq; exact hK _ _ E' a' w' hq hs'
  | _ => exact hK _ _ E' a' w' hq hs'

/-- The second list says no more than the first. -/
def slotsLe : List AV → List AV → Prop
  | [], [] => True
  | a :: as, b :: bs => (b = .junk ∨ a = b) ∧ slotsLe as bs
  | _, _ => False

def sub (s s' : ASt) : Prop := s'.toks = s.toks ∧ slotsLe s.slots s'.slots

theorem slotsLe_get : ∀ {l l' : List AV}, slotsLe l l' → l'.length = l.length ∧ ∀ (i : Nat) (x : AV), l'[i]? = some x → x = .junk ∨ l[i]? = some x
  | [], [], _ => ⟨rfl, fun i x h => by simp at h⟩
  | a :: as, b :: bs, h => by
    obtain ⟨h1, h2⟩ := h
    obtain ⟨g1, g2⟩ := slotsLe_get h2
    refine ⟨by simp [g1], fun i x hx => ?_⟩
    cases i with
    | zero =>
      simp at hx; subst hx
      rcases h1 with h1 | h1
      · exact .inl h1
      · exact .inr (by simp [h1])
    | succ i => simpa using g2 i x (by simpa using hx)
  | [], _ :: _, h => h.elim
  | _ :: _, [], h => h.elim

theorem le_sub {s s' : ASt} (h : sub s s') : Le U w0 s s' := by
  intro E a w hs
  obtain ⟨h1, h2⟩ := h
  obtain ⟨g1, g2⟩ := slotsLe_get h2
  refine ⟨E, hs.defers, by rw [g1]; exact hs.size, fun i x hi => ?_, hs.flt, by rw [h1]; exact hs.tok, hs.slt, hs.sep, hs.frame, hs.pin⟩
  rw [h1]
  rcases g2 i x hi with rfl | hx
  · simp [SRep]
  · exact hs.slot i x hx

/-- A loop: its states are those of a family, its measure goes down. -/
theorem tr_loop {c : Code} {α : Type} (I : α → ASt) (μ : α → Nat) (x0 : α) (h0 : Le U w0 st (I x0))
    (hstep : ∀ x, Tr P U w0 c (I x) (andThen (fun s => ∃ y, Le U w0 s (I y) ∧ μ y < μ x) Q)) : Tr P U w0 (.loop c) st Q := by
  refine Tr.pre (st' := I x0) ?_ h0
  intro hc E a w hs K hK
  simp only [codeOk] at hc
  have key : ∀ (n : Nat) (x : α), μ x < n → ∀ (E : Env) (a : Act) (w : World), SR U w0 (I x) E a w → Code.rounds P c K n a w := by
    intro n
    induction n with
    | zero => intro x h; omega
    | succ n ih =>
      intro x hx E a w hs
      simp only [Code.rounds]
      refine hstep x hc E a w hs _ fun e s E' a' w' hq hs' => ?_
      cases e with
      | normal =>
        obtain ⟨y, hsy, hy⟩ := hq
        obtain ⟨E'', hs''⟩ := hsy E' a' w' hs'
        exact ih y (by omega) E'' a' w' hs''
      | _ => exact hK _ _ E' a' w' hq hs'
  exact wp_loop_rounds (μ x0 + 1) (key _ x0 (Nat.lt_succ_self _) E a w hs)

theorem rrunI_rrun {ops : Array Oper} : ∀ (l : List Oper) (k : Nat) (st : ASt), (∀ j, l[j]? = ops[k + j]?) → rrunI C ops (List.range' k l.length) st = rrun C ops.toList l st
  | [], _, _, _ => by simp [rrunI, rrun]
  | o :: l, k, st, h => by
    have hk : ops[k]? = some o := by have := h 0; simp at this; exact this.symm
    simp only [List.length_cons, List.range'_succ, rrunI, hk, rrun]
    cases hst : rstep C ops.toList o st with
    | some s =>
      simp only []
      exact rrunI_rrun l (k + 1) s fun j => by have := h (j + 1); simp at this; rw [this]; congr 1; omega
    | none => rfl

theorem frm_drew (w : World) : Frm (fun _ => False) w { w with drawn := w.drawn + 1 } := ⟨rfl, rfl, rfl, Nat.le_refl _, fun _ _ _ => rfl⟩

theorem tr_region (hC : C.Ok P) (hm : P.follows .mixedOrders = true) {id : Nat} {ops : Array Oper} {draw : Bool} {fin : ASt} (h : rrun (dC draw C) ops.toList ops.toList st = some fin) (hq : Q .normal fin) : Tr P U w0 (.region id ops draw) st Q := by
  intro hc E a w hs K hK
  simp only [codeOk, Bool.and_eq_true] at hc
  have hds : ∀ (j : Nat) (oj : Oper), ops[j]? = some oj → ∀ e, oj.dst = some e → e ∉ U.idx := by
    intro j oj hj e he
    have := (Array.all_eq_true_iff_forall_mem.1 hc.2) oj (Array.mem_of_getElem? hj)
    rw [he] at this
    simpa using this
  replace hc := hc.1
  cases draw with
  | false =>
    rw [dC_false] at h
    refine wp_region ?_
    have := rrun_ok hC hds (Q := K) (ops := ops) (fun E' a' w' hs' => hK _ _ E' a' w' hq hs') ops.toList 0 st E a w (fun j => by simp) hs h
    rw [List.range_eq_range']
    simpa using this
  | true =>
    rw [dC_true] at h
    simp only [Bool.not_true, Bool.false_or] at hc
    refine wp_region_any hm ?_
    have hfil : ((List.range ops.size).filter fun i => !(Array.replicate ops.size false).getD i true) = List.range ops.size := by
      rw [List.filter_eq_self]
      intro i hi
      rw [List.mem_range] at hi
      simp [Array.getD_eq_getD_getElem?, hi]
    refine wpAny_ok (C := noM C) (noM_ok hC) hds hc (fun E' a' w' hs' => hK _ _ E' a' w' hq hs') ops.size _ st E a _ (by simp) (fun j oj _ hd => ?_) (by rw [hfil]; simp) (hs.grow (frm_drew w)) ?_
    · rw [Array.getD_eq_getD_getElem?] at hd
      simp [Array.getElem?_replicate] at hd
      split at hd <;> simp at hd
    · rw [hfil, List.range_eq_range']
      have := rrunI_rrun (C := noM C) (ops := ops) ops.toList 0 st (fun j => by simp)
      rw [← h, ← this]; simp

end
end Go.Proofs.Ytehfjhenilkofaa.Ax
