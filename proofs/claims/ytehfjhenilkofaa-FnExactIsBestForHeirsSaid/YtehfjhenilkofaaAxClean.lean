/-
  Slots that are read no more are forgotten; rows to which nothing leads are let go; the rest are numbered anew. No condition.
-/
import Derived.Test.YtehfjhenilkofaaAxLogic
namespace Go.Proofs.Ytehfjhenilkofaa.Ax
open Go Go.RowKit

mutual
def ren (f : Nat → Nat) : AV → AV
  | .v x => .v x
  | .agg cs => .agg (renL f cs)
  | .tup cs => .tup (renL f cs)
  | .sl nl sz es => .sl nl sz es
  | .fp e j => .fp e j
  | .fn g cs => .fn g (renL f cs)
  | .ref t p lo n => .ref (f t) p lo n
  | .ptr t p i j => .ptr (f t) p i j
  | .junk => .junk
def renL (f : Nat → Nat) : List AV → List AV
  | [] => []
  | c :: cs => ren f c :: renL f cs
end

/-- Each once, in the order in which they come. -/
def once : List Nat → List Nat → List Nat
  | acc, [] => acc
  | acc, t :: l => if acc.contains t then once acc l else once (acc ++ [t]) l

def place : List Nat → Nat → Nat
  | [], _ => 0
  | t :: l, x => if t = x then 0 else place l x + 1

def keep (live : List Bool) (slots : List AV) : List AV :=
  match live, slots with
  | _, [] => []
  | [], _ :: ss => .junk :: keep [] ss
  | b :: bs, s :: ss => (if b then s else .junk) :: keep bs ss

def clean (live : List Bool) (st : ASt) : ASt :=
  let sl := keep live st.slots
  let p := once [] (refsL sl)
  ⟨renL (place p) sl, p.map fun t => st.toks.getD t ⟨true, .junk⟩⟩

theorem once_mem : ∀ (l acc : List Nat) (t : Nat), t ∈ once acc l ↔ t ∈ acc ∨ t ∈ l
  | [], acc, t => by simp [once]
  | x :: l, acc, t => by
    simp only [once]
    split
    · rename_i h
      rw [once_mem l acc t]
      have : x ∈ acc := by simpa using h
      constructor
      · rintro (h | h)
        · exact .inl h
        · exact .inr (by simp [h])
      · rintro (h | h)
        · exact .inl h
        · rcases List.mem_cons.1 h with rfl | h
          · exact .inl this
          · exact .inr h
    · rw [once_mem l (acc ++ [x]) t]; simp [or_assoc]

theorem once_nodup : ∀ (l acc : List Nat), acc.Nodup → (once acc l).Nodup
  | [], acc, h => by simpa [once] using h
  | x :: l, acc, h => by
    simp only [once]
    split
    · exact once_nodup l acc h
    · rename_i hn
      refine once_nodup l _ ?_
      rw [List.nodup_append]
      refine ⟨h, by simp, ?_⟩
      intro a ha b hb e
      simp at hb; subst hb; subst e
      simp at hn; exact hn ha

theorem place_ok : ∀ (p : List Nat) (t : Nat), t ∈ p → p[place p t]? = some t
  | [], t, h => by simp at h
  | x :: p, t, h => by
    simp only [place]
    split
    · rename_i e; subst e; simp
    · rename_i hne
      rcases List.mem_cons.1 h with rfl | h
      · exact (hne rfl).elim
      · simpa using place_ok p t h

theorem keep_get : ∀ (live : List Bool) (slots : List AV) (i : Nat) (x : AV), (keep live slots)[i]? = some x → x = .junk ∨ slots[i]? = some x
  | _, [], i, x, h => by simp [keep] at h
  | [], s :: ss, i, x, h => by
    simp only [keep] at h
    cases i with
    | zero => simp at h; exact .inl h.symm
    | succ i => simpa using keep_get [] ss i x (by simpa using h)
  | b :: bs, s :: ss, i, x, h => by
    simp only [keep] at h
    cases i with
    | zero =>
      simp at h
      cases b with
      | true => simp at h; exact .inr (by simp [h])
      | false => simp at h; exact .inl h.symm
    | succ i => simpa using keep_get bs ss i x (by simpa using h)

theorem keep_len : ∀ (live : List Bool) (slots : List AV), (keep live slots).length = slots.length
  | _, [] => by simp [keep]
  | [], s :: ss => by simp [keep, keep_len [] ss]
  | b :: bs, s :: ss => by simp [keep, keep_len bs ss]

theorem renL_map (f : Nat → Nat) : ∀ (l : List AV), renL f l = l.map (ren f)
  | [] => rfl
  | c :: cs => by simp [renL, renL_map f cs]

theorem refsL_mem : ∀ (l : List AV) (x : AV), x ∈ l → ∀ t ∈ refs x, t ∈ refsL l
  | c :: cs, x, h, t, ht => by
    simp only [refsL, List.mem_append]
    rcases List.mem_cons.1 h with rfl | h
    · exact .inl ht
    · exact .inr (refsL_mem cs x h t ht)

section
variable {w : World} {E E' : Env} {toks toks' : List Tok} {f : Nat → Nat}
mutual
theorem SRep.ren (hF : E'.F = E.F) : ∀ (x : AV) (y : Value), SRep w E toks x y → (∀ t ∈ refs x, t < toks.length → toks'[f t]? = toks[t]? ∧ E'.hd (f t) = E.hd t) → SRep w E' toks' (Ax.ren f x) y
  | .v _, _, k, _ => by simpa [SRep, Ax.ren] using k
  | .agg cs, y, k, h => by simp only [SRep, Ax.ren] at k ⊢; obtain ⟨ys, rfl, k⟩ := k; exact ⟨ys, rfl, SRepL.ren hF cs _ k (by simpa [refs] using h)⟩
  | .tup cs, y, k, h => by simp only [SRep, Ax.ren] at k ⊢; obtain ⟨ys, rfl, k⟩ := k; exact ⟨ys, rfl, SRepL.ren hF cs _ k (by simpa [refs] using h)⟩
  | .sl nl sz es, y, k, _ => by simp only [SRep, Ax.ren] at k ⊢; rw [hF]; exact k
  | .fp e j, y, k, _ => by simp only [SRep, Ax.ren] at k ⊢; rw [hF]; exact k
  | .fn g cs, y, k, h => by simp only [SRep, Ax.ren] at k ⊢; obtain ⟨ys, rfl, k⟩ := k; exact ⟨ys, rfl, SRepL.ren hF cs _ k (by simpa [refs] using h)⟩
  | .ref t p lo n, y, k, h => by
    simp only [SRep, Ax.ren] at k ⊢
    obtain ⟨h1, h2⟩ := h t (by simp [refs]) k.1
    have hlt : f t < toks'.length := by
      rw [List.getElem?_eq_getElem k.1] at h1
      exact (List.getElem?_eq_some_iff.1 h1).1
    refine ⟨hlt, fun tk nl sz es g1 g2 g3 => ?_⟩
    rw [h1] at g1
    rw [h2]
    exact k.2 tk nl sz es g1 g2 g3
  | .ptr t p i j, y, k, h => by
    simp only [SRep, Ax.ren] at k ⊢
    obtain ⟨h1, h2⟩ := h t (by simp [refs]) k.1
    have hlt : f t < toks'.length := by
      rw [List.getElem?_eq_getElem k.1] at h1
      exact (List.getElem?_eq_some_iff.1 h1).1
    refine ⟨hlt, fun tk nl sz es g1 g2 g3 => ?_⟩
    rw [h1] at g1
    rw [h2]
    exact k.2 tk nl sz es g1 g2 g3
  | .junk, _, _, _ => by simp [SRep, Ax.ren]
theorem SRepL.ren (hF : E'.F = E.F) : ∀ (x : List AV) (y : List Value), SRepL w E toks x y → (∀ t ∈ refsL x, t < toks.length → toks'[f t]? = toks[t]? ∧ E'.hd (f t) = E.hd t) → SRepL w E' toks' (Ax.renL f x) y
  | [], _, k, _ => by simpa [SRepL, Ax.renL] using k
  | c :: cs, y, k, h => by
    simp only [SRepL, Ax.renL] at k ⊢
    obtain ⟨y, ys, rfl, k1, k2⟩ := k
    exact ⟨y, ys, rfl, SRep.ren hF c y k1 (fun t ht => h t (by simp [refsL, ht])), SRepL.ren hF cs ys k2 (fun t ht => h t (by simp [refsL, ht]))⟩
end
end

theorem le_clean {U : Ld} {w0 : World} {st : ASt} (live : List Bool) : Le U w0 st (clean live st) := by
  intro E a w hs
  let sl := keep live st.slots
  let p := once [] (refsL sl)
  have hp : p.Nodup := once_nodup _ _ List.nodup_nil
  let E' : Env := { F := E.F, hd := fun i => E.hd (p.getD i 0), S := fun i b => ∃ t, p[i]? = some t ∧ E.S t b }
  refine ⟨E', hs.defers, ?_, fun i x hi => ?_, hs.flt, fun i tk hi => ?_, fun i b hb => ?_, fun i i' b hne hb hb' => ?_, hs.frame, hs.pin⟩
  · simp [clean, renL_map, keep_len, hs.size]
  · simp only [clean, renL_map, List.getElem?_map, Option.map_eq_some_iff] at hi
    obtain ⟨x0, hx0, rfl⟩ := hi
    have hmem : x0 ∈ sl := List.mem_of_getElem? hx0
    rcases keep_get live st.slots i x0 hx0 with rfl | h0
    · simp [ren, SRep]
    · refine SRep.ren (E := E) (E' := E') (toks := st.toks) rfl x0 _ (hs.slot i x0 h0) fun t ht hlt => ?_
      have htp : t ∈ p := (once_mem _ _ _).2 (.inr (refsL_mem sl x0 hmem t ht))
      have hpl := place_ok p t htp
      refine ⟨?_, ?_⟩
      · show (p.map fun t => st.toks.getD t ⟨true, .junk⟩)[place p t]? = _
        rw [List.getElem?_map, hpl]
        simp [List.getD_eq_getElem?_getD, List.getElem?_eq_getElem hlt]
      · show E.hd (p.getD (place p t) 0) = E.hd t
        rw [List.getD_eq_getElem?_getD, hpl]; rfl
  · change (p.map fun t => st.toks.getD t ⟨true, .junk⟩)[i]? = some tk at hi
    rw [List.getElem?_map, Option.map_eq_some_iff] at hi
    obtain ⟨t, ht, rfl⟩ := hi
    by_cases hlt : t < st.toks.length
    · have htk : st.toks[t]? = some (st.toks.getD t ⟨true, .junk⟩) := by simp [List.getD_eq_getElem?_getD, List.getElem?_eq_getElem hlt]
      rcases hs.tok t _ htk with h | ⟨nl, sz, es, h1, h2⟩
      · exact .inl h
      · refine .inr ⟨nl, sz, es, h1, ?_⟩
        have e1 : E'.hd i = E.hd t := by show E.hd (p.getD i 0) = E.hd t; rw [List.getD_eq_getElem?_getD, ht]; rfl
        rw [e1]
        exact h2.weak (fun _ h => h) (fun b hb => ⟨t, ht, hb⟩) (Agree.refl _ _)
    · exact .inl (by rw [List.getD_eq_getElem?_getD, List.getElem?_eq_none (by omega)]; rfl)
  · obtain ⟨t, _, hb⟩ := hb
    exact hs.slt t b hb
  · obtain ⟨t, ht, hb⟩ := hb
    obtain ⟨t', ht', hb'⟩ := hb'
    refine hs.sep t t' b (fun e => ?_) hb hb'
    subst e
    exact hne ((List.getElem?_inj (List.getElem?_eq_some_iff.1 ht).1 hp).1 (ht.trans ht'.symm))

/-- The code's run, step by step; at a loop it stands. -/
def awp (P : Program) (C : Ctx) (live : List Bool) (U : Ld) (w0 : World) : Code → ASt → (Exit → ASt → Prop) → Prop
  | .skip, st, Q => Q .normal st
  | .region _ ops draw, st, Q => ∃ fin, rrun (dC draw C) ops.toList ops.toList st = some fin ∧ Q .normal (clean live fin)
  | .seq x y, st, Q => awp P C live U w0 x st (andThen (fun s => awp P C live U w0 y s Q) Q)
  | .cond c x y, st, Q => ∃ t, ev st.slots c = .v (.bool t) ∧ (t = true → awp P C live U w0 x st Q) ∧ (t = false → awp P C live U w0 y st Q)
  | .block id x, st, Q => awp P C live U w0 x st (inBlock id Q)
  | .exit id, st, Q => Q (.exit id) st
  | .ret, st, Q => Q .ret st
  | c, st, Q => Tr P U w0 c st Q

theorem andThen_mono {N N' : ASt → Prop} {Q : Exit → ASt → Prop} (h : ∀ s, N s → N' s) : ∀ e s, andThen N Q e s → andThen N' Q e s
  | .normal, s, k => h s k
  | .exit _, _, k => k
  | .goto _, _, k => k
  | .ret, _, k => k
  | .panic _, _, k => k
  | .outgrown, _, k => k

theorem tr_awp {P : Program} {C : Ctx} {live : List Bool} {U : Ld} {w0 : World} (hC : C.Ok P) (hm : P.follows .mixedOrders = true) : ∀ (c : Code) (st : ASt) (Q : Exit → ASt → Prop), awp P C live U w0 c st Q → Tr P U w0 c st Q
  | .skip, st, Q, h => tr_skip h
  | .region id ops draw, st, Q, h => by
    obtain ⟨fin, h1, h2⟩ := h
    intro hc E a w hs K hK
    refine tr_region (Q := fun e s => e = .normal ∧ s = fin) hC hm h1 ⟨rfl, rfl⟩ hc E a w hs K fun e s E' a' w' hq hs' => ?_
    obtain ⟨rfl, rfl⟩ := hq
    obtain ⟨E'', hs''⟩ := le_clean live E' a' w' hs'
    exact hK _ _ E'' a' w' h2 hs''
  | .seq x y, st, Q, h => tr_seq ((tr_awp hC hm x st _ h).weak (andThen_mono fun s hs => tr_awp hC hm y s Q hs))
  | .cond c x y, st, Q, h => by
    obtain ⟨t, h1, h2, h3⟩ := h
    exact tr_cond h1 (fun ht => tr_awp hC hm x st Q (h2 ht)) (fun ht => tr_awp hC hm y st Q (h3 ht))
  | .block id x, st, Q, h => tr_block (tr_awp hC hm x st _ h)
  | .exit id, st, Q, h => tr_exit h
  | .ret, st, Q, h => tr_ret h
  | .loop _, _, _, h => h
  | .rangeFunc _ _ _ _, _, _, h => h
  | .scope _, _, _, h => h
  | .label _, _, _, h => h
  | .goto _, _, _, h => h
  | .refuse _, _, _, h => h

section
variable {P : Program} {C : Ctx} {live : List Bool} {U : Ld} {w0 : World}

/-- What is left: the code y, then Q. -/
def contS (P : Program) (C : Ctx) (live : List Bool) (U : Ld) (w0 : World) (y : Code) (Q : Exit → ASt → Prop) : Exit → ASt → Prop := andThen (fun s => awp P C live U w0 y s Q) Q

/-- The region's operations, then Q at the cleaned state. -/
def regS (live : List Bool) (Q : Exit → ASt → Prop) : Option ASt → Prop
  | some fin => Q .normal (clean live fin)
  | none => False

def condS (P : Program) (C : Ctx) (live : List Bool) (U : Ld) (w0 : World) (x y : Code) (st : ASt) (Q : Exit → ASt → Prop) : AV → Prop
  | .v (.bool t) => (t = true → awp P C live U w0 x st Q) ∧ (t = false → awp P C live U w0 y st Q)
  | _ => False

theorem awp_skip {st : ASt} {Q : Exit → ASt → Prop} : awp P C live U w0 .skip st Q = Q .normal st := rfl
theorem awp_seq {x y : Code} {st : ASt} {Q : Exit → ASt → Prop} : awp P C live U w0 (.seq x y) st Q = awp P C live U w0 x st (contS P C live U w0 y Q) := rfl
theorem awp_block {id : Nat} {x : Code} {st : ASt} {Q : Exit → ASt → Prop} : awp P C live U w0 (.block id x) st Q = awp P C live U w0 x st (inBlock id Q) := rfl
theorem awp_exit {id : Nat} {st : ASt} {Q : Exit → ASt → Prop} : awp P C live U w0 (.exit id) st Q = Q (.exit id) st := rfl
theorem awp_ret {st : ASt} {Q : Exit → ASt → Prop} : awp P C live U w0 .ret st Q = Q .ret st := rfl
theorem awp_loop {x : Code} {st : ASt} {Q : Exit → ASt → Prop} : awp P C live U w0 (.loop x) st Q = Tr P U w0 (.loop x) st Q := rfl
theorem awp_region {id : Nat} {ops : Array Oper} {dr : Bool} {st : ASt} {Q : Exit → ASt → Prop} : awp P C live U w0 (.region id ops dr) st Q = regS live Q (rrun (dC dr C) ops.toList ops.toList st) := by
  apply propext
  simp only [awp]
  constructor
  · rintro ⟨fin, h1, h2⟩; rw [h1]; exact h2
  · intro h
    cases hr : rrun (dC dr C) ops.toList ops.toList st with
    | none => rw [hr] at h; exact h.elim
    | some fin => rw [hr] at h; exact ⟨fin, rfl, h⟩
theorem awp_cond {c : Operand} {x y : Code} {st : ASt} {Q : Exit → ASt → Prop} : awp P C live U w0 (.cond c x y) st Q = condS P C live U w0 x y st Q (ev st.slots c) := by
  apply propext
  simp only [awp]
  constructor
  · rintro ⟨t, h1, h2⟩; rw [h1]; exact h2
  · intro h
    generalize hv : ev st.slots c = v at h
    unfold condS at h
    split at h
    · exact ⟨_, rfl, h⟩
    · exact h.elim

theorem contS_normal {y : Code} {s : ASt} {Q : Exit → ASt → Prop} : contS P C live U w0 y Q .normal s = awp P C live U w0 y s Q := rfl
theorem contS_exit {y : Code} {id : Nat} {s : ASt} {Q : Exit → ASt → Prop} : contS P C live U w0 y Q (.exit id) s = Q (.exit id) s := rfl
theorem contS_ret {y : Code} {s : ASt} {Q : Exit → ASt → Prop} : contS P C live U w0 y Q .ret s = Q .ret s := rfl
theorem inB_normal {id : Nat} {s : ASt} {Q : Exit → ASt → Prop} : inBlock id Q .normal s = Q .normal s := rfl
theorem inB_exit {id id' : Nat} {s : ASt} {Q : Exit → ASt → Prop} : inBlock id Q (.exit id') s = if id' = id then Q .normal s else Q (.exit id') s := rfl
theorem inB_ret {id : Nat} {s : ASt} {Q : Exit → ASt → Prop} : inBlock id Q .ret s = Q .ret s := rfl

theorem Le.trans {s1 s2 s3 : ASt} (h : Le U w0 s1 s2) (h' : Le U w0 s2 s3) : Le U w0 s1 s3 := fun E a w hs => by
  obtain ⟨E', hs'⟩ := h E a w hs
  exact h' E' a w hs'

theorem regS_some {Q : Exit → ASt → Prop} {s : ASt} : regS live Q (some s) = Q .normal (clean live s) := rfl
theorem regS_none {Q : Exit → ASt → Prop} : regS live Q none = False := rfl
theorem condS_bool {x y : Code} {st : ASt} {Q : Exit → ASt → Prop} {t : Bool} : condS P C live U w0 x y st Q (.v (.bool t)) = ((t = true → awp P C live U w0 x st Q) ∧ (t = false → awp P C live U w0 y st Q)) := rfl

def bindS (f : ASt → Option ASt) : Option ASt → Option ASt
  | some s => f s
  | none => none
theorem bindS_some {f : ASt → Option ASt} {s : ASt} : bindS f (some s) = f s := rfl
theorem rrun_nil {ops : List Oper} {st : ASt} : rrun C ops [] st = some st := rfl
theorem rrun_cons {ops : List Oper} {o : Oper} {l : List Oper} {st : ASt} : rrun C ops (o :: l) st = bindS (rrun C ops l) (rstep C ops o st) := by
  simp only [rrun]
  cases rstep C ops o st <;> rfl

def outD (d : Option Nat) : Option Out → Option ASt
  | some r => some ⟨putD r.slots d r.val, r.toks⟩
  | none => none
theorem outD_some {d : Option Nat} {x : AV} {slots : List AV} {toks : List Tok} : outD d (some ⟨x, slots, toks⟩) = some ⟨putD slots d x, toks⟩ := rfl
def stepG (y : Option ASt) (n : ASt) : Option Bool → Option ASt
  | some g => if g then y else some n
  | none => none
theorem stepG_some {y : Option ASt} {n : ASt} {g : Bool} : stepG y n (some g) = if g then y else some n := rfl
theorem rstep_eq {ops : List Oper} {o : Oper} {slots : List AV} {toks : List Tok} : rstep C ops o ⟨slots, toks⟩ = stepG (outD o.dst (aop C o.op slots toks)) ⟨putD slots o.dst (.tup []), toks⟩ (guardOk ops slots o) := by
  unfold rstep
  simp only []
  cases guardOk ops slots o with
  | none => rfl
  | some g => simp only [stepG]; cases aop C o.op slots toks <;> rfl

def callOut (slots : List AV) (toks : List Tok) (alt : Option Out) : Option AV → Option Out
  | some r => some ⟨(intern toks r).1, slots, (intern toks r).2⟩
  | none => alt
theorem callOut_some {slots : List AV} {toks : List Tok} {alt : Option Out} {r : AV} : callOut slots toks alt (some r) = some ⟨(intern toks r).1, slots, (intern toks r).2⟩ := rfl
theorem callOut_none {slots : List AV} {toks : List Tok} {alt : Option Out} : callOut slots toks alt none = alt := rfl
def callV (C : Ctx) (slots : List AV) (toks : List Tok) (args : List Operand) : AV → Option Out
  | .fn g caps => callOut slots toks (mutCall slots toks (args.map (ev slots)) caps (C.M g (args.map (fun x => res toks (ev slots x)) ++ resL toks caps))) (C.G g (args.map (fun x => res toks (ev slots x)) ++ resL toks caps))
  | _ => none
theorem callV_fn {slots : List AV} {toks : List Tok} {args : List Operand} {g : FuncId} {caps : List AV} : callV C slots toks args (.fn g caps) = callOut slots toks (mutCall slots toks (args.map (ev slots)) caps (C.M g (args.map (fun x => res toks (ev slots x)) ++ resL toks caps))) (C.G g (args.map (fun x => res toks (ev slots x)) ++ resL toks caps)) := rfl
theorem aop_call {f : Operand} {args : Array Operand} {ts : Array TypeId} {slots : List AV} {toks : List Tok} : aop C (.call ⟨.value f, args, ts⟩) slots toks = callV C slots toks args.toList (ev slots f) := by
  simp only [aop, callV]
  split
  · rename_i g caps h
    rw [h]
    simp only []
    cases C.G g (List.map (fun x => res toks (ev slots x)) args.toList ++ resL toks caps) <;> rfl
  · rename_i h
    cases hv : ev slots f <;> first | rfl | exact (h _ _ hv).elim

theorem mutCall_none {slots : List AV} {toks : List Tok} {avs caps : List AV} : mutCall slots toks avs caps none = none := rfl

theorem take_map_all {α β : Type} {xs : List α} {f : α → β} : List.take xs.length (List.map f xs) = List.map f xs := List.take_of_length_le (by simp)

/-- Behind a round: the next state of the family ('lv': the slots that are read from the loop's head on). -/
def Nxt {α : Type} (lv : List Bool) (I : α → ASt) (μ : α → Nat) (x : α) (s : ASt) : Prop := ∃ y, sub (clean lv s) (I y) ∧ μ y < μ x
def loopS {α : Type} (lv : List Bool) (I : α → ASt) (μ : α → Nat) (x : α) (Q : Exit → ASt → Prop) : Exit → ASt → Prop := andThen (Nxt lv I μ x) Q
theorem loopS_normal {α : Type} {lv : List Bool} {I : α → ASt} {μ : α → Nat} {x : α} {Q : Exit → ASt → Prop} {s : ASt} : loopS lv I μ x Q .normal s = Nxt lv I μ x s := rfl
theorem loopS_exit {α : Type} {lv : List Bool} {I : α → ASt} {μ : α → Nat} {x : α} {Q : Exit → ASt → Prop} {s : ASt} {id : Nat} : loopS lv I μ x Q (.exit id) s = Q (.exit id) s := rfl
theorem loopS_ret {α : Type} {lv : List Bool} {I : α → ASt} {μ : α → Nat} {x : α} {Q : Exit → ASt → Prop} {s : ASt} : loopS lv I μ x Q .ret s = Q .ret s := rfl

/-- A loop by a family of states and a measure. -/
theorem awp_loop_of (hC : C.Ok P) (hm : P.follows .mixedOrders = true) (lv : List Bool) {c : Code} {st : ASt} {Q : Exit → ASt → Prop} {α : Type} (I : α → ASt) (μ : α → Nat) (x0 : α) (h0 : sub (clean lv st) (I x0))
    (hstep : ∀ x, awp P C live U w0 c (I x) (loopS lv I μ x Q)) : Tr P U w0 (.loop c) st Q :=
  tr_loop I μ x0 ((le_clean lv).trans (le_sub h0)) fun x => (tr_awp hC hm c _ _ (hstep x)).weak (andThen_mono fun s hs => by
    obtain ⟨y, h1, h2⟩ := hs
    exact ⟨y, (le_clean lv).trans (le_sub h1), h2⟩)

theorem wrapI {x : Int} (h1 : -9223372036854775808 ≤ x) (h2 : x ≤ 9223372036854775807) : IntKind.i64.wrap x = x := by
  exact Go.IntWalk.i64_in x ⟨h1, h2⟩

end

end Go.Proofs.Ytehfjhenilkofaa.Ax
