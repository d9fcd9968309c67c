/-
  A call that is handed a struct by value and turns the row of its slice. No condition.
-/
import Derived.Test.YtigepnpiofcooaaGreatDoorCK4
namespace Go.Proofs.YtigepnpiofcooaaGreatDoor.Ax
open Go Go.RowKit
def MutSt (P : Program) (g : FuncId) (x k r : Value) (nl : Bool) (sz : Nat) (es es' : List AV) : Prop :=
  (∃ fn, P.funcs[g]? = some fn ∧ (fn.name == "runtime.NumGoroutine") = false ∧ fn.body.isNone = false) ∧ es'.length = es.length ∧ r.oneCell' = true ∧
  ∀ (w : World) (F S : Nat → Prop) (h : Value), Fit F w → (∀ b, S b → b < w.heap.size ∧ ¬ F b) → Excl w true (fun _ => False) S nl sz es h →
    Calls P g #[.agg #[x, h], k] w fun e w' => ∃ S' : Nat → Prop, e = .returned r ∧ Frm S w w' ∧ (∀ b, S' b → S b ∨ (w.heap.size ≤ b ∧ b < w'.heap.size)) ∧ Excl w' true (fun _ => False) S' nl sz es' h
theorem tr_mark {P : Program} {C : Ctx} {U : Ld} {w0 : World} {st : ASt} {Q : Exit → ASt → Prop} (hC : C.Ok P) {id : Nat} {ops : Array Oper} (pre post : List Oper) (oc : Oper) (hops : ops.toList = pre ++ oc :: post) {g : FuncId} {x1 x2 : Operand} {ts : Array TypeId}
    (hop : oc.op = .call ⟨.value (.func g), #[x1, x2], ts⟩) (hgd : oc.guard = none) {st1 : ASt} (hpre : rrun C ops.toList pre st = some st1) {x k r : Value} {t n : Nat} {p : List (Nat × Nat)} {tk : Tok} {nl : Bool} {sz : Nat} {es es' : List AV}
    (h1 : ev st1.slots x1 = .agg [.v x, .ref t p 0 n]) (h2 : ev st1.slots x2 = .v k) (htk : st1.toks[t]? = some tk) (hd : tk.deep = true) (hg : getAt tk.row p = .sl nl sz es) (hn : n = es.length) (hm : MutSt P g x k r nl sz es es')
    {fin : ASt} (hpost : rrun C ops.toList post ⟨putD (st1.slots.map (killN t)) oc.dst (.v r), st1.toks.set t ⟨true, setAt tk.row p (.sl nl sz es')⟩⟩ = some fin) (hQ : Q .normal fin) : Tr P U w0 (.region id ops false) st Q := by
  intro hc E a w hs K hK
  simp only [codeOk, Bool.and_eq_true] at hc
  have hds : ∀ (j : Nat) (oj : Oper), ops[j]? = some oj → ∀ e, oj.dst = some e → e ∉ U.idx := by
    intro j oj hj e he
    have := (Array.all_eq_true_iff_forall_mem.1 hc.2) oj (Array.mem_of_getElem? hj)
    rw [he] at this
    simpa using this
  refine wpIn_region ?_
  have hlen : ops.size = pre.length + (1 + post.length) := by rw [← Array.length_toList, hops]; simp; omega
  have hget : ∀ j : Nat, ops[j]? = (pre ++ oc :: post)[j]? := fun j => by rw [← hops]; simp
  have hi : ops[pre.length]? = some oc := by rw [hget]; simp
  rw [List.range_eq_range', hlen, show List.range' 0 (pre.length + (1 + post.length)) = List.range' 0 pre.length ++ (pre.length :: List.range' (pre.length + 1) post.length) by
    rw [← List.range'_append_1, Nat.zero_add, Nat.add_comm 1, List.range'_succ]]
  refine rrun_okR hC hds U.ro (fun E1 a1 w1 hs1 => ?_) pre 0 _ E a w (fun j hj => by rw [Nat.zero_add, hget, List.getElem?_append_left hj]) hs hpre
  rw [wpOpsIn_cons]
  unfold wpOpIn
  simp only [hi]
  have hw : Region.wanted oc (yielded ops a1.tmps) = true := by simp [Region.wanted, hgd]
  rw [if_pos hw]
  -- the arguments
  have hx := hs1.ev x1
  rw [h1] at hx
  simp only [SRep, SRepL] at hx
  obtain ⟨ys, e1, y1, ys1, e2, ⟨rfl, _⟩, hv, ys2, e3, hview, e4⟩ := hx
  have hk := hs1.ev x2
  rw [h2] at hk
  simp only [SRep] at hk
  obtain ⟨h, S1, f1, f2, f3, f4⟩ := setPath_ok hs1 htk hd hg
  have hvh : hv = h := by
    obtain ⟨h3, g1, g2⟩ := hview.2 tk _ _ es htk hg (by omega)
    have : h3 = h := by rw [f1] at g1; exact (Option.some.inj g1).symm
    subst this
    have hex := Excl.of_own f3
    obtain ⟨a2, l, c, hhd, hl, _⟩ := hex
    rcases g2 with ⟨q1, q2⟩ | ⟨_, q2, _⟩ | ⟨b, o1, hl', hc, o', q1, q2, q3⟩
    · rw [q1, q2]
    · exact q2
    · rw [q1] at hhd ⊢
      simp only [Value.slice.injEq] at hhd
      rw [q2]
      have : o' = o1 + 0 * sz := q3.resolve_right (fun h => h.2.1 rfl)
      rw [this]; simp
      omega
  subst hvh
  have hys : a1.eval x1 = .agg #[y1, hv] := by
    rw [e1]
    congr 1
    apply Array.ext'
    rw [e2, e3, e4]
  obtain ⟨⟨fn, hfn, hn1, hn2⟩, hl', hr, hcall⟩ := hm
  have hexec : (execOp a1.eval oc).run P w1 = .ok (.enter g #[.agg #[y1, hv], k]) w1 := by
    have e1 : fn.name ≠ "runtime.NumGoroutine" := by simpa using hn1
    have e2 : fn.body ≠ Option.none := by intro e; rw [e] at hn2; simp at hn2
    have hfe : a1.eval (.func g) = .func (.func g) #[] #[] := rfl
    simp [execOp, hop, resolve, hfe, Deferred.ofValue, invoke, callFunc, hfn, e1, e2, hys, hk.1]
  refine Does.wpIn U.ro (.inr (.inr ⟨g, _, w1, hexec, (hcall w1 (butB E1 t) S1 hv ⟨fun b hb => hb.elim (hs1.flt b) fun ⟨t', _, h⟩ => (hs1.slt t' b h).1, hs1.defers.gl.mono fun _ h => .inl h⟩ (fun b hb => ⟨(hs1.slt t b (f2 b hb)).1, ?_⟩) (Excl.of_own (Own.deepF _ _ f3))).mono fun e w2 he => ?_⟩))
  · rintro (hF | ⟨t', ht', hS⟩)
    · exact (hs1.slt t b (f2 b hb)).2.1 hF
    · exact hs1.sep t' t b ht' hS (f2 b hb)
  · obtain ⟨S', rfl, hfr, hS', hexc⟩ := he
    obtain ⟨E2, k1, k2, k3⟩ := f4 w2 es' S' hl' hfr (Own.deepF _ _ hexc.own) hS'
    refine ⟨_, rfl, ?_⟩
    have hs3 := SR.put k3 oc.dst (hds pre.length oc hi) (x := .v r) (y := r) (by simp [SRep, hr])
    exact rrun_ok hC hds U.ro (fun E' a' w' hs' => hK _ _ E' a' w' hQ hs') post (pre.length + 1) _ E2 _ w2 (fun j => by rw [hget, List.getElem?_append_right (by omega), show pre.length + 1 + j - pre.length = j + 1 by omega, List.getElem?_cons_succ]) hs3 hpost
end Go.Proofs.YtigepnpiofcooaaGreatDoor.Ax
