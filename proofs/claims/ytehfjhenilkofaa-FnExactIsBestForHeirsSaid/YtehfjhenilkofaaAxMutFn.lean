/-
  From the run of a body to the contract of a function that changes one of its arguments. No condition.
-/
import Derived.Test.YtehfjhenilkofaaAxAuto
namespace Go.Proofs.Ytehfjhenilkofaa.Ax
open Go Go.RowKit

/-- What the body hands back, and the row that it was lent. -/
def resM (C : Ctx) (s : ASt) (rs : List ResultVar) (pos : Nat) : Option (AV × AV) :=
  match resVars C s rs, s.slots.getD pos .junk with
  | some q, .ref t [] 0 n => (match s.toks[t]? with
    | some tk => (match tk.row with
      | .sl nl sz es => if tk.deep = true ∧ n = es.length ∧ q.2 = [] then some (pack q.1, .sl nl sz es) else none
      | _ => none)
    | none => none)
  | _, _ => none

def doneM (C : Ctx) (rs : List ResultVar) (pos : Nat) (r row' : AV) : Exit → ASt → Prop := fun e s => (e = .normal ∨ e = .ret) ∧ resM C s rs pos = some (r, row')
theorem doneM_normal {C : Ctx} {rs : List ResultVar} {pos : Nat} {r row' : AV} {s : ASt} : doneM C rs pos r row' .normal s = (resM C s rs pos = some (r, row')) := by simp [doneM]
theorem doneM_ret {C : Ctx} {rs : List ResultVar} {pos : Nat} {r row' : AV} {s : ASt} : doneM C rs pos r row' .ret s = (resM C s rs pos = some (r, row')) := by simp [doneM]

theorem Excl.deepF {w : World} {F F' S : Nat → Prop} {nl : Bool} {sz : Nat} {es : List AV} {y : Value} (h : Excl w true F S nl sz es y) : Excl w true F' S nl sz es y := Excl.of_own (Own.deepF _ _ h.own)

theorem ref_whole {w : World} {E : Env} {toks : List Tok} {t n : Nat} {tk : Tok} {nl : Bool} {sz : Nat} {es : List AV} {y : Value} (h : RefOk w E toks t [] 0 n y) (htk : toks[t]? = some tk) (hrow : tk.row = .sl nl sz es) (hn : n = es.length)
    {d : Bool} {F S : Nat → Prop} (hex : Excl w d F S nl sz es (E.hd t)) : y = E.hd t := by
  subst hn
  obtain ⟨hv, g1, g2⟩ := h.2 tk nl sz es htk (by simp [getAt, hrow]) (by omega)
  simp only [follow, Option.some.injEq] at g1
  rw [g1]
  obtain ⟨a1, l, c, hhd, hl, _⟩ := hex
  rw [g1] at hhd
  rcases g2 with ⟨q1, q2⟩ | ⟨_, q2, _⟩ | ⟨b, o, hl', hc, o', q1, q2, q3⟩
  · rw [q1, q2]
  · exact q2
  · rw [q1] at hhd ⊢
    simp only [Value.slice.injEq] at hhd
    rw [q2]
    have : o' = o + 0 * sz := q3.resolve_right (fun h => h.2.1 rfl)
    rw [this]; simp
    omega

section
variable {P : Program} {C : Ctx}

theorem mutOk_awp (hC : C.Ok P) (hm : P.follows .mixedOrders = true) {live : List Bool} {f : FuncId} {fn : Func} {c : Code} {args : List AV} {pos : Nat} {nl : Bool} {sz : Nat} {es es' : List AV} {r : AV} (hpos : args[pos]? = some (.sl nl sz es))
    (hf : P.funcs[f]? = some fn) (hb : fn.body = some c) (hname : (fn.name == "runtime.NumGoroutine") = false) (hck : codeOk [pos] c = true)
    (h : ∀ (U : Ld) (w0 : World), lens (.sl nl sz es) → awp P C live U w0 c ⟨args.set pos (.ref 0 [] 0 es.length) ++ List.replicate (fn.ntmps - args.length) .junk, [⟨true, .sl nl sz es⟩]⟩ (doneM C fn.results.toList pos r (.sl nl sz es'))) : MutOk P f args pos r (.sl nl sz es') := by
  refine ⟨⟨fn, hf, hname, by rw [hb]; rfl⟩, nl, sz, es, es', hpos, rfl, fun w F S vals hd hF hS hlen hargs hvp hex => ?_⟩
  have hpl : pos < args.length := (List.getElem?_eq_some_iff.1 hpos).1
  refine calls_of_wp hf hb ?_
  let E : Env := { F := F, hd := fun _ => hd, S := fun t b => t = 0 ∧ S b }
  let U : Ld := ⟨S, [pos], fun _ => hd⟩
  have hgetv : ∀ i, i < args.length → (vals ++ Array.replicate (fn.ntmps - vals.size) undef).getD i undef = vals.getD i undef := fun i hi => by
    rw [Array.getD_eq_getD_getElem?, Array.getElem?_append_left (by omega), Array.getD_eq_getD_getElem?]
  have hlens : lens (.sl nl sz es) := Rep.lens _ _ (Own.rep _ _ hex.own)
  have hs : SR U w ⟨args.set pos (.ref 0 [] 0 es.length) ++ List.replicate (fn.ntmps - args.length) .junk, [⟨true, .sl nl sz es⟩]⟩ E { tmps := vals ++ Array.replicate (fn.ntmps - vals.size) undef, defers := [] } w := by
    refine ⟨rfl, by simp [hlen], fun i x hi => ?_, hF, fun t tk ht => ?_, fun t b hb => ⟨(hS b hb.2).1, (hS b hb.2).2, .inr hb.2⟩, fun t t' b hne hb hb' => hne (by rw [hb.1, hb'.1]), Frm.refl _ _, fun i hi => ?_⟩
    · by_cases hlt : i < args.length
      · rw [List.getElem?_append_left (by simpa using hlt)] at hi
        rw [hgetv i hlt]
        by_cases hip : i = pos
        · subst hip
          rw [List.getElem?_set_self hpl] at hi
          obtain rfl := Option.some.inj hi
          rw [Array.getD_eq_getD_getElem?, hvp]
          simp only [SRep, Option.getD_some]
          refine ⟨by simp, fun tk nl' sz' es'' h1 h2 h3 => ?_⟩
          simp at h1; subst h1
          simp only [getAt, AV.sl.injEq] at h2
          obtain ⟨rfl, rfl, rfl⟩ := h2
          refine ⟨hd, by simp [follow, E], ?_⟩
          obtain ⟨a1, l, cap, hv, h1, h2, _, h4⟩ := hex
          subst hv
          rcases h4 with ⟨rfl, _, rfl, rfl⟩ | ⟨b, o, _, _, rfl, _⟩
          · exact .inl ⟨rfl, rfl⟩
          · exact .inr (.inr ⟨b, o, l, cap, o, rfl, by rw [h1]; simp, .inl (by omega)⟩)
        · rw [List.getElem?_set_ne (fun e => hip e.symm)] at hi
          obtain ⟨y, h1, h2⟩ := hargs i x hip hi
          rw [Array.getD_eq_getD_getElem?, h1]
          exact SRep.of_rep (E := E) _ _ h2
      · rw [List.getElem?_append_right (by simpa using hlt)] at hi
        have := List.mem_of_getElem? hi
        rw [List.mem_replicate] at this
        rw [this.2]; simp [SRep]
    · cases t with
      | zero =>
        simp at ht; subst ht
        refine .inr ⟨nl, sz, es, rfl, ?_⟩
        have h0 : Excl w true F S nl sz es hd := hex.deepF
        exact h0.weak (fun _ h => h) (fun b hb => ⟨rfl, hb⟩) (Agree.refl _ _)
      | succ t => simp at ht
    · simp only [U, List.mem_singleton] at hi
      subst hi
      rw [hgetv i hpl, Array.getD_eq_getD_getElem?, hvp]; rfl
  refine tr_awp hC hm c _ _ (h U w hlens) hck E _ w hs _ fun e st' E' a' w' hq hs' => ?_
  obtain ⟨he, hr⟩ := hq
  -- the end
  have hend : a'.defers = [] ∧ ∃ v, (results fn a'.tmps).run P w' = .ok v w' ∧ ∃ (y : Value) (S' Sr : Nat → Prop), Ending.returned v = .returned y ∧ Frm S w w' ∧ (∀ b, S' b → S b ∨ (w.heap.size ≤ b ∧ b < w'.heap.size)) ∧ (∀ b, Sr b → w.heap.size ≤ b ∧ b < w'.heap.size) ∧ (∀ b, S' b → ¬ Sr b) ∧
      Own w' true (fun _ => False) Sr r y ∧ Excl w' true (fun _ => False) S' nl sz es' hd := by
    unfold resM at hr
    split at hr
    · rename_i q t n hq hsl
      split at hr
      · rename_i tk htk
        split at hr
        · rename_i nl2 sz2 es2 hrow
          split at hr
          · rename_i hc
            obtain ⟨hdeep, hn, hq0⟩ := hc
            have hnd : q.2.Nodup := by rw [hq0]; exact List.nodup_nil
            have htq : t ∉ q.2 := by rw [hq0]; simp
            simp only [Option.some.injEq, Prod.mk.injEq, AV.sl.injEq] at hr
            obtain ⟨hpk, rfl, rfl, rfl⟩ := hr
            have hexc : Excl w' true E'.F (E'.S t) nl2 sz2 es2 (E'.hd t) := by
              rcases hs'.tok t tk htk with hj | ⟨nl', sz', es3, h1, h2⟩
              · rw [hrow] at hj; simp at hj
              · rw [hrow] at h1; simp only [AV.sl.injEq] at h1; obtain ⟨rfl, rfl, rfl⟩ := h1; rw [hdeep] at h2; exact h2
            have hsi : st'.slots[pos]? = some (.ref t [] 0 n) := by
              rw [List.getD_eq_getElem?_getD] at hsl
              cases hh : st'.slots[pos]? with
              | none => rw [hh] at hsl; simp at hsl
              | some z => rw [hh] at hsl; simpa using hsl
            have hsr := hs'.slot pos _ hsi
            simp only [SRep] at hsr
            have hpin := hs'.pin pos (by simp [U])
            have hy := ref_whole hsr htk hrow hn hexc
            rw [hpin] at hy
            have hhd : hd = E'.hd t := hy
            obtain ⟨ys, g1, g2⟩ := resVars_ok (F := fun _ => False) hC hs' _ q hq hnd
            have hSU : ∀ b, SU E' q.2 b → (w.heap.size ≤ b ∨ S b) ∧ b < w'.heap.size ∧ ¬ E'.S t b := fun b hb => by
              obtain ⟨t', ht', hb⟩ := hb
              exact ⟨(hs'.slt t' b hb).2.2, (hs'.slt t' b hb).1, fun h => hs'.sep t' t b (fun e => htq (e ▸ ht')) hb h⟩
            have hrun : (results fn a'.tmps).run P w' = .ok (if h : ys.toArray.size = 1 then ys.toArray[0] else .tuple ys.toArray) w' := by
              rw [results_eq, Sem.run_bind, Array.mapM_eq_mapM_toList, Sem.run_map, g1]
              rfl
            have hown : Own w' true (fun _ => False) (SU E' q.2) r (if h : ys.toArray.size = 1 then ys.toArray[0] else .tuple ys.toArray) := by rw [← hpk]; exact pack_ok g2
            refine ⟨hs'.defers, _, hrun, _, fun b => E'.S t b, fun b => SU E' q.2 b, rfl, hs'.frame, fun b hb => ?_, fun b hb => ?_, fun b hb hb' => (hSU b hb').2.2 hb, hown, by rw [hhd]; exact hexc.deepF⟩
            · rcases (hs'.slt t b hb).2.2 with h | h
              · exact .inr ⟨h, (hs'.slt t b hb).1⟩
              · exact .inl h
            · obtain ⟨t', ht', _⟩ := hb
              rw [hq0] at ht'; simp at ht'
          · simp at hr
        · simp at hr
      · simp at hr
    · simp at hr
  rcases he with rfl | rfl
  · exact hend
  · exact hend

end
end Go.Proofs.Ytehfjhenilkofaa.Ax
