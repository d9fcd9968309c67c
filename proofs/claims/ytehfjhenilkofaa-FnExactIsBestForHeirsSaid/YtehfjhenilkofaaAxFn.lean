/-
  From the run of a function's body to its contract. No condition.
-/
import Derived.Test.YtehfjhenilkofaaAxClean
namespace Go.Proofs.Ytehfjhenilkofaa.Ax
open Go Go.RowKit

def resVar (C : Ctx) (st : ASt) : ResultVar → Option (AV × List Nat)
  | .tmp t => ownR st.toks (st.slots.getD t .junk)
  | .cell a t => (match st.slots.getD a .junk, C.T t with
    | .ptr k [] 0 0, some ti => (match st.toks[k]? with
      | some tk => (match tk.row with
        | .sl _ sz (e :: _) => if tk.deep = true ∧ sz = ti.size then (if TypeDesc.aggB ti.desc then (match e with
              | .agg cs => some (.agg cs, [k])
              | _ => none)
            else (match e.cells with
              | [c] => some (c, [k])
              | _ => none)) else none
        | _ => none)
      | none => none)
    | _, _ => none)

def resVars (C : Ctx) (st : ASt) : List ResultVar → Option (List AV × List Nat)
  | [] => some ([], [])
  | r :: rs => (match resVar C st r, resVars C st rs with
    | some q, some q' => some (q.1 :: q'.1, q.2 ++ q'.2)
    | _, _ => none)

def pack : List AV → AV
  | [x] => x
  | xs => .tup xs

def resOk (C : Ctx) (st : ASt) (rs : List ResultVar) (r : AV) : Prop :=
  (match resVars C st rs with
    | some q => if q.2.Nodup then some (pack q.1) else none
    | none => none) = some r

/-- The body has ended, and r is what it hands back. -/
def doneS (C : Ctx) (rs : List ResultVar) (r : AV) : Exit → ASt → Prop := fun e s => (e = .normal ∨ e = .ret) ∧ resOk C s rs r
theorem doneS_normal {C : Ctx} {rs : List ResultVar} {r : AV} {s : ASt} : doneS C rs r .normal s = resOk C s rs r := by simp [doneS]
theorem doneS_ret {C : Ctx} {rs : List ResultVar} {r : AV} {s : ASt} : doneS C rs r .ret s = resOk C s rs r := by simp [doneS]

def resSem (tmps : Array Value) : ResultVar → Sem Value
  | .tmp t => pure (tmps.getD t undef)
  | .cell ad t => do loadVar t (← asAddr (tmps.getD ad undef))

theorem results_eq (fn : Func) (tmps : Array Value) : results fn tmps = (do
    let vs ← fn.results.mapM (resSem tmps)
    pure (if h : vs.size = 1 then vs[0] else .tuple vs)) := by
  unfold results
  congr

section
variable {P : Program} {C : Ctx} {a : Act} {w : World} {U : Ld} {w0 : World} {st : ASt} {E : Env}

theorem resVar_ok (hC : C.Ok P) (hs : SR U w0 st E a w) {F : Nat → Prop} (r : ResultVar) (q : AV × List Nat) (h : resVar C st r = some q) (hn : q.2.Nodup) :
    ∃ y, (resSem a.tmps r).run P w = .ok y w ∧ Own w true F (SU E q.2) q.1 y := by
  cases r with
  | tmp t =>
    simp only [resVar] at h
    refine ⟨a.tmps.getD t undef, rfl, ownR_ok hs _ _ q ?_ h hn⟩
    have := hs.ev (.tmp t)
    simpa only [Ax.ev, Act.eval] using this
  | cell ad t =>
    simp only [resVar] at h
    split at h
    · rename_i k ti hp hti
      have ht := hC.T t ti hti
      have hpv := hs.ev (.tmp ad)
      simp only [Ax.ev, Act.eval] at hpv
      rw [hp] at hpv
      simp only [SRep] at hpv
      split at h
      · rename_i tk htk
        split at h
        · rename_i nl sz e es hrow
          split at h
          · rename_i hc
            obtain ⟨hd, hsz⟩ := hc
            obtain ⟨b, o, hl, hcp, g1, hy⟩ := hpv.2 tk nl sz (e :: es) htk (by simp [getAt, hrow]) (by simp)
            simp only [follow, Option.some.injEq] at g1
            have hown : Own w tk.deep E.F (E.S k) (.sl nl sz (e :: es)) (E.hd k) := by
              rcases hs.tok k tk htk with hj | ⟨nl', sz', es', e1, e2⟩
              · rw [hrow] at hj; simp at hj
              · rw [hrow] at e1; simp only [AV.sl.injEq] at e1; obtain ⟨rfl, rfl, rfl⟩ := e1; exact e2.own
            rw [hd] at hown
            obtain ⟨b2, o2, l, cp, x, hv, _, _, k1, k2, k3, k4⟩ := Own.elem hown (i := 0) (e := e) (by simp)
            rw [g1] at hv
            simp only [Value.slice.injEq, Option.some.injEq, Addr.mk.injEq, and_true] at hv
            obtain ⟨⟨rfl, rfl⟩, rfl, rfl⟩ := hv
            simp only [Nat.zero_mul, Nat.add_zero] at k4 hy
            split at h
            · rename_i hagg
              split at h
              · rename_i cs
                simp only [Option.some.injEq] at h; subst h
                simp only [Own] at k1
                obtain ⟨ys, rfl, k1⟩ := k1
                have hr := run_load_agg (P := P) (w := w) (b := b) (o' := o) (ys := ys.toList) ht hagg k4 (by rw [← hsz, ← k2]; simp [Value.cells])
                refine ⟨.agg ys, ?_, ?_⟩
                · simp only [resSem]
                  rw [hy]
                  simpa [asAddr, Instr.loadAt, Instr.sureAddr] using hr
                · simp only [Own]
                  exact ⟨ys, rfl, OwnL.deepF _ _ (k1.mono fun b hb => ⟨k, by simp, hb⟩)⟩
              · simp at h
            · rename_i hagg
              split at h
              · rename_i c hcl
                simp only [Option.some.injEq] at h; subst h
                obtain ⟨y, hyc, hoc⟩ := Own.cell k1 (by rw [k2, k3]) 0 c (by rw [hcl]; rfl)
                have hcell : w.cell? ⟨b, o, none⟩ = some y := by simpa using k4 0 y (by simpa using hyc)
                have hr := run_load_one (P := P) (w := w) (b := b) (o' := o) ht (by simpa using hagg) hcell
                refine ⟨y, ?_, Own.deepF _ _ (hoc.weak (fun _ h => h) (fun b hb => ⟨k, by simp, hb⟩) (Agree.refl _ _))⟩
                simp only [resSem]
                rw [hy]
                simpa [asAddr, Instr.loadAt, Instr.sureAddr] using hr
              · simp at h
          · simp at h
        · simp at h
      · simp at h
    · simp at h

theorem resVars_ok (hC : C.Ok P) (hs : SR U w0 st E a w) {F : Nat → Prop} : ∀ (rs : List ResultVar) (q : List AV × List Nat), resVars C st rs = some q → q.2.Nodup →
    ∃ ys, (rs.mapM (resSem a.tmps) : Sem (List Value)).run P w = .ok ys w ∧ OwnL w true F (SU E q.2) q.1 ys
  | [], q, h, _ => by
    simp only [resVars, Option.some.injEq] at h; subst h
    exact ⟨[], by simp, by simp [OwnL]⟩
  | r :: rs, q, h, hn => by
    simp only [resVars] at h
    split at h
    · rename_i q1 q2 h1 h2
      simp only [Option.some.injEq] at h; subst h
      have hn' := hn
      rw [List.nodup_append] at hn
      obtain ⟨y, k1, k2⟩ := resVar_ok (F := F) hC hs r q1 h1 hn.1
      obtain ⟨ys, g1, g2⟩ := resVars_ok (F := F) hC hs rs q2 h2 hn.2.1
      refine ⟨y :: ys, ?_, ?_⟩
      · rw [List.mapM_cons, Sem.run_bind, k1, Result.andThen_ok, Sem.run_bind, g1]; rfl
      · simp only [OwnL]
        exact ⟨y, ys, SU E q1.2, SU E q2.2, rfl, fun b hb => (SU_app b).2 (.inl hb), fun b hb => (SU_app b).2 (.inr hb), fun b hb hb' => SU_disj hs hn' b hb hb', k2, g2⟩
    · simp at h

theorem pack_ok {F S : Nat → Prop} : ∀ {xs : List AV} {ys : List Value}, OwnL w true F S xs ys → Own w true F S (pack xs) (if h : ys.toArray.size = 1 then ys.toArray[0] else .tuple ys.toArray)
  | [], ys, g => by
    simp only [OwnL] at g; subst g
    simp only [pack, Own]
    exact ⟨#[], by simp, by simp [OwnL]⟩
  | [x], ys, g => by
    simp only [OwnL] at g
    obtain ⟨y, ys', S1, S2, rfl, e1, _, _, k, rfl⟩ := g
    simp only [pack]
    simpa using k.weak (fun _ h => h) e1 (Agree.refl _ _)
  | x :: x' :: xs, ys, g => by
    have hl := g.len
    simp only [pack, Own]
    refine ⟨ys.toArray, ?_, by simpa using g⟩
    rw [dif_neg (by simp [hl])]

theorem results_ok (hC : C.Ok P) (hs : SR U w0 st E a w) {F : Nat → Prop} {fn : Func} {r : AV} (h : resOk C st fn.results.toList r) :
    ∃ (y : Value) (S : Nat → Prop), (results fn a.tmps).run P w = .ok y w ∧ (∀ b, S b → w0.heap.size ≤ b ∨ U b) ∧ (∀ b, S b → b < w.heap.size) ∧ Own w true F S r y := by
  obtain ⟨q, h1, h2, h3⟩ : ∃ q, resVars C st fn.results.toList = some q ∧ q.2.Nodup ∧ pack q.1 = r := by
    unfold resOk at h
    split at h
    · rename_i q hq
      split at h
      · rename_i hn; exact ⟨q, hq, hn, by simpa using h⟩
      · simp at h
    · simp at h
  obtain ⟨ys, g1, g2⟩ := resVars_ok (F := F) hC hs _ q h1 h2
  have hS : ∀ b, SU E q.2 b → (w0.heap.size ≤ b ∨ U b) ∧ b < w.heap.size := fun b hb => by
    obtain ⟨t, _, hb⟩ := hb
    exact ⟨(hs.slt t b hb).2.2, (hs.slt t b hb).1⟩
  have hrun : (results fn a.tmps).run P w = .ok (if h : ys.toArray.size = 1 then ys.toArray[0] else .tuple ys.toArray) w := by
    rw [results_eq, Sem.run_bind, Array.mapM_eq_mapM_toList, Sem.run_map, g1]
    rfl
  refine ⟨_, SU E q.2, hrun, fun b hb => (hS b hb).1, fun b hb => (hS b hb).2, ?_⟩
  rw [← h3]
  exact pack_ok g2

theorem RepL_srep {F : Nat → Prop} {E : Env} (hE : E.F = F) : ∀ {xs : List AV} {ys : List Value}, RepL w F xs ys → ∀ (i : Nat) (x : AV), xs[i]? = some x → ∃ y : Value, ys[i]? = some y ∧ SRep w E [] x y := by
  intro xs ys h i x hi
  obtain ⟨y, h1, h2⟩ := RepL.get h i x hi
  subst hE
  exact ⟨y, h1, SRep.of_rep _ _ h2⟩

/-- The contract of a function, by the run of its body. -/
theorem callOk_of_awp (hC : C.Ok P) (hm : P.follows .mixedOrders = true) {live : List Bool} {f : FuncId} {fn : Func} {c : Code} {args : List AV} {r : AV} (hf : P.funcs[f]? = some fn) (hb : fn.body = some c) (hname : (fn.name == "runtime.NumGoroutine") = false) (hck : codeOk [] c = true)
    (h : ∀ w0, awp P C live noLd w0 c ⟨args ++ List.replicate (fn.ntmps - args.length) .junk, []⟩ (doneS C fn.results.toList r)) : CallOk P f args r := by
  refine ⟨⟨fn, hf, hname, by rw [hb]; rfl⟩, fun w F vals hF hvals => ?_⟩
  have hlen : vals.size = args.length := by simpa using hvals.length
  refine calls_of_wp hf hb ?_
  let E : Env := { F := F, hd := fun _ => undef, S := fun _ _ => False }
  have hs : SR noLd w ⟨args ++ List.replicate (fn.ntmps - args.length) .junk, []⟩ E { tmps := vals ++ Array.replicate (fn.ntmps - vals.size) undef, defers := [] } w := by
    refine ⟨rfl, by simp [hlen], fun i x hi => ?_, hF, fun t tk ht => by simp at ht, fun t b hb => hb.elim, fun t t' b _ hb => hb.elim, Frm.refl _ _, fun i hi => by simp [noLd] at hi⟩
    by_cases hlt : i < args.length
    · rw [List.getElem?_append_left hlt] at hi
      obtain ⟨y, h1, h2⟩ := RepL_srep (E := E) rfl hvals i x hi
      have h1' : vals[i]? = some y := by simpa using h1
      have : (vals ++ Array.replicate (fn.ntmps - vals.size) undef).getD i undef = y := by
        rw [Array.getD_eq_getD_getElem?, Array.getElem?_append_left (by omega), h1']; rfl
      rw [this]; exact h2
    · rw [List.getElem?_append_right (by omega)] at hi
      have := List.mem_of_getElem? hi
      rw [List.mem_replicate] at this
      rw [this.2]; simp [SRep]
  refine tr_awp hC hm c _ _ (h w) hck E _ w hs _ fun e st' E' a' w' hq hs' => ?_
  obtain ⟨he, hr⟩ := hq
  obtain ⟨y, S, k1, k2, k3, k4⟩ := results_ok (F := fun _ => False) hC hs' hr
  have hpost : a'.defers = [] ∧ ∃ v, (results fn a'.tmps).run P w' = .ok v w' ∧ ∃ (y : Value) (S : Nat → Prop), Ending.returned v = .returned y ∧ Frm (fun _ => False) w w' ∧ (∀ b, S b → w.heap.size ≤ b ∧ b < w'.heap.size) ∧ Own w' true (fun _ => False) S r y :=
    ⟨hs'.defers, y, k1, y, S, rfl, hs'.frame, fun b hb => ⟨(k2 b hb).resolve_right id, k3 b hb⟩, k4⟩
  rcases he with rfl | rfl
  · exact hpost
  · exact hpost

end
end Go.Proofs.Ytehfjhenilkofaa.Ax
