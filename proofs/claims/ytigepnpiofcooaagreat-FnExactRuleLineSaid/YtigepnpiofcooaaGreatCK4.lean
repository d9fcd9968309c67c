/-
  From the run of a function's body to its contract. No condition.
-/
import Derived.Test.YtigepnpiofcooaaGreatCK3
import Derived.KernelRfl
import Derived.ChangeArms
import Derived.Deep.Slices
import Derived.WalkKit
import Derived.ProofKit
import Derived.OpenShut
import Derived.ShutString
import Derived.ChangeOld
import Derived.Below
import Derived.Carry
import Derived.RangeFuncKeeps
namespace Go.Proofs.YtigepnpiofcooaaGreat.Ax
open Go Go.RowKit
def resVar (C : Ctx) (st : ASt) : ResultVar → Option (AV × List Nat)
  | .tmp t => ownR st.toks (st.slots.getD t .junk)
  | .cell a t => (match st.slots.getD a .junk, C.T t with
    | .ptr k [] 0 0, some ti => (match st.toks[k]? with
      | some tk => (match tk.row with
        | .sl _ sz (e :: _) => if tk.deep = true ∧ sz = ti.size then (if TypeDesc.aggB ti.desc then (match e with
              | .agg cs => some (.agg cs, [k])
              | _ => none)
            else (match e.cells with
              | [c] => some (c, [k])
              | _ => none)) else none
        | _ => none)
      | none => none)
    | _, _ => none)
def resVars (C : Ctx) (st : ASt) : List ResultVar → Option (List AV × List Nat)
  | [] => some ([], [])
  | r :: rs => (match resVar C st r, resVars C st rs with
    | some q, some q' => some (q.1 :: q'.1, q.2 ++ q'.2)
    | _, _ => none)
def pack : List AV → AV
  | [x] => x
  | xs => .tup xs
def resOk (C : Ctx) (st : ASt) (rs : List ResultVar) (r : AV) : Prop :=
  (match resVars C st rs with
    | some q => if q.2.Nodup then some (pack q.1) else none
    | none => none) = some r
def doneS (C : Ctx) (rs : List ResultVar) (r : AV) : Exit → ASt → Prop := fun e s => (e = .normal ∨ e = .ret) ∧ resOk C s rs r
theorem doneS_normal {C : Ctx} {rs : List ResultVar} {r : AV} {s : ASt} : doneS C rs r .normal s = resOk C s rs r := by simp [doneS]
theorem doneS_ret {C : Ctx} {rs : List ResultVar} {r : AV} {s : ASt} : doneS C rs r .ret s = resOk C s rs r := by simp [doneS]
def resSem (tmps : Array Value) : ResultVar → Sem Value
  | .tmp t => pure (tmps.getD t undef)
  | .cell ad t => do loadVar t (← asAddr (tmps.getD ad undef))
theorem results_eq (fn : Func) (tmps : Array Value) : results fn tmps = (do
    let vs ← fn.results.mapM (resSem tmps)
    pure (if h : vs.size = 1 then vs[0] else .tuple vs)) := by
  unfold results
  congr
section
variable {P : Program} {C : Ctx} {a : Act} {w : World} {U : Ld} {w0 : World} {st : ASt} {E : Env}
theorem resVar_ok (hC : C.Ok P) (hs : SR U w0 st E a w) {w2 : World} (hA : ∀ t b, E.S t b → w2.heap[b]? = w.heap[b]?) {F : Nat → Prop} (r : ResultVar) (q : AV × List Nat) (h : resVar C st r = some q) (hn : q.2.Nodup) :
    ∃ y, (resSem a.tmps r).run P w2 = .ok y w2 ∧ Own w2 true F (SU E q.2) q.1 y := by
  cases r with
  | tmp t =>
    simp only [resVar] at h
    have hev := hs.ev (.tmp t)
    simp only [Ax.ev, Act.eval] at hev
    have hown := ownR_ok (F := fun _ => False) hs _ _ q hev h hn
    exact ⟨a.tmps.getD t undef, rfl, Own.deepF _ _ (hown.weak (fun _ h => h) (fun _ h => h) (fun b hb => hb.elim False.elim fun ⟨t', _, hb⟩ => hA t' b hb))⟩
  | cell ad t =>
    simp only [resVar] at h
    split at h
    · rename_i k ti hp hti
      have ht := hC.T t ti hti
      have hpv := hs.ev (.tmp ad)
      simp only [Ax.ev, Act.eval] at hpv
      rw [hp] at hpv
      simp only [SRep] at hpv
      split at h
      · rename_i tk htk
        split at h
        · rename_i nl sz e es hrow
          split at h
          · rename_i hc
            obtain ⟨hd, hsz⟩ := hc
            obtain ⟨b, o, hl, hcp, g1, hy⟩ := hpv.2 tk nl sz (e :: es) htk (by simp [getAt, hrow]) (by simp)
            simp only [follow, Option.some.injEq] at g1
            have hown : Own w tk.deep E.F (E.S k) (.sl nl sz (e :: es)) (E.hd k) := by
              rcases hs.tok k tk htk with hj | ⟨nl', sz', es', e1, e2⟩
              · rw [hrow] at hj; simp at hj
              · rw [hrow] at e1; simp only [AV.sl.injEq] at e1; obtain ⟨rfl, rfl, rfl⟩ := e1; exact e2.own
            rw [hd] at hown
            replace hown : Own w2 true (fun _ => False) (E.S k) (.sl nl sz (e :: es)) (E.hd k) := (Own.deepF (F' := fun _ => False) _ _ hown).weak (fun _ h => h) (fun _ h => h) (fun b hb => hb.elim False.elim fun hb => hA k b hb)
            obtain ⟨b2, o2, l, cp, x, hv, _, _, k1, k2, k3, k4⟩ := Own.elem hown (i := 0) (e := e) (by simp)
            rw [g1] at hv
            simp only [Value.slice.injEq, Option.some.injEq, Addr.mk.injEq, and_true] at hv
            obtain ⟨⟨rfl, rfl⟩, rfl, rfl⟩ := hv
            simp only [Nat.zero_mul, Nat.add_zero] at k4 hy
            split at h
            · rename_i hagg
              split at h
              · rename_i cs
                simp only [Option.some.injEq] at h; subst h
                simp only [Own] at k1
                obtain ⟨ys, rfl, k1⟩ := k1
                have hr := run_load_agg (P := P) (w := w2) (b := b) (o' := o) (ys := ys.toList) ht hagg k4 (by rw [← hsz, ← k2]; simp [Value.cells])
                refine ⟨.agg ys, ?_, ?_⟩
                · simp only [resSem]
                  rw [hy]
                  simpa [asAddr, Instr.loadAt, Instr.sureAddr] using hr
                · simp only [Own]
                  exact ⟨ys, rfl, OwnL.deepF _ _ (k1.mono fun b hb => ⟨k, by simp, hb⟩)⟩
              · simp at h
            · rename_i hagg
              split at h
              · rename_i c hcl
                simp only [Option.some.injEq] at h; subst h
                obtain ⟨y, hyc, hoc⟩ := Own.cell k1 (by rw [k2, k3]) 0 c (by rw [hcl]; rfl)
                have hcell : w2.cell? ⟨b, o, none⟩ = some y := by simpa using k4 0 y (by simpa using hyc)
                have hr := run_load_one (P := P) (w := w2) (b := b) (o' := o) ht (by simpa using hagg) hcell
                refine ⟨y, ?_, Own.deepF _ _ (hoc.weak (fun _ h => h) (fun b hb => ⟨k, by simp, hb⟩) (Agree.refl _ _))⟩
                simp only [resSem]
                rw [hy]
                simpa [asAddr, Instr.loadAt, Instr.sureAddr] using hr
              · simp at h
          · simp at h
        · simp at h
      · simp at h
    · simp at h
theorem resVars_ok (hC : C.Ok P) (hs : SR U w0 st E a w) {w2 : World} (hA : ∀ t b, E.S t b → w2.heap[b]? = w.heap[b]?) {F : Nat → Prop} : ∀ (rs : List ResultVar) (q : List AV × List Nat), resVars C st rs = some q → q.2.Nodup →
    ∃ ys, (rs.mapM (resSem a.tmps) : Sem (List Value)).run P w2 = .ok ys w2 ∧ OwnL w2 true F (SU E q.2) q.1 ys
  | [], q, h, _ => by
    simp only [resVars, Option.some.injEq] at h; subst h
    exact ⟨[], by simp, by simp [OwnL]⟩
  | r :: rs, q, h, hn => by
    simp only [resVars] at h
    split at h
    · rename_i q1 q2 h1 h2
      simp only [Option.some.injEq] at h; subst h
      have hn' := hn
      rw [List.nodup_append] at hn
      obtain ⟨y, k1, k2⟩ := resVar_ok (F := F) hC hs hA r q1 h1 hn.1
      obtain ⟨ys, g1, g2⟩ := resVars_ok (F := F) hC hs hA rs q2 h2 hn.2.1
      refine ⟨y :: ys, ?_, ?_⟩
      · rw [List.mapM_cons, Sem.run_bind, k1, Result.andThen_ok, Sem.run_bind, g1]; rfl
      · simp only [OwnL]
        exact ⟨y, ys, SU E q1.2, SU E q2.2, rfl, fun b hb => (SU_app b).2 (.inl hb), fun b hb => (SU_app b).2 (.inr hb), fun b hb hb' => SU_disj hs hn' b hb hb', k2, g2⟩
    · simp at h
theorem pack_ok {F S : Nat → Prop} : ∀ {xs : List AV} {ys : List Value}, OwnL w true F S xs ys → Own w true F S (pack xs) (if h : ys.toArray.size = 1 then ys.toArray[0] else .tuple ys.toArray)
  | [], ys, g => by
    simp only [OwnL] at g; subst g
    simp only [pack, Own]
    exact ⟨#[], by simp, by simp [OwnL]⟩
  | [x], ys, g => by
    simp only [OwnL] at g
    obtain ⟨y, ys', S1, S2, rfl, e1, _, _, k, rfl⟩ := g
    simp only [pack]
    simpa using k.weak (fun _ h => h) e1 (Agree.refl _ _)
  | x :: x' :: xs, ys, g => by
    have hl := g.len
    simp only [pack, Own]
    refine ⟨ys.toArray, ?_, by simpa using g⟩
    rw [dif_neg (by simp [hl])]
theorem results_ok (hC : C.Ok P) (hs : SR U w0 st E a w) {w2 : World} (hA : ∀ t b, E.S t b → w2.heap[b]? = w.heap[b]?) (hsz : w.heap.size ≤ w2.heap.size) {F : Nat → Prop} {fn : Func} {r : AV} (h : resOk C st fn.results.toList r) :
    ∃ (y : Value) (S : Nat → Prop), (results fn a.tmps).run P w2 = .ok y w2 ∧ (∀ b, S b → w0.heap.size ≤ b ∨ U b) ∧ (∀ b, S b → b < w2.heap.size) ∧ Own w2 true F S r y := by
  obtain ⟨q, h1, h2, h3⟩ : ∃ q, resVars C st fn.results.toList = some q ∧ q.2.Nodup ∧ pack q.1 = r := by
    unfold resOk at h
    split at h
    · rename_i q hq
      split at h
      · rename_i hn; exact ⟨q, hq, hn, by simpa using h⟩
      · simp at h
    · simp at h
  obtain ⟨ys, g1, g2⟩ := resVars_ok (F := F) hC hs hA _ q h1 h2
  have hS : ∀ b, SU E q.2 b → (w0.heap.size ≤ b ∨ U b) ∧ b < w2.heap.size := fun b hb => by
    obtain ⟨t, _, hb⟩ := hb
    exact ⟨(hs.slt t b hb).2.2, Nat.lt_of_lt_of_le (hs.slt t b hb).1 hsz⟩
  have hrun : (results fn a.tmps).run P w2 = .ok (if h : ys.toArray.size = 1 then ys.toArray[0] else .tuple ys.toArray) w2 := by
    rw [results_eq, Sem.run_bind, Array.mapM_eq_mapM_toList, Sem.run_map, g1]
    rfl
  refine ⟨_, SU E q.2, hrun, fun b hb => (hS b hb).1, fun b hb => (hS b hb).2, ?_⟩
  rw [← h3]
  exact pack_ok g2
theorem leaves_marks {fn : Func} {tmps : Array Value} {R : Ending → World → Prop} : ∀ (Ds : List Nat) (w : World), Ds.Nodup → (∀ D ∈ Ds, w.heap[D]? = some (.deferred (some []))) →
    (∀ w2 : World, (∀ b, b ∉ Ds → w2.heap[b]? = w.heap[b]?) → w2.heap.size = w.heap.size → w2.os = w.os → w2.tape = w.tape → w2.output = w.output → ∃ v, (results fn tmps).run P w2 = .ok v w2 ∧ R (.returned v) w2) →
    LeavesInM Fence.wide 0 P fn tmps R (Ds.map fun D => ({ target := .collected D, args := #[] } : Deferred)) .returning w
  | [], w, _, _, h => by
    obtain ⟨v, h1, h2⟩ := h w (fun _ _ => rfl) rfl rfl rfl rfl
    exact ⟨v, h1, h2⟩
  | D :: Ds, w, hnd, hD, h => by
    rw [List.nodup_cons] at hnd
    have hDw := hD D (by simp)
    refine ⟨by simp, .inl ⟨D, _, rfl, run_takeDeferred hDw, ?_⟩⟩
    refine leaves_marks Ds _ hnd.2 (fun D' hD' => ?_) fun w2 k1 k2 k3 k4 k5 => ?_
    · rw [World.putObj_heap_other (fun (e : D' = D) => hnd.1 (by rw [← e]; exact hD'))]; exact hD D' (by simp [hD'])
    · refine h w2 (fun b hb => ?_) (by simpa using k2) k3 k4 k5
      simp only [List.mem_cons, not_or] at hb
      rw [k1 b hb.2, World.putObj_heap_other hb.1]
theorem RepL_srep {F : Nat → Prop} {E : Env} (hE : E.F = F) : ∀ {xs : List AV} {ys : List Value}, RepL w F xs ys → ∀ (i : Nat) (x : AV), xs[i]? = some x → ∃ y : Value, ys[i]? = some y ∧ SRep w E [] x y := by
  intro xs ys h i x hi
  obtain ⟨y, h1, h2⟩ := RepL.get h i x hi
  subst hE
  exact ⟨y, h1, SRep.of_rep _ _ h2⟩
theorem callOk_of_awp (hC : C.Ok P) (hm : P.follows .mixedOrders = true) {live : List Bool} {dt : List (Nat × RD)} {f : FuncId} {fn : Func} {c : Code} {args : List AV} {r : AV} (hf : P.funcs[f]? = some fn) (hb : fn.body = some c) (hname : (fn.name == "runtime.NumGoroutine") = false) (hck : codeOk dt [] c = true)
    (h : ∀ w0, awp P C live (noLd dt) w0 c ⟨args ++ List.replicate (fn.ntmps - args.length) .junk, []⟩ (doneS C fn.results.toList r)) : CallOk P f args r := by
  refine ⟨⟨fn, hf, hname, by rw [hb]; rfl⟩, fun w F vals hF hvals => ?_⟩
  have hlen : vals.size = args.length := by simpa using hvals.length
  refine (callsIn_wide (n := 0)).1 (callsIn_of_wp_marks hf hb trivial ?_)
  let E : Env := { F := F, hd := fun _ => undef, S := fun _ _ => False }
  have hs : SR (noLd dt) w ⟨args ++ List.replicate (fn.ntmps - args.length) .junk, []⟩ E { tmps := vals ++ Array.replicate (fn.ntmps - vals.size) undef, defers := [] } w := by
    refine ⟨Marks.nil hF.gl (fun _ _ => .inl trivial), by simp [hlen], fun i x hi => ?_, hF.lt, fun t tk ht => by simp at ht, fun t b hb => hb.elim, fun t t' b _ hb => hb.elim, Frm.refl _ _, fun i hi => by simp [noLd] at hi⟩
    by_cases hlt : i < args.length
    · rw [List.getElem?_append_left hlt] at hi
      obtain ⟨y, h1, h2⟩ := RepL_srep (E := E) rfl hvals i x hi
      have h1' : vals[i]? = some y := by simpa using h1
      have : (vals ++ Array.replicate (fn.ntmps - vals.size) undef).getD i undef = y := by
        rw [Array.getD_eq_getD_getElem?, Array.getElem?_append_left (by omega), h1']; rfl
      rw [this]; exact h2
    · rw [List.getElem?_append_right (by omega)] at hi
      have := List.mem_of_getElem? hi
      rw [List.mem_replicate] at this
      rw [this.2]; simp [SRep]
  refine tr_awp hC hm c _ _ (h w) hck E _ w hs _ fun e st' E' a' w' hq hs' => ?_
  obtain ⟨he, hr⟩ := hq
  have hpost : LeavesInM Fence.wide 0 P fn a'.tmps (fun e w' => ∃ (y : Value) (S : Nat → Prop), e = .returned y ∧ Frm (fun _ => False) w w' ∧ (∀ b, S b → w.heap.size ≤ b ∧ b < w'.heap.size) ∧ Own w' true (fun _ => False) S r y) a'.defers .returning w' := by
    obtain ⟨Ds, m1, m2, m3⟩ := hs'.defers.marks rfl
    rw [m1]
    refine leaves_marks Ds w' m2 (fun D hD => (m3 D hD).2.2) fun w2 n1 n2 n3 n4 n5 => ?_
    obtain ⟨y, S, k1, k2, k3, k4⟩ := results_ok (w2 := w2) (F := fun _ => False) hC hs' (fun t b hb => n1 b fun hD => (hs'.slt t b hb).2.1 (m3 b hD).1) (by omega) hr
    refine ⟨y, k1, y, S, rfl, ⟨n3.trans hs'.frame.os, n4.trans hs'.frame.tape, n5.trans hs'.frame.output, by rw [n2]; exact hs'.frame.size, fun b hb hU => (n1 b fun hD => by have := (m3 b hD).2.1; omega).trans (hs'.frame.block b hb hU)⟩, fun b hb => ⟨(k2 b hb).resolve_right id, k3 b hb⟩, k4⟩
  rcases he with rfl | rfl
  · exact hpost
  · exact hpost
def resVarF (C : Ctx) (st : ASt) : ResultVar → Option AV
  | .tmp t => some (Ax.res st.toks (st.slots.getD t .junk))
  | .cell a t => (match st.slots.getD a .junk, C.T t with
    | .ptr k [] 0 0, some ti => (match st.toks[k]? with
      | some tk => (match tk.row with
        | .sl _ sz (e :: _) => if sz = ti.size then (if TypeDesc.aggB ti.desc then (match e with
              | .agg cs => some (.agg cs)
              | _ => none)
            else (match e.cells with
              | [c] => some c
              | _ => none)) else none
        | _ => none)
      | none => none)
    | _, _ => none)
def resVarsF (C : Ctx) (st : ASt) : List ResultVar → Option (List AV)
  | [] => some []
  | r :: rs => (match resVarF C st r, resVarsF C st rs with
    | some q, some q' => some (q :: q')
    | _, _ => none)
def doneF (C : Ctx) (rs : List ResultVar) (r : AV) : Exit → ASt → Prop := fun e s => (e = .normal ∨ e = .ret) ∧ (resVarsF C s rs).map pack = some r
theorem doneF_normal {C : Ctx} {rs : List ResultVar} {r : AV} {s : ASt} : doneF C rs r .normal s = ((resVarsF C s rs).map pack = some r) := by simp [doneF]
theorem doneF_ret {C : Ctx} {rs : List ResultVar} {r : AV} {s : ASt} : doneF C rs r .ret s = ((resVarsF C s rs).map pack = some r) := by simp [doneF]
theorem resVarF_ok (hC : C.Ok P) (hs : SR U w0 st E a w) (r : ResultVar) (q : AV) (h : resVarF C st r = some q) : ∃ y, (resSem a.tmps r).run P w = .ok y w ∧ Rep w (allB E) q y := by
  cases r with
  | tmp t =>
    simp only [resVarF, Option.some.injEq] at h; subst h
    have hev := hs.ev (.tmp t)
    simp only [Ax.ev, Act.eval] at hev
    exact ⟨a.tmps.getD t undef, rfl, SRep.res hs.tokOk _ _ hev⟩
  | cell ad t =>
    simp only [resVarF] at h
    split at h
    · rename_i k ti hp hti
      have ht := hC.T t ti hti
      have hpv := hs.ev (.tmp ad)
      simp only [Ax.ev, Act.eval] at hpv
      rw [hp] at hpv
      simp only [SRep] at hpv
      split at h
      · rename_i tk htk
        split at h
        · rename_i nl sz e es hrow
          split at h
          · rename_i hsz
            obtain ⟨b, o, hl, hcp, g1, hy⟩ := hpv.2 tk nl sz (e :: es) htk (by simp [getAt, hrow]) (by simp)
            simp only [follow, Option.some.injEq] at g1
            have hown : Own w tk.deep E.F (E.S k) (.sl nl sz (e :: es)) (E.hd k) := by
              rcases hs.tok k tk htk with hj | ⟨nl', sz', es', e1, e2⟩
              · rw [hrow] at hj; simp at hj
              · rw [hrow] at e1; simp only [AV.sl.injEq] at e1; obtain ⟨rfl, rfl, rfl⟩ := e1; exact e2.own
            have hrep := Rep.weak (F' := allB E) hown.rep (fun b hb => hb.elim .inl fun h => .inr ⟨k, h⟩) (Agree.refl _ _)
            rw [g1] at hrep
            simp only [Rep] at hrep
            obtain ⟨ad', len, cap, hv, h1, h2, h3, h4⟩ := hrep
            simp only [Value.slice.injEq] at hv
            obtain ⟨rfl, rfl, rfl⟩ := hv
            rcases h4 with h4 | ⟨b2, o2, hb, hnl, h4⟩ | ⟨_, _, h4⟩
            · simp at h4
            rotate_left
            · simp at h4
            simp only [Option.some.injEq, Addr.mk.injEq, and_true] at hb
            obtain ⟨rfl, rfl⟩ := hb
            obtain ⟨x, k1, k2, k3, _, k4⟩ := RepRow.get h4 0 e rfl
            simp only [Nat.zero_mul, Nat.add_zero] at k4 hy
            split at h
            · rename_i hagg
              split at h
              · rename_i cs
                simp only [Option.some.injEq] at h; subst h
                simp only [Rep] at k1
                obtain ⟨ys, rfl, k1⟩ := k1
                have hr := run_load_agg (P := P) (w := w) (b := b) (o' := o) (ys := ys.toList) ht hagg k4 (by rw [← hsz, ← k2]; simp [Value.cells])
                refine ⟨.agg ys, ?_, ?_⟩
                · simp only [resSem]
                  rw [hy]
                  simpa [asAddr, Instr.loadAt, Instr.sureAddr] using hr
                · simp only [Rep]
                  exact ⟨ys, rfl, k1⟩
              · simp at h
            · rename_i hagg
              split at h
              · rename_i c hcl
                simp only [Option.some.injEq] at h; subst h
                obtain ⟨y, hyc, hoc⟩ := Own.cell (S := fun _ => False) (Rep.own _ _ k1) (by rw [k2, k3]) 0 c (by rw [hcl]; rfl)
                have hcell : w.cell? ⟨b, o, none⟩ = some y := by simpa using k4 0 y (by simpa using hyc)
                have hr := run_load_one (P := P) (w := w) (b := b) (o' := o) ht (by simpa using hagg) hcell
                refine ⟨y, ?_, hoc.rep.weak (fun b hb => hb.elim id False.elim) (Agree.refl _ _)⟩
                simp only [resSem]
                rw [hy]
                simpa [asAddr, Instr.loadAt, Instr.sureAddr] using hr
              · simp at h
          · simp at h
        · simp at h
      · simp at h
    · simp at h
theorem resVarsF_ok (hC : C.Ok P) (hs : SR U w0 st E a w) : ∀ (rs : List ResultVar) (q : List AV), resVarsF C st rs = some q →
    ∃ ys, (rs.mapM (resSem a.tmps) : Sem (List Value)).run P w = .ok ys w ∧ RepL w (allB E) q ys
  | [], q, h => by
    simp only [resVarsF, Option.some.injEq] at h; subst h
    exact ⟨[], by simp, by simp [RepL]⟩
  | r :: rs, q, h => by
    simp only [resVarsF] at h
    split at h
    · rename_i q1 q2 h1 h2
      simp only [Option.some.injEq] at h; subst h
      obtain ⟨y, k1, k2⟩ := resVarF_ok hC hs r q1 h1
      obtain ⟨ys, g1, g2⟩ := resVarsF_ok hC hs rs q2 h2
      refine ⟨y :: ys, ?_, ?_⟩
      · rw [List.mapM_cons, Sem.run_bind, k1, Result.andThen_ok, Sem.run_bind, g1]; rfl
      · simp only [RepL]; exact ⟨y, ys, rfl, k2, g2⟩
    · simp at h
theorem packF_ok {F : Nat → Prop} : ∀ {xs : List AV} {ys : List Value}, RepL w F xs ys → Rep w F (pack xs) (if h : ys.toArray.size = 1 then ys.toArray[0] else .tuple ys.toArray)
  | [], ys, g => by
    simp only [RepL] at g; subst g
    simp only [pack, Rep]
    exact ⟨#[], by simp, by simp [RepL]⟩
  | [x], ys, g => by
    simp only [RepL] at g
    obtain ⟨y, ys', rfl, k, rfl⟩ := g
    simp only [pack]
    simpa using k
  | x :: x' :: xs, ys, g => by
    have hl := g.length
    simp only [pack, Rep]
    refine ⟨ys.toArray, ?_, by simpa using g⟩
    rw [dif_neg (by simp [hl])]
theorem CallOk.frz {f : FuncId} {args : List AV} {r : AV} (h : CallOk P f args r) : FrzOk P f args false r :=
  ⟨h.1, fun w F vals hF hvals => (h.2 w F vals hF hvals).mono fun e w' he => by
    obtain ⟨y, S, rfl, h1, h2, h3⟩ := he
    exact ⟨y, S, rfl, h1, fun b hb => ⟨.inr (h2 b hb).1, (h2 b hb).2⟩, h3.rep.weak (fun b hb => hb.elim False.elim id) (Agree.refl _ _)⟩⟩
end
end Go.Proofs.YtigepnpiofcooaaGreat.Ax
namespace Go.Proofs.YtigepnpiofcooaaGreat.Ax
open Go Go.RowKit
def tyOf (P : Program) (t : TypeId) : Option TI :=
  match P.underlying t, P.info? t with
  | some d, some i => (match i.zero with
    | some z => if z.cells.size = i.size ∧ z.cells.all (·.oneCell') = true then some ⟨d, i.size, i.bytes, z⟩ else none
    | none => none)
  | _, _ => none
theorem tyOf_ok {P : Program} {t : TypeId} {ti : TI} (h : tyOf P t = some ti) : TOk P t ti := by
  unfold tyOf at h
  split at h
  · rename_i d i hd hi
    split at h
    · rename_i z hz
      split at h
      · rename_i hc
        simp only [Option.some.injEq] at h; subst h
        exact ⟨hd, ⟨i, hi, rfl, rfl, hz⟩, hc.1, hc.2⟩
      · simp at h
    · simp at h
  · simp at h
def G (l : List (Nat × (List AV → Option AV))) (f : FuncId) (args : List AV) : Option AV :=
  match l with
  | [] => none
  | (g, m) :: l => if f = g then m args else G l f args
def FnOk (P : Program) (f : FuncId) (m : List AV → Option AV) : Prop := ∀ args r, m args = some r → CallOk P f args r
inductive FnsOk (P : Program) : List (Nat × (List AV → Option AV)) → Prop
  | nil : FnsOk P []
  | cons {f : FuncId} {m : List AV → Option AV} {l : List (Nat × (List AV → Option AV))} : FnOk P f m → FnsOk P l → FnsOk P ((f, m) :: l)
theorem G_ok {P : Program} {l : List (Nat × (List AV → Option AV))} (h : FnsOk P l) : ∀ f args r, G l f args = some r → CallOk P f args r := by
  induction h with
  | nil => intro f args r h; simp [G] at h
  | cons hm _ ih =>
    intro f args r h
    simp only [G] at h
    split at h
    · rename_i e; subst e; exact hm args r h
    · exact ih f args r h
def ctx (P : Program) (X : TypeId → Option Nat) (l : List (Nat × (List AV → Option AV))) : Ctx := ⟨tyOf P, X, G l, fun _ _ => none, fun _ _ => none, fun _ _ => none, true⟩
theorem ctx_ok {P : Program} {X : TypeId → Option Nat} {l : List (Nat × (List AV → Option AV))} (hX : ∀ t n, X t = some n → EqOk P t n) (h : FnsOk P l) : (ctx P X l).Ok P := ⟨fun _ _ h => tyOf_ok h, hX, G_ok h, fun _ _ _ _ _ h => by simp [ctx] at h, fun _ _ _ _ h => by simp [ctx] at h, fun _ _ _ _ h => by simp [ctx] at h⟩
def GM (l : List (Nat × (List AV → Option (Nat × AV × AV)))) (f : FuncId) (args : List AV) : Option (Nat × AV × AV) :=
  match l with
  | [] => none
  | (g, m) :: l => if f = g then m args else GM l f args
def FnMut (P : Program) (f : FuncId) (m : List AV → Option (Nat × AV × AV)) : Prop := ∀ args pos r row', m args = some (pos, r, row') → MutOk P f args pos r row'
inductive FnsMut (P : Program) : List (Nat × (List AV → Option (Nat × AV × AV))) → Prop
  | nil : FnsMut P []
  | cons {f : FuncId} {m : List AV → Option (Nat × AV × AV)} {l : List (Nat × (List AV → Option (Nat × AV × AV)))} : FnMut P f m → FnsMut P l → FnsMut P ((f, m) :: l)
theorem GM_ok {P : Program} {l : List (Nat × (List AV → Option (Nat × AV × AV)))} (h : FnsMut P l) : ∀ f args pos r row', GM l f args = some (pos, r, row') → MutOk P f args pos r row' := by
  induction h with
  | nil => intro f args pos r row' h; simp [GM] at h
  | cons hm _ ih =>
    intro f args pos r row' h
    simp only [GM] at h
    split at h
    · rename_i e; subst e; exact hm args pos r row' h
    · exact ih f args pos r row' h
def GV (l : List (Nat × (List AV → Option (List Nat × AV)))) (f : FuncId) (args : List AV) : Option (List Nat × AV) :=
  match l with
  | [] => none
  | (g, m) :: l => if f = g then m args else GV l f args
def FnMov (P : Program) (f : FuncId) (m : List AV → Option (List Nat × AV)) : Prop := ∀ args mv r, m args = some (mv, r) → MovOk P f args mv r
inductive FnsMov (P : Program) : List (Nat × (List AV → Option (List Nat × AV))) → Prop
  | nil : FnsMov P []
  | cons {f : FuncId} {m : List AV → Option (List Nat × AV)} {l : List (Nat × (List AV → Option (List Nat × AV)))} : FnMov P f m → FnsMov P l → FnsMov P ((f, m) :: l)
theorem GV_ok {P : Program} {l : List (Nat × (List AV → Option (List Nat × AV)))} (h : FnsMov P l) : ∀ f args mv r, GV l f args = some (mv, r) → MovOk P f args mv r := by
  induction h with
  | nil => intro f args mv r h; simp [GV] at h
  | cons hm _ ih =>
    intro f args mv r h
    simp only [GV] at h
    split at h
    · rename_i e; subst e; exact hm args mv r h
    · exact ih f args mv r h
def ctxM (P : Program) (X : TypeId → Option Nat) (l : List (Nat × (List AV → Option AV))) (m : List (Nat × (List AV → Option (Nat × AV × AV)))) : Ctx := ⟨tyOf P, X, G l, GM m, fun _ _ => none, fun _ _ => none, true⟩
theorem ctxM_ok {P : Program} {X : TypeId → Option Nat} {l : List (Nat × (List AV → Option AV))} {m : List (Nat × (List AV → Option (Nat × AV × AV)))} (hX : ∀ t n, X t = some n → EqOk P t n) (h : FnsOk P l) (hm : FnsMut P m) : (ctxM P X l m).Ok P := ⟨fun _ _ h => tyOf_ok h, hX, G_ok h, GM_ok hm, fun _ _ _ _ h => by simp [ctxM] at h, fun _ _ _ _ h => by simp [ctxM] at h⟩
def ctxV (P : Program) (X : TypeId → Option Nat) (l : List (Nat × (List AV → Option AV))) (m : List (Nat × (List AV → Option (Nat × AV × AV)))) (v : List (Nat × (List AV → Option (List Nat × AV)))) : Ctx := ⟨tyOf P, X, G l, GM m, GV v, fun _ _ => none, true⟩
theorem ctxV_ok {P : Program} {X : TypeId → Option Nat} {l : List (Nat × (List AV → Option AV))} {m : List (Nat × (List AV → Option (Nat × AV × AV)))} {v : List (Nat × (List AV → Option (List Nat × AV)))} (hX : ∀ t n, X t = some n → EqOk P t n) (h : FnsOk P l) (hm : FnsMut P m) (hv : FnsMov P v) : (ctxV P X l m v).Ok P := ⟨fun _ _ h => tyOf_ok h, hX, G_ok h, GM_ok hm, GV_ok hv, fun _ _ _ _ h => by simp [ctxV] at h⟩
def GH (l : List (Nat × Bool × (List AV → Option AV))) (f : FuncId) (args : List AV) : Option (Bool × AV) :=
  match l with
  | [] => none
  | (g, sh, m) :: l => if f = g then (m args).map fun r => (sh, r) else GH l f args
def FnFrz (P : Program) (f : FuncId) (sh : Bool) (m : List AV → Option AV) : Prop := ∀ args r, m args = some r → FrzOk P f args sh r
inductive FnsFrz (P : Program) : List (Nat × Bool × (List AV → Option AV)) → Prop
  | nil : FnsFrz P []
  | cons {f : FuncId} {sh : Bool} {m : List AV → Option AV} {l : List (Nat × Bool × (List AV → Option AV))} : FnFrz P f sh m → FnsFrz P l → FnsFrz P ((f, sh, m) :: l)
theorem GH_ok {P : Program} {l : List (Nat × Bool × (List AV → Option AV))} (h : FnsFrz P l) : ∀ f args sh r, GH l f args = some (sh, r) → FrzOk P f args sh r := by
  induction h with
  | nil => intro f args sh r h; simp [GH] at h
  | cons hm _ ih =>
    intro f args sh r h
    simp only [GH] at h
    split at h
    · rename_i e; subst e
      simp only [Option.map_eq_some_iff, Prod.mk.injEq] at h
      obtain ⟨r', h1, rfl, rfl⟩ := h
      exact hm args r' h1
    · exact ih f args sh r h
theorem FnOk.frz {P : Program} {f : FuncId} {m : List AV → Option AV} (h : FnOk P f m) : FnFrz P f false m := fun args r hr => (h args r hr).frz
def ctxH (P : Program) (X : TypeId → Option Nat) (l : List (Nat × (List AV → Option AV))) (m : List (Nat × (List AV → Option (Nat × AV × AV)))) (v : List (Nat × (List AV → Option (List Nat × AV)))) (k : List (Nat × Bool × (List AV → Option AV))) : Ctx := ⟨tyOf P, X, G l, GM m, GV v, GH k, true⟩
theorem ctxH_ok {P : Program} {X : TypeId → Option Nat} {l : List (Nat × (List AV → Option AV))} {m : List (Nat × (List AV → Option (Nat × AV × AV)))} {v : List (Nat × (List AV → Option (List Nat × AV)))} {k : List (Nat × Bool × (List AV → Option AV))} (hX : ∀ t n, X t = some n → EqOk P t n) (h : FnsOk P l) (hm : FnsMut P m) (hv : FnsMov P v) (hk : FnsFrz P k) : (ctxH P X l m v k).Ok P :=
  ⟨fun _ _ h => tyOf_ok h, hX, G_ok h, GM_ok hm, GV_ok hv, GH_ok hk⟩
noncomputable def mk {α : Type} (pre : α → Prop) (enc : α → List AV) (f : α → AV) (args : List AV) : Option AV :=
  open Classical in if h : ∃ x, pre x ∧ enc x = args then some (f h.choose) else none
theorem mk_eq {α : Type} {pre : α → Prop} {enc : α → List AV} {f : α → AV} (hinj : ∀ x y, enc x = enc y → f x = f y) {x : α} (hx : pre x) : mk pre enc f (enc x) = some (f x) := by
  unfold mk
  have h : ∃ y, pre y ∧ enc y = enc x := ⟨x, hx, rfl⟩
  rw [dif_pos h, hinj _ _ h.choose_spec.2]
theorem mk_ok {P : Program} {α : Type} {pre : α → Prop} {enc : α → List AV} {f : α → AV} {g : FuncId} (h : ∀ x, pre x → CallOk P g (enc x) (f x)) : FnOk P g (mk pre enc f) := by
  intro args r hr
  unfold mk at hr
  split at hr
  · rename_i hx
    simp only [Option.some.injEq] at hr; subst hr
    have := h _ hx.choose_spec.1
    rw [hx.choose_spec.2] at this; exact this
  · simp at hr
theorem mk_frz {P : Program} {α : Type} {pre : α → Prop} {enc : α → List AV} {f : α → AV} {g : FuncId} {sh : Bool} (h : ∀ x, pre x → FrzOk P g (enc x) sh (f x)) : FnFrz P g sh (mk pre enc f) := by
  intro args r hr
  unfold mk at hr
  split at hr
  · rename_i hx
    simp only [Option.some.injEq] at hr; subst hr
    have := h _ hx.choose_spec.1
    rw [hx.choose_spec.2] at this; exact this
  · simp at hr
noncomputable def mkM {α : Type} (pre : α → Prop) (enc : α → List AV) (f : α → Nat × AV × AV) (args : List AV) : Option (Nat × AV × AV) :=
  open Classical in if h : ∃ x, pre x ∧ enc x = args then some (f h.choose) else none
theorem mkM_eq {α : Type} {pre : α → Prop} {enc : α → List AV} {f : α → Nat × AV × AV} (hinj : ∀ x y, enc x = enc y → f x = f y) {x : α} (hx : pre x) : mkM pre enc f (enc x) = some (f x) := by
  unfold mkM
  have h : ∃ y, pre y ∧ enc y = enc x := ⟨x, hx, rfl⟩
  rw [dif_pos h, hinj _ _ h.choose_spec.2]
theorem mkM_ok {P : Program} {α : Type} {pre : α → Prop} {enc : α → List AV} {f : α → Nat × AV × AV} {g : FuncId} (h : ∀ x, pre x → MutOk P g (enc x) (f x).1 (f x).2.1 (f x).2.2) : FnMut P g (mkM pre enc f) := by
  intro args pos r row' hr
  unfold mkM at hr
  split at hr
  · rename_i hx
    simp only [Option.some.injEq] at hr
    have := h _ hx.choose_spec.1
    rw [hx.choose_spec.2, hr] at this; exact this
  · simp at hr
noncomputable def mkV {α : Type} (pre : α → Prop) (enc : α → List AV) (mv : List Nat) (f : α → AV) (args : List AV) : Option (List Nat × AV) :=
  open Classical in if h : ∃ x, pre x ∧ enc x = args then some (mv, f h.choose) else none
theorem mkV_eq {α : Type} {pre : α → Prop} {enc : α → List AV} {mv : List Nat} {f : α → AV} (hinj : ∀ x y, enc x = enc y → f x = f y) {x : α} (hx : pre x) : mkV pre enc mv f (enc x) = some (mv, f x) := by
  unfold mkV
  have h : ∃ y, pre y ∧ enc y = enc x := ⟨x, hx, rfl⟩
  rw [dif_pos h, hinj _ _ h.choose_spec.2]
theorem mkV_ok {P : Program} {α : Type} {pre : α → Prop} {enc : α → List AV} {mv : List Nat} {f : α → AV} {g : FuncId} (h : ∀ x, pre x → MovOk P g (enc x) mv (f x)) : FnMov P g (mkV pre enc mv f) := by
  intro args mv' r hr
  unfold mkV at hr
  split at hr
  · rename_i hx
    simp only [Option.some.injEq, Prod.mk.injEq] at hr
    obtain ⟨rfl, rfl⟩ := hr
    have := h _ hx.choose_spec.1
    rw [hx.choose_spec.2] at this; exact this
  · simp at hr
def int (n : Int) : AV := .v (.int .i64 n)
def bool (b : Bool) : AV := .v (.bool b)
def ints (nl : Bool) (xs : List Int) : AV := .sl nl 1 (xs.map int)
theorem int_inj {a b : Int} : int a = int b ↔ a = b := by simp [int]
theorem map_int_inj {a b : List Int} : a.map int = b.map int ↔ a = b := by
  constructor
  · intro h
    exact (List.map_inj_right (fun x y => int_inj.1)).1 h
  · rintro rfl; rfl
end Go.Proofs.YtigepnpiofcooaaGreat.Ax
namespace Go.Proofs.YtigepnpiofcooaaGreat.Ax
open Go Go.RowKit Go.ChangeShapes Go.WideShapes
def tile (P : Program) : List Field → Nat → Nat → Bool
  | [], o, n => decide (o = n)
  | f :: fs, o, n => decide (f.offset = o) && tile P fs (o + P.cellsOf f.type) n
def structB (P : Program) (t : TypeId) : Bool := match P.underlying t with
  | some (.struct _) => true
  | _ => false
def plainB (P : Program) : Nat → TypeId → Bool
  | 0, _ => false
  | n + 1, t => match P.underlying t with
    | some (.int _) => true
    | some .bool => true
    | some .string => true
    | some (.slice e) => decide (P.cellsOf e ≠ 0) && plainB P n e
    | some (.struct fs) => tile P fs.toList 0 (P.cellsOf t) && fs.toList.all fun f => plainB P n f.type
    | _ => false
def AV.isAgg : AV → Bool
  | .agg _ => true
  | _ => false
inductive Dat (P : Program) : TypeId → List AV → Prop
  | int {t : TypeId} {k : IntKind} {n : Int} : P.underlying t = some (.int k) → (Lit.int k n).wf = true → Dat P t [.v (.int k n)]
  | bool {t : TypeId} {b : Bool} : P.underlying t = some .bool → Dat P t [.v (.bool b)]
  | str {t : TypeId} {s : ByteArray} : P.underlying t = some .string → s.size ≤ maxLen → Dat P t [.v (.string s)]
  | nilSl {t e : TypeId} : P.underlying t = some (.slice e) → Dat P t [.sl true (P.cellsOf e) []]
  | sl {t e : TypeId} {es : List AV} : P.underlying t = some (.slice e) → es.length ≤ maxLen → (∀ x ∈ es, x.isAgg = structB P e) → (∀ x ∈ es, Dat P e x.cells) → Dat P t [.sl false (P.cellsOf e) es]
  | struct {t : TypeId} {fs : Array Field} {pss : List (List AV)} : P.underlying t = some (.struct fs) → pss.length = fs.size → (∀ (i : Nat) (f : Field) (ps : List AV), fs[i]? = some f → pss[i]? = some ps → Dat P f.type ps) → Dat P t pss.flatten
theorem RepL.append {w : World} {F : Nat → Prop} : ∀ {al bs : List AV} {xs ys : List Value}, RepL w F al xs → RepL w F bs ys → RepL w F (al ++ bs) (xs ++ ys)
  | [], bs, xs, ys, h, k => by simp only [RepL] at h; subst h; simpa using k
  | a :: al, bs, xs, ys, h, k => by
    simp only [RepL] at h
    obtain ⟨y, zs, rfl, h1, h2⟩ := h
    simp only [List.cons_append, RepL]
    exact ⟨y, zs ++ ys, rfl, h1, RepL.append h2 k⟩
section
variable {H : Type} {enc : TypeId × Value → H} {P : Program} {w : World} {spare : Nat → Bool} {held : Bool}
theorem trod_fields {F : Nat → Prop} {n m : Nat} (ih : ∀ t cs x, DataW.trod enc P w 0 spare held n t cs = some x → plainB P m t = true → ∃ al, RepL w F al cs ∧ Dat P t al) :
    ∀ (fs : List Field) (o : Nat) (cs : List Value), tile P fs o cs.length = true → fs.all (fun f => plainB P m f.type) = true →
      (∀ (i : Nat) (f : Field), fs[i]? = some f → ∃ x, DataW.trod enc P w 0 spare held n f.type ((cs.drop f.offset).take (P.cellsOf f.type)) = some x) →
      ∃ pss : List (List AV), RepL w F pss.flatten (cs.drop o) ∧ pss.length = fs.length ∧ ∀ (i : Nat) (f : Field) (ps : List AV), fs[i]? = some f → pss[i]? = some ps → Dat P f.type ps
  | [], o, cs, ht, _, _ => by
    simp [tile] at ht
    exact ⟨[], by simp [RepL, ht], rfl, by simp⟩
  | f :: fs, o, cs, ht, hp, h => by
    simp only [tile, Bool.and_eq_true, decide_eq_true_eq, List.all_cons] at ht hp
    obtain ⟨x, hx⟩ := h 0 f rfl
    obtain ⟨al, h1, h2⟩ := ih _ _ _ hx hp.1
    obtain ⟨pss, k1, k2, k3⟩ := trod_fields ih fs (o + P.cellsOf f.type) cs ht.2 hp.2 (fun i g hg => h (i + 1) g (by simpa using hg))
    refine ⟨al :: pss, ?_, by simp [k2], ?_⟩
    · rw [ht.1] at h1
      have := RepL.append h1 k1
      rw [show cs.drop (o + P.cellsOf f.type) = (cs.drop o).drop (P.cellsOf f.type) by rw [List.drop_drop], List.take_append_drop] at this
      simpa using this
    · intro i g ps hg hps
      cases i with
      | zero => simp at hg hps; subst hg; subst hps; exact h2
      | succ i => exact k3 i g ps (by simpa using hg) (by simpa using hps)
theorem choose_list {α : Type} {Q : Nat → α → Prop} : ∀ (n : Nat), (∀ i, i < n → ∃ x, Q i x) → ∃ xs : List α, xs.length = n ∧ ∀ i x, xs[i]? = some x → Q i x
  | 0, _ => ⟨[], rfl, by simp⟩
  | n + 1, h => by
    obtain ⟨xs, h1, h2⟩ := choose_list n (fun i hi => h i (by omega))
    obtain ⟨x, hx⟩ := h n (by omega)
    refine ⟨xs ++ [x], by simp [h1], fun i y hy => ?_⟩
    by_cases hi : i < n
    · rw [List.getElem?_append_left (by omega)] at hy; exact h2 i y hy
    · rw [List.getElem?_append_right (by omega)] at hy
      have : i = n := by
        have := (List.getElem?_eq_some_iff.1 hy).1
        simp at this; omega
      subst this
      simp [h1] at hy; subst hy; exact hx
theorem Dat.one {t : TypeId} {al : List AV} (h : Dat P t al) (hs : structB P t = false) : ∃ a, al = [a] ∧ a.isAgg = false ∧ ((∃ x, a = .v x) ∨ ∃ nl sz es, a = .sl nl sz es) := by
  cases h with
  | struct hu => simp [structB, hu] at hs
  | int => exact ⟨_, rfl, rfl, .inl ⟨_, rfl⟩⟩
  | bool => exact ⟨_, rfl, rfl, .inl ⟨_, rfl⟩⟩
  | str => exact ⟨_, rfl, rfl, .inl ⟨_, rfl⟩⟩
  | nilSl => exact ⟨_, rfl, rfl, .inr ⟨_, _, _, rfl⟩⟩
  | sl => exact ⟨_, rfl, rfl, .inr ⟨_, _, _, rfl⟩⟩
theorem trod_dat : ∀ (n m : Nat) (t : TypeId) (cs : List Value) (x : DataW H × List MemPlace), DataW.trod enc P w 0 spare held n t cs = some x → plainB P m t = true → ∃ al, RepL w (fun b => b < w.heap.size) al cs ∧ Dat P t al
  | 0, _, _, _, _, h, _ => by simp [DataW.trod] at h
  | n + 1, 0, t, cs, x, h, hp => by simp [plainB] at hp
  | n + 1, m + 1, t, cs, x, h, hp => by
    have ih := trod_dat n m
    cases hu : P.underlying t with
    | none => simp [plainB, hu] at hp
    | some d =>
      simp only [plainB, hu] at hp
      cases d with
      | bool =>
        obtain ⟨b, rfl, _⟩ := DataW.trod_bool hu h
        exact ⟨[.v (.bool b)], by simp [RepL, Rep, Value.oneCell'], .bool hu⟩
      | int k =>
        obtain ⟨z, rfl, _, hw⟩ := DataW.trod_int hu h
        exact ⟨[.v (.int k z)], by simp [RepL, Rep, Value.oneCell'], .int hu hw⟩
      | string =>
        obtain ⟨s, rfl, _, hw⟩ := DataW.trod_string hu h
        exact ⟨[.v (.string s)], by simp [RepL, Rep, Value.oneCell'], .str hu hw⟩
      | slice e =>
        simp only [Bool.and_eq_true, decide_eq_true_eq] at hp
        rcases DataW.trod_slice hu h with ⟨rfl, _⟩ | ⟨a, len, cap, elems, rest, n', hn, rfl, _, hb, hl, hm, hlen, hel, _⟩
        · exact ⟨[.sl true (P.cellsOf e) []], by simp only [RepL, Rep]; exact ⟨_, _, rfl, ⟨none, 0, 0, rfl, rfl, Nat.le_refl _, Nat.zero_le _, .inl ⟨rfl, trivial, rfl, rfl⟩⟩, rfl⟩, .nilSl hu⟩
        · simp only [Nat.add_right_cancel_iff] at hn; subst hn
          have spt : 0 < len → a.spot = none := by
            intro h0
            have h1 := hel 0 h0
            rw [List.getElem?_eq_getElem (by omega)] at h1
            obtain ⟨cs', h2, h3⟩ := Option.bind_eq_some_iff.1 h1
            obtain ⟨_, g1, g2⟩ := World.cells?_some h2
            obtain ⟨v0, hv0⟩ : ∃ v, cs'[0]? = some v := ⟨_, List.getElem?_eq_getElem (by omega)⟩
            have hc0 := (g2 0 (by omega)).trans hv0
            have := World.cell?_spot hc0
            simpa [Addr.add] using this
          have each : ∀ i, i < len → ∃ e' : AV, (a.spot = none ∧ ∃ y, Rep w (fun b => b < w.heap.size) e' y ∧ y.cells.size = P.cellsOf e ∧ e'.cells.length = P.cellsOf e ∧ a.block < w.heap.size ∧ At w a.block (a.off + i * P.cellsOf e) y.cells.toList) ∧ e'.isAgg = structB P e ∧ Dat P e e'.cells := by
            intro i hi
            have hs := spt (by omega)
            have h1 := hel i hi
            rw [List.getElem?_eq_getElem (by omega)] at h1
            obtain ⟨cs', h2, h3⟩ := Option.bind_eq_some_iff.1 h1
            obtain ⟨al, k1, k2⟩ := ih _ _ _ h3 hp.2
            obtain ⟨_, g1, g2⟩ := World.cells?_some h2
            have hk := k1.length
            obtain ⟨v0, hv0⟩ : ∃ v, cs'[0]? = some v := ⟨_, List.getElem?_eq_getElem (by omega)⟩
            have hc0 := (g2 0 (by omega)).trans hv0
            have hlt : a.block < w.heap.size := by
              have := World.block_lt_of_cell? _ _ hc0
              obtain ⟨b, o, s⟩ := a
              simp only at hs; subst hs
              simpa [add_addr] using this
            have hat : At w a.block (a.off + i * P.cellsOf e) cs' := by
              intro j y hj
              have hj' := (List.getElem?_eq_some_iff.1 hj).1
              have := g2 j (by omega)
              obtain ⟨b, o, s⟩ := a
              simp only at hs; subst hs
              rw [add_addr, add_addr, hj] at this
              exact this
            cases hs' : structB P e with
            | true =>
              exact ⟨.agg al, ⟨hs, .agg cs'.toArray, by simp only [Rep]; exact ⟨_, rfl, by simpa using k1⟩, by simpa [Value.cells] using g1, by simp [AV.cells]; omega, hlt, by simpa [Value.cells] using hat⟩, rfl, k2⟩
            | false =>
              obtain ⟨c, rfl, hna, hc⟩ := k2.one hs'
              simp only [RepL] at k1
              obtain ⟨y, ys, rfl, k1, rfl⟩ := k1
              have hy : y.cells = #[y] ∧ c.cells = [c] := by
                rcases hc with ⟨x, rfl⟩ | ⟨nl, sz, es, rfl⟩
                · simp only [Rep] at k1
                  obtain ⟨rfl, k1⟩ := k1
                  cases y <;> simp [Value.oneCell'] at k1 <;> simp [Value.cells, AV.cells]
                · simp only [Rep] at k1
                  obtain ⟨_, _, _, rfl, _⟩ := k1
                  simp [Value.cells, AV.cells]
              exact ⟨c, ⟨hs, y, k1, by rw [hy.1]; simpa using g1, by rw [hy.2]; simpa using g1, hlt, by rw [hy.1]; exact hat⟩, hna, by rw [hy.2]; exact k2⟩
          obtain ⟨es, q1, q2⟩ := choose_list len each
          refine ⟨[.sl false (P.cellsOf e) es], ?_, .sl hu (by omega) (fun x hx => ?_) (fun x hx => ?_)⟩
          · simp only [RepL]
            refine ⟨_, _, rfl, ?_, rfl⟩
            simp only [Rep]
            refine ⟨some a, len, cap, rfl, q1.symm, hl, hm, .inr ?_⟩
            by_cases hz : len = 0
            · exact .inr ⟨⟨a, rfl⟩, trivial, List.length_eq_zero_iff.1 (by omega)⟩
            · refine .inl ⟨a.block, a.off, ?_, trivial, RepRow.mk fun i e' hi => ?_⟩
              · obtain ⟨z, hz'⟩ : ∃ z, es[0]? = some z := ⟨_, List.getElem?_eq_getElem (by omega)⟩
                have := (q2 0 z hz').1.1
                obtain ⟨b, o, s⟩ := a
                simp only at this; subst this; rfl
              · exact (q2 i e' hi).1.2
          · obtain ⟨i, hi⟩ := List.getElem?_of_mem hx
            exact (q2 i x hi).2.1
          · obtain ⟨i, hi⟩ := List.getElem?_of_mem hx
            exact (q2 i x hi).2.2
      | struct fs =>
        simp only [Bool.and_eq_true] at hp
        obtain ⟨xs, n', hn, _, hl, hxl, hf⟩ := DataW.trod_struct hu h
        simp only [Nat.add_right_cancel_iff] at hn; subst hn
        obtain ⟨pss, k1, k2, k3⟩ := trod_fields (fun t cs x hx hp => ih t cs x hx hp) fs.toList 0 cs (by rw [hl]; exact hp.1) hp.2 (fun i f hi => by
          have hi' : fs[i]? = some f := by simpa using hi
          have := hf i f hi'
          have hlt := (Array.getElem?_eq_some_iff.1 hi').1
          rw [List.getElem?_eq_getElem (by omega)] at this
          exact ⟨_, this⟩)
        exact ⟨pss.flatten, by simpa using k1, .struct hu (by simpa using k2) (fun i f ps h1 h2 => k3 i f ps (by simpa using h1) h2)⟩
      | _ => simp at hp
end
def DatE (P : Program) (t : TypeId) (a : AV) : Prop := a.isAgg = structB P t ∧ Dat P t a.cells
section
variable {P : Program} {t : TypeId} {a : AV}
theorem cells_one (h : a.isAgg = false) : a.cells = [a] := by cases a <;> first | rfl | simp [AV.isAgg] at h
theorem DatE.int {k : IntKind} (h : DatE P t a) (hu : P.underlying t = some (.int k)) : ∃ n, a = .v (.int k n) ∧ (Lit.int k n).wf = true := by
  obtain ⟨h1, h2⟩ := h
  have hs : structB P t = false := by simp [structB, hu]
  rw [cells_one (h1.trans hs)] at h2
  generalize ha : [a] = l at h2
  cases h2 <;> simp_all
theorem DatE.str (h : DatE P t a) (hu : P.underlying t = some .string) : ∃ s : ByteArray, a = .v (.string s) ∧ s.size ≤ maxLen := by
  obtain ⟨h1, h2⟩ := h
  have hs : structB P t = false := by simp [structB, hu]
  rw [cells_one (h1.trans hs)] at h2
  generalize ha : [a] = l at h2
  cases h2 <;> simp_all
theorem DatE.bool (h : DatE P t a) (hu : P.underlying t = some .bool) : ∃ b, a = .v (.bool b) := by
  obtain ⟨h1, h2⟩ := h
  have hs : structB P t = false := by simp [structB, hu]
  rw [cells_one (h1.trans hs)] at h2
  generalize ha : [a] = l at h2
  cases h2 <;> simp_all
theorem DatE.slice {e : TypeId} (h : DatE P t a) (hu : P.underlying t = some (.slice e)) : ∃ nl es, a = .sl nl (P.cellsOf e) es ∧ es.length ≤ maxLen ∧ ∀ x ∈ es, DatE P e x := by
  obtain ⟨h1, h2⟩ := h
  have hs : structB P t = false := by simp [structB, hu]
  rw [cells_one (h1.trans hs)] at h2
  generalize hal : [a] = l at h2
  cases h2 with
  | nilSl hu' => rw [hu] at hu'; simp at hu' hal; subst hu'; exact ⟨true, [], hal, by simp, by simp⟩
  | sl hu' hl ha hd => rw [hu] at hu'; simp at hu' hal; subst hu'; exact ⟨false, _, hal, hl, fun x hx => ⟨ha x hx, hd x hx⟩⟩
  | struct hu' => rw [hu] at hu'; simp at hu'
  | _ => simp_all
theorem list_of {α : Type} {f : α → AV} {Q : α → Prop} : ∀ {es : List AV}, (∀ x ∈ es, ∃ y, x = f y ∧ Q y) → ∃ ys : List α, es = ys.map f ∧ ∀ y ∈ ys, Q y
  | [], _ => ⟨[], rfl, by simp⟩
  | e :: es, h => by
    obtain ⟨y, rfl, hy⟩ := h e (by simp)
    obtain ⟨ys, rfl, hys⟩ := list_of (es := es) (fun x hx => h x (by simp [hx]))
    exact ⟨y :: ys, rfl, by simpa using ⟨hy, hys⟩⟩
theorem DatE.ints {e : TypeId} (h : DatE P t a) (hu : P.underlying t = some (.slice e)) (he : P.underlying e = some (.int .i64)) (hc : P.cellsOf e = 1) :
    ∃ nl xs, a = Ax.ints nl xs ∧ xs.length ≤ maxLen ∧ ∀ x ∈ xs, (Lit.int .i64 x).wf = true := by
  obtain ⟨nl, es, rfl, hl, hes⟩ := h.slice hu
  obtain ⟨xs, rfl, hx⟩ := list_of (f := Ax.int) (Q := fun x => (Lit.int .i64 x).wf = true) (fun x hx => (hes x hx).int he)
  exact ⟨nl, xs, by rw [hc]; rfl, by simpa using hl, hx⟩
theorem DatE.two {f0 f1 : Field} (h : DatE P t a) (hu : P.underlying t = some (.struct #[f0, f1])) (h0 : P.underlying f0.type = some (.int .i64)) (h1 : P.underlying f1.type = some (.int .i64)) :
    ∃ p : Int × Int, a = .agg [Ax.int p.1, Ax.int p.2] ∧ (Lit.int .i64 p.1).wf = true ∧ (Lit.int .i64 p.2).wf = true := by
  obtain ⟨g1, g2⟩ := h
  have hs : structB P t = true := by simp [structB, hu]
  rw [hs] at g1
  cases a with
  | agg al =>
    simp only [AV.cells] at g2
    generalize has : al = al' at g2
    cases g2 with
    | @struct _ fs pss hu' hl hf =>
      rw [hu] at hu'; simp only [Option.some.injEq, TypeDesc.struct.injEq] at hu'; subst hu'
      match pss, hl with
      | [p0, p1], _ =>
        have k0 := hf 0 f0 p0 rfl rfl
        have k1 := hf 1 f1 p1 rfl rfl
        have d0 : ∃ n, p0 = [.v (.int .i64 n)] ∧ (Lit.int .i64 n).wf = true := by cases k0 <;> simp_all
        have d1 : ∃ n, p1 = [.v (.int .i64 n)] ∧ (Lit.int .i64 n).wf = true := by cases k1 <;> simp_all
        obtain ⟨n0, rfl, w0⟩ := d0
        obtain ⟨n1, rfl, w1⟩ := d1
        exact ⟨(n0, n1), by simp [Ax.int], w0, w1⟩
    | _ => simp_all
  | _ => simp [AV.isAgg] at g1
end
end Go.Proofs.YtigepnpiofcooaaGreat.Ax
namespace Go.Proofs.YtigepnpiofcooaaGreat.Ax
open Go Go.RowKit Go.ChangeShapes Go.WideShapes Go.ChangeAt
def DatL (P : Program) : List TypeId → List AV → Prop
  | [], al => al = []
  | t :: ts, al => ∃ a al', al = a :: al' ∧ DatE P t a ∧ DatL P ts al'
section
variable {H : Type} {enc : TypeId × Value → H} {P : Program} {w : World} {spare : Nat → Bool} {held : Bool}
theorem trod_arg {t : TypeId} {v : Value} {d : DataW H} {ps : List MemPlace} {r : Reach} {base : Nat} (h : DataW.Trod enc P w 0 spare held t v d ps) {m : Nat} (hp : plainB P m t = true) (hv : Value.okWide P w r base t v) :
    ∃ a : AV, Rep w (fun b => b < w.heap.size) a v ∧ a.isAgg = structB P t ∧ Dat P t a.cells := by
  obtain ⟨fuel, hf⟩ := h
  obtain ⟨al, h1, h2⟩ := trod_dat fuel m t _ _ hf hp
  cases m with
  | zero => simp [plainB] at hp
  | succ m =>
    cases hs : structB P t with
    | true =>
      unfold structB at hs
      split at hs
      · rename_i fs hu
        simp only [Value.okWide, hu] at hv
        obtain ⟨cs, rfl, _⟩ := hv
        exact ⟨.agg al, by simp only [Rep]; exact ⟨_, rfl, by simpa [Value.cells] using h1⟩, rfl, h2⟩
      · simp at hs
    | false =>
      obtain ⟨a, rfl, ha, hc⟩ := h2.one hs
      simp only [RepL] at h1
      obtain ⟨y, ys, hy, h1, rfl⟩ := h1
      have hvy : v.cells = #[v] := by
        cases hu : P.underlying t with
        | none => simp [plainB, hu] at hp
        | some d =>
          cases d with
          | bool => obtain ⟨b, rfl⟩ := okWide_bool hu hv; rfl
          | int k => obtain ⟨b, rfl⟩ := okWide_int hu hv; rfl
          | string => obtain ⟨b, rfl⟩ := okWide_string hu hv; rfl
          | slice e => obtain ⟨a, b, c, rfl⟩ := okWide_slice hu hv; rfl
          | struct fs => simp [structB, hu] at hs
          | _ => simp [plainB, hu] at hp
      rw [hvy] at hy
      simp only [List.cons.injEq, and_true] at hy
      subst hy
      have : a.cells = [a] := by rcases hc with ⟨x, rfl⟩ | ⟨_, _, _, rfl⟩ <;> rfl
      exact ⟨a, h1, ha, by rw [this]; exact h2⟩
theorem trod_args : ∀ {ts : List TypeId} {vs : List Value} {ds : List (DataW H)} {ps : List MemPlace} {r : Reach} {base : Nat}, DataW.TrodAll enc P w 0 spare held ts vs ds ps → ts.all (plainB P 30) = true →
    (∀ (j : Nat) t v, ts[j]? = some t → vs[j]? = some v → Value.okWide P w r base t v) → ∃ al, RepL w (fun b => b < w.heap.size) al vs ∧ DatL P ts al
  | [], [], [], _, _, _, h, _, _ => ⟨[], by simp [RepL], by simp [DatL]⟩
  | t :: ts, v :: vs, d :: ds, ps, r, base, h, hp, hv => by
    simp only [DataW.TrodAll] at h
    obtain ⟨p, q, h1, h2, rfl⟩ := h
    simp only [List.all_cons, Bool.and_eq_true] at hp
    obtain ⟨a, k1, k2⟩ := trod_arg h1 hp.1 (hv 0 t v rfl rfl)
    obtain ⟨al, k3, k4⟩ := trod_args h2 hp.2 (fun j t v ht hv' => hv (j + 1) t v (by simpa using ht) (by simpa using hv'))
    exact ⟨a :: al, by simp only [RepL]; exact ⟨v, vs, rfl, k1, k3⟩, by simp only [DatL]; exact ⟨a, al, rfl, k2, k4⟩⟩
  | [], _ :: _, _, _, _, _, h, _, _ => by simp [DataW.TrodAll] at h
  | [], [], _ :: _, _, _, _, h, _, _ => by simp [DataW.TrodAll] at h
  | _ :: _, [], _, _, _, _, h, _, _ => by simp [DataW.TrodAll] at h
  | _ :: _, _ :: _, [], _, _, _, h, _, _ => by simp [DataW.TrodAll] at h
theorem trodAll_below {W W' : World} (hl : laidOutB P = true) (hb : Below W.heap.size W W') : ∀ {ts : List TypeId} {vs : List Value} {ds : List (DataW H)} {ps : List MemPlace}, DataW.TrodAll enc P W 0 (fun _ => true) true ts vs ds ps →
    ts.all (fun t => P.readableRec t && decide (t < P.types.size)) = true → DataW.TrodAll enc P W' 0 (fun b => decide (b < W.heap.size)) true ts vs ds ps
  | [], [], [], _, h, _ => by simpa [DataW.TrodAll] using h
  | t :: ts, v :: vs, d :: ds, ps, h, hp => by
    simp only [DataW.TrodAll] at h ⊢
    obtain ⟨p, q, h1, h2, rfl⟩ := h
    simp only [List.all_cons, Bool.and_eq_true, decide_eq_true_eq] at hp
    exact ⟨p, q, Below.trod hl hp.1.1 hp.1.2 h1 hb (by obtain ⟨m, hm⟩ := h1; exact DataW.trod_lt m _ _ _ hm), trodAll_below hl hb h2 hp.2, rfl⟩
  | [], _ :: _, _, _, h, _ => by simp [DataW.TrodAll] at h
  | [], [], _ :: _, _, h, _ => by simp [DataW.TrodAll] at h
  | _ :: _, [], _, _, h, _ => by simp [DataW.TrodAll] at h
  | _ :: _, _ :: _, [], _, h, _ => by simp [DataW.TrodAll] at h
theorem trodAll_len : ∀ {ts : List TypeId} {vs : List Value} {ds : List (DataW H)} {ps : List MemPlace}, DataW.TrodAll enc P w 0 spare held ts vs ds ps → ds.length = ts.length
  | [], [], [], _, _ => rfl
  | t :: ts, v :: vs, d :: ds, ps, h => by
    simp only [DataW.TrodAll] at h
    obtain ⟨p, q, h1, h2, rfl⟩ := h
    simp [trodAll_len h2]
  | [], _ :: _, _, _, h => by simp [DataW.TrodAll] at h
  | [], [], _ :: _, _, h => by simp [DataW.TrodAll] at h
  | _ :: _, [], _, _, h => by simp [DataW.TrodAll] at h
  | _ :: _, _ :: _, [], _, h => by simp [DataW.TrodAll] at h
end
theorem below_of_frm {W W' : World} (h : Frm (fun _ => False) W W') : Below W.heap.size W W' := ⟨h.os, h.tape, h.output, h.size, fun k hk => h.block k hk (fun h => h)⟩
theorem framed {C : Checked} {os : Os} {started : os.Started} {H : Type} {enc : TypeId × Value → H} {f : FuncId} {fn : Func} {s : ChangeSpec} {conds : List PathCond} {tb : TypeId}
    (own : ownKnob C.prog.godebug = none) (noInit : C.prog.inits.idxOf? f = none) (hfn : C.prog.funcs[f]? = some fn)
    (witness : ∃ (w : World) (tape : Tape) (i : Input), w.os = os ∧ (w.forCall tape i).Shaped C.prog ∧ i.vars = [] ∧ Input.okWide C.prog (w.forCall tape i) .any w.heap.size f i ∧
      s.pre6 enc C.prog fn conds false (w.forCall tape i).memory i.args ∧ ({} : Assume).holds C.prog (lone (Frame.enter C.prog f i.args .normal) [] (w.forCall tape i)))
    (hl : laidOutB C.prog = true) (hp : fn.params.toList.all (plainB C.prog 30) = true) (hr : fn.params.toList.all (fun t => C.prog.readableRec t && decide (t < C.prog.types.size)) = true)
    (hres : fn.resultTypes = #[tb]) (hb : C.prog.underlying tb = some .bool) (hvars : s.vars = [])
    (hspec : ∀ ds : List (DataW H), ds.length = fn.params.toList.length → s.fn H ds = { results := [.lit (.bool true)], args := ds })
    (noTab : Tryz.prog.globalNamed "internal/strconv.uint64pow10" = none)
    (law : ∀ al, DatL C.prog fn.params.toList al → CallOk C.prog f al (.v (.bool true))) (noErr : ∀ w : World, GlE (fun b => b < w.heap.size) w := by exact fun _ => trivial) :
    ReturnsInHanded {} C os f .any (s.pre6 enc C.prog fn conds false) (s.post enc C.prog fn false true false false) := by
  refine returnsInHanded_of_change (C := C) own started noInit hfn witness ?_
  intro W base args ds gs before hval hW _ _
  have hW' := hW
  obtain ⟨p, q, hA, hV, rfl, _, _⟩ := hW
  rw [hvars] at hV
  obtain ⟨rfl, rfl⟩ := trodVars_none hV
  obtain ⟨al, h1, h2⟩ := trod_args hA hp (fun j t v ht hv => hval j t v (by simpa using ht) (by simpa using hv))
  refine ((law al h2).2 W (fun b => b < W.heap.size) args ⟨fun _ h => h, And.intro (fun g hg => by rw [noTab] at hg; cases hg) (noErr W)⟩ h1).mono fun e W' ⟨y, S, he, hf, _, ho⟩ => ?_
  simp only [Own] at ho
  obtain ⟨rfl, _⟩ := ho
  have bel := below_of_frm hf
  refine ⟨_, he, ds, [], p ++ [], [], p, [], hW', ?_, ?_, ?_, bel.frame _, fun h => by cases h⟩
  · rw [List.append_nil, hspec ds (trodAll_len hA), hres]
    exact trodAll_mk1 ⟨1, by simp [DataW.trod, Value.cells, hb]⟩
  · rw [List.append_nil, hspec ds (trodAll_len hA)]
    exact trodAll_below hl bel hA hr
  · rw [List.append_nil, hspec ds (trodAll_len hA), hvars]
    simp [DataW.TrodVars]
end Go.Proofs.YtigepnpiofcooaaGreat.Ax
namespace Go.Proofs.YtigepnpiofcooaaGreat.Ax
open Go Go.RowKit
section
variable {live : List Bool} {Q : Exit → ASt → Prop} {f : ASt → Option ASt}
theorem regS_ite {p : Prop} [Decidable p] {x y : Option ASt} : regS live Q (bindS f (if p then x else y)) = ((p → regS live Q (bindS f x)) ∧ (¬ p → regS live Q (bindS f y))) := by
  by_cases h : p <;> simp [h]
theorem pickAV_bool {t a b : Bool} : pickAV t (.v (.bool a)) (.v (.bool b)) = .v (.bool (bif t then a else b)) := by cases t <;> rfl
end
theorem allS_map {xs : List Int} : allS (xs.map fun n => .v (.int .i64 n)) = true := by simp [allS, scal]
theorem allS_v {x : Value} : allS [.v x] = true := rfl
theorem allS_rep {x : Value} {n : Nat} : allS (List.replicate n (.v x)) = true := by simp [allS, scal]
theorem allS_take {es : List AV} {n : Nat} (h : allS es = true) : allS (es.take n) = true := by
  simp only [allS, List.all_eq_true] at h ⊢
  exact fun e he => h e (List.mem_of_mem_take he)
theorem nn1 {k : Nat} : (0 ≤ (k : Int) + 1) = True := by simp; omega
theorem tn1 {k : Nat} : ((k : Int) + 1).toNat = k + 1 := by omega
theorem nz1 {k : Nat} : (((k : Int) + 1) == 0) = false := by simp; omega
theorem nz1' {k : Nat} : ((k : Int) + 1 = 0) = False := by simp; omega
theorem lt1 {a b : Nat} : ((a : Int) + 1 < (b : Int)) = (a + 1 < b) := by simp; omega
mutual
def lens : AV → Prop
  | .v _ => True
  | .agg cs => lensL cs
  | .tup cs => lensL cs
  | .sl nl _ es => (es.length ≤ 9223372036854775807 ∧ (nl = true → es = [])) ∧ lensL es
  | .fp e _ => lens e
  | .fn _ cs => lensL cs
  | .ref _ _ _ _ => True
  | .ptr _ _ _ _ => True
  | .junk => True
def lensL : List AV → Prop
  | [] => True
  | c :: cs => lens c ∧ lensL cs
end
theorem lensL_iff : ∀ {l : List AV}, lensL l ↔ ∀ x ∈ l, lens x
  | [] => by simp [lensL]
  | c :: cs => by simp [lensL, lensL_iff (l := cs)]
mutual
theorem Rep.lens {w : World} {F : Nat → Prop} : ∀ (a : AV) (y : Value), Rep w F a y → Ax.lens a
  | .v _, _, _ => by simp [Ax.lens]
  | .agg cs, y, k => by simp only [Rep, Ax.lens] at k ⊢; obtain ⟨ys, rfl, k⟩ := k; exact RepL.lens cs _ k
  | .tup cs, y, k => by simp only [Rep, Ax.lens] at k ⊢; obtain ⟨ys, rfl, k⟩ := k; exact RepL.lens cs _ k
  | .sl nl sz es, y, k => by
    simp only [Rep, Ax.lens] at k ⊢
    obtain ⟨a, len, cap, rfl, h1, h2, h3, k⟩ := k
    refine ⟨⟨by simp only [maxLen] at h3; omega, fun hnl => ?_⟩, ?_⟩
    · rcases k with ⟨_, _, h, _⟩ | ⟨_, _, _, h, _⟩ | ⟨_, h, _⟩
      · exact List.length_eq_zero_iff.1 (by omega)
      · rw [h] at hnl; simp at hnl
      · rw [h] at hnl; simp at hnl
    · rcases k with ⟨_, _, h, _⟩ | ⟨b, o, _, _, k⟩ | ⟨_, _, h⟩
      · rw [List.length_eq_zero_iff.1 (show es.length = 0 by omega)]; simp [lensL]
      · exact RepRow.lens b sz o es k
      · rw [h]; simp [lensL]
  | .fp e j, y, k => by simp only [Rep, Ax.lens] at k ⊢; obtain ⟨b, o, x, rfl, k, _⟩ := k; exact Rep.lens e x k
  | .fn f cs, y, k => by simp only [Rep, Ax.lens] at k ⊢; obtain ⟨ys, rfl, k⟩ := k; exact RepL.lens cs _ k
  | .ref _ _ _ _, _, _ => by simp [Ax.lens]
  | .ptr _ _ _ _, _, _ => by simp [Ax.lens]
  | .junk, _, _ => by simp [Ax.lens]
theorem RepL.lens {w : World} {F : Nat → Prop} : ∀ (a : List AV) (y : List Value), RepL w F a y → lensL a
  | [], _, _ => by simp [lensL]
  | c :: cs, y, k => by
    simp only [RepL, lensL] at k ⊢
    obtain ⟨y, ys, rfl, k1, k2⟩ := k
    exact ⟨Rep.lens c y k1, RepL.lens cs ys k2⟩
theorem RepRow.lens {w : World} {F : Nat → Prop} (b sz : Nat) : ∀ (o : Nat) (es : List AV), RepRow w F b sz o es → lensL es
  | _, [], _ => by simp [lensL]
  | o, e :: es, k => by
    simp only [RepRow, lensL] at k ⊢
    obtain ⟨⟨x, k1, _⟩, k2⟩ := k
    exact ⟨Rep.lens e x k1, RepRow.lens b sz (o + sz) es k2⟩
end
theorem lensL_map {α : Type} {f : α → AV} {l : List α} : lensL (l.map f) ↔ ∀ x ∈ l, lens (f x) := by simp [lensL_iff]
section
variable {P : Program} {C : Ctx}
theorem callOk_awp (hC : C.Ok P) (hm : P.follows .mixedOrders = true) {live : List Bool} {dt : List (Nat × RD)} {f : FuncId} {fn : Func} {c : Code} {args : List AV} {r : AV} (hf : P.funcs[f]? = some fn) (hb : fn.body = some c) (hname : (fn.name == "runtime.NumGoroutine") = false) (hck : codeOk dt [] c = true)
    (h : ∀ w0, lensL args → awp P C live (noLd dt) w0 c ⟨args ++ List.replicate (fn.ntmps - args.length) .junk, []⟩ (doneS C fn.results.toList r)) : CallOk P f args r := by
  by_cases hl : lensL args
  · exact callOk_of_awp hC hm hf hb hname hck fun w0 => h w0 hl
  · refine ⟨⟨fn, hf, hname, by rw [hb]; rfl⟩, fun w F vals hF hvals => (hl (RepL.lens _ _ hvals)).elim⟩
theorem inBlock_mono {id : Nat} {Q Q' : Exit → ASt → Prop} (h : ∀ e s, Q e s → Q' e s) : ∀ e s, inBlock id Q e s → inBlock id Q' e s
  | .normal, s, k => h _ s k
  | .exit id', s, k => by
    simp only [inBlock] at k ⊢
    split
    · rename_i e; rw [if_pos e] at k; exact h _ _ k
    · rename_i e; rw [if_neg e] at k; exact h _ _ k
  | .goto _, _, k => h _ _ k
  | .ret, _, k => h _ _ k
  | .panic _, _, k => h _ _ k
  | .outgrown, _, k => h _ _ k
theorem andThen_imp {N N' : ASt → Prop} {Q Q' : Exit → ASt → Prop} (hn : ∀ s, N s → N' s) (h : ∀ e s, Q e s → Q' e s) : ∀ e s, andThen N Q e s → andThen N' Q' e s
  | .normal, s, k => hn s k
  | .exit _, _, k => h _ _ k
  | .goto _, _, k => h _ _ k
  | .ret, _, k => h _ _ k
  | .panic _, _, k => h _ _ k
  | .outgrown, _, k => h _ _ k
theorem awp_mono {live : List Bool} {U : Ld} {w0 : World} : ∀ (c : Code) (st : ASt) (Q Q' : Exit → ASt → Prop), awp P C live U w0 c st Q → (∀ e s, Q e s → Q' e s) → awp P C live U w0 c st Q'
  | .skip, _, _, _, h, hq => hq _ _ h
  | .region _ _ _, _, _, _, h, hq => by obtain ⟨fin, h1, h2⟩ := h; exact ⟨fin, h1, hq _ _ h2⟩
  | .seq x y, st, _, _, h, hq => awp_mono x st _ _ h (andThen_imp (fun s hs => awp_mono y s _ _ hs hq) hq)
  | .cond c x y, st, _, _, h, hq => by
    obtain ⟨t, h1, h2, h3⟩ := h
    exact ⟨t, h1, fun ht => awp_mono x st _ _ (h2 ht) hq, fun ht => awp_mono y st _ _ (h3 ht) hq⟩
  | .block id x, st, _, _, h, hq => awp_mono x st _ _ h (inBlock_mono hq)
  | .exit _, _, _, _, h, hq => hq _ _ h
  | .ret, _, _, _, h, hq => hq _ _ h
  | .loop _, _, _, _, h, hq => Tr.weak h hq
  | .rangeFunc _ _ _ _, _, _, _, h, hq => Tr.weak h hq
  | .scope _, _, _, _, h, hq => Tr.weak h hq
  | .label _, _, _, _, h, hq => Tr.weak h hq
  | .goto _, _, _, _, h, hq => Tr.weak h hq
  | .refuse _, _, _, _, h, hq => Tr.weak h hq
def rngS (N : ASt → Prop) (Q : Exit → ASt → Prop) : Exit → ASt → Prop := andThen N Q
theorem rngS_normal {N : ASt → Prop} {Q : Exit → ASt → Prop} {s : ASt} : rngS N Q .normal s = N s := rfl
theorem rngS_exit {N : ASt → Prop} {Q : Exit → ASt → Prop} {s : ASt} {id : Nat} : rngS N Q (.exit id) s = Q (.exit id) s := rfl
theorem rngS_ret {N : ASt → Prop} {Q : Exit → ASt → Prop} {s : ASt} : rngS N Q .ret s = Q .ret s := rfl
theorem awp_range (hC : C.Ok P) (hm : P.follows .mixedOrders = true) {live : List Bool} {U : Ld} {w0 : World} (lv : List Bool) {c : Code} {st : ASt} {Q : Exit → ASt → Prop} (n : Nat) (p : Nat → Prop) (I : Nat → ASt) (hn : n ≤ 9223372036854775807)
    (h0 : sub (clean lv st) (I 0)) (hp : p 0)
    (hstep : ∀ k, k < n → p k → IntKind.i64.wrap ((k : Int) + 1) = (k : Int) + 1 → awp P C live U w0 c (I k) (rngS (fun s => sub (clean lv s) (I (k + 1)) ∧ p (k + 1)) Q))
    (hend : p n → awp P C live U w0 c (I n) (rngS (fun _ => False) Q)) : Tr P U w0 (.loop c) st Q := by
  refine awp_loop_of (live := live) hC hm lv (α := {k : Nat // k ≤ n ∧ p k}) (fun k => I k.1) (fun k => n - k.1) ⟨0, Nat.zero_le _, hp⟩ h0 ?_
  rintro ⟨k, hk, hpk⟩
  by_cases h : k < n
  · exact awp_mono _ _ _ _ (hstep k h hpk (wrapI (by omega) (by omega))) (andThen_mono fun s hs => ⟨⟨k + 1, h, hs.2⟩, hs.1, by simp; omega⟩)
  · obtain rfl : k = n := by omega
    exact awp_mono _ _ _ _ (hend hpk) (andThen_mono fun s hs => hs.elim)
end
end Go.Proofs.YtigepnpiofcooaaGreat.Ax
namespace Go.Proofs.YtigepnpiofcooaaGreat.Ax
open Go Go.RowKit
def resM (C : Ctx) (s : ASt) (rs : List ResultVar) (pos : Nat) : Option (AV × AV) :=
  match resVars C s rs, s.slots.getD pos .junk with
  | some q, .ref t [] 0 n => (match s.toks[t]? with
    | some tk => (match tk.row with
      | .sl nl sz es => if tk.deep = true ∧ n = es.length ∧ q.2 = [] then some (pack q.1, .sl nl sz es) else none
      | _ => none)
    | none => none)
  | _, _ => none
def doneM (C : Ctx) (rs : List ResultVar) (pos : Nat) (r row' : AV) : Exit → ASt → Prop := fun e s => (e = .normal ∨ e = .ret) ∧ resM C s rs pos = some (r, row')
theorem doneM_normal {C : Ctx} {rs : List ResultVar} {pos : Nat} {r row' : AV} {s : ASt} : doneM C rs pos r row' .normal s = (resM C s rs pos = some (r, row')) := by simp [doneM]
theorem doneM_ret {C : Ctx} {rs : List ResultVar} {pos : Nat} {r row' : AV} {s : ASt} : doneM C rs pos r row' .ret s = (resM C s rs pos = some (r, row')) := by simp [doneM]
theorem Excl.deepF {w : World} {F F' S : Nat → Prop} {nl : Bool} {sz : Nat} {es : List AV} {y : Value} (h : Excl w true F S nl sz es y) : Excl w true F' S nl sz es y := Excl.of_own (Own.deepF _ _ h.own)
theorem ref_whole {w : World} {E : Env} {toks : List Tok} {t n : Nat} {tk : Tok} {nl : Bool} {sz : Nat} {es : List AV} {y : Value} (h : RefOk w E toks t [] 0 n y) (htk : toks[t]? = some tk) (hrow : tk.row = .sl nl sz es) (hn : n = es.length)
    {d : Bool} {F S : Nat → Prop} (hex : Excl w d F S nl sz es (E.hd t)) : y = E.hd t := by
  subst hn
  obtain ⟨hv, g1, g2⟩ := h.2 tk nl sz es htk (by simp [getAt, hrow]) (by omega)
  simp only [follow, Option.some.injEq] at g1
  rw [g1]
  obtain ⟨a1, l, c, hhd, hl, _⟩ := hex
  rw [g1] at hhd
  rcases g2 with ⟨q1, q2⟩ | ⟨_, q2, _⟩ | ⟨b, o, hl', hc, o', q1, q2, q3⟩
  · rw [q1, q2]
  · exact q2
  · rw [q1] at hhd ⊢
    simp only [Value.slice.injEq] at hhd
    rw [q2]
    have : o' = o + 0 * sz := q3.resolve_right (fun h => h.2.1 rfl)
    rw [this]; simp
    omega
section
variable {P : Program} {C : Ctx}
def mkLdN (nm : Bool) (S : Nat → Prop) (idx : List Nat) (v : Value) (dt : List (Nat × RD)) : Ld := ⟨S, idx, fun _ => v, dt, none, fun _ => True, nm⟩
theorem mkLdN_dt {nm : Bool} {S : Nat → Prop} {idx : List Nat} {v : Value} {dt : List (Nat × RD)} : (mkLdN nm S idx v dt).dt = dt := rfl
theorem mutOk_of_tr (nm : Bool) (hC : C.Ok P) {dt : List (Nat × RD)} {f : FuncId} {fn : Func} {c : Code} {args : List AV} {pos : Nat} {nl : Bool} {sz : Nat} {es es' : List AV} {r : AV} (hpos : args[pos]? = some (.sl nl sz es))
    (hf : P.funcs[f]? = some fn) (hb : fn.body = some c) (hname : (fn.name == "runtime.NumGoroutine") = false) (hck : codeOk dt [pos] c = true)
    (h : ∀ (US : Nat → Prop) (Uv : Value) (w0 : World), lens (.sl nl sz es) → Tr P (mkLdN nm US [pos] Uv dt) w0 c ⟨args.set pos (.ref 0 [] 0 es.length) ++ List.replicate (fn.ntmps - args.length) .junk, [⟨true, .sl nl sz es⟩]⟩ (doneM C fn.results.toList pos r (.sl nl sz es'))) : MutOk P f args pos r (.sl nl sz es') := by
  refine ⟨⟨fn, hf, hname, by rw [hb]; rfl⟩, nl, sz, es, es', hpos, rfl, fun w F S vals hd hF hS hlen hargs hvp hex => ?_⟩
  have hpl : pos < args.length := (List.getElem?_eq_some_iff.1 hpos).1
  refine (callsIn_wide (n := 0)).1 (callsIn_of_wp_marks hf hb trivial ?_)
  let E : Env := { F := F, hd := fun _ => hd, S := fun t b => t = 0 ∧ S b }
  let U : Ld := mkLdN nm S [pos] hd dt
  have hgetv : ∀ i, i < args.length → (vals ++ Array.replicate (fn.ntmps - vals.size) undef).getD i undef = vals.getD i undef := fun i hi => by
    rw [Array.getD_eq_getD_getElem?, Array.getElem?_append_left (by omega), Array.getD_eq_getD_getElem?]
  have hlens : lens (.sl nl sz es) := Rep.lens _ _ (Own.rep _ _ hex.own)
  have hs : SR U w ⟨args.set pos (.ref 0 [] 0 es.length) ++ List.replicate (fn.ntmps - args.length) .junk, [⟨true, .sl nl sz es⟩]⟩ E { tmps := vals ++ Array.replicate (fn.ntmps - vals.size) undef, defers := [] } w := by
    refine ⟨Marks.nil hF.gl (fun _ _ => .inl trivial), by simp [hlen], fun i x hi => ?_, hF.lt, fun t tk ht => ?_, fun t b hb => ⟨(hS b hb.2).1, (hS b hb.2).2, .inr hb.2⟩, fun t t' b hne hb hb' => hne (by rw [hb.1, hb'.1]), Frm.refl _ _, fun i hi => ?_⟩
    · by_cases hlt : i < args.length
      · rw [List.getElem?_append_left (by simpa using hlt)] at hi
        rw [hgetv i hlt]
        by_cases hip : i = pos
        · subst hip
          rw [List.getElem?_set_self hpl] at hi
          obtain rfl := Option.some.inj hi
          rw [Array.getD_eq_getD_getElem?, hvp]
          simp only [SRep, Option.getD_some]
          refine ⟨by simp, fun tk nl' sz' es'' h1 h2 h3 => ?_⟩
          simp at h1; subst h1
          simp only [getAt, AV.sl.injEq] at h2
          obtain ⟨rfl, rfl, rfl⟩ := h2
          refine ⟨hd, by simp [follow, E], ?_⟩
          obtain ⟨a1, l, cap, hv, h1, h2, _, h4⟩ := hex
          subst hv
          rcases h4 with ⟨rfl, _, rfl, rfl⟩ | ⟨b, o, _, _, rfl, _⟩
          · exact .inl ⟨rfl, rfl⟩
          · exact .inr (.inr ⟨b, o, l, cap, o, rfl, by rw [h1]; simp, .inl (by omega)⟩)
        · rw [List.getElem?_set_ne (fun e => hip e.symm)] at hi
          obtain ⟨y, h1, h2⟩ := hargs i x hip hi
          rw [Array.getD_eq_getD_getElem?, h1]
          exact SRep.of_rep (E := E) _ _ h2
      · rw [List.getElem?_append_right (by simpa using hlt)] at hi
        have := List.mem_of_getElem? hi
        rw [List.mem_replicate] at this
        rw [this.2]; simp [SRep]
    · cases t with
      | zero =>
        simp at ht; subst ht
        refine .inr ⟨nl, sz, es, rfl, ?_⟩
        have h0 : Excl w true F S nl sz es hd := hex.deepF
        exact h0.weak (fun _ h => h) (fun b hb => ⟨rfl, hb⟩) (Agree.refl _ _)
      | succ t => simp at ht
    · simp only [U, mkLdN, List.mem_singleton] at hi
      subst hi
      rw [hgetv i hpl, Array.getD_eq_getD_getElem?, hvp]; rfl
  refine h S hd w hlens hck E _ w hs _ fun e st' E' a' w' hq hs' => ?_
  obtain ⟨he, hr⟩ := hq
  -- the end
  have hend : LeavesInM Fence.wide 0 P fn a'.tmps (fun e w' => ∃ (y : Value) (S' Sr : Nat → Prop), e = .returned y ∧ Frm S w w' ∧ (∀ b, S' b → S b ∨ (w.heap.size ≤ b ∧ b < w'.heap.size)) ∧ (∀ b, Sr b → w.heap.size ≤ b ∧ b < w'.heap.size) ∧ (∀ b, S' b → ¬ Sr b) ∧
      Own w' true (fun _ => False) Sr r y ∧ Excl w' true (fun _ => False) S' nl sz es' hd) a'.defers .returning w' := by
    obtain ⟨Ds, m1, m2, m3⟩ := hs'.defers.marks rfl
    rw [m1]
    refine leaves_marks Ds w' m2 (fun D hD => (m3 D hD).2.2) fun w2 n1 n2 n3 n4 n5 => ?_
    have hA : ∀ t b, E'.S t b → w2.heap[b]? = w'.heap[b]? := fun t b hb => n1 b fun hD => (hs'.slt t b hb).2.1 (m3 b hD).1
    have hfr2 : Frm S w w2 := ⟨n3.trans hs'.frame.os, n4.trans hs'.frame.tape, n5.trans hs'.frame.output, by rw [n2]; exact hs'.frame.size, fun b hb hU => (n1 b fun hD => by have := (m3 b hD).2.1; omega).trans (hs'.frame.block b hb hU)⟩
    unfold resM at hr
    split at hr
    · rename_i q t n hq hsl
      split at hr
      · rename_i tk htk
        split at hr
        · rename_i nl2 sz2 es2 hrow
          split at hr
          · rename_i hc
            obtain ⟨hdeep, hn, hq0⟩ := hc
            have hnd : q.2.Nodup := by rw [hq0]; exact List.nodup_nil
            have htq : t ∉ q.2 := by rw [hq0]; simp
            simp only [Option.some.injEq, Prod.mk.injEq, AV.sl.injEq] at hr
            obtain ⟨hpk, rfl, rfl, rfl⟩ := hr
            have hexc : Excl w' true E'.F (E'.S t) nl2 sz2 es2 (E'.hd t) := by
              rcases hs'.tok t tk htk with hj | ⟨nl', sz', es3, h1, h2⟩
              · rw [hrow] at hj; simp at hj
              · rw [hrow] at h1; simp only [AV.sl.injEq] at h1; obtain ⟨rfl, rfl, rfl⟩ := h1; rw [hdeep] at h2; exact h2
            have hsi : st'.slots[pos]? = some (.ref t [] 0 n) := by
              rw [List.getD_eq_getElem?_getD] at hsl
              cases hh : st'.slots[pos]? with
              | none => rw [hh] at hsl; simp at hsl
              | some z => rw [hh] at hsl; simpa using hsl
            have hsr := hs'.slot pos _ hsi
            simp only [SRep] at hsr
            have hpin := hs'.pin pos (by simp [mkLdN])
            have hy := ref_whole hsr htk hrow hn hexc
            rw [hpin] at hy
            have hhd : hd = E'.hd t := hy
            obtain ⟨ys, g1, g2⟩ := resVars_ok (w2 := w2) (F := fun _ => False) hC hs' hA _ q hq hnd
            have hSU : ∀ b, SU E' q.2 b → ¬ E'.S t b := fun b hb => by
              obtain ⟨t', ht', hb⟩ := hb
              exact fun h => hs'.sep t' t b (fun e => htq (e ▸ ht')) hb h
            have hrun : (results fn a'.tmps).run P w2 = .ok (if h : ys.toArray.size = 1 then ys.toArray[0] else .tuple ys.toArray) w2 := by
              rw [results_eq, Sem.run_bind, Array.mapM_eq_mapM_toList, Sem.run_map, g1]
              rfl
            have hown : Own w2 true (fun _ => False) (SU E' q.2) r (if h : ys.toArray.size = 1 then ys.toArray[0] else .tuple ys.toArray) := by rw [← hpk]; exact pack_ok g2
            have hexc2 : Excl w2 true (fun _ => False) (E'.S t) nl2 sz2 es2 (E'.hd t) := (hexc.deepF (F' := fun _ => False)).weak (fun _ h => h) (fun _ h => h) (fun b hb => hb.elim False.elim fun hb => hA t b hb)
            refine ⟨_, hrun, _, fun b => E'.S t b, fun b => SU E' q.2 b, rfl, hfr2, fun b hb => ?_, fun b hb => ?_, fun b hb hb' => hSU b hb' hb, hown, by rw [hhd]; exact hexc2⟩
            · rcases (hs'.slt t b hb).2.2 with h | h
              · exact .inr ⟨h, by rw [n2]; exact (hs'.slt t b hb).1⟩
              · exact .inl h
            · obtain ⟨t', ht', _⟩ := hb
              rw [hq0] at ht'; simp at ht'
          · simp at hr
        · simp at hr
      · simp at hr
    · simp at hr
  rcases he with rfl | rfl
  · exact hend
  · exact hend
theorem mutOk_awp (hC : C.Ok P) (hm : P.follows .mixedOrders = true) {live : List Bool} {dt : List (Nat × RD)} {f : FuncId} {fn : Func} {c : Code} {args : List AV} {pos : Nat} {nl : Bool} {sz : Nat} {es es' : List AV} {r : AV} (hpos : args[pos]? = some (.sl nl sz es))
    (hf : P.funcs[f]? = some fn) (hb : fn.body = some c) (hname : (fn.name == "runtime.NumGoroutine") = false) (hck : codeOk dt [pos] c = true)
    (h : ∀ (US : Nat → Prop) (Uv : Value) (w0 : World), lens (.sl nl sz es) → awp P C live (mkLd US [pos] Uv dt) w0 c ⟨args.set pos (.ref 0 [] 0 es.length) ++ List.replicate (fn.ntmps - args.length) .junk, [⟨true, .sl nl sz es⟩]⟩ (doneM C fn.results.toList pos r (.sl nl sz es'))) : MutOk P f args pos r (.sl nl sz es') :=
  mutOk_of_tr false hC hpos hf hb hname hck fun US Uv w0 hl => tr_awp hC hm c _ _ (h US Uv w0 hl)
def setSl : List Nat → List AV → List AV → List AV
  | i :: mv, x :: xs, l => setSl mv xs (l.set i x)
  | _, _, l => l
theorem setSl_get : ∀ {mv : List Nat} {xs l : List AV}, xs.length = mv.length → ∀ {i : Nat} {x : AV}, (setSl mv xs l)[i]? = some x → (i ∉ mv ∧ l[i]? = some x) ∨ ∃ j : Nat, mv[j]? = some i ∧ xs[j]? = some x
  | [], [], l, _, i, x, h => .inl ⟨by simp, h⟩
  | k :: mv, y :: xs, l, hl, i, x, h => by
    simp only [setSl] at h
    rcases setSl_get (by simpa using hl) h with ⟨h1, h2⟩ | ⟨j, h1, h2⟩
    · by_cases e : i = k
      · subst e
        right
        refine ⟨0, by simp, ?_⟩
        by_cases hlt : i < l.length
        · rw [List.getElem?_set_self hlt] at h2; simpa using h2
        · rw [List.getElem?_eq_none (by simpa using hlt)] at h2; simp at h2
      · rw [List.getElem?_set_ne (fun h => e h.symm)] at h2
        exact .inl ⟨by simp [e, h1], h2⟩
    · exact .inr ⟨j + 1, by simpa using h1, by simpa using h2⟩
  | [], _ :: _, _, hl, _, _, _ => by simp at hl
  | _ :: _, [], _, hl, _, _, _ => by simp at hl
theorem setSl_len : ∀ {mv : List Nat} {xs l : List AV}, (setSl mv xs l).length = l.length
  | [], _, _ => by simp [setSl]
  | _ :: _, [], _ => by simp [setSl]
  | k :: mv, x :: xs, l => by simp only [setSl]; rw [setSl_len]; simp
theorem internL_len : ∀ {xs : List AV} {toks : List Tok}, (internL toks xs).1.length = xs.length
  | [], _ => rfl
  | x :: xs, toks => by simp [internL, internL_len]
theorem movOk_awp (hC : C.Ok P) (hm : P.follows .mixedOrders = true) {live : List Bool} {dt : List (Nat × RD)} {f : FuncId} {fn : Func} {c : Code} {args : List AV} {mv : List Nat} {r : AV}
    (hf : P.funcs[f]? = some fn) (hb : fn.body = some c) (hname : (fn.name == "runtime.NumGoroutine") = false) (hck : codeOk dt [] c = true)
    (h : ∀ (US : Nat → Prop) (w0 : World), lensL args → awp P C live (mkLd US [] undef dt) w0 c ⟨setSl mv (internL [] (mv.map fun i => args.getD i .junk)).1 args ++ List.replicate (fn.ntmps - args.length) .junk, (internL [] (mv.map fun i => args.getD i .junk)).2⟩ (doneS C fn.results.toList r)) : MovOk P f args mv r := by
  refine ⟨⟨fn, hf, hname, by rw [hb]; rfl⟩, fun w F S vals hF hS hlen hargs hown => ?_⟩
  refine (callsIn_wide (n := 0)).1 (callsIn_of_wp_marks hf hb trivial ?_)
  let E0 : Env := { F := F, hd := fun _ => undef, S := fun _ _ => False }
  let U : Ld := mkLd S [] undef dt
  have hgetv : ∀ i, i < args.length → (vals ++ Array.replicate (fn.ntmps - vals.size) undef).getD i undef = vals.getD i undef := fun i hi => by
    rw [Array.getD_eq_getD_getElem?, Array.getElem?_append_left (by omega), Array.getD_eq_getD_getElem?]
  have hmget : ∀ i (hi : i ∈ mv), ∃ j : Nat, mv[j]? = some i := fun i hi => List.mem_iff_getElem?.1 hi
  have hownget : ∀ (j i : Nat), mv[j]? = some i → Own w true (fun _ => False) S (args.getD i .junk) (vals.getD i undef) := fun j i hj => by
    obtain ⟨y, h1, h2⟩ := OwnL.get hown j (args.getD i .junk) (by rw [List.getElem?_map, hj]; rfl)
    rw [List.getElem?_map, hj] at h1
    simp only [Option.map_some, Option.some.injEq] at h1
    rw [h1]; exact h2
  have hlens : lensL args := lensL_iff.2 fun x hx => by
    obtain ⟨i, hi⟩ := List.mem_iff_getElem?.1 hx
    by_cases him : i ∈ mv
    · obtain ⟨j, hj⟩ := hmget i him
      have := hownget j i hj
      rw [List.getD_eq_getElem?_getD, hi] at this
      exact Rep.lens _ _ (Own.rep _ _ this)
    · obtain ⟨y, _, h2⟩ := hargs i x him hi
      exact Rep.lens _ _ h2
  have hs0 : SR U w ⟨setSl mv (mv.map fun _ => .junk) args ++ List.replicate (fn.ntmps - args.length) .junk, []⟩ E0 { tmps := vals ++ Array.replicate (fn.ntmps - vals.size) undef, defers := [] } w := by
    refine ⟨Marks.nil hF.gl (fun _ _ => .inl trivial), by simp [hlen, setSl_len], fun i x hi => ?_, hF.lt, fun t tk ht => by simp at ht, fun t b hb => hb.elim, fun t t' b _ hb => hb.elim, Frm.refl _ _, fun i hi => by simp [U, mkLd] at hi⟩
    by_cases hlt : i < args.length
    · rw [List.getElem?_append_left (by simpa [setSl_len] using hlt)] at hi
      rw [hgetv i hlt]
      rcases setSl_get (by simp) hi with ⟨h1, h2⟩ | ⟨j, h1, h2⟩
      · obtain ⟨y, k1, k2⟩ := hargs i x h1 h2
        rw [Array.getD_eq_getD_getElem?, k1]
        exact SRep.of_rep (E := E0) _ _ k2
      · rw [List.getElem?_map, h1] at h2
        simp only [Option.map_some, Option.some.injEq] at h2
        subst h2; simp [SRep]
    · rw [List.getElem?_append_right (by simpa [setSl_len] using hlt)] at hi
      have := List.mem_of_getElem? hi
      rw [List.mem_replicate] at this
      rw [this.2]; simp [SRep]
  obtain ⟨E1, e1, e2, e3, e4, e5, e6⟩ := internL_ok (F := fun _ => False) _ _ S [] E0 hs0 hown (fun b hb => ⟨.inr hb, (hS b hb).1, fun hA => hA.elim (hS b hb).2 fun ⟨_, h⟩ => h⟩)
  have hs : SR U w ⟨setSl mv (internL [] (mv.map fun i => args.getD i .junk)).1 args ++ List.replicate (fn.ntmps - args.length) .junk, (internL [] (mv.map fun i => args.getD i .junk)).2⟩ E1 { tmps := vals ++ Array.replicate (fn.ntmps - vals.size) undef, defers := [] } w := by
    refine ⟨e5.defers, by simp [hlen, setSl_len], fun i x hi => ?_, e5.flt, e5.tok, e5.slt, e5.sep, e5.frame, e5.pin⟩
    by_cases hlt : i < args.length
    · rw [List.getElem?_append_left (by simpa [setSl_len] using hlt)] at hi
      rcases setSl_get (by simp [internL_len]) hi with ⟨h1, h2⟩ | ⟨j, h1, h2⟩
      · obtain ⟨y, k1, k2⟩ := hargs i x h1 h2
        rw [hgetv i hlt, Array.getD_eq_getD_getElem?, k1]
        refine SRep.of_rep (E := E1) _ _ ?_
        rw [e1]; exact k2
      · rw [hgetv i hlt]
        obtain ⟨y, k1, k2⟩ := SRepL.get e6 j x h2
        rw [List.getElem?_map, h1] at k1
        simp only [Option.map_some, Option.some.injEq] at k1
        subst k1; exact k2
    · rw [List.getElem?_append_right (by simpa [setSl_len] using hlt)] at hi
      have := List.mem_of_getElem? hi
      rw [List.mem_replicate] at this
      rw [this.2]; simp [SRep]
  refine tr_awp hC hm c _ _ (h S w hlens) hck E1 _ w hs _ fun e st' E' a' w' hq hs' => ?_
  obtain ⟨he, hr⟩ := hq
  have hpost : LeavesInM Fence.wide 0 P fn a'.tmps (fun e w' => ∃ (y : Value) (S' : Nat → Prop), e = .returned y ∧ Frm S w w' ∧ (∀ b, S' b → (S b ∨ w.heap.size ≤ b) ∧ b < w'.heap.size) ∧ Own w' true (fun _ => False) S' r y) a'.defers .returning w' := by
    obtain ⟨Ds, m1, m2, m3⟩ := hs'.defers.marks rfl
    rw [m1]
    refine leaves_marks Ds w' m2 (fun D hD => (m3 D hD).2.2) fun w2 n1 n2 n3 n4 n5 => ?_
    obtain ⟨y, S', k1, k2, k3, k4⟩ := results_ok (w2 := w2) (F := fun _ => False) hC hs' (fun t b hb => n1 b fun hD => (hs'.slt t b hb).2.1 (m3 b hD).1) (by omega) hr
    exact ⟨y, k1, y, S', rfl, ⟨n3.trans hs'.frame.os, n4.trans hs'.frame.tape, n5.trans hs'.frame.output, by rw [n2]; exact hs'.frame.size, fun b hb hU => (n1 b fun hD => by have := (m3 b hD).2.1; omega).trans (hs'.frame.block b hb hU)⟩, fun b hb => ⟨(k2 b hb).symm, k3 b hb⟩, k4⟩
  rcases he with rfl | rfl
  · exact hpost
  · exact hpost
end
end Go.Proofs.YtigepnpiofcooaaGreat.Ax
namespace Go.Proofs.YtigepnpiofcooaaGreat.Ax
open Go Go.RowKit
structure Bt (U : Ld) (w0 : World) (EF : Nat → Prop) (S0 : List AV) (tmps : Array Value) (D l : Nat) (T : List Tok) (rc : Obj) (B : Nat → Prop) (W : World) : Prop where
  ex : ∃ (W2 : World) (E' : Env), (∀ i x, S0[i]? = some x → SRep W2 E' T x (tmps.getD i undef)) ∧ (∀ t tk, T[t]? = some tk → TokOk W2 { E' with F := fun _ => False } t tk) ∧
    (∀ t b, E'.S t b → B b ∧ b ≠ D ∧ b ≠ l) ∧ (∀ t t' b, t ≠ t' → E'.S t b → ¬ E'.S t' b) ∧ ∀ t, Agree (E'.S t) W2 W
  rc : W.heap[l]? = some rc
  dfr : W.heap[D]? = some (.deferred (some []))
  inB : B D ∧ B l
  ne : l ≠ D
  org : ∀ b, B b → (w0.heap.size ≤ b ∨ U b) ∧ ¬ EF b ∧ b < W.heap.size
theorem Bt.later {U : Ld} {w0 : World} {EF : Nat → Prop} {S0 : List AV} {tmps : Array Value} {D l : Nat} {T : List Tok} {rc : Obj} {B : Nat → Prop} {W W' : World} (h : Bt U w0 EF S0 tmps D l T rc B W) (hW : Frm (fun b => ¬ B b) W W') : Bt U w0 EF S0 tmps D l T rc B W' where
  ex := by
    obtain ⟨W2, E', h1, h2, h3, h4, h5⟩ := h.ex
    exact ⟨W2, E', h1, h2, h3, h4, fun t b hb => (hW.block b (h.org b (h3 t b hb).1).2.2 fun hn => hn (h3 t b hb).1).trans (h5 t b hb)⟩
  rc := (hW.block l (h.org l h.inB.2).2.2 fun hn => hn h.inB.2).trans h.rc
  dfr := (hW.block D (h.org D h.inB.1).2.2 fun hn => hn h.inB.1).trans h.dfr
  inB := h.inB
  ne := h.ne
  org b hb := ⟨(h.org b hb).1, (h.org b hb).2.1, Nat.lt_of_lt_of_le (h.org b hb).2.2 hW.size⟩
theorem Frm.comp {U V X : Nat → Prop} {w w1 w2 : World} (h : Frm U w w1) (h' : Frm V w1 w2) (hU : ∀ b, b < w.heap.size → U b → X b) (hV : ∀ b, b < w.heap.size → V b → X b) : Frm X w w2 :=
  ⟨h'.os.trans h.os, h'.tape.trans h.tape, h'.output.trans h.output, Nat.le_trans h.size h'.size, fun k hk hX => (h'.block k (Nat.lt_of_lt_of_le hk h.size) fun hv => hX (hV k hk hv)).trans (h.block k hk fun hu => hX (hU k hk hu))⟩
end Go.Proofs.YtigepnpiofcooaaGreat.Ax
namespace Go.Proofs.YtigepnpiofcooaaGreat.Ax
open Go Go.RowKit
def yv (l : Nat) : AV := .v (.func (.yield l) #[] #[])
def ldI (B0 F0 : Nat → Prop) (dt : List (Nat × RD)) : Ld := ⟨B0, [], fun _ => undef, dt, none, F0, true⟩
abbrev JTy (ι : Type) := ι → (Nat → Prop) → World → Prop
def IR {ι : Type} (w : World) (F0 B0 : Nat → Prop) (dt : List (Nat × RD)) (J : JTy ι) (i : ι) (st : ASt) (a : Act) (W : World) : Prop :=
  ∃ (E : Env) (B : Nat → Prop), SR (ldI B0 F0 dt) w st E a W ∧ J i B W ∧ ∀ b, B b → (B0 b ∨ w.heap.size ≤ b) ∧ b < W.heap.size ∧ ¬ allB E b
def TY {ι : Type} (P : Program) (w : World) (F0 B0 : Nat → Prop) (dt : List (Nat × RD)) (J : JTy ι) (c : Code) (st : ASt) (i : ι) (Q : Exit → ASt → ι → Prop) : Prop :=
  codeOk dt [] c = true → ∀ (a : Act) (W : World), IR w F0 B0 dt J i st a W → ∀ K : Exit → Act → World → Prop, (∀ e st' i' a' W', Q e st' i' → IR w F0 B0 dt J i' st' a' W' → K e a' W') → c.wpIn (fen none) 0 P K a W
section
variable {P : Program} {C : Ctx} {w : World} {F0 B0 : Nat → Prop} {dt : List (Nat × RD)} {ι : Type} {J : JTy ι} {i : ι} {st : ASt} {Q : Exit → ASt → ι → Prop}
theorem TY.weak {c : Code} {Q' : Exit → ASt → ι → Prop} (h : TY P w F0 B0 dt J c st i Q) (hq : ∀ e s i, Q e s i → Q' e s i) : TY P w F0 B0 dt J c st i Q' :=
  fun hc a W hs K hK => h hc a W hs K fun e s i' a' W' q => hK e s i' a' W' (hq e s i' q)
theorem IR.le {st' : ASt} {a : Act} {W : World} (hF : ∀ (U : Ld) (w0 : World) E a w, SR U w0 st E a w → ∃ E', SR U w0 st' E' a w ∧ ∀ b, allB E' b → allB E b) (h : IR w F0 B0 dt J i st a W) : IR w F0 B0 dt J i st' a W := by
  obtain ⟨E, B, h1, h2, h3⟩ := h
  obtain ⟨E', h4, h5⟩ := hF _ _ E a W h1
  exact ⟨E', B, h4, h2, fun b hb => ⟨(h3 b hb).1, (h3 b hb).2.1, fun h => (h3 b hb).2.2 (h5 b h)⟩⟩
mutual
def frzA (L : List Nat) (toks : List Tok) : AV → AV
  | .ref t p lo n => if L.contains t then res toks (.ref t p lo n) else .ref t p lo n
  | .ptr t p i j => if L.contains t then res toks (.ptr t p i j) else .ptr t p i j
  | .agg cs => .agg (frzAL L toks cs)
  | .tup cs => .tup (frzAL L toks cs)
  | .fn f cs => .fn f (frzAL L toks cs)
  | .v x => .v x
  | .sl nl sz es => .sl nl sz es
  | .fp e j => .fp e j
  | .junk => .junk
def frzAL (L : List Nat) (toks : List Tok) : List AV → List AV
  | [] => []
  | c :: cs => frzA L toks c :: frzAL L toks cs
end
def freeze (L : List Nat) (st : ASt) : ASt := ⟨frzAL L st.toks st.slots, sets (L.map fun t => (t, ⟨true, .junk⟩)) st.toks⟩
theorem frzAL_get {L : List Nat} {toks : List Tok} : ∀ {cs : List AV} {i : Nat}, (frzAL L toks cs)[i]? = (cs[i]?).map (frzA L toks)
  | [], _ => by simp [frzAL]
  | c :: cs, 0 => by simp [frzAL]
  | c :: cs, i + 1 => by simp only [frzAL, List.getElem?_cons_succ]; exact frzAL_get
theorem frzAL_len {L : List Nat} {toks : List Tok} : ∀ {cs : List AV}, (frzAL L toks cs).length = cs.length
  | [] => rfl
  | c :: cs => by simp [frzAL, frzAL_len (cs := cs)]
mutual
theorem SRep.freeze {w : World} {E : Env} {toks : List Tok} {L : List Nat} {E' : Env} {toks' : List Tok} (hT : ∀ t tk, toks[t]? = some tk → TokOk w E t tk) (hF : ∀ b, E.F b → E'.F b) (hS : ∀ t ∈ L, ∀ b, E.S t b → E'.F b) (hhd : E'.hd = E.hd) (hl : toks'.length = toks.length) (ht : ∀ t, t ∉ L → toks'[t]? = toks[t]?) :
    ∀ (x : AV) (y : Value), SRep w E toks x y → SRep w E' toks' (frzA L toks x) y
  | .v _, _, k => by simp only [SRep, frzA] at k ⊢; exact k
  | .agg cs, y, k => by simp only [SRep, frzA] at k ⊢; obtain ⟨ys, rfl, k⟩ := k; exact ⟨ys, rfl, SRepL.freeze hT hF hS hhd hl ht cs _ k⟩
  | .tup cs, y, k => by simp only [SRep, frzA] at k ⊢; obtain ⟨ys, rfl, k⟩ := k; exact ⟨ys, rfl, SRepL.freeze hT hF hS hhd hl ht cs _ k⟩
  | .fn f cs, y, k => by simp only [SRep, frzA] at k ⊢; obtain ⟨ys, rfl, k⟩ := k; exact ⟨ys, rfl, SRepL.freeze hT hF hS hhd hl ht cs _ k⟩
  | .sl nl sz es, y, k => by simp only [SRep, frzA] at k ⊢; exact k.weak hF (Agree.refl _ _)
  | .fp e j, y, k => by simp only [SRep, frzA] at k ⊢; exact k.weak hF (Agree.refl _ _)
  | .ref t p lo n, y, k => by
    simp only [frzA]
    by_cases hc : t ∈ L
    · rw [if_pos (by simpa using hc)]
      exact SRep.of_rep _ _ (SRep.resS hF hT _ _ (fun t' ht' => by simp [refs] at ht'; subst ht'; exact hS t' hc) k)
    · rw [if_neg (by simpa using hc)]
      simp only [SRep] at k ⊢
      refine ⟨by rw [hl]; exact k.1, fun tk nl sz es h1 h2 h3 => ?_⟩
      rw [ht t hc] at h1
      rw [hhd]
      exact k.2 tk nl sz es h1 h2 h3
  | .ptr t p i j, y, k => by
    simp only [frzA]
    by_cases hc : t ∈ L
    · rw [if_pos (by simpa using hc)]
      exact SRep.of_rep _ _ (SRep.resS hF hT _ _ (fun t' ht' => by simp [refs] at ht'; subst ht'; exact hS t' hc) k)
    · rw [if_neg (by simpa using hc)]
      simp only [SRep] at k ⊢
      refine ⟨by rw [hl]; exact k.1, fun tk nl sz es h1 h2 h3 => ?_⟩
      rw [ht t hc] at h1
      rw [hhd]
      exact k.2 tk nl sz es h1 h2 h3
  | .junk, _, _ => by simp [SRep, frzA]
theorem SRepL.freeze {w : World} {E : Env} {toks : List Tok} {L : List Nat} {E' : Env} {toks' : List Tok} (hT : ∀ t tk, toks[t]? = some tk → TokOk w E t tk) (hF : ∀ b, E.F b → E'.F b) (hS : ∀ t ∈ L, ∀ b, E.S t b → E'.F b) (hhd : E'.hd = E.hd) (hl : toks'.length = toks.length) (ht : ∀ t, t ∉ L → toks'[t]? = toks[t]?) :
    ∀ (x : List AV) (y : List Value), SRepL w E toks x y → SRepL w E' toks' (frzAL L toks x) y
  | [], _, k => by simpa [SRepL, frzAL] using k
  | c :: cs, y, k => by
    simp only [SRepL, frzAL] at k ⊢
    obtain ⟨y, ys, rfl, k1, k2⟩ := k
    exact ⟨y, ys, rfl, SRep.freeze hT hF hS hhd hl ht c y k1, SRepL.freeze hT hF hS hhd hl ht cs ys k2⟩
end
theorem sets_junk_get {L : List Nat} {toks : List Tok} {t : Nat} (h : t ∈ L) : ∀ tk, (sets (L.map fun t => (t, (⟨true, .junk⟩ : Tok))) toks)[t]? = some tk → tk.row = .junk := by
  induction L generalizing toks with
  | nil => simp at h
  | cons x L ih =>
    intro tk htk
    simp only [List.map_cons, sets] at htk
    by_cases hx : t ∈ L
    · exact ih hx tk htk
    · rw [sets_get (fun k hk => by obtain ⟨y, hy, rfl⟩ := List.mem_map.1 hk; exact fun e => hx (e ▸ hy))] at htk
      have hxt : x = t := by rcases List.mem_cons.1 h with h | h; exact h.symm; exact (hx h).elim
      subst hxt
      rw [List.getElem?_set] at htk
      simp only [if_true] at htk
      split at htk
      · simp at htk; rw [← htk]
      · simp at htk
theorem le_freeze {U : Ld} {w0 : World} {st : ASt} (L : List Nat) : Le U w0 st (freeze L st) := by
  intro E a w hs
  have hne : ∀ t, t ∉ L → (sets (L.map fun t => (t, (⟨true, .junk⟩ : Tok))) st.toks)[t]? = st.toks[t]? := fun t ht => sets_get fun k hk => by
    obtain ⟨y, hy, rfl⟩ := List.mem_map.1 hk; exact fun e => ht (e ▸ hy)
  let E' : Env := { F := fun b => E.F b ∨ ∃ t ∈ L, E.S t b, hd := E.hd, S := fun t b => t ∉ L ∧ E.S t b }
  refine ⟨E', ⟨fun hr => (hs.defers.marks hr).mono (fun _ h => .inl h) (Agree.refl _ _), hs.defers.none, fun b hb => ?_, hs.defers.gl.mono fun _ h => .inl h⟩, by simpa [freeze, frzAL_len] using hs.size, fun i x hi => ?_, fun b hb => ?_, fun t tk ht => ?_, fun t b hb => ⟨(hs.slt t b hb.2).1, ?_, (hs.slt t b hb.2).2.2⟩, fun t t' b hne hb hb' => hs.sep t t' b hne hb.2 hb'.2, hs.frame, hs.pin⟩
  · rcases hb with hb | ⟨t, _, hb⟩
    · exact hs.defers.fz b hb
    · exact .inr (hs.slt t b hb).2.2.symm
  · simp only [freeze] at hi ⊢
    rw [frzAL_get, Option.map_eq_some_iff] at hi
    obtain ⟨x0, h1, rfl⟩ := hi
    exact SRep.freeze (E' := E') hs.tokOk (fun _ h => .inl h) (fun t ht b hb => .inr ⟨t, ht, hb⟩) rfl (sets_len) hne x0 _ (hs.slot i x0 h1)
  · rcases hb with hb | ⟨t, _, hb⟩
    · exact hs.flt b hb
    · exact (hs.slt t b hb).1
  · by_cases hc : t ∈ L
    · exact .inl (sets_junk_get hc tk ht)
    · have ht' : st.toks[t]? = some tk := by rw [← hne t hc]; exact ht
      exact (hs.tokOk t tk ht').weak (E' := E') (Agree.refl _ _) (fun _ h => .inl h) rfl (fun b hb => ⟨hc, hb⟩)
  · rintro (h | ⟨t', ht', h⟩)
    · exact (hs.slt t b hb.2).2.1 h
    · exact hs.sep t t' b (fun e => hb.1 (e ▸ ht')) hb.2 h
end
end Go.Proofs.YtigepnpiofcooaaGreat.Ax
namespace Go.Proofs.YtigepnpiofcooaaGreat.Ax
open Go Go.RowKit
section
variable {P : Program} {C : Ctx}
theorem awp_rangeZ (L : List Nat) (hC : C.Ok P) (hm : P.follows .mixedOrders = true) {live : List Bool} {U : Ld} {w0 : World} (lv : List Bool) {c : Code} {st : ASt} {Q : Exit → ASt → Prop} (n : Nat) (p : Nat → Prop) (I : Nat → ASt) (hn : n ≤ 9223372036854775807)
    (h0 : sub (clean lv (freeze L st)) (I 0)) (hp : p 0)
    (hstep : ∀ k, k < n → p k → IntKind.i64.wrap ((k : Int) + 1) = (k : Int) + 1 → awp P C live U w0 c (I k) (rngS (fun s => sub (clean lv s) (I (k + 1)) ∧ p (k + 1)) Q))
    (hend : p n → awp P C live U w0 c (I n) (rngS (fun _ => False) Q)) : Tr P U w0 (.loop c) st Q := by
  refine tr_loop (α := {k : Nat // k ≤ n ∧ p k}) (fun k => I k.1) (fun k => n - k.1) ⟨0, Nat.zero_le _, hp⟩ ((le_freeze L).trans ((le_clean lv).trans (le_sub h0))) ?_
  rintro ⟨k, hk, hpk⟩
  by_cases h : k < n
  · exact (tr_awp hC hm c _ _ (hstep k h hpk (wrapI (by omega) (by omega)))).weak (andThen_mono fun s hs => ⟨⟨k + 1, h, hs.2⟩, (le_clean lv).trans (le_sub hs.1), by simp; omega⟩)
  · obtain rfl : k = n := by omega
    exact (tr_awp hC hm c _ _ (hend hpk)).weak (andThen_mono fun s hs => hs.elim)
theorem callOk_of_tr (hC : C.Ok P) {dt : List (Nat × RD)} {f : FuncId} {fn : Func} {c : Code} {args : List AV} {r : AV} (hf : P.funcs[f]? = some fn) (hb : fn.body = some c) (hname : (fn.name == "runtime.NumGoroutine") = false) (hck : codeOk dt [] c = true)
    (h : ∀ w0, Tr P (noLd dt) w0 c ⟨args ++ List.replicate (fn.ntmps - args.length) .junk, []⟩ (doneS C fn.results.toList r)) : CallOk P f args r := by
  refine ⟨⟨fn, hf, hname, by rw [hb]; rfl⟩, fun w F vals hF hvals => ?_⟩
  have hlen : vals.size = args.length := by simpa using hvals.length
  refine (callsIn_wide (n := 0)).1 (callsIn_of_wp_marks hf hb trivial ?_)
  let E : Env := { F := F, hd := fun _ => undef, S := fun _ _ => False }
  have hs : SR (noLd dt) w ⟨args ++ List.replicate (fn.ntmps - args.length) .junk, []⟩ E { tmps := vals ++ Array.replicate (fn.ntmps - vals.size) undef, defers := [] } w := by
    refine ⟨Marks.nil hF.gl (fun _ _ => .inl trivial), by simp [hlen], fun i x hi => ?_, hF.lt, fun t tk ht => by simp at ht, fun t b hb => hb.elim, fun t t' b _ hb => hb.elim, Frm.refl _ _, fun i hi => by simp [noLd] at hi⟩
    by_cases hlt : i < args.length
    · rw [List.getElem?_append_left hlt] at hi
      obtain ⟨y, h1, h2⟩ := RepL_srep (E := E) rfl hvals i x hi
      have h1' : vals[i]? = some y := by simpa using h1
      have : (vals ++ Array.replicate (fn.ntmps - vals.size) undef).getD i undef = y := by
        rw [Array.getD_eq_getD_getElem?, Array.getElem?_append_left (by omega), h1']; rfl
      rw [this]; exact h2
    · rw [List.getElem?_append_right (by omega)] at hi
      have := List.mem_of_getElem? hi
      rw [List.mem_replicate] at this
      rw [this.2]; simp [SRep]
  refine h w hck E _ w hs _ fun e st' E' a' w' hq hs' => ?_
  obtain ⟨he, hr⟩ := hq
  have hpost : LeavesInM Fence.wide 0 P fn a'.tmps (fun e w' => ∃ (y : Value) (S : Nat → Prop), e = .returned y ∧ Frm (fun _ => False) w w' ∧ (∀ b, S b → w.heap.size ≤ b ∧ b < w'.heap.size) ∧ Own w' true (fun _ => False) S r y) a'.defers .returning w' := by
    obtain ⟨Ds, m1, m2, m3⟩ := hs'.defers.marks rfl
    rw [m1]
    refine leaves_marks Ds w' m2 (fun D hD => (m3 D hD).2.2) fun w2 n1 n2 n3 n4 n5 => ?_
    obtain ⟨y, S, k1, k2, k3, k4⟩ := results_ok (w2 := w2) (F := fun _ => False) hC hs' (fun t b hb => n1 b fun hD => (hs'.slt t b hb).2.1 (m3 b hD).1) (by omega) hr
    refine ⟨y, k1, y, S, rfl, ⟨n3.trans hs'.frame.os, n4.trans hs'.frame.tape, n5.trans hs'.frame.output, by rw [n2]; exact hs'.frame.size, fun b hb hU => (n1 b fun hD => by have := (m3 b hD).2.1; omega).trans (hs'.frame.block b hb hU)⟩, fun b hb => ⟨(k2 b hb).resolve_right id, k3 b hb⟩, k4⟩
  rcases he with rfl | rfl
  · exact hpost
  · exact hpost
theorem andThen_n {N : ASt → Prop} {Q : Exit → ASt → Prop} {s : ASt} : andThen N Q .normal s = N s := rfl
theorem callOk_awpZ (L : List Nat) (hC : C.Ok P) (hm : P.follows .mixedOrders = true) {live : List Bool} {dt : List (Nat × RD)} {f : FuncId} {fn : Func} {c0 c1 : Code} {args : List AV} {r : AV} (hf : P.funcs[f]? = some fn) (hb : fn.body = some (.seq c0 c1)) (hname : (fn.name == "runtime.NumGoroutine") = false) (hck : codeOk dt [] (.seq c0 c1) = true)
    (h : ∀ w0, lensL args → awp P C live (noLd dt) w0 c0 ⟨args ++ List.replicate (fn.ntmps - args.length) .junk, []⟩ (andThen (fun s => awp P C live (noLd dt) w0 c1 (freeze L s) (doneS C fn.results.toList r)) (doneS C fn.results.toList r))) : CallOk P f args r := by
  by_cases hl : lensL args
  · exact callOk_of_tr hC hf hb hname hck fun w0 => tr_seq ((tr_awp hC hm c0 _ _ (h w0 hl)).weak (andThen_mono fun s hs => (tr_awp hC hm c1 _ _ hs).pre (le_freeze L)))
  · refine ⟨⟨fn, hf, hname, by rw [hb]; rfl⟩, fun w F vals hF hvals => (hl (RepL.lens _ _ hvals)).elim⟩
end
end Go.Proofs.YtigepnpiofcooaaGreat.Ax
namespace Go.Proofs.YtigepnpiofcooaaGreat.Ax
open Go Go.RowKit
section
variable {P : Program} {C : Ctx}
theorem frzOk_of_tr (hC : C.Ok P) {dt : List (Nat × RD)} {f : FuncId} {fn : Func} {c : Code} {args : List AV} {r : AV} (hf : P.funcs[f]? = some fn) (hb : fn.body = some c) (hname : (fn.name == "runtime.NumGoroutine") = false) (hck : codeOk dt [] c = true)
    (h : ∀ A w0, Tr P (frzLd A dt) w0 c ⟨args ++ List.replicate (fn.ntmps - args.length) .junk, []⟩ (doneF C fn.results.toList r)) : FrzOk P f args true r := by
  refine ⟨⟨fn, hf, hname, by rw [hb]; rfl⟩, fun w F vals hF hvals => ?_⟩
  have hlen : vals.size = args.length := by simpa using hvals.length
  refine (callsIn_wide (n := 0)).1 (callsIn_of_wp_marks hf hb trivial ?_)
  let E : Env := { F := F, hd := fun _ => undef, S := fun _ _ => False }
  have hs : SR (frzLd F dt) w ⟨args ++ List.replicate (fn.ntmps - args.length) .junk, []⟩ E { tmps := vals ++ Array.replicate (fn.ntmps - vals.size) undef, defers := [] } w := by
    refine ⟨Marks.nil hF.gl (fun _ h => .inl h), by simp [hlen], fun i x hi => ?_, hF.lt, fun t tk ht => by simp at ht, fun t b hb => hb.elim, fun t t' b _ hb => hb.elim, Frm.refl _ _, fun i hi => by simp [frzLd] at hi⟩
    by_cases hlt : i < args.length
    · rw [List.getElem?_append_left hlt] at hi
      obtain ⟨y, h1, h2⟩ := RepL_srep (E := E) rfl hvals i x hi
      have h1' : vals[i]? = some y := by simpa using h1
      have : (vals ++ Array.replicate (fn.ntmps - vals.size) undef).getD i undef = y := by
        rw [Array.getD_eq_getD_getElem?, Array.getElem?_append_left (by omega), h1']; rfl
      rw [this]; exact h2
    · rw [List.getElem?_append_right (by omega)] at hi
      have := List.mem_of_getElem? hi
      rw [List.mem_replicate] at this
      rw [this.2]; simp [SRep]
  refine h F w hck E _ w hs _ fun e st' E' a' w' hq hs' => ?_
  obtain ⟨he, hr⟩ := hq
  have hpost : LeavesInM Fence.wide 0 P fn a'.tmps (fun e w' => ∃ (y : Value) (F' : Nat → Prop), e = .returned y ∧ Frm (fun _ => False) w w' ∧ (∀ b, F' b → ((true = true ∧ F b) ∨ w.heap.size ≤ b) ∧ b < w'.heap.size) ∧ Rep w' F' r y) a'.defers .returning w' := by
    rw [hs'.defers.none rfl]
    obtain ⟨q, h1, h2⟩ := Option.map_eq_some_iff.1 hr
    obtain ⟨ys, g1, g2⟩ := resVarsF_ok hC hs' _ q h1
    have hrun : (results fn a'.tmps).run P w' = .ok (if h : ys.toArray.size = 1 then ys.toArray[0] else .tuple ys.toArray) w' := by
      rw [results_eq, Sem.run_bind, Array.mapM_eq_mapM_toList, Sem.run_map, g1]
      rfl
    refine ⟨_, hrun, _, allB E', rfl, hs'.frame, fun b hb => ⟨?_, hs'.allLt b hb⟩, by rw [← h2]; exact packF_ok g2⟩
    rcases hb with hb | ⟨t, hb⟩
    · rcases hs'.defers.fz b hb with h | h | h
      · exact .inl ⟨rfl, h⟩
      · exact h.elim
      · exact .inr h
    · rcases (hs'.slt t b hb).2.2 with h | h
      · exact .inr h
      · exact h.elim
  rcases he with rfl | rfl
  · exact hpost
  · exact hpost
theorem frzOk_awp4 (L : List Nat) (hC : C.Ok P) (hm : P.follows .mixedOrders = true) {live : List Bool} {dt : List (Nat × RD)} {f : FuncId} {fn : Func} {c0 c1 c2 c3 c4 : Code} {args : List AV} {r : AV} (hf : P.funcs[f]? = some fn) (hb : fn.body = some (.seq c0 (.seq c1 (.seq c2 (.seq c3 c4))))) (hname : (fn.name == "runtime.NumGoroutine") = false) (hck : codeOk dt [] (.seq c0 (.seq c1 (.seq c2 (.seq c3 c4)))) = true)
    (h : ∀ A w0, lensL args → awp P C live (frzLd A dt) w0 c0 ⟨args ++ List.replicate (fn.ntmps - args.length) .junk, []⟩ (andThen (fun s => awp P C live (frzLd A dt) w0 c1 s (andThen (fun s => awp P C live (frzLd A dt) w0 c2 s (andThen (fun s => awp P C live (frzLd A dt) w0 c3 s
      (andThen (fun s => awp P C live (frzLd A dt) w0 c4 (freeze L s) (doneF C fn.results.toList r)) (doneF C fn.results.toList r))) (doneF C fn.results.toList r))) (doneF C fn.results.toList r))) (doneF C fn.results.toList r))) : FrzOk P f args true r := by
  by_cases hl : lensL args
  · refine frzOk_of_tr hC hf hb hname hck fun A w0 => tr_seq ((tr_awp hC hm c0 _ _ (h A w0 hl)).weak (andThen_mono fun s hs => ?_))
    refine tr_seq ((tr_awp hC hm c1 _ _ hs).weak (andThen_mono fun s hs => ?_))
    refine tr_seq ((tr_awp hC hm c2 _ _ hs).weak (andThen_mono fun s hs => ?_))
    refine tr_seq ((tr_awp hC hm c3 _ _ hs).weak (andThen_mono fun s hs => ?_))
    exact (tr_awp hC hm c4 _ _ hs).pre (le_freeze L)
  · refine ⟨⟨fn, hf, hname, by rw [hb]; rfl⟩, fun w F vals hF hvals => (hl (RepL.lens _ _ hvals)).elim⟩
end
end Go.Proofs.YtigepnpiofcooaaGreat.Ax
namespace Go.Proofs.YtigepnpiofcooaaGreat.Ax
open Go Go.RowKit
section
variable {P : Program} {C : Ctx}
theorem le_out {U : Ld} {w0 : World} {st : ASt} (i k : Nat) {q : Nat × Nat} {p : List (Nat × Nat)} {n : Nat} {tk : Tok} {nl : Bool} {sz : Nat} {es : List AV} (hx : st.slots[i]? = some (.ref k (q :: p) 0 n)) (htk : st.toks[k]? = some tk) (hd : tk.deep = true)
    (hg : getAt tk.row (q :: p) = .sl nl sz es) (hn : n = es.length) :
    Le U w0 st ⟨(st.slots.map (killN k)).set i (.ref st.toks.length [] 0 n), st.toks.set k ⟨true, setAt tk.row (q :: p) .junk⟩ ++ [⟨true, .sl nl sz es⟩]⟩ := fun _ _ _ hs => hs.uproot hx htk hd hg (by simp) hn (.inl rfl)
end
end Go.Proofs.YtigepnpiofcooaaGreat.Ax
namespace Go.Proofs.YtigepnpiofcooaaGreat.Ax
open Go Go.RowKit
section
variable {P : Program} {w : World}
end
section
variable {P : Program} {C : Ctx} {o : Oper} {a : Act} {w : World} {U : Ld} {w0 : World} {st : ASt} {E : Env}
def Ld.pinned (U : Ld) (d : Nat) (v : Value) : Ld := { U with idx := d :: U.idx, pin := fun i => if i = d then v else U.pin i }
theorem SR.pinned {d : Nat} (hs : SR U w0 st E a w) (_hd : d ∉ U.idx) {v : Value} (hv : a.tmps.getD d undef = v) : SR (U.pinned d v) w0 st E a w :=
  ⟨⟨hs.defers.marks, hs.defers.none, hs.defers.fz, hs.defers.gl⟩, hs.size, hs.slot, hs.flt, hs.tok, hs.slt, hs.sep, hs.frame, fun i hi => by
    simp only [Ld.pinned, List.mem_cons] at hi ⊢
    by_cases e : i = d
    · rw [if_pos e, e]; exact hv
    · rw [if_neg e]; exact hs.pin i (hi.resolve_left e)⟩
theorem rrun_okS (hC : C.Ok P) {ops : Array Oper} {Q : Exit → Act → World → Prop} (ro : Option Nat) {fin : ASt} {rest : List Nat} (hQ : ∀ E' a' w', SR U w0 fin E' a' w' → wpOpsIn (fen ro) 0 P ops Q rest a' w') : ∀ (l : List Oper) (k : Nat) (st : ASt) (E : Env) (a : Act) (w : World), (∀ j, j < l.length → l[j]? = ops[k + j]?) → (∀ oj ∈ l, ∀ e, oj.dst = some e → e ∉ U.idx) →
    SR U w0 st E a w → rrun C ops.toList l st = some fin → wpOpsIn (fen ro) 0 P ops Q (List.range' k l.length ++ rest) a w
  | [], _, st, E, a, w, _, _, hs, h => by
    simp only [rrun, Option.some.injEq] at h
    subst h
    simpa using hQ E a w hs
  | o :: l, k, st, E, a, w, hl, hds, hs, h => by
    simp only [rrun] at h
    split at h
    · rename_i st' hst
      have hi : ops[k]? = some o := by have := hl 0 (by simp); simp at this; exact this.symm
      simp only [List.length_cons, List.range'_succ, List.cons_append]
      rw [wpOpsIn_cons]
      refine rstep_ok hC hi (hds o (by simp)) hs hst ro fun E' a' w' hs' => ?_
      exact rrun_okS hC ro hQ l (k + 1) st' E' a' w' (fun j hj => by have := hl (j + 1) (by simpa using hj); simp at this; rw [this]; congr 1; omega) (fun oj hoj => hds oj (by simp [hoj])) hs' h
    · simp at h
theorem rrun_end (hC : C.Ok P) {ops : Array Oper} {K : Exit → Act → World → Prop} (ro : Option Nat) {fin : ASt} (hQ : ∀ E' a' w', SR U w0 fin E' a' w' → K .normal a' w') (l : List Oper) (k : Nat) (hl : ∀ j, j < l.length → l[j]? = ops[k + j]?) (hds : ∀ oj ∈ l, ∀ e, oj.dst = some e → e ∉ U.idx)
    (hs : SR U w0 st E a w) (h : rrun C ops.toList l st = some fin) : wpOpsIn (fen ro) 0 P ops K (List.range' k l.length) a w := by
  have := rrun_okS (rest := []) hC ro (fun E' a' w' hs' => by simpa [wpOpsIn] using hQ E' a' w' hs') l k st E a w hl hds hs h
  simpa using this
theorem tr_loop_of (_hC : C.Ok P) (_hm : P.follows .mixedOrders = true) (lv : List Bool) {c : Code} {Q : Exit → ASt → Prop} {α : Type} (I : α → ASt) (μ : α → Nat) (x0 : α) (h0 : sub (clean lv st) (I x0))
    (hstep : ∀ x, Tr P U w0 c (I x) (andThen (fun s => ∃ y, sub (clean lv s) (I y) ∧ μ y < μ x) Q)) : Tr P U w0 (.loop c) st Q :=
  tr_loop I μ x0 ((le_clean lv).trans (le_sub h0)) fun x => (hstep x).weak (andThen_mono fun s hs => by
    obtain ⟨y, h1, h2⟩ := hs
    exact ⟨y, (le_clean lv).trans (le_sub h1), h2⟩)
end
section
variable {P : Program} {C : Ctx}
end
end Go.Proofs.YtigepnpiofcooaaGreat.Ax
namespace Go.Proofs.YtigepnpiofcooaaGreat.Ax
open Go Go.RowKit
def slB : AV → Bool
  | .sl _ _ _ => true
  | _ => false
section
variable {w : World} {d : Bool} {F : Nat → Prop} {b : Nat}
theorem Own.sl_cells {S : Nat → Prop} {e : AV} {x : Value} (he : slB e = true) (h : Own w d F S e x) : x.oneCell' = true ∧ x.cells = #[x] := by
  cases e with
  | sl nl sz es =>
    simp only [Own, Rep] at h
    rcases h with ⟨a, l, c, rfl, _⟩ | ⟨_, a, l, c, rfl, _⟩ <;> exact ⟨rfl, rfl⟩
  | _ => simp [slB] at he
theorem slB_cells {e : AV} (he : slB e = true) : e.cells = [e] := by cases e <;> first | rfl | simp [slB] at he
theorem OwnRow.heads : ∀ {S : Nat → Prop} {o : Nat} {es : List AV}, es.all slB = true → OwnRow w d F S b 1 o es → ∃ hs : List Value, OwnL w d F S es hs ∧ hs.length = es.length ∧ At w b o hs ∧ ∀ h ∈ hs, h.oneCell' = true ∧ h.cells = #[h]
  | _, _, [], _, _ => ⟨[], by simp [OwnL], rfl, fun j y h => by simp at h, by simp⟩
  | S, o, e :: es, ha, h => by
    simp only [List.all_cons, Bool.and_eq_true] at ha
    simp only [OwnRow] at h
    obtain ⟨x, S1, S2, h1, h2, h3, k1, k2, k2', k3, k4⟩ := h
    obtain ⟨hs, g1, g2, g3, g4⟩ := OwnRow.heads ha.2 k4
    obtain ⟨c1, c2⟩ := Own.sl_cells ha.1 k1
    refine ⟨x :: hs, ?_, by simp [g2], fun j y hj => ?_, fun h hh => ?_⟩
    · simp only [OwnL]; exact ⟨x, hs, S1, S2, rfl, h1, h2, h3, k1, g1⟩
    · cases j with
      | zero =>
        simp at hj; subst hj
        exact k3 0 _ (by rw [c2]; simp)
      | succ j =>
        have := g3 j y (by simpa using hj)
        rwa [show o + (j + 1) = o + 1 + j by omega]
    · rcases List.mem_cons.1 hh with rfl | hh
      · exact ⟨c1, c2⟩
      · exact g4 h hh
theorem OwnRow.of_heads : ∀ {S : Nat → Prop} {o : Nat} {es : List AV} {hs : List Value}, es.all slB = true → OwnL w d F S es hs → At w b o hs → OwnRow w d F S b 1 o es
  | _, _, [], _, _, _, _ => by simp [OwnRow]
  | S, o, e :: es, hs, ha, h, hat => by
    simp only [List.all_cons, Bool.and_eq_true] at ha
    simp only [OwnL] at h
    obtain ⟨x, hs, S1, S2, rfl, h1, h2, h3, k1, k2⟩ := h
    obtain ⟨c1, c2⟩ := Own.sl_cells ha.1 k1
    simp only [OwnRow]
    refine ⟨x, S1, S2, h1, h2, h3, k1, by rw [c2]; rfl, by rw [slB_cells ha.1]; rfl, fun j y hj => ?_, OwnRow.of_heads ha.2 k2 fun j y hj => ?_⟩
    · rw [c2] at hj
      cases j with
      | zero => exact hat 0 y (by simpa using hj)
      | succ j => simp at hj
    · have := hat (j + 1) y (by simpa using hj)
      rwa [show o + (j + 1) = o + 1 + j by omega] at this
theorem OwnRow.bare : ∀ {S : Nat → Prop} {o : Nat} {hs : List Value}, (∀ h ∈ hs, h.oneCell' = true ∧ h.cells = #[h]) → At w b o hs → OwnRow w d F S b 1 o (hs.map .v)
  | _, _, [], _, _ => by simp [OwnRow]
  | S, o, x :: hs, hc, hat => by
    obtain ⟨c1, c2⟩ := hc x (by simp)
    simp only [List.map_cons, OwnRow]
    refine ⟨x, fun _ => False, fun _ => False, fun _ h => h.elim, fun _ h => h.elim, fun _ h => h.elim, by simp [Own, c1], by rw [c2]; rfl, rfl, fun j y hj => ?_, OwnRow.bare (fun h hh => hc h (by simp [hh])) fun j y hj => ?_⟩
    · rw [c2] at hj
      cases j with
      | zero => exact hat 0 y (by simpa using hj)
      | succ j => simp at hj
    · have := hat (j + 1) y (by simpa using hj)
      rwa [show o + (j + 1) = o + 1 + j by omega] at this
theorem OwnRow.bare_at : ∀ {S : Nat → Prop} {o : Nat} {hs : List Value}, (∀ h ∈ hs, h.cells = #[h]) → OwnRow w d F S b 1 o (hs.map .v) → At w b o hs
  | _, _, [], _, _ => fun j y h => by simp at h
  | S, o, x :: hs, hc, h => by
    simp only [List.map_cons, OwnRow] at h
    obtain ⟨z, S1, S2, h1, h2, h3, k1, k2, k2', k3, k4⟩ := h
    simp only [Own] at k1
    obtain ⟨rfl, _⟩ := k1
    have ih := OwnRow.bare_at (fun h hh => hc h (by simp [hh])) k4
    have c2 := hc z (by simp)
    intro j y hj
    cases j with
    | zero =>
      simp at hj; subst hj
      exact k3 0 _ (by rw [c2]; simp)
    | succ j =>
      have := ih j y (by simpa using hj)
      rwa [show o + (j + 1) = o + 1 + j by omega]
theorem OwnL.swap {x y : AV} {es2 : List AV} : ∀ {es1 : List AV} {S : Nat → Prop} {hs : List Value}, OwnL w d F S (es1 ++ x :: y :: es2) hs → ∃ A1 hx hy A2, hs = A1 ++ hx :: hy :: A2 ∧ A1.length = es1.length ∧ OwnL w d F S (es1 ++ y :: x :: es2) (A1 ++ hy :: hx :: A2)
  | [], S, hs, h => by
    simp only [List.nil_append, OwnL] at h
    obtain ⟨hx, r, S1, S2, rfl, h1, h2, h3, k1, hy, A2, S3, S4, rfl, g1, g2, g3, k2, k3⟩ := h
    refine ⟨[], hx, hy, A2, rfl, rfl, ?_⟩
    simp only [List.nil_append, OwnL]
    refine ⟨hy, _, S3, fun b => S1 b ∨ S4 b, rfl, fun b hb => h2 b (g1 b hb), fun b hb => hb.elim (h1 b) fun hb => h2 b (g2 b hb), fun b hb hb' => ?_, k2, hx, A2, S1, S4, rfl, fun b hb => .inl hb, fun b hb => .inr hb, fun b hb hb' => h3 b hb (g2 b hb'), k1, k3⟩
    rcases hb' with hb' | hb'
    · exact h3 b hb' (g1 b hb)
    · exact g3 b hb hb'
  | e :: es1, S, hs, h => by
    simp only [List.cons_append, OwnL] at h
    obtain ⟨z, r, S1, S2, rfl, h1, h2, h3, k1, k2⟩ := h
    obtain ⟨A1, hx, hy, A2, rfl, g1, g2⟩ := OwnL.swap k2
    refine ⟨z :: A1, hx, hy, A2, rfl, by simp [g1], ?_⟩
    simp only [List.cons_append, OwnL]
    exact ⟨z, _, S1, S2, rfl, h1, h2, h3, k1, g2⟩
end
def ldB (U : Ld) (w0 : World) (E : Env) (N : Nat → Prop) : Ld := ⟨fun b => ∃ t, E.S t b, U.idx, U.pin, U.dt, U.ro, fun b => (U.A b ∨ U.U b ∨ w0.heap.size ≤ b) ∧ ¬ N b, true⟩
section
variable {P : Program} {U : Ld} {w0 w : World} {st : ASt} {E : Env} {a : Act} {N : Nat → Prop}
theorem SR.baseB (hs : SR U w0 st E a w) (hnm : U.nm = true) (hN : ∀ b, N b → ¬ E.F b) : SR (ldB U w0 E N) w st E a w := by
  have hn := hs.defers.none hnm
  exact ⟨⟨fun _ => by rw [hn]; exact MarksD.nil, fun _ => hn, fun b hb => .inl ⟨hs.defers.fz b hb, fun h => hN b h hb⟩, hs.defers.gl⟩, hs.size, hs.slot, hs.flt, hs.tok, fun t b hb => ⟨(hs.slt t b hb).1, (hs.slt t b hb).2.1, .inr ⟨t, hb⟩⟩, hs.sep, Frm.refl _ _, hs.pin⟩
theorem SR.unbaseB (hs : SR U w0 st E a w) {st' : ASt} {E' : Env} {a' : Act} {w' : World} (h : SR (ldB U w0 E N) w st' E' a' w') : SR U w0 st' E' a' w' := by
  have hn := h.defers.none rfl
  have hsz := hs.frame.size
  have hSU : ∀ t b, E.S t b → w0.heap.size ≤ b ∨ U b := fun t b hb => (hs.slt t b hb).2.2
  refine ⟨⟨fun _ => by rw [hn]; exact MarksD.nil, fun _ => hn, fun b hb => ?_, h.defers.gl⟩, h.size, h.slot, h.flt, h.tok, fun t b hb => ⟨(h.slt t b hb).1, (h.slt t b hb).2.1, ?_⟩, h.sep, ⟨h.frame.os.trans hs.frame.os, h.frame.tape.trans hs.frame.tape, h.frame.output.trans hs.frame.output, Nat.le_trans hsz h.frame.size, fun k hk hU => ?_⟩, h.pin⟩
  · rcases h.defers.fz b hb with h1 | ⟨t, ht⟩ | h1
    · exact h1.1
    · rcases hSU t b ht with h2 | h2
      · exact .inr (.inr h2)
      · exact .inr (.inl h2)
    · exact .inr (.inr (by omega))
  · rcases (h.slt t b hb).2.2 with h1 | ⟨t', ht'⟩
    · exact .inl (by omega)
    · exact hSU t' b ht'
  · rw [h.frame.block k (by omega) (fun ⟨t, ht⟩ => by
      rcases hSU t k ht with h2 | h2
      · omega
      · exact hU h2)]
    exact hs.frame.block k hk hU
theorem rowSlots {E' : Env} {toks : List Tok} {w' : World} {k : Nat} {d d' : Bool} {nl : Bool} {sz : Nat} {es es' : List AV} (hk : toks[k]? = some ⟨d, .sl nl sz es⟩) (hlen : es'.length = es.length) (hF : Agree E.F w w') (hFF : ∀ b, E.F b → E'.F b)
    (hhd : ∀ t, E'.hd t = E.hd t) (hA : ∀ t, t ≠ k → ∀ tk, toks[t]? = some tk → ∀ p, follow w' tk.row (E.hd t) p = follow w tk.row (E.hd t) p) (x : AV) (y : Value) (h : SRep w E toks x y) : SRep w' E' (toks.set k ⟨d', .sl nl sz es'⟩) (killN k x) y := by
  have hkl : k < toks.length := (List.getElem?_eq_some_iff.1 hk).1
  have hself : (toks.set k ⟨d', .sl nl sz es'⟩)[k]? = some ⟨d', .sl nl sz es'⟩ := List.getElem?_set_self hkl
  refine SRep.chgN hF hFF (fun t p lo n y hn h => ?_) (fun t p i j y hn h => ?_) x y h
  · refine ⟨by simpa using h.1, fun tk nl' sz' es'' h1 h2 h3 => ?_⟩
    by_cases e : t = k
    · subst e
      have hp : p = [] := Classical.byContradiction fun hp => hn ⟨rfl, hp⟩
      subst hp
      rw [hself] at h1
      obtain rfl := Option.some.inj h1
      simp only [getAt, AV.sl.injEq] at h2
      obtain ⟨rfl, rfl, rfl⟩ := h2
      obtain ⟨h', g1, g2⟩ := h.2 _ nl sz es hk (by simp [getAt]) (by omega)
      exact ⟨h', by rw [hhd]; simpa [follow] using g1, g2⟩
    · rw [List.getElem?_set_ne (fun h => e h.symm)] at h1
      obtain ⟨h', g1, g2⟩ := h.2 tk nl' sz' es'' h1 h2 h3
      exact ⟨h', by rw [hhd, hA t e tk h1 p]; exact g1, g2⟩
  · refine ⟨by simpa using h.1, fun tk nl' sz' es'' h1 h2 h3 => ?_⟩
    by_cases e : t = k
    · subst e
      have hp : p = [] := Classical.byContradiction fun hp => hn ⟨rfl, hp⟩
      subst hp
      rw [hself] at h1
      obtain rfl := Option.some.inj h1
      simp only [getAt, AV.sl.injEq] at h2
      obtain ⟨rfl, rfl, rfl⟩ := h2
      obtain ⟨b, o, hl, hc, g1, g2⟩ := h.2 _ nl sz es hk (by simp [getAt]) (by omega)
      exact ⟨b, o, hl, hc, by rw [hhd]; simpa [follow] using g1, g2⟩
    · rw [List.getElem?_set_ne (fun h => e h.symm)] at h1
      obtain ⟨b, o, hl, hc, g1, g2⟩ := h.2 tk nl' sz' es'' h1 h2 h3
      exact ⟨b, o, hl, hc, by rw [hhd, hA t e tk h1 p]; exact g1, g2⟩
theorem tr_swap {c : Code} {Q : Exit → ASt → Prop} (k : Nat) {nl : Bool} {es1 es2 : List AV} {x y : AV} {slots2 : List AV} (hnm : U.nm = true) (htk : st.toks[k]? = some ⟨true, .sl nl 1 (es1 ++ x :: y :: es2)⟩) (hsl : (es1 ++ x :: y :: es2).all slB = true)
    (h : ∀ (V : Ld) (v0 : World) (A1 A2 : List Value) (hx hy : Value), V.dt = U.dt → V.idx = U.idx → V.ro = U.ro → A1.length = es1.length → A2.length = es2.length → (∀ z ∈ A1 ++ hx :: hy :: A2, z.oneCell' = true ∧ z.cells = #[z]) →
      Tr P V v0 c ⟨st.slots.map (killN k), st.toks.set k ⟨true, .sl nl 1 ((A1 ++ hx :: hy :: A2).map .v)⟩⟩ (fun e s => e = .normal ∧ sub s ⟨slots2, st.toks.set k ⟨true, .sl nl 1 ((A1 ++ hy :: hx :: A2).map .v)⟩⟩))
    (hQ : Q .normal ⟨slots2.map (killN k), st.toks.set k ⟨true, .sl nl 1 (es1 ++ y :: x :: es2)⟩⟩) : Tr P U w0 c st Q := by
  intro hck E a w hs K hK
  have hkl : k < st.toks.length := (List.getElem?_eq_some_iff.1 htk).1
  rcases hs.tok k _ htk with hj | ⟨nl', sz', es', hr, hex⟩
  · simp at hj
  simp only [AV.sl.injEq] at hr
  obtain ⟨rfl, rfl, rfl⟩ := hr
  obtain ⟨ad, len, cap, hhd, hl, hle, hcap, h4⟩ := hex
  rcases h4 with ⟨_, _, hl0, _⟩ | ⟨b, o, cs, T, rfl, hnl, hSb, hh, hfit, hrow⟩
  · rw [hl0] at hl; simp at hl
  obtain ⟨hsv, g1, g2, g3, g4⟩ := OwnRow.heads hsl hrow
  obtain ⟨A1, hx, hy, A2, rfl, e1, g5⟩ := OwnL.swap g1
  have e2 : A2.length = es2.length := by simp at g2; omega
  have hlb : ((A1 ++ hx :: hy :: A2).map AV.v).length = (es1 ++ x :: y :: es2).length := by simp [e1, e2]
  obtain ⟨E1, f1, f2, f3, f4, f5, hs1⟩ := hs.setTok' (slots := st.slots) (toks := st.toks) (slots' := st.slots.map (killN k)) (tk' := ⟨true, .sl nl 1 ((A1 ++ hx :: hy :: A2).map .v)⟩) htk (E.hd k) (fun z => E.S k z ∧ z = b) (Frm.refl _ _) (fun z hz => .inl hz.1)
    (.inr ⟨nl, 1, _, rfl, _, len, cap, hhd, by rw [hlb]; exact hl, hle, hcap, .inr ⟨b, o, cs, T, rfl, hnl, ⟨hSb, rfl⟩, hh, hfit, OwnRow.bare g4 g3⟩⟩) (by simp) (fun E' q1 q2 q3 _ i z hz => by
      rw [List.getElem?_map] at hz
      obtain ⟨z0, hz0, rfl⟩ := Option.map_eq_some_iff.1 hz
      exact rowSlots htk hlb (Agree.refl _ _) (fun b hb => by rw [q1]; exact hb) (fun t => by by_cases e : t = k; subst e; exact q2; exact q3 t e) (fun _ _ _ _ _ => rfl) z0 _ (hs.slot i z0 hz0))
  have hN : ∀ z, (E.S k z ∧ z ≠ b) → ¬ E1.F z := fun z hz => by rw [f1]; exact (hs.slt k z hz.1).2.1
  have hNS : ∀ z, (E.S k z ∧ z ≠ b) → ∀ t, ¬ E1.S t z := fun z hz t ht => by
    by_cases e : t = k
    · subst e; rw [f5] at ht; exact hz.2 ht.2
    · rw [f4 t e] at ht; exact hs.sep t k z e ht hz.1
  have hb := hs1.baseB hnm hN
  refine h (ldB U w0 E1 fun z => E.S k z ∧ z ≠ b) w A1 A2 hx hy rfl rfl rfl e1 e2 g4 hck E1 a w hb K fun e s E2 a2 w2 hq hs2 => ?_
  obtain ⟨rfl, hsub⟩ := hq
  obtain ⟨E3, hs3⟩ := le_sub hsub E2 a2 w2 hs2
  have hu := hs1.unbaseB hs3
  have hself : (st.toks.set k ⟨true, .sl nl 1 ((A1 ++ hy :: hx :: A2).map .v)⟩)[k]? = some ⟨true, .sl nl 1 ((A1 ++ hy :: hx :: A2).map .v)⟩ := List.getElem?_set_self hkl
  rcases hu.tok k _ hself with hj | ⟨nl', sz', es', hr, hex⟩
  · simp at hj
  simp only [AV.sl.injEq] at hr
  obtain ⟨rfl, rfl, rfl⟩ := hr
  obtain ⟨ad, len2, cap2, hhd2, hl2, hle2, hcap2, h4⟩ := hex
  rcases h4 with ⟨_, _, hl0, _⟩ | ⟨b2, o2, cs2, T2, rfl, hnl2, hSb2, hh2, hfit2, hrow2⟩
  · rw [hl0] at hl2; simp at hl2
  have hat2 : At w2 b2 o2 (A1 ++ hy :: hx :: A2) := OwnRow.bare_at (fun z hz => (g4 z (by simp at hz ⊢; rcases hz with h | h | h | h <;> simp [h])).2) hrow2
  have hNs : ∀ z, (E.S k z ∧ z ≠ b) → z < w.heap.size := fun z hz => (hs.slt k z hz.1).1
  have hNE : ∀ z, (E.S k z ∧ z ≠ b) → ∀ t, ¬ E3.S t z := fun z hz t ht => by
    rcases (hs3.slt t z ht).2.2 with h1 | ⟨t', ht'⟩
    · have := hNs z hz; omega
    · exact hNS z hz t' ht'
  have hNF : ∀ z, (E.S k z ∧ z ≠ b) → ¬ E3.F z := fun z hz hf => by
    rcases hs3.defers.fz z hf with h1 | ⟨t', ht'⟩ | h1
    · exact h1.2 hz
    · exact hNS z hz t' ht'
    · have := hNs z hz; omega
  have hNw : ∀ z, (E.S k z ∧ z ≠ b) → w2.heap[z]? = w.heap[z]? := fun z hz => hs3.frame.block z (hNs z hz) fun ⟨t', ht'⟩ => hNS z hz t' ht'
  have hlc : (es1 ++ y :: x :: es2).length = ((A1 ++ hy :: hx :: A2).map AV.v).length := by simp [e1, e2]
  have hsl2 : (es1 ++ y :: x :: es2).all slB = true := by
    simp only [List.all_append, List.all_cons, Bool.and_eq_true] at hsl ⊢
    exact ⟨hsl.1, hsl.2.2.1, hsl.2.1, hsl.2.2.2⟩
  have hown2 : OwnL w2 true E3.F (fun z => (E3.S k z ∨ (E.S k z ∧ z ≠ b)) ∧ z ≠ b2) (es1 ++ y :: x :: es2) (A1 ++ hy :: hx :: A2) := by
    have q := OwnL.agree (F := fun _ => False) (F' := E3.F) (w := w) (w' := w2) (d := true) (fun _ h => h.elim) (fun _ h => h.elim) (S := fun z => E.S k z ∧ z ≠ b) (S' := fun z => (E3.S k z ∨ (E.S k z ∧ z ≠ b)) ∧ z ≠ b2) (fun z hz => ⟨.inr hz, fun e => hNE z hz k (by rw [e]; exact hSb2)⟩) (fun z hz => hNw z hz) _ _ (OwnL.deepF _ _ g5)
    exact q
  obtain ⟨E4, q1, q2, q3, q4, q5, hs4⟩ := hu.setTok' (slots := slots2) (toks := st.toks.set k ⟨true, .sl nl 1 ((A1 ++ hy :: hx :: A2).map .v)⟩) (slots' := slots2.map (killN k)) (tk' := ⟨true, .sl nl 1 (es1 ++ y :: x :: es2)⟩) hself (E3.hd k) (fun z => E3.S k z ∨ (E.S k z ∧ z ≠ b)) (Frm.refl _ _)
    (fun z hz => hz.imp id fun hz => ⟨(hs.slt k z hz.1).2.2, Nat.lt_of_lt_of_le (hNs z hz) hs3.frame.size, fun hA => hA.elim (hNF z hz) fun ⟨t, ht⟩ => hNE z hz t ht⟩)
    (.inr ⟨nl, 1, _, rfl, _, len2, cap2, hhd2, by rw [hlc]; exact hl2, hle2, hcap2, .inr ⟨b2, o2, cs2, T2, rfl, hnl2, .inl hSb2, hh2, hfit2, OwnRow.of_heads hsl2 hown2 hat2⟩⟩) (by simp) (fun E' q1 q2 q3 _ i z hz => by
      rw [List.getElem?_map] at hz
      obtain ⟨z0, hz0, rfl⟩ := Option.map_eq_some_iff.1 hz
      exact rowSlots hself hlc (Agree.refl _ _) (fun b hb => by rw [q1]; exact hb) (fun t => by by_cases e : t = k; subst e; exact q2; exact q3 t e) (fun _ _ _ _ _ => rfl) z0 _ (hu.slot i z0 hz0))
  rw [List.set_set] at hs4
  exact hK _ _ E4 a2 w2 hQ hs4
end
def outO (C : Ctx) (live : List Bool) (Q : Exit → ASt → Prop) (opsL : List Oper) (k i t : Nat) (q : Nat × Nat) (p : List (Nat × Nat)) (n : Nat) (row : AV) (nl : Bool) (sz : Nat) (es : List AV) : Option ASt → Prop
  | some st1 => (st1.slots[i]? = some (.ref t (q :: p) 0 n) ∧ st1.toks[t]? = some ⟨true, row⟩ ∧ getAt row (q :: p) = .sl nl sz es ∧ n = es.length) ∧
      regS live Q (rrun C opsL (opsL.drop k) ⟨(st1.slots.map (killN t)).set i (.ref st1.toks.length [] 0 n), st1.toks.set t ⟨true, setAt row (q :: p) .junk⟩ ++ [⟨true, .sl nl sz es⟩]⟩)
  | none => False
theorem tr_outS {P : Program} {C : Ctx} {U : Ld} {w0 : World} {st : ASt} (hC : C.Ok P) {live : List Bool} {id : Nat} {ops : Array Oper} {Q : Exit → ASt → Prop} (k i t : Nat) (q : Nat × Nat) (p : List (Nat × Nat)) (n : Nat) (row : AV) (nl : Bool) (sz : Nat) (es : List AV) (hk : k ≤ ops.toList.length)
    (h : outO C live Q ops.toList k i t q p n row nl sz es (rrun C ops.toList (ops.toList.take k) st)) : Tr P U w0 (.region id ops false) st Q := by
  unfold outO at h
  split at h
  rotate_left
  · exact h.elim
  rename_i st1 hpre
  obtain ⟨⟨h1, h2, h3, h4⟩, h5⟩ := h
  obtain ⟨fin, hfin, hQ⟩ : ∃ fin, rrun C ops.toList (ops.toList.drop k) ⟨(st1.slots.map (killN t)).set i (.ref st1.toks.length [] 0 n), st1.toks.set t ⟨true, setAt row (q :: p) .junk⟩ ++ [⟨true, .sl nl sz es⟩]⟩ = some fin ∧ Q .normal (clean live fin) := by
    unfold regS at h5
    split at h5
    · exact ⟨_, by assumption, h5⟩
    · exact h5.elim
  intro hc E a w hs K hK
  simp only [codeOk, Bool.and_eq_true] at hc
  have hds : ∀ oj ∈ ops.toList, ∀ e, oj.dst = some e → e ∉ U.idx := by
    intro oj hj e he
    have := (Array.all_eq_true_iff_forall_mem.1 hc.2) oj (by simpa using hj)
    rw [he] at this
    simpa using this
  refine wpIn_region ?_
  have hrange : List.range ops.size = List.range' 0 (ops.toList.take k).length ++ List.range' k (ops.toList.drop k).length := by
    have e1 : (ops.toList.take k).length = k := by rw [List.length_take]; omega
    rw [List.range_eq_range', e1, ← Array.length_toList, List.length_drop, show ops.toList.length = k + (ops.toList.length - k) by omega, ← List.range'_append_1]
    simp
  rw [hrange]
  refine rrun_okS hC U.ro (fun E1 a1 w1 hs1 => ?_) (ops.toList.take k) 0 st E a w (fun j hj => by rw [Nat.zero_add, List.getElem?_take, if_pos (by rw [List.length_take] at hj; omega), Array.getElem?_toList]) (fun oj hoj => hds oj (List.mem_of_mem_take hoj)) hs hpre
  obtain ⟨E2, hs2⟩ := le_out (U := U) (w0 := w0) i t h1 h2 rfl h3 h4 E1 a1 w1 hs1
  refine rrun_end hC U.ro (fun E3 a3 w3 hs3 => ?_) (ops.toList.drop k) k (fun j hj => by rw [List.getElem?_drop, Array.getElem?_toList]) (fun oj hoj => hds oj (List.mem_of_mem_drop hoj)) hs2 hfin
  obtain ⟨E4, hs4⟩ := le_clean live E3 a3 w3 hs3
  exact hK _ _ E4 a3 w3 hQ hs4
theorem awp_rangeY {P : Program} {C : Ctx} (L : List Nat) (hC : C.Ok P) (hm : P.follows .mixedOrders = true) {live : List Bool} {U : Ld} {w0 : World} (lv : List Bool) {c : Code} {st : ASt} {Q : Exit → ASt → Prop} (n : Nat) (p : Nat → Prop) (I : Nat → ASt) (hn : n ≤ 9223372036854775807)
    (h0 : sub (clean lv (freeze L st)) (I 0)) (hp : p 0)
    (hstep : ∀ k, k < n → p k → IntKind.i64.wrap ((k : Int) + 1) = (k : Int) + 1 → awp P C live U w0 c (I k) (rngS (fun s => sub (clean lv (freeze L s)) (I (k + 1)) ∧ p (k + 1)) Q))
    (hend : p n → awp P C live U w0 c (I n) (rngS (fun _ => False) Q)) : Tr P U w0 (.loop c) st Q := by
  refine tr_loop (α := {k : Nat // k ≤ n ∧ p k}) (fun k => I k.1) (fun k => n - k.1) ⟨0, Nat.zero_le _, hp⟩ ((le_freeze L).trans ((le_clean lv).trans (le_sub h0))) ?_
  rintro ⟨k, hk, hpk⟩
  by_cases h : k < n
  · exact (tr_awp hC hm c _ _ (hstep k h hpk (wrapI (by omega) (by omega)))).weak (andThen_mono fun s hs => ⟨⟨k + 1, h, hs.2⟩, (le_freeze L).trans ((le_clean lv).trans (le_sub hs.1)), by simp; omega⟩)
  · obtain rfl : k = n := by omega
    exact (tr_awp hC hm c _ _ (hend hpk)).weak (andThen_mono fun s hs => hs.elim)
end Go.Proofs.YtigepnpiofcooaaGreat.Ax
