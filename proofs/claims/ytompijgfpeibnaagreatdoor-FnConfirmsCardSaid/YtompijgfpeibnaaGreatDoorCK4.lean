/-
 From the run of a function's body to its contract. No condition.
-/
import Derived.Test.YtompijgfpeibnaaGreatDoorCK3
import Derived.KernelRfl
import Derived.ChangeArms
import Derived.Deep.Slices
import Derived.WalkKit
import Derived.ProofKit
import Derived.OpenShut
import Derived.ShutString
import Derived.ChangeOld
import Derived.Below
import Derived.Carry
import Derived.LaidLaws
import Derived.Lib.LaidTab
import Derived.MakeChecks
import Derived.SevenTiedAt
import Derived.RangeFuncKeeps
namespace Go.Proofs.YtompijgfpeibnaaGreatDoor.Ax
open Go Go.RowKit
def resVar (C : Ctx) (st : ASt) : ResultVar → Option (AV × List Nat)
 | .tmp t => ownR st.toks (st.slots.getD t .junk)
 | .cell a t => (match st.slots.getD a .junk, C.T t with
  | .ptr k [] 0 0, some ti => (match st.toks[k]? with
   | some tk => (match tk.row with
    | .sl _ sz (e :: _) => if tk.deep = true ∧ sz = ti.size then (if TypeDesc.aggB ti.desc then (match e with
       | .agg cs => some (.agg cs, [k])
       | _ => none)
      else (match e.cells with
       | [c] => some (c, [k])
       | _ => none)) else none
    | _ => none)
   | none => none)
  | _, _ => none)
def resVars (C : Ctx) (st : ASt) : List ResultVar → Option (List AV × List Nat)
 | [] => some ([], [])
 | r :: rs => (match resVar C st r, resVars C st rs with
  | some q, some q' => some (q.1 :: q'.1, q.2 ++ q'.2)
  | _, _ => none)
def pack : List AV → AV
 | [x] => x
 | xs => .tup xs
def resOk (C : Ctx) (st : ASt) (rs : List ResultVar) (r : AV) : Prop :=
 (match resVars C st rs with
  | some q => if q.2.Nodup then some (pack q.1) else none
  | none => none) = some r
def doneS (C : Ctx) (rs : List ResultVar) (r : AV) : Exit → ASt → Prop := fun e s => (e = .normal ∨ e = .ret) ∧ resOk C s rs r
theorem doneS_normal {C : Ctx} {rs : List ResultVar} {r : AV} {s : ASt} : doneS C rs r .normal s = resOk C s rs r := by simp [doneS]
theorem doneS_ret {C : Ctx} {rs : List ResultVar} {r : AV} {s : ASt} : doneS C rs r .ret s = resOk C s rs r := by simp [doneS]
def resSem (tmps : Array Value) : ResultVar → Sem Value
 | .tmp t => pure (tmps.getD t undef)
 | .cell ad t => do loadVar t (← asAddr (tmps.getD ad undef))
theorem results_eq (fn : Func) (tmps : Array Value) : results fn tmps = (do
  let vs ← fn.results.mapM (resSem tmps)
  pure (if h : vs.size = 1 then vs[0] else .tuple vs)) := by
 unfold results
 congr
section
variable {P : Program} {C : Ctx} {a : Act} {w : World} {U : Ld} {w0 : World} {st : ASt} {E : Env}
theorem resVar_ok (hC : C.Ok P) (hs : SR U w0 st E a w) {w2 : World} (hA : ∀ t b, E.S t b → w2.heap[b]? = w.heap[b]?) {F : Nat → Prop} (r : ResultVar) (q : AV × List Nat) (h : resVar C st r = some q) (hn : q.2.Nodup) :
  ∃ y, (resSem a.tmps r).run P w2 = .ok y w2 ∧ Own w2 true F (SU E q.2) q.1 y := by
 cases r with
 | tmp t =>
  simp only [resVar] at h
  have hev := hs.ev (.tmp t)
  simp only [Ax.ev, Act.eval] at hev
  have hown := ownR_ok (F := fun _ => False) hs _ _ q hev h hn
  exact ⟨a.tmps.getD t undef, rfl, Own.deepF _ _ (hown.weak (fun _ h => h) (fun _ h => h) (fun b hb => hb.elim False.elim fun ⟨t', _, hb⟩ => hA t' b hb))⟩
 | cell ad t =>
  simp only [resVar] at h
  split at h
  ·rename_i k ti hp hti
   have ht := hC.T t ti hti
   have hpv := hs.ev (.tmp ad)
   simp only [Ax.ev, Act.eval] at hpv
   rw [hp] at hpv
   simp only [SRep] at hpv
   split at h
   ·rename_i tk htk
    split at h
    ·rename_i nl sz e es hrow
     split at h
     ·rename_i hc
      obtain ⟨hd, hsz⟩ := hc
      obtain ⟨b, o, hl, hcp, g1, hy⟩ := hpv.2 tk nl sz (e :: es) htk (by simp [getAt, hrow]) (by simp)
      simp only [follow, Option.some.injEq] at g1
      have hown : Own w tk.deep E.F (E.S k) (.sl nl sz (e :: es)) (E.hd k) := by
       rcases hs.tok k tk htk with hj | ⟨nl', sz', es', e1, e2⟩
       ·rw [hrow] at hj; simp at hj
       ·rw [hrow] at e1; simp only [AV.sl.injEq] at e1; obtain ⟨rfl, rfl, rfl⟩ := e1; exact e2.own
      rw [hd] at hown
      replace hown : Own w2 true (fun _ => False) (E.S k) (.sl nl sz (e :: es)) (E.hd k) := (Own.deepF (F' := fun _ => False) _ _ hown).weak (fun _ h => h) (fun _ h => h) (fun b hb => hb.elim False.elim fun hb => hA k b hb)
      obtain ⟨b2, o2, l, cp, x, hv, _, _, k1, k2, k3, k4⟩ := Own.elem hown (i := 0) (e := e) (by simp)
      rw [g1] at hv
      simp only [Value.slice.injEq, Option.some.injEq, Addr.mk.injEq, and_true] at hv
      obtain ⟨⟨rfl, rfl⟩, rfl, rfl⟩ := hv
      simp only [Nat.zero_mul, Nat.add_zero] at k4 hy
      split at h
      ·rename_i hagg
       split at h
       ·rename_i cs
        simp only [Option.some.injEq] at h; subst h
        simp only [Own] at k1
        obtain ⟨ys, rfl, k1⟩ := k1
        have hr := run_load_agg (P := P) (w := w2) (b := b) (o' := o) (ys := ys.toList) ht hagg k4 (by rw [← hsz, ← k2]; simp [Value.cells])
        refine ⟨.agg ys, ?_, ?_⟩
        ·simp only [resSem]
         rw [hy]
         simpa [asAddr, Instr.loadAt, Instr.sureAddr] using hr
        ·simp only [Own]
         exact ⟨ys, rfl, OwnL.deepF _ _ (k1.mono fun b hb => ⟨k, by simp, hb⟩)⟩
       ·simp at h
      ·rename_i hagg
       split at h
       ·rename_i c hcl
        simp only [Option.some.injEq] at h; subst h
        obtain ⟨y, hyc, hoc⟩ := Own.cell k1 (by rw [k2, k3]) 0 c (by rw [hcl]; rfl)
        have hcell : w2.cell? ⟨b, o, none⟩ = some y := by simpa using k4 0 y (by simpa using hyc)
        have hr := run_load_one (P := P) (w := w2) (b := b) (o' := o) ht (by simpa using hagg) hcell
        refine ⟨y, ?_, Own.deepF _ _ (hoc.weak (fun _ h => h) (fun b hb => ⟨k, by simp, hb⟩) (Agree.refl _ _))⟩
        simp only [resSem]
        rw [hy]
        simpa [asAddr, Instr.loadAt, Instr.sureAddr] using hr
       ·simp at h
     ·simp at h
    ·simp at h
   ·simp at h
  ·simp at h
theorem resVars_ok (hC : C.Ok P) (hs : SR U w0 st E a w) {w2 : World} (hA : ∀ t b, E.S t b → w2.heap[b]? = w.heap[b]?) {F : Nat → Prop} : ∀ (rs : List ResultVar) (q : List AV × List Nat), resVars C st rs = some q → q.2.Nodup →
  ∃ ys, (rs.mapM (resSem a.tmps) : Sem (List Value)).run P w2 = .ok ys w2 ∧ OwnL w2 true F (SU E q.2) q.1 ys
 | [], q, h, _ => by
  simp only [resVars, Option.some.injEq] at h; subst h
  exact ⟨[], by simp, by simp [OwnL]⟩
 | r :: rs, q, h, hn => by
  simp only [resVars] at h
  split at h
  ·rename_i q1 q2 h1 h2
   simp only [Option.some.injEq] at h; subst h
   have hn' := hn
   rw [List.nodup_append] at hn
   obtain ⟨y, k1, k2⟩ := resVar_ok (F := F) hC hs hA r q1 h1 hn.1
   obtain ⟨ys, g1, g2⟩ := resVars_ok (F := F) hC hs hA rs q2 h2 hn.2.1
   refine ⟨y :: ys, ?_, ?_⟩
   ·rw [List.mapM_cons, Sem.run_bind, k1, Result.andThen_ok, Sem.run_bind, g1]; rfl
   ·simp only [OwnL]
    exact ⟨y, ys, SU E q1.2, SU E q2.2, rfl, fun b hb => (SU_app b).2 (.inl hb), fun b hb => (SU_app b).2 (.inr hb), fun b hb hb' => SU_disj hs hn' b hb hb', k2, g2⟩
  ·simp at h
theorem pack_ok {F S : Nat → Prop} : ∀ {xs : List AV} {ys : List Value}, OwnL w true F S xs ys → Own w true F S (pack xs) (if h : ys.toArray.size = 1 then ys.toArray[0] else .tuple ys.toArray)
 | [], ys, g => by
  simp only [OwnL] at g; subst g
  simp only [pack, Own]
  exact ⟨#[], by simp, by simp [OwnL]⟩
 | [x], ys, g => by
  simp only [OwnL] at g
  obtain ⟨y, ys', S1, S2, rfl, e1, _, _, k, rfl⟩ := g
  simp only [pack]
  simpa using k.weak (fun _ h => h) e1 (Agree.refl _ _)
 | x :: x' :: xs, ys, g => by
  have hl := g.len
  simp only [pack, Own]
  refine ⟨ys.toArray, ?_, by simpa using g⟩
  rw [dif_neg (by simp [hl])]
theorem results_ok (hC : C.Ok P) (hs : SR U w0 st E a w) {w2 : World} (hA : ∀ t b, E.S t b → w2.heap[b]? = w.heap[b]?) (hsz : w.heap.size ≤ w2.heap.size) {F : Nat → Prop} {fn : Func} {r : AV} (h : resOk C st fn.results.toList r) :
  ∃ (y : Value) (S : Nat → Prop), (results fn a.tmps).run P w2 = .ok y w2 ∧ (∀ b, S b → w0.heap.size ≤ b ∨ U b) ∧ (∀ b, S b → b < w2.heap.size) ∧ Own w2 true F S r y := by
 obtain ⟨q, h1, h2, h3⟩ : ∃ q, resVars C st fn.results.toList = some q ∧ q.2.Nodup ∧ pack q.1 = r := by
  unfold resOk at h
  split at h
  ·rename_i q hq
   split at h
   ·rename_i hn; exact ⟨q, hq, hn, by simpa using h⟩
   ·simp at h
  ·simp at h
 obtain ⟨ys, g1, g2⟩ := resVars_ok (F := F) hC hs hA _ q h1 h2
 have hS : ∀ b, SU E q.2 b → (w0.heap.size ≤ b ∨ U b) ∧ b < w2.heap.size := fun b hb => by
  obtain ⟨t, _, hb⟩ := hb
  exact ⟨(hs.slt t b hb).2.2, Nat.lt_of_lt_of_le (hs.slt t b hb).1 hsz⟩
 have hrun : (results fn a.tmps).run P w2 = .ok (if h : ys.toArray.size = 1 then ys.toArray[0] else .tuple ys.toArray) w2 := by
  rw [results_eq, Sem.run_bind, Array.mapM_eq_mapM_toList, Sem.run_map, g1]
  rfl
 refine ⟨_, SU E q.2, hrun, fun b hb => (hS b hb).1, fun b hb => (hS b hb).2, ?_⟩
 rw [← h3]
 exact pack_ok g2
theorem leaves_marks {fn : Func} {tmps : Array Value} {R : Ending → World → Prop} : ∀ (Ds : List Nat) (w : World), Ds.Nodup → (∀ D ∈ Ds, w.heap[D]? = some (.deferred (some []))) →
  (∀ w2 : World, (∀ b, b ∉ Ds → w2.heap[b]? = w.heap[b]?) → w2.heap.size = w.heap.size → w2.os = w.os → w2.tape = w.tape → w2.output = w.output → ∃ v, (results fn tmps).run P w2 = .ok v w2 ∧ R (.returned v) w2) →
  LeavesInM Fence.wide 0 P fn tmps R (Ds.map fun D => ({ target := .collected D, args := #[] } : Deferred)) .returning w
 | [], w, _, _, h => by
  obtain ⟨v, h1, h2⟩ := h w (fun _ _ => rfl) rfl rfl rfl rfl
  exact ⟨v, h1, h2⟩
 | D :: Ds, w, hnd, hD, h => by
  rw [List.nodup_cons] at hnd
  have hDw := hD D (by simp)
  refine ⟨by simp, .inl ⟨D, _, rfl, run_takeDeferred hDw, ?_⟩⟩
  refine leaves_marks Ds _ hnd.2 (fun D' hD' => ?_) fun w2 k1 k2 k3 k4 k5 => ?_
  ·rw [World.putObj_heap_other (fun (e : D' = D) => hnd.1 (by rw [← e]; exact hD'))]; exact hD D' (by simp [hD'])
  ·refine h w2 (fun b hb => ?_) (by simpa using k2) k3 k4 k5
   simp only [List.mem_cons, not_or] at hb
   rw [k1 b hb.2, World.putObj_heap_other hb.1]
theorem RepL_srep {F : Nat → Prop} {E : Env} (hE : E.F = F) : ∀ {xs : List AV} {ys : List Value}, RepL w F xs ys → ∀ (i : Nat) (x : AV), xs[i]? = some x → ∃ y : Value, ys[i]? = some y ∧ SRep w E [] x y := by
 intro xs ys h i x hi
 obtain ⟨y, h1, h2⟩ := RepL.get h i x hi
 subst hE
 exact ⟨y, h1, SRep.of_rep _ _ h2⟩
theorem callOk_of_awp (hC : C.Ok P) (hm : P.follows .mixedOrders = true) {live : List Bool} {dt : List (Nat × RD)} {f : FuncId} {fn : Func} {c : Code} {args : List AV} {r : AV} (hf : P.funcs[f]? = some fn) (hb : fn.body = some c) (hname : (fn.name == "runtime.NumGoroutine") = false) (hck : codeOk dt [] c = true)
  (h : ∀ w0, awp P C live (noLd dt) w0 c ⟨args ++ List.replicate (fn.ntmps - args.length) .junk, []⟩ (doneS C fn.results.toList r)) : CallOk P f args r := by
 refine ⟨⟨fn, hf, hname, by rw [hb]; rfl⟩, fun w F vals hF hvals => ?_⟩
 have hlen : vals.size = args.length := by simpa using hvals.length
 refine (callsIn_wide (n := 0)).1 (callsIn_of_wp_marks hf hb trivial ?_)
 let E : Env := { F := F, hd := fun _ => undef, S := fun _ _ => False }
 have hs : SR (noLd dt) w ⟨args ++ List.replicate (fn.ntmps - args.length) .junk, []⟩ E { tmps := vals ++ Array.replicate (fn.ntmps - vals.size) undef, defers := [] } w := by
  refine ⟨Marks.nil hF.gl (fun _ _ => .inl trivial), by simp [hlen], fun i x hi => ?_, hF.lt, fun t tk ht => by simp at ht, fun t b hb => hb.elim, fun t t' b _ hb => hb.elim, Frm.refl _ _, fun i hi => by simp [noLd] at hi⟩
  by_cases hlt : i < args.length
  ·rw [List.getElem?_append_left hlt] at hi
   obtain ⟨y, h1, h2⟩ := RepL_srep (E := E) rfl hvals i x hi
   have h1' : vals[i]? = some y := by simpa using h1
   have : (vals ++ Array.replicate (fn.ntmps - vals.size) undef).getD i undef = y := by
    rw [Array.getD_eq_getD_getElem?, Array.getElem?_append_left (by omega), h1']; rfl
   rw [this]; exact h2
  ·rw [List.getElem?_append_right (by omega)] at hi
   have := List.mem_of_getElem? hi
   rw [List.mem_replicate] at this
   rw [this.2]; simp [SRep]
 refine tr_awp hC hm c _ _ (h w) hck E _ w hs _ fun e st' E' a' w' hq hs' => ?_
 obtain ⟨he, hr⟩ := hq
 have hpost : LeavesInM Fence.wide 0 P fn a'.tmps (fun e w' => ∃ (y : Value) (S : Nat → Prop), e = .returned y ∧ Frm (fun _ => False) w w' ∧ (∀ b, S b → w.heap.size ≤ b ∧ b < w'.heap.size) ∧ Own w' true (fun _ => False) S r y) a'.defers .returning w' := by
  obtain ⟨Ds, m1, m2, m3⟩ := hs'.defers.marks rfl
  rw [m1]
  refine leaves_marks Ds w' m2 (fun D hD => (m3 D hD).2.2) fun w2 n1 n2 n3 n4 n5 => ?_
  obtain ⟨y, S, k1, k2, k3, k4⟩ := results_ok (w2 := w2) (F := fun _ => False) hC hs' (fun t b hb => n1 b fun hD => (hs'.slt t b hb).2.1 (m3 b hD).1) (by omega) hr
  refine ⟨y, k1, y, S, rfl, ⟨n3.trans hs'.frame.os, n4.trans hs'.frame.tape, n5.trans hs'.frame.output, by rw [n2]; exact hs'.frame.size, fun b hb hU => (n1 b fun hD => by have := (m3 b hD).2.1; omega).trans (hs'.frame.block b hb hU)⟩, fun b hb => ⟨(k2 b hb).resolve_right id, k3 b hb⟩, k4⟩
 rcases he with rfl | rfl
 ·exact hpost
 ·exact hpost
def resVarF (C : Ctx) (st : ASt) : ResultVar → Option AV
 | .tmp t => some (Ax.res st.toks (st.slots.getD t .junk))
 | .cell a t => (match st.slots.getD a .junk, C.T t with
  | .ptr k [] 0 0, some ti => (match st.toks[k]? with
   | some tk => (match tk.row with
    | .sl _ sz (e :: _) => if sz = ti.size then (if TypeDesc.aggB ti.desc then (match e with
       | .agg cs => some (.agg cs)
       | _ => none)
      else (match e.cells with
       | [c] => some c
       | _ => none)) else none
    | _ => none)
   | none => none)
  | _, _ => none)
def resVarsF (C : Ctx) (st : ASt) : List ResultVar → Option (List AV)
 | [] => some []
 | r :: rs => (match resVarF C st r, resVarsF C st rs with
  | some q, some q' => some (q :: q')
  | _, _ => none)
def doneF (C : Ctx) (rs : List ResultVar) (r : AV) : Exit → ASt → Prop := fun e s => (e = .normal ∨ e = .ret) ∧ (resVarsF C s rs).map pack = some r
theorem doneF_normal {C : Ctx} {rs : List ResultVar} {r : AV} {s : ASt} : doneF C rs r .normal s = ((resVarsF C s rs).map pack = some r) := by simp [doneF]
theorem doneF_ret {C : Ctx} {rs : List ResultVar} {r : AV} {s : ASt} : doneF C rs r .ret s = ((resVarsF C s rs).map pack = some r) := by simp [doneF]
theorem resVarF_ok (hC : C.Ok P) (hs : SR U w0 st E a w) (r : ResultVar) (q : AV) (h : resVarF C st r = some q) : ∃ y, (resSem a.tmps r).run P w = .ok y w ∧ Rep w (allB E) q y := by
 cases r with
 | tmp t =>
  simp only [resVarF, Option.some.injEq] at h; subst h
  have hev := hs.ev (.tmp t)
  simp only [Ax.ev, Act.eval] at hev
  exact ⟨a.tmps.getD t undef, rfl, SRep.res hs.tokOk _ _ hev⟩
 | cell ad t =>
  simp only [resVarF] at h
  split at h
  ·rename_i k ti hp hti
   have ht := hC.T t ti hti
   have hpv := hs.ev (.tmp ad)
   simp only [Ax.ev, Act.eval] at hpv
   rw [hp] at hpv
   simp only [SRep] at hpv
   split at h
   ·rename_i tk htk
    split at h
    ·rename_i nl sz e es hrow
     split at h
     ·rename_i hsz
      obtain ⟨b, o, hl, hcp, g1, hy⟩ := hpv.2 tk nl sz (e :: es) htk (by simp [getAt, hrow]) (by simp)
      simp only [follow, Option.some.injEq] at g1
      have hown : Own w tk.deep E.F (E.S k) (.sl nl sz (e :: es)) (E.hd k) := by
       rcases hs.tok k tk htk with hj | ⟨nl', sz', es', e1, e2⟩
       ·rw [hrow] at hj; simp at hj
       ·rw [hrow] at e1; simp only [AV.sl.injEq] at e1; obtain ⟨rfl, rfl, rfl⟩ := e1; exact e2.own
      have hrep := Rep.weak (F' := allB E) hown.rep (fun b hb => hb.elim .inl fun h => .inr ⟨k, h⟩) (Agree.refl _ _)
      rw [g1] at hrep
      simp only [Rep] at hrep
      obtain ⟨ad', len, cap, hv, h1, h2, h3, h4⟩ := hrep
      simp only [Value.slice.injEq] at hv
      obtain ⟨rfl, rfl, rfl⟩ := hv
      rcases h4 with h4 | ⟨b2, o2, hb, hnl, h4⟩ | ⟨_, _, h4⟩
      ·simp at h4
      rotate_left
      ·simp at h4
      simp only [Option.some.injEq, Addr.mk.injEq, and_true] at hb
      obtain ⟨rfl, rfl⟩ := hb
      obtain ⟨x, k1, k2, k3, _, k4⟩ := RepRow.get h4 0 e rfl
      simp only [Nat.zero_mul, Nat.add_zero] at k4 hy
      split at h
      ·rename_i hagg
       split at h
       ·rename_i cs
        simp only [Option.some.injEq] at h; subst h
        simp only [Rep] at k1
        obtain ⟨ys, rfl, k1⟩ := k1
        have hr := run_load_agg (P := P) (w := w) (b := b) (o' := o) (ys := ys.toList) ht hagg k4 (by rw [← hsz, ← k2]; simp [Value.cells])
        refine ⟨.agg ys, ?_, ?_⟩
        ·simp only [resSem]
         rw [hy]
         simpa [asAddr, Instr.loadAt, Instr.sureAddr] using hr
        ·simp only [Rep]
         exact ⟨ys, rfl, k1⟩
       ·simp at h
      ·rename_i hagg
       split at h
       ·rename_i c hcl
        simp only [Option.some.injEq] at h; subst h
        obtain ⟨y, hyc, hoc⟩ := Own.cell (S := fun _ => False) (Rep.own _ _ k1) (by rw [k2, k3]) 0 c (by rw [hcl]; rfl)
        have hcell : w.cell? ⟨b, o, none⟩ = some y := by simpa using k4 0 y (by simpa using hyc)
        have hr := run_load_one (P := P) (w := w) (b := b) (o' := o) ht (by simpa using hagg) hcell
        refine ⟨y, ?_, hoc.rep.weak (fun b hb => hb.elim id False.elim) (Agree.refl _ _)⟩
        simp only [resSem]
        rw [hy]
        simpa [asAddr, Instr.loadAt, Instr.sureAddr] using hr
       ·simp at h
     ·simp at h
    ·simp at h
   ·simp at h
  ·simp at h
theorem resVarsF_ok (hC : C.Ok P) (hs : SR U w0 st E a w) : ∀ (rs : List ResultVar) (q : List AV), resVarsF C st rs = some q →
  ∃ ys, (rs.mapM (resSem a.tmps) : Sem (List Value)).run P w = .ok ys w ∧ RepL w (allB E) q ys
 | [], q, h => by
  simp only [resVarsF, Option.some.injEq] at h; subst h
  exact ⟨[], by simp, by simp [RepL]⟩
 | r :: rs, q, h => by
  simp only [resVarsF] at h
  split at h
  ·rename_i q1 q2 h1 h2
   simp only [Option.some.injEq] at h; subst h
   obtain ⟨y, k1, k2⟩ := resVarF_ok hC hs r q1 h1
   obtain ⟨ys, g1, g2⟩ := resVarsF_ok hC hs rs q2 h2
   refine ⟨y :: ys, ?_, ?_⟩
   ·rw [List.mapM_cons, Sem.run_bind, k1, Result.andThen_ok, Sem.run_bind, g1]; rfl
   ·simp only [RepL]; exact ⟨y, ys, rfl, k2, g2⟩
  ·simp at h
theorem packF_ok {F : Nat → Prop} : ∀ {xs : List AV} {ys : List Value}, RepL w F xs ys → Rep w F (pack xs) (if h : ys.toArray.size = 1 then ys.toArray[0] else .tuple ys.toArray)
 | [], ys, g => by
  simp only [RepL] at g; subst g
  simp only [pack, Rep]
  exact ⟨#[], by simp, by simp [RepL]⟩
 | [x], ys, g => by
  simp only [RepL] at g
  obtain ⟨y, ys', rfl, k, rfl⟩ := g
  simp only [pack]
  simpa using k
 | x :: x' :: xs, ys, g => by
  have hl := g.length
  simp only [pack, Rep]
  refine ⟨ys.toArray, ?_, by simpa using g⟩
  rw [dif_neg (by simp [hl])]
theorem frzOk_of_awp (hC : C.Ok P) (hm : P.follows .mixedOrders = true) {live : List Bool} {dt : List (Nat × RD)} {f : FuncId} {fn : Func} {c : Code} {args : List AV} {r : AV} (hf : P.funcs[f]? = some fn) (hb : fn.body = some c) (hname : (fn.name == "runtime.NumGoroutine") = false) (hck : codeOk dt [] c = true)
  (h : ∀ A w0, awp P C live (frzLd A dt) w0 c ⟨args ++ List.replicate (fn.ntmps - args.length) .junk, []⟩ (doneF C fn.results.toList r)) : FrzOk P f args true r := by
 refine ⟨⟨fn, hf, hname, by rw [hb]; rfl⟩, fun w F vals hF hvals => ?_⟩
 have hlen : vals.size = args.length := by simpa using hvals.length
 refine (callsIn_wide (n := 0)).1 (callsIn_of_wp_marks hf hb trivial ?_)
 let E : Env := { F := F, hd := fun _ => undef, S := fun _ _ => False }
 have hs : SR (frzLd F dt) w ⟨args ++ List.replicate (fn.ntmps - args.length) .junk, []⟩ E { tmps := vals ++ Array.replicate (fn.ntmps - vals.size) undef, defers := [] } w := by
  refine ⟨Marks.nil hF.gl (fun _ h => .inl h), by simp [hlen], fun i x hi => ?_, hF.lt, fun t tk ht => by simp at ht, fun t b hb => hb.elim, fun t t' b _ hb => hb.elim, Frm.refl _ _, fun i hi => by simp [frzLd] at hi⟩
  by_cases hlt : i < args.length
  ·rw [List.getElem?_append_left hlt] at hi
   obtain ⟨y, h1, h2⟩ := RepL_srep (E := E) rfl hvals i x hi
   have h1' : vals[i]? = some y := by simpa using h1
   have : (vals ++ Array.replicate (fn.ntmps - vals.size) undef).getD i undef = y := by
    rw [Array.getD_eq_getD_getElem?, Array.getElem?_append_left (by omega), h1']; rfl
   rw [this]; exact h2
  ·rw [List.getElem?_append_right (by omega)] at hi
   have := List.mem_of_getElem? hi
   rw [List.mem_replicate] at this
   rw [this.2]; simp [SRep]
 refine tr_awp hC hm c _ _ (h F w) hck E _ w hs _ fun e st' E' a' w' hq hs' => ?_
 obtain ⟨he, hr⟩ := hq
 have hpost : LeavesInM Fence.wide 0 P fn a'.tmps (fun e w' => ∃ (y : Value) (F' : Nat → Prop), e = .returned y ∧ Frm (fun _ => False) w w' ∧ (∀ b, F' b → ((true = true ∧ F b) ∨ w.heap.size ≤ b) ∧ b < w'.heap.size) ∧ Rep w' F' r y) a'.defers .returning w' := by
  rw [hs'.defers.none rfl]
  obtain ⟨q, h1, h2⟩ := Option.map_eq_some_iff.1 hr
  obtain ⟨ys, g1, g2⟩ := resVarsF_ok hC hs' _ q h1
  have hrun : (results fn a'.tmps).run P w' = .ok (if h : ys.toArray.size = 1 then ys.toArray[0] else .tuple ys.toArray) w' := by
   rw [results_eq, Sem.run_bind, Array.mapM_eq_mapM_toList, Sem.run_map, g1]
   rfl
  refine ⟨_, hrun, _, allB E', rfl, hs'.frame, fun b hb => ⟨?_, hs'.allLt b hb⟩, by rw [← h2]; exact packF_ok g2⟩
  rcases hb with hb | ⟨t, hb⟩
  ·rcases hs'.defers.fz b hb with h | h | h
   ·exact .inl ⟨rfl, h⟩
   ·exact h.elim
   ·exact .inr h
  ·rcases (hs'.slt t b hb).2.2 with h | h
   ·exact .inr h
   ·exact h.elim
 rcases he with rfl | rfl
 ·exact hpost
 ·exact hpost
theorem CallOk.frz {f : FuncId} {args : List AV} {r : AV} (h : CallOk P f args r) : FrzOk P f args false r :=
 ⟨h.1, fun w F vals hF hvals => (h.2 w F vals hF hvals).mono fun e w' he => by
  obtain ⟨y, S, rfl, h1, h2, h3⟩ := he
  exact ⟨y, S, rfl, h1, fun b hb => ⟨.inr (h2 b hb).1, (h2 b hb).2⟩, h3.rep.weak (fun b hb => hb.elim False.elim id) (Agree.refl _ _)⟩⟩
end
open Go Go.RowKit
def tyOf (P : Program) (t : TypeId) : Option TI :=
 match P.underlying t, P.info? t with
 | some d, some i => (match i.zero with
  | some z => if z.cells.size = i.size ∧ z.cells.all (·.oneCell') = true then some ⟨d, i.size, i.bytes, z⟩ else none
  | none => none)
 | _, _ => none
theorem tyOf_ok {P : Program} {t : TypeId} {ti : TI} (h : tyOf P t = some ti) : TOk P t ti := by
 unfold tyOf at h
 split at h
 ·rename_i d i hd hi
  split at h
  ·rename_i z hz
   split at h
   ·rename_i hc
    simp only [Option.some.injEq] at h; subst h
    exact ⟨hd, ⟨i, hi, rfl, rfl, hz⟩, hc.1, hc.2⟩
   ·simp at h
  ·simp at h
 ·simp at h
def G (l : List (Nat × (List AV → Option AV))) (f : FuncId) (args : List AV) : Option AV :=
 match l with
 | [] => none
 | (g, m) :: l => if f = g then m args else G l f args
def FnOk (P : Program) (f : FuncId) (m : List AV → Option AV) : Prop := ∀ args r, m args = some r → CallOk P f args r
inductive FnsOk (P : Program) : List (Nat × (List AV → Option AV)) → Prop
 | nil : FnsOk P []
 | cons {f : FuncId} {m : List AV → Option AV} {l : List (Nat × (List AV → Option AV))} : FnOk P f m → FnsOk P l → FnsOk P ((f, m) :: l)
theorem G_ok {P : Program} {l : List (Nat × (List AV → Option AV))} (h : FnsOk P l) : ∀ f args r, G l f args = some r → CallOk P f args r := by
 induction h with
 | nil => intro f args r h; simp [G] at h
 | cons hm _ ih =>
  intro f args r h
  simp only [G] at h
  split at h
  ·rename_i e; subst e; exact hm args r h
  ·exact ih f args r h
def ctx (P : Program) (X : TypeId → Option Nat) (l : List (Nat × (List AV → Option AV))) : Ctx := ⟨tyOf P, X, G l, fun _ _ => none, fun _ _ => none, fun _ _ => none, true⟩
theorem ctx_ok {P : Program} {X : TypeId → Option Nat} {l : List (Nat × (List AV → Option AV))} (hX : ∀ t n, X t = some n → EqOk P t n) (h : FnsOk P l) : (ctx P X l).Ok P := ⟨fun _ _ h => tyOf_ok h, hX, G_ok h, fun _ _ _ _ _ h => by simp [ctx] at h, fun _ _ _ _ h => by simp [ctx] at h, fun _ _ _ _ h => by simp [ctx] at h⟩
def GM (l : List (Nat × (List AV → Option (Nat × AV × AV)))) (f : FuncId) (args : List AV) : Option (Nat × AV × AV) :=
 match l with
 | [] => none
 | (g, m) :: l => if f = g then m args else GM l f args
def FnMut (P : Program) (f : FuncId) (m : List AV → Option (Nat × AV × AV)) : Prop := ∀ args pos r row', m args = some (pos, r, row') → MutOk P f args pos r row'
inductive FnsMut (P : Program) : List (Nat × (List AV → Option (Nat × AV × AV))) → Prop
 | nil : FnsMut P []
 | cons {f : FuncId} {m : List AV → Option (Nat × AV × AV)} {l : List (Nat × (List AV → Option (Nat × AV × AV)))} : FnMut P f m → FnsMut P l → FnsMut P ((f, m) :: l)
theorem GM_ok {P : Program} {l : List (Nat × (List AV → Option (Nat × AV × AV)))} (h : FnsMut P l) : ∀ f args pos r row', GM l f args = some (pos, r, row') → MutOk P f args pos r row' := by
 induction h with
 | nil => intro f args pos r row' h; simp [GM] at h
 | cons hm _ ih =>
  intro f args pos r row' h
  simp only [GM] at h
  split at h
  ·rename_i e; subst e; exact hm args pos r row' h
  ·exact ih f args pos r row' h
def GV (l : List (Nat × (List AV → Option (List Nat × AV)))) (f : FuncId) (args : List AV) : Option (List Nat × AV) :=
 match l with
 | [] => none
 | (g, m) :: l => if f = g then m args else GV l f args
def FnMov (P : Program) (f : FuncId) (m : List AV → Option (List Nat × AV)) : Prop := ∀ args mv r, m args = some (mv, r) → MovOk P f args mv r
inductive FnsMov (P : Program) : List (Nat × (List AV → Option (List Nat × AV))) → Prop
 | nil : FnsMov P []
 | cons {f : FuncId} {m : List AV → Option (List Nat × AV)} {l : List (Nat × (List AV → Option (List Nat × AV)))} : FnMov P f m → FnsMov P l → FnsMov P ((f, m) :: l)
theorem GV_ok {P : Program} {l : List (Nat × (List AV → Option (List Nat × AV)))} (h : FnsMov P l) : ∀ f args mv r, GV l f args = some (mv, r) → MovOk P f args mv r := by
 induction h with
 | nil => intro f args mv r h; simp [GV] at h
 | cons hm _ ih =>
  intro f args mv r h
  simp only [GV] at h
  split at h
  ·rename_i e; subst e; exact hm args mv r h
  ·exact ih f args mv r h
def ctxM (P : Program) (X : TypeId → Option Nat) (l : List (Nat × (List AV → Option AV))) (m : List (Nat × (List AV → Option (Nat × AV × AV)))) : Ctx := ⟨tyOf P, X, G l, GM m, fun _ _ => none, fun _ _ => none, true⟩
def ctxV (P : Program) (X : TypeId → Option Nat) (l : List (Nat × (List AV → Option AV))) (m : List (Nat × (List AV → Option (Nat × AV × AV)))) (v : List (Nat × (List AV → Option (List Nat × AV)))) : Ctx := ⟨tyOf P, X, G l, GM m, GV v, fun _ _ => none, true⟩
def GH (l : List (Nat × Bool × (List AV → Option AV))) (f : FuncId) (args : List AV) : Option (Bool × AV) :=
 match l with
 | [] => none
 | (g, sh, m) :: l => if f = g then (m args).map fun r => (sh, r) else GH l f args
def FnFrz (P : Program) (f : FuncId) (sh : Bool) (m : List AV → Option AV) : Prop := ∀ args r, m args = some r → FrzOk P f args sh r
inductive FnsFrz (P : Program) : List (Nat × Bool × (List AV → Option AV)) → Prop
 | nil : FnsFrz P []
 | cons {f : FuncId} {sh : Bool} {m : List AV → Option AV} {l : List (Nat × Bool × (List AV → Option AV))} : FnFrz P f sh m → FnsFrz P l → FnsFrz P ((f, sh, m) :: l)
theorem GH_ok {P : Program} {l : List (Nat × Bool × (List AV → Option AV))} (h : FnsFrz P l) : ∀ f args sh r, GH l f args = some (sh, r) → FrzOk P f args sh r := by
 induction h with
 | nil => intro f args sh r h; simp [GH] at h
 | cons hm _ ih =>
  intro f args sh r h
  simp only [GH] at h
  split at h
  ·rename_i e; subst e
   simp only [Option.map_eq_some_iff, Prod.mk.injEq] at h
   obtain ⟨r', h1, rfl, rfl⟩ := h
   exact hm args r' h1
  ·exact ih f args sh r h
def ctxH (P : Program) (X : TypeId → Option Nat) (l : List (Nat × (List AV → Option AV))) (m : List (Nat × (List AV → Option (Nat × AV × AV)))) (v : List (Nat × (List AV → Option (List Nat × AV)))) (k : List (Nat × Bool × (List AV → Option AV))) : Ctx := ⟨tyOf P, X, G l, GM m, GV v, GH k, true⟩
theorem ctxH_ok {P : Program} {X : TypeId → Option Nat} {l : List (Nat × (List AV → Option AV))} {m : List (Nat × (List AV → Option (Nat × AV × AV)))} {v : List (Nat × (List AV → Option (List Nat × AV)))} {k : List (Nat × Bool × (List AV → Option AV))} (hX : ∀ t n, X t = some n → EqOk P t n) (h : FnsOk P l) (hm : FnsMut P m) (hv : FnsMov P v) (hk : FnsFrz P k) : (ctxH P X l m v k).Ok P :=
 ⟨fun _ _ h => tyOf_ok h, hX, G_ok h, GM_ok hm, GV_ok hv, GH_ok hk⟩
theorem eqOk_two {P : Program} {t ti : TypeId} {a b : String} {s1 s2 s3 s4 : String} {e1 e2 : Bool} {n1 n2 : Nat} (hg : P.eqGuardType P.depth t = false) (hp : P.stoodInHeld t = false) (hi : P.underlying ti = some (.int .i64))
  (ht : P.underlying t = some (.struct #[⟨a, ti, 0, e1, s1, s2, n1⟩, ⟨b, ti, 1, e2, s3, s4, n2⟩])) (ha : a ≠ "_") (hb : b ≠ "_") : EqOk P t 2 := by
 refine ⟨hg, fun w xs ys hx hy => ?_⟩
 obtain ⟨x0, x1, rfl⟩ : ∃ x0 x1, xs = [x0, x1] := by
  match xs, hx with
  | [x0, x1], _ => exact ⟨x0, x1, rfl⟩
 obtain ⟨y0, y1, rfl⟩ : ∃ y0 y1, ys = [y0, y1] := by
  match ys, hy with
  | [y0, y1], _ => exact ⟨y0, y1, rfl⟩
 have hf : P.fieldsOf t = #[⟨a, ti, 0, e1, s1, s2, n1⟩, ⟨b, ti, 1, e2, s3, s4, n2⟩] := by simp [Program.fieldsOf, ht]
 have hu := Go.run_underlying hi
 have q0 := run_equalIn_int (P := P) w 9998 ti .i64 .i64 x0 y0 hi
 have q1 := run_equalIn_int (P := P) w 9998 ti .i64 .i64 x1 y1 hi
 rw [run_equalIn_struct w 9999 t _ _ (by rw [hf]; exact ht) hp, hf]
 simp [Op.eqFields, ha, hb, part, isAgg, hu, q0, q1]
 by_cases h0 : x0 = y0
 ·subst h0; simp
  by_cases h1 : x1 = y1
  ·subst h1; simp
  ·simp [h1]
 ·simp [h0]
noncomputable def mk {α : Type} (pre : α → Prop) (enc : α → List AV) (f : α → AV) (args : List AV) : Option AV :=
 open Classical in if h : ∃ x, pre x ∧ enc x = args then some (f h.choose) else none
theorem mk_eq {α : Type} {pre : α → Prop} {enc : α → List AV} {f : α → AV} (hinj : ∀ x y, enc x = enc y → f x = f y) {x : α} (hx : pre x) : mk pre enc f (enc x) = some (f x) := by
 unfold mk
 have h : ∃ y, pre y ∧ enc y = enc x := ⟨x, hx, rfl⟩
 rw [dif_pos h, hinj _ _ h.choose_spec.2]
theorem mk_ok {P : Program} {α : Type} {pre : α → Prop} {enc : α → List AV} {f : α → AV} {g : FuncId} (h : ∀ x, pre x → CallOk P g (enc x) (f x)) : FnOk P g (mk pre enc f) := by
 intro args r hr
 unfold mk at hr
 split at hr
 ·rename_i hx
  simp only [Option.some.injEq] at hr; subst hr
  have := h _ hx.choose_spec.1
  rw [hx.choose_spec.2] at this; exact this
 ·simp at hr
theorem mk_frz {P : Program} {α : Type} {pre : α → Prop} {enc : α → List AV} {f : α → AV} {g : FuncId} {sh : Bool} (h : ∀ x, pre x → FrzOk P g (enc x) sh (f x)) : FnFrz P g sh (mk pre enc f) := by
 intro args r hr
 unfold mk at hr
 split at hr
 ·rename_i hx
  simp only [Option.some.injEq] at hr; subst hr
  have := h _ hx.choose_spec.1
  rw [hx.choose_spec.2] at this; exact this
 ·simp at hr
noncomputable def mkV {α : Type} (pre : α → Prop) (enc : α → List AV) (mv : List Nat) (f : α → AV) (args : List AV) : Option (List Nat × AV) :=
 open Classical in if h : ∃ x, pre x ∧ enc x = args then some (mv, f h.choose) else none
theorem mkV_eq {α : Type} {pre : α → Prop} {enc : α → List AV} {mv : List Nat} {f : α → AV} (hinj : ∀ x y, enc x = enc y → f x = f y) {x : α} (hx : pre x) : mkV pre enc mv f (enc x) = some (mv, f x) := by
 unfold mkV
 have h : ∃ y, pre y ∧ enc y = enc x := ⟨x, hx, rfl⟩
 rw [dif_pos h, hinj _ _ h.choose_spec.2]
theorem mkV_ok {P : Program} {α : Type} {pre : α → Prop} {enc : α → List AV} {mv : List Nat} {f : α → AV} {g : FuncId} (h : ∀ x, pre x → MovOk P g (enc x) mv (f x)) : FnMov P g (mkV pre enc mv f) := by
 intro args mv' r hr
 unfold mkV at hr
 split at hr
 ·rename_i hx
  simp only [Option.some.injEq, Prod.mk.injEq] at hr
  obtain ⟨rfl, rfl⟩ := hr
  have := h _ hx.choose_spec.1
  rw [hx.choose_spec.2] at this; exact this
 ·simp at hr
def int (n : Int) : AV := .v (.int .i64 n)
def bool (b : Bool) : AV := .v (.bool b)
def ints (nl : Bool) (xs : List Int) : AV := .sl nl 1 (xs.map int)
theorem int_inj {a b : Int} : int a = int b ↔ a = b := by simp [int]
theorem map_int_inj {a b : List Int} : a.map int = b.map int ↔ a = b := by
 constructor
 ·intro h
  exact (List.map_inj_right (fun x y => int_inj.1)).1 h
 ·rintro rfl; rfl
open Go Go.RowKit Go.ChangeShapes Go.WideShapes
def tile (P : Program) : List Field → Nat → Nat → Bool
 | [], o, n => decide (o = n)
 | f :: fs, o, n => decide (f.offset = o) && tile P fs (o + P.cellsOf f.type) n
def structB (P : Program) (t : TypeId) : Bool := match P.underlying t with
 | some (.struct _) => true
 | _ => false
def plainB (P : Program) : Nat → TypeId → Bool
 | 0, _ => false
 | n + 1, t => match P.underlying t with
  | some (.int _) => true
  | some .bool => true
  | some .string => true
  | some (.slice e) => decide (P.cellsOf e ≠ 0) && plainB P n e
  | some (.struct fs) => tile P fs.toList 0 (P.cellsOf t) && fs.toList.all fun f => plainB P n f.type
  | _ => false
def AV.isAgg : AV → Bool
 | .agg _ => true
 | _ => false
inductive Dat (P : Program) : TypeId → List AV → Prop
 | int {t : TypeId} {k : IntKind} {n : Int} : P.underlying t = some (.int k) → (Lit.int k n).wf = true → Dat P t [.v (.int k n)]
 | bool {t : TypeId} {b : Bool} : P.underlying t = some .bool → Dat P t [.v (.bool b)]
 | str {t : TypeId} {s : ByteArray} : P.underlying t = some .string → s.size ≤ maxLen → Dat P t [.v (.string s)]
 | nilSl {t e : TypeId} : P.underlying t = some (.slice e) → Dat P t [.sl true (P.cellsOf e) []]
 | sl {t e : TypeId} {es : List AV} : P.underlying t = some (.slice e) → es.length ≤ maxLen → (∀ x ∈ es, x.isAgg = structB P e) → (∀ x ∈ es, Dat P e x.cells) → Dat P t [.sl false (P.cellsOf e) es]
 | struct {t : TypeId} {fs : Array Field} {pss : List (List AV)} : P.underlying t = some (.struct fs) → pss.length = fs.size → (∀ (i : Nat) (f : Field) (ps : List AV), fs[i]? = some f → pss[i]? = some ps → Dat P f.type ps) → Dat P t pss.flatten
theorem RepL.append {w : World} {F : Nat → Prop} : ∀ {al bs : List AV} {xs ys : List Value}, RepL w F al xs → RepL w F bs ys → RepL w F (al ++ bs) (xs ++ ys)
 | [], bs, xs, ys, h, k => by simp only [RepL] at h; subst h; simpa using k
 | a :: al, bs, xs, ys, h, k => by
  simp only [RepL] at h
  obtain ⟨y, zs, rfl, h1, h2⟩ := h
  simp only [List.cons_append, RepL]
  exact ⟨y, zs ++ ys, rfl, h1, RepL.append h2 k⟩
section
variable {H : Type} {enc : TypeId × Value → H} {P : Program} {w : World} {spare : Nat → Bool} {held : Bool}
theorem trod_fields {F : Nat → Prop} {n m : Nat} (ih : ∀ t cs x, DataW.trod enc P w 0 spare held n t cs = some x → plainB P m t = true → ∃ al, RepL w F al cs ∧ Dat P t al) :
  ∀ (fs : List Field) (o : Nat) (cs : List Value), tile P fs o cs.length = true → fs.all (fun f => plainB P m f.type) = true →
   (∀ (i : Nat) (f : Field), fs[i]? = some f → ∃ x, DataW.trod enc P w 0 spare held n f.type ((cs.drop f.offset).take (P.cellsOf f.type)) = some x) →
   ∃ pss : List (List AV), RepL w F pss.flatten (cs.drop o) ∧ pss.length = fs.length ∧ ∀ (i : Nat) (f : Field) (ps : List AV), fs[i]? = some f → pss[i]? = some ps → Dat P f.type ps
 | [], o, cs, ht, _, _ => by
  simp [tile] at ht
  exact ⟨[], by simp [RepL, ht], rfl, by simp⟩
 | f :: fs, o, cs, ht, hp, h => by
  simp only [tile, Bool.and_eq_true, decide_eq_true_eq, List.all_cons] at ht hp
  obtain ⟨x, hx⟩ := h 0 f rfl
  obtain ⟨al, h1, h2⟩ := ih _ _ _ hx hp.1
  obtain ⟨pss, k1, k2, k3⟩ := trod_fields ih fs (o + P.cellsOf f.type) cs ht.2 hp.2 (fun i g hg => h (i + 1) g (by simpa using hg))
  refine ⟨al :: pss, ?_, by simp [k2], ?_⟩
  ·rw [ht.1] at h1
   have := RepL.append h1 k1
   rw [show cs.drop (o + P.cellsOf f.type) = (cs.drop o).drop (P.cellsOf f.type) by rw [List.drop_drop], List.take_append_drop] at this
   simpa using this
  ·intro i g ps hg hps
   cases i with
   | zero => simp at hg hps; subst hg; subst hps; exact h2
   | succ i => exact k3 i g ps (by simpa using hg) (by simpa using hps)
theorem choose_list {α : Type} {Q : Nat → α → Prop} : ∀ (n : Nat), (∀ i, i < n → ∃ x, Q i x) → ∃ xs : List α, xs.length = n ∧ ∀ i x, xs[i]? = some x → Q i x
 | 0, _ => ⟨[], rfl, by simp⟩
 | n + 1, h => by
  obtain ⟨xs, h1, h2⟩ := choose_list n (fun i hi => h i (by omega))
  obtain ⟨x, hx⟩ := h n (by omega)
  refine ⟨xs ++ [x], by simp [h1], fun i y hy => ?_⟩
  by_cases hi : i < n
  ·rw [List.getElem?_append_left (by omega)] at hy; exact h2 i y hy
  ·rw [List.getElem?_append_right (by omega)] at hy
   have : i = n := by
    have := (List.getElem?_eq_some_iff.1 hy).1
    simp at this; omega
   subst this
   simp [h1] at hy; subst hy; exact hx
theorem Dat.one {t : TypeId} {al : List AV} (h : Dat P t al) (hs : structB P t = false) : ∃ a, al = [a] ∧ a.isAgg = false ∧ ((∃ x, a = .v x) ∨ ∃ nl sz es, a = .sl nl sz es) := by
 cases h with
 | struct hu => simp [structB, hu] at hs
 | int => exact ⟨_, rfl, rfl, .inl ⟨_, rfl⟩⟩
 | bool => exact ⟨_, rfl, rfl, .inl ⟨_, rfl⟩⟩
 | str => exact ⟨_, rfl, rfl, .inl ⟨_, rfl⟩⟩
 | nilSl => exact ⟨_, rfl, rfl, .inr ⟨_, _, _, rfl⟩⟩
 | sl => exact ⟨_, rfl, rfl, .inr ⟨_, _, _, rfl⟩⟩
theorem trod_dat : ∀ (n m : Nat) (t : TypeId) (cs : List Value) (x : DataW H × List MemPlace), DataW.trod enc P w 0 spare held n t cs = some x → plainB P m t = true → ∃ al, RepL w (fun b => b < w.heap.size) al cs ∧ Dat P t al
 | 0, _, _, _, _, h, _ => by simp [DataW.trod] at h
 | n + 1, 0, t, cs, x, h, hp => by simp [plainB] at hp
 | n + 1, m + 1, t, cs, x, h, hp => by
  have ih := trod_dat n m
  cases hu : P.underlying t with
  | none => simp [plainB, hu] at hp
  | some d =>
   simp only [plainB, hu] at hp
   cases d with
   | bool =>
    obtain ⟨b, rfl, _⟩ := DataW.trod_bool hu h
    exact ⟨[.v (.bool b)], by simp [RepL, Rep, Value.oneCell'], .bool hu⟩
   | int k =>
    obtain ⟨z, rfl, _, hw⟩ := DataW.trod_int hu h
    exact ⟨[.v (.int k z)], by simp [RepL, Rep, Value.oneCell'], .int hu hw⟩
   | string =>
    obtain ⟨s, rfl, _, hw⟩ := DataW.trod_string hu h
    exact ⟨[.v (.string s)], by simp [RepL, Rep, Value.oneCell'], .str hu hw⟩
   | slice e =>
    simp only [Bool.and_eq_true, decide_eq_true_eq] at hp
    rcases DataW.trod_slice hu h with ⟨rfl, _⟩ | ⟨a, len, cap, elems, rest, n', hn, rfl, _, hb, hl, hm, hlen, hel, _⟩
    ·exact ⟨[.sl true (P.cellsOf e) []], by simp only [RepL, Rep]; exact ⟨_, _, rfl, ⟨none, 0, 0, rfl, rfl, Nat.le_refl _, Nat.zero_le _, .inl ⟨rfl, trivial, rfl, rfl⟩⟩, rfl⟩, .nilSl hu⟩
    ·simp only [Nat.add_right_cancel_iff] at hn; subst hn
     have spt : 0 < len → a.spot = none := by
      intro h0
      have h1 := hel 0 h0
      rw [List.getElem?_eq_getElem (by omega)] at h1
      obtain ⟨cs', h2, h3⟩ := Option.bind_eq_some_iff.1 h1
      obtain ⟨_, g1, g2⟩ := World.cells?_some h2
      obtain ⟨v0, hv0⟩ : ∃ v, cs'[0]? = some v := ⟨_, List.getElem?_eq_getElem (by omega)⟩
      have hc0 := (g2 0 (by omega)).trans hv0
      have := World.cell?_spot hc0
      simpa [Addr.add] using this
     have each : ∀ i, i < len → ∃ e' : AV, (a.spot = none ∧ ∃ y, Rep w (fun b => b < w.heap.size) e' y ∧ y.cells.size = P.cellsOf e ∧ e'.cells.length = P.cellsOf e ∧ a.block < w.heap.size ∧ At w a.block (a.off + i * P.cellsOf e) y.cells.toList) ∧ e'.isAgg = structB P e ∧ Dat P e e'.cells := by
      intro i hi
      have hs := spt (by omega)
      have h1 := hel i hi
      rw [List.getElem?_eq_getElem (by omega)] at h1
      obtain ⟨cs', h2, h3⟩ := Option.bind_eq_some_iff.1 h1
      obtain ⟨al, k1, k2⟩ := ih _ _ _ h3 hp.2
      obtain ⟨_, g1, g2⟩ := World.cells?_some h2
      have hk := k1.length
      obtain ⟨v0, hv0⟩ : ∃ v, cs'[0]? = some v := ⟨_, List.getElem?_eq_getElem (by omega)⟩
      have hc0 := (g2 0 (by omega)).trans hv0
      have hlt : a.block < w.heap.size := by
       have := World.block_lt_of_cell? _ _ hc0
       obtain ⟨b, o, s⟩ := a
       simp only at hs; subst hs
       simpa [add_addr] using this
      have hat : At w a.block (a.off + i * P.cellsOf e) cs' := by
       intro j y hj
       have hj' := (List.getElem?_eq_some_iff.1 hj).1
       have := g2 j (by omega)
       obtain ⟨b, o, s⟩ := a
       simp only at hs; subst hs
       rw [add_addr, add_addr, hj] at this
       exact this
      cases hs' : structB P e with
      | true =>
       exact ⟨.agg al, ⟨hs, .agg cs'.toArray, by simp only [Rep]; exact ⟨_, rfl, by simpa using k1⟩, by simpa [Value.cells] using g1, by simp [AV.cells]; omega, hlt, by simpa [Value.cells] using hat⟩, rfl, k2⟩
      | false =>
       obtain ⟨c, rfl, hna, hc⟩ := k2.one hs'
       simp only [RepL] at k1
       obtain ⟨y, ys, rfl, k1, rfl⟩ := k1
       have hy : y.cells = #[y] ∧ c.cells = [c] := by
        rcases hc with ⟨x, rfl⟩ | ⟨nl, sz, es, rfl⟩
        ·simp only [Rep] at k1
         obtain ⟨rfl, k1⟩ := k1
         cases y <;> simp [Value.oneCell'] at k1 <;> simp [Value.cells, AV.cells]
        ·simp only [Rep] at k1
         obtain ⟨_, _, _, rfl, _⟩ := k1
         simp [Value.cells, AV.cells]
       exact ⟨c, ⟨hs, y, k1, by rw [hy.1]; simpa using g1, by rw [hy.2]; simpa using g1, hlt, by rw [hy.1]; exact hat⟩, hna, by rw [hy.2]; exact k2⟩
     obtain ⟨es, q1, q2⟩ := choose_list len each
     refine ⟨[.sl false (P.cellsOf e) es], ?_, .sl hu (by omega) (fun x hx => ?_) (fun x hx => ?_)⟩
     ·simp only [RepL]
      refine ⟨_, _, rfl, ?_, rfl⟩
      simp only [Rep]
      refine ⟨some a, len, cap, rfl, q1.symm, hl, hm, .inr ?_⟩
      by_cases hz : len = 0
      ·exact .inr ⟨⟨a, rfl⟩, trivial, List.length_eq_zero_iff.1 (by omega)⟩
      ·refine .inl ⟨a.block, a.off, ?_, trivial, RepRow.mk fun i e' hi => ?_⟩
       ·obtain ⟨z, hz'⟩ : ∃ z, es[0]? = some z := ⟨_, List.getElem?_eq_getElem (by omega)⟩
        have := (q2 0 z hz').1.1
        obtain ⟨b, o, s⟩ := a
        simp only at this; subst this; rfl
       ·exact (q2 i e' hi).1.2
     ·obtain ⟨i, hi⟩ := List.getElem?_of_mem hx
      exact (q2 i x hi).2.1
     ·obtain ⟨i, hi⟩ := List.getElem?_of_mem hx
      exact (q2 i x hi).2.2
   | struct fs =>
    simp only [Bool.and_eq_true] at hp
    obtain ⟨xs, n', hn, _, hl, hxl, hf⟩ := DataW.trod_struct hu h
    simp only [Nat.add_right_cancel_iff] at hn; subst hn
    obtain ⟨pss, k1, k2, k3⟩ := trod_fields (fun t cs x hx hp => ih t cs x hx hp) fs.toList 0 cs (by rw [hl]; exact hp.1) hp.2 (fun i f hi => by
     have hi' : fs[i]? = some f := by simpa using hi
     have := hf i f hi'
     have hlt := (Array.getElem?_eq_some_iff.1 hi').1
     rw [List.getElem?_eq_getElem (by omega)] at this
     exact ⟨_, this⟩)
    exact ⟨pss.flatten, by simpa using k1, .struct hu (by simpa using k2) (fun i f ps h1 h2 => k3 i f ps (by simpa using h1) h2)⟩
   | _ => simp at hp
end
def DatE (P : Program) (t : TypeId) (a : AV) : Prop := a.isAgg = structB P t ∧ Dat P t a.cells
section
variable {P : Program} {t : TypeId} {a : AV}
theorem cells_one (h : a.isAgg = false) : a.cells = [a] := by cases a <;> first | rfl | simp [AV.isAgg] at h
theorem DatE.int {k : IntKind} (h : DatE P t a) (hu : P.underlying t = some (.int k)) : ∃ n, a = .v (.int k n) ∧ (Lit.int k n).wf = true := by
 obtain ⟨h1, h2⟩ := h
 have hs : structB P t = false := by simp [structB, hu]
 rw [cells_one (h1.trans hs)] at h2
 generalize ha : [a] = l at h2
 cases h2 <;> simp_all
theorem DatE.slice {e : TypeId} (h : DatE P t a) (hu : P.underlying t = some (.slice e)) : ∃ nl es, a = .sl nl (P.cellsOf e) es ∧ es.length ≤ maxLen ∧ ∀ x ∈ es, DatE P e x := by
 obtain ⟨h1, h2⟩ := h
 have hs : structB P t = false := by simp [structB, hu]
 rw [cells_one (h1.trans hs)] at h2
 generalize hal : [a] = l at h2
 cases h2 with
 | nilSl hu' => rw [hu] at hu'; simp at hu' hal; subst hu'; exact ⟨true, [], hal, by simp, by simp⟩
 | sl hu' hl ha hd => rw [hu] at hu'; simp at hu' hal; subst hu'; exact ⟨false, _, hal, hl, fun x hx => ⟨ha x hx, hd x hx⟩⟩
 | struct hu' => rw [hu] at hu'; simp at hu'
 | _ => simp_all
theorem list_of {α : Type} {f : α → AV} {Q : α → Prop} : ∀ {es : List AV}, (∀ x ∈ es, ∃ y, x = f y ∧ Q y) → ∃ ys : List α, es = ys.map f ∧ ∀ y ∈ ys, Q y
 | [], _ => ⟨[], rfl, by simp⟩
 | e :: es, h => by
  obtain ⟨y, rfl, hy⟩ := h e (by simp)
  obtain ⟨ys, rfl, hys⟩ := list_of (es := es) (fun x hx => h x (by simp [hx]))
  exact ⟨y :: ys, rfl, by simpa using ⟨hy, hys⟩⟩
end
open Go Go.RowKit Go.ChangeShapes Go.WideShapes Go.ChangeAt
def DatL (P : Program) : List TypeId → List AV → Prop
 | [], al => al = []
 | t :: ts, al => ∃ a al', al = a :: al' ∧ DatE P t a ∧ DatL P ts al'
section
variable {H : Type} {enc : TypeId × Value → H} {P : Program} {w : World} {spare : Nat → Bool} {held : Bool}
theorem trod_arg {t : TypeId} {v : Value} {d : DataW H} {ps : List MemPlace} {r : Reach} {base : Nat} (h : DataW.Trod enc P w 0 spare held t v d ps) {m : Nat} (hp : plainB P m t = true) (hv : Value.okWide P w r base t v) :
  ∃ a : AV, Rep w (fun b => b < w.heap.size) a v ∧ a.isAgg = structB P t ∧ Dat P t a.cells := by
 obtain ⟨fuel, hf⟩ := h
 obtain ⟨al, h1, h2⟩ := trod_dat fuel m t _ _ hf hp
 cases m with
 | zero => simp [plainB] at hp
 | succ m =>
  cases hs : structB P t with
  | true =>
   unfold structB at hs
   split at hs
   ·rename_i fs hu
    simp only [Value.okWide, hu] at hv
    obtain ⟨cs, rfl, _⟩ := hv
    exact ⟨.agg al, by simp only [Rep]; exact ⟨_, rfl, by simpa [Value.cells] using h1⟩, rfl, h2⟩
   ·simp at hs
  | false =>
   obtain ⟨a, rfl, ha, hc⟩ := h2.one hs
   simp only [RepL] at h1
   obtain ⟨y, ys, hy, h1, rfl⟩ := h1
   have hvy : v.cells = #[v] := by
    cases hu : P.underlying t with
    | none => simp [plainB, hu] at hp
    | some d =>
     cases d with
     | bool => obtain ⟨b, rfl⟩ := okWide_bool hu hv; rfl
     | int k => obtain ⟨b, rfl⟩ := okWide_int hu hv; rfl
     | string => obtain ⟨b, rfl⟩ := okWide_string hu hv; rfl
     | slice e => obtain ⟨a, b, c, rfl⟩ := okWide_slice hu hv; rfl
     | struct fs => simp [structB, hu] at hs
     | _ => simp [plainB, hu] at hp
   rw [hvy] at hy
   simp only [List.cons.injEq, and_true] at hy
   subst hy
   have : a.cells = [a] := by rcases hc with ⟨x, rfl⟩ | ⟨_, _, _, rfl⟩ <;> rfl
   exact ⟨a, h1, ha, by rw [this]; exact h2⟩
theorem trod_args : ∀ {ts : List TypeId} {vs : List Value} {ds : List (DataW H)} {ps : List MemPlace} {r : Reach} {base : Nat}, DataW.TrodAll enc P w 0 spare held ts vs ds ps → ts.all (plainB P 30) = true →
  (∀ (j : Nat) t v, ts[j]? = some t → vs[j]? = some v → Value.okWide P w r base t v) → ∃ al, RepL w (fun b => b < w.heap.size) al vs ∧ DatL P ts al
 | [], [], [], _, _, _, h, _, _ => ⟨[], by simp [RepL], by simp [DatL]⟩
 | t :: ts, v :: vs, d :: ds, ps, r, base, h, hp, hv => by
  simp only [DataW.TrodAll] at h
  obtain ⟨p, q, h1, h2, rfl⟩ := h
  simp only [List.all_cons, Bool.and_eq_true] at hp
  obtain ⟨a, k1, k2⟩ := trod_arg h1 hp.1 (hv 0 t v rfl rfl)
  obtain ⟨al, k3, k4⟩ := trod_args h2 hp.2 (fun j t v ht hv' => hv (j + 1) t v (by simpa using ht) (by simpa using hv'))
  exact ⟨a :: al, by simp only [RepL]; exact ⟨v, vs, rfl, k1, k3⟩, by simp only [DatL]; exact ⟨a, al, rfl, k2, k4⟩⟩
 | [], _ :: _, _, _, _, _, h, _, _ => by simp [DataW.TrodAll] at h
 | [], [], _ :: _, _, _, _, h, _, _ => by simp [DataW.TrodAll] at h
 | _ :: _, [], _, _, _, _, h, _, _ => by simp [DataW.TrodAll] at h
 | _ :: _, _ :: _, [], _, _, _, h, _, _ => by simp [DataW.TrodAll] at h
theorem trodAll_below {W W' : World} (hl : laidOutB P = true) (hb : Below W.heap.size W W') : ∀ {ts : List TypeId} {vs : List Value} {ds : List (DataW H)} {ps : List MemPlace}, DataW.TrodAll enc P W 0 (fun _ => true) true ts vs ds ps →
  ts.all (fun t => P.readableRec t && decide (t < P.types.size)) = true → DataW.TrodAll enc P W' 0 (fun b => decide (b < W.heap.size)) true ts vs ds ps
 | [], [], [], _, h, _ => by simpa [DataW.TrodAll] using h
 | t :: ts, v :: vs, d :: ds, ps, h, hp => by
  simp only [DataW.TrodAll] at h ⊢
  obtain ⟨p, q, h1, h2, rfl⟩ := h
  simp only [List.all_cons, Bool.and_eq_true, decide_eq_true_eq] at hp
  exact ⟨p, q, Below.trod hl hp.1.1 hp.1.2 h1 hb (by obtain ⟨m, hm⟩ := h1; exact DataW.trod_lt m _ _ _ hm), trodAll_below hl hb h2 hp.2, rfl⟩
 | [], _ :: _, _, _, h, _ => by simp [DataW.TrodAll] at h
 | [], [], _ :: _, _, h, _ => by simp [DataW.TrodAll] at h
 | _ :: _, [], _, _, h, _ => by simp [DataW.TrodAll] at h
 | _ :: _, _ :: _, [], _, h, _ => by simp [DataW.TrodAll] at h
theorem trodAll_len : ∀ {ts : List TypeId} {vs : List Value} {ds : List (DataW H)} {ps : List MemPlace}, DataW.TrodAll enc P w 0 spare held ts vs ds ps → ds.length = ts.length
 | [], [], [], _, _ => rfl
 | t :: ts, v :: vs, d :: ds, ps, h => by
  simp only [DataW.TrodAll] at h
  obtain ⟨p, q, h1, h2, rfl⟩ := h
  simp [trodAll_len h2]
 | [], _ :: _, _, _, h => by simp [DataW.TrodAll] at h
 | [], [], _ :: _, _, h => by simp [DataW.TrodAll] at h
 | _ :: _, [], _, _, h => by simp [DataW.TrodAll] at h
 | _ :: _, _ :: _, [], _, h => by simp [DataW.TrodAll] at h
end
theorem below_of_frm {W W' : World} (h : Frm (fun _ => False) W W') : Below W.heap.size W W' := ⟨h.os, h.tape, h.output, h.size, fun k hk => h.block k hk (fun h => h)⟩
open Go Go.RowKit
section
variable {live : List Bool} {Q : Exit → ASt → Prop} {f : ASt → Option ASt}
theorem regS_ite {p : Prop} [Decidable p] {x y : Option ASt} : regS live Q (bindS f (if p then x else y)) = ((p → regS live Q (bindS f x)) ∧ (¬ p → regS live Q (bindS f y))) := by
 by_cases h : p <;> simp [h]
theorem pickAV_bool {t a b : Bool} : pickAV t (.v (.bool a)) (.v (.bool b)) = .v (.bool (bif t then a else b)) := by cases t <;> rfl
end
theorem allS_map {xs : List Int} : allS (xs.map fun n => .v (.int .i64 n)) = true := by simp [allS, scal]
theorem allS_v {x : Value} : allS [.v x] = true := rfl
theorem allS_rep {x : Value} {n : Nat} : allS (List.replicate n (.v x)) = true := by simp [allS, scal]
theorem allS_take {es : List AV} {n : Nat} (h : allS es = true) : allS (es.take n) = true := by
 simp only [allS, List.all_eq_true] at h ⊢
 exact fun e he => h e (List.mem_of_mem_take he)
theorem nn1 {k : Nat} : (0 ≤ (k : Int) + 1) = True := by simp; omega
theorem tn1 {k : Nat} : ((k : Int) + 1).toNat = k + 1 := by omega
theorem nz1 {k : Nat} : (((k : Int) + 1) == 0) = false := by simp; omega
theorem nz1' {k : Nat} : ((k : Int) + 1 = 0) = False := by simp; omega
theorem lt1 {a b : Nat} : ((a : Int) + 1 < (b : Int)) = (a + 1 < b) := by simp; omega
mutual
def lens : AV → Prop
 | .v _ => True
 | .agg cs => lensL cs
 | .tup cs => lensL cs
 | .sl nl _ es => (es.length ≤ 9223372036854775807 ∧ (nl = true → es = [])) ∧ lensL es
 | .fp e _ => lens e
 | .fn _ cs => lensL cs
 | .ref _ _ _ _ => True
 | .ptr _ _ _ _ => True
 | .junk => True
def lensL : List AV → Prop
 | [] => True
 | c :: cs => lens c ∧ lensL cs
end
theorem lensL_iff : ∀ {l : List AV}, lensL l ↔ ∀ x ∈ l, lens x
 | [] => by simp [lensL]
 | c :: cs => by simp [lensL, lensL_iff (l := cs)]
mutual
theorem Rep.lens {w : World} {F : Nat → Prop} : ∀ (a : AV) (y : Value), Rep w F a y → Ax.lens a
 | .v _, _, _ => by simp [Ax.lens]
 | .agg cs, y, k => by simp only [Rep, Ax.lens] at k ⊢; obtain ⟨ys, rfl, k⟩ := k; exact RepL.lens cs _ k
 | .tup cs, y, k => by simp only [Rep, Ax.lens] at k ⊢; obtain ⟨ys, rfl, k⟩ := k; exact RepL.lens cs _ k
 | .sl nl sz es, y, k => by
  simp only [Rep, Ax.lens] at k ⊢
  obtain ⟨a, len, cap, rfl, h1, h2, h3, k⟩ := k
  refine ⟨⟨by simp only [maxLen] at h3; omega, fun hnl => ?_⟩, ?_⟩
  ·rcases k with ⟨_, _, h, _⟩ | ⟨_, _, _, h, _⟩ | ⟨_, h, _⟩
   ·exact List.length_eq_zero_iff.1 (by omega)
   ·rw [h] at hnl; simp at hnl
   ·rw [h] at hnl; simp at hnl
  ·rcases k with ⟨_, _, h, _⟩ | ⟨b, o, _, _, k⟩ | ⟨_, _, h⟩
   ·rw [List.length_eq_zero_iff.1 (show es.length = 0 by omega)]; simp [lensL]
   ·exact RepRow.lens b sz o es k
   ·rw [h]; simp [lensL]
 | .fp e j, y, k => by simp only [Rep, Ax.lens] at k ⊢; obtain ⟨b, o, x, rfl, k, _⟩ := k; exact Rep.lens e x k
 | .fn f cs, y, k => by simp only [Rep, Ax.lens] at k ⊢; obtain ⟨ys, rfl, k⟩ := k; exact RepL.lens cs _ k
 | .ref _ _ _ _, _, _ => by simp [Ax.lens]
 | .ptr _ _ _ _, _, _ => by simp [Ax.lens]
 | .junk, _, _ => by simp [Ax.lens]
theorem RepL.lens {w : World} {F : Nat → Prop} : ∀ (a : List AV) (y : List Value), RepL w F a y → lensL a
 | [], _, _ => by simp [lensL]
 | c :: cs, y, k => by
  simp only [RepL, lensL] at k ⊢
  obtain ⟨y, ys, rfl, k1, k2⟩ := k
  exact ⟨Rep.lens c y k1, RepL.lens cs ys k2⟩
theorem RepRow.lens {w : World} {F : Nat → Prop} (b sz : Nat) : ∀ (o : Nat) (es : List AV), RepRow w F b sz o es → lensL es
 | _, [], _ => by simp [lensL]
 | o, e :: es, k => by
  simp only [RepRow, lensL] at k ⊢
  obtain ⟨⟨x, k1, _⟩, k2⟩ := k
  exact ⟨Rep.lens e x k1, RepRow.lens b sz (o + sz) es k2⟩
end
theorem lensL_map {α : Type} {f : α → AV} {l : List α} : lensL (l.map f) ↔ ∀ x ∈ l, lens (f x) := by simp [lensL_iff]
section
variable {P : Program} {C : Ctx}
theorem callOk_awp (hC : C.Ok P) (hm : P.follows .mixedOrders = true) {live : List Bool} {dt : List (Nat × RD)} {f : FuncId} {fn : Func} {c : Code} {args : List AV} {r : AV} (hf : P.funcs[f]? = some fn) (hb : fn.body = some c) (hname : (fn.name == "runtime.NumGoroutine") = false) (hck : codeOk dt [] c = true)
  (h : ∀ w0, lensL args → awp P C live (noLd dt) w0 c ⟨args ++ List.replicate (fn.ntmps - args.length) .junk, []⟩ (doneS C fn.results.toList r)) : CallOk P f args r := by
 by_cases hl : lensL args
 ·exact callOk_of_awp hC hm hf hb hname hck fun w0 => h w0 hl
 ·refine ⟨⟨fn, hf, hname, by rw [hb]; rfl⟩, fun w F vals hF hvals => (hl (RepL.lens _ _ hvals)).elim⟩
theorem frzOk_awp (hC : C.Ok P) (hm : P.follows .mixedOrders = true) {live : List Bool} {dt : List (Nat × RD)} {f : FuncId} {fn : Func} {c : Code} {args : List AV} {r : AV} (hf : P.funcs[f]? = some fn) (hb : fn.body = some c) (hname : (fn.name == "runtime.NumGoroutine") = false) (hck : codeOk dt [] c = true)
  (h : ∀ A w0, lensL args → awp P C live (frzLd A dt) w0 c ⟨args ++ List.replicate (fn.ntmps - args.length) .junk, []⟩ (doneF C fn.results.toList r)) : FrzOk P f args true r := by
 by_cases hl : lensL args
 ·exact frzOk_of_awp hC hm hf hb hname hck fun A w0 => h A w0 hl
 ·refine ⟨⟨fn, hf, hname, by rw [hb]; rfl⟩, fun w F vals hF hvals => (hl (RepL.lens _ _ hvals)).elim⟩
theorem inBlock_mono {id : Nat} {Q Q' : Exit → ASt → Prop} (h : ∀ e s, Q e s → Q' e s) : ∀ e s, inBlock id Q e s → inBlock id Q' e s
 | .normal, s, k => h _ s k
 | .exit id', s, k => by
  simp only [inBlock] at k ⊢
  split
  ·rename_i e; rw [if_pos e] at k; exact h _ _ k
  ·rename_i e; rw [if_neg e] at k; exact h _ _ k
 | .goto _, _, k => h _ _ k
 | .ret, _, k => h _ _ k
 | .panic _, _, k => h _ _ k
 | .outgrown, _, k => h _ _ k
theorem andThen_imp {N N' : ASt → Prop} {Q Q' : Exit → ASt → Prop} (hn : ∀ s, N s → N' s) (h : ∀ e s, Q e s → Q' e s) : ∀ e s, andThen N Q e s → andThen N' Q' e s
 | .normal, s, k => hn s k
 | .exit _, _, k => h _ _ k
 | .goto _, _, k => h _ _ k
 | .ret, _, k => h _ _ k
 | .panic _, _, k => h _ _ k
 | .outgrown, _, k => h _ _ k
theorem awp_mono {live : List Bool} {U : Ld} {w0 : World} : ∀ (c : Code) (st : ASt) (Q Q' : Exit → ASt → Prop), awp P C live U w0 c st Q → (∀ e s, Q e s → Q' e s) → awp P C live U w0 c st Q'
 | .skip, _, _, _, h, hq => hq _ _ h
 | .region _ _ _, _, _, _, h, hq => by obtain ⟨fin, h1, h2⟩ := h; exact ⟨fin, h1, hq _ _ h2⟩
 | .seq x y, st, _, _, h, hq => awp_mono x st _ _ h (andThen_imp (fun s hs => awp_mono y s _ _ hs hq) hq)
 | .cond c x y, st, _, _, h, hq => by
  obtain ⟨t, h1, h2, h3⟩ := h
  exact ⟨t, h1, fun ht => awp_mono x st _ _ (h2 ht) hq, fun ht => awp_mono y st _ _ (h3 ht) hq⟩
 | .block id x, st, _, _, h, hq => awp_mono x st _ _ h (inBlock_mono hq)
 | .exit _, _, _, _, h, hq => hq _ _ h
 | .ret, _, _, _, h, hq => hq _ _ h
 | .loop _, _, _, _, h, hq => Tr.weak h hq
 | .rangeFunc _ _ _ _, _, _, _, h, hq => Tr.weak h hq
 | .scope _, _, _, _, h, hq => Tr.weak h hq
 | .label _, _, _, _, h, hq => Tr.weak h hq
 | .goto _, _, _, _, h, hq => Tr.weak h hq
 | .refuse _, _, _, _, h, hq => Tr.weak h hq
def rngS (N : ASt → Prop) (Q : Exit → ASt → Prop) : Exit → ASt → Prop := andThen N Q
theorem rngS_normal {N : ASt → Prop} {Q : Exit → ASt → Prop} {s : ASt} : rngS N Q .normal s = N s := rfl
theorem rngS_exit {N : ASt → Prop} {Q : Exit → ASt → Prop} {s : ASt} {id : Nat} : rngS N Q (.exit id) s = Q (.exit id) s := rfl
theorem rngS_ret {N : ASt → Prop} {Q : Exit → ASt → Prop} {s : ASt} : rngS N Q .ret s = Q .ret s := rfl
theorem awp_range (hC : C.Ok P) (hm : P.follows .mixedOrders = true) {live : List Bool} {U : Ld} {w0 : World} (lv : List Bool) {c : Code} {st : ASt} {Q : Exit → ASt → Prop} (n : Nat) (p : Nat → Prop) (I : Nat → ASt) (hn : n ≤ 9223372036854775807)
  (h0 : sub (clean lv st) (I 0)) (hp : p 0)
  (hstep : ∀ k, k < n → p k → IntKind.i64.wrap ((k : Int) + 1) = (k : Int) + 1 → awp P C live U w0 c (I k) (rngS (fun s => sub (clean lv s) (I (k + 1)) ∧ p (k + 1)) Q))
  (hend : p n → awp P C live U w0 c (I n) (rngS (fun _ => False) Q)) : Tr P U w0 (.loop c) st Q := by
 refine awp_loop_of (live := live) hC hm lv (α := {k : Nat // k ≤ n ∧ p k}) (fun k => I k.1) (fun k => n - k.1) ⟨0, Nat.zero_le _, hp⟩ h0 ?_
 rintro ⟨k, hk, hpk⟩
 by_cases h : k < n
 ·exact awp_mono _ _ _ _ (hstep k h hpk (wrapI (by omega) (by omega))) (andThen_mono fun s hs => ⟨⟨k + 1, h, hs.2⟩, hs.1, by simp; omega⟩)
 ·obtain rfl : k = n := by omega
  exact awp_mono _ _ _ _ (hend hpk) (andThen_mono fun s hs => hs.elim)
end
open Go Go.RowKit
def resM (C : Ctx) (s : ASt) (rs : List ResultVar) (pos : Nat) : Option (AV × AV) :=
 match resVars C s rs, s.slots.getD pos .junk with
 | some q, .ref t [] 0 n => (match s.toks[t]? with
  | some tk => (match tk.row with
   | .sl nl sz es => if tk.deep = true ∧ n = es.length ∧ q.2 = [] then some (pack q.1, .sl nl sz es) else none
   | _ => none)
  | none => none)
 | _, _ => none
def doneM (C : Ctx) (rs : List ResultVar) (pos : Nat) (r row' : AV) : Exit → ASt → Prop := fun e s => (e = .normal ∨ e = .ret) ∧ resM C s rs pos = some (r, row')
theorem doneM_normal {C : Ctx} {rs : List ResultVar} {pos : Nat} {r row' : AV} {s : ASt} : doneM C rs pos r row' .normal s = (resM C s rs pos = some (r, row')) := by simp [doneM]
theorem doneM_ret {C : Ctx} {rs : List ResultVar} {pos : Nat} {r row' : AV} {s : ASt} : doneM C rs pos r row' .ret s = (resM C s rs pos = some (r, row')) := by simp [doneM]
theorem Excl.deepF {w : World} {F F' S : Nat → Prop} {nl : Bool} {sz : Nat} {es : List AV} {y : Value} (h : Excl w true F S nl sz es y) : Excl w true F' S nl sz es y := Excl.of_own (Own.deepF _ _ h.own)
theorem ref_whole {w : World} {E : Env} {toks : List Tok} {t n : Nat} {tk : Tok} {nl : Bool} {sz : Nat} {es : List AV} {y : Value} (h : RefOk w E toks t [] 0 n y) (htk : toks[t]? = some tk) (hrow : tk.row = .sl nl sz es) (hn : n = es.length)
  {d : Bool} {F S : Nat → Prop} (hex : Excl w d F S nl sz es (E.hd t)) : y = E.hd t := by
 subst hn
 obtain ⟨hv, g1, g2⟩ := h.2 tk nl sz es htk (by simp [getAt, hrow]) (by omega)
 simp only [follow, Option.some.injEq] at g1
 rw [g1]
 obtain ⟨a1, l, c, hhd, hl, _⟩ := hex
 rw [g1] at hhd
 rcases g2 with ⟨q1, q2⟩ | ⟨_, q2, _⟩ | ⟨b, o, hl', hc, o', q1, q2, q3⟩
 ·rw [q1, q2]
 ·exact q2
 ·rw [q1] at hhd ⊢
  simp only [Value.slice.injEq] at hhd
  rw [q2]
  have : o' = o + 0 * sz := q3.resolve_right (fun h => h.2.1 rfl)
  rw [this]; simp
  omega
section
variable {P : Program} {C : Ctx}
def mkLdN (nm : Bool) (S : Nat → Prop) (idx : List Nat) (v : Value) (dt : List (Nat × RD)) : Ld := ⟨S, idx, fun _ => v, dt, none, fun _ => True, nm⟩
theorem mutOk_of_tr (nm : Bool) (hC : C.Ok P) {dt : List (Nat × RD)} {f : FuncId} {fn : Func} {c : Code} {args : List AV} {pos : Nat} {nl : Bool} {sz : Nat} {es es' : List AV} {r : AV} (hpos : args[pos]? = some (.sl nl sz es))
  (hf : P.funcs[f]? = some fn) (hb : fn.body = some c) (hname : (fn.name == "runtime.NumGoroutine") = false) (hck : codeOk dt [pos] c = true)
  (h : ∀ (US : Nat → Prop) (Uv : Value) (w0 : World), lens (.sl nl sz es) → Tr P (mkLdN nm US [pos] Uv dt) w0 c ⟨args.set pos (.ref 0 [] 0 es.length) ++ List.replicate (fn.ntmps - args.length) .junk, [⟨true, .sl nl sz es⟩]⟩ (doneM C fn.results.toList pos r (.sl nl sz es'))) : MutOk P f args pos r (.sl nl sz es') := by
 refine ⟨⟨fn, hf, hname, by rw [hb]; rfl⟩, nl, sz, es, es', hpos, rfl, fun w F S vals hd hF hS hlen hargs hvp hex => ?_⟩
 have hpl : pos < args.length := (List.getElem?_eq_some_iff.1 hpos).1
 refine (callsIn_wide (n := 0)).1 (callsIn_of_wp_marks hf hb trivial ?_)
 let E : Env := { F := F, hd := fun _ => hd, S := fun t b => t = 0 ∧ S b }
 let U : Ld := mkLdN nm S [pos] hd dt
 have hgetv : ∀ i, i < args.length → (vals ++ Array.replicate (fn.ntmps - vals.size) undef).getD i undef = vals.getD i undef := fun i hi => by
  rw [Array.getD_eq_getD_getElem?, Array.getElem?_append_left (by omega), Array.getD_eq_getD_getElem?]
 have hlens : lens (.sl nl sz es) := Rep.lens _ _ (Own.rep _ _ hex.own)
 have hs : SR U w ⟨args.set pos (.ref 0 [] 0 es.length) ++ List.replicate (fn.ntmps - args.length) .junk, [⟨true, .sl nl sz es⟩]⟩ E { tmps := vals ++ Array.replicate (fn.ntmps - vals.size) undef, defers := [] } w := by
  refine ⟨Marks.nil hF.gl (fun _ _ => .inl trivial), by simp [hlen], fun i x hi => ?_, hF.lt, fun t tk ht => ?_, fun t b hb => ⟨(hS b hb.2).1, (hS b hb.2).2, .inr hb.2⟩, fun t t' b hne hb hb' => hne (by rw [hb.1, hb'.1]), Frm.refl _ _, fun i hi => ?_⟩
  ·by_cases hlt : i < args.length
   ·rw [List.getElem?_append_left (by simpa using hlt)] at hi
    rw [hgetv i hlt]
    by_cases hip : i = pos
    ·subst hip
     rw [List.getElem?_set_self hpl] at hi
     obtain rfl := Option.some.inj hi
     rw [Array.getD_eq_getD_getElem?, hvp]
     simp only [SRep, Option.getD_some]
     refine ⟨by simp, fun tk nl' sz' es'' h1 h2 h3 => ?_⟩
     simp at h1; subst h1
     simp only [getAt, AV.sl.injEq] at h2
     obtain ⟨rfl, rfl, rfl⟩ := h2
     refine ⟨hd, by simp [follow, E], ?_⟩
     obtain ⟨a1, l, cap, hv, h1, h2, _, h4⟩ := hex
     subst hv
     rcases h4 with ⟨rfl, _, rfl, rfl⟩ | ⟨b, o, _, _, rfl, _⟩
     ·exact .inl ⟨rfl, rfl⟩
     ·exact .inr (.inr ⟨b, o, l, cap, o, rfl, by rw [h1]; simp, .inl (by omega)⟩)
    ·rw [List.getElem?_set_ne (fun e => hip e.symm)] at hi
     obtain ⟨y, h1, h2⟩ := hargs i x hip hi
     rw [Array.getD_eq_getD_getElem?, h1]
     exact SRep.of_rep (E := E) _ _ h2
   ·rw [List.getElem?_append_right (by simpa using hlt)] at hi
    have := List.mem_of_getElem? hi
    rw [List.mem_replicate] at this
    rw [this.2]; simp [SRep]
  ·cases t with
   | zero =>
    simp at ht; subst ht
    refine .inr ⟨nl, sz, es, rfl, ?_⟩
    have h0 : Excl w true F S nl sz es hd := hex.deepF
    exact h0.weak (fun _ h => h) (fun b hb => ⟨rfl, hb⟩) (Agree.refl _ _)
   | succ t => simp at ht
  ·simp only [U, mkLdN, List.mem_singleton] at hi
   subst hi
   rw [hgetv i hpl, Array.getD_eq_getD_getElem?, hvp]; rfl
 refine h S hd w hlens hck E _ w hs _ fun e st' E' a' w' hq hs' => ?_
 obtain ⟨he, hr⟩ := hq
 -- the end
 have hend : LeavesInM Fence.wide 0 P fn a'.tmps (fun e w' => ∃ (y : Value) (S' Sr : Nat → Prop), e = .returned y ∧ Frm S w w' ∧ (∀ b, S' b → S b ∨ (w.heap.size ≤ b ∧ b < w'.heap.size)) ∧ (∀ b, Sr b → w.heap.size ≤ b ∧ b < w'.heap.size) ∧ (∀ b, S' b → ¬ Sr b) ∧
   Own w' true (fun _ => False) Sr r y ∧ Excl w' true (fun _ => False) S' nl sz es' hd) a'.defers .returning w' := by
  obtain ⟨Ds, m1, m2, m3⟩ := hs'.defers.marks rfl
  rw [m1]
  refine leaves_marks Ds w' m2 (fun D hD => (m3 D hD).2.2) fun w2 n1 n2 n3 n4 n5 => ?_
  have hA : ∀ t b, E'.S t b → w2.heap[b]? = w'.heap[b]? := fun t b hb => n1 b fun hD => (hs'.slt t b hb).2.1 (m3 b hD).1
  have hfr2 : Frm S w w2 := ⟨n3.trans hs'.frame.os, n4.trans hs'.frame.tape, n5.trans hs'.frame.output, by rw [n2]; exact hs'.frame.size, fun b hb hU => (n1 b fun hD => by have := (m3 b hD).2.1; omega).trans (hs'.frame.block b hb hU)⟩
  unfold resM at hr
  split at hr
  ·rename_i q t n hq hsl
   split at hr
   ·rename_i tk htk
    split at hr
    ·rename_i nl2 sz2 es2 hrow
     split at hr
     ·rename_i hc
      obtain ⟨hdeep, hn, hq0⟩ := hc
      have hnd : q.2.Nodup := by rw [hq0]; exact List.nodup_nil
      have htq : t ∉ q.2 := by rw [hq0]; simp
      simp only [Option.some.injEq, Prod.mk.injEq, AV.sl.injEq] at hr
      obtain ⟨hpk, rfl, rfl, rfl⟩ := hr
      have hexc : Excl w' true E'.F (E'.S t) nl2 sz2 es2 (E'.hd t) := by
       rcases hs'.tok t tk htk with hj | ⟨nl', sz', es3, h1, h2⟩
       ·rw [hrow] at hj; simp at hj
       ·rw [hrow] at h1; simp only [AV.sl.injEq] at h1; obtain ⟨rfl, rfl, rfl⟩ := h1; rw [hdeep] at h2; exact h2
      have hsi : st'.slots[pos]? = some (.ref t [] 0 n) := by
       rw [List.getD_eq_getElem?_getD] at hsl
       cases hh : st'.slots[pos]? with
       | none => rw [hh] at hsl; simp at hsl
       | some z => rw [hh] at hsl; simpa using hsl
      have hsr := hs'.slot pos _ hsi
      simp only [SRep] at hsr
      have hpin := hs'.pin pos (by simp [mkLdN])
      have hy := ref_whole hsr htk hrow hn hexc
      rw [hpin] at hy
      have hhd : hd = E'.hd t := hy
      obtain ⟨ys, g1, g2⟩ := resVars_ok (w2 := w2) (F := fun _ => False) hC hs' hA _ q hq hnd
      have hSU : ∀ b, SU E' q.2 b → ¬ E'.S t b := fun b hb => by
       obtain ⟨t', ht', hb⟩ := hb
       exact fun h => hs'.sep t' t b (fun e => htq (e ▸ ht')) hb h
      have hrun : (results fn a'.tmps).run P w2 = .ok (if h : ys.toArray.size = 1 then ys.toArray[0] else .tuple ys.toArray) w2 := by
       rw [results_eq, Sem.run_bind, Array.mapM_eq_mapM_toList, Sem.run_map, g1]
       rfl
      have hown : Own w2 true (fun _ => False) (SU E' q.2) r (if h : ys.toArray.size = 1 then ys.toArray[0] else .tuple ys.toArray) := by rw [← hpk]; exact pack_ok g2
      have hexc2 : Excl w2 true (fun _ => False) (E'.S t) nl2 sz2 es2 (E'.hd t) := (hexc.deepF (F' := fun _ => False)).weak (fun _ h => h) (fun _ h => h) (fun b hb => hb.elim False.elim fun hb => hA t b hb)
      refine ⟨_, hrun, _, fun b => E'.S t b, fun b => SU E' q.2 b, rfl, hfr2, fun b hb => ?_, fun b hb => ?_, fun b hb hb' => hSU b hb' hb, hown, by rw [hhd]; exact hexc2⟩
      ·rcases (hs'.slt t b hb).2.2 with h | h
       ·exact .inr ⟨h, by rw [n2]; exact (hs'.slt t b hb).1⟩
       ·exact .inl h
      ·obtain ⟨t', ht', _⟩ := hb
       rw [hq0] at ht'; simp at ht'
     ·simp at hr
    ·simp at hr
   ·simp at hr
  ·simp at hr
 rcases he with rfl | rfl
 ·exact hend
 ·exact hend
def setSl : List Nat → List AV → List AV → List AV
 | i :: mv, x :: xs, l => setSl mv xs (l.set i x)
 | _, _, l => l
theorem setSl_get : ∀ {mv : List Nat} {xs l : List AV}, xs.length = mv.length → ∀ {i : Nat} {x : AV}, (setSl mv xs l)[i]? = some x → (i ∉ mv ∧ l[i]? = some x) ∨ ∃ j : Nat, mv[j]? = some i ∧ xs[j]? = some x
 | [], [], l, _, i, x, h => .inl ⟨by simp, h⟩
 | k :: mv, y :: xs, l, hl, i, x, h => by
  simp only [setSl] at h
  rcases setSl_get (by simpa using hl) h with ⟨h1, h2⟩ | ⟨j, h1, h2⟩
  ·by_cases e : i = k
   ·subst e
    right
    refine ⟨0, by simp, ?_⟩
    by_cases hlt : i < l.length
    ·rw [List.getElem?_set_self hlt] at h2; simpa using h2
    ·rw [List.getElem?_eq_none (by simpa using hlt)] at h2; simp at h2
   ·rw [List.getElem?_set_ne (fun h => e h.symm)] at h2
    exact .inl ⟨by simp [e, h1], h2⟩
  ·exact .inr ⟨j + 1, by simpa using h1, by simpa using h2⟩
 | [], _ :: _, _, hl, _, _, _ => by simp at hl
 | _ :: _, [], _, hl, _, _, _ => by simp at hl
theorem setSl_len : ∀ {mv : List Nat} {xs l : List AV}, (setSl mv xs l).length = l.length
 | [], _, _ => by simp [setSl]
 | _ :: _, [], _ => by simp [setSl]
 | k :: mv, x :: xs, l => by simp only [setSl]; rw [setSl_len]; simp
theorem internL_len : ∀ {xs : List AV} {toks : List Tok}, (internL toks xs).1.length = xs.length
 | [], _ => rfl
 | x :: xs, toks => by simp [internL, internL_len]
theorem movOk_of_tr (hC : C.Ok P) {dt : List (Nat × RD)} {f : FuncId} {fn : Func} {c : Code} {args : List AV} {mv : List Nat} {r : AV}
  (hf : P.funcs[f]? = some fn) (hb : fn.body = some c) (hname : (fn.name == "runtime.NumGoroutine") = false) (hck : codeOk dt [] c = true)
  (h : ∀ (US : Nat → Prop) (w0 : World), lensL args → Tr P (mkLd US [] undef dt) w0 c ⟨setSl mv (internL [] (mv.map fun i => args.getD i .junk)).1 args ++ List.replicate (fn.ntmps - args.length) .junk, (internL [] (mv.map fun i => args.getD i .junk)).2⟩ (doneS C fn.results.toList r)) : MovOk P f args mv r := by
 refine ⟨⟨fn, hf, hname, by rw [hb]; rfl⟩, fun w F S vals hF hS hlen hargs hown => ?_⟩
 refine (callsIn_wide (n := 0)).1 (callsIn_of_wp_marks hf hb trivial ?_)
 let E0 : Env := { F := F, hd := fun _ => undef, S := fun _ _ => False }
 let U : Ld := mkLd S [] undef dt
 have hgetv : ∀ i, i < args.length → (vals ++ Array.replicate (fn.ntmps - vals.size) undef).getD i undef = vals.getD i undef := fun i hi => by
  rw [Array.getD_eq_getD_getElem?, Array.getElem?_append_left (by omega), Array.getD_eq_getD_getElem?]
 have hmget : ∀ i (hi : i ∈ mv), ∃ j : Nat, mv[j]? = some i := fun i hi => List.mem_iff_getElem?.1 hi
 have hownget : ∀ (j i : Nat), mv[j]? = some i → Own w true (fun _ => False) S (args.getD i .junk) (vals.getD i undef) := fun j i hj => by
  obtain ⟨y, h1, h2⟩ := OwnL.get hown j (args.getD i .junk) (by rw [List.getElem?_map, hj]; rfl)
  rw [List.getElem?_map, hj] at h1
  simp only [Option.map_some, Option.some.injEq] at h1
  rw [h1]; exact h2
 have hlens : lensL args := lensL_iff.2 fun x hx => by
  obtain ⟨i, hi⟩ := List.mem_iff_getElem?.1 hx
  by_cases him : i ∈ mv
  ·obtain ⟨j, hj⟩ := hmget i him
   have := hownget j i hj
   rw [List.getD_eq_getElem?_getD, hi] at this
   exact Rep.lens _ _ (Own.rep _ _ this)
  ·obtain ⟨y, _, h2⟩ := hargs i x him hi
   exact Rep.lens _ _ h2
 have hs0 : SR U w ⟨setSl mv (mv.map fun _ => .junk) args ++ List.replicate (fn.ntmps - args.length) .junk, []⟩ E0 { tmps := vals ++ Array.replicate (fn.ntmps - vals.size) undef, defers := [] } w := by
  refine ⟨Marks.nil hF.gl (fun _ _ => .inl trivial), by simp [hlen, setSl_len], fun i x hi => ?_, hF.lt, fun t tk ht => by simp at ht, fun t b hb => hb.elim, fun t t' b _ hb => hb.elim, Frm.refl _ _, fun i hi => by simp [U, mkLd] at hi⟩
  by_cases hlt : i < args.length
  ·rw [List.getElem?_append_left (by simpa [setSl_len] using hlt)] at hi
   rw [hgetv i hlt]
   rcases setSl_get (by simp) hi with ⟨h1, h2⟩ | ⟨j, h1, h2⟩
   ·obtain ⟨y, k1, k2⟩ := hargs i x h1 h2
    rw [Array.getD_eq_getD_getElem?, k1]
    exact SRep.of_rep (E := E0) _ _ k2
   ·rw [List.getElem?_map, h1] at h2
    simp only [Option.map_some, Option.some.injEq] at h2
    subst h2; simp [SRep]
  ·rw [List.getElem?_append_right (by simpa [setSl_len] using hlt)] at hi
   have := List.mem_of_getElem? hi
   rw [List.mem_replicate] at this
   rw [this.2]; simp [SRep]
 obtain ⟨E1, e1, e2, e3, e4, e5, e6⟩ := internL_ok (F := fun _ => False) _ _ S [] E0 hs0 hown (fun b hb => ⟨.inr hb, (hS b hb).1, fun hA => hA.elim (hS b hb).2 fun ⟨_, h⟩ => h⟩)
 have hs : SR U w ⟨setSl mv (internL [] (mv.map fun i => args.getD i .junk)).1 args ++ List.replicate (fn.ntmps - args.length) .junk, (internL [] (mv.map fun i => args.getD i .junk)).2⟩ E1 { tmps := vals ++ Array.replicate (fn.ntmps - vals.size) undef, defers := [] } w := by
  refine ⟨e5.defers, by simp [hlen, setSl_len], fun i x hi => ?_, e5.flt, e5.tok, e5.slt, e5.sep, e5.frame, e5.pin⟩
  by_cases hlt : i < args.length
  ·rw [List.getElem?_append_left (by simpa [setSl_len] using hlt)] at hi
   rcases setSl_get (by simp [internL_len]) hi with ⟨h1, h2⟩ | ⟨j, h1, h2⟩
   ·obtain ⟨y, k1, k2⟩ := hargs i x h1 h2
    rw [hgetv i hlt, Array.getD_eq_getD_getElem?, k1]
    refine SRep.of_rep (E := E1) _ _ ?_
    rw [e1]; exact k2
   ·rw [hgetv i hlt]
    obtain ⟨y, k1, k2⟩ := SRepL.get e6 j x h2
    rw [List.getElem?_map, h1] at k1
    simp only [Option.map_some, Option.some.injEq] at k1
    subst k1; exact k2
  ·rw [List.getElem?_append_right (by simpa [setSl_len] using hlt)] at hi
   have := List.mem_of_getElem? hi
   rw [List.mem_replicate] at this
   rw [this.2]; simp [SRep]
 refine h S w hlens hck E1 _ w hs _ fun e st' E' a' w' hq hs' => ?_
 obtain ⟨he, hr⟩ := hq
 have hpost : LeavesInM Fence.wide 0 P fn a'.tmps (fun e w' => ∃ (y : Value) (S' : Nat → Prop), e = .returned y ∧ Frm S w w' ∧ (∀ b, S' b → (S b ∨ w.heap.size ≤ b) ∧ b < w'.heap.size) ∧ Own w' true (fun _ => False) S' r y) a'.defers .returning w' := by
  obtain ⟨Ds, m1, m2, m3⟩ := hs'.defers.marks rfl
  rw [m1]
  refine leaves_marks Ds w' m2 (fun D hD => (m3 D hD).2.2) fun w2 n1 n2 n3 n4 n5 => ?_
  obtain ⟨y, S', k1, k2, k3, k4⟩ := results_ok (w2 := w2) (F := fun _ => False) hC hs' (fun t b hb => n1 b fun hD => (hs'.slt t b hb).2.1 (m3 b hD).1) (by omega) hr
  exact ⟨y, k1, y, S', rfl, ⟨n3.trans hs'.frame.os, n4.trans hs'.frame.tape, n5.trans hs'.frame.output, by rw [n2]; exact hs'.frame.size, fun b hb hU => (n1 b fun hD => by have := (m3 b hD).2.1; omega).trans (hs'.frame.block b hb hU)⟩, fun b hb => ⟨(k2 b hb).symm, k3 b hb⟩, k4⟩
 rcases he with rfl | rfl
 ·exact hpost
 ·exact hpost
end
open Go Go.RowKit Go.ChangeShapes Go.WideShapes Go.ChangeAt
theorem laid_tail {P : Program} {x : String × DataW Unit} {l : List (String × DataW Unit)} {w : World} (h : laidMet P (x :: l) w) : laidMet P l w := by
 obtain ⟨ps, ⟨g, t, cs, fuel, p, q, h1, h2, h3, h4, h5, rfl⟩, hn, hc⟩ := h
 exact ⟨q, h5, (List.nodup_append.1 hn).2.1, fun b off hm => hc b off (List.mem_append.2 (.inr hm))⟩
theorem glT_of_tab {w : World} (h : Lib.TabIs Tryz.prog w "internal/strconv.uint64pow10" .u64 Lib.pow10Tab) : GlT (fun b => b < w.heap.size) w := by
 intro g hg
 unfold Lib.TabIs World.var? at h
 rw [hg] at h
 simp only [Option.bind_some] at h
 split at h
 ·rename_i cs x y hb
  obtain rfl := Option.some.inj h
  exact ⟨(Array.getElem?_eq_some_iff.1 hb).1, x, y, hb⟩
 ·cases h
theorem errG_of_laid {n nm : String} {d : DataW Unit} {rest : List (String × DataW Unit)} {g : Nat} {t : TypeId} {ms : Array (String × TypeId)} {w : World} (hg : Tryz.prog.globalNamed n = some g) (hty : (Tryz.prog.globals[g]?).map (·.type) = some t)
  (hi : Tryz.prog.underlying t = some (.interface ms)) (h : laidMet Tryz.prog ((n, .iface nm d) :: rest) w) : ErrG n (fun b => b < w.heap.size) w := by
 obtain ⟨ps, ⟨g', t', cs, fuel, p, q, hg', ht', hvar, hd, _, _⟩, _⟩ := h
 obtain rfl := Option.some.inj (hg.symm.trans hg')
 obtain rfl := Option.some.inj (hty.symm.trans ht')
 obtain ⟨_, u, v, hcs, _⟩ := iface_of_trod hi hd
 intro g2 hg2
 obtain rfl := Option.some.inj (hg.symm.trans hg2)
 unfold World.var? at hvar
 rw [hg] at hvar
 simp only [Option.bind_some] at hvar
 split at hvar
 ·rename_i cs' x y hb
  obtain rfl := Option.some.inj hvar
  have : cs' = #[.iface u v] := by apply Array.ext'; rw [hcs]
  subst this
  exact ⟨(Array.getElem?_eq_some_iff.1 hb).1, u, v, x, y, hb⟩
 ·cases hvar
theorem framedL {C : Checked} {os : Os} {started : os.Started} {H : Type} {enc : TypeId × Value → H} {f : FuncId} {fn : Func} {s : ChangeSpec} {conds : List PathCond} {tb : TypeId} {laid : List (String × DataW Unit)}
  (own : ownKnob C.prog.godebug = none) (noInit : C.prog.inits.idxOf? f = none) (hfn : C.prog.funcs[f]? = some fn)
  (witness : ∃ (w : World) (tape : Tape) (i : Input), w.os = os ∧ (w.forCall tape i).Shaped C.prog ∧ i.vars = [] ∧ Input.okWide C.prog (w.forCall tape i) .any w.heap.size f i ∧
   ((s.pre enc C.prog fn conds false (w.forCall tape i).memory i.args ∧ laidMetH C.prog laid (w.forCall tape i).memory) ∧ sizedMet enc C.prog fn (OpenSpec.ofChange s) false (w.forCall tape i).memory i.args) ∧ ({} : Assume).holds C.prog (lone (Frame.enter C.prog f i.args .normal) [] (w.forCall tape i)))
  (hl : laidOutB C.prog = true) (hp : fn.params.toList.all (plainB C.prog 30) = true) (hr : fn.params.toList.all (fun t => C.prog.readableRec t && decide (t < C.prog.types.size)) = true)
  (hres : fn.resultTypes = #[tb]) (hb : C.prog.underlying tb = some .bool) (hvars : s.vars = [])
  (hspec : ∀ ds : List (DataW H), ds.length = fn.params.toList.length → s.fn H ds = { results := [.lit (.bool true)], args := ds })
  (tab : ∀ w, laidMetH C.prog laid w → Gl (fun b => b < w.heap.size) w)
  (law : ∀ al, DatL C.prog fn.params.toList al → CallOk C.prog f al (.v (.bool true))) :
  ReturnsInHanded {} C os f .any (fun w args => (s.pre enc C.prog fn conds false w args ∧ laidMetH C.prog laid w) ∧ sizedMet enc C.prog fn (OpenSpec.ofChange s) false w args) (s.post enc C.prog fn false true false false) := by
 refine returnsInHanded_of_change_and (C := C) (X := fun w _ => laidMetH C.prog laid w) (fun _ _ _ hh h => h.of_heap hh) own started noInit hfn witness ?_
 intro W base args ds gs before hval hW _ _ hL _
 have hW' := hW
 obtain ⟨p, q, hA, hV, rfl, _, _⟩ := hW
 rw [hvars] at hV
 obtain ⟨rfl, rfl⟩ := trodVars_none hV
 obtain ⟨al, h1, h2⟩ := trod_args hA hp (fun j t v ht hv => hval j t v (by simpa using ht) (by simpa using hv))
 refine ((law al h2).2 W (fun b => b < W.heap.size) args ⟨fun _ h => h, tab W hL⟩ h1).mono fun e W' ⟨y, S, he, hf, _, ho⟩ => ?_
 simp only [Own] at ho
 obtain ⟨rfl, _⟩ := ho
 have bel := below_of_frm hf
 refine ⟨_, he, ds, [], p ++ [], [], p, [], hW', ?_, ?_, ?_, bel.frame _, fun h => by cases h⟩
 ·rw [List.append_nil, hspec ds (trodAll_len hA), hres]
  exact trodAll_mk1 ⟨1, by simp [DataW.trod, Value.cells, hb]⟩
 ·rw [List.append_nil, hspec ds (trodAll_len hA)]
  exact trodAll_below hl bel hA hr
 ·rw [List.append_nil, hspec ds (trodAll_len hA), hvars]
  simp [DataW.TrodVars]
open Go Go.RowKit
def IterOk (P : Program) (gf : FuncId) (caps xs : List AV) : Prop :=
 (∃ fn, P.funcs[gf]? = some fn ∧ (fn.name == "runtime.NumGoroutine") = false ∧ fn.body.isNone = false) ∧
 ∀ (w : World) (F B0 : Nat → Prop) (lb : Array Value), Fit F w → (∀ b, B0 b → b < w.heap.size ∧ ¬ F b) → RepL w F caps lb.toList →
 ∀ (l : Nat) (J Jx : Nat → (Nat → Prop) → World → Prop),
  (∀ k B W W', J k B W → Frm (fun b => ¬ B b) W W' → J k B W') → (∀ k B W W', Jx k B W → Frm (fun b => ¬ B b) W W' → Jx k B W') →
  (∀ k x y B Fi W, J k B W → xs[k]? = some x → Rep W Fi x y → (∀ b, Fi b → b < W.heap.size ∧ ¬ B b) → (∀ b, B b → b < W.heap.size) → Frm B0 w W →
   YieldAt (fen none) 0 P l #[y] W fun e W' => Frm B W W' ∧ ∃ B' : Nat → Prop, (∀ b, B' b → (B b ∨ W.heap.size ≤ b) ∧ b < W'.heap.size) ∧
    ((e = .returned (.bool true) ∧ J (k + 1) B' W') ∨ (e = .returned (.bool false) ∧ Jx (k + 1) B' W'))) →
  J 0 B0 w →
  CallsIn (fen none) 0 P gf (#[.func (.yield l) #[] #[]] ++ lb) w fun e W' => (∃ v, e = .returned v) ∧ Frm B0 w W' ∧
   ∃ (k : Nat) (B' : Nat → Prop), (∀ b, B' b → (B0 b ∨ w.heap.size ≤ b) ∧ b < W'.heap.size) ∧ ((k = xs.length ∧ J k B' W') ∨ Jx k B' W')
theorem RefOk.setF {w : World} {E : Env} {F : Nat → Prop} {toks : List Tok} {t : Nat} {p : List (Nat × Nat)} {lo n : Nat} {y : Value} (h : RefOk w E toks t p lo n y) : RefOk w { E with F := F } toks t p lo n y := h
theorem PtrOk.setF {w : World} {E : Env} {F : Nat → Prop} {toks : List Tok} {t : Nat} {p : List (Nat × Nat)} {i j : Nat} {y : Value} (h : PtrOk w E toks t p i j y) : PtrOk w { E with F := F } toks t p i j y := h
mutual
theorem SRep.mix {w w' : World} {E E' : Env} {toks toks' : List Tok} (hA : Agree E.F w w') : ∀ {c : AV} {y : Value}, SRep w E toks c y → SRep w' E' toks' c y → SRep w' { E' with F := E.F } toks' c y
 | .v _, _, _, k => by simp only [SRep] at k ⊢; exact k
 | .agg cs, _, h, k => by
  simp only [SRep] at h k ⊢
  obtain ⟨ys, rfl, h⟩ := h; obtain ⟨ys', e, k⟩ := k; cases e
  exact ⟨ys, rfl, SRepL.mix hA h k⟩
 | .tup cs, _, h, k => by
  simp only [SRep] at h k ⊢
  obtain ⟨ys, rfl, h⟩ := h; obtain ⟨ys', e, k⟩ := k; cases e
  exact ⟨ys, rfl, SRepL.mix hA h k⟩
 | .sl _ _ _, _, h, _ => by simp only [SRep] at h ⊢; exact Rep.agree (fun _ hb => hb) hA _ _ h
 | .fp _ _, _, h, _ => by simp only [SRep] at h ⊢; exact Rep.agree (fun _ hb => hb) hA _ _ h
 | .fn _ _, _, h, k => by
  simp only [SRep] at h k ⊢
  obtain ⟨ys, rfl, h⟩ := h; obtain ⟨ys', e, k⟩ := k; cases e
  exact ⟨ys, rfl, SRepL.mix hA h k⟩
 | .ref _ _ _ _, _, _, k => by simp only [SRep] at k ⊢; exact k.setF
 | .ptr _ _ _ _, _, _, k => by simp only [SRep] at k ⊢; exact k.setF
 | .junk, _, _, _ => by simp only [SRep]
theorem SRepL.mix {w w' : World} {E E' : Env} {toks toks' : List Tok} (hA : Agree E.F w w') : ∀ {cs : List AV} {ys : List Value}, SRepL w E toks cs ys → SRepL w' E' toks' cs ys → SRepL w' { E' with F := E.F } toks' cs ys
 | [], _, h, _ => by simp only [SRepL] at h ⊢; exact h
 | _ :: _, _, h, k => by
  simp only [SRepL] at h k ⊢
  obtain ⟨y, ys, rfl, h1, h2⟩ := h; obtain ⟨y', ys', e, k1, k2⟩ := k; cases e
  exact ⟨y, ys, rfl, SRep.mix hA h1 k1, SRepL.mix hA h2 k2⟩
end
mutual
theorem SRep.mix2 {w W2 W : World} {E E' : Env} {F : Nat → Prop} {toks toks' : List Tok} (hT : ∀ t tk, toks'[t]? = some tk → TokOk W2 { E' with F := fun _ => False } t tk) (hF : ∀ b, E.F b → F b) (hA : Agree E.F w W) (hB : ∀ t, Agree (E'.S t) W2 W) :
  ∀ {c : AV} {y : Value}, SRep w E toks c y → SRep W2 E' toks' c y → SRep W { E' with F := F } toks' c y
 | .v _, _, _, k => by simp only [SRep] at k ⊢; exact k
 | .agg cs, _, h, k => by
  simp only [SRep] at h k ⊢
  obtain ⟨ys, rfl, h⟩ := h; obtain ⟨ys', e, k⟩ := k; cases e
  exact ⟨ys, rfl, SRepL.mix2 hT hF hA hB h k⟩
 | .tup cs, _, h, k => by
  simp only [SRep] at h k ⊢
  obtain ⟨ys, rfl, h⟩ := h; obtain ⟨ys', e, k⟩ := k; cases e
  exact ⟨ys, rfl, SRepL.mix2 hT hF hA hB h k⟩
 | .sl _ _ _, _, h, _ => by simp only [SRep] at h ⊢; exact Rep.agree hF hA _ _ h
 | .fp _ _, _, h, _ => by simp only [SRep] at h ⊢; exact Rep.agree hF hA _ _ h
 | .fn _ _, _, h, k => by
  simp only [SRep] at h k ⊢
  obtain ⟨ys, rfl, h⟩ := h; obtain ⟨ys', e, k⟩ := k; cases e
  exact ⟨ys, rfl, SRepL.mix2 hT hF hA hB h k⟩
 | .ref _ _ _ _, _, _, k => by
  simp only [SRep] at k ⊢
  exact RefOk.ext (E := { E' with F := fun _ => False }) (E' := { E' with F := F }) hT (fun b hb => hb.elim False.elim fun ⟨t, hb⟩ => hB t b hb) (fun _ _ => rfl) (Nat.le_refl _) (fun _ _ => rfl) k
 | .ptr _ _ _ _, _, _, k => by
  simp only [SRep] at k ⊢
  exact PtrOk.ext (E := { E' with F := fun _ => False }) (E' := { E' with F := F }) hT (fun b hb => hb.elim False.elim fun ⟨t, hb⟩ => hB t b hb) (fun _ _ => rfl) (Nat.le_refl _) (fun _ _ => rfl) k
 | .junk, _, _, _ => by simp only [SRep]
theorem SRepL.mix2 {w W2 W : World} {E E' : Env} {F : Nat → Prop} {toks toks' : List Tok} (hT : ∀ t tk, toks'[t]? = some tk → TokOk W2 { E' with F := fun _ => False } t tk) (hF : ∀ b, E.F b → F b) (hA : Agree E.F w W) (hB : ∀ t, Agree (E'.S t) W2 W) :
  ∀ {cs : List AV} {ys : List Value}, SRepL w E toks cs ys → SRepL W2 E' toks' cs ys → SRepL W { E' with F := F } toks' cs ys
 | [], _, h, _ => by simp only [SRepL] at h ⊢; exact h
 | _ :: _, _, h, k => by
  simp only [SRepL] at h k ⊢
  obtain ⟨y, ys, rfl, h1, h2⟩ := h; obtain ⟨y', ys', e, k1, k2⟩ := k; cases e
  exact ⟨y, ys, rfl, SRep.mix2 hT hF hA hB h1 k1, SRepL.mix2 hT hF hA hB h2 k2⟩
end
structure Bt (U : Ld) (w0 : World) (EF : Nat → Prop) (S0 : List AV) (tmps : Array Value) (D l : Nat) (T : List Tok) (rc : Obj) (B : Nat → Prop) (W : World) : Prop where
 ex : ∃ (W2 : World) (E' : Env), (∀ i x, S0[i]? = some x → SRep W2 E' T x (tmps.getD i undef)) ∧ (∀ t tk, T[t]? = some tk → TokOk W2 { E' with F := fun _ => False } t tk) ∧
  (∀ t b, E'.S t b → B b ∧ b ≠ D ∧ b ≠ l) ∧ (∀ t t' b, t ≠ t' → E'.S t b → ¬ E'.S t' b) ∧ ∀ t, Agree (E'.S t) W2 W
 rc : W.heap[l]? = some rc
 dfr : W.heap[D]? = some (.deferred (some []))
 inB : B D ∧ B l
 ne : l ≠ D
 org : ∀ b, B b → (w0.heap.size ≤ b ∨ U b) ∧ ¬ EF b ∧ b < W.heap.size
theorem Bt.later {U : Ld} {w0 : World} {EF : Nat → Prop} {S0 : List AV} {tmps : Array Value} {D l : Nat} {T : List Tok} {rc : Obj} {B : Nat → Prop} {W W' : World} (h : Bt U w0 EF S0 tmps D l T rc B W) (hW : Frm (fun b => ¬ B b) W W') : Bt U w0 EF S0 tmps D l T rc B W' where
 ex := by
  obtain ⟨W2, E', h1, h2, h3, h4, h5⟩ := h.ex
  exact ⟨W2, E', h1, h2, h3, h4, fun t b hb => (hW.block b (h.org b (h3 t b hb).1).2.2 fun hn => hn (h3 t b hb).1).trans (h5 t b hb)⟩
 rc := (hW.block l (h.org l h.inB.2).2.2 fun hn => hn h.inB.2).trans h.rc
 dfr := (hW.block D (h.org D h.inB.1).2.2 fun hn => hn h.inB.1).trans h.dfr
 inB := h.inB
 ne := h.ne
 org b hb := ⟨(h.org b hb).1, (h.org b hb).2.1, Nat.lt_of_lt_of_le (h.org b hb).2.2 hW.size⟩
theorem Bt.sr {U : Ld} {w0 w : World} {S0 : List AV} {T T0 : List Tok} {E : Env} {a : Act} {D l : Nat} {rc : Obj} {B : Nat → Prop} {W : World} (hs : SR U w0 ⟨S0, T0⟩ E a w) (h : Bt U w0 E.F S0 a.tmps D l T rc B W)
  (hA : Agree E.F w W) (hfr : Frm U.U w0 W) (hsz : w.heap.size ≤ W.heap.size) (hD : D = w.heap.size) (hnm : U.nm = false) :
  ∃ E', SR U w0 ⟨S0, T⟩ E' { a with defers := { target := .collected D, args := #[] } :: a.defers } W ∧ ¬ allB E' l := by
 obtain ⟨W2, E', h1, h2, h3, h4, h5⟩ := h.ex
 have hlD : l ≠ D := h.ne
 refine ⟨{ E' with F := fun b => E.F b ∨ b = D }, ⟨⟨fun hr => ?_, fun hn => (by rw [hnm] at hn; simp at hn), fun b hb => hb.elim (hs.defers.fz b) fun e => .inr (.inr (by rw [e, hD]; exact hs.frame.size)), (hs.defers.gl.agree hA).mono fun _ h => .inl h⟩, hs.size, fun i x hx => SRep.mix2 h2 (fun b hb => .inl hb) hA h5 (hs.slot i x hx) (h1 i x hx), fun b hb => hb.elim (fun hb => Nat.lt_of_lt_of_le (hs.flt b hb) hsz) fun e => e ▸ (h.org D h.inB.1).2.2, fun t tk ht => ?_, fun t b hb => ⟨(h.org b (h3 t b hb).1).2.2, fun hF => hF.elim (h.org b (h3 t b hb).1).2.1 (h3 t b hb).2.1, (h.org b (h3 t b hb).1).1⟩, h4, hfr, hs.pin⟩, fun hl => ?_⟩
 ·obtain ⟨Ds, m1, m2, m3⟩ := hs.defers.marks hr
  refine ⟨D :: Ds, by simp [m1], ?_, fun D' hD' => ?_⟩
  ·rw [List.nodup_cons]
   exact ⟨fun hm => by have := hs.flt D (m3 D hm).1; omega, m2⟩
  ·rcases List.mem_cons.1 hD' with rfl | hD'
   ·exact ⟨.inr rfl, by rw [hD]; exact hs.frame.size, h.dfr⟩
   ·exact ⟨.inl (m3 D' hD').1, (m3 D' hD').2.1, (hA D' (m3 D' hD').1).trans (m3 D' hD').2.2⟩
 ·exact (h2 t tk ht).weak (E' := { E' with F := fun b => E.F b ∨ b = D }) (fun b hb => hb.elim False.elim fun ⟨t, hb⟩ => h5 t b hb) (fun _ h => h.elim) rfl (fun _ h => h)
 ·rcases hl with hl | ⟨t, hl⟩
  ·exact hl.elim (h.org l h.inB.2).2.1 hlD
  ·exact (h3 t l hl).2.2 rfl
def rngF (lv : List Bool) (S0 : List AV) (I : Nat → List Tok) (k : Nat) (Q : Exit → ASt → Prop) : Exit → ASt → Prop
 | .normal, s => sub (clean lv s) ⟨S0, I (k + 1)⟩
 | .ret, s => ∃ T, sub (clean lv s) ⟨S0, T⟩ ∧ (∀ (t : Nat) (tk : Tok), T[t]? = some tk → tk.row = .junk ∨ tk.deep = true) ∧ Q .ret ⟨S0, T⟩
 | .exit id, s => ∃ T, sub (clean lv s) ⟨S0, T⟩ ∧ (∀ (t : Nat) (tk : Tok), T[t]? = some tk → tk.row = .junk ∨ tk.deep = true) ∧ Q (.exit id) ⟨S0, T⟩
 | _, _ => False
def asgF (P : Program) (C : Ctx) (live lv : List Bool) (idx : List Nat) (pin : Nat → Value) (dt : List (Nat × RD)) (l : Nat) (body : Code) (S0 : List AV) (I : Nat → List Tok) (k : Nat) (Q : Exit → ASt → Prop) : Exit → ASt → Prop
 | .normal, s => ∀ US w1, awp P C live (ldR US idx pin dt l) w1 body s (rngF lv S0 I k Q)
 | _, _ => False
theorem TokOk.noF {w : World} {E : Env} {t : Nat} {tk : Tok} (h : TokOk w E t tk) (hd : tk.row = .junk ∨ tk.deep = true) : TokOk w { E with F := fun _ => False } t tk := by
 rcases h with h | ⟨nl, sz, es, h, k⟩
 ·exact .inl h
 ·rcases hd with h' | h'
  ·exact .inl h'
  ·refine .inr ⟨nl, sz, es, h, ?_⟩
   rw [h'] at k ⊢
   exact k.deepF
theorem frm_put {W : World} {l : Nat} {o : Obj} : Frm (fun b => b = l) W (W.putObj l o) := ⟨rfl, rfl, rfl, by simp, fun _ _ h => World.putObj_heap_other h⟩
theorem Frm.comp {U V X : Nat → Prop} {w w1 w2 : World} (h : Frm U w w1) (h' : Frm V w1 w2) (hU : ∀ b, b < w.heap.size → U b → X b) (hV : ∀ b, b < w.heap.size → V b → X b) : Frm X w w2 :=
 ⟨h'.os.trans h.os, h'.tape.trans h.tape, h'.output.trans h.output, Nat.le_trans h.size h'.size, fun k hk hX => (h'.block k (Nat.lt_of_lt_of_le hk h.size) fun hv => hX (hV k hk hv)).trans (h.block k hk fun hu => hX (hU k hk hu))⟩
theorem SR.rebase {U : Ld} {w0 w : World} {st : ASt} {E : Env} {a : Act} {idx : List Nat} {pin : Nat → Value} {dt : List (Nat × RD)} {l : Nat} {X : Nat → Prop} (h : SR U w0 st E a w) (hl : ¬ E.F l) (hX : ∀ t b, E.S t b → X b) (hp : ∀ i ∈ idx, a.tmps.getD i undef = pin i) : SR (ldR X idx pin dt l) w st E a w where
 defers := ⟨fun hr => by simp [ldR] at hr, fun hn => by simp [ldR] at hn, fun b hb => .inl fun e => hl (e ▸ hb), h.defers.gl⟩
 size := h.size
 slot := h.slot
 flt := h.flt
 tok := h.tok
 slt t b hb := ⟨(h.slt t b hb).1, (h.slt t b hb).2.1, .inr (hX t b hb)⟩
 sep := h.sep
 frame := Frm.refl _ _
 pin := hp
theorem Bt.start {U : Ld} {w0 w : World} {S0 : List AV} {T T0 : List Tok} {E : Env} {a : Act} {D l : Nat} {rc : Obj} {B Fi : Nat → Prop} {W : World} {idx : List Nat} {dt : List (Nat × RD)} {p : Nat} {x : AV} {y : Value} (hs : SR U w0 ⟨S0, T0⟩ E a w) (h : Bt U w0 E.F S0 a.tmps D l T rc B W)
  (hA : Agree E.F w W) (hsz : w.heap.size ≤ W.heap.size) (hx : Rep W Fi x y) (hFi : ∀ b, Fi b → b < W.heap.size ∧ ¬ B b) (hp : p < S0.length) (hpi : p ∉ idx) :
  ∃ E1 : Env, (∀ t b, E1.S t b → B b ∧ b ≠ D ∧ b ≠ l) ∧ SR (ldR (fun b => ∃ t, E1.S t b) idx (fun i => a.tmps.getD i undef) dt l) W ⟨S0.set p x, T⟩ E1 { tmps := a.tmps.setIfInBounds p y, defers := [] } W := by
 obtain ⟨W2, E', h1, h2, h3, h4, h5⟩ := h.ex
 refine ⟨{ E' with F := fun b => E.F b ∨ Fi b }, h3, ?_⟩
 have hget : ∀ i, (a.tmps.setIfInBounds p y).getD i undef = if i = p then y else a.tmps.getD i undef := fun i => by
  have := getD_put (a := a) (d := p) (y := y) (i := i) (by rw [hs.size]; exact hp)
  simpa [Act.put] using this
 refine ⟨⟨fun hr => by simp [ldR] at hr, fun hn => by simp [ldR] at hn, fun b hb => .inl fun e => by subst e; exact hb.elim (h.org _ h.inB.2).2.1 fun hb => (hFi _ hb).2 h.inB.2, (hs.defers.gl.agree hA).mono fun _ h => .inl h⟩, by simpa using hs.size, fun i x' hi => ?_, fun b hb => hb.elim (fun hb => Nat.lt_of_lt_of_le (hs.flt b hb) hsz) fun hb => (hFi b hb).1, fun t tk ht => ?_, fun t b hb => ⟨(h.org b (h3 t b hb).1).2.2, fun hF => hF.elim (h.org b (h3 t b hb).1).2.1 fun hF => (hFi b hF).2 (h3 t b hb).1, .inr ⟨t, hb⟩⟩, h4, Frm.refl _ _, fun i hi => ?_⟩
 ·rw [hget]
  by_cases e : i = p
  ·subst e
   rw [List.getElem?_set_self hp] at hi
   obtain rfl := Option.some.inj hi
   rw [if_pos rfl]
   exact SRep.of_rep (E := { E' with F := fun b => E.F b ∨ Fi b }) _ _ (hx.weak (fun _ h => .inr h) (Agree.refl _ _))
  ·rw [List.getElem?_set_ne (fun h => e h.symm)] at hi
   rw [if_neg e]
   exact SRep.mix2 h2 (fun b hb => .inl hb) hA h5 (hs.slot i x' hi) (h1 i x' hi)
 ·exact (h2 t tk ht).weak (E' := { E' with F := fun b => E.F b ∨ Fi b }) (fun b hb => hb.elim False.elim fun ⟨t, hb⟩ => h5 t b hb) (fun _ h => h.elim) rfl (fun _ h => h)
 ·show (a.tmps.setIfInBounds p y).getD i undef = a.tmps.getD i undef
  rw [hget, if_neg (show ¬ i = p from fun e => hpi (e ▸ hi))]
theorem tr_rangeFunc {P : Program} {C : Ctx} {U : Ld} {w0 : World} {st : ASt} {Q : Exit → ASt → Prop} {live lv : List Bool} {g : Operand} {p : Nat} {assign body : Code} {gf : Nat} {caps xs : List AV} {S0 : List AV} {I : Nat → List Tok} (idx : List Nat)
  (hC : C.Ok P) (hm : P.follows .mixedOrders = true) (hit : IterOk P gf caps xs) (hro : U.ro = none) (hnm : U.nm = false) (h0 : Le U w0 st ⟨S0, I 0⟩) (hg : ev S0 g = .fn gf caps) (hcaps : caps.all frz = true)
  (hp : p < S0.length) (hpi : p ∉ idx) (hS : ∀ i x, S0[i]? = some x → x = .junk ∨ i ∈ idx) (hdeep : ∀ k, k ≤ xs.length → ∀ (t : Nat) (tk : Tok), (I k)[t]? = some tk → tk.row = .junk ∨ tk.deep = true)
  (hck : codeOk U.dt idx assign = true ∧ codeOk U.dt idx body = true)
  (hround : ∀ k x, xs[k]? = some x → ∀ pin l US w1, awp P C live (ldR US idx pin U.dt l) w1 assign ⟨S0.set p x, I k⟩ (asgF P C live lv idx pin U.dt l body S0 I k Q))
  (hend : Q .normal ⟨S0, I xs.length⟩) : Tr P U w0 (.rangeFunc g #[p] assign body) st Q := by
 refine Tr.pre ?_ h0
 intro _ E a w hs K hK
 obtain ⟨⟨gfn, hgf, hgn, hgb⟩, hit⟩ := hit
 have hgv := hs.ev g
 simp only at hgv
 rw [hg] at hgv
 simp only [SRep] at hgv
 obtain ⟨lb, hgv, hlb⟩ := hgv
 have hlb' : RepL w E.F caps lb.toList := by
  have : ∀ (cs : List AV) (ys : List Value), cs.all frz = true → SRepL w E (I 0) cs ys → RepL w E.F cs ys := by
   intro cs
   induction cs with
   | nil => intro ys _ h; simpa [SRepL, RepL] using h
   | cons c cs ih =>
    intro ys hf h
    simp only [List.all_cons, Bool.and_eq_true] at hf
    simp only [SRepL] at h
    obtain ⟨y, ys', rfl, h1, h2⟩ := h
    simp only [RepL]
    exact ⟨y, ys', rfl, h1.frz hf.1, ih ys' hf.2 h2⟩
  exact this _ _ hcaps hlb
 rw [hro]
 refine wpIn_rangeFunc ?_
 intro fn hfn
 obtain ⟨rec, hrec⟩ : ∃ rec : LoopState → Option Code → Loop, rec = fun st pe => { state := st, pending := pe, fn, tmps := a.tmps, params := #[p], assign, body, defers := w.heap.size } := ⟨_, rfl⟩
 obtain ⟨W1, hW1⟩ : ∃ W1, (w.alloc (.deferred (some []))).alloc (.loop (rec .ready none)) = W1 := ⟨_, rfl⟩
 have hsz1 : W1.heap.size = w.heap.size + 2 := by rw [← hW1]; simp
 have hL1 : W1.heap[w.heap.size + 1]? = some (.loop (rec .ready none)) := by
  rw [← hW1]; have := World.alloc_heap_new (w.alloc (.deferred (some []))) (.loop (rec .ready none)); rwa [World.size_alloc] at this
 have hK1 : W1.heap[w.heap.size]? = some (.deferred (some [])) := by
  rw [← hW1]; exact (Below.heap_alloc _ _ _ (by simp)).trans (World.alloc_heap_new w _)
 have hF1 : Frm (fun _ => False) w W1 := by
  rw [← hW1]; exact (frm_alloc _).comp (frm_alloc _) (fun _ _ h => h) (fun _ _ h => h)
 have hown0 : ∀ t b, E.S t b → b < w.heap.size ∧ ¬ E.F b ∧ (w0.heap.size ≤ b ∨ U b) := hs.slt
 have hB0 : Bt U w0 E.F S0 a.tmps w.heap.size (w.heap.size + 1) (I 0) (.loop (rec .ready none)) (fun b => (∃ t, E.S t b) ∨ b = w.heap.size ∨ b = w.heap.size + 1) W1 := by
  refine ⟨⟨w, E, hs.slot, fun t tk ht => (hs.tokOk t tk ht).noF (hdeep 0 (Nat.zero_le _) t tk ht), fun t b hb => ⟨.inl ⟨t, hb⟩, by have := (hown0 t b hb).1; omega, by have := (hown0 t b hb).1; omega⟩, hs.sep, fun t b hb => hF1.block b (hown0 t b hb).1 id⟩, hL1, hK1, ⟨.inr (.inl rfl), .inr (.inr rfl)⟩, by omega, fun b hb => ?_⟩
  rcases hb with ⟨t, hb⟩ | rfl | rfl
  ·exact ⟨(hown0 t b hb).2.2, (hown0 t b hb).2.1, by have := (hown0 t b hb).1; omega⟩
  ·exact ⟨.inl hs.frame.size, fun h => by have := hs.flt _ h; omega, by omega⟩
  ·exact ⟨.inl (Nat.le_trans hs.frame.size (by omega)), fun h => by have := hs.flt _ h; omega, by omega⟩
 -- what is known of the world at any later time
 have hlater : ∀ W, Frm (fun b => (∃ t, E.S t b) ∨ b = w.heap.size ∨ b = w.heap.size + 1) W1 W → Agree E.F w W ∧ w.heap.size ≤ W.heap.size ∧ Frm U.U w0 W := fun W hW => by
  refine ⟨fun b hb => (hW.block b (by have := hs.flt b hb; omega) ?_).trans (hF1.block b (hs.flt b hb) id), by have := hW.size; omega, ?_⟩
  ·rintro (⟨t, h⟩ | h | h)
   ·exact (hown0 t b h).2.1 hb
   ·have := hs.flt b hb; omega
   ·have := hs.flt b hb; omega
  ·refine (hs.frame.comp hF1 (X := U.U) (fun _ _ h => h) (fun _ _ h => h.elim)).comp hW (fun _ _ h => h) fun b hb h => ?_
   have := hs.frame.size
   rcases h with ⟨t, h⟩ | h | h
   ·exact (hown0 t b h).2.2.elim (fun h => by omega) id
   ·omega
   ·omega
 refine ⟨w.heap.size + 1, [{ target := .collected w.heap.size, args := #[] }], W1, { target := .fn (.func gf) lb, args := #[.func (.yield (w.heap.size + 1)) #[] #[]] }, W1, gf,
  #[.func (.yield (w.heap.size + 1)) #[] #[]] ++ lb, W1, ?_, ?_, fun _ _ => trivial, ?_, fun hd => by simp [fen, Fence.wide] at hd, ?_⟩
 ·rw [← hW1, hrec]; exact run_enterLoop_outer _ _ _ _ _
 ·simp only [resolve, hgv]
  simp [go_sem]
 ·have e1 : gfn.name ≠ "runtime.NumGoroutine" := by simpa using hgn
  have e2 : gfn.body ≠ Option.none := by intro e; rw [e] at hgb; simp at hgb
  simp [invoke, callFunc, hgf, e1, e2]
 ·refine (hit W1 E.F (fun b => (∃ t, E.S t b) ∨ b = w.heap.size ∨ b = w.heap.size + 1) lb ⟨fun b hb => by have := hs.flt b hb; omega, hs.defers.gl.agree fun b hb => hF1.block b (hs.flt b hb) id⟩ (fun b hb => ⟨(hB0.org b hb).2.2, (hB0.org b hb).2.1⟩)
   (RepL.agree (fun _ h => h) (fun b hb => hF1.block b (hs.flt b hb) id) _ _ hlb') (w.heap.size + 1)
   (fun k B W => k ≤ xs.length ∧ Bt U w0 E.F S0 a.tmps w.heap.size (w.heap.size + 1) (I k) (.loop (rec .ready none)) B W)
   (fun k B W => ∃ (c : Code) (T : List Tok), ((c = .ret ∧ Q .ret ⟨S0, T⟩) ∨ ∃ id, c = .exit id ∧ Q (.exit id) ⟨S0, T⟩) ∧ Bt U w0 E.F S0 a.tmps w.heap.size (w.heap.size + 1) T (.loop (rec .done (some c))) B W)
   (fun k B W W' h hW => ⟨h.1, h.2.later hW⟩) (fun k B W W' h hW => by obtain ⟨c, T, h1, h2⟩ := h; exact ⟨c, T, h1, h2.later hW⟩) ?_ ⟨Nat.zero_le _, hB0⟩).mono ?_
  ·-- one round
   rintro k x y B Fi W ⟨hk, hJ⟩ hx hr hFi hBlt hW
   obtain ⟨hA, hszW, _⟩ := hlater W hW
   have hkl : k < xs.length := (List.getElem?_eq_some_iff.1 hx).1
   have hlW := (hJ.org _ hJ.inB.2).2.2
   have hDW := (hJ.org _ hJ.inB.1).2.2
   have hy := run_yield (P := P) (args := #[y]) hJ.rc (by rw [hrec]; rfl)
   rw [hrec] at hy
   refine ⟨fn, _, assign, body, hy, ?_⟩
   obtain ⟨E1, hE1, hs1⟩ := hJ.start (idx := idx) (dt := U.dt) (p := p) hs hA hszW hr hFi hp hpi
   refine roundIn_of_wpIn trivial ?_
   have htm : (Array.foldl (fun tmps x => match x with | (t, a) => tmps.setIfInBounds t a) a.tmps (#[p].zip #[y])) = a.tmps.setIfInBounds p y := by simp
   show Code.wpIn (fen (some (w.heap.size + 1))) 0 P assign _ { tmps := Array.foldl (fun tmps x => match x with | (t, a) => tmps.setIfInBounds t a) a.tmps (#[p].zip #[y]), defers := [] } W
   rw [htm]
   refine tr_awp hC hm assign _ _ (hround k x hx _ (w.heap.size + 1) _ W) hck.1 E1 _ W hs1 _ fun e s E2 a2 W2 hq hs2 => ?_
   cases e with
   | normal =>
    simp only [asgF] at hq
    -- the record
    have hl2 : W2.heap[w.heap.size + 1]? = some (.loop (rec .ready none)) := (hs2.frame.block _ hlW fun ⟨t, h⟩ => (hE1 t _ h).2.2 rfl).trans hJ.rc
    have hd2 : W2.heap[w.heap.size]? = some (.deferred (some [])) := (hs2.frame.block _ hDW fun ⟨t, h⟩ => (hE1 t _ h).2.1 rfl).trans hJ.dfr
    have hE2 : ∀ t b, E2.S t b → (W.heap.size ≤ b ∨ B b) ∧ b ≠ w.heap.size ∧ b ≠ w.heap.size + 1 := fun t b hb => by
     rcases (hs2.slt t b hb).2.2 with h | ⟨t', h⟩
     ·exact ⟨.inl h, by omega, by omega⟩
     ·exact ⟨.inr (hE1 t' b h).1, (hE1 t' b h).2⟩
    have hls2 : w.heap.size + 1 < W2.heap.size := (Array.getElem?_eq_some_iff.1 hl2).1
    refine ⟨W2.putObj (w.heap.size + 1) (.loop { rec .ready none with state := .busy }), run_beginRound hl2 (by rw [hrec]), ?_⟩
    obtain ⟨W3, hW3⟩ : ∃ W3, W2.putObj (w.heap.size + 1) (.loop { rec .ready none with state := .busy }) = W3 := ⟨_, rfl⟩
    have hf3 : Frm (fun b => b = w.heap.size + 1) W2 W3 := by rw [← hW3]; exact frm_put
    have hs3 : SR (ldR (fun b => ∃ t, E2.S t b) idx (fun i => a.tmps.getD i undef) U.dt (w.heap.size + 1)) W3 s E2 a2 W3 := by
     have hnF : ¬ E2.F (w.heap.size + 1) := fun h => by
      rcases hs2.defers.fz _ h with h | h | h
      ·exact h rfl
      ·obtain ⟨t, h⟩ := h; exact (hE1 t _ h).2.2 rfl
      ·omega
     have hno : ¬ allB E2 (w.heap.size + 1) := fun h => h.elim hnF fun ⟨t, h⟩ => (hE2 t _ h).2.2 rfl
     have h1 := (hs2.rebase (X := fun b => (∃ t, E2.S t b) ∨ b = w.heap.size + 1) (idx := idx) (pin := fun i => a.tmps.getD i undef) (dt := U.dt) (l := w.heap.size + 1) hnF (fun t b h => .inl ⟨t, h⟩) hs2.pin).other hf3 hno (.inr (.inr rfl))
     exact h1.rebase hnF (fun t b h => ⟨t, h⟩) h1.pin
    rw [hW3]
    have hl3 : W3.heap[w.heap.size + 1]? = some (.loop { rec .ready none with state := .busy }) := by rw [← hW3]; exact World.putObj_heap_same hls2
    have hd3 : W3.heap[w.heap.size]? = some (.deferred (some [])) := by rw [← hW3]; exact (World.putObj_heap_other (by omega)).trans hd2
    refine tr_awp hC hm body _ _ (hq _ W3) hck.2 E2 _ W3 hs3 _ fun e s3 E3 a3 W4 hq3 hs4 => ?_
    -- the end of the round
    have hl4 : W4.heap[w.heap.size + 1]? = some (.loop { rec .ready none with state := .busy }) := (hs4.frame.block _ (Array.getElem?_eq_some_iff.1 hl3).1 fun ⟨t, h⟩ => (hE2 t _ h).2.2 rfl).trans hl3
    have hd4 : W4.heap[w.heap.size]? = some (.deferred (some [])) := (hs4.frame.block _ (Array.getElem?_eq_some_iff.1 hd3).1 fun ⟨t, h⟩ => (hE2 t _ h).2.1 rfl).trans hd3
    have hls4 : w.heap.size + 1 < W4.heap.size := (Array.getElem?_eq_some_iff.1 hl4).1
    have hfW4 : Frm B W W4 := by
     refine ((hs2.frame.comp hf3 (X := B) (fun b _ h => ?_) fun b _ h => ?_).comp hs4.frame (fun _ _ h => h) fun b hb h => ?_)
     ·obtain ⟨t, h⟩ := h; exact (hE1 t b h).1
     ·rw [h]; exact hJ.inB.2
     ·obtain ⟨t, h⟩ := h; exact (hE2 t b h).1.elim (fun h => by omega) id
    have key : ∀ (T : List Tok) (jump : Option Code), (∃ E4, SR (ldR (fun b => ∃ t, E2.S t b) idx (fun i => a.tmps.getD i undef) U.dt (w.heap.size + 1)) W3 ⟨S0, T⟩ E4 a3 W4) → (∀ (t : Nat) (tk : Tok), T[t]? = some tk → tk.row = .junk ∨ tk.deep = true) →
      ∃ (W5 : World) (B' : Nat → Prop), (Instr.endRound (w.heap.size + 1) jump).run P W4 = .ok (.bool jump.isNone) W5 ∧ Frm B W W5 ∧ (∀ b, B' b → (B b ∨ W.heap.size ≤ b) ∧ b < W5.heap.size) ∧
       Bt U w0 E.F S0 a.tmps w.heap.size (w.heap.size + 1) T (.loop (rec (if jump.isNone then .ready else .done) jump)) B' W5 := fun T jump ⟨E4, hs5⟩ hdp => by
     have hrun := run_endRound (P := P) jump hl4
     have hE4 : ∀ t b, E4.S t b → (W.heap.size ≤ b ∨ B b) ∧ b ≠ w.heap.size ∧ b ≠ w.heap.size + 1 ∧ b < W4.heap.size := fun t b hb => by
      have hlt := (hs5.slt t b hb).1
      rcases (hs5.slt t b hb).2.2 with h | ⟨t', h⟩
      ·have := hs2.frame.size; have := hf3.size
       exact ⟨.inl (by omega), by omega, by omega, hlt⟩
      ·exact ⟨(hE2 t' b h).1, (hE2 t' b h).2.1, (hE2 t' b h).2.2, hlt⟩
     have hBW : ∀ b, B b → b < W.heap.size := hBlt
     refine ⟨_, fun b => (∃ t, E4.S t b) ∨ b = w.heap.size ∨ b = w.heap.size + 1, hrun, hfW4.comp frm_put (fun _ _ h => h) (fun b _ h => by rw [h]; exact hJ.inB.2), fun b hb => ?_, ?_⟩
     ·rw [World.putObj_size]
      rcases hb with ⟨t, hb⟩ | rfl | rfl
      ·exact ⟨(hE4 t b hb).1.symm, (hE4 t b hb).2.2.2⟩
      ·exact ⟨.inl hJ.inB.1, by omega⟩
      ·exact ⟨.inl hJ.inB.2, hls4⟩
     ·refine ⟨⟨W4, E4, fun i x' hi => ?_, fun t tk ht => (hs5.tokOk t tk ht).noF (hdp t tk ht), fun t b hb => ⟨.inl ⟨t, hb⟩, (hE4 t b hb).2.1, (hE4 t b hb).2.2.1⟩, hs5.sep, fun t b hb => World.putObj_heap_other (hE4 t b hb).2.2.1⟩, ?_, (World.putObj_heap_other (by omega)).trans hd4, ⟨.inr (.inl rfl), .inr (.inr rfl)⟩, by omega, fun b hb => ?_⟩
      ·rcases hS i x' hi with rfl | hi'
       ·simp only [SRep]
       ·have := hs5.slot i x' hi
        rwa [hs5.pin i hi'] at this
      ·have : rec (if jump.isNone then .ready else .done) jump = { ({ rec .ready none with state := .busy } : Loop) with state := if jump.isNone then .ready else .done, pending := jump } := by rw [hrec]
       rw [this]; exact World.putObj_heap_same hls4
      ·rw [World.putObj_size]
       rcases hb with ⟨t, hb⟩ | rfl | rfl
       ·rcases (hE4 t b hb).1 with h | h
        ·exact ⟨.inl (Nat.le_trans hs.frame.size (by omega)), fun hF => by have := hs.flt b hF; omega, (hE4 t b hb).2.2.2⟩
        ·exact ⟨(hJ.org b h).1, (hJ.org b h).2.1, (hE4 t b hb).2.2.2⟩
       ·exact ⟨(hJ.org _ hJ.inB.1).1, (hJ.org _ hJ.inB.1).2.1, by omega⟩
       ·exact ⟨(hJ.org _ hJ.inB.2).1, (hJ.org _ hJ.inB.2).2.1, hls4⟩
    have sub5 : ∀ T, sub (clean lv s3) ⟨S0, T⟩ → ∃ E4, SR (ldR (fun b => ∃ t, E2.S t b) idx (fun i => a.tmps.getD i undef) U.dt (w.heap.size + 1)) W3 ⟨S0, T⟩ E4 a3 W4 := fun T h => by
     obtain ⟨E', h'⟩ := le_clean lv E3 a3 W4 hs4
     exact le_sub h E' a3 W4 h'
    cases e with
    | normal =>
     obtain ⟨W5, B', h1, h2, h3, h4⟩ := key (I (k + 1)) none (sub5 _ hq3) (hdeep (k + 1) (by omega))
     exact ⟨_, W5, h1, h2, B', h3, .inl ⟨rfl, by omega, h4⟩⟩
    | ret =>
     obtain ⟨T, q1, q2, q3⟩ := hq3
     obtain ⟨W5, B', h1, h2, h3, h4⟩ := key T (some .ret) (sub5 _ q1) q2
     exact ⟨_, W5, h1, h2, B', h3, .inr ⟨rfl, .ret, T, .inl ⟨rfl, q3⟩, h4⟩⟩
    | exit id =>
     obtain ⟨T, q1, q2, q3⟩ := hq3
     obtain ⟨W5, B', h1, h2, h3, h4⟩ := key T (some (.exit id)) (sub5 _ q1) q2
     exact ⟨_, W5, h1, h2, B', h3, .inr ⟨rfl, .exit id, T, .inr ⟨id, rfl, q3⟩, h4⟩⟩
    | _ => exact hq3.elim
   | _ => exact hq.elim
  ·-- behind the iterator
   rintro e W2 ⟨⟨v, rfl⟩, hW2, k, B', hB', h⟩
   obtain ⟨hA, hszW, hfr⟩ := hlater W2 hW2
   have fin : ∀ (T : List Tok) (st : LoopState) (pe : Option Code), st ≠ .busy → Bt U w0 E.F S0 a.tmps w.heap.size (w.heap.size + 1) T (.loop (rec st pe)) B' W2 →
     (Instr.endLoop (w.heap.size + 1)).run P W2 = .ok pe (W2.putObj (w.heap.size + 1) (.loop { rec st pe with state := .exhausted })) ∧
     ∃ E', SR U w0 ⟨S0, T⟩ E' { a with defers := { target := .collected w.heap.size, args := #[] } :: a.defers } (W2.putObj (w.heap.size + 1) (.loop { rec st pe with state := .exhausted })) := fun T st pe hst hb => by
    have hrun := run_endLoop (P := P) hb.rc (by rw [hrec]; exact hst)
    obtain ⟨E', h1, h2⟩ := hb.sr hs hA hfr hszW rfl hnm
    refine ⟨by rw [hrec] at hrun ⊢; exact hrun, E', h1.other frm_put h2 (.inl (Nat.le_trans hs.frame.size (by omega)))⟩
   rcases h with ⟨rfl, _, hb⟩ | ⟨c, T, hc, hb⟩
   ·obtain ⟨h1, E', h2⟩ := fin _ _ _ (by simp) hb
    exact ⟨none, _, h1, hK _ _ E' _ _ hend h2⟩
   ·obtain ⟨h1, E', h2⟩ := fin _ _ _ (by simp) hb
    rcases hc with ⟨rfl, hq⟩ | ⟨id, rfl, hq⟩
    ·exact ⟨some .ret, _, h1, wpIn_ret (hK _ _ E' _ _ hq h2)⟩
    ·exact ⟨some (.exit id), _, h1, wpIn_exit (hK _ _ E' _ _ hq h2)⟩
open Go Go.RowKit
def yv (l : Nat) : AV := .v (.func (.yield l) #[] #[])
def ldI (B0 F0 : Nat → Prop) (dt : List (Nat × RD)) : Ld := ⟨B0, [], fun _ => undef, dt, none, F0, true⟩
abbrev JTy (ι : Type) := ι → (Nat → Prop) → World → Prop
abbrev JT := JTy (Bool × Nat)
def IR {ι : Type} (w : World) (F0 B0 : Nat → Prop) (dt : List (Nat × RD)) (J : JTy ι) (i : ι) (st : ASt) (a : Act) (W : World) : Prop :=
 ∃ (E : Env) (B : Nat → Prop), SR (ldI B0 F0 dt) w st E a W ∧ J i B W ∧ ∀ b, B b → (B0 b ∨ w.heap.size ≤ b) ∧ b < W.heap.size ∧ ¬ allB E b
def TY {ι : Type} (P : Program) (w : World) (F0 B0 : Nat → Prop) (dt : List (Nat × RD)) (J : JTy ι) (c : Code) (st : ASt) (i : ι) (Q : Exit → ASt → ι → Prop) : Prop :=
 codeOk dt [] c = true → ∀ (a : Act) (W : World), IR w F0 B0 dt J i st a W → ∀ K : Exit → Act → World → Prop, (∀ e st' i' a' W', Q e st' i' → IR w F0 B0 dt J i' st' a' W' → K e a' W') → c.wpIn (fen none) 0 P K a W
section
variable {P : Program} {C : Ctx} {w : World} {F0 B0 : Nat → Prop} {dt : List (Nat × RD)} {ι : Type} {J : JTy ι} {i : ι} {st : ASt} {Q : Exit → ASt → ι → Prop}
theorem IR.now {a : Act} {W : World} (hJ : ∀ i B W W', J i B W → Frm (fun b => ¬ B b) W W' → J i B W') (h : IR w F0 B0 dt J i st a W) : ∃ (X A : Nat → Prop) (E : Env), SR (⟨X, [], fun _ => undef, dt, none, A, true⟩ : Ld) W st E a W ∧
  ∀ st' E' a' W', SR (⟨X, [], fun _ => undef, dt, none, A, true⟩ : Ld) W st' E' a' W' → IR w F0 B0 dt J i st' a' W' := by
 obtain ⟨E, B, hs, hj, hB⟩ := h
 refine ⟨fun b => ∃ t, E.S t b, fun b => ¬ B b ∧ (F0 b ∨ B0 b ∨ w.heap.size ≤ b), E, ⟨⟨fun hr => ?_, fun _ => hs.defers.none rfl, fun b hb => .inl ⟨fun h => (hB b h).2.2 (.inl hb), hs.defers.fz b hb⟩, hs.defers.gl⟩, hs.size, hs.slot, hs.flt, hs.tok, fun t b hb => ⟨(hs.slt t b hb).1, (hs.slt t b hb).2.1, .inr ⟨t, hb⟩⟩, hs.sep, Frm.refl _ _, fun i hi => by simp at hi⟩, fun st' E' a' W' hs' => ?_⟩
 ·rw [hs.defers.none rfl]; exact MarksD.nil
 ·have hown : ∀ t b, E'.S t b → W.heap.size ≤ b ∨ ∃ t, E.S t b := fun t b hb => (hs'.slt t b hb).2.2
  have hf : Frm (fun b => ¬ B b) W W' := ⟨hs'.frame.os, hs'.frame.tape, hs'.frame.output, hs'.frame.size, fun b hb hn => hs'.frame.block b hb fun ⟨t, ht⟩ => hn fun hBb => (hB b hBb).2.2 (.inr ⟨t, ht⟩)⟩
  refine ⟨E', B, ⟨⟨fun hr => ?_, fun _ => hs'.defers.none rfl, fun b hb => ?_, hs'.defers.gl⟩, hs'.size, hs'.slot, hs'.flt, hs'.tok, fun t b hb => ⟨(hs'.slt t b hb).1, (hs'.slt t b hb).2.1, ?_⟩, hs'.sep, ?_, fun i hi => by simp [ldI] at hi⟩, hJ _ _ _ _ hj hf, fun b hb => ⟨(hB b hb).1, Nat.lt_of_lt_of_le (hB b hb).2.1 hs'.frame.size, ?_⟩⟩
  ·rw [hs'.defers.none rfl]; exact MarksD.nil
  ·rcases hs'.defers.fz b hb with h | h | h
   ·exact h.2
   ·obtain ⟨t, h⟩ := h
    exact .inr ((hs.slt t b h).2.2).symm
   ·exact .inr (.inr (Nat.le_trans hs.frame.size h))
  ·rcases hown t b hb with h | ⟨t', h⟩
   ·exact .inl (Nat.le_trans hs.frame.size h)
   ·exact (hs.slt t' b h).2.2
  ·exact hs.frame.comp hs'.frame (fun _ _ h => h) fun b hb ⟨t, h⟩ => (hs.slt t b h).2.2.elim (fun h => by omega) id
  ·rintro (h | ⟨t, h⟩)
   ·rcases hs'.defers.fz b h with h | h | h
    ·exact h.1 hb
    ·obtain ⟨t, h⟩ := h; exact (hB b hb).2.2 (.inr ⟨t, h⟩)
    ·have := (hB b hb).2.1; have : W.heap.size ≤ b := h; omega
   ·rcases hown t b h with h | ⟨t', h⟩
    ·have := (hB b hb).2.1; omega
    ·exact (hB b hb).2.2 (.inr ⟨t', h⟩)
theorem ty_awp (hC : C.Ok P) (hm : P.follows .mixedOrders = true) (hJ : ∀ i B W W', J i B W → Frm (fun b => ¬ B b) W W' → J i B W') {live : List Bool} {c : Code} (h : ∀ X A w1, awp P C live (⟨X, [], fun _ => undef, dt, none, A, true⟩ : Ld) w1 c st (fun e s => Q e s i)) : TY P w F0 B0 dt J c st i Q := by
 intro hc a W hs K hK
 obtain ⟨X, A, E, h1, h2⟩ := hs.now hJ
 exact tr_awp hC hm c _ _ (h X A W) hc E a W h1 K fun e s E' a' W' q hs' => hK e s i a' W' q (h2 s E' a' W' hs')
def thenY {ι : Type} (N : ASt → ι → Prop) (Q : Exit → ASt → ι → Prop) : Exit → ASt → ι → Prop
 | .normal, s, i => N s i
 | e, s, i => Q e s i
theorem ty_seq {x y : Code} (h : TY P w F0 B0 dt J x st i (thenY (fun s i => TY P w F0 B0 dt J y s i Q) Q)) : TY P w F0 B0 dt J (.seq x y) st i Q := by
 intro hc a W hs K hK
 simp only [codeOk, Bool.and_eq_true] at hc
 refine wpIn_seq (h hc.1 a W hs _ fun e s i' a' W' hq hs' => ?_)
 cases e with
 | normal => exact hq hc.2 a' W' hs' K hK
 | _ => exact hK _ _ _ a' W' hq hs'
def inBlockY {ι : Type} (id : Nat) (Q : Exit → ASt → ι → Prop) : Exit → ASt → ι → Prop
 | .exit id', s, i => if id' = id then Q .normal s i else Q (.exit id') s i
 | e, s, i => Q e s i
theorem ty_block {id : Nat} {c : Code} (h : TY P w F0 B0 dt J c st i (inBlockY id Q)) : TY P w F0 B0 dt J (.block id c) st i Q := by
 intro hc a W hs K hK
 simp only [codeOk] at hc
 refine wpIn_block (h hc a W hs _ fun e s i' a' W' hq hs' => ?_)
 cases e with
 | exit id' =>
  simp only [inBlockY, Exit.inBlock] at hq ⊢
  split
  ·rename_i h; rw [if_pos h] at hq; exact hK _ _ _ a' W' hq hs'
  ·rename_i h; rw [if_neg h] at hq; exact hK _ _ _ a' W' hq hs'
 | _ => exact hK _ _ _ a' W' hq hs'
theorem thenY_normal {ι : Type} {N : ASt → ι → Prop} {Q : Exit → ASt → ι → Prop} {s : ASt} {i : ι} : thenY N Q .normal s i = N s i := rfl
theorem thenY_exit {ι : Type} {N : ASt → ι → Prop} {Q : Exit → ASt → ι → Prop} {s : ASt} {i : ι} {id : Nat} : thenY N Q (.exit id) s i = Q (.exit id) s i := rfl
theorem thenY_ret {ι : Type} {N : ASt → ι → Prop} {Q : Exit → ASt → ι → Prop} {s : ASt} {i : ι} : thenY N Q .ret s i = Q .ret s i := rfl
theorem inBY_normal {ι : Type} {id : Nat} {Q : Exit → ASt → ι → Prop} {s : ASt} {i : ι} : inBlockY id Q .normal s i = Q .normal s i := rfl
theorem inBY_exit {ι : Type} {id id' : Nat} {Q : Exit → ASt → ι → Prop} {s : ASt} {i : ι} : inBlockY id Q (.exit id') s i = if id' = id then Q .normal s i else Q (.exit id') s i := rfl
theorem inBY_ret {ι : Type} {id : Nat} {Q : Exit → ASt → ι → Prop} {s : ASt} {i : ι} : inBlockY id Q .ret s i = Q .ret s i := rfl
theorem IR.le {st' : ASt} {a : Act} {W : World} (hF : ∀ (U : Ld) (w0 : World) E a w, SR U w0 st E a w → ∃ E', SR U w0 st' E' a w ∧ ∀ b, allB E' b → allB E b) (h : IR w F0 B0 dt J i st a W) : IR w F0 B0 dt J i st' a W := by
 obtain ⟨E, B, h1, h2, h3⟩ := h
 obtain ⟨E', h4, h5⟩ := hF _ _ E a W h1
 exact ⟨E', B, h4, h2, fun b hb => ⟨(h3 b hb).1, (h3 b hb).2.1, fun h => (h3 b hb).2.2 (h5 b h)⟩⟩
def NxtY {ι : Type} {α : Type} (I : α → ASt) (N : α → ι) (μ : α → Nat) (x : α) (s : ASt) (i : ι) : Prop := ∃ y, sub s (I y) ∧ i = N y ∧ μ y < μ x
theorem ty_loop {c : Code} {α : Type} (I : α → ASt) (N : α → ι) (μ : α → Nat) (x0 : α) (h0 : sub st (I x0) ∧ i = N x0)
  (hstep : ∀ x, TY P w F0 B0 dt J c (I x) (N x) (thenY (NxtY I N μ x) Q)) : TY P w F0 B0 dt J (.loop c) st i Q := by
 have hsub : ∀ {s s' : ASt} {i : ι} {a : Act} {W : World}, sub s s' → IR w F0 B0 dt J i s a W → IR w F0 B0 dt J i s' a W := fun {s s' i a W} hb h => by
  refine IR.le (fun U w0 E a w hs => ?_) h
  obtain ⟨h1, h2⟩ := hb
  obtain ⟨g1, g2⟩ := slotsLe_get h2
  refine ⟨E, ⟨hs.defers, by rw [g1]; exact hs.size, fun i x hi => ?_, hs.flt, by rw [h1]; exact hs.tok, hs.slt, hs.sep, hs.frame, hs.pin⟩, fun _ h => h⟩
  rw [h1]
  rcases g2 i x hi with rfl | hx
  ·simp [SRep]
  ·exact hs.slot i x hx
 intro hc a W hs K hK
 simp only [codeOk] at hc
 have key : ∀ (n : Nat) (x : α), μ x < n → ∀ (a : Act) (W : World), IR w F0 B0 dt J (N x) (I x) a W → Code.roundsIn (fen none) 0 P c K n a W := by
  intro n
  induction n with
  | zero => intro x h; omega
  | succ n ih =>
   intro x hx a W hs
   simp only [Code.roundsIn]
   refine hstep x hc a W hs _ fun e s i' a' W' hq hs' => ?_
   cases e with
   | normal =>
    obtain ⟨y, hsy, rfl, hy⟩ := hq
    exact ih y (by omega) a' W' (hsub hsy hs')
   | _ => exact hK _ _ _ a' W' hq hs'
 obtain ⟨h1, rfl⟩ := h0
 exact wpIn_loop_rounds (μ x0 + 1) (key _ x0 (Nat.lt_succ_self _) a W (hsub h1 hs))
theorem rrun_okR (hC : C.Ok P) {U : Ld} {w0 : World} {ops : Array Oper} (hds : ∀ (j : Nat) (oj : Oper), ops[j]? = some oj → ∀ e, oj.dst = some e → e ∉ U.idx) {Q : Exit → Act → World → Prop} (ro : Option Nat) {fin : ASt} {rest : List Nat} (hQ : ∀ E' a' w', SR U w0 fin E' a' w' → wpOpsIn (fen ro) 0 P ops Q rest a' w') : ∀ (l : List Oper) (k : Nat) (st : ASt) (E : Env) (a : Act) (w : World), (∀ j, j < l.length → l[j]? = ops[k + j]?) →
  SR U w0 st E a w → rrun C ops.toList l st = some fin → wpOpsIn (fen ro) 0 P ops Q (List.range' k l.length ++ rest) a w
 | [], _, st, E, a, w, _, hs, h => by
  simp only [rrun, Option.some.injEq] at h
  subst h
  simpa using hQ E a w hs
 | o :: l, k, st, E, a, w, hl, hs, h => by
  simp only [rrun] at h
  split at h
  ·rename_i st' hst
   have hi : ops[k]? = some o := by have := hl 0 (by simp); simp at this; exact this.symm
   simp only [List.length_cons, List.range'_succ, List.cons_append]
   rw [wpOpsIn_cons]
   refine rstep_ok hC hi (hds k o hi) hs hst ro fun E' a' w' hs' => ?_
   exact rrun_okR hC hds ro hQ l (k + 1) st' E' a' w' (fun j hj => by have := hl (j + 1) (by simpa using hj); simp at this; rw [this]; congr 1; omega) hs' h
  ·simp at h
theorem ty_yield {J : JT} {Q : Exit → ASt → Bool × Nat → Prop} (hC : C.Ok P) (hJ : ∀ i B W W', J i B W → Frm (fun b => ¬ B b) W W' → J i B W') {l : Nat} {xs : List AV}
  (hyield : ∀ k x y B Fi W, J (true, k) B W → xs[k]? = some x → Rep W Fi x y → (∀ b, Fi b → b < W.heap.size ∧ ¬ B b) → (∀ b, B b → b < W.heap.size) → Frm B0 w W →
   YieldAt (fen none) 0 P l #[y] W fun e W' => Frm B W W' ∧ ∃ B' : Nat → Prop, (∀ b, B' b → (B b ∨ W.heap.size ≤ b) ∧ b < W'.heap.size) ∧
    ((e = .returned (.bool true) ∧ J (true, k + 1) B' W') ∨ (e = .returned (.bool false) ∧ J (false, k + 1) B' W')))
  {id : Nat} {ops : Array Oper} {pre : List Oper} {oy : Oper} {d : Nat} {f arg : Operand} {ts : Array TypeId} (hops : ops.toList = pre ++ [oy]) (hop : oy.op = .call ⟨.value f, #[arg], ts⟩) (hg : oy.guard = none) (hd : oy.dst = some d)
  {slots : List AV} {toks : List Tok} (hpre : rrun C ops.toList pre st = some ⟨slots, toks⟩) (hf : ev slots f = yv l) {k : Nat} {x : AV} (hx : res toks (ev slots arg) = x) (hxs : xs[k]? = some x)
  (ht : Q .normal ⟨slots.set d (.v (.bool true)), toks⟩ (true, k + 1)) (hfalse : Q .normal ⟨slots.set d (.v (.bool false)), toks⟩ (false, k + 1)) : TY P w F0 B0 dt J (.region id ops false) st (true, k) Q := by
 intro hc a W hs K hK
 have hlen : ops.toList.length = pre.length + 1 := by rw [hops]; simp
 have hlen' : ops.size = pre.length + 1 := by rw [← hlen]; simp
 have hget : ∀ j : Nat, ops[j]? = (pre ++ [oy])[j]? := fun j => by rw [← hops]; simp
 obtain ⟨X, A, E, h1, h2⟩ := hs.now hJ
 refine wpIn_region ?_
 rw [List.range_eq_range', hlen', show List.range' 0 (pre.length + 1) = List.range' 0 pre.length ++ [pre.length] by rw [List.range'_concat]; simp]
 refine rrun_okR (U := (⟨X, [], fun _ => undef, dt, none, A, true⟩ : Ld)) hC (fun _ _ _ _ _ => by simp) none (fun E' a' W' hs' => ?_) pre 0 st E a W (fun j hj => by rw [Nat.zero_add, hget, List.getElem?_append_left hj]) h1 hpre
 obtain ⟨E1, B, hs1, hj1, hB1⟩ := h2 _ _ _ _ hs'
 rw [wpOpsIn_cons]
 have hi : ops[pre.length]? = some oy := by rw [hget]; simp
 unfold wpOpIn
 simp only [hi]
 have hw : Region.wanted oy (yielded ops a'.tmps) = true := by simp [Region.wanted, hg]
 rw [if_pos hw]
 have hfv := hs1.ev f
 simp only at hfv
 rw [hf] at hfv
 simp only [yv, SRep] at hfv
 have hav := SRep.res hs1.tokOk _ _ (hs1.ev arg)
 simp only at hav
 rw [hx] at hav
 have hY := hyield k x (a'.eval arg) B (allB E1) W' hj1 hxs hav (fun b hb => ⟨hs1.allLt b hb, fun h => (hB1 b h).2.2 hb⟩) (fun b hb => (hB1 b hb).2.1) hs1.frame
 obtain ⟨fn, tmps, assign, body, hrun, hround⟩ := hY
 have hexec : (execOp a'.eval oy).run P W' = .ok (.round l fn tmps assign body) W' := by
  simp [execOp, hop, resolve, hfv.1, Deferred.ofValue, invoke, hrun]
 refine ⟨fun _ _ => trivial, ?_⟩
 have hsem : (oy.semAt (fen none).round a'.eval).run P W' = .ok (.round l fn tmps assign body) W' := by
  rw [Oper.semAt_eq]
  ·exact hexec
  ·intro c hcc; rw [hop] at hcc; simp at hcc
 rw [hsem, Oper.uponIn_round]
 refine ⟨fun hd => by simp [fen, Fence.wide] at hd, ?_⟩
 refine hround.mono fun e W2 he => ?_
 obtain ⟨hfr, B', hB', he⟩ := he
 have hsr := hs1.rest hfr fun b hb => ⟨(hB1 b hb).2.2, (hB1 b hb).1.symm⟩
 have hB2 : ∀ b, B' b → (B0 b ∨ w.heap.size ≤ b) ∧ b < W2.heap.size ∧ ¬ allB E1 b := fun b hb => by
  refine ⟨?_, (hB' b hb).2, ?_⟩
  ·rcases (hB' b hb).1 with h | h
   ·exact (hB1 b h).1
   ·exact .inr (Nat.le_trans hs1.frame.size h)
  ·rcases (hB' b hb).1 with h | h
   ·exact (hB1 b h).2.2
   ·intro h'; have := hs1.allLt b h'; omega
 rcases he with ⟨rfl, hj⟩ | ⟨rfl, hj⟩
 ·simp only [wpOpsIn]
  refine hK _ _ _ _ _ ht ⟨E1, B', ?_, hj, hB2⟩
  have := SR.put (slots := slots) (toks := toks) hsr oy.dst (fun _ _ => by simp [ldI]) (x := .v (.bool true)) (y := .bool true) (by simp [SRep, Value.oneCell'])
  rw [hd] at this ⊢
  exact this
 ·simp only [wpOpsIn]
  refine hK _ _ _ _ _ hfalse ⟨E1, B', ?_, hj, hB2⟩
  have := SR.put (slots := slots) (toks := toks) hsr oy.dst (fun _ _ => by simp [ldI]) (x := .v (.bool false)) (y := .bool false) (by simp [SRep, Value.oneCell'])
  rw [hd] at this ⊢
  exact this
theorem iterOk_of_ty {gf : Nat} {fn : Func} {c : Code} {caps xs : List AV} {dt : List (Nat × RD)} (hf : P.funcs[gf]? = some fn) (hb : fn.body = some c) (hname : (fn.name == "runtime.NumGoroutine") = false) (hres : fn.results = #[]) (hck : codeOk dt [] c = true)
  (h : ∀ (w : World) (F0 B0 : Nat → Prop) (l : Nat) (J : JT), (∀ i B W W', J i B W → Frm (fun b => ¬ B b) W W' → J i B W') →
   (∀ k x y B Fi W, J (true, k) B W → xs[k]? = some x → Rep W Fi x y → (∀ b, Fi b → b < W.heap.size ∧ ¬ B b) → (∀ b, B b → b < W.heap.size) → Frm B0 w W →
   YieldAt (fen none) 0 P l #[y] W fun e W' => Frm B W W' ∧ ∃ B' : Nat → Prop, (∀ b, B' b → (B b ∨ W.heap.size ≤ b) ∧ b < W'.heap.size) ∧
    ((e = .returned (.bool true) ∧ J (true, k + 1) B' W') ∨ (e = .returned (.bool false) ∧ J (false, k + 1) B' W'))) →
   TY P w F0 B0 dt J c ⟨(yv l :: caps) ++ List.replicate (fn.ntmps - (caps.length + 1)) .junk, []⟩ (true, 0) (fun e _ i => (e = .normal ∨ e = .ret) ∧ (i = (true, xs.length) ∨ i.1 = false))) : IterOk P gf caps xs := by
 refine ⟨⟨fn, hf, hname, by rw [hb]; rfl⟩, fun w F0 B0 lb hF hB0 hlb l J Jx hJ hJx hyield h0 => ?_⟩
 let JJ : JT := fun i => if i.1 then J i.2 else Jx i.2
 have hJJ : ∀ i B W W', JJ i B W → Frm (fun b => ¬ B b) W W' → JJ i B W' := fun i B W W' hj hf => by
  obtain ⟨t, k⟩ := i
  cases t with
  | true => exact hJ k B W W' hj hf
  | false => exact hJx k B W W' hj hf
 refine callsIn_of_wp_marks hf hb trivial ?_
 have hlen : lb.size = caps.length := by simpa using hlb.length
 let E : Env := { F := F0, hd := fun _ => undef, S := fun _ _ => False }
 have hs : SR (ldI B0 F0 dt) w ⟨(yv l :: caps) ++ List.replicate (fn.ntmps - (caps.length + 1)) .junk, []⟩ E { tmps := (#[Value.func (.yield l) #[] #[]] ++ lb) ++ Array.replicate (fn.ntmps - (#[Value.func (.yield l) #[] #[]] ++ lb).size) undef, defers := [] } w := by
  refine ⟨Marks.nil hF.gl (fun _ h => .inl h), by simp [hlen]; omega, fun i x hi => ?_, hF.lt, fun t tk ht => by simp at ht, fun t b hb => hb.elim, fun t t' b _ hb => hb.elim, Frm.refl _ _, fun i hi => by simp [ldI] at hi⟩
  have hrep : RepL w F0 (yv l :: caps) (#[Value.func (.yield l) #[] #[]] ++ lb).toList := by
   simp only [RepL]
   exact ⟨Value.func (.yield l) #[] #[], lb.toList, by simp, by simp [yv, Rep, Value.oneCell'], hlb⟩
  by_cases hlt : i < (yv l :: caps).length
  ·rw [List.getElem?_append_left hlt] at hi
   obtain ⟨y, h1, h2⟩ := RepL_srep (E := E) rfl hrep i x hi
   have h1' : (#[Value.func (.yield l) #[] #[]] ++ lb)[i]? = some y := by rw [← Array.getElem?_toList]; exact h1
   have hsz : i < (#[Value.func (.yield l) #[] #[]] ++ lb).size := by
    simp only [List.length_cons] at hlt
    simp [hlen]; omega
   have : ((#[Value.func (.yield l) #[] #[]] ++ lb) ++ Array.replicate (fn.ntmps - (#[Value.func (.yield l) #[] #[]] ++ lb).size) undef).getD i undef = y := by
    rw [Array.getD_eq_getD_getElem?, Array.getElem?_append_left hsz, h1']; rfl
   rw [this]; exact h2
  ·rw [List.getElem?_append_right (by omega)] at hi
   have := List.mem_of_getElem? hi
   rw [List.mem_replicate] at this
   rw [this.2]; simp [SRep]
 have hty := h w F0 B0 l JJ hJJ (fun k x y B Fi W hj => hyield k x y B Fi W hj)
 have hfen : fen none = Fence.wide := rfl
 refine hty hck _ w ⟨E, B0, hs, h0, fun b hb => ⟨.inl hb, (hB0 b hb).1, fun h => h.elim (hB0 b hb).2 fun ⟨_, h⟩ => h⟩⟩ _ fun e st' i' a' W' hq hs' => ?_
 obtain ⟨E', B', hsr, hj, hB'⟩ := hs'
 have hpost : LeavesInM (fen none) 0 P fn a'.tmps (fun e W' => (∃ v, e = .returned v) ∧ Frm B0 w W' ∧
   ∃ (k : Nat) (B' : Nat → Prop), (∀ b, B' b → (B0 b ∨ w.heap.size ≤ b) ∧ b < W'.heap.size) ∧ ((k = xs.length ∧ J k B' W') ∨ Jx k B' W')) a'.defers .returning W' := by
  rw [hsr.defers.none rfl]
  refine ⟨.tuple #[], ?_, ⟨_, rfl⟩, hsr.frame, i'.2, B', fun b hb => ⟨(hB' b hb).1, (hB' b hb).2.1⟩, ?_⟩
  ·rw [results_eq, hres]
   simp
  ·rcases hq.2 with rfl | hf'
   ·exact .inl ⟨rfl, hj⟩
   ·refine .inr ?_
    have : JJ i' B' W' := hj
    simpa [JJ, hf'] using this
 rcases hq.1 with rfl | rfl
 ·exact hpost
 ·exact hpost
mutual
def frzA (L : List Nat) (toks : List Tok) : AV → AV
 | .ref t p lo n => if L.contains t then res toks (.ref t p lo n) else .ref t p lo n
 | .ptr t p i j => if L.contains t then res toks (.ptr t p i j) else .ptr t p i j
 | .agg cs => .agg (frzAL L toks cs)
 | .tup cs => .tup (frzAL L toks cs)
 | .fn f cs => .fn f (frzAL L toks cs)
 | .v x => .v x
 | .sl nl sz es => .sl nl sz es
 | .fp e j => .fp e j
 | .junk => .junk
def frzAL (L : List Nat) (toks : List Tok) : List AV → List AV
 | [] => []
 | c :: cs => frzA L toks c :: frzAL L toks cs
end
def freeze (L : List Nat) (st : ASt) : ASt := ⟨frzAL L st.toks st.slots, sets (L.map fun t => (t, ⟨true, .junk⟩)) st.toks⟩
theorem frzAL_get {L : List Nat} {toks : List Tok} : ∀ {cs : List AV} {i : Nat}, (frzAL L toks cs)[i]? = (cs[i]?).map (frzA L toks)
 | [], _ => by simp [frzAL]
 | c :: cs, 0 => by simp [frzAL]
 | c :: cs, i + 1 => by simp only [frzAL, List.getElem?_cons_succ]; exact frzAL_get
theorem frzAL_len {L : List Nat} {toks : List Tok} : ∀ {cs : List AV}, (frzAL L toks cs).length = cs.length
 | [] => rfl
 | c :: cs => by simp [frzAL, frzAL_len (cs := cs)]
mutual
theorem SRep.freeze {w : World} {E : Env} {toks : List Tok} {L : List Nat} {E' : Env} {toks' : List Tok} (hT : ∀ t tk, toks[t]? = some tk → TokOk w E t tk) (hF : ∀ b, E.F b → E'.F b) (hS : ∀ t ∈ L, ∀ b, E.S t b → E'.F b) (hhd : E'.hd = E.hd) (hl : toks'.length = toks.length) (ht : ∀ t, t ∉ L → toks'[t]? = toks[t]?) :
  ∀ (x : AV) (y : Value), SRep w E toks x y → SRep w E' toks' (frzA L toks x) y
 | .v _, _, k => by simp only [SRep, frzA] at k ⊢; exact k
 | .agg cs, y, k => by simp only [SRep, frzA] at k ⊢; obtain ⟨ys, rfl, k⟩ := k; exact ⟨ys, rfl, SRepL.freeze hT hF hS hhd hl ht cs _ k⟩
 | .tup cs, y, k => by simp only [SRep, frzA] at k ⊢; obtain ⟨ys, rfl, k⟩ := k; exact ⟨ys, rfl, SRepL.freeze hT hF hS hhd hl ht cs _ k⟩
 | .fn f cs, y, k => by simp only [SRep, frzA] at k ⊢; obtain ⟨ys, rfl, k⟩ := k; exact ⟨ys, rfl, SRepL.freeze hT hF hS hhd hl ht cs _ k⟩
 | .sl nl sz es, y, k => by simp only [SRep, frzA] at k ⊢; exact k.weak hF (Agree.refl _ _)
 | .fp e j, y, k => by simp only [SRep, frzA] at k ⊢; exact k.weak hF (Agree.refl _ _)
 | .ref t p lo n, y, k => by
  simp only [frzA]
  by_cases hc : t ∈ L
  ·rw [if_pos (by simpa using hc)]
   exact SRep.of_rep _ _ (SRep.resS hF hT _ _ (fun t' ht' => by simp [refs] at ht'; subst ht'; exact hS t' hc) k)
  ·rw [if_neg (by simpa using hc)]
   simp only [SRep] at k ⊢
   refine ⟨by rw [hl]; exact k.1, fun tk nl sz es h1 h2 h3 => ?_⟩
   rw [ht t hc] at h1
   rw [hhd]
   exact k.2 tk nl sz es h1 h2 h3
 | .ptr t p i j, y, k => by
  simp only [frzA]
  by_cases hc : t ∈ L
  ·rw [if_pos (by simpa using hc)]
   exact SRep.of_rep _ _ (SRep.resS hF hT _ _ (fun t' ht' => by simp [refs] at ht'; subst ht'; exact hS t' hc) k)
  ·rw [if_neg (by simpa using hc)]
   simp only [SRep] at k ⊢
   refine ⟨by rw [hl]; exact k.1, fun tk nl sz es h1 h2 h3 => ?_⟩
   rw [ht t hc] at h1
   rw [hhd]
   exact k.2 tk nl sz es h1 h2 h3
 | .junk, _, _ => by simp [SRep, frzA]
theorem SRepL.freeze {w : World} {E : Env} {toks : List Tok} {L : List Nat} {E' : Env} {toks' : List Tok} (hT : ∀ t tk, toks[t]? = some tk → TokOk w E t tk) (hF : ∀ b, E.F b → E'.F b) (hS : ∀ t ∈ L, ∀ b, E.S t b → E'.F b) (hhd : E'.hd = E.hd) (hl : toks'.length = toks.length) (ht : ∀ t, t ∉ L → toks'[t]? = toks[t]?) :
  ∀ (x : List AV) (y : List Value), SRepL w E toks x y → SRepL w E' toks' (frzAL L toks x) y
 | [], _, k => by simpa [SRepL, frzAL] using k
 | c :: cs, y, k => by
  simp only [SRepL, frzAL] at k ⊢
  obtain ⟨y, ys, rfl, k1, k2⟩ := k
  exact ⟨y, ys, rfl, SRep.freeze hT hF hS hhd hl ht c y k1, SRepL.freeze hT hF hS hhd hl ht cs ys k2⟩
end
theorem sets_junk_get {L : List Nat} {toks : List Tok} {t : Nat} (h : t ∈ L) : ∀ tk, (sets (L.map fun t => (t, (⟨true, .junk⟩ : Tok))) toks)[t]? = some tk → tk.row = .junk := by
 induction L generalizing toks with
 | nil => simp at h
 | cons x L ih =>
  intro tk htk
  simp only [List.map_cons, sets] at htk
  by_cases hx : t ∈ L
  ·exact ih hx tk htk
  ·rw [sets_get (fun k hk => by obtain ⟨y, hy, rfl⟩ := List.mem_map.1 hk; exact fun e => hx (e ▸ hy))] at htk
   have hxt : x = t := by rcases List.mem_cons.1 h with h | h; exact h.symm; exact (hx h).elim
   subst hxt
   rw [List.getElem?_set] at htk
   simp only [if_true] at htk
   split at htk
   ·simp at htk; rw [← htk]
   ·simp at htk
theorem le_freeze {U : Ld} {w0 : World} {st : ASt} (L : List Nat) : Le U w0 st (freeze L st) := by
 intro E a w hs
 have hne : ∀ t, t ∉ L → (sets (L.map fun t => (t, (⟨true, .junk⟩ : Tok))) st.toks)[t]? = st.toks[t]? := fun t ht => sets_get fun k hk => by
  obtain ⟨y, hy, rfl⟩ := List.mem_map.1 hk; exact fun e => ht (e ▸ hy)
 let E' : Env := { F := fun b => E.F b ∨ ∃ t ∈ L, E.S t b, hd := E.hd, S := fun t b => t ∉ L ∧ E.S t b }
 refine ⟨E', ⟨fun hr => (hs.defers.marks hr).mono (fun _ h => .inl h) (Agree.refl _ _), hs.defers.none, fun b hb => ?_, hs.defers.gl.mono fun _ h => .inl h⟩, by simpa [freeze, frzAL_len] using hs.size, fun i x hi => ?_, fun b hb => ?_, fun t tk ht => ?_, fun t b hb => ⟨(hs.slt t b hb.2).1, ?_, (hs.slt t b hb.2).2.2⟩, fun t t' b hne hb hb' => hs.sep t t' b hne hb.2 hb'.2, hs.frame, hs.pin⟩
 ·rcases hb with hb | ⟨t, _, hb⟩
  ·exact hs.defers.fz b hb
  ·exact .inr (hs.slt t b hb).2.2.symm
 ·simp only [freeze] at hi ⊢
  rw [frzAL_get, Option.map_eq_some_iff] at hi
  obtain ⟨x0, h1, rfl⟩ := hi
  exact SRep.freeze (E' := E') hs.tokOk (fun _ h => .inl h) (fun t ht b hb => .inr ⟨t, ht, hb⟩) rfl (sets_len) hne x0 _ (hs.slot i x0 h1)
 ·rcases hb with hb | ⟨t, _, hb⟩
  ·exact hs.flt b hb
  ·exact (hs.slt t b hb).1
 ·by_cases hc : t ∈ L
  ·exact .inl (sets_junk_get hc tk ht)
  ·have ht' : st.toks[t]? = some tk := by rw [← hne t hc]; exact ht
   exact (hs.tokOk t tk ht').weak (E' := E') (Agree.refl _ _) (fun _ h => .inl h) rfl (fun b hb => ⟨hc, hb⟩)
 ·rintro (h | ⟨t', ht', h⟩)
  ·exact (hs.slt t b hb.2).2.1 h
  ·exact hs.sep t t' b (fun e => hb.1 (e ▸ ht')) hb.2 h
def isJ : AV → Bool
 | .junk => true
 | _ => false
def chkS : List AV → List Nat → Nat → Bool
 | [], _, _ => true
 | x :: l, idx, i => (isJ x || idx.contains i) && chkS l idx (i + 1)
theorem chkS_ok {idx : List Nat} : ∀ {l : List AV} {o : Nat}, chkS l idx o = true → ∀ (i : Nat) (x : AV), l[i]? = some x → x = .junk ∨ o + i ∈ idx
 | [], _, _, i, x, h => by simp at h
 | y :: l, o, hc, i, x, h => by
  simp only [chkS, Bool.and_eq_true, Bool.or_eq_true] at hc
  cases i with
  | zero =>
   simp at h; subst h
   rcases hc.1 with h | h
   ·left; cases y <;> first | rfl | simp [isJ] at h
   ·right; simpa using h
  | succ i =>
   have := chkS_ok hc.2 i x (by simpa using h)
   rwa [show o + 1 + i = o + (i + 1) by omega] at this
theorem chkS_all {idx : List Nat} {l : List AV} (h : chkS l idx 0 = true) (i : Nat) (x : AV) (hi : l[i]? = some x) : x = .junk ∨ i ∈ idx := by
 have := chkS_ok h i x hi
 rwa [Nat.zero_add] at this
theorem asgF_normal {P : Program} {C : Ctx} {live lv : List Bool} {idx : List Nat} {pin : Nat → Value} {dt : List (Nat × RD)} {l : Nat} {body : Code} {S0 : List AV} {I : Nat → List Tok} {k : Nat} {Q : Exit → ASt → Prop} {s : ASt} :
  asgF P C live lv idx pin dt l body S0 I k Q .normal s = ∀ US w1, awp P C live (ldR US idx pin dt l) w1 body s (rngF lv S0 I k Q) := rfl
theorem rngF_normal {lv : List Bool} {S0 : List AV} {I : Nat → List Tok} {k : Nat} {Q : Exit → ASt → Prop} {s : ASt} : rngF lv S0 I k Q .normal s = sub (clean lv s) ⟨S0, I (k + 1)⟩ := rfl
end
open Go Go.RowKit
def curC (code : Value) (T : TypeId) (s : Int × Int) : Obj := .cells #[code, .int .i64 s.1, .int .i64 s.2] T (0, 0)
def curJ (code : Value) (T : TypeId) (b : Nat) : JTy (Int × Int) := fun s B W => (∀ x, B x ↔ x = b) ∧ W.heap[b]? = some (curC code T s)
theorem curJ_stable {code : Value} {T : TypeId} {b : Nat} (i : Int × Int) (B : Nat → Prop) (W W' : World) (h : curJ code T b i B W) (hf : Frm (fun x => ¬ B x) W W') : curJ code T b i B W' := by
 obtain ⟨h1, h2⟩ := h
 exact ⟨h1, by rw [hf.block b (Array.getElem?_eq_some_iff.1 h2).1 fun h => h ((h1 b).2 rfl)]; exact h2⟩
theorem Does.mono {P : Program} {o : Oper} {a : Act} {w : World} {next next' : Act → World → Prop} (h : Does P o a w next) (hn : ∀ a' w', next a' w' → next' a' w') : Does P o a w next' := by
 rcases h with ⟨y, w', h1, h2⟩ | ⟨w', h1, h2⟩ | ⟨f, args, w1, h1, h2⟩
 ·exact .inl ⟨y, w', h1, hn _ _ h2⟩
 ·exact .inr (.inl ⟨w', h1, hn _ _ h2⟩)
 ·exact .inr (.inr ⟨f, args, w1, h1, h2.mono fun e w' he => by
   obtain ⟨y, e1, e2⟩ := he
   exact ⟨y, e1, hn _ _ e2⟩⟩)
def ptrV (b : Nat) : Value := .pointer (some ⟨b, 0, none⟩)
def CurOk (P : Program) (f : FuncId) (bytes : AV) (T : TypeId) (extra : List AV) (s s' : Int × Int) (r : AV) : Prop :=
 (∃ fn, P.funcs[f]? = some fn ∧ (fn.name == "runtime.NumGoroutine") = false ∧ fn.body.isNone = false) ∧
 ∀ (code : Value) (b : Nat) (w : World) (F : Nat → Prop) (vals : List Value), Rep w F bytes code → w.heap[b]? = some (curC code T s) → Fit F w → ¬ F b → RepL w F extra vals →
  Calls P f (ptrV b :: vals).toArray w fun e w' => ∃ (y : Value) (S : Nat → Prop), e = .returned y ∧ Frm (fun x => x = b) w w' ∧ w'.heap[b]? = some (curC code T s') ∧ (∀ x, S x → w.heap.size ≤ x ∧ x < w'.heap.size) ∧ Own w' true (fun _ => False) S r y
section
variable {P : Program} {C : Ctx} {w : World} {F0 B0 : Nat → Prop} {dt : List (Nat × RD)} {code : Value} {T : TypeId} {b : Nat} {bytes : AV} {st : ASt} {s s' : Int × Int} {Q : Exit → ASt → Int × Int → Prop}
def TYO {ι : Type} (P : Program) (w : World) (F0 B0 : Nat → Prop) (dt : List (Nat × RD)) (J : JTy ι) (ops : Array Oper) (k : Nat) (st : ASt) (i : ι) (Q : Exit → ASt → ι → Prop) : Prop :=
 ∀ (a : Act) (W : World), IR w F0 B0 dt J i st a W → ∀ K : Exit → Act → World → Prop, (∀ e st' i' a' W', Q e st' i' → IR w F0 B0 dt J i' st' a' W' → K e a' W') → wpOpsIn (fen none) 0 P ops K (List.range' k (ops.size - k)) a W
section
variable {ι : Type} {J : JTy ι} {i : ι} {ops : Array Oper} {k : Nat} {R : Exit → ASt → ι → Prop}
theorem ty_reg {id : Nat} (h : TYO P w F0 B0 dt J ops 0 st i R) : TY P w F0 B0 dt J (.region id ops false) st i R := by
 intro _ a W hs K hK
 refine wpIn_region ?_
 rw [List.range_eq_range']
 exact h a W hs K hK
theorem tyo_end (hk : ops.size ≤ k) (hR : R .normal st i) : TYO P w F0 B0 dt J ops k st i R := by
 intro a W hs K hK
 rw [show ops.size - k = 0 by omega]
 simp only [List.range'_zero, wpOpsIn]
 exact hK _ _ _ _ _ hR hs
theorem tyo_run (hC : C.Ok P) (hJ : ∀ i B W W', J i B W → Frm (fun b => ¬ B b) W W' → J i B W') {l : List Oper} {st1 : ASt} (hl : ∀ j, j < l.length → l[j]? = ops[k + j]?) (hkl : k + l.length ≤ ops.size) (hr : rrun C ops.toList l st = some st1)
  (h : TYO P w F0 B0 dt J ops (k + l.length) st1 i R) : TYO P w F0 B0 dt J ops k st i R := by
 intro a W hs K hK
 obtain ⟨X, A, E, h1, h2⟩ := hs.now hJ
 rw [show ops.size - k = l.length + (ops.size - (k + l.length)) by omega, ← List.range'_append_1]
 exact rrun_okR (U := (⟨X, [], fun _ => undef, dt, none, A, true⟩ : Ld)) hC (fun _ _ _ _ _ => by simp) none (fun E' a' W' hs' => h a' W' (h2 _ _ _ _ hs') K hK) l k st E a W hl h1 hr
end
theorem tyo_ops {ι : Type} {J : JTy ι} {i : ι} {ops : Array Oper} {k : Nat} {R : Exit → ASt → ι → Prop} (m : Nat) (hC : C.Ok P) (hJ : ∀ i B W W', J i B W → Frm (fun b => ¬ B b) W W' → J i B W') (hkm : k + m ≤ ops.size)
  (h : ∃ st1, rrun C ops.toList ((ops.toList.drop k).take m) st = some st1 ∧ TYO P w F0 B0 dt J ops (k + m) st1 i R) : TYO P w F0 B0 dt J ops k st i R := by
 obtain ⟨st1, h1, h2⟩ := h
 have hl : ((ops.toList.drop k).take m).length = m := by simp; omega
 refine tyo_run hC hJ (fun j hj => ?_) (by rw [hl]; exact hkm) h1 (by rw [hl]; exact h2)
 rw [hl] at hj
 rw [List.getElem?_take, if_pos hj, List.getElem?_drop, Array.getElem?_toList]
theorem tyo_cur (hbytes : Rep w F0 bytes code) (hF0 : ∀ x, F0 x → x < w.heap.size ∧ ¬ B0 x) (hbF : ¬ F0 b) {g : FuncId} {extra exa : List AV} {r : AV} (hcur : CurOk P g bytes T extra s s' r)
  {ops : Array Oper} {k : Nat} {oc : Oper} {f : Operand} {args : Array Operand} {ts : Array TypeId} (hi : ops[k]? = some oc) (hop : oc.op = .call ⟨.value f, args, ts⟩) (hg : oc.guard = none)
  (hf : ev st.slots f = .fn g []) (hargs : args.toList.map (ev st.slots) = .v (ptrV b) :: exa) (hex : resL st.toks exa = extra)
  (h : TYO P w F0 B0 dt (curJ code T b) ops (k + 1) ⟨putD st.slots oc.dst (intern st.toks r).1, (intern st.toks r).2⟩ s' Q) : TYO P w F0 B0 dt (curJ code T b) ops k st s Q := by
 intro a' W' hs K hK
 have hkl : k < ops.size := (Array.getElem?_eq_some_iff.1 hi).1
 rw [show ops.size - k = (ops.size - (k + 1)) + 1 by omega, List.range'_succ, wpOpsIn_cons]
 obtain ⟨E1, B, hs1, hj1, hB1⟩ := hs
 unfold wpOpIn
 simp only [hi]
 have hw : Region.wanted oc (yielded ops a'.tmps) = true := by simp [Region.wanted, hg]
 rw [if_pos hw]
 have hfv := hs1.ev f
 rw [hf] at hfv
 simp only [SRep, SRepL] at hfv
 obtain ⟨cv, hfv, hcv⟩ := hfv
 have hav := RepL_args hs1 args.toList
 have hmm : (args.toList.map fun x => res st.toks (ev st.slots x)) = .v (ptrV b) :: extra := by
  have : (args.toList.map fun x => res st.toks (ev st.slots x)) = (args.toList.map (ev st.slots)).map (res st.toks) := by rw [List.map_map]; rfl
  rw [this, hargs, List.map_cons, ← resL_map, hex]; rfl
 rw [hmm] at hav
 simp only [RepL, Rep] at hav
 obtain ⟨y0, vals, hvl, ⟨rfl, _⟩, hvals⟩ := hav
 have hBb : B b := (hj1.1 b).2 rfl
 have hb1 := hB1 b hBb
 have hag : Agree F0 w W' := fun x hx => hs1.frame.block x (hF0 x hx).1 (hF0 x hx).2
 have hcall := hcur.2 code b W' (fun x => allB E1 x ∨ F0 x) vals (Rep.agree (fun _ h => .inr h) hag _ _ hbytes) hj1.2 ⟨fun x hx => hx.elim (hs1.allLt x) fun h => Nat.lt_of_lt_of_le (hF0 x h).1 hs1.frame.size, hs1.defers.gl.mono fun _ h => .inl (.inl h)⟩
  (fun h => h.elim hb1.2.2 hbF) (RepL.agree (fun _ h => .inl h) (Agree.refl _ _) _ _ hvals)
 obtain ⟨fn, hfn, hn1, hn2⟩ := hcur.1
 have hexec : (execOp a'.eval oc).run P W' = .ok (.enter g (ptrV b :: vals).toArray) W' := by
  have e1 : fn.name ≠ "runtime.NumGoroutine" := by simpa using hn1
  have e2 : fn.body ≠ Option.none := by intro e; rw [e] at hn2; simp at hn2
  have e3 : args.map a'.eval = (ptrV b :: vals).toArray := by
   apply Array.ext'
   rw [Array.toList_map, hvl]
  have e4 : cv = #[] := by
   apply Array.ext'
   rw [hcv]
  subst e4
  simp [execOp, hop, resolve, hfv, Deferred.ofValue, invoke, callFunc, hfn, e1, e2, e3]
 have hdoes : Does P oc a' W' fun a2 w2 => IR w F0 B0 dt (curJ code T b) s' ⟨putD st.slots oc.dst (intern st.toks r).1, (intern st.toks r).2⟩ a2 w2 := by
  refine .inr (.inr ⟨g, _, W', hexec, hcall.mono fun e w2 he => ?_⟩)
  obtain ⟨y, S, rfl, hfr, hj2, hS, hown⟩ := he
  refine ⟨y, rfl, ?_⟩
  have hsr := hs1.rest hfr fun x hx => by subst hx; exact ⟨hb1.2.2, hb1.1.symm⟩
  obtain ⟨E2, _, _, g3, _, g5, g6⟩ := intern_ok (slots := st.slots) r y S st.toks E1 hsr hown fun x hx => ⟨.inl (Nat.le_trans hs1.frame.size (hS x hx).1), (hS x hx).2, fun h => by have := hs1.allLt x h; have := (hS x hx).1; omega⟩
  refine ⟨E2, B, SR.put g5 oc.dst (fun _ _ => by simp [ldI]) g6, ⟨hj1.1, hj2⟩, fun x hx => ⟨(hB1 x hx).1, Nat.lt_of_lt_of_le (hB1 x hx).2.1 hfr.size, fun h => ?_⟩⟩
  rcases g3 x h with h | h
  ·exact (hB1 x hx).2.2 h
  ·have := (hB1 x hx).2.1; have := (hS x h).1; omega
 exact Does.wpIn none (hdoes.mono fun a2 w2 hs2 => h a2 w2 hs2 K hK)
theorem results_okE {U : Ld} {E : Env} {a : Act} (hC : C.Ok P) {w0 : World} (hs : SR U w0 st E a w) {F : Nat → Prop} {fn : Func} {r : AV} (h : resOk C st fn.results.toList r) :
  ∃ (y : Value) (S : Nat → Prop), (results fn a.tmps).run P w = .ok y w ∧ (∀ x, S x → ∃ t, E.S t x) ∧ Own w true F S r y := by
 obtain ⟨q, h1, h2, h3⟩ : ∃ q, resVars C st fn.results.toList = some q ∧ q.2.Nodup ∧ pack q.1 = r := by
  unfold resOk at h
  split at h
  ·rename_i q hq
   split at h
   ·rename_i hn; exact ⟨q, hq, hn, by simpa using h⟩
   ·simp at h
  ·simp at h
 obtain ⟨ys, g1, g2⟩ := resVars_ok (F := F) hC hs (fun _ _ _ => rfl) _ q h1 h2
 have hrun : (results fn a.tmps).run P w = .ok (if h : ys.toArray.size = 1 then ys.toArray[0] else .tuple ys.toArray) w := by
  rw [results_eq, Sem.run_bind, Array.mapM_eq_mapM_toList, Sem.run_map, g1]
  rfl
 refine ⟨_, SU E q.2, hrun, fun x hx => ?_, ?_⟩
 ·obtain ⟨t, _, hx⟩ := hx
  exact ⟨t, hx⟩
 ·rw [← h3]
  exact pack_ok g2
end
def NewOk (P : Program) (f : FuncId) (bytes : AV) (T : TypeId) (extra : List AV) (s : Int × Int) : Prop :=
 (∃ fn, P.funcs[f]? = some fn ∧ (fn.name == "runtime.NumGoroutine") = false ∧ fn.body.isNone = false) ∧
 ∀ (w : World) (F : Nat → Prop) (vals : List Value), Fit F w → RepL w F (bytes :: extra) vals →
  Calls P f vals.toArray w fun e w' => ∃ (b : Nat) (code : Value) (F' : Nat → Prop), e = .returned (ptrV b) ∧ Frm (fun _ => False) w w' ∧ w.heap.size ≤ b ∧ w'.heap[b]? = some (curC code T s) ∧ Rep w' F' bytes code ∧ ∀ x, F' x → (F x ∨ w.heap.size ≤ x) ∧ x < w'.heap.size ∧ x ≠ b
def noJ : JTy Unit := fun _ B _ => ∀ x, ¬ B x
theorem noJ_stable (i : Unit) (B : Nat → Prop) (W W' : World) (h : noJ i B W) (_ : Frm (fun b => ¬ B b) W W') : noJ i B W' := h
theorem ty_pre {ι : Type} {P : Program} {w : World} {F0 B0 : Nat → Prop} {dt : List (Nat × RD)} {J : JTy ι} {x y : Code} {st : ASt} {i : ι} {N : ASt → ι → Prop} (h : TY P w F0 B0 dt J x st i (thenY N fun _ _ _ => False)) (hc : codeOk dt [] x = true) {a : Act} {W : World} (hs : IR w F0 B0 dt J i st a W) {K : Exit → Act → World → Prop}
  (hy : ∀ s i a' W', N s i → IR w F0 B0 dt J i s a' W' → y.wpIn (fen none) 0 P K a' W') : (Code.seq x y).wpIn (fen none) 0 P K a W := by
 refine wpIn_seq (h hc a W hs _ fun e s i' a' W' hq hs' => ?_)
 cases e with
 | normal => exact hy s i' a' W' hq hs'
 | _ => exact absurd hq id
section
variable {P : Program} {C : Ctx} {dt : List (Nat × RD)} {T : TypeId} {bytes : AV}
theorem ir_start {fn : Func} {w : World} {F : Nat → Prop} {args : List AV} {vals : List Value} (hF : Fit F w) (hvals : RepL w F args vals) :
  IR w F (fun _ => False) dt noJ () ⟨args ++ List.replicate (fn.ntmps - args.length) .junk, []⟩ { tmps := vals.toArray ++ Array.replicate (fn.ntmps - vals.toArray.size) undef, defers := [] } w := by
 have hlen : vals.length = args.length := by simpa using hvals.length
 let E : Env := { F := F, hd := fun _ => undef, S := fun _ _ => False }
 refine ⟨E, fun _ => False, ?_, fun _ h => h, fun _ h => h.elim⟩
 refine ⟨Marks.nil hF.gl (fun _ h => .inl h), by simp [hlen], fun i x hi => ?_, hF.lt, fun t tk ht => by simp at ht, fun t b hb => hb.elim, fun t t' b _ hb => hb.elim, Frm.refl _ _, fun i hi => by simp [ldI] at hi⟩
 by_cases hlt : i < args.length
 ·rw [List.getElem?_append_left hlt] at hi
  obtain ⟨y, h1, h2⟩ := RepL_srep (E := E) rfl hvals i x hi
  have h1' : (vals.toArray)[i]? = some y := by rw [← Array.getElem?_toList]; exact h1
  have hsz : i < vals.toArray.size := by simp; omega
  have : (vals.toArray ++ Array.replicate (fn.ntmps - vals.toArray.size) undef).getD i undef = y := by
   rw [Array.getD_eq_getD_getElem?, Array.getElem?_append_left hsz, h1']; rfl
  rw [this]; exact h2
 ·rw [List.getElem?_append_right (by omega)] at hi
  have := List.mem_of_getElem? hi
  rw [List.mem_replicate] at this
  rw [this.2]; simp [SRep]
theorem new_fn (hC : C.Ok P) {f : FuncId} {fn : Func} {c y : Code} {extra : List AV} {s0 s1 : Int × Int} {R : Nat → AV} (hf : P.funcs[f]? = some fn) (hb : fn.body = some c) (hck : codeOk dt [] c = true)
  {id0 id1 : Nat} {ops0 ops : Array Oper} (hbody : c = .seq (.region id0 ops0 false) (.seq (.region id1 ops false) y)) {st0 st1 : ASt} (h0 : rrun C ops0.toList ops0.toList ⟨(bytes :: extra) ++ List.replicate (fn.ntmps - (extra.length + 1)) .junk, []⟩ = some st0)
  {pre : List Oper} {oc : Oper} {post : List Oper} {fo : Operand} {args : Array Operand} {ts : Array TypeId} (hops : ops.toList = pre ++ oc :: post) (hop : oc.op = .call ⟨.value fo, args, ts⟩) (hg : oc.guard = none)
  (hpre : rrun C ops.toList pre st0 = some st1) {g : FuncId} {ex : List AV} (hfz : (bytes :: ex).all frz = true) (hfo : ev st1.slots fo = .fn g []) (hargs : args.toList.map (ev st1.slots) = bytes :: ex) (hnew : NewOk P g bytes T ex s0)
  (h : ∀ (w : World) (F0 B0 : Nat → Prop) (code : Value) (b : Nat), Rep w F0 bytes code → (∀ x, F0 x → x < w.heap.size ∧ ¬ B0 x) → ¬ F0 b →
   TYO P w F0 B0 dt (curJ code T b) ops (pre.length + 1) ⟨putD st1.slots oc.dst (.v (ptrV b)), st1.toks⟩ s0
    (thenY (fun st i => TY P w F0 B0 dt (curJ code T b) y st i (fun e st i => doneS C fn.results.toList (R b) e st ∧ i = s1)) fun _ _ _ => False)) :
  ∀ (w : World) (F : Nat → Prop) (vals : List Value), Fit F w → RepL w F (bytes :: extra) vals →
   Calls P f vals.toArray w fun e w' => ∃ (b : Nat) (code : Value) (F' S : Nat → Prop) (v : Value), e = .returned v ∧ Frm (fun _ => False) w w' ∧ w.heap.size ≤ b ∧ w'.heap[b]? = some (curC code T s1) ∧ Rep w' F' bytes code ∧ (∀ x, F' x → (F x ∨ w.heap.size ≤ x) ∧ x < w'.heap.size ∧ x ≠ b) ∧
    (∀ x, S x → w.heap.size ≤ x ∧ x < w'.heap.size) ∧ Own w' true (fun _ => False) S (R b) v := by
 intro w F vals hF hvals
 refine (callsIn_wide (n := 0)).1 (callsIn_of_wp_marks hf hb trivial ?_)
 have hst := ir_start (dt := dt) (fn := fn) hF hvals
 subst hbody
 simp only [codeOk, Bool.and_eq_true] at hck
 refine ty_pre (N := fun s _ => s = st0) (ty_reg (tyo_run hC noJ_stable (l := ops0.toList) (st1 := st0) (fun j hj => by rw [Nat.zero_add]; simp) (by simp) (by simpa using h0) (tyo_end (by simp) rfl))) (by simp only [codeOk, Bool.and_eq_true]; exact hck.1) hst fun s _ a1 W1 hs hir => ?_
 subst hs
 -- the region with the call
 refine wpIn_seq (wpIn_region ?_)
 have hlen : ops.toList.length = pre.length + (post.length + 1) := by rw [hops]; simp
 have hlen' : ops.size = pre.length + (post.length + 1) := by rw [← hlen]; simp
 have hget : ∀ j : Nat, ops[j]? = (pre ++ oc :: post)[j]? := fun j => by rw [← hops]; simp
 rw [List.range_eq_range', hlen', show List.range' 0 (pre.length + (post.length + 1)) = List.range' 0 pre.length ++ (pre.length :: List.range' (pre.length + 1) post.length) by
  rw [← List.range'_append_1, Nat.zero_add, List.range'_succ]]
 obtain ⟨X, A, E, h1, h2⟩ := hir.now noJ_stable
 refine rrun_okR (U := (⟨X, [], fun _ => undef, dt, none, A, true⟩ : Ld)) hC (fun _ _ _ _ _ => by simp) none (fun E' a' W' hs' => ?_) pre 0 _ E a1 W1 (fun j hj => by rw [Nat.zero_add, hget, List.getElem?_append_left hj]) h1 hpre
 obtain ⟨E1, B, hs1, _, _⟩ := h2 _ _ _ _ hs'
 clear hs' h1 h2
 rw [wpOpsIn_cons]
 have hi : ops[pre.length]? = some oc := by rw [hget]; simp
 unfold wpOpIn
 simp only [hi]
 have hw : Region.wanted oc (yielded ops a'.tmps) = true := by simp [Region.wanted, hg]
 rw [if_pos hw]
 have hfv := hs1.ev fo
 rw [hfo] at hfv
 simp only [SRep, SRepL] at hfv
 obtain ⟨cv, hfv, hcv⟩ := hfv
 have hav : RepL W' E1.F (bytes :: ex) (args.toList.map a'.eval) := by
  have key : ∀ (l : List Operand) (xs : List AV), l.map (ev st1.slots) = xs → xs.all frz = true → RepL W' E1.F xs (l.map a'.eval) := by
   intro l
   induction l with
   | nil => intro xs h _; subst h; simp [RepL]
   | cons o l ih =>
    intro xs h hz
    subst h
    simp only [List.map_cons, List.all_cons, Bool.and_eq_true] at hz
    simp only [List.map_cons, RepL]
    exact ⟨_, _, rfl, (hs1.ev o).frz hz.1, ih _ rfl hz.2⟩
  exact key _ _ hargs hfz
 obtain ⟨gn, hgn, hn1, hn2⟩ := hnew.1
 have hcall := hnew.2 W' E1.F (args.toList.map a'.eval) ⟨hs1.flt, hs1.defers.gl⟩ hav
 have hexec : (execOp a'.eval oc).run P W' = .ok (.enter g (args.toList.map a'.eval).toArray) W' := by
  have e1 : gn.name ≠ "runtime.NumGoroutine" := by simpa using hn1
  have e2 : gn.body ≠ Option.none := by intro e; rw [e] at hn2; simp at hn2
  have e3 : args.map a'.eval = (args.toList.map a'.eval).toArray := by
   apply Array.ext'
   rw [Array.toList_map]
  have e4 : cv = #[] := by
   apply Array.ext'
   rw [hcv]
  subst e4
  simp [execOp, hop, resolve, hfv, Deferred.ofValue, invoke, callFunc, hgn, e1, e2, ← e3]
 have hold : ∀ x, E1.F x → F x ∨ w.heap.size ≤ x := fun x h => (hs1.defers.fz x h).imp id fun h => h.resolve_left id
 have hold2 : ∀ t x, E1.S t x → w.heap.size ≤ x := fun t x h => (hs1.slt t x h).2.2.resolve_right id
 have hdoes : Does P oc a' W' fun a2 w2 => ∃ (b : Nat) (code : Value) (F2 B2 : Nat → Prop), Frm (fun _ => False) w w2 ∧ w.heap.size ≤ b ∧ (∀ x, B2 x → w.heap.size ≤ x) ∧ Rep w2 F2 bytes code ∧ (∀ x, F2 x → (F x ∨ w.heap.size ≤ x) ∧ x < w2.heap.size ∧ ¬ x = b ∧ ¬ B2 x) ∧
   IR w2 F2 B2 dt (curJ code T b) s0 ⟨putD st1.slots oc.dst (.v (ptrV b)), st1.toks⟩ a2 w2 := by
  refine .inr (.inr ⟨g, _, W', hexec, hcall.mono fun e w2 he => ?_⟩)
  obtain ⟨b, code, F', rfl, hfr, hbn, hbc, hrep, hF'⟩ := he
  have hbl : b < w2.heap.size := (Array.getElem?_eq_some_iff.1 hbc).1
  have hbF : ¬ E1.F b := fun h => by have := hs1.flt b h; omega
  have hbS : ∀ t, ¬ E1.S t b := fun t h => by have := (hs1.slt t b h).1; omega
  have hF'S : ∀ t x, E1.S t x → ¬ (E1.F x ∨ F' x) := fun t x hx h => by
   have h1 := hs1.slt t x hx
   rcases h with h | h
   ·exact h1.2.1 h
   ·rcases (hF' x h).1 with h | h
    ·exact h1.2.1 h
    ·omega
  refine ⟨_, rfl, b, code, fun x => E1.F x ∨ F' x, fun x => x = b ∨ ∃ t, E1.S t x, ?_, Nat.le_trans hs1.frame.size hbn, fun x hx => ?_, Rep.agree (fun _ h => .inr h) (Agree.refl _ _) _ _ hrep, fun x hx => ?_, ?_⟩
  ·have hf1 := hs1.frame
   exact ⟨hfr.os.trans hf1.os, hfr.tape.trans hf1.tape, hfr.output.trans hf1.output, Nat.le_trans hf1.size hfr.size, fun k hk hn => (hfr.block k (Nat.lt_of_lt_of_le hk hf1.size) id).trans (hf1.block k hk hn)⟩
  ·rcases hx with rfl | ⟨t, hx⟩
   ·exact Nat.le_trans hs1.frame.size hbn
   ·exact hold2 t x hx
  ·rcases hx with hx | hx
   ·exact ⟨hold x hx, Nat.lt_of_lt_of_le (hs1.flt x hx) hfr.size, fun e => hbF (e ▸ hx), fun h => h.elim (fun e => hbF (e ▸ hx)) fun ⟨t, h⟩ => hF'S t x h (.inl hx)⟩
   ·have := hF' x hx
    exact ⟨this.1.elim (hold x) fun h => .inr (Nat.le_trans hs1.frame.size h), this.2.1, this.2.2, fun h => h.elim this.2.2 fun ⟨t, h⟩ => hF'S t x h (.inr hx)⟩
  ·let E2 : Env := { F := fun x => E1.F x ∨ F' x, hd := E1.hd, S := E1.S }
   have hag : Agree (allB E1) W' w2 := fun x hx => hfr.block x (hs1.allLt x hx) id
   have hbase : SR (ldI (fun x => x = b ∨ ∃ t, E1.S t x) (fun x => E1.F x ∨ F' x) dt) w2 ⟨st1.slots, st1.toks⟩ E2 a' w2 := by
    refine ⟨⟨fun _ => ?_, fun _ => hs1.defers.none rfl, fun x hx => .inl hx, ?_⟩, hs1.size, fun i x hi => ?_, fun x hx => ?_, fun t tk ht => ?_, fun t x hx => ?_, hs1.sep, Frm.refl _ _, fun i hi => by simp [ldI] at hi⟩
    ·rw [hs1.defers.none rfl]; exact MarksD.nil
    ·exact (hs1.defers.gl.agree (fun x hx => hag x (.inl hx))).mono fun _ h => .inl h
    ·exact SRep.ext (E' := E2) hs1.tokOk hag (fun _ h => .inl h) (fun _ _ => rfl) (Nat.le_refl _) (fun _ _ => rfl) x _ (hs1.slot i x hi)
    ·rcases hx with hx | hx
     ·exact Nat.lt_of_lt_of_le (hs1.flt x hx) hfr.size
     ·exact (hF' x hx).2.1
    ·rcases hs1.tok t tk ht with h | ⟨nl, sz, es, k1, k2⟩
     ·exact .inl h
     ·exact .inr ⟨nl, sz, es, k1, k2.weak (fun _ h => .inl h) (fun _ h => h) fun x hx => hag x (hx.imp id fun h => ⟨t, h⟩)⟩
    ·have h1 := hs1.slt t x hx
     exact ⟨Nat.lt_of_lt_of_le h1.1 hfr.size, hF'S t x hx, .inr (.inr ⟨t, hx⟩)⟩
   refine ⟨E2, fun x => x = b, SR.put hbase oc.dst (fun _ _ => by simp [ldI]) (by simp [SRep, ptrV, Value.oneCell']), ⟨fun _ => Iff.rfl, hbc⟩, fun x hx => ⟨.inl (.inl hx), by rw [hx]; exact hbl, fun h => ?_⟩⟩
   rw [hx] at h
   rcases h with (h | h) | ⟨t, h⟩
   ·exact hbF h
   ·exact (hF' b h).2.2 rfl
   ·exact hbS t h
 refine Does.wpIn none (hdoes.mono fun a2 w2 hK2 => ?_)
 obtain ⟨b, code, F2, B2, hfr2, hbw, hB2, hrep2, hF2, hir2⟩ := hK2
 have hty := h w2 F2 B2 code b hrep2 (fun x hx => ⟨(hF2 x hx).2.1, (hF2 x hx).2.2.2⟩) (fun hb => (hF2 b hb).2.2.1 rfl)
 have hrest : List.range' (pre.length + 1) post.length = List.range' (pre.length + 1) (ops.size - (pre.length + 1)) := by rw [hlen']; congr 1; omega
 rw [hrest]
 refine hty a2 w2 hir2 _ fun e st' i' a3 w3 hq hir3 => ?_
 cases e with
 | normal =>
  refine hq hck.2.2 a3 w3 hir3 _ fun e st4 i4 a4 w4 hq4 hir4 => ?_
  obtain ⟨E4, B4, hsr, hj4, hB4⟩ := hir4
  obtain ⟨⟨he, hr⟩, rfl⟩ := hq4
  have hpost : LeavesInM Fence.wide 0 P fn a4.tmps (fun e w' => ∃ (b : Nat) (code : Value) (F' S : Nat → Prop) (v : Value), e = .returned v ∧ Frm (fun _ => False) w w' ∧ w.heap.size ≤ b ∧ w'.heap[b]? = some (curC code T i4) ∧ Rep w' F' bytes code ∧ (∀ x, F' x → (F x ∨ w.heap.size ≤ x) ∧ x < w'.heap.size ∧ x ≠ b) ∧
    (∀ x, S x → w.heap.size ≤ x ∧ x < w'.heap.size) ∧ Own w' true (fun _ => False) S (R b) v) a4.defers .returning w4 := by
   rw [hsr.defers.none rfl]
   obtain ⟨v, S, q1, q2, q3⟩ := results_okE (F := fun _ => False) hC hsr hr
   have hf4 := hsr.frame
   refine ⟨v, q1, b, code, F2, S, v, rfl, ⟨hf4.os.trans hfr2.os, hf4.tape.trans hfr2.tape, hf4.output.trans hfr2.output, Nat.le_trans hfr2.size hf4.size, fun k hk _ => (hf4.block k (Nat.lt_of_lt_of_le hk hfr2.size) fun e => by have := hB2 k e; omega).trans (hfr2.block k hk id)⟩, hbw, hj4.2,
    Rep.agree (fun _ h => h) (fun x hx => hf4.block x (hF2 x hx).2.1 (hF2 x hx).2.2.2) _ _ hrep2, fun x hx => ⟨(hF2 x hx).1, Nat.lt_of_lt_of_le (hF2 x hx).2.1 hf4.size, (hF2 x hx).2.2.1⟩, fun x hx => ?_, q3⟩
   obtain ⟨t, ht⟩ := q2 x hx
   have h3 := hsr.slt t x ht
   exact ⟨h3.2.2.elim (fun h => Nat.le_trans hfr2.size h) (hB2 x), h3.1⟩
  rcases he with rfl | rfl
  ·exact hpost
  ·exact hpost
 | _ => exact absurd hq id
theorem newOk_of {f : FuncId} {fn : Func} {c : Code} {extra : List AV} {s1 : Int × Int} (hf : P.funcs[f]? = some fn) (hb : fn.body = some c) (hname : (fn.name == "runtime.NumGoroutine") = false)
  (h : ∀ (w : World) (F : Nat → Prop) (vals : List Value), Fit F w → RepL w F (bytes :: extra) vals →
   Calls P f vals.toArray w fun e w' => ∃ (b : Nat) (code : Value) (F' S : Nat → Prop) (v : Value), e = .returned v ∧ Frm (fun _ => False) w w' ∧ w.heap.size ≤ b ∧ w'.heap[b]? = some (curC code T s1) ∧ Rep w' F' bytes code ∧ (∀ x, F' x → (F x ∨ w.heap.size ≤ x) ∧ x < w'.heap.size ∧ x ≠ b) ∧
    (∀ x, S x → w.heap.size ≤ x ∧ x < w'.heap.size) ∧ Own w' true (fun _ => False) S (.v (ptrV b)) v) : NewOk P f bytes T extra s1 := by
 refine ⟨⟨fn, hf, hname, by rw [hb]; rfl⟩, fun w F vals hF hvals => (h w F vals hF hvals).mono fun e w' he => ?_⟩
 obtain ⟨b, code, F', S, v, rfl, h1, h2, h3, h4, h5, _, h7⟩ := he
 simp only [Own] at h7
 exact ⟨b, code, F', by rw [h7.1], h1, h2, h3, h4, h5⟩
theorem callOk_of_new {f : FuncId} {fn : Func} {c : Code} {extra : List AV} {s1 : Int × Int} {r : AV} (hf : P.funcs[f]? = some fn) (hb : fn.body = some c) (hname : (fn.name == "runtime.NumGoroutine") = false)
  (h : ∀ (w : World) (F : Nat → Prop) (vals : List Value), Fit F w → RepL w F (bytes :: extra) vals →
   Calls P f vals.toArray w fun e w' => ∃ (b : Nat) (code : Value) (F' S : Nat → Prop) (v : Value), e = .returned v ∧ Frm (fun _ => False) w w' ∧ w.heap.size ≤ b ∧ w'.heap[b]? = some (curC code T s1) ∧ Rep w' F' bytes code ∧ (∀ x, F' x → (F x ∨ w.heap.size ≤ x) ∧ x < w'.heap.size ∧ x ≠ b) ∧
    (∀ x, S x → w.heap.size ≤ x ∧ x < w'.heap.size) ∧ Own w' true (fun _ => False) S r v) : CallOk P f (bytes :: extra) r := by
 refine ⟨⟨fn, hf, hname, by rw [hb]; rfl⟩, fun w F vals hF hvals => ?_⟩
 have := h w F vals.toList hF hvals
 simp only [Array.toArray_toList] at this
 refine this.mono fun e w' he => ?_
 obtain ⟨b, code, F', S, v, rfl, h1, _, _, _, _, h6, h7⟩ := he
 exact ⟨v, S, rfl, h1, h6, h7⟩
end
open Go Go.RowKit
section
variable {P : Program} {C : Ctx} {w : World} {F0 B0 : Nat → Prop} {dt : List (Nat × RD)} {st : ASt} {ι : Type} {J : JTy ι} {i : ι}
theorem tyo_bin {ops : Array Oper} {k : Nat} {R : Exit → ASt → ι → Prop} {oc : Oper} {bop : BinOp} {t t' : TypeId} {x y : Operand} {u v r : Value} (hi : ops[k]? = some oc) (hop : oc.op = .binOp bop t x y t') (hg : oc.guard = none)
  (hx : ev st.slots x = .v u) (hy : ev st.slots y = .v v) (hr : ∀ W : World, (do eqGuard bop t x y u v; binOp bop t u v : Sem Value).run P W = .ok r W) (h1 : r.oneCell' = true)
  (h : TYO P w F0 B0 dt J ops (k + 1) ⟨putD st.slots oc.dst (.v r), st.toks⟩ i R) : TYO P w F0 B0 dt J ops k st i R := by
 intro a W hs K hK
 have hkl : k < ops.size := (Array.getElem?_eq_some_iff.1 hi).1
 rw [show ops.size - k = (ops.size - (k + 1)) + 1 by omega, List.range'_succ, wpOpsIn_cons]
 obtain ⟨E, B, hs1, hj, hB⟩ := hs
 unfold wpOpIn
 simp only [hi]
 have hw : Region.wanted oc (yielded ops a.tmps) = true := by simp [Region.wanted, hg]
 rw [if_pos hw]
 have e1 := SRep_v (hs1.ev x) hx
 have e2 := SRep_v (hs1.ev y) hy
 have hdoes : Does P oc a W fun a2 w2 => IR w F0 B0 dt J i ⟨putD st.slots oc.dst (.v r), st.toks⟩ a2 w2 :=
  .inl ⟨r, W, by simp only [execOp, hop, e1, e2]; rw [Sem.run_bind, hr]; rfl, E, B, SR.put (slots := st.slots) (toks := st.toks) hs1 oc.dst (fun _ _ => by simp [ldI]) (by simp only [SRep]; exact ⟨trivial, h1⟩), hj, hB⟩
 exact Does.wpIn none (hdoes.mono fun a2 w2 hs2 => h a2 w2 hs2 K hK)
def TYE (P : Program) (w : World) (F0 B0 : Nat → Prop) (dt : List (Nat × RD)) (J : JTy ι) (c : Code) (st : ASt) (i : ι) (post : Act → World → Prop) : Prop :=
 codeOk dt [] c = true → ∀ (a : Act) (W : World), IR w F0 B0 dt J i st a W → ∀ K : Exit → Act → World → Prop, (∀ e a' W', (e = .normal ∨ e = .ret) → post a' W' → K e a' W') → c.wpIn (fen none) 0 P K a W
theorem ty_seqE {x y : Code} {post : Act → World → Prop} (h : TY P w F0 B0 dt J x st i (thenY (fun s i => TYE P w F0 B0 dt J y s i post) fun _ _ _ => False)) : TYE P w F0 B0 dt J (.seq x y) st i post := by
 intro hc a W hs K hK
 simp only [codeOk, Bool.and_eq_true] at hc
 refine wpIn_seq (h hc.1 a W hs _ fun e s i' a' W' hq hs' => ?_)
 cases e with
 | normal => exact hq hc.2 a' W' hs' K hK
 | _ => exact absurd hq id
def newPost (w : World) (F : Nat → Prop) (bytes : AV) (T : TypeId) (s : Int × Int) (d : Nat) : Act → World → Prop := fun a' W' =>
 a'.defers = [] ∧ ∃ (b : Nat) (code : Value) (F' : Nat → Prop), a'.tmps.getD d undef = ptrV b ∧ Frm (fun _ => False) w W' ∧ w.heap.size ≤ b ∧ W'.heap[b]? = some (curC code T s) ∧ Rep W' F' bytes code ∧ ∀ x, F' x → (F x ∨ w.heap.size ≤ x) ∧ x < W'.heap.size ∧ x ≠ b
theorem tye_box (hC : C.Ok P) {F : Nat → Prop} {T : TypeId} {nl : Bool} {sz : Nat} {es : List AV} {i0 h0 : Int} {rid : Nat} {ops : Array Oper} {pre : List Oper} {ob om : Oper} {x : Operand} {d1 d2 : Nat} (hops : ops.toList = pre ++ [ob, om])
  (ho : ob.op = .box T x) (hg1 : ob.guard = none) (hd1 : ob.dst = some d1) (hm : om.op = .move (.tmp d1) ∨ om.op = .assign (.tmp d1)) (hg2 : om.guard = none) (hd2 : om.dst = some d2)
  (hpre : ∃ st1, rrun C ops.toList pre st = some st1 ∧ ev st1.slots x = .agg [.sl nl sz es, .v (.int .i64 i0), .v (.int .i64 h0)] ∧ d1 < st1.slots.length ∧ d2 < st1.slots.length) :
  TYE P w F (fun _ => False) dt noJ (.seq (.region rid ops false) .ret) st () (newPost w F (.sl nl sz es) T (i0, h0) d2) := by
 intro hc a W hs K hK
 obtain ⟨st1, hpre, hx, hl1, hl2⟩ := hpre
 refine wpIn_seq (wpIn_region ?_)
 have hlen : ops.toList.length = pre.length + 2 := by rw [hops]; simp
 have hlen' : ops.size = pre.length + 2 := by rw [← hlen]; simp
 have hget : ∀ j : Nat, ops[j]? = (pre ++ [ob, om])[j]? := fun j => by rw [← hops]; simp
 rw [List.range_eq_range', hlen', show List.range' 0 (pre.length + 2) = List.range' 0 pre.length ++ [pre.length, pre.length + 1] by
  rw [← List.range'_append_1, Nat.zero_add]; rfl]
 obtain ⟨X, A, E, h1, h2⟩ := hs.now noJ_stable
 refine rrun_okR (U := (⟨X, [], fun _ => undef, dt, none, A, true⟩ : Ld)) hC (fun _ _ _ _ _ => by simp) none (fun E' a' W' hs' => ?_) pre 0 st E a W (fun j hj => by rw [Nat.zero_add, hget, List.getElem?_append_left hj]) h1 hpre
 obtain ⟨E1, B, hs1, _, _⟩ := h2 _ _ _ _ hs'
 have hxv := hs1.ev x
 rw [hx] at hxv
 simp only [SRep, SRepL] at hxv
 obtain ⟨ys, hy, code, l1, e1, hcode, v1, l2, e2, ⟨rfl, _⟩, v2, l3, e3, ⟨rfl, _⟩, rfl⟩ := hxv
 subst e3; subst e2
 have hys : ys = #[code, .int .i64 i0, .int .i64 h0] := by apply Array.ext'; rw [e1]
 subst hys
 have hfr : Frm (fun _ => False) w W' := hs1.frame
 have hdf := hs1.defers.none rfl
 have hsz := hs1.size
 have hi1 : ops[pre.length]? = some ob := by rw [hget]; simp
 have hi2 : ops[pre.length + 1]? = some om := by rw [hget, List.getElem?_append_right (by omega)]; simp
 rw [wpOpsIn_cons]
 unfold wpOpIn
 simp only [hi1]
 rw [if_pos (by simp [Region.wanted, hg1])]
 refine Does.wpIn none (.inl ⟨.pointer (some ⟨W'.heap.size, 0, none⟩), W'.alloc (.cells (a'.eval x).cells T), by simp [execOp, ho, Instr.box, newVar, newRow], ?_⟩)
 rw [hd1, hy]
 have hp1 : (a'.put (some d1) (.pointer (some ⟨W'.heap.size, 0, none⟩))).tmps.getD d1 undef = ptrV W'.heap.size := by rw [getD_put (by rw [hsz]; exact hl1), if_pos rfl]; rfl
 generalize ha1 : a'.put (some d1) (.pointer (some ⟨W'.heap.size, 0, none⟩)) = a1 at hp1 ⊢
 have hdf1 : a1.defers = [] := by rw [← ha1]; exact hdf
 have hsz1 : a1.tmps.size = st1.slots.length := by rw [← ha1, ← hsz]; simp [Act.put]
 rw [wpOpsIn_cons]
 unfold wpOpIn
 simp only [hi2]
 rw [if_pos (by simp [Region.wanted, hg2])]
 refine Does.wpIn none (.inl ⟨a1.eval (.tmp d1), W'.alloc (.cells (Value.agg #[code, .int .i64 i0, .int .i64 h0]).cells T), by rcases hm with hm | hm <;> simp [execOp, hm], ?_⟩)
 simp only [wpOpsIn]
 refine wpIn_ret (hK _ _ _ (.inr rfl) ⟨?_, W'.heap.size, code, E1.F, ?_, ?_, hfr.size, ?_, ?_, fun y hy => ?_⟩)
 ·rw [hd2]; exact hdf1
 ·rw [hd2, getD_put (by rw [hsz1]; exact hl2), if_pos rfl]
  exact hp1
 ·have hal := frm_alloc (w := W') (.cells (Value.agg #[code, .int .i64 i0, .int .i64 h0]).cells T)
  exact ⟨hfr.os, hfr.tape, hfr.output, Nat.le_trans hfr.size hal.size, fun k hk hn => (hal.block k (Nat.lt_of_lt_of_le hk hfr.size) id).trans (hfr.block k hk hn)⟩
 ·rw [heap_alloc_self]; rfl
 ·refine Rep.agree (fun _ h => h) (fun y hy => ?_) _ _ hcode
  exact (frm_alloc (w := W') _).block y (hs1.flt y hy) id
 ·have hl := hs1.flt y hy
  refine ⟨(hs1.defers.fz y hy).imp id fun h => h.resolve_left id, Nat.lt_of_lt_of_le hl (frm_alloc (w := W') _).size, fun e => by omega⟩
theorem newOk_of_tye {f : FuncId} {fn : Func} {c : Code} {bytes : AV} {T : TypeId} {extra : List AV} {s : Int × Int} {d : Nat} (hf : P.funcs[f]? = some fn) (hb : fn.body = some c) (hname : (fn.name == "runtime.NumGoroutine") = false) (hck : codeOk dt [] c = true) (hres : fn.results = #[.tmp d])
  (h : ∀ (w : World) (F : Nat → Prop), TYE P w F (fun _ => False) dt noJ c ⟨(bytes :: extra) ++ List.replicate (fn.ntmps - (extra.length + 1)) .junk, []⟩ () (newPost w F bytes T s d)) : NewOk P f bytes T extra s := by
 refine ⟨⟨fn, hf, hname, by rw [hb]; rfl⟩, fun w F vals hF hvals => ?_⟩
 refine (callsIn_wide (n := 0)).1 (callsIn_of_wp_marks hf hb trivial ?_)
 have hst := ir_start (dt := dt) (fn := fn) hF hvals
 refine h w F hck _ w hst _ fun e a' W' he hp => ?_
 obtain ⟨hdf, b, code, F', e1, h1, h2, h3, h4, h5⟩ := hp
 have hpost : LeavesInM Fence.wide 0 P fn a'.tmps (fun e w' => ∃ (b : Nat) (code : Value) (F' : Nat → Prop), e = .returned (ptrV b) ∧ Frm (fun _ => False) w w' ∧ w.heap.size ≤ b ∧ w'.heap[b]? = some (curC code T s) ∧ Rep w' F' bytes code ∧ ∀ x, F' x → (F x ∨ w.heap.size ≤ x) ∧ x < w'.heap.size ∧ x ≠ b) a'.defers .returning W' := by
  rw [hdf]
  refine ⟨ptrV b, ?_, b, code, F', rfl, h1, h2, h3, h4, h5⟩
  rw [results_eq, hres]
  simp [resSem, e1]
 rcases he with rfl | rfl
 ·exact hpost
 ·exact hpost
end
open Go Go.RowKit
section
variable {P : Program} {C : Ctx}
theorem callOk_of_tr (hC : C.Ok P) {dt : List (Nat × RD)} {f : FuncId} {fn : Func} {c : Code} {args : List AV} {r : AV} (hf : P.funcs[f]? = some fn) (hb : fn.body = some c) (hname : (fn.name == "runtime.NumGoroutine") = false) (hck : codeOk dt [] c = true)
  (h : ∀ w0, Tr P (noLd dt) w0 c ⟨args ++ List.replicate (fn.ntmps - args.length) .junk, []⟩ (doneS C fn.results.toList r)) : CallOk P f args r := by
 refine ⟨⟨fn, hf, hname, by rw [hb]; rfl⟩, fun w F vals hF hvals => ?_⟩
 have hlen : vals.size = args.length := by simpa using hvals.length
 refine (callsIn_wide (n := 0)).1 (callsIn_of_wp_marks hf hb trivial ?_)
 let E : Env := { F := F, hd := fun _ => undef, S := fun _ _ => False }
 have hs : SR (noLd dt) w ⟨args ++ List.replicate (fn.ntmps - args.length) .junk, []⟩ E { tmps := vals ++ Array.replicate (fn.ntmps - vals.size) undef, defers := [] } w := by
  refine ⟨Marks.nil hF.gl (fun _ _ => .inl trivial), by simp [hlen], fun i x hi => ?_, hF.lt, fun t tk ht => by simp at ht, fun t b hb => hb.elim, fun t t' b _ hb => hb.elim, Frm.refl _ _, fun i hi => by simp [noLd] at hi⟩
  by_cases hlt : i < args.length
  ·rw [List.getElem?_append_left hlt] at hi
   obtain ⟨y, h1, h2⟩ := RepL_srep (E := E) rfl hvals i x hi
   have h1' : vals[i]? = some y := by simpa using h1
   have : (vals ++ Array.replicate (fn.ntmps - vals.size) undef).getD i undef = y := by
    rw [Array.getD_eq_getD_getElem?, Array.getElem?_append_left (by omega), h1']; rfl
   rw [this]; exact h2
  ·rw [List.getElem?_append_right (by omega)] at hi
   have := List.mem_of_getElem? hi
   rw [List.mem_replicate] at this
   rw [this.2]; simp [SRep]
 refine h w hck E _ w hs _ fun e st' E' a' w' hq hs' => ?_
 obtain ⟨he, hr⟩ := hq
 have hpost : LeavesInM Fence.wide 0 P fn a'.tmps (fun e w' => ∃ (y : Value) (S : Nat → Prop), e = .returned y ∧ Frm (fun _ => False) w w' ∧ (∀ b, S b → w.heap.size ≤ b ∧ b < w'.heap.size) ∧ Own w' true (fun _ => False) S r y) a'.defers .returning w' := by
  obtain ⟨Ds, m1, m2, m3⟩ := hs'.defers.marks rfl
  rw [m1]
  refine leaves_marks Ds w' m2 (fun D hD => (m3 D hD).2.2) fun w2 n1 n2 n3 n4 n5 => ?_
  obtain ⟨y, S, k1, k2, k3, k4⟩ := results_ok (w2 := w2) (F := fun _ => False) hC hs' (fun t b hb => n1 b fun hD => (hs'.slt t b hb).2.1 (m3 b hD).1) (by omega) hr
  refine ⟨y, k1, y, S, rfl, ⟨n3.trans hs'.frame.os, n4.trans hs'.frame.tape, n5.trans hs'.frame.output, by rw [n2]; exact hs'.frame.size, fun b hb hU => (n1 b fun hD => by have := (m3 b hD).2.1; omega).trans (hs'.frame.block b hb hU)⟩, fun b hb => ⟨(k2 b hb).resolve_right id, k3 b hb⟩, k4⟩
 rcases he with rfl | rfl
 ·exact hpost
 ·exact hpost
end
open Go Go.RowKit
section
variable {P : Program} {C : Ctx}
theorem frzOk_of_tr (hC : C.Ok P) {dt : List (Nat × RD)} {f : FuncId} {fn : Func} {c : Code} {args : List AV} {r : AV} (hf : P.funcs[f]? = some fn) (hb : fn.body = some c) (hname : (fn.name == "runtime.NumGoroutine") = false) (hck : codeOk dt [] c = true)
  (h : ∀ A w0, Tr P (frzLd A dt) w0 c ⟨args ++ List.replicate (fn.ntmps - args.length) .junk, []⟩ (doneF C fn.results.toList r)) : FrzOk P f args true r := by
 refine ⟨⟨fn, hf, hname, by rw [hb]; rfl⟩, fun w F vals hF hvals => ?_⟩
 have hlen : vals.size = args.length := by simpa using hvals.length
 refine (callsIn_wide (n := 0)).1 (callsIn_of_wp_marks hf hb trivial ?_)
 let E : Env := { F := F, hd := fun _ => undef, S := fun _ _ => False }
 have hs : SR (frzLd F dt) w ⟨args ++ List.replicate (fn.ntmps - args.length) .junk, []⟩ E { tmps := vals ++ Array.replicate (fn.ntmps - vals.size) undef, defers := [] } w := by
  refine ⟨Marks.nil hF.gl (fun _ h => .inl h), by simp [hlen], fun i x hi => ?_, hF.lt, fun t tk ht => by simp at ht, fun t b hb => hb.elim, fun t t' b _ hb => hb.elim, Frm.refl _ _, fun i hi => by simp [frzLd] at hi⟩
  by_cases hlt : i < args.length
  ·rw [List.getElem?_append_left hlt] at hi
   obtain ⟨y, h1, h2⟩ := RepL_srep (E := E) rfl hvals i x hi
   have h1' : vals[i]? = some y := by simpa using h1
   have : (vals ++ Array.replicate (fn.ntmps - vals.size) undef).getD i undef = y := by
    rw [Array.getD_eq_getD_getElem?, Array.getElem?_append_left (by omega), h1']; rfl
   rw [this]; exact h2
  ·rw [List.getElem?_append_right (by omega)] at hi
   have := List.mem_of_getElem? hi
   rw [List.mem_replicate] at this
   rw [this.2]; simp [SRep]
 refine h F w hck E _ w hs _ fun e st' E' a' w' hq hs' => ?_
 obtain ⟨he, hr⟩ := hq
 have hpost : LeavesInM Fence.wide 0 P fn a'.tmps (fun e w' => ∃ (y : Value) (F' : Nat → Prop), e = .returned y ∧ Frm (fun _ => False) w w' ∧ (∀ b, F' b → ((true = true ∧ F b) ∨ w.heap.size ≤ b) ∧ b < w'.heap.size) ∧ Rep w' F' r y) a'.defers .returning w' := by
  rw [hs'.defers.none rfl]
  obtain ⟨q, h1, h2⟩ := Option.map_eq_some_iff.1 hr
  obtain ⟨ys, g1, g2⟩ := resVarsF_ok hC hs' _ q h1
  have hrun : (results fn a'.tmps).run P w' = .ok (if h : ys.toArray.size = 1 then ys.toArray[0] else .tuple ys.toArray) w' := by
   rw [results_eq, Sem.run_bind, Array.mapM_eq_mapM_toList, Sem.run_map, g1]
   rfl
  refine ⟨_, hrun, _, allB E', rfl, hs'.frame, fun b hb => ⟨?_, hs'.allLt b hb⟩, by rw [← h2]; exact packF_ok g2⟩
  rcases hb with hb | ⟨t, hb⟩
  ·rcases hs'.defers.fz b hb with h | h | h
   ·exact .inl ⟨rfl, h⟩
   ·exact h.elim
   ·exact .inr h
  ·rcases (hs'.slt t b hb).2.2 with h | h
   ·exact .inr h
   ·exact h.elim
 rcases he with rfl | rfl
 ·exact hpost
 ·exact hpost
end
end Go.Proofs.YtompijgfpeibnaaGreatDoor.Ax
