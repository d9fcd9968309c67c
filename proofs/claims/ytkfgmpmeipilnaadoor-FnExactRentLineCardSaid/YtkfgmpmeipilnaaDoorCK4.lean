/-
  From the run of a body to the contract of a function that changes one of its arguments. No condition.
-/
import Derived.Test.YtkfgmpmeipilnaaDoorCK3
import Derived.LaidLaws
import Derived.Lib.LaidTab
import Derived.MakeChecks
import Derived.SevenTiedAt
import Derived.RangeFuncKeeps
namespace Go.Proofs.YtkfgmpmeipilnaaDoor.Ax
open Go Go.RowKit

/-- What the body hands back, and the row that it was lent. -/
def resM (C : Ctx) (s : ASt) (rs : List ResultVar) (pos : Nat) : Option (AV × AV) :=
  match resVars C s rs, s.slots.getD pos .junk with
  | some q, .ref t [] 0 n => (match s.toks[t]? with
    | some tk => (match tk.row with
      | .sl nl sz es => if tk.deep = true ∧ n = es.length ∧ q.2 = [] then some (pack q.1, .sl nl sz es) else none
      | _ => none)
    | none => none)
  | _, _ => none

def doneM (C : Ctx) (rs : List ResultVar) (pos : Nat) (r row' : AV) : Exit → ASt → Prop := fun e s => (e = .normal ∨ e = .ret) ∧ resM C s rs pos = some (r, row')
theorem doneM_normal {C : Ctx} {rs : List ResultVar} {pos : Nat} {r row' : AV} {s : ASt} : doneM C rs pos r row' .normal s = (resM C s rs pos = some (r, row')) := by simp [doneM]
theorem doneM_ret {C : Ctx} {rs : List ResultVar} {pos : Nat} {r row' : AV} {s : ASt} : doneM C rs pos r row' .ret s = (resM C s rs pos = some (r, row')) := by simp [doneM]

theorem Excl.deepF {w : World} {F F' S : Nat → Prop} {nl : Bool} {sz : Nat} {es : List AV} {y : Value} (h : Excl w true F S nl sz es y) : Excl w true F' S nl sz es y := Excl.of_own (Own.deepF _ _ h.own)

theorem ref_whole {w : World} {E : Env} {toks : List Tok} {t n : Nat} {tk : Tok} {nl : Bool} {sz : Nat} {es : List AV} {y : Value} (h : RefOk w E toks t [] 0 n y) (htk : toks[t]? = some tk) (hrow : tk.row = .sl nl sz es) (hn : n = es.length)
    {d : Bool} {F S : Nat → Prop} (hex : Excl w d F S nl sz es (E.hd t)) : y = E.hd t := by
  subst hn
  obtain ⟨hv, g1, g2⟩ := h.2 tk nl sz es htk (by simp [getAt, hrow]) (by omega)
  simp only [follow, Option.some.injEq] at g1
  rw [g1]
  obtain ⟨a1, l, c, hhd, hl, _⟩ := hex
  rw [g1] at hhd
  rcases g2 with ⟨q1, q2⟩ | ⟨_, q2, _⟩ | ⟨b, o, hl', hc, o', q1, q2, q3⟩
  · rw [q1, q2]
  · exact q2
  · rw [q1] at hhd ⊢
    simp only [Value.slice.injEq] at hhd
    rw [q2]
    have : o' = o + 0 * sz := q3.resolve_right (fun h => h.2.1 rfl)
    rw [this]; simp
    omega

section
variable {P : Program} {C : Ctx}

theorem mutOk_awp (hC : C.Ok P) (hm : P.follows .mixedOrders = true) {live : List Bool} {dt : List (Nat × RD)} {f : FuncId} {fn : Func} {c : Code} {args : List AV} {pos : Nat} {nl : Bool} {sz : Nat} {es es' : List AV} {r : AV} (hpos : args[pos]? = some (.sl nl sz es))
    (hf : P.funcs[f]? = some fn) (hb : fn.body = some c) (hname : (fn.name == "runtime.NumGoroutine") = false) (hck : codeOk dt [pos] c = true)
    (h : ∀ (US : Nat → Prop) (Uv : Value) (w0 : World), lens (.sl nl sz es) → awp P C live (mkLd US [pos] Uv dt) w0 c ⟨args.set pos (.ref 0 [] 0 es.length) ++ List.replicate (fn.ntmps - args.length) .junk, [⟨true, .sl nl sz es⟩]⟩ (doneM C fn.results.toList pos r (.sl nl sz es'))) : MutOk P f args pos r (.sl nl sz es') := by
  refine ⟨⟨fn, hf, hname, by rw [hb]; rfl⟩, nl, sz, es, es', hpos, rfl, fun w F S vals hd hF hS hlen hargs hvp hex => ?_⟩
  have hpl : pos < args.length := (List.getElem?_eq_some_iff.1 hpos).1
  refine (callsIn_wide (n := 0)).1 (callsIn_of_wp_marks hf hb trivial ?_)
  let E : Env := { F := F, hd := fun _ => hd, S := fun t b => t = 0 ∧ S b }
  let U : Ld := mkLd S [pos] hd dt
  have hgetv : ∀ i, i < args.length → (vals ++ Array.replicate (fn.ntmps - vals.size) undef).getD i undef = vals.getD i undef := fun i hi => by
    rw [Array.getD_eq_getD_getElem?, Array.getElem?_append_left (by omega), Array.getD_eq_getD_getElem?]
  have hlens : lens (.sl nl sz es) := Rep.lens _ _ (Own.rep _ _ hex.own)
  have hs : SR U w ⟨args.set pos (.ref 0 [] 0 es.length) ++ List.replicate (fn.ntmps - args.length) .junk, [⟨true, .sl nl sz es⟩]⟩ E { tmps := vals ++ Array.replicate (fn.ntmps - vals.size) undef, defers := [] } w := by
    refine ⟨Marks.nil hF.gl (fun _ _ => .inl trivial), by simp [hlen], fun i x hi => ?_, hF.lt, fun t tk ht => ?_, fun t b hb => ⟨(hS b hb.2).1, (hS b hb.2).2, .inr hb.2⟩, fun t t' b hne hb hb' => hne (by rw [hb.1, hb'.1]), Frm.refl _ _, fun i hi => ?_⟩
    · by_cases hlt : i < args.length
      · rw [List.getElem?_append_left (by simpa using hlt)] at hi
        rw [hgetv i hlt]
        by_cases hip : i = pos
        · subst hip
          rw [List.getElem?_set_self hpl] at hi
          obtain rfl := Option.some.inj hi
          rw [Array.getD_eq_getD_getElem?, hvp]
          simp only [SRep, Option.getD_some]
          refine ⟨by simp, fun tk nl' sz' es'' h1 h2 h3 => ?_⟩
          simp at h1; subst h1
          simp only [getAt, AV.sl.injEq] at h2
          obtain ⟨rfl, rfl, rfl⟩ := h2
          refine ⟨hd, by simp [follow, E], ?_⟩
          obtain ⟨a1, l, cap, hv, h1, h2, _, h4⟩ := hex
          subst hv
          rcases h4 with ⟨rfl, _, rfl, rfl⟩ | ⟨b, o, _, _, rfl, _⟩
          · exact .inl ⟨rfl, rfl⟩
          · exact .inr (.inr ⟨b, o, l, cap, o, rfl, by rw [h1]; simp, .inl (by omega)⟩)
        · rw [List.getElem?_set_ne (fun e => hip e.symm)] at hi
          obtain ⟨y, h1, h2⟩ := hargs i x hip hi
          rw [Array.getD_eq_getD_getElem?, h1]
          exact SRep.of_rep (E := E) _ _ h2
      · rw [List.getElem?_append_right (by simpa using hlt)] at hi
        have := List.mem_of_getElem? hi
        rw [List.mem_replicate] at this
        rw [this.2]; simp [SRep]
    · cases t with
      | zero =>
        simp at ht; subst ht
        refine .inr ⟨nl, sz, es, rfl, ?_⟩
        have h0 : Excl w true F S nl sz es hd := hex.deepF
        exact h0.weak (fun _ h => h) (fun b hb => ⟨rfl, hb⟩) (Agree.refl _ _)
      | succ t => simp at ht
    · simp only [U, mkLd, List.mem_singleton] at hi
      subst hi
      rw [hgetv i hpl, Array.getD_eq_getD_getElem?, hvp]; rfl
  refine tr_awp hC hm c _ _ (h S hd w hlens) hck E _ w hs _ fun e st' E' a' w' hq hs' => ?_
  obtain ⟨he, hr⟩ := hq
  -- the end
  have hend : LeavesInM Fence.wide 0 P fn a'.tmps (fun e w' => ∃ (y : Value) (S' Sr : Nat → Prop), e = .returned y ∧ Frm S w w' ∧ (∀ b, S' b → S b ∨ (w.heap.size ≤ b ∧ b < w'.heap.size)) ∧ (∀ b, Sr b → w.heap.size ≤ b ∧ b < w'.heap.size) ∧ (∀ b, S' b → ¬ Sr b) ∧
      Own w' true (fun _ => False) Sr r y ∧ Excl w' true (fun _ => False) S' nl sz es' hd) a'.defers .returning w' := by
    obtain ⟨Ds, m1, m2, m3⟩ := hs'.defers.marks rfl
    rw [m1]
    refine leaves_marks Ds w' m2 (fun D hD => (m3 D hD).2.2) fun w2 n1 n2 n3 n4 n5 => ?_
    have hA : ∀ t b, E'.S t b → w2.heap[b]? = w'.heap[b]? := fun t b hb => n1 b fun hD => (hs'.slt t b hb).2.1 (m3 b hD).1
    have hfr2 : Frm S w w2 := ⟨n3.trans hs'.frame.os, n4.trans hs'.frame.tape, n5.trans hs'.frame.output, by rw [n2]; exact hs'.frame.size, fun b hb hU => (n1 b fun hD => by have := (m3 b hD).2.1; omega).trans (hs'.frame.block b hb hU)⟩
    unfold resM at hr
    split at hr
    · rename_i q t n hq hsl
      split at hr
      · rename_i tk htk
        split at hr
        · rename_i nl2 sz2 es2 hrow
          split at hr
          · rename_i hc
            obtain ⟨hdeep, hn, hq0⟩ := hc
            have hnd : q.2.Nodup := by rw [hq0]; exact List.nodup_nil
            have htq : t ∉ q.2 := by rw [hq0]; simp
            simp only [Option.some.injEq, Prod.mk.injEq, AV.sl.injEq] at hr
            obtain ⟨hpk, rfl, rfl, rfl⟩ := hr
            have hexc : Excl w' true E'.F (E'.S t) nl2 sz2 es2 (E'.hd t) := by
              rcases hs'.tok t tk htk with hj | ⟨nl', sz', es3, h1, h2⟩
              · rw [hrow] at hj; simp at hj
              · rw [hrow] at h1; simp only [AV.sl.injEq] at h1; obtain ⟨rfl, rfl, rfl⟩ := h1; rw [hdeep] at h2; exact h2
            have hsi : st'.slots[pos]? = some (.ref t [] 0 n) := by
              rw [List.getD_eq_getElem?_getD] at hsl
              cases hh : st'.slots[pos]? with
              | none => rw [hh] at hsl; simp at hsl
              | some z => rw [hh] at hsl; simpa using hsl
            have hsr := hs'.slot pos _ hsi
            simp only [SRep] at hsr
            have hpin := hs'.pin pos (by simp [mkLd])
            have hy := ref_whole hsr htk hrow hn hexc
            rw [hpin] at hy
            have hhd : hd = E'.hd t := hy
            obtain ⟨ys, g1, g2⟩ := resVars_ok (w2 := w2) (F := fun _ => False) hC hs' hA _ q hq hnd
            have hSU : ∀ b, SU E' q.2 b → ¬ E'.S t b := fun b hb => by
              obtain ⟨t', ht', hb⟩ := hb
              exact fun h => hs'.sep t' t b (fun e => htq (e ▸ ht')) hb h
            have hrun : (results fn a'.tmps).run P w2 = .ok (if h : ys.toArray.size = 1 then ys.toArray[0] else .tuple ys.toArray) w2 := by
              rw [results_eq, Sem.run_bind, Array.mapM_eq_mapM_toList, Sem.run_map, g1]
              rfl
            have hown : Own w2 true (fun _ => False) (SU E' q.2) r (if h : ys.toArray.size = 1 then ys.toArray[0] else .tuple ys.toArray) := by rw [← hpk]; exact pack_ok g2
            have hexc2 : Excl w2 true (fun _ => False) (E'.S t) nl2 sz2 es2 (E'.hd t) := (hexc.deepF (F' := fun _ => False)).weak (fun _ h => h) (fun _ h => h) (fun b hb => hb.elim False.elim fun hb => hA t b hb)
            refine ⟨_, hrun, _, fun b => E'.S t b, fun b => SU E' q.2 b, rfl, hfr2, fun b hb => ?_, fun b hb => ?_, fun b hb hb' => hSU b hb' hb, hown, by rw [hhd]; exact hexc2⟩
            · rcases (hs'.slt t b hb).2.2 with h | h
              · exact .inr ⟨h, by rw [n2]; exact (hs'.slt t b hb).1⟩
              · exact .inl h
            · obtain ⟨t', ht', _⟩ := hb
              rw [hq0] at ht'; simp at ht'
          · simp at hr
        · simp at hr
      · simp at hr
    · simp at hr
  rcases he with rfl | rfl
  · exact hend
  · exact hend

/-- The slots of the arguments that are handed over. -/
def setSl : List Nat → List AV → List AV → List AV
  | i :: mv, x :: xs, l => setSl mv xs (l.set i x)
  | _, _, l => l

theorem setSl_get : ∀ {mv : List Nat} {xs l : List AV}, xs.length = mv.length → ∀ {i : Nat} {x : AV}, (setSl mv xs l)[i]? = some x → (i ∉ mv ∧ l[i]? = some x) ∨ ∃ j : Nat, mv[j]? = some i ∧ xs[j]? = some x
  | [], [], l, _, i, x, h => .inl ⟨by simp, h⟩
  | k :: mv, y :: xs, l, hl, i, x, h => by
    simp only [setSl] at h
    rcases setSl_get (by simpa using hl) h with ⟨h1, h2⟩ | ⟨j, h1, h2⟩
    · by_cases e : i = k
      · subst e
        right
        refine ⟨0, by simp, ?_⟩
        by_cases hlt : i < l.length
        · rw [List.getElem?_set_self hlt] at h2; simpa using h2
        · rw [List.getElem?_eq_none (by simpa using hlt)] at h2; simp at h2
      · rw [List.getElem?_set_ne (fun h => e h.symm)] at h2
        exact .inl ⟨by simp [e, h1], h2⟩
    · exact .inr ⟨j + 1, by simpa using h1, by simpa using h2⟩
  | [], _ :: _, _, hl, _, _, _ => by simp at hl
  | _ :: _, [], _, hl, _, _, _ => by simp at hl

theorem setSl_len : ∀ {mv : List Nat} {xs l : List AV}, (setSl mv xs l).length = l.length
  | [], _, _ => by simp [setSl]
  | _ :: _, [], _ => by simp [setSl]
  | k :: mv, x :: xs, l => by simp only [setSl]; rw [setSl_len]; simp

theorem internL_len : ∀ {xs : List AV} {toks : List Tok}, (internL toks xs).1.length = xs.length
  | [], _ => rfl
  | x :: xs, toks => by simp [internL, internL_len]

/-- The contract of a function to which rows are handed over, by the run of its body. -/
theorem movOk_awp (hC : C.Ok P) (hm : P.follows .mixedOrders = true) {live : List Bool} {dt : List (Nat × RD)} {f : FuncId} {fn : Func} {c : Code} {args : List AV} {mv : List Nat} {r : AV}
    (hf : P.funcs[f]? = some fn) (hb : fn.body = some c) (hname : (fn.name == "runtime.NumGoroutine") = false) (hck : codeOk dt [] c = true)
    (h : ∀ (US : Nat → Prop) (w0 : World), lensL args → awp P C live (mkLd US [] undef dt) w0 c ⟨setSl mv (internL [] (mv.map fun i => args.getD i .junk)).1 args ++ List.replicate (fn.ntmps - args.length) .junk, (internL [] (mv.map fun i => args.getD i .junk)).2⟩ (doneS C fn.results.toList r)) : MovOk P f args mv r := by
  refine ⟨⟨fn, hf, hname, by rw [hb]; rfl⟩, fun w F S vals hF hS hlen hargs hown => ?_⟩
  refine (callsIn_wide (n := 0)).1 (callsIn_of_wp_marks hf hb trivial ?_)
  let E0 : Env := { F := F, hd := fun _ => undef, S := fun _ _ => False }
  let U : Ld := mkLd S [] undef dt
  have hgetv : ∀ i, i < args.length → (vals ++ Array.replicate (fn.ntmps - vals.size) undef).getD i undef = vals.getD i undef := fun i hi => by
    rw [Array.getD_eq_getD_getElem?, Array.getElem?_append_left (by omega), Array.getD_eq_getD_getElem?]
  have hmget : ∀ i (hi : i ∈ mv), ∃ j : Nat, mv[j]? = some i := fun i hi => List.mem_iff_getElem?.1 hi
  have hownget : ∀ (j i : Nat), mv[j]? = some i → Own w true (fun _ => False) S (args.getD i .junk) (vals.getD i undef) := fun j i hj => by
    obtain ⟨y, h1, h2⟩ := OwnL.get hown j (args.getD i .junk) (by rw [List.getElem?_map, hj]; rfl)
    rw [List.getElem?_map, hj] at h1
    simp only [Option.map_some, Option.some.injEq] at h1
    rw [h1]; exact h2
  have hlens : lensL args := lensL_iff.2 fun x hx => by
    obtain ⟨i, hi⟩ := List.mem_iff_getElem?.1 hx
    by_cases him : i ∈ mv
    · obtain ⟨j, hj⟩ := hmget i him
      have := hownget j i hj
      rw [List.getD_eq_getElem?_getD, hi] at this
      exact Rep.lens _ _ (Own.rep _ _ this)
    · obtain ⟨y, _, h2⟩ := hargs i x him hi
      exact Rep.lens _ _ h2
  have hs0 : SR U w ⟨setSl mv (mv.map fun _ => .junk) args ++ List.replicate (fn.ntmps - args.length) .junk, []⟩ E0 { tmps := vals ++ Array.replicate (fn.ntmps - vals.size) undef, defers := [] } w := by
    refine ⟨Marks.nil hF.gl (fun _ _ => .inl trivial), by simp [hlen, setSl_len], fun i x hi => ?_, hF.lt, fun t tk ht => by simp at ht, fun t b hb => hb.elim, fun t t' b _ hb => hb.elim, Frm.refl _ _, fun i hi => by simp [U, mkLd] at hi⟩
    by_cases hlt : i < args.length
    · rw [List.getElem?_append_left (by simpa [setSl_len] using hlt)] at hi
      rw [hgetv i hlt]
      rcases setSl_get (by simp) hi with ⟨h1, h2⟩ | ⟨j, h1, h2⟩
      · obtain ⟨y, k1, k2⟩ := hargs i x h1 h2
        rw [Array.getD_eq_getD_getElem?, k1]
        exact SRep.of_rep (E := E0) _ _ k2
      · rw [List.getElem?_map, h1] at h2
        simp only [Option.map_some, Option.some.injEq] at h2
        subst h2; simp [SRep]
    · rw [List.getElem?_append_right (by simpa [setSl_len] using hlt)] at hi
      have := List.mem_of_getElem? hi
      rw [List.mem_replicate] at this
      rw [this.2]; simp [SRep]
  obtain ⟨E1, e1, e2, e3, e4, e5, e6⟩ := internL_ok (F := fun _ => False) _ _ S [] E0 hs0 hown (fun b hb => ⟨.inr hb, (hS b hb).1, fun hA => hA.elim (hS b hb).2 fun ⟨_, h⟩ => h⟩)
  have hs : SR U w ⟨setSl mv (internL [] (mv.map fun i => args.getD i .junk)).1 args ++ List.replicate (fn.ntmps - args.length) .junk, (internL [] (mv.map fun i => args.getD i .junk)).2⟩ E1 { tmps := vals ++ Array.replicate (fn.ntmps - vals.size) undef, defers := [] } w := by
    refine ⟨e5.defers, by simp [hlen, setSl_len], fun i x hi => ?_, e5.flt, e5.tok, e5.slt, e5.sep, e5.frame, e5.pin⟩
    by_cases hlt : i < args.length
    · rw [List.getElem?_append_left (by simpa [setSl_len] using hlt)] at hi
      rcases setSl_get (by simp [internL_len]) hi with ⟨h1, h2⟩ | ⟨j, h1, h2⟩
      · obtain ⟨y, k1, k2⟩ := hargs i x h1 h2
        rw [hgetv i hlt, Array.getD_eq_getD_getElem?, k1]
        refine SRep.of_rep (E := E1) _ _ ?_
        rw [e1]; exact k2
      · rw [hgetv i hlt]
        obtain ⟨y, k1, k2⟩ := SRepL.get e6 j x h2
        rw [List.getElem?_map, h1] at k1
        simp only [Option.map_some, Option.some.injEq] at k1
        subst k1; exact k2
    · rw [List.getElem?_append_right (by simpa [setSl_len] using hlt)] at hi
      have := List.mem_of_getElem? hi
      rw [List.mem_replicate] at this
      rw [this.2]; simp [SRep]
  refine tr_awp hC hm c _ _ (h S w hlens) hck E1 _ w hs _ fun e st' E' a' w' hq hs' => ?_
  obtain ⟨he, hr⟩ := hq
  have hpost : LeavesInM Fence.wide 0 P fn a'.tmps (fun e w' => ∃ (y : Value) (S' : Nat → Prop), e = .returned y ∧ Frm S w w' ∧ (∀ b, S' b → (S b ∨ w.heap.size ≤ b) ∧ b < w'.heap.size) ∧ Own w' true (fun _ => False) S' r y) a'.defers .returning w' := by
    obtain ⟨Ds, m1, m2, m3⟩ := hs'.defers.marks rfl
    rw [m1]
    refine leaves_marks Ds w' m2 (fun D hD => (m3 D hD).2.2) fun w2 n1 n2 n3 n4 n5 => ?_
    obtain ⟨y, S', k1, k2, k3, k4⟩ := results_ok (w2 := w2) (F := fun _ => False) hC hs' (fun t b hb => n1 b fun hD => (hs'.slt t b hb).2.1 (m3 b hD).1) (by omega) hr
    exact ⟨y, k1, y, S', rfl, ⟨n3.trans hs'.frame.os, n4.trans hs'.frame.tape, n5.trans hs'.frame.output, by rw [n2]; exact hs'.frame.size, fun b hb hU => (n1 b fun hD => by have := (m3 b hD).2.1; omega).trans (hs'.frame.block b hb hU)⟩, fun b hb => ⟨(k2 b hb).symm, k3 b hb⟩, k4⟩
  rcases he with rfl | rfl
  · exact hpost
  · exact hpost

end
end Go.Proofs.YtkfgmpmeipilnaaDoor.Ax

/-
  A law whose row lists the library's tables: from its contract to what the row says. No condition.
-/
namespace Go.Proofs.YtkfgmpmeipilnaaDoor.Ax
open Go Go.RowKit Go.ChangeShapes Go.WideShapes Go.ChangeAt

theorem laid_tail {P : Program} {x : String × DataW Unit} {l : List (String × DataW Unit)} {w : World} (h : laidMet P (x :: l) w) : laidMet P l w := by
  obtain ⟨ps, ⟨g, t, cs, fuel, p, q, h1, h2, h3, h4, h5, rfl⟩, hn, hc⟩ := h
  exact ⟨q, h5, (List.nodup_append.1 hn).2.1, fun b off hm => hc b off (List.mem_append.2 (.inr hm))⟩

theorem gl_of_tab {w : World} (h : Lib.TabIs Tryd.prog w "internal/strconv.uint64pow10" .u64 Lib.pow10Tab) : Gl (fun b => b < w.heap.size) w := by
  intro g hg
  unfold Lib.TabIs World.var? at h
  rw [hg] at h
  simp only [Option.bind_some] at h
  split at h
  · rename_i cs x y hb
    obtain rfl := Option.some.inj h
    exact ⟨(Array.getElem?_eq_some_iff.1 hb).1, x, y, hb⟩
  · cases h

theorem framedL {C : Checked} {os : Os} {started : os.Started} {H : Type} {enc : TypeId × Value → H} {f : FuncId} {fn : Func} {s : ChangeSpec} {conds : List PathCond} {tb : TypeId} {laid : List (String × DataW Unit)}
    (own : ownKnob C.prog.godebug = none) (noInit : C.prog.inits.idxOf? f = none) (hfn : C.prog.funcs[f]? = some fn)
    (witness : ∃ (w : World) (tape : Tape) (i : Input), w.os = os ∧ (w.forCall tape i).Shaped C.prog ∧ i.vars = [] ∧ Input.okWide C.prog (w.forCall tape i) .any w.heap.size f i ∧
      ((s.pre enc C.prog fn conds false (w.forCall tape i).memory i.args ∧ laidMetH C.prog laid (w.forCall tape i).memory) ∧ sizedMet enc C.prog fn (OpenSpec.ofChange s) false (w.forCall tape i).memory i.args) ∧ ({} : Assume).holds C.prog (lone (Frame.enter C.prog f i.args .normal) [] (w.forCall tape i)))
    (hl : laidOutB C.prog = true) (hp : fn.params.toList.all (plainB C.prog 30) = true) (hr : fn.params.toList.all (fun t => C.prog.readableRec t && decide (t < C.prog.types.size)) = true)
    (hres : fn.resultTypes = #[tb]) (hb : C.prog.underlying tb = some .bool) (hvars : s.vars = [])
    (hspec : ∀ ds : List (DataW H), ds.length = fn.params.toList.length → s.fn H ds = { results := [.lit (.bool true)], args := ds })
    (tab : ∀ w, laidMetH C.prog laid w → Gl (fun b => b < w.heap.size) w)
    (law : ∀ al, DatL C.prog fn.params.toList al → CallOk C.prog f al (.v (.bool true))) :
    ReturnsInHanded {} C os f .any (fun w args => (s.pre enc C.prog fn conds false w args ∧ laidMetH C.prog laid w) ∧ sizedMet enc C.prog fn (OpenSpec.ofChange s) false w args) (s.post enc C.prog fn false true false false) := by
  refine returnsInHanded_of_change_and (C := C) (X := fun w _ => laidMetH C.prog laid w) (fun _ _ _ hh h => h.of_heap hh) own started noInit hfn witness ?_
  intro W base args ds gs before hval hW _ _ hL _
  have hW' := hW
  obtain ⟨p, q, hA, hV, rfl, _, _⟩ := hW
  rw [hvars] at hV
  obtain ⟨rfl, rfl⟩ := trodVars_none hV
  obtain ⟨al, h1, h2⟩ := trod_args hA hp (fun j t v ht hv => hval j t v (by simpa using ht) (by simpa using hv))
  refine ((law al h2).2 W (fun b => b < W.heap.size) args ⟨fun _ h => h, tab W hL⟩ h1).mono fun e W' ⟨y, S, he, hf, _, ho⟩ => ?_
  simp only [Own] at ho
  obtain ⟨rfl, _⟩ := ho
  have bel := below_of_frm hf
  refine ⟨_, he, ds, [], p ++ [], [], p, [], hW', ?_, ?_, ?_, bel.frame _, fun h => by cases h⟩
  · rw [List.append_nil, hspec ds (trodAll_len hA), hres]
    exact trodAll_mk1 ⟨1, by simp [DataW.trod, Value.cells, hb]⟩
  · rw [List.append_nil, hspec ds (trodAll_len hA)]
    exact trodAll_below hl bel hA hr
  · rw [List.append_nil, hspec ds (trodAll_len hA), hvars]
    simp [DataW.TrodVars]

end Go.Proofs.YtkfgmpmeipilnaaDoor.Ax

/-
  The contract of an iterator (NOTES.md, E4).
-/
namespace Go.Proofs.YtkfgmpmeipilnaaDoor.Ax
open Go Go.RowKit

/-- 'gf, a function over the captured values caps, is an iterator over xs.' B is the memory of the loop that ranges over it (its rows, its record, the block of its deferred calls): between two rounds the iterator leaves it as it is, and a round leaves all else as it is. -/
def IterOk (P : Program) (gf : FuncId) (caps xs : List AV) : Prop :=
  (∃ fn, P.funcs[gf]? = some fn ∧ (fn.name == "runtime.NumGoroutine") = false ∧ fn.body.isNone = false) ∧
  ∀ (w : World) (F B0 : Nat → Prop) (lb : Array Value), Fit F w → (∀ b, B0 b → b < w.heap.size ∧ ¬ F b) → RepL w F caps lb.toList →
  ∀ (l : Nat) (J Jx : Nat → (Nat → Prop) → World → Prop),
    (∀ k B W W', J k B W → Frm (fun b => ¬ B b) W W' → J k B W') → (∀ k B W W', Jx k B W → Frm (fun b => ¬ B b) W W' → Jx k B W') →
    (∀ k x y B Fi W, J k B W → xs[k]? = some x → Rep W Fi x y → (∀ b, Fi b → b < W.heap.size ∧ ¬ B b) → (∀ b, B b → b < W.heap.size) → Frm B0 w W →
      YieldAt (fen none) 0 P l #[y] W fun e W' => Frm B W W' ∧ ∃ B' : Nat → Prop, (∀ b, B' b → (B b ∨ W.heap.size ≤ b) ∧ b < W'.heap.size) ∧
        ((e = .returned (.bool true) ∧ J (k + 1) B' W') ∨ (e = .returned (.bool false) ∧ Jx (k + 1) B' W'))) →
    J 0 B0 w →
    CallsIn (fen none) 0 P gf (#[.func (.yield l) #[] #[]] ++ lb) w fun e W' => (∃ v, e = .returned v) ∧ Frm B0 w W' ∧
      ∃ (k : Nat) (B' : Nat → Prop), (∀ b, B' b → (B0 b ∨ w.heap.size ≤ b) ∧ b < W'.heap.size) ∧ ((k = xs.length ∧ J k B' W') ∨ Jx k B' W')

theorem RefOk.setF {w : World} {E : Env} {F : Nat → Prop} {toks : List Tok} {t : Nat} {p : List (Nat × Nat)} {lo n : Nat} {y : Value} (h : RefOk w E toks t p lo n y) : RefOk w { E with F := F } toks t p lo n y := h
theorem PtrOk.setF {w : World} {E : Env} {F : Nat → Prop} {toks : List Tok} {t : Nat} {p : List (Nat × Nat)} {i j : Nat} {y : Value} (h : PtrOk w E toks t p i j y) : PtrOk w { E with F := F } toks t p i j y := h

mutual
/-- What is only read is taken from the first, what refers to rows from the second. -/
theorem SRep.mix {w w' : World} {E E' : Env} {toks toks' : List Tok} (hA : Agree E.F w w') : ∀ {c : AV} {y : Value}, SRep w E toks c y → SRep w' E' toks' c y → SRep w' { E' with F := E.F } toks' c y
  | .v _, _, _, k => by simp only [SRep] at k ⊢; exact k
  | .agg cs, _, h, k => by
    simp only [SRep] at h k ⊢
    obtain ⟨ys, rfl, h⟩ := h; obtain ⟨ys', e, k⟩ := k; cases e
    exact ⟨ys, rfl, SRepL.mix hA h k⟩
  | .tup cs, _, h, k => by
    simp only [SRep] at h k ⊢
    obtain ⟨ys, rfl, h⟩ := h; obtain ⟨ys', e, k⟩ := k; cases e
    exact ⟨ys, rfl, SRepL.mix hA h k⟩
  | .sl _ _ _, _, h, _ => by simp only [SRep] at h ⊢; exact Rep.agree (fun _ hb => hb) hA _ _ h
  | .fp _ _, _, h, _ => by simp only [SRep] at h ⊢; exact Rep.agree (fun _ hb => hb) hA _ _ h
  | .fn _ _, _, h, k => by
    simp only [SRep] at h k ⊢
    obtain ⟨ys, rfl, h⟩ := h; obtain ⟨ys', e, k⟩ := k; cases e
    exact ⟨ys, rfl, SRepL.mix hA h k⟩
  | .ref _ _ _ _, _, _, k => by simp only [SRep] at k ⊢; exact k.setF
  | .ptr _ _ _ _, _, _, k => by simp only [SRep] at k ⊢; exact k.setF
  | .junk, _, _, _ => by simp only [SRep]
theorem SRepL.mix {w w' : World} {E E' : Env} {toks toks' : List Tok} (hA : Agree E.F w w') : ∀ {cs : List AV} {ys : List Value}, SRepL w E toks cs ys → SRepL w' E' toks' cs ys → SRepL w' { E' with F := E.F } toks' cs ys
  | [], _, h, _ => by simp only [SRepL] at h ⊢; exact h
  | _ :: _, _, h, k => by
    simp only [SRepL] at h k ⊢
    obtain ⟨y, ys, rfl, h1, h2⟩ := h; obtain ⟨y', ys', e, k1, k2⟩ := k; cases e
    exact ⟨y, ys, rfl, SRep.mix hA h1 k1, SRepL.mix hA h2 k2⟩
end

mutual
/-- What is only read is taken from the first, what refers to rows from the second; each row's memory is as it was there. -/
theorem SRep.mix2 {w W2 W : World} {E E' : Env} {F : Nat → Prop} {toks toks' : List Tok} (hT : ∀ t tk, toks'[t]? = some tk → TokOk W2 { E' with F := fun _ => False } t tk) (hF : ∀ b, E.F b → F b) (hA : Agree E.F w W) (hB : ∀ t, Agree (E'.S t) W2 W) :
    ∀ {c : AV} {y : Value}, SRep w E toks c y → SRep W2 E' toks' c y → SRep W { E' with F := F } toks' c y
  | .v _, _, _, k => by simp only [SRep] at k ⊢; exact k
  | .agg cs, _, h, k => by
    simp only [SRep] at h k ⊢
    obtain ⟨ys, rfl, h⟩ := h; obtain ⟨ys', e, k⟩ := k; cases e
    exact ⟨ys, rfl, SRepL.mix2 hT hF hA hB h k⟩
  | .tup cs, _, h, k => by
    simp only [SRep] at h k ⊢
    obtain ⟨ys, rfl, h⟩ := h; obtain ⟨ys', e, k⟩ := k; cases e
    exact ⟨ys, rfl, SRepL.mix2 hT hF hA hB h k⟩
  | .sl _ _ _, _, h, _ => by simp only [SRep] at h ⊢; exact Rep.agree hF hA _ _ h
  | .fp _ _, _, h, _ => by simp only [SRep] at h ⊢; exact Rep.agree hF hA _ _ h
  | .fn _ _, _, h, k => by
    simp only [SRep] at h k ⊢
    obtain ⟨ys, rfl, h⟩ := h; obtain ⟨ys', e, k⟩ := k; cases e
    exact ⟨ys, rfl, SRepL.mix2 hT hF hA hB h k⟩
  | .ref _ _ _ _, _, _, k => by
    simp only [SRep] at k ⊢
    exact RefOk.ext (E := { E' with F := fun _ => False }) (E' := { E' with F := F }) hT (fun b hb => hb.elim False.elim fun ⟨t, hb⟩ => hB t b hb) (fun _ _ => rfl) (Nat.le_refl _) (fun _ _ => rfl) k
  | .ptr _ _ _ _, _, _, k => by
    simp only [SRep] at k ⊢
    exact PtrOk.ext (E := { E' with F := fun _ => False }) (E' := { E' with F := F }) hT (fun b hb => hb.elim False.elim fun ⟨t, hb⟩ => hB t b hb) (fun _ _ => rfl) (Nat.le_refl _) (fun _ _ => rfl) k
  | .junk, _, _, _ => by simp only [SRep]
theorem SRepL.mix2 {w W2 W : World} {E E' : Env} {F : Nat → Prop} {toks toks' : List Tok} (hT : ∀ t tk, toks'[t]? = some tk → TokOk W2 { E' with F := fun _ => False } t tk) (hF : ∀ b, E.F b → F b) (hA : Agree E.F w W) (hB : ∀ t, Agree (E'.S t) W2 W) :
    ∀ {cs : List AV} {ys : List Value}, SRepL w E toks cs ys → SRepL W2 E' toks' cs ys → SRepL W { E' with F := F } toks' cs ys
  | [], _, h, _ => by simp only [SRepL] at h ⊢; exact h
  | _ :: _, _, h, k => by
    simp only [SRepL] at h k ⊢
    obtain ⟨y, ys, rfl, h1, h2⟩ := h; obtain ⟨y', ys', e, k1, k2⟩ := k; cases e
    exact ⟨y, ys, rfl, SRep.mix2 hT hF hA hB h1 k1, SRepL.mix2 hT hF hA hB h2 k2⟩
end

/-- Between two rounds of a loop over a function: the rows T, by themselves, in memory that the iterator leaves as it is. -/
structure Bt (U : Ld) (w0 : World) (EF : Nat → Prop) (S0 : List AV) (tmps : Array Value) (D l : Nat) (T : List Tok) (rc : Obj) (B : Nat → Prop) (W : World) : Prop where
  ex : ∃ (W2 : World) (E' : Env), (∀ i x, S0[i]? = some x → SRep W2 E' T x (tmps.getD i undef)) ∧ (∀ t tk, T[t]? = some tk → TokOk W2 { E' with F := fun _ => False } t tk) ∧
    (∀ t b, E'.S t b → B b ∧ b ≠ D ∧ b ≠ l) ∧ (∀ t t' b, t ≠ t' → E'.S t b → ¬ E'.S t' b) ∧ ∀ t, Agree (E'.S t) W2 W
  rc : W.heap[l]? = some rc
  dfr : W.heap[D]? = some (.deferred (some []))
  inB : B D ∧ B l
  ne : l ≠ D
  org : ∀ b, B b → (w0.heap.size ≤ b ∨ U b) ∧ ¬ EF b ∧ b < W.heap.size

theorem Bt.later {U : Ld} {w0 : World} {EF : Nat → Prop} {S0 : List AV} {tmps : Array Value} {D l : Nat} {T : List Tok} {rc : Obj} {B : Nat → Prop} {W W' : World} (h : Bt U w0 EF S0 tmps D l T rc B W) (hW : Frm (fun b => ¬ B b) W W') : Bt U w0 EF S0 tmps D l T rc B W' where
  ex := by
    obtain ⟨W2, E', h1, h2, h3, h4, h5⟩ := h.ex
    exact ⟨W2, E', h1, h2, h3, h4, fun t b hb => (hW.block b (h.org b (h3 t b hb).1).2.2 fun hn => hn (h3 t b hb).1).trans (h5 t b hb)⟩
  rc := (hW.block l (h.org l h.inB.2).2.2 fun hn => hn h.inB.2).trans h.rc
  dfr := (hW.block D (h.org D h.inB.1).2.2 fun hn => hn h.inB.1).trans h.dfr
  inB := h.inB
  ne := h.ne
  org b hb := ⟨(h.org b hb).1, (h.org b hb).2.1, Nat.lt_of_lt_of_le (h.org b hb).2.2 hW.size⟩

/-- The state of the loop's own act, from what stands between two rounds. -/
theorem Bt.sr {U : Ld} {w0 w : World} {S0 : List AV} {T T0 : List Tok} {E : Env} {a : Act} {D l : Nat} {rc : Obj} {B : Nat → Prop} {W : World} (hs : SR U w0 ⟨S0, T0⟩ E a w) (h : Bt U w0 E.F S0 a.tmps D l T rc B W)
    (hA : Agree E.F w W) (hfr : Frm U.U w0 W) (hsz : w.heap.size ≤ W.heap.size) (hD : D = w.heap.size) (hnm : U.nm = false) :
    ∃ E', SR U w0 ⟨S0, T⟩ E' { a with defers := { target := .collected D, args := #[] } :: a.defers } W ∧ ¬ allB E' l := by
  obtain ⟨W2, E', h1, h2, h3, h4, h5⟩ := h.ex
  have hlD : l ≠ D := h.ne
  refine ⟨{ E' with F := fun b => E.F b ∨ b = D }, ⟨⟨fun hr => ?_, fun hn => (by rw [hnm] at hn; simp at hn), fun b hb => hb.elim (hs.defers.fz b) fun e => .inr (.inr (by rw [e, hD]; exact hs.frame.size)), (hs.defers.gl.agree hA).mono fun _ h => .inl h⟩, hs.size, fun i x hx => SRep.mix2 h2 (fun b hb => .inl hb) hA h5 (hs.slot i x hx) (h1 i x hx), fun b hb => hb.elim (fun hb => Nat.lt_of_lt_of_le (hs.flt b hb) hsz) fun e => e ▸ (h.org D h.inB.1).2.2, fun t tk ht => ?_, fun t b hb => ⟨(h.org b (h3 t b hb).1).2.2, fun hF => hF.elim (h.org b (h3 t b hb).1).2.1 (h3 t b hb).2.1, (h.org b (h3 t b hb).1).1⟩, h4, hfr, hs.pin⟩, fun hl => ?_⟩
  · obtain ⟨Ds, m1, m2, m3⟩ := hs.defers.marks hr
    refine ⟨D :: Ds, by simp [m1], ?_, fun D' hD' => ?_⟩
    · rw [List.nodup_cons]
      exact ⟨fun hm => by have := hs.flt D (m3 D hm).1; omega, m2⟩
    · rcases List.mem_cons.1 hD' with rfl | hD'
      · exact ⟨.inr rfl, by rw [hD]; exact hs.frame.size, h.dfr⟩
      · exact ⟨.inl (m3 D' hD').1, (m3 D' hD').2.1, (hA D' (m3 D' hD').1).trans (m3 D' hD').2.2⟩
  · exact (h2 t tk ht).weak (E' := { E' with F := fun b => E.F b ∨ b = D }) (fun b hb => hb.elim False.elim fun ⟨t, hb⟩ => h5 t b hb) (fun _ h => h.elim) rfl (fun _ h => h)
  · rcases hl with hl | ⟨t, hl⟩
    · exact hl.elim (h.org l h.inB.2).2.1 hlD
    · exact (h3 t l hl).2.2 rfl

/-- How a round may be left: at the next state, or by a jump. -/
def rngF (lv : List Bool) (S0 : List AV) (I : Nat → List Tok) (k : Nat) (Q : Exit → ASt → Prop) : Exit → ASt → Prop
  | .normal, s => sub (clean lv s) ⟨S0, I (k + 1)⟩
  | .ret, s => ∃ T, sub (clean lv s) ⟨S0, T⟩ ∧ (∀ (t : Nat) (tk : Tok), T[t]? = some tk → tk.row = .junk ∨ tk.deep = true) ∧ Q .ret ⟨S0, T⟩
  | .exit id, s => ∃ T, sub (clean lv s) ⟨S0, T⟩ ∧ (∀ (t : Nat) (tk : Tok), T[t]? = some tk → tk.row = .junk ∨ tk.deep = true) ∧ Q (.exit id) ⟨S0, T⟩
  | _, _ => False

/-- Behind the assignment to the loop's variables: the body. -/
def asgF (P : Program) (C : Ctx) (live lv : List Bool) (idx : List Nat) (pin : Nat → Value) (dt : List (Nat × RD)) (l : Nat) (body : Code) (S0 : List AV) (I : Nat → List Tok) (k : Nat) (Q : Exit → ASt → Prop) : Exit → ASt → Prop
  | .normal, s => ∀ US w1, awp P C live (ldR US idx pin dt l) w1 body s (rngF lv S0 I k Q)
  | _, _ => False

theorem TokOk.noF {w : World} {E : Env} {t : Nat} {tk : Tok} (h : TokOk w E t tk) (hd : tk.row = .junk ∨ tk.deep = true) : TokOk w { E with F := fun _ => False } t tk := by
  rcases h with h | ⟨nl, sz, es, h, k⟩
  · exact .inl h
  · rcases hd with h' | h'
    · exact .inl h'
    · refine .inr ⟨nl, sz, es, h, ?_⟩
      rw [h'] at k ⊢
      exact k.deepF


theorem frm_put {W : World} {l : Nat} {o : Obj} : Frm (fun b => b = l) W (W.putObj l o) := ⟨rfl, rfl, rfl, by simp, fun _ _ h => World.putObj_heap_other h⟩

theorem Frm.comp {U V X : Nat → Prop} {w w1 w2 : World} (h : Frm U w w1) (h' : Frm V w1 w2) (hU : ∀ b, b < w.heap.size → U b → X b) (hV : ∀ b, b < w.heap.size → V b → X b) : Frm X w w2 :=
  ⟨h'.os.trans h.os, h'.tape.trans h.tape, h'.output.trans h.output, Nat.le_trans h.size h'.size, fun k hk hX => (h'.block k (Nat.lt_of_lt_of_le hk h.size) fun hv => hX (hV k hk hv)).trans (h.block k hk fun hu => hX (hU k hk hu))⟩

/-- The same state, seen from now: only the call's own rows may turn. -/
theorem SR.rebase {U : Ld} {w0 w : World} {st : ASt} {E : Env} {a : Act} {idx : List Nat} {pin : Nat → Value} {dt : List (Nat × RD)} {l : Nat} {X : Nat → Prop} (h : SR U w0 st E a w) (hl : ¬ E.F l) (hX : ∀ t b, E.S t b → X b) (hp : ∀ i ∈ idx, a.tmps.getD i undef = pin i) : SR (ldR X idx pin dt l) w st E a w where
  defers := ⟨fun hr => by simp [ldR] at hr, fun hn => by simp [ldR] at hn, fun b hb => .inl fun e => hl (e ▸ hb), h.defers.gl⟩
  size := h.size
  slot := h.slot
  flt := h.flt
  tok := h.tok
  slt t b hb := ⟨(h.slt t b hb).1, (h.slt t b hb).2.1, .inr (hX t b hb)⟩
  sep := h.sep
  frame := Frm.refl _ _
  pin := hp

/-- At a round's start. -/
theorem Bt.start {U : Ld} {w0 w : World} {S0 : List AV} {T T0 : List Tok} {E : Env} {a : Act} {D l : Nat} {rc : Obj} {B Fi : Nat → Prop} {W : World} {idx : List Nat} {dt : List (Nat × RD)} {p : Nat} {x : AV} {y : Value} (hs : SR U w0 ⟨S0, T0⟩ E a w) (h : Bt U w0 E.F S0 a.tmps D l T rc B W)
    (hA : Agree E.F w W) (hsz : w.heap.size ≤ W.heap.size) (hx : Rep W Fi x y) (hFi : ∀ b, Fi b → b < W.heap.size ∧ ¬ B b) (hp : p < S0.length) (hpi : p ∉ idx) :
    ∃ E1 : Env, (∀ t b, E1.S t b → B b ∧ b ≠ D ∧ b ≠ l) ∧ SR (ldR (fun b => ∃ t, E1.S t b) idx (fun i => a.tmps.getD i undef) dt l) W ⟨S0.set p x, T⟩ E1 { tmps := a.tmps.setIfInBounds p y, defers := [] } W := by
  obtain ⟨W2, E', h1, h2, h3, h4, h5⟩ := h.ex
  refine ⟨{ E' with F := fun b => E.F b ∨ Fi b }, h3, ?_⟩
  have hget : ∀ i, (a.tmps.setIfInBounds p y).getD i undef = if i = p then y else a.tmps.getD i undef := fun i => by
    have := getD_put (a := a) (d := p) (y := y) (i := i) (by rw [hs.size]; exact hp)
    simpa [Act.put] using this
  refine ⟨⟨fun hr => by simp [ldR] at hr, fun hn => by simp [ldR] at hn, fun b hb => .inl fun e => by subst e; exact hb.elim (h.org _ h.inB.2).2.1 fun hb => (hFi _ hb).2 h.inB.2, (hs.defers.gl.agree hA).mono fun _ h => .inl h⟩, by simpa using hs.size, fun i x' hi => ?_, fun b hb => hb.elim (fun hb => Nat.lt_of_lt_of_le (hs.flt b hb) hsz) fun hb => (hFi b hb).1, fun t tk ht => ?_, fun t b hb => ⟨(h.org b (h3 t b hb).1).2.2, fun hF => hF.elim (h.org b (h3 t b hb).1).2.1 fun hF => (hFi b hF).2 (h3 t b hb).1, .inr ⟨t, hb⟩⟩, h4, Frm.refl _ _, fun i hi => ?_⟩
  · rw [hget]
    by_cases e : i = p
    · subst e
      rw [List.getElem?_set_self hp] at hi
      obtain rfl := Option.some.inj hi
      rw [if_pos rfl]
      exact SRep.of_rep (E := { E' with F := fun b => E.F b ∨ Fi b }) _ _ (hx.weak (fun _ h => .inr h) (Agree.refl _ _))
    · rw [List.getElem?_set_ne (fun h => e h.symm)] at hi
      rw [if_neg e]
      exact SRep.mix2 h2 (fun b hb => .inl hb) hA h5 (hs.slot i x' hi) (h1 i x' hi)
  · exact (h2 t tk ht).weak (E' := { E' with F := fun b => E.F b ∨ Fi b }) (fun b hb => hb.elim False.elim fun ⟨t, hb⟩ => h5 t b hb) (fun _ h => h.elim) rfl (fun _ h => h)
  · show (a.tmps.setIfInBounds p y).getD i undef = a.tmps.getD i undef
    rw [hget, if_neg (show ¬ i = p from fun e => hpi (e ▸ hi))]

/-- A loop over a function that is an iterator over xs: S0 stands for the slots all along, I k for the rows of the call's own before round k. -/
theorem tr_rangeFunc {P : Program} {C : Ctx} {U : Ld} {w0 : World} {st : ASt} {Q : Exit → ASt → Prop} {live lv : List Bool} {g : Operand} {p : Nat} {assign body : Code} {gf : Nat} {caps xs : List AV} {S0 : List AV} {I : Nat → List Tok} (idx : List Nat)
    (hC : C.Ok P) (hm : P.follows .mixedOrders = true) (hit : IterOk P gf caps xs) (hro : U.ro = none) (hnm : U.nm = false) (h0 : Le U w0 st ⟨S0, I 0⟩) (hg : ev S0 g = .fn gf caps) (hcaps : caps.all frz = true)
    (hp : p < S0.length) (hpi : p ∉ idx) (hS : ∀ i x, S0[i]? = some x → x = .junk ∨ i ∈ idx) (hdeep : ∀ k, k ≤ xs.length → ∀ (t : Nat) (tk : Tok), (I k)[t]? = some tk → tk.row = .junk ∨ tk.deep = true)
    (hck : codeOk U.dt idx assign = true ∧ codeOk U.dt idx body = true)
    (hround : ∀ k x, xs[k]? = some x → ∀ pin l US w1, awp P C live (ldR US idx pin U.dt l) w1 assign ⟨S0.set p x, I k⟩ (asgF P C live lv idx pin U.dt l body S0 I k Q))
    (hend : Q .normal ⟨S0, I xs.length⟩) : Tr P U w0 (.rangeFunc g #[p] assign body) st Q := by
  refine Tr.pre ?_ h0
  intro _ E a w hs K hK
  obtain ⟨⟨gfn, hgf, hgn, hgb⟩, hit⟩ := hit
  have hgv := hs.ev g
  simp only at hgv
  rw [hg] at hgv
  simp only [SRep] at hgv
  obtain ⟨lb, hgv, hlb⟩ := hgv
  have hlb' : RepL w E.F caps lb.toList := by
    have : ∀ (cs : List AV) (ys : List Value), cs.all frz = true → SRepL w E (I 0) cs ys → RepL w E.F cs ys := by
      intro cs
      induction cs with
      | nil => intro ys _ h; simpa [SRepL, RepL] using h
      | cons c cs ih =>
        intro ys hf h
        simp only [List.all_cons, Bool.and_eq_true] at hf
        simp only [SRepL] at h
        obtain ⟨y, ys', rfl, h1, h2⟩ := h
        simp only [RepL]
        exact ⟨y, ys', rfl, h1.frz hf.1, ih ys' hf.2 h2⟩
    exact this _ _ hcaps hlb
  rw [hro]
  refine wpIn_rangeFunc ?_
  intro fn hfn
  obtain ⟨rec, hrec⟩ : ∃ rec : LoopState → Option Code → Loop, rec = fun st pe => { state := st, pending := pe, fn, tmps := a.tmps, params := #[p], assign, body, defers := w.heap.size } := ⟨_, rfl⟩
  obtain ⟨W1, hW1⟩ : ∃ W1, (w.alloc (.deferred (some []))).alloc (.loop (rec .ready none)) = W1 := ⟨_, rfl⟩
  have hsz1 : W1.heap.size = w.heap.size + 2 := by rw [← hW1]; simp
  have hL1 : W1.heap[w.heap.size + 1]? = some (.loop (rec .ready none)) := by
    rw [← hW1]; have := World.alloc_heap_new (w.alloc (.deferred (some []))) (.loop (rec .ready none)); rwa [World.size_alloc] at this
  have hK1 : W1.heap[w.heap.size]? = some (.deferred (some [])) := by
    rw [← hW1]; exact (Below.heap_alloc _ _ _ (by simp)).trans (World.alloc_heap_new w _)
  have hF1 : Frm (fun _ => False) w W1 := by
    rw [← hW1]; exact (frm_alloc _).comp (frm_alloc _) (fun _ _ h => h) (fun _ _ h => h)
  have hown0 : ∀ t b, E.S t b → b < w.heap.size ∧ ¬ E.F b ∧ (w0.heap.size ≤ b ∨ U b) := hs.slt
  have hB0 : Bt U w0 E.F S0 a.tmps w.heap.size (w.heap.size + 1) (I 0) (.loop (rec .ready none)) (fun b => (∃ t, E.S t b) ∨ b = w.heap.size ∨ b = w.heap.size + 1) W1 := by
    refine ⟨⟨w, E, hs.slot, fun t tk ht => (hs.tokOk t tk ht).noF (hdeep 0 (Nat.zero_le _) t tk ht), fun t b hb => ⟨.inl ⟨t, hb⟩, by have := (hown0 t b hb).1; omega, by have := (hown0 t b hb).1; omega⟩, hs.sep, fun t b hb => hF1.block b (hown0 t b hb).1 id⟩, hL1, hK1, ⟨.inr (.inl rfl), .inr (.inr rfl)⟩, by omega, fun b hb => ?_⟩
    rcases hb with ⟨t, hb⟩ | rfl | rfl
    · exact ⟨(hown0 t b hb).2.2, (hown0 t b hb).2.1, by have := (hown0 t b hb).1; omega⟩
    · exact ⟨.inl hs.frame.size, fun h => by have := hs.flt _ h; omega, by omega⟩
    · exact ⟨.inl (Nat.le_trans hs.frame.size (by omega)), fun h => by have := hs.flt _ h; omega, by omega⟩
  -- what is known of the world at any later time
  have hlater : ∀ W, Frm (fun b => (∃ t, E.S t b) ∨ b = w.heap.size ∨ b = w.heap.size + 1) W1 W → Agree E.F w W ∧ w.heap.size ≤ W.heap.size ∧ Frm U.U w0 W := fun W hW => by
    refine ⟨fun b hb => (hW.block b (by have := hs.flt b hb; omega) ?_).trans (hF1.block b (hs.flt b hb) id), by have := hW.size; omega, ?_⟩
    · rintro (⟨t, h⟩ | h | h)
      · exact (hown0 t b h).2.1 hb
      · have := hs.flt b hb; omega
      · have := hs.flt b hb; omega
    · refine (hs.frame.comp hF1 (X := U.U) (fun _ _ h => h) (fun _ _ h => h.elim)).comp hW (fun _ _ h => h) fun b hb h => ?_
      have := hs.frame.size
      rcases h with ⟨t, h⟩ | h | h
      · exact (hown0 t b h).2.2.elim (fun h => by omega) id
      · omega
      · omega
  refine ⟨w.heap.size + 1, [{ target := .collected w.heap.size, args := #[] }], W1, { target := .fn (.func gf) lb, args := #[.func (.yield (w.heap.size + 1)) #[] #[]] }, W1, gf,
    #[.func (.yield (w.heap.size + 1)) #[] #[]] ++ lb, W1, ?_, ?_, fun _ _ => trivial, ?_, fun hd => by simp [fen, Fence.wide] at hd, ?_⟩
  · rw [← hW1, hrec]; exact run_enterLoop_outer _ _ _ _ _
  · simp only [resolve, hgv]
    simp [go_sem]
  · have e1 : gfn.name ≠ "runtime.NumGoroutine" := by simpa using hgn
    have e2 : gfn.body ≠ Option.none := by intro e; rw [e] at hgb; simp at hgb
    simp [invoke, callFunc, hgf, e1, e2]
  · refine (hit W1 E.F (fun b => (∃ t, E.S t b) ∨ b = w.heap.size ∨ b = w.heap.size + 1) lb ⟨fun b hb => by have := hs.flt b hb; omega, hs.defers.gl.agree fun b hb => hF1.block b (hs.flt b hb) id⟩ (fun b hb => ⟨(hB0.org b hb).2.2, (hB0.org b hb).2.1⟩)
      (RepL.agree (fun _ h => h) (fun b hb => hF1.block b (hs.flt b hb) id) _ _ hlb') (w.heap.size + 1)
      (fun k B W => k ≤ xs.length ∧ Bt U w0 E.F S0 a.tmps w.heap.size (w.heap.size + 1) (I k) (.loop (rec .ready none)) B W)
      (fun k B W => ∃ (c : Code) (T : List Tok), ((c = .ret ∧ Q .ret ⟨S0, T⟩) ∨ ∃ id, c = .exit id ∧ Q (.exit id) ⟨S0, T⟩) ∧ Bt U w0 E.F S0 a.tmps w.heap.size (w.heap.size + 1) T (.loop (rec .done (some c))) B W)
      (fun k B W W' h hW => ⟨h.1, h.2.later hW⟩) (fun k B W W' h hW => by obtain ⟨c, T, h1, h2⟩ := h; exact ⟨c, T, h1, h2.later hW⟩) ?_ ⟨Nat.zero_le _, hB0⟩).mono ?_
    · -- one round
      rintro k x y B Fi W ⟨hk, hJ⟩ hx hr hFi hBlt hW
      obtain ⟨hA, hszW, _⟩ := hlater W hW
      have hkl : k < xs.length := (List.getElem?_eq_some_iff.1 hx).1
      have hlW := (hJ.org _ hJ.inB.2).2.2
      have hDW := (hJ.org _ hJ.inB.1).2.2
      have hy := run_yield (P := P) (args := #[y]) hJ.rc (by rw [hrec]; rfl)
      rw [hrec] at hy
      refine ⟨fn, _, assign, body, hy, ?_⟩
      obtain ⟨E1, hE1, hs1⟩ := hJ.start (idx := idx) (dt := U.dt) (p := p) hs hA hszW hr hFi hp hpi
      refine roundIn_of_wpIn trivial ?_
      have htm : (Array.foldl (fun tmps x => match x with | (t, a) => tmps.setIfInBounds t a) a.tmps (#[p].zip #[y])) = a.tmps.setIfInBounds p y := by simp
      show Code.wpIn (fen (some (w.heap.size + 1))) 0 P assign _ { tmps := Array.foldl (fun tmps x => match x with | (t, a) => tmps.setIfInBounds t a) a.tmps (#[p].zip #[y]), defers := [] } W
      rw [htm]
      refine tr_awp hC hm assign _ _ (hround k x hx _ (w.heap.size + 1) _ W) hck.1 E1 _ W hs1 _ fun e s E2 a2 W2 hq hs2 => ?_
      cases e with
      | normal =>
        simp only [asgF] at hq
        -- the record
        have hl2 : W2.heap[w.heap.size + 1]? = some (.loop (rec .ready none)) := (hs2.frame.block _ hlW fun ⟨t, h⟩ => (hE1 t _ h).2.2 rfl).trans hJ.rc
        have hd2 : W2.heap[w.heap.size]? = some (.deferred (some [])) := (hs2.frame.block _ hDW fun ⟨t, h⟩ => (hE1 t _ h).2.1 rfl).trans hJ.dfr
        have hE2 : ∀ t b, E2.S t b → (W.heap.size ≤ b ∨ B b) ∧ b ≠ w.heap.size ∧ b ≠ w.heap.size + 1 := fun t b hb => by
          rcases (hs2.slt t b hb).2.2 with h | ⟨t', h⟩
          · exact ⟨.inl h, by omega, by omega⟩
          · exact ⟨.inr (hE1 t' b h).1, (hE1 t' b h).2⟩
        have hls2 : w.heap.size + 1 < W2.heap.size := (Array.getElem?_eq_some_iff.1 hl2).1
        refine ⟨W2.putObj (w.heap.size + 1) (.loop { rec .ready none with state := .busy }), run_beginRound hl2 (by rw [hrec]), ?_⟩
        obtain ⟨W3, hW3⟩ : ∃ W3, W2.putObj (w.heap.size + 1) (.loop { rec .ready none with state := .busy }) = W3 := ⟨_, rfl⟩
        have hf3 : Frm (fun b => b = w.heap.size + 1) W2 W3 := by rw [← hW3]; exact frm_put
        have hs3 : SR (ldR (fun b => ∃ t, E2.S t b) idx (fun i => a.tmps.getD i undef) U.dt (w.heap.size + 1)) W3 s E2 a2 W3 := by
          have hnF : ¬ E2.F (w.heap.size + 1) := fun h => by
            rcases hs2.defers.fz _ h with h | h | h
            · exact h rfl
            · obtain ⟨t, h⟩ := h; exact (hE1 t _ h).2.2 rfl
            · omega
          have hno : ¬ allB E2 (w.heap.size + 1) := fun h => h.elim hnF fun ⟨t, h⟩ => (hE2 t _ h).2.2 rfl
          have h1 := (hs2.rebase (X := fun b => (∃ t, E2.S t b) ∨ b = w.heap.size + 1) (idx := idx) (pin := fun i => a.tmps.getD i undef) (dt := U.dt) (l := w.heap.size + 1) hnF (fun t b h => .inl ⟨t, h⟩) hs2.pin).other hf3 hno (.inr (.inr rfl))
          exact h1.rebase hnF (fun t b h => ⟨t, h⟩) h1.pin
        rw [hW3]
        have hl3 : W3.heap[w.heap.size + 1]? = some (.loop { rec .ready none with state := .busy }) := by rw [← hW3]; exact World.putObj_heap_same hls2
        have hd3 : W3.heap[w.heap.size]? = some (.deferred (some [])) := by rw [← hW3]; exact (World.putObj_heap_other (by omega)).trans hd2
        refine tr_awp hC hm body _ _ (hq _ W3) hck.2 E2 _ W3 hs3 _ fun e s3 E3 a3 W4 hq3 hs4 => ?_
        -- the end of the round
        have hl4 : W4.heap[w.heap.size + 1]? = some (.loop { rec .ready none with state := .busy }) := (hs4.frame.block _ (Array.getElem?_eq_some_iff.1 hl3).1 fun ⟨t, h⟩ => (hE2 t _ h).2.2 rfl).trans hl3
        have hd4 : W4.heap[w.heap.size]? = some (.deferred (some [])) := (hs4.frame.block _ (Array.getElem?_eq_some_iff.1 hd3).1 fun ⟨t, h⟩ => (hE2 t _ h).2.1 rfl).trans hd3
        have hls4 : w.heap.size + 1 < W4.heap.size := (Array.getElem?_eq_some_iff.1 hl4).1
        have hfW4 : Frm B W W4 := by
          refine ((hs2.frame.comp hf3 (X := B) (fun b _ h => ?_) fun b _ h => ?_).comp hs4.frame (fun _ _ h => h) fun b hb h => ?_)
          · obtain ⟨t, h⟩ := h; exact (hE1 t b h).1
          · rw [h]; exact hJ.inB.2
          · obtain ⟨t, h⟩ := h; exact (hE2 t b h).1.elim (fun h => by omega) id
        have key : ∀ (T : List Tok) (jump : Option Code), (∃ E4, SR (ldR (fun b => ∃ t, E2.S t b) idx (fun i => a.tmps.getD i undef) U.dt (w.heap.size + 1)) W3 ⟨S0, T⟩ E4 a3 W4) → (∀ (t : Nat) (tk : Tok), T[t]? = some tk → tk.row = .junk ∨ tk.deep = true) →
            ∃ (W5 : World) (B' : Nat → Prop), (Instr.endRound (w.heap.size + 1) jump).run P W4 = .ok (.bool jump.isNone) W5 ∧ Frm B W W5 ∧ (∀ b, B' b → (B b ∨ W.heap.size ≤ b) ∧ b < W5.heap.size) ∧
              Bt U w0 E.F S0 a.tmps w.heap.size (w.heap.size + 1) T (.loop (rec (if jump.isNone then .ready else .done) jump)) B' W5 := fun T jump ⟨E4, hs5⟩ hdp => by
          have hrun := run_endRound (P := P) jump hl4
          have hE4 : ∀ t b, E4.S t b → (W.heap.size ≤ b ∨ B b) ∧ b ≠ w.heap.size ∧ b ≠ w.heap.size + 1 ∧ b < W4.heap.size := fun t b hb => by
            have hlt := (hs5.slt t b hb).1
            rcases (hs5.slt t b hb).2.2 with h | ⟨t', h⟩
            · have := hs2.frame.size; have := hf3.size
              exact ⟨.inl (by omega), by omega, by omega, hlt⟩
            · exact ⟨(hE2 t' b h).1, (hE2 t' b h).2.1, (hE2 t' b h).2.2, hlt⟩
          have hBW : ∀ b, B b → b < W.heap.size := hBlt
          refine ⟨_, fun b => (∃ t, E4.S t b) ∨ b = w.heap.size ∨ b = w.heap.size + 1, hrun, hfW4.comp frm_put (fun _ _ h => h) (fun b _ h => by rw [h]; exact hJ.inB.2), fun b hb => ?_, ?_⟩
          · rw [World.putObj_size]
            rcases hb with ⟨t, hb⟩ | rfl | rfl
            · exact ⟨(hE4 t b hb).1.symm, (hE4 t b hb).2.2.2⟩
            · exact ⟨.inl hJ.inB.1, by omega⟩
            · exact ⟨.inl hJ.inB.2, hls4⟩
          · refine ⟨⟨W4, E4, fun i x' hi => ?_, fun t tk ht => (hs5.tokOk t tk ht).noF (hdp t tk ht), fun t b hb => ⟨.inl ⟨t, hb⟩, (hE4 t b hb).2.1, (hE4 t b hb).2.2.1⟩, hs5.sep, fun t b hb => World.putObj_heap_other (hE4 t b hb).2.2.1⟩, ?_, (World.putObj_heap_other (by omega)).trans hd4, ⟨.inr (.inl rfl), .inr (.inr rfl)⟩, by omega, fun b hb => ?_⟩
            · rcases hS i x' hi with rfl | hi'
              · simp only [SRep]
              · have := hs5.slot i x' hi
                rwa [hs5.pin i hi'] at this
            · have : rec (if jump.isNone then .ready else .done) jump = { ({ rec .ready none with state := .busy } : Loop) with state := if jump.isNone then .ready else .done, pending := jump } := by rw [hrec]
              rw [this]; exact World.putObj_heap_same hls4
            · rw [World.putObj_size]
              rcases hb with ⟨t, hb⟩ | rfl | rfl
              · rcases (hE4 t b hb).1 with h | h
                · exact ⟨.inl (Nat.le_trans hs.frame.size (by omega)), fun hF => by have := hs.flt b hF; omega, (hE4 t b hb).2.2.2⟩
                · exact ⟨(hJ.org b h).1, (hJ.org b h).2.1, (hE4 t b hb).2.2.2⟩
              · exact ⟨(hJ.org _ hJ.inB.1).1, (hJ.org _ hJ.inB.1).2.1, by omega⟩
              · exact ⟨(hJ.org _ hJ.inB.2).1, (hJ.org _ hJ.inB.2).2.1, hls4⟩
        have sub5 : ∀ T, sub (clean lv s3) ⟨S0, T⟩ → ∃ E4, SR (ldR (fun b => ∃ t, E2.S t b) idx (fun i => a.tmps.getD i undef) U.dt (w.heap.size + 1)) W3 ⟨S0, T⟩ E4 a3 W4 := fun T h => by
          obtain ⟨E', h'⟩ := le_clean lv E3 a3 W4 hs4
          exact le_sub h E' a3 W4 h'
        cases e with
        | normal =>
          obtain ⟨W5, B', h1, h2, h3, h4⟩ := key (I (k + 1)) none (sub5 _ hq3) (hdeep (k + 1) (by omega))
          exact ⟨_, W5, h1, h2, B', h3, .inl ⟨rfl, by omega, h4⟩⟩
        | ret =>
          obtain ⟨T, q1, q2, q3⟩ := hq3
          obtain ⟨W5, B', h1, h2, h3, h4⟩ := key T (some .ret) (sub5 _ q1) q2
          exact ⟨_, W5, h1, h2, B', h3, .inr ⟨rfl, .ret, T, .inl ⟨rfl, q3⟩, h4⟩⟩
        | exit id =>
          obtain ⟨T, q1, q2, q3⟩ := hq3
          obtain ⟨W5, B', h1, h2, h3, h4⟩ := key T (some (.exit id)) (sub5 _ q1) q2
          exact ⟨_, W5, h1, h2, B', h3, .inr ⟨rfl, .exit id, T, .inr ⟨id, rfl, q3⟩, h4⟩⟩
        | _ => exact hq3.elim
      | _ => exact hq.elim
    · -- behind the iterator
      rintro e W2 ⟨⟨v, rfl⟩, hW2, k, B', hB', h⟩
      obtain ⟨hA, hszW, hfr⟩ := hlater W2 hW2
      have fin : ∀ (T : List Tok) (st : LoopState) (pe : Option Code), st ≠ .busy → Bt U w0 E.F S0 a.tmps w.heap.size (w.heap.size + 1) T (.loop (rec st pe)) B' W2 →
          (Instr.endLoop (w.heap.size + 1)).run P W2 = .ok pe (W2.putObj (w.heap.size + 1) (.loop { rec st pe with state := .exhausted })) ∧
          ∃ E', SR U w0 ⟨S0, T⟩ E' { a with defers := { target := .collected w.heap.size, args := #[] } :: a.defers } (W2.putObj (w.heap.size + 1) (.loop { rec st pe with state := .exhausted })) := fun T st pe hst hb => by
        have hrun := run_endLoop (P := P) hb.rc (by rw [hrec]; exact hst)
        obtain ⟨E', h1, h2⟩ := hb.sr hs hA hfr hszW rfl hnm
        refine ⟨by rw [hrec] at hrun ⊢; exact hrun, E', h1.other frm_put h2 (.inl (Nat.le_trans hs.frame.size (by omega)))⟩
      rcases h with ⟨rfl, _, hb⟩ | ⟨c, T, hc, hb⟩
      · obtain ⟨h1, E', h2⟩ := fin _ _ _ (by simp) hb
        exact ⟨none, _, h1, hK _ _ E' _ _ hend h2⟩
      · obtain ⟨h1, E', h2⟩ := fin _ _ _ (by simp) hb
        rcases hc with ⟨rfl, hq⟩ | ⟨id, rfl, hq⟩
        · exact ⟨some .ret, _, h1, wpIn_ret (hK _ _ E' _ _ hq h2)⟩
        · exact ⟨some (.exit id), _, h1, wpIn_exit (hK _ _ E' _ _ hq h2)⟩

end Go.Proofs.YtkfgmpmeipilnaaDoor.Ax

/-
  An iterator, by the run of its body: stretches without a call of yield by the abstract run; a call of yield by the loop's round. No condition.
-/
namespace Go.Proofs.YtkfgmpmeipilnaaDoor.Ax
open Go Go.RowKit

/-- The call of yield: its value. -/
def yv (l : Nat) : AV := .v (.func (.yield l) #[] #[])

/-- What is lent to an iterator: the memory of the loop that ranges over it may turn while it runs. -/
def ldI (B0 F0 : Nat → Prop) (dt : List (Nat × RD)) : Ld := ⟨B0, [], fun _ => undef, dt, none, F0, true⟩
theorem ldI_dt {B0 F0 : Nat → Prop} {dt : List (Nat × RD)} : (ldI B0 F0 dt).dt = dt := rfl

abbrev JT := Bool × Nat → (Nat → Prop) → World → Prop

/-- While an iterator runs: its own state; what the loop that ranges over it holds. -/
def IR (w : World) (F0 B0 : Nat → Prop) (dt : List (Nat × RD)) (J : JT) (i : Bool × Nat) (st : ASt) (a : Act) (W : World) : Prop :=
  ∃ (E : Env) (B : Nat → Prop), SR (ldI B0 F0 dt) w st E a W ∧ J i B W ∧ ∀ b, B b → (B0 b ∨ w.heap.size ≤ b) ∧ b < W.heap.size ∧ ¬ allB E b

/-- From a state st the code c of an iterator comes to an end and a state of Q. -/
def TY (P : Program) (w : World) (F0 B0 : Nat → Prop) (dt : List (Nat × RD)) (J : JT) (c : Code) (st : ASt) (i : Bool × Nat) (Q : Exit → ASt → Bool × Nat → Prop) : Prop :=
  codeOk dt [] c = true → ∀ (a : Act) (W : World), IR w F0 B0 dt J i st a W → ∀ K : Exit → Act → World → Prop, (∀ e st' i' a' W', Q e st' i' → IR w F0 B0 dt J i' st' a' W' → K e a' W') → c.wpIn (fen none) 0 P K a W

section
variable {P : Program} {C : Ctx} {w : World} {F0 B0 : Nat → Prop} {dt : List (Nat × RD)} {J : JT} {i : Bool × Nat} {st : ASt} {Q : Exit → ASt → Bool × Nat → Prop}

/-- The same, seen from now. -/
theorem IR.now {a : Act} {W : World} (hJ : ∀ i B W W', J i B W → Frm (fun b => ¬ B b) W W' → J i B W') (h : IR w F0 B0 dt J i st a W) : ∃ (X A : Nat → Prop) (E : Env), SR (⟨X, [], fun _ => undef, dt, none, A, true⟩ : Ld) W st E a W ∧
    ∀ st' E' a' W', SR (⟨X, [], fun _ => undef, dt, none, A, true⟩ : Ld) W st' E' a' W' → IR w F0 B0 dt J i st' a' W' := by
  obtain ⟨E, B, hs, hj, hB⟩ := h
  refine ⟨fun b => ∃ t, E.S t b, fun b => ¬ B b ∧ (F0 b ∨ B0 b ∨ w.heap.size ≤ b), E, ⟨⟨fun hr => ?_, fun _ => hs.defers.none rfl, fun b hb => .inl ⟨fun h => (hB b h).2.2 (.inl hb), hs.defers.fz b hb⟩, hs.defers.gl⟩, hs.size, hs.slot, hs.flt, hs.tok, fun t b hb => ⟨(hs.slt t b hb).1, (hs.slt t b hb).2.1, .inr ⟨t, hb⟩⟩, hs.sep, Frm.refl _ _, fun i hi => by simp at hi⟩, fun st' E' a' W' hs' => ?_⟩
  · rw [hs.defers.none rfl]; exact MarksD.nil
  · have hown : ∀ t b, E'.S t b → W.heap.size ≤ b ∨ ∃ t, E.S t b := fun t b hb => (hs'.slt t b hb).2.2
    have hf : Frm (fun b => ¬ B b) W W' := ⟨hs'.frame.os, hs'.frame.tape, hs'.frame.output, hs'.frame.size, fun b hb hn => hs'.frame.block b hb fun ⟨t, ht⟩ => hn fun hBb => (hB b hBb).2.2 (.inr ⟨t, ht⟩)⟩
    refine ⟨E', B, ⟨⟨fun hr => ?_, fun _ => hs'.defers.none rfl, fun b hb => ?_, hs'.defers.gl⟩, hs'.size, hs'.slot, hs'.flt, hs'.tok, fun t b hb => ⟨(hs'.slt t b hb).1, (hs'.slt t b hb).2.1, ?_⟩, hs'.sep, ?_, fun i hi => by simp [ldI] at hi⟩, hJ _ _ _ _ hj hf, fun b hb => ⟨(hB b hb).1, Nat.lt_of_lt_of_le (hB b hb).2.1 hs'.frame.size, ?_⟩⟩
    · rw [hs'.defers.none rfl]; exact MarksD.nil
    · rcases hs'.defers.fz b hb with h | h | h
      · exact h.2
      · obtain ⟨t, h⟩ := h
        exact .inr ((hs.slt t b h).2.2).symm
      · exact .inr (.inr (Nat.le_trans hs.frame.size h))
    · rcases hown t b hb with h | ⟨t', h⟩
      · exact .inl (Nat.le_trans hs.frame.size h)
      · exact (hs.slt t' b h).2.2
    · exact hs.frame.comp hs'.frame (fun _ _ h => h) fun b hb ⟨t, h⟩ => (hs.slt t b h).2.2.elim (fun h => by omega) id
    · rintro (h | ⟨t, h⟩)
      · rcases hs'.defers.fz b h with h | h | h
        · exact h.1 hb
        · obtain ⟨t, h⟩ := h; exact (hB b hb).2.2 (.inr ⟨t, h⟩)
        · have := (hB b hb).2.1; have : W.heap.size ≤ b := h; omega
      · rcases hown t b h with h | ⟨t', h⟩
        · have := (hB b hb).2.1; omega
        · exact (hB b hb).2.2 (.inr ⟨t', h⟩)

theorem TY.weak {c : Code} {Q' : Exit → ASt → Bool × Nat → Prop} (h : TY P w F0 B0 dt J c st i Q) (hq : ∀ e s i, Q e s i → Q' e s i) : TY P w F0 B0 dt J c st i Q' :=
  fun hc a W hs K hK => h hc a W hs K fun e s i' a' W' q => hK e s i' a' W' (hq e s i' q)

/-- A stretch without yield. -/
theorem ty_awp (hC : C.Ok P) (hm : P.follows .mixedOrders = true) (hJ : ∀ i B W W', J i B W → Frm (fun b => ¬ B b) W W' → J i B W') {live : List Bool} {c : Code} (h : ∀ X A w1, awp P C live (⟨X, [], fun _ => undef, dt, none, A, true⟩ : Ld) w1 c st (fun e s => Q e s i)) : TY P w F0 B0 dt J c st i Q := by
  intro hc a W hs K hK
  obtain ⟨X, A, E, h1, h2⟩ := hs.now hJ
  exact tr_awp hC hm c _ _ (h X A W) hc E a W h1 K fun e s E' a' W' q hs' => hK e s i a' W' q (h2 s E' a' W' hs')

def thenY (N : ASt → Bool × Nat → Prop) (Q : Exit → ASt → Bool × Nat → Prop) : Exit → ASt → Bool × Nat → Prop
  | .normal, s, i => N s i
  | e, s, i => Q e s i

theorem ty_seq {x y : Code} (h : TY P w F0 B0 dt J x st i (thenY (fun s i => TY P w F0 B0 dt J y s i Q) Q)) : TY P w F0 B0 dt J (.seq x y) st i Q := by
  intro hc a W hs K hK
  simp only [codeOk, Bool.and_eq_true] at hc
  refine wpIn_seq (h hc.1 a W hs _ fun e s i' a' W' hq hs' => ?_)
  cases e with
  | normal => exact hq hc.2 a' W' hs' K hK
  | _ => exact hK _ _ _ a' W' hq hs'

theorem ty_cond {c : Operand} {x y : Code} {t : Bool} (he : ev st.slots c = .v (.bool t)) (hx : t = true → TY P w F0 B0 dt J x st i Q) (hy : t = false → TY P w F0 B0 dt J y st i Q) : TY P w F0 B0 dt J (.cond c x y) st i Q := by
  intro hc a W hs K hK
  simp only [codeOk, Bool.and_eq_true] at hc
  obtain ⟨E, B, h1, _⟩ := id hs
  have := SRep_v (h1.ev c) he
  exact wpIn_cond_split this (fun ht => hx ht hc.1 a W hs K hK) (fun ht => hy ht hc.2 a W hs K hK)

def inBlockY (id : Nat) (Q : Exit → ASt → Bool × Nat → Prop) : Exit → ASt → Bool × Nat → Prop
  | .exit id', s, i => if id' = id then Q .normal s i else Q (.exit id') s i
  | e, s, i => Q e s i

theorem ty_block {id : Nat} {c : Code} (h : TY P w F0 B0 dt J c st i (inBlockY id Q)) : TY P w F0 B0 dt J (.block id c) st i Q := by
  intro hc a W hs K hK
  simp only [codeOk] at hc
  refine wpIn_block (h hc a W hs _ fun e s i' a' W' hq hs' => ?_)
  cases e with
  | exit id' =>
    simp only [inBlockY, Exit.inBlock] at hq ⊢
    split
    · rename_i h; rw [if_pos h] at hq; exact hK _ _ _ a' W' hq hs'
    · rename_i h; rw [if_neg h] at hq; exact hK _ _ _ a' W' hq hs'
  | _ => exact hK _ _ _ a' W' hq hs'

theorem IR.le {st' : ASt} {a : Act} {W : World} (hF : ∀ (U : Ld) (w0 : World) E a w, SR U w0 st E a w → ∃ E', SR U w0 st' E' a w ∧ ∀ b, allB E' b → allB E b) (h : IR w F0 B0 dt J i st a W) : IR w F0 B0 dt J i st' a W := by
  obtain ⟨E, B, h1, h2, h3⟩ := h
  obtain ⟨E', h4, h5⟩ := hF _ _ E a W h1
  exact ⟨E', B, h4, h2, fun b hb => ⟨(h3 b hb).1, (h3 b hb).2.1, fun h => (h3 b hb).2.2 (h5 b h)⟩⟩

/-- Behind a round: the next state of the family. -/
def NxtY {α : Type} (I : α → ASt) (N : α → Bool × Nat) (μ : α → Nat) (x : α) (s : ASt) (i : Bool × Nat) : Prop := ∃ y, sub s (I y) ∧ i = N y ∧ μ y < μ x

/-- A loop. -/
theorem ty_loop {c : Code} {α : Type} (I : α → ASt) (N : α → Bool × Nat) (μ : α → Nat) (x0 : α) (h0 : sub st (I x0) ∧ i = N x0)
    (hstep : ∀ x, TY P w F0 B0 dt J c (I x) (N x) (thenY (NxtY I N μ x) Q)) : TY P w F0 B0 dt J (.loop c) st i Q := by
  have hsub : ∀ {s s' : ASt} {i : Bool × Nat} {a : Act} {W : World}, sub s s' → IR w F0 B0 dt J i s a W → IR w F0 B0 dt J i s' a W := fun {s s' i a W} hb h => by
    refine IR.le (fun U w0 E a w hs => ?_) h
    obtain ⟨h1, h2⟩ := hb
    obtain ⟨g1, g2⟩ := slotsLe_get h2
    refine ⟨E, ⟨hs.defers, by rw [g1]; exact hs.size, fun i x hi => ?_, hs.flt, by rw [h1]; exact hs.tok, hs.slt, hs.sep, hs.frame, hs.pin⟩, fun _ h => h⟩
    rw [h1]
    rcases g2 i x hi with rfl | hx
    · simp [SRep]
    · exact hs.slot i x hx
  intro hc a W hs K hK
  simp only [codeOk] at hc
  have key : ∀ (n : Nat) (x : α), μ x < n → ∀ (a : Act) (W : World), IR w F0 B0 dt J (N x) (I x) a W → Code.roundsIn (fen none) 0 P c K n a W := by
    intro n
    induction n with
    | zero => intro x h; omega
    | succ n ih =>
      intro x hx a W hs
      simp only [Code.roundsIn]
      refine hstep x hc a W hs _ fun e s i' a' W' hq hs' => ?_
      cases e with
      | normal =>
        obtain ⟨y, hsy, rfl, hy⟩ := hq
        exact ih y (by omega) a' W' (hsub hsy hs')
      | _ => exact hK _ _ _ a' W' hq hs'
  obtain ⟨h1, rfl⟩ := h0
  exact wpIn_loop_rounds (μ x0 + 1) (key _ x0 (Nat.lt_succ_self _) a W (hsub h1 hs))

theorem rrun_okR (hC : C.Ok P) {U : Ld} {w0 : World} {ops : Array Oper} (hds : ∀ (j : Nat) (oj : Oper), ops[j]? = some oj → ∀ e, oj.dst = some e → e ∉ U.idx) {Q : Exit → Act → World → Prop} (ro : Option Nat) {fin : ASt} {rest : List Nat} (hQ : ∀ E' a' w', SR U w0 fin E' a' w' → wpOpsIn (fen ro) 0 P ops Q rest a' w') : ∀ (l : List Oper) (k : Nat) (st : ASt) (E : Env) (a : Act) (w : World), (∀ j, j < l.length → l[j]? = ops[k + j]?) →
    SR U w0 st E a w → rrun C ops.toList l st = some fin → wpOpsIn (fen ro) 0 P ops Q (List.range' k l.length ++ rest) a w
  | [], _, st, E, a, w, _, hs, h => by
    simp only [rrun, Option.some.injEq] at h
    subst h
    simpa using hQ E a w hs
  | o :: l, k, st, E, a, w, hl, hs, h => by
    simp only [rrun] at h
    split at h
    · rename_i st' hst
      have hi : ops[k]? = some o := by have := hl 0 (by simp); simp at this; exact this.symm
      simp only [List.length_cons, List.range'_succ, List.cons_append]
      rw [wpOpsIn_cons]
      refine rstep_ok hC hi (hds k o hi) hs hst ro fun E' a' w' hs' => ?_
      exact rrun_okR hC hds ro hQ l (k + 1) st' E' a' w' (fun j hj => by have := hl (j + 1) (by simpa using hj); simp at this; rw [this]; congr 1; omega) hs' h
    · simp at h

/-- The call of yield at a region's end. -/
theorem ty_yield (hC : C.Ok P) (hJ : ∀ i B W W', J i B W → Frm (fun b => ¬ B b) W W' → J i B W') {l : Nat} {xs : List AV}
    (hyield : ∀ k x y B Fi W, J (true, k) B W → xs[k]? = some x → Rep W Fi x y → (∀ b, Fi b → b < W.heap.size ∧ ¬ B b) → (∀ b, B b → b < W.heap.size) → Frm B0 w W →
      YieldAt (fen none) 0 P l #[y] W fun e W' => Frm B W W' ∧ ∃ B' : Nat → Prop, (∀ b, B' b → (B b ∨ W.heap.size ≤ b) ∧ b < W'.heap.size) ∧
        ((e = .returned (.bool true) ∧ J (true, k + 1) B' W') ∨ (e = .returned (.bool false) ∧ J (false, k + 1) B' W')))
    {id : Nat} {ops : Array Oper} {pre : List Oper} {oy : Oper} {d : Nat} {f arg : Operand} {ts : Array TypeId} (hops : ops.toList = pre ++ [oy]) (hop : oy.op = .call ⟨.value f, #[arg], ts⟩) (hg : oy.guard = none) (hd : oy.dst = some d)
    {slots : List AV} {toks : List Tok} (hpre : rrun C ops.toList pre st = some ⟨slots, toks⟩) (hf : ev slots f = yv l) {k : Nat} {x : AV} (hx : res toks (ev slots arg) = x) (hxs : xs[k]? = some x)
    (ht : Q .normal ⟨slots.set d (.v (.bool true)), toks⟩ (true, k + 1)) (hfalse : Q .normal ⟨slots.set d (.v (.bool false)), toks⟩ (false, k + 1)) : TY P w F0 B0 dt J (.region id ops false) st (true, k) Q := by
  intro hc a W hs K hK
  have hlen : ops.toList.length = pre.length + 1 := by rw [hops]; simp
  have hlen' : ops.size = pre.length + 1 := by rw [← hlen]; simp
  have hget : ∀ j : Nat, ops[j]? = (pre ++ [oy])[j]? := fun j => by rw [← hops]; simp
  obtain ⟨X, A, E, h1, h2⟩ := hs.now hJ
  refine wpIn_region ?_
  rw [List.range_eq_range', hlen', show List.range' 0 (pre.length + 1) = List.range' 0 pre.length ++ [pre.length] by rw [List.range'_concat]; simp]
  refine rrun_okR (U := (⟨X, [], fun _ => undef, dt, none, A, true⟩ : Ld)) hC (fun _ _ _ _ _ => by simp) none (fun E' a' W' hs' => ?_) pre 0 st E a W (fun j hj => by rw [Nat.zero_add, hget, List.getElem?_append_left hj]) h1 hpre
  obtain ⟨E1, B, hs1, hj1, hB1⟩ := h2 _ _ _ _ hs'
  rw [wpOpsIn_cons]
  have hi : ops[pre.length]? = some oy := by rw [hget]; simp
  unfold wpOpIn
  simp only [hi]
  have hw : Region.wanted oy (yielded ops a'.tmps) = true := by simp [Region.wanted, hg]
  rw [if_pos hw]
  have hfv := hs1.ev f
  simp only at hfv
  rw [hf] at hfv
  simp only [yv, SRep] at hfv
  have hav := SRep.res hs1.tokOk _ _ (hs1.ev arg)
  simp only at hav
  rw [hx] at hav
  have hY := hyield k x (a'.eval arg) B (allB E1) W' hj1 hxs hav (fun b hb => ⟨hs1.allLt b hb, fun h => (hB1 b h).2.2 hb⟩) (fun b hb => (hB1 b hb).2.1) hs1.frame
  obtain ⟨fn, tmps, assign, body, hrun, hround⟩ := hY
  have hexec : (execOp a'.eval oy).run P W' = .ok (.round l fn tmps assign body) W' := by
    simp [execOp, hop, resolve, hfv.1, Deferred.ofValue, invoke, hrun]
  refine ⟨fun _ _ => trivial, ?_⟩
  have hsem : (oy.semAt (fen none).round a'.eval).run P W' = .ok (.round l fn tmps assign body) W' := by
    rw [Oper.semAt_eq]
    · exact hexec
    · intro c hcc; rw [hop] at hcc; simp at hcc
  rw [hsem, Oper.uponIn_round]
  refine ⟨fun hd => by simp [fen, Fence.wide] at hd, ?_⟩
  refine hround.mono fun e W2 he => ?_
  obtain ⟨hfr, B', hB', he⟩ := he
  have hsr := hs1.rest hfr fun b hb => ⟨(hB1 b hb).2.2, (hB1 b hb).1.symm⟩
  have hB2 : ∀ b, B' b → (B0 b ∨ w.heap.size ≤ b) ∧ b < W2.heap.size ∧ ¬ allB E1 b := fun b hb => by
    refine ⟨?_, (hB' b hb).2, ?_⟩
    · rcases (hB' b hb).1 with h | h
      · exact (hB1 b h).1
      · exact .inr (Nat.le_trans hs1.frame.size h)
    · rcases (hB' b hb).1 with h | h
      · exact (hB1 b h).2.2
      · intro h'; have := hs1.allLt b h'; omega
  rcases he with ⟨rfl, hj⟩ | ⟨rfl, hj⟩
  · simp only [wpOpsIn]
    refine hK _ _ _ _ _ ht ⟨E1, B', ?_, hj, hB2⟩
    have := SR.put (slots := slots) (toks := toks) hsr oy.dst (fun _ _ => by simp [ldI]) (x := .v (.bool true)) (y := .bool true) (by simp [SRep, Value.oneCell'])
    rw [hd] at this ⊢
    exact this
  · simp only [wpOpsIn]
    refine hK _ _ _ _ _ hfalse ⟨E1, B', ?_, hj, hB2⟩
    have := SR.put (slots := slots) (toks := toks) hsr oy.dst (fun _ _ => by simp [ldI]) (x := .v (.bool false)) (y := .bool false) (by simp [SRep, Value.oneCell'])
    rw [hd] at this ⊢
    exact this

/-- The contract of an iterator, by the run of its body. -/
theorem iterOk_of_ty {gf : Nat} {fn : Func} {c : Code} {caps xs : List AV} {dt : List (Nat × RD)} (hf : P.funcs[gf]? = some fn) (hb : fn.body = some c) (hname : (fn.name == "runtime.NumGoroutine") = false) (hres : fn.results = #[]) (hck : codeOk dt [] c = true)
    (h : ∀ (w : World) (F0 B0 : Nat → Prop) (l : Nat) (J : JT), (∀ i B W W', J i B W → Frm (fun b => ¬ B b) W W' → J i B W') →
      (∀ k x y B Fi W, J (true, k) B W → xs[k]? = some x → Rep W Fi x y → (∀ b, Fi b → b < W.heap.size ∧ ¬ B b) → (∀ b, B b → b < W.heap.size) → Frm B0 w W →
      YieldAt (fen none) 0 P l #[y] W fun e W' => Frm B W W' ∧ ∃ B' : Nat → Prop, (∀ b, B' b → (B b ∨ W.heap.size ≤ b) ∧ b < W'.heap.size) ∧
        ((e = .returned (.bool true) ∧ J (true, k + 1) B' W') ∨ (e = .returned (.bool false) ∧ J (false, k + 1) B' W'))) →
      TY P w F0 B0 dt J c ⟨(yv l :: caps) ++ List.replicate (fn.ntmps - (caps.length + 1)) .junk, []⟩ (true, 0) (fun e _ i => (e = .normal ∨ e = .ret) ∧ (i = (true, xs.length) ∨ i.1 = false))) : IterOk P gf caps xs := by
  refine ⟨⟨fn, hf, hname, by rw [hb]; rfl⟩, fun w F0 B0 lb hF hB0 hlb l J Jx hJ hJx hyield h0 => ?_⟩
  let JJ : JT := fun i => if i.1 then J i.2 else Jx i.2
  have hJJ : ∀ i B W W', JJ i B W → Frm (fun b => ¬ B b) W W' → JJ i B W' := fun i B W W' hj hf => by
    obtain ⟨t, k⟩ := i
    cases t with
    | true => exact hJ k B W W' hj hf
    | false => exact hJx k B W W' hj hf
  refine callsIn_of_wp_marks hf hb trivial ?_
  have hlen : lb.size = caps.length := by simpa using hlb.length
  let E : Env := { F := F0, hd := fun _ => undef, S := fun _ _ => False }
  have hs : SR (ldI B0 F0 dt) w ⟨(yv l :: caps) ++ List.replicate (fn.ntmps - (caps.length + 1)) .junk, []⟩ E { tmps := (#[Value.func (.yield l) #[] #[]] ++ lb) ++ Array.replicate (fn.ntmps - (#[Value.func (.yield l) #[] #[]] ++ lb).size) undef, defers := [] } w := by
    refine ⟨Marks.nil hF.gl (fun _ h => .inl h), by simp [hlen]; omega, fun i x hi => ?_, hF.lt, fun t tk ht => by simp at ht, fun t b hb => hb.elim, fun t t' b _ hb => hb.elim, Frm.refl _ _, fun i hi => by simp [ldI] at hi⟩
    have hrep : RepL w F0 (yv l :: caps) (#[Value.func (.yield l) #[] #[]] ++ lb).toList := by
      simp only [RepL]
      exact ⟨Value.func (.yield l) #[] #[], lb.toList, by simp, by simp [yv, Rep, Value.oneCell'], hlb⟩
    by_cases hlt : i < (yv l :: caps).length
    · rw [List.getElem?_append_left hlt] at hi
      obtain ⟨y, h1, h2⟩ := RepL_srep (E := E) rfl hrep i x hi
      have h1' : (#[Value.func (.yield l) #[] #[]] ++ lb)[i]? = some y := by rw [← Array.getElem?_toList]; exact h1
      have hsz : i < (#[Value.func (.yield l) #[] #[]] ++ lb).size := by
        simp only [List.length_cons] at hlt
        simp [hlen]; omega
      have : ((#[Value.func (.yield l) #[] #[]] ++ lb) ++ Array.replicate (fn.ntmps - (#[Value.func (.yield l) #[] #[]] ++ lb).size) undef).getD i undef = y := by
        rw [Array.getD_eq_getD_getElem?, Array.getElem?_append_left hsz, h1']; rfl
      rw [this]; exact h2
    · rw [List.getElem?_append_right (by omega)] at hi
      have := List.mem_of_getElem? hi
      rw [List.mem_replicate] at this
      rw [this.2]; simp [SRep]
  have hty := h w F0 B0 l JJ hJJ (fun k x y B Fi W hj => hyield k x y B Fi W hj)
  have hfen : fen none = Fence.wide := rfl
  refine hty hck _ w ⟨E, B0, hs, h0, fun b hb => ⟨.inl hb, (hB0 b hb).1, fun h => h.elim (hB0 b hb).2 fun ⟨_, h⟩ => h⟩⟩ _ fun e st' i' a' W' hq hs' => ?_
  obtain ⟨E', B', hsr, hj, hB'⟩ := hs'
  have hpost : LeavesInM (fen none) 0 P fn a'.tmps (fun e W' => (∃ v, e = .returned v) ∧ Frm B0 w W' ∧
      ∃ (k : Nat) (B' : Nat → Prop), (∀ b, B' b → (B0 b ∨ w.heap.size ≤ b) ∧ b < W'.heap.size) ∧ ((k = xs.length ∧ J k B' W') ∨ Jx k B' W')) a'.defers .returning W' := by
    rw [hsr.defers.none rfl]
    refine ⟨.tuple #[], ?_, ⟨_, rfl⟩, hsr.frame, i'.2, B', fun b hb => ⟨(hB' b hb).1, (hB' b hb).2.1⟩, ?_⟩
    · rw [results_eq, hres]
      simp
    · rcases hq.2 with rfl | hf'
      · exact .inl ⟨rfl, hj⟩
      · refine .inr ?_
        have : JJ i' B' W' := hj
        simpa [JJ, hf'] using this
  rcases hq.1 with rfl | rfl
  · exact hpost
  · exact hpost

mutual
/-- What leads into rows of L is only read from now on. -/
def frzA (L : List Nat) (toks : List Tok) : AV → AV
  | .ref t p lo n => if L.contains t then res toks (.ref t p lo n) else .ref t p lo n
  | .ptr t p i j => if L.contains t then res toks (.ptr t p i j) else .ptr t p i j
  | .agg cs => .agg (frzAL L toks cs)
  | .tup cs => .tup (frzAL L toks cs)
  | .fn f cs => .fn f (frzAL L toks cs)
  | .v x => .v x
  | .sl nl sz es => .sl nl sz es
  | .fp e j => .fp e j
  | .junk => .junk
def frzAL (L : List Nat) (toks : List Tok) : List AV → List AV
  | [] => []
  | c :: cs => frzA L toks c :: frzAL L toks cs
end

def freeze (L : List Nat) (st : ASt) : ASt := ⟨frzAL L st.toks st.slots, sets (L.map fun t => (t, ⟨true, .junk⟩)) st.toks⟩

theorem frzAL_get {L : List Nat} {toks : List Tok} : ∀ {cs : List AV} {i : Nat}, (frzAL L toks cs)[i]? = (cs[i]?).map (frzA L toks)
  | [], _ => by simp [frzAL]
  | c :: cs, 0 => by simp [frzAL]
  | c :: cs, i + 1 => by simp only [frzAL, List.getElem?_cons_succ]; exact frzAL_get
theorem frzAL_len {L : List Nat} {toks : List Tok} : ∀ {cs : List AV}, (frzAL L toks cs).length = cs.length
  | [] => rfl
  | c :: cs => by simp [frzAL, frzAL_len (cs := cs)]

mutual
theorem SRep.freeze {w : World} {E : Env} {toks : List Tok} {L : List Nat} {E' : Env} {toks' : List Tok} (hT : ∀ t tk, toks[t]? = some tk → TokOk w E t tk) (hF : ∀ b, E.F b → E'.F b) (hS : ∀ t ∈ L, ∀ b, E.S t b → E'.F b) (hhd : E'.hd = E.hd) (hl : toks'.length = toks.length) (ht : ∀ t, t ∉ L → toks'[t]? = toks[t]?) :
    ∀ (x : AV) (y : Value), SRep w E toks x y → SRep w E' toks' (frzA L toks x) y
  | .v _, _, k => by simp only [SRep, frzA] at k ⊢; exact k
  | .agg cs, y, k => by simp only [SRep, frzA] at k ⊢; obtain ⟨ys, rfl, k⟩ := k; exact ⟨ys, rfl, SRepL.freeze hT hF hS hhd hl ht cs _ k⟩
  | .tup cs, y, k => by simp only [SRep, frzA] at k ⊢; obtain ⟨ys, rfl, k⟩ := k; exact ⟨ys, rfl, SRepL.freeze hT hF hS hhd hl ht cs _ k⟩
  | .fn f cs, y, k => by simp only [SRep, frzA] at k ⊢; obtain ⟨ys, rfl, k⟩ := k; exact ⟨ys, rfl, SRepL.freeze hT hF hS hhd hl ht cs _ k⟩
  | .sl nl sz es, y, k => by simp only [SRep, frzA] at k ⊢; exact k.weak hF (Agree.refl _ _)
  | .fp e j, y, k => by simp only [SRep, frzA] at k ⊢; exact k.weak hF (Agree.refl _ _)
  | .ref t p lo n, y, k => by
    simp only [frzA]
    by_cases hc : t ∈ L
    · rw [if_pos (by simpa using hc)]
      exact SRep.of_rep _ _ (SRep.resS hF hT _ _ (fun t' ht' => by simp [refs] at ht'; subst ht'; exact hS t' hc) k)
    · rw [if_neg (by simpa using hc)]
      simp only [SRep] at k ⊢
      refine ⟨by rw [hl]; exact k.1, fun tk nl sz es h1 h2 h3 => ?_⟩
      rw [ht t hc] at h1
      rw [hhd]
      exact k.2 tk nl sz es h1 h2 h3
  | .ptr t p i j, y, k => by
    simp only [frzA]
    by_cases hc : t ∈ L
    · rw [if_pos (by simpa using hc)]
      exact SRep.of_rep _ _ (SRep.resS hF hT _ _ (fun t' ht' => by simp [refs] at ht'; subst ht'; exact hS t' hc) k)
    · rw [if_neg (by simpa using hc)]
      simp only [SRep] at k ⊢
      refine ⟨by rw [hl]; exact k.1, fun tk nl sz es h1 h2 h3 => ?_⟩
      rw [ht t hc] at h1
      rw [hhd]
      exact k.2 tk nl sz es h1 h2 h3
  | .junk, _, _ => by simp [SRep, frzA]
theorem SRepL.freeze {w : World} {E : Env} {toks : List Tok} {L : List Nat} {E' : Env} {toks' : List Tok} (hT : ∀ t tk, toks[t]? = some tk → TokOk w E t tk) (hF : ∀ b, E.F b → E'.F b) (hS : ∀ t ∈ L, ∀ b, E.S t b → E'.F b) (hhd : E'.hd = E.hd) (hl : toks'.length = toks.length) (ht : ∀ t, t ∉ L → toks'[t]? = toks[t]?) :
    ∀ (x : List AV) (y : List Value), SRepL w E toks x y → SRepL w E' toks' (frzAL L toks x) y
  | [], _, k => by simpa [SRepL, frzAL] using k
  | c :: cs, y, k => by
    simp only [SRepL, frzAL] at k ⊢
    obtain ⟨y, ys, rfl, k1, k2⟩ := k
    exact ⟨y, ys, rfl, SRep.freeze hT hF hS hhd hl ht c y k1, SRepL.freeze hT hF hS hhd hl ht cs ys k2⟩
end

theorem sets_junk_get {L : List Nat} {toks : List Tok} {t : Nat} (h : t ∈ L) : ∀ tk, (sets (L.map fun t => (t, (⟨true, .junk⟩ : Tok))) toks)[t]? = some tk → tk.row = .junk := by
  induction L generalizing toks with
  | nil => simp at h
  | cons x L ih =>
    intro tk htk
    simp only [List.map_cons, sets] at htk
    by_cases hx : t ∈ L
    · exact ih hx tk htk
    · rw [sets_get (fun k hk => by obtain ⟨y, hy, rfl⟩ := List.mem_map.1 hk; exact fun e => hx (e ▸ hy))] at htk
      have hxt : x = t := by rcases List.mem_cons.1 h with h | h; exact h.symm; exact (hx h).elim
      subst hxt
      rw [List.getElem?_set] at htk
      simp only [if_true] at htk
      split at htk
      · simp at htk; rw [← htk]
      · simp at htk

/-- Rows may be made such that are only read from now on. -/
theorem le_freeze {U : Ld} {w0 : World} {st : ASt} (L : List Nat) : Le U w0 st (freeze L st) := by
  intro E a w hs
  have hne : ∀ t, t ∉ L → (sets (L.map fun t => (t, (⟨true, .junk⟩ : Tok))) st.toks)[t]? = st.toks[t]? := fun t ht => sets_get fun k hk => by
    obtain ⟨y, hy, rfl⟩ := List.mem_map.1 hk; exact fun e => ht (e ▸ hy)
  let E' : Env := { F := fun b => E.F b ∨ ∃ t ∈ L, E.S t b, hd := E.hd, S := fun t b => t ∉ L ∧ E.S t b }
  refine ⟨E', ⟨fun hr => (hs.defers.marks hr).mono (fun _ h => .inl h) (Agree.refl _ _), hs.defers.none, fun b hb => ?_, hs.defers.gl.mono fun _ h => .inl h⟩, by simpa [freeze, frzAL_len] using hs.size, fun i x hi => ?_, fun b hb => ?_, fun t tk ht => ?_, fun t b hb => ⟨(hs.slt t b hb.2).1, ?_, (hs.slt t b hb.2).2.2⟩, fun t t' b hne hb hb' => hs.sep t t' b hne hb.2 hb'.2, hs.frame, hs.pin⟩
  · rcases hb with hb | ⟨t, _, hb⟩
    · exact hs.defers.fz b hb
    · exact .inr (hs.slt t b hb).2.2.symm
  · simp only [freeze] at hi ⊢
    rw [frzAL_get, Option.map_eq_some_iff] at hi
    obtain ⟨x0, h1, rfl⟩ := hi
    exact SRep.freeze (E' := E') hs.tokOk (fun _ h => .inl h) (fun t ht b hb => .inr ⟨t, ht, hb⟩) rfl (sets_len) hne x0 _ (hs.slot i x0 h1)
  · rcases hb with hb | ⟨t, _, hb⟩
    · exact hs.flt b hb
    · exact (hs.slt t b hb).1
  · by_cases hc : t ∈ L
    · exact .inl (sets_junk_get hc tk ht)
    · have ht' : st.toks[t]? = some tk := by rw [← hne t hc]; exact ht
      exact (hs.tokOk t tk ht').weak (E' := E') (Agree.refl _ _) (fun _ h => .inl h) rfl (fun b hb => ⟨hc, hb⟩)
  · rintro (h | ⟨t', ht', h⟩)
    · exact (hs.slt t b hb.2).2.1 h
    · exact hs.sep t t' b (fun e => hb.1 (e ▸ ht')) hb.2 h

def isJ : AV → Bool
  | .junk => true
  | _ => false
/-- Every slot that is known is among idx. -/
def chkS : List AV → List Nat → Nat → Bool
  | [], _, _ => true
  | x :: l, idx, i => (isJ x || idx.contains i) && chkS l idx (i + 1)
theorem chkS_ok {idx : List Nat} : ∀ {l : List AV} {o : Nat}, chkS l idx o = true → ∀ (i : Nat) (x : AV), l[i]? = some x → x = .junk ∨ o + i ∈ idx
  | [], _, _, i, x, h => by simp at h
  | y :: l, o, hc, i, x, h => by
    simp only [chkS, Bool.and_eq_true, Bool.or_eq_true] at hc
    cases i with
    | zero =>
      simp at h; subst h
      rcases hc.1 with h | h
      · left; cases y <;> first | rfl | simp [isJ] at h
      · right; simpa using h
    | succ i =>
      have := chkS_ok hc.2 i x (by simpa using h)
      rwa [show o + 1 + i = o + (i + 1) by omega] at this
theorem chkS_all {idx : List Nat} {l : List AV} (h : chkS l idx 0 = true) (i : Nat) (x : AV) (hi : l[i]? = some x) : x = .junk ∨ i ∈ idx := by
  have := chkS_ok h i x hi
  rwa [Nat.zero_add] at this
theorem asgF_normal {P : Program} {C : Ctx} {live lv : List Bool} {idx : List Nat} {pin : Nat → Value} {dt : List (Nat × RD)} {l : Nat} {body : Code} {S0 : List AV} {I : Nat → List Tok} {k : Nat} {Q : Exit → ASt → Prop} {s : ASt} :
    asgF P C live lv idx pin dt l body S0 I k Q .normal s = ∀ US w1, awp P C live (ldR US idx pin dt l) w1 body s (rngF lv S0 I k Q) := rfl
theorem rngF_normal {lv : List Bool} {S0 : List AV} {I : Nat → List Tok} {k : Nat} {Q : Exit → ASt → Prop} {s : ASt} : rngF lv S0 I k Q .normal s = sub (clean lv s) ⟨S0, I (k + 1)⟩ := rfl

end
end Go.Proofs.YtkfgmpmeipilnaaDoor.Ax
