/-
  From the run of a body to the contract of a function that changes one of its arguments. No condition.
-/
import Derived.Test.YtpjejdebdhgngaaCK3
namespace Go.Proofs.Ytpjejdebdhgngaa.Ax
open Go Go.RowKit

/-- What the body hands back, and the row that it was lent. -/
def resM (C : Ctx) (s : ASt) (rs : List ResultVar) (pos : Nat) : Option (AV × AV) :=
  match resVars C s rs, s.slots.getD pos .junk with
  | some q, .ref t [] 0 n => (match s.toks[t]? with
    | some tk => (match tk.row with
      | .sl nl sz es => if tk.deep = true ∧ n = es.length ∧ q.2 = [] then some (pack q.1, .sl nl sz es) else none
      | _ => none)
    | none => none)
  | _, _ => none

def doneM (C : Ctx) (rs : List ResultVar) (pos : Nat) (r row' : AV) : Exit → ASt → Prop := fun e s => (e = .normal ∨ e = .ret) ∧ resM C s rs pos = some (r, row')
theorem doneM_normal {C : Ctx} {rs : List ResultVar} {pos : Nat} {r row' : AV} {s : ASt} : doneM C rs pos r row' .normal s = (resM C s rs pos = some (r, row')) := by simp [doneM]
theorem doneM_ret {C : Ctx} {rs : List ResultVar} {pos : Nat} {r row' : AV} {s : ASt} : doneM C rs pos r row' .ret s = (resM C s rs pos = some (r, row')) := by simp [doneM]

theorem Excl.deepF {w : World} {F F' S : Nat → Prop} {nl : Bool} {sz : Nat} {es : List AV} {y : Value} (h : Excl w true F S nl sz es y) : Excl w true F' S nl sz es y := Excl.of_own (Own.deepF _ _ h.own)

theorem ref_whole {w : World} {E : Env} {toks : List Tok} {t n : Nat} {tk : Tok} {nl : Bool} {sz : Nat} {es : List AV} {y : Value} (h : RefOk w E toks t [] 0 n y) (htk : toks[t]? = some tk) (hrow : tk.row = .sl nl sz es) (hn : n = es.length)
    {d : Bool} {F S : Nat → Prop} (hex : Excl w d F S nl sz es (E.hd t)) : y = E.hd t := by
  subst hn
  obtain ⟨hv, g1, g2⟩ := h.2 tk nl sz es htk (by simp [getAt, hrow]) (by omega)
  simp only [follow, Option.some.injEq] at g1
  rw [g1]
  obtain ⟨a1, l, c, hhd, hl, _⟩ := hex
  rw [g1] at hhd
  rcases g2 with ⟨q1, q2⟩ | ⟨_, q2, _⟩ | ⟨b, o, hl', hc, o', q1, q2, q3⟩
  · rw [q1, q2]
  · exact q2
  · rw [q1] at hhd ⊢
    simp only [Value.slice.injEq] at hhd
    rw [q2]
    have : o' = o + 0 * sz := q3.resolve_right (fun h => h.2.1 rfl)
    rw [this]; simp
    omega

section
variable {P : Program} {C : Ctx}

theorem mutOk_awp (hC : C.Ok P) (hm : P.follows .mixedOrders = true) {live : List Bool} {dt : List (Nat × RD)} {f : FuncId} {fn : Func} {c : Code} {args : List AV} {pos : Nat} {nl : Bool} {sz : Nat} {es es' : List AV} {r : AV} (hpos : args[pos]? = some (.sl nl sz es))
    (hf : P.funcs[f]? = some fn) (hb : fn.body = some c) (hname : (fn.name == "runtime.NumGoroutine") = false) (hck : codeOk dt [pos] c = true)
    (h : ∀ (US : Nat → Prop) (Uv : Value) (w0 : World), lens (.sl nl sz es) → awp P C live (mkLd US [pos] Uv dt) w0 c ⟨args.set pos (.ref 0 [] 0 es.length) ++ List.replicate (fn.ntmps - args.length) .junk, [⟨true, .sl nl sz es⟩]⟩ (doneM C fn.results.toList pos r (.sl nl sz es'))) : MutOk P f args pos r (.sl nl sz es') := by
  refine ⟨⟨fn, hf, hname, by rw [hb]; rfl⟩, nl, sz, es, es', hpos, rfl, fun w F S vals hd hF hS hlen hargs hvp hex => ?_⟩
  have hpl : pos < args.length := (List.getElem?_eq_some_iff.1 hpos).1
  refine (callsIn_wide (n := 0)).1 (callsIn_of_wp_marks hf hb trivial ?_)
  let E : Env := { F := F, hd := fun _ => hd, S := fun t b => t = 0 ∧ S b }
  let U : Ld := mkLd S [pos] hd dt
  have hgetv : ∀ i, i < args.length → (vals ++ Array.replicate (fn.ntmps - vals.size) undef).getD i undef = vals.getD i undef := fun i hi => by
    rw [Array.getD_eq_getD_getElem?, Array.getElem?_append_left (by omega), Array.getD_eq_getD_getElem?]
  have hlens : lens (.sl nl sz es) := Rep.lens _ _ (Own.rep _ _ hex.own)
  have hs : SR U w ⟨args.set pos (.ref 0 [] 0 es.length) ++ List.replicate (fn.ntmps - args.length) .junk, [⟨true, .sl nl sz es⟩]⟩ E { tmps := vals ++ Array.replicate (fn.ntmps - vals.size) undef, defers := [] } w := by
    refine ⟨Marks.nil hF.gl (fun _ _ => .inl trivial), by simp [hlen], fun i x hi => ?_, hF.lt, fun t tk ht => ?_, fun t b hb => ⟨(hS b hb.2).1, (hS b hb.2).2, .inr hb.2⟩, fun t t' b hne hb hb' => hne (by rw [hb.1, hb'.1]), Frm.refl _ _, fun i hi => ?_⟩
    · by_cases hlt : i < args.length
      · rw [List.getElem?_append_left (by simpa using hlt)] at hi
        rw [hgetv i hlt]
        by_cases hip : i = pos
        · subst hip
          rw [List.getElem?_set_self hpl] at hi
          obtain rfl := Option.some.inj hi
          rw [Array.getD_eq_getD_getElem?, hvp]
          simp only [SRep, Option.getD_some]
          refine ⟨by simp, fun tk nl' sz' es'' h1 h2 h3 => ?_⟩
          simp at h1; subst h1
          simp only [getAt, AV.sl.injEq] at h2
          obtain ⟨rfl, rfl, rfl⟩ := h2
          refine ⟨hd, by simp [follow, E], ?_⟩
          obtain ⟨a1, l, cap, hv, h1, h2, _, h4⟩ := hex
          subst hv
          rcases h4 with ⟨rfl, _, rfl, rfl⟩ | ⟨b, o, _, _, rfl, _⟩
          · exact .inl ⟨rfl, rfl⟩
          · exact .inr (.inr ⟨b, o, l, cap, o, rfl, by rw [h1]; simp, .inl (by omega)⟩)
        · rw [List.getElem?_set_ne (fun e => hip e.symm)] at hi
          obtain ⟨y, h1, h2⟩ := hargs i x hip hi
          rw [Array.getD_eq_getD_getElem?, h1]
          exact SRep.of_rep (E := E) _ _ h2
      · rw [List.getElem?_append_right (by simpa using hlt)] at hi
        have := List.mem_of_getElem? hi
        rw [List.mem_replicate] at this
        rw [this.2]; simp [SRep]
    · cases t with
      | zero =>
        simp at ht; subst ht
        refine .inr ⟨nl, sz, es, rfl, ?_⟩
        have h0 : Excl w true F S nl sz es hd := hex.deepF
        exact h0.weak (fun _ h => h) (fun b hb => ⟨rfl, hb⟩) (Agree.refl _ _)
      | succ t => simp at ht
    · simp only [U, mkLd, List.mem_singleton] at hi
      subst hi
      rw [hgetv i hpl, Array.getD_eq_getD_getElem?, hvp]; rfl
  refine tr_awp hC hm c _ _ (h S hd w hlens) hck E _ w hs _ fun e st' E' a' w' hq hs' => ?_
  obtain ⟨he, hr⟩ := hq
  -- the end
  have hend : LeavesInM Fence.wide 0 P fn a'.tmps (fun e w' => ∃ (y : Value) (S' Sr : Nat → Prop), e = .returned y ∧ Frm S w w' ∧ (∀ b, S' b → S b ∨ (w.heap.size ≤ b ∧ b < w'.heap.size)) ∧ (∀ b, Sr b → w.heap.size ≤ b ∧ b < w'.heap.size) ∧ (∀ b, S' b → ¬ Sr b) ∧
      Own w' true (fun _ => False) Sr r y ∧ Excl w' true (fun _ => False) S' nl sz es' hd) a'.defers .returning w' := by
    obtain ⟨Ds, m1, m2, m3⟩ := hs'.defers.marks rfl
    rw [m1]
    refine leaves_marks Ds w' m2 (fun D hD => (m3 D hD).2.2) fun w2 n1 n2 n3 n4 n5 => ?_
    have hA : ∀ t b, E'.S t b → w2.heap[b]? = w'.heap[b]? := fun t b hb => n1 b fun hD => (hs'.slt t b hb).2.1 (m3 b hD).1
    have hfr2 : Frm S w w2 := ⟨n3.trans hs'.frame.os, n4.trans hs'.frame.tape, n5.trans hs'.frame.output, by rw [n2]; exact hs'.frame.size, fun b hb hU => (n1 b fun hD => by have := (m3 b hD).2.1; omega).trans (hs'.frame.block b hb hU)⟩
    unfold resM at hr
    split at hr
    · rename_i q t n hq hsl
      split at hr
      · rename_i tk htk
        split at hr
        · rename_i nl2 sz2 es2 hrow
          split at hr
          · rename_i hc
            obtain ⟨hdeep, hn, hq0⟩ := hc
            have hnd : q.2.Nodup := by rw [hq0]; exact List.nodup_nil
            have htq : t ∉ q.2 := by rw [hq0]; simp
            simp only [Option.some.injEq, Prod.mk.injEq, AV.sl.injEq] at hr
            obtain ⟨hpk, rfl, rfl, rfl⟩ := hr
            have hexc : Excl w' true E'.F (E'.S t) nl2 sz2 es2 (E'.hd t) := by
              rcases hs'.tok t tk htk with hj | ⟨nl', sz', es3, h1, h2⟩
              · rw [hrow] at hj; simp at hj
              · rw [hrow] at h1; simp only [AV.sl.injEq] at h1; obtain ⟨rfl, rfl, rfl⟩ := h1; rw [hdeep] at h2; exact h2
            have hsi : st'.slots[pos]? = some (.ref t [] 0 n) := by
              rw [List.getD_eq_getElem?_getD] at hsl
              cases hh : st'.slots[pos]? with
              | none => rw [hh] at hsl; simp at hsl
              | some z => rw [hh] at hsl; simpa using hsl
            have hsr := hs'.slot pos _ hsi
            simp only [SRep] at hsr
            have hpin := hs'.pin pos (by simp [mkLd])
            have hy := ref_whole hsr htk hrow hn hexc
            rw [hpin] at hy
            have hhd : hd = E'.hd t := hy
            obtain ⟨ys, g1, g2⟩ := resVars_ok (w2 := w2) (F := fun _ => False) hC hs' hA _ q hq hnd
            have hSU : ∀ b, SU E' q.2 b → ¬ E'.S t b := fun b hb => by
              obtain ⟨t', ht', hb⟩ := hb
              exact fun h => hs'.sep t' t b (fun e => htq (e ▸ ht')) hb h
            have hrun : (results fn a'.tmps).run P w2 = .ok (if h : ys.toArray.size = 1 then ys.toArray[0] else .tuple ys.toArray) w2 := by
              rw [results_eq, Sem.run_bind, Array.mapM_eq_mapM_toList, Sem.run_map, g1]
              rfl
            have hown : Own w2 true (fun _ => False) (SU E' q.2) r (if h : ys.toArray.size = 1 then ys.toArray[0] else .tuple ys.toArray) := by rw [← hpk]; exact pack_ok g2
            have hexc2 : Excl w2 true (fun _ => False) (E'.S t) nl2 sz2 es2 (E'.hd t) := (hexc.deepF (F' := fun _ => False)).weak (fun _ h => h) (fun _ h => h) (fun b hb => hb.elim False.elim fun hb => hA t b hb)
            refine ⟨_, hrun, _, fun b => E'.S t b, fun b => SU E' q.2 b, rfl, hfr2, fun b hb => ?_, fun b hb => ?_, fun b hb hb' => hSU b hb' hb, hown, by rw [hhd]; exact hexc2⟩
            · rcases (hs'.slt t b hb).2.2 with h | h
              · exact .inr ⟨h, by rw [n2]; exact (hs'.slt t b hb).1⟩
              · exact .inl h
            · obtain ⟨t', ht', _⟩ := hb
              rw [hq0] at ht'; simp at ht'
          · simp at hr
        · simp at hr
      · simp at hr
    · simp at hr
  rcases he with rfl | rfl
  · exact hend
  · exact hend

/-- The slots of the arguments that are handed over. -/
def setSl : List Nat → List AV → List AV → List AV
  | i :: mv, x :: xs, l => setSl mv xs (l.set i x)
  | _, _, l => l

theorem setSl_get : ∀ {mv : List Nat} {xs l : List AV}, xs.length = mv.length → ∀ {i : Nat} {x : AV}, (setSl mv xs l)[i]? = some x → (i ∉ mv ∧ l[i]? = some x) ∨ ∃ j : Nat, mv[j]? = some i ∧ xs[j]? = some x
  | [], [], l, _, i, x, h => .inl ⟨by simp, h⟩
  | k :: mv, y :: xs, l, hl, i, x, h => by
    simp only [setSl] at h
    rcases setSl_get (by simpa using hl) h with ⟨h1, h2⟩ | ⟨j, h1, h2⟩
    · by_cases e : i = k
      · subst e
        right
        refine ⟨0, by simp, ?_⟩
        by_cases hlt : i < l.length
        · rw [List.getElem?_set_self hlt] at h2; simpa using h2
        · rw [List.getElem?_eq_none (by simpa using hlt)] at h2; simp at h2
      · rw [List.getElem?_set_ne (fun h => e h.symm)] at h2
        exact .inl ⟨by simp [e, h1], h2⟩
    · exact .inr ⟨j + 1, by simpa using h1, by simpa using h2⟩
  | [], _ :: _, _, hl, _, _, _ => by simp at hl
  | _ :: _, [], _, hl, _, _, _ => by simp at hl

theorem setSl_len : ∀ {mv : List Nat} {xs l : List AV}, (setSl mv xs l).length = l.length
  | [], _, _ => by simp [setSl]
  | _ :: _, [], _ => by simp [setSl]
  | k :: mv, x :: xs, l => by simp only [setSl]; rw [setSl_len]; simp

theorem internL_len : ∀ {xs : List AV} {toks : List Tok}, (internL toks xs).1.length = xs.length
  | [], _ => rfl
  | x :: xs, toks => by simp [internL, internL_len]

/-- The contract of a function to which rows are handed over, by the run of its body. -/
theorem movOk_awp (hC : C.Ok P) (hm : P.follows .mixedOrders = true) {live : List Bool} {dt : List (Nat × RD)} {f : FuncId} {fn : Func} {c : Code} {args : List AV} {mv : List Nat} {r : AV}
    (hf : P.funcs[f]? = some fn) (hb : fn.body = some c) (hname : (fn.name == "runtime.NumGoroutine") = false) (hck : codeOk dt [] c = true)
    (h : ∀ (US : Nat → Prop) (w0 : World), lensL args → awp P C live (mkLd US [] undef dt) w0 c ⟨setSl mv (internL [] (mv.map fun i => args.getD i .junk)).1 args ++ List.replicate (fn.ntmps - args.length) .junk, (internL [] (mv.map fun i => args.getD i .junk)).2⟩ (doneS C fn.results.toList r)) : MovOk P f args mv r := by
  refine ⟨⟨fn, hf, hname, by rw [hb]; rfl⟩, fun w F S vals hF hS hlen hargs hown => ?_⟩
  refine (callsIn_wide (n := 0)).1 (callsIn_of_wp_marks hf hb trivial ?_)
  let E0 : Env := { F := F, hd := fun _ => undef, S := fun _ _ => False }
  let U : Ld := mkLd S [] undef dt
  have hgetv : ∀ i, i < args.length → (vals ++ Array.replicate (fn.ntmps - vals.size) undef).getD i undef = vals.getD i undef := fun i hi => by
    rw [Array.getD_eq_getD_getElem?, Array.getElem?_append_left (by omega), Array.getD_eq_getD_getElem?]
  have hmget : ∀ i (hi : i ∈ mv), ∃ j : Nat, mv[j]? = some i := fun i hi => List.mem_iff_getElem?.1 hi
  have hownget : ∀ (j i : Nat), mv[j]? = some i → Own w true (fun _ => False) S (args.getD i .junk) (vals.getD i undef) := fun j i hj => by
    obtain ⟨y, h1, h2⟩ := OwnL.get hown j (args.getD i .junk) (by rw [List.getElem?_map, hj]; rfl)
    rw [List.getElem?_map, hj] at h1
    simp only [Option.map_some, Option.some.injEq] at h1
    rw [h1]; exact h2
  have hlens : lensL args := lensL_iff.2 fun x hx => by
    obtain ⟨i, hi⟩ := List.mem_iff_getElem?.1 hx
    by_cases him : i ∈ mv
    · obtain ⟨j, hj⟩ := hmget i him
      have := hownget j i hj
      rw [List.getD_eq_getElem?_getD, hi] at this
      exact Rep.lens _ _ (Own.rep _ _ this)
    · obtain ⟨y, _, h2⟩ := hargs i x him hi
      exact Rep.lens _ _ h2
  have hs0 : SR U w ⟨setSl mv (mv.map fun _ => .junk) args ++ List.replicate (fn.ntmps - args.length) .junk, []⟩ E0 { tmps := vals ++ Array.replicate (fn.ntmps - vals.size) undef, defers := [] } w := by
    refine ⟨Marks.nil hF.gl (fun _ _ => .inl trivial), by simp [hlen, setSl_len], fun i x hi => ?_, hF.lt, fun t tk ht => by simp at ht, fun t b hb => hb.elim, fun t t' b _ hb => hb.elim, Frm.refl _ _, fun i hi => by simp [U, mkLd] at hi⟩
    by_cases hlt : i < args.length
    · rw [List.getElem?_append_left (by simpa [setSl_len] using hlt)] at hi
      rw [hgetv i hlt]
      rcases setSl_get (by simp) hi with ⟨h1, h2⟩ | ⟨j, h1, h2⟩
      · obtain ⟨y, k1, k2⟩ := hargs i x h1 h2
        rw [Array.getD_eq_getD_getElem?, k1]
        exact SRep.of_rep (E := E0) _ _ k2
      · rw [List.getElem?_map, h1] at h2
        simp only [Option.map_some, Option.some.injEq] at h2
        subst h2; simp [SRep]
    · rw [List.getElem?_append_right (by simpa [setSl_len] using hlt)] at hi
      have := List.mem_of_getElem? hi
      rw [List.mem_replicate] at this
      rw [this.2]; simp [SRep]
  obtain ⟨E1, e1, e2, e3, e4, e5, e6⟩ := internL_ok (F := fun _ => False) _ _ S [] E0 hs0 hown (fun b hb => ⟨.inr hb, (hS b hb).1, fun hA => hA.elim (hS b hb).2 fun ⟨_, h⟩ => h⟩)
  have hs : SR U w ⟨setSl mv (internL [] (mv.map fun i => args.getD i .junk)).1 args ++ List.replicate (fn.ntmps - args.length) .junk, (internL [] (mv.map fun i => args.getD i .junk)).2⟩ E1 { tmps := vals ++ Array.replicate (fn.ntmps - vals.size) undef, defers := [] } w := by
    refine ⟨e5.defers, by simp [hlen, setSl_len], fun i x hi => ?_, e5.flt, e5.tok, e5.slt, e5.sep, e5.frame, e5.pin⟩
    by_cases hlt : i < args.length
    · rw [List.getElem?_append_left (by simpa [setSl_len] using hlt)] at hi
      rcases setSl_get (by simp [internL_len]) hi with ⟨h1, h2⟩ | ⟨j, h1, h2⟩
      · obtain ⟨y, k1, k2⟩ := hargs i x h1 h2
        rw [hgetv i hlt, Array.getD_eq_getD_getElem?, k1]
        refine SRep.of_rep (E := E1) _ _ ?_
        rw [e1]; exact k2
      · rw [hgetv i hlt]
        obtain ⟨y, k1, k2⟩ := SRepL.get e6 j x h2
        rw [List.getElem?_map, h1] at k1
        simp only [Option.map_some, Option.some.injEq] at k1
        subst k1; exact k2
    · rw [List.getElem?_append_right (by simpa [setSl_len] using hlt)] at hi
      have := List.mem_of_getElem? hi
      rw [List.mem_replicate] at this
      rw [this.2]; simp [SRep]
  refine tr_awp hC hm c _ _ (h S w hlens) hck E1 _ w hs _ fun e st' E' a' w' hq hs' => ?_
  obtain ⟨he, hr⟩ := hq
  have hpost : LeavesInM Fence.wide 0 P fn a'.tmps (fun e w' => ∃ (y : Value) (S' : Nat → Prop), e = .returned y ∧ Frm S w w' ∧ (∀ b, S' b → (S b ∨ w.heap.size ≤ b) ∧ b < w'.heap.size) ∧ Own w' true (fun _ => False) S' r y) a'.defers .returning w' := by
    obtain ⟨Ds, m1, m2, m3⟩ := hs'.defers.marks rfl
    rw [m1]
    refine leaves_marks Ds w' m2 (fun D hD => (m3 D hD).2.2) fun w2 n1 n2 n3 n4 n5 => ?_
    obtain ⟨y, S', k1, k2, k3, k4⟩ := results_ok (w2 := w2) (F := fun _ => False) hC hs' (fun t b hb => n1 b fun hD => (hs'.slt t b hb).2.1 (m3 b hD).1) (by omega) hr
    exact ⟨y, k1, y, S', rfl, ⟨n3.trans hs'.frame.os, n4.trans hs'.frame.tape, n5.trans hs'.frame.output, by rw [n2]; exact hs'.frame.size, fun b hb hU => (n1 b fun hD => by have := (m3 b hD).2.1; omega).trans (hs'.frame.block b hb hU)⟩, fun b hb => ⟨(k2 b hb).symm, k3 b hb⟩, k4⟩
  rcases he with rfl | rfl
  · exact hpost
  · exact hpost

end
end Go.Proofs.Ytpjejdebdhgngaa.Ax
