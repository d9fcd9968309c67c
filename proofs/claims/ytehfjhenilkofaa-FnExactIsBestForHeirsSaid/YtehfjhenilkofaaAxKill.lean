/-
  Rows that become parts of another row. No condition.
-/
import Derived.Test.YtehfjhenilkofaaAxCall
namespace Go.Proofs.Ytehfjhenilkofaa.Ax
open Go Go.RowKit

section
variable {P : Program} {C : Ctx} {a : Act} {w : World} {U : Ld} {w0 : World} {st : ASt} {E : Env}

def SU (E : Env) (L : List Nat) : Nat → Prop := fun b => ∃ t, t ∈ L ∧ E.S t b

theorem SU_disj (hs : SR U w0 st E a w) {L L' : List Nat} (h : (L ++ L').Nodup) (b : Nat) (h1 : SU E L b) (h2 : SU E L' b) : False := by
  obtain ⟨t, ht, h1⟩ := h1
  obtain ⟨t', ht', h2⟩ := h2
  refine hs.sep t t' b (fun e => ?_) h1 h2
  subst e
  rw [List.nodup_append] at h
  exact h.2.2 t ht t ht' rfl

theorem SU_app {L L' : List Nat} : ∀ b, SU E (L ++ L') b ↔ SU E L b ∨ SU E L' b := fun b => by
  constructor
  · rintro ⟨t, ht, h⟩
    rcases List.mem_append.1 ht with ht | ht
    · exact .inl ⟨t, ht, h⟩
    · exact .inr ⟨t, ht, h⟩
  · rintro (⟨t, ht, h⟩ | ⟨t, ht, h⟩)
    · exact ⟨t, by simp [ht], h⟩
    · exact ⟨t, by simp [ht], h⟩

mutual
theorem ownR_ok (hs : SR U w0 st E a w) {F : Nat → Prop} : ∀ (x : AV) (y : Value) (q : AV × List Nat), SRep w E st.toks x y → ownR st.toks x = some q → q.2.Nodup → Own w true F (SU E q.2) q.1 y
  | .v x, y, q, h, hq, _ => by
    simp only [ownR, Option.some.injEq] at hq; subst hq
    simpa [SRep, Own] using h
  | .sl nl sz es, y, q, h, hq, _ => by
    simp only [ownR] at hq
    split at hq
    · simp only [Option.some.injEq] at hq; subst hq
      simp only [SRep, Rep] at h
      obtain ⟨a', l, c, rfl, h1, h2, h3, h4⟩ := h
      simp only [Own]
      refine .inl ⟨a', l, c, rfl, h1, h2, h3, .inl ?_⟩
      rcases h4 with h4 | ⟨b, o, _, h, _⟩ | ⟨_, h, _⟩
      · exact ⟨h4.1, trivial, h4.2.2⟩
      · simp at h
      · simp at h
    · simp at hq
  | .ref t p lo n, y, q, h, hq, _ => by
    simp only [ownR] at hq
    split at hq
    · rename_i tk htk
      split at hq
      · rename_i nl sz es hrow
        split at hq
        · rename_i hc
          simp only [Option.some.injEq] at hq; subst hq
          obtain ⟨hd, rfl⟩ := hc
          simp only [SRep] at h
          obtain ⟨hv, g1, g2⟩ := h.2 tk nl sz es htk (by simp [getAt, hrow]) (by omega)
          simp only [follow, Option.some.injEq] at g1
          rcases hs.tok t tk htk with hj | ⟨nl', sz', es', e1, e2⟩
          · rw [hrow] at hj; simp at hj
          · rw [hrow] at e1; simp only [AV.sl.injEq] at e1; obtain ⟨rfl, rfl, rfl⟩ := e1
            rw [hd] at e2
            have hy : y = E.hd t := by
              rw [g1]
              obtain ⟨a1, l, c, hhd, hl, _⟩ := e2
              rw [g1] at hhd
              rcases g2 with ⟨q1, q2⟩ | ⟨_, q2, _⟩ | ⟨b, o, hl', hc, o', q1, q2, q3⟩
              · rw [q1, q2]
              · exact q2
              · rw [q1] at hhd ⊢
                simp only [Value.slice.injEq] at hhd
                rw [q2]
                have : o' = o + 0 * sz := q3.resolve_right (fun h => h.2.1 rfl)
                rw [this]; simp
                omega
            rw [hy]
            exact Own.deepF _ _ (e2.own.weak (fun _ h => h) (fun b hb => ⟨t, by simp, hb⟩) (Agree.refl _ _))
        · simp at hq
      · simp at hq
    · simp at hq
  | .agg cs, y, q, h, hq, hn => by
    simp only [ownR, Option.map_eq_some_iff] at hq
    obtain ⟨q', hq', rfl⟩ := hq
    simp only [SRep] at h
    obtain ⟨ys, rfl, h⟩ := h
    simp only [Own]
    exact ⟨ys, rfl, ownRL_ok hs cs ys.toList q' h hq' hn⟩
  | .tup _, _, _, _, hq, _ => by simp [ownR] at hq
  | .fp _ _, _, _, _, hq, _ => by simp [ownR] at hq
  | .fn _ _, _, _, _, hq, _ => by simp [ownR] at hq
  | .ptr _ _ _ _, _, _, _, hq, _ => by simp [ownR] at hq
  | .junk, _, _, _, hq, _ => by simp [ownR] at hq
theorem ownRL_ok (hs : SR U w0 st E a w) {F : Nat → Prop} : ∀ (x : List AV) (y : List Value) (q : List AV × List Nat), SRepL w E st.toks x y → ownRL st.toks x = some q → q.2.Nodup → OwnL w true F (SU E q.2) q.1 y
  | [], y, q, h, hq, _ => by
    simp only [ownRL, Option.some.injEq] at hq; subst hq
    simpa [SRepL, OwnL] using h
  | c :: cs, y, q, h, hq, hn => by
    simp only [ownRL] at hq
    split at hq
    · rename_i q1 q2 h1 h2
      simp only [Option.some.injEq] at hq; subst hq
      simp only [SRepL] at h
      obtain ⟨y, ys, rfl, k1, k2⟩ := h
      simp only [OwnL]
      have hn' := hn
      rw [List.nodup_append] at hn
      exact ⟨y, ys, SU E q1.2, SU E q2.2, rfl, fun b hb => (SU_app b).2 (.inl hb), fun b hb => (SU_app b).2 (.inr hb), fun b hb hb' => SU_disj hs hn' b hb hb', ownR_ok hs c y q1 k1 h1 hn.1, ownRL_ok hs cs ys q2 k2 h2 hn.2.1⟩
    · simp at hq
end


end

section
variable {w : World} {E E' : Env} {toks toks' : List Tok} {t : Nat}
mutual
theorem SRep.kill (hF : ∀ b, E.F b → E'.F b) (hr : ∀ t' p lo n y, t' ≠ t → RefOk w E toks t' p lo n y → RefOk w E' toks' t' p lo n y) (hp : ∀ t' p i j y, t' ≠ t → PtrOk w E toks t' p i j y → PtrOk w E' toks' t' p i j y) :
    ∀ (x : AV) (y : Value), SRep w E toks x y → SRep w E' toks' (kill t x) y
  | .v _, _, k => by simpa [SRep, Ax.kill] using k
  | .agg cs, y, k => by simp only [SRep, Ax.kill] at k ⊢; obtain ⟨ys, rfl, k⟩ := k; exact ⟨ys, rfl, SRepL.kill hF hr hp cs _ k⟩
  | .tup cs, y, k => by simp only [SRep, Ax.kill] at k ⊢; obtain ⟨ys, rfl, k⟩ := k; exact ⟨ys, rfl, SRepL.kill hF hr hp cs _ k⟩
  | .sl nl sz es, y, k => by simp only [SRep, Ax.kill] at k ⊢; exact k.weak hF (Agree.refl _ _)
  | .fp e j, y, k => by simp only [SRep, Ax.kill] at k ⊢; exact k.weak hF (Agree.refl _ _)
  | .fn f cs, y, k => by simp only [SRep, Ax.kill] at k ⊢; obtain ⟨ys, rfl, k⟩ := k; exact ⟨ys, rfl, SRepL.kill hF hr hp cs _ k⟩
  | .ref t' p lo n, y, k => by
    simp only [Ax.kill]; split
    · simp [SRep]
    · rename_i h; simp only [SRep] at k ⊢; exact hr t' p lo n y h k
  | .ptr t' p i j, y, k => by
    simp only [Ax.kill]; split
    · simp [SRep]
    · rename_i h; simp only [SRep] at k ⊢; exact hp t' p i j y h k
  | .junk, _, _ => by simp [SRep, Ax.kill]
theorem SRepL.kill (hF : ∀ b, E.F b → E'.F b) (hr : ∀ t' p lo n y, t' ≠ t → RefOk w E toks t' p lo n y → RefOk w E' toks' t' p lo n y) (hp : ∀ t' p i j y, t' ≠ t → PtrOk w E toks t' p i j y → PtrOk w E' toks' t' p i j y) :
    ∀ (x : List AV) (y : List Value), SRepL w E toks x y → SRepL w E' toks' (killL t x) y
  | [], _, k => by simpa [SRepL, killL] using k
  | c :: cs, y, k => by
    simp only [SRepL, killL] at k ⊢
    obtain ⟨y, ys, rfl, k1, k2⟩ := k
    exact ⟨y, ys, rfl, SRep.kill hF hr hp c y k1, SRepL.kill hF hr hp cs ys k2⟩
end
end

section
variable {a : Act} {w : World} {U : Ld} {w0 : World} {E : Env}

theorem SR.drop1 {slots : List AV} {toks : List Tok} (h : SR U w0 ⟨slots, toks⟩ E a w) (t : Nat) :
    SR U w0 ⟨slots.map (kill t), toks.set t ⟨true, .junk⟩⟩ { F := E.F, hd := E.hd, S := fun t' b => t' ≠ t ∧ E.S t' b } a w := by
  refine ⟨h.defers, by simpa using h.size, fun i x hx => ?_, h.flt, fun t' tk ht => ?_, fun t' b hb => h.slt t' b hb.2, fun t' t2 b hne hb hb' => h.sep t' t2 b hne hb.2 hb'.2, h.frame, h.pin⟩
  · simp only [List.getElem?_map, Option.map_eq_some_iff] at hx
    obtain ⟨x, hx, rfl⟩ := hx
    refine SRep.kill (E := E) (E' := { F := E.F, hd := E.hd, S := fun t' b => t' ≠ t ∧ E.S t' b }) (toks := toks) (toks' := toks.set t ⟨true, .junk⟩) (t := t) (fun _ h => h) (fun t' p lo n y ht hr => ⟨by simpa using hr.1, fun tk nl sz es h1 h2 h3 => ?_⟩) (fun t' p i j y ht hr => ⟨by simpa using hr.1, fun tk nl sz es h1 h2 h3 => ?_⟩) x _ (h.slot i x hx)
    · rw [List.getElem?_set_ne (fun e => ht e.symm)] at h1; exact hr.2 tk nl sz es h1 h2 h3
    · rw [List.getElem?_set_ne (fun e => ht e.symm)] at h1; exact hr.2 tk nl sz es h1 h2 h3
  · by_cases e : t' = t
    · subst e
      by_cases hlt : t' < toks.length
      · rw [List.getElem?_set_self hlt] at ht; obtain rfl := Option.some.inj ht; exact .inl rfl
      · rw [List.getElem?_eq_none (by simpa using hlt)] at ht; simp at ht
    · rw [List.getElem?_set_ne (fun h => e h.symm)] at ht
      rcases h.tok t' tk ht with hj | ⟨nl, sz, es, h1, h2⟩
      · exact .inl hj
      · refine .inr ⟨nl, sz, es, h1, ?_⟩
        exact h2.weak (fun _ h => h) (fun b hb => ⟨e, hb⟩) fun _ _ => rfl

theorem SR.drops : ∀ (L : List Nat) {slots : List AV} {toks : List Tok} {E : Env}, SR U w0 ⟨slots, toks⟩ E a w →
    ∃ E1 : Env, E1.F = E.F ∧ E1.hd = E.hd ∧ (∀ t b, E1.S t b ↔ t ∉ L ∧ E.S t b) ∧ SR U w0 ⟨(drops slots toks L).1, (drops slots toks L).2⟩ E1 a w
  | [], _, _, E, h => ⟨E, rfl, rfl, by simp, h⟩
  | t :: L, _, _, E, h => by
    obtain ⟨E1, h1, h2, h3, h4⟩ := SR.drops L (h.drop1 t)
    refine ⟨E1, h1, h2, fun t' b => ?_, h4⟩
    rw [h3]; simp only [List.mem_cons, not_or]
    constructor
    · rintro ⟨a, b, c⟩; exact ⟨⟨b, a⟩, c⟩
    · rintro ⟨⟨b, a⟩, c⟩; exact ⟨a, b, c⟩

theorem drops_get : ∀ (L : List Nat) {slots : List AV} {toks : List Tok} {k : Nat}, k ∉ L → (Ax.drops slots toks L).2[k]? = toks[k]?
  | [], _, _, _, _ => rfl
  | t :: L, slots, toks, k, h => by
    simp only [List.mem_cons, not_or] at h
    rw [Ax.drops, drops_get L h.2, List.getElem?_set_ne (fun e => h.1 e.symm)]

theorem drops_len : ∀ (L : List Nat) {slots : List AV} {toks : List Tok}, (Ax.drops slots toks L).1.length = slots.length
  | [], _, _ => rfl
  | t :: L, slots, toks => by rw [Ax.drops, drops_len L]; simp

theorem drops_tlen : ∀ (L : List Nat) {slots : List AV} {toks : List Tok}, (Ax.drops slots toks L).2.length = toks.length
  | [], _, _ => rfl
  | t :: L, slots, toks => by rw [Ax.drops, drops_tlen L]; simp

theorem OwnL.flat {d : Bool} {F : Nat → Prop} : ∀ {S : Nat → Prop} {cs : List AV} {ys : List Value}, OwnL w d F S cs ys → Ax.flat cs = true → ∀ y ∈ ys, y.oneCell' = true
  | _, [], ys, h, _ => by simp only [OwnL] at h; subst h; simp
  | S, c :: cs, _, h, hf => by
    simp only [OwnL] at h
    obtain ⟨y, ys, S1, S2, rfl, _, _, _, h1, h2⟩ := h
    intro z hz
    rcases List.mem_cons.1 hz with rfl | hz
    · cases c with
      | v x => simp only [Own] at h1; rw [h1.1]; exact h1.2
      | sl nl sz es =>
        have := h1.rep
        simp only [Rep] at this
        obtain ⟨_, _, _, rfl, _⟩ := this
        rfl
      | _ => simp [Ax.flat] at hf
    · exact h2.flat (by cases c <;> simp_all [Ax.flat]) z hz

theorem Own.flatL {d : Bool} {F S : Nat → Prop} {x : AV} {y : Value} (h : Own w d F S x y) (hf : Ax.flat x.cells = true) : OwnL w d F S x.cells y.cells.toList := by
  have one : ∀ c : AV, Own w d F S c y → y.oneCell' = true → OwnL w d F S [c] y.cells.toList := fun c hc hy => by
    have : y.cells = #[y] := by cases y <;> first | rfl | simp [Value.oneCell'] at hy
    rw [this]
    simp only [OwnL]
    exact ⟨y, [], S, fun _ => False, rfl, fun _ h => h, fun _ h => h.elim, fun _ _ h => h, hc, rfl⟩
  cases x with
  | agg cs => simp only [Own] at h; obtain ⟨ys, rfl, h⟩ := h; simpa [Value.cells, AV.cells] using h
  | v z => exact one _ h (by simp only [Own] at h; rw [h.1]; exact h.2)
  | sl nl sz es =>
    exact one _ h (by
      have := h.rep
      simp only [Rep] at this
      obtain ⟨_, _, _, rfl, _⟩ := this
      rfl)
  | _ => simp [Ax.flat, AV.cells] at hf
end
end Go.Proofs.Ytehfjhenilkofaa.Ax
