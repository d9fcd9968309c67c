/-
  A row that hangs in a row of the call's own may turn, and the whole is the call's own still. No condition.
-/
import Derived.Test.YtehfjhenilkofaaAxStore
namespace Go.Proofs.Ytehfjhenilkofaa.Ax
open Go Go.RowKit

section
variable {w w' : World} {F : Nat → Prop}

/-- What has been taken out (S1) of S, and what has come in its place (S1'). -/
structure Chg (w w' : World) (F S S1 S1' : Nat → Prop) : Prop where
  f : Agree F w w'
  s : ∀ b, S b → ¬ S1 b → w'.heap[b]? = w.heap[b]?
  n : ∀ b, S1' b → S1 b ∨ ¬ S b

theorem Chg.sub {S S' S1 S1' : Nat → Prop} (h : Chg w w' F S S1 S1') (hS : ∀ b, S' b → S b) : Chg w w' F S' S1 S1' := ⟨h.f, fun b hb => h.s b (hS b hb), fun b hb => (h.n b hb).imp id fun hn hb' => hn (hS b hb')⟩

theorem OwnL.focus : ∀ {S : Nat → Prop} {cs : List AV} {ys : List Value} {j : Nat} {c : AV}, OwnL w true F S cs ys → cs[j]? = some c →
    ∃ y, ∃ S1 : Nat → Prop, ys[j]? = some y ∧ (∀ b, S1 b → S b) ∧ Own w true F S1 c y ∧ ∀ (w' : World) (c' : AV) (S1' : Nat → Prop), Own w' true F S1' c' y → Chg w w' F S S1 S1' → OwnL w' true F (fun b => (S b ∧ ¬ S1 b) ∨ S1' b) (cs.set j c') ys
  | _, [], _, _, _, _, h => by simp at h
  | S, c0 :: cs, _, 0, c, k, h => by
    simp only [OwnL] at k
    obtain ⟨y, ys, Sa, Sb, rfl, h1, h2, h3, k1, k2⟩ := k
    simp at h; subst h
    refine ⟨y, Sa, by simp, h1, k1, fun w' c' S1' hc hg => ?_⟩
    simp only [List.set_cons_zero, OwnL]
    refine ⟨y, ys, S1', Sb, rfl, fun b hb => .inr hb, fun b hb => .inl ⟨h2 b hb, fun h => h3 b h hb⟩, fun b hb hb' => ?_, hc, ?_⟩
    · rcases hg.n b hb with h | h
      · exact h3 b h hb'
      · exact h (h2 b hb')
    · exact OwnL.agree (fun _ h => h) hg.f (fun _ h => h) (fun b hb => hg.s b (h2 b hb) fun h => h3 b h hb) _ _ k2
  | S, c0 :: cs, _, j + 1, c, k, h => by
    simp only [OwnL] at k
    obtain ⟨y, ys, Sa, Sb, rfl, h1, h2, h3, k1, k2⟩ := k
    obtain ⟨y', S1, e1, e2, e3, e4⟩ := OwnL.focus k2 (by simpa using h)
    refine ⟨y', S1, by simpa using e1, fun b hb => h2 b (e2 b hb), e3, fun w' c' S1' hc hg => ?_⟩
    have hr := e4 w' c' S1' hc (hg.sub h2)
    simp only [List.set_cons_succ, OwnL]
    refine ⟨y, ys, Sa, _, rfl, fun b hb => .inl ⟨h1 b hb, fun h => h3 b hb (e2 b h)⟩, fun b hb => hb.elim (fun hb => .inl ⟨h2 b hb.1, hb.2⟩) .inr, fun b hb hb' => ?_, ?_, hr⟩
    · rcases hb' with hb' | hb'
      · exact h3 b hb hb'.1
      · rcases hg.n b hb' with h | h
        · exact h3 b hb (e2 b h)
        · exact h (h1 b hb)
    · exact Own.agree (fun _ h => h) hg.f (fun _ h => h) (fun b hb => hg.s b (h1 b hb) fun h => h3 b hb (e2 b h)) _ _ k1

theorem Own.cellFocus {S : Nat → Prop} {e : AV} {x : Value} {j : Nat} {c : AV} (h : Own w true F S e x) (hsz : x.cells.size = e.cells.length) (hj : e.cells[j]? = some c) (hc : c ≠ .junk) :
    ∃ y, ∃ S1 : Nat → Prop, x.cells[j]? = some y ∧ (∀ b, S1 b → S b) ∧ Own w true F S1 c y ∧ ∀ (w' : World) (c' : AV) (S1' : Nat → Prop), c'.cells.length = 1 → Own w' true F S1' c' y → Chg w w' F S S1 S1' →
      Own w' true F (fun b => (S b ∧ ¬ S1 b) ∨ S1' b) (setCell e j c') x ∧ (setCell e j c').cells.length = e.cells.length := by
  by_cases hagg : ∃ cs, e = .agg cs
  · obtain ⟨cs, rfl⟩ := hagg
    simp only [Own] at h
    obtain ⟨ys, rfl, h⟩ := h
    obtain ⟨y, S1, e1, e2, e3, e4⟩ := OwnL.focus h hj
    refine ⟨y, S1, by simpa [Value.cells] using e1, e2, e3, fun w' c' S1' _ hc' hg => ⟨?_, by simp [setCell, AV.cells]⟩⟩
    simp only [setCell, Own]
    exact ⟨ys, rfl, e4 w' c' S1' hc' hg⟩
  · have hc1 : e.cells = [e] := by
      cases e <;> first | rfl | exact (hagg ⟨_, rfl⟩).elim
    have hset : ∀ c', setCell e j c' = c' := fun c' => by
      cases e <;> first | rfl | exact (hagg ⟨_, rfl⟩).elim
    rw [hc1] at hj hsz
    have hj0 : j = 0 := by
      rcases j with _ | j
      · rfl
      · simp at hj
    subst hj0
    simp at hj; subst hj
    obtain ⟨y, h1, h2⟩ := Own.cell h (by rw [hc1]; exact hsz) 0 e (by rw [hc1]; rfl)
    have hxy : x.cells = #[y] := by
      have hs1 : x.cells.size = 1 := by simpa using hsz
      apply Array.ext
      · simp [hs1]
      · intro i h3 h4
        have : i = 0 := by omega
        subst this
        have := (Array.getElem?_eq_some_iff.1 h1).2
        simpa using this
    refine ⟨y, S, h1, fun _ h => h, h2, fun w' c' S1' hc' hcc hg => ?_⟩
    rw [hset]
    refine ⟨?_, by rw [hc', hc1]; rfl⟩
    have hx : x = y ∨ ∃ ys, x = .agg ys := by
      cases x <;> first | (right; exact ⟨_, rfl⟩) | (left; simp [Value.cells] at hxy; exact hxy)
    rcases hx with rfl | ⟨ys, rfl⟩
    · exact hcc.weak (fun _ h => h) (fun b hb => .inr hb) (Agree.refl _ _)
    · exfalso
      cases e with
      | agg cs => exact hagg ⟨_, rfl⟩
      | v z => simp only [Own] at h; obtain ⟨rfl, h⟩ := h; simp [Value.oneCell'] at h
      | tup cs => simp only [Own] at h; obtain ⟨_, h, _⟩ := h; simp at h
      | sl nl sz es => simp only [Own, Rep] at h; rcases h with ⟨_, _, _, h, _⟩ | ⟨_, _, _, _, h, _⟩ <;> simp at h
      | fp e j => simp [Own] at h
      | fn f cs => simp [Own] at h
      | ref _ _ _ _ => simp [Own] at h
      | ptr _ _ _ _ => simp [Own] at h
      | junk => exact hc rfl

theorem OwnRow.focus {b sz : Nat} : ∀ {S : Nat → Prop} {o : Nat} {es : List AV} {i : Nat} {e : AV}, OwnRow w true F S b sz o es → es[i]? = some e →
    ∃ x, ∃ S1 : Nat → Prop, (∀ b, S1 b → S b) ∧ Own w true F S1 e x ∧ x.cells.size = sz ∧ e.cells.length = sz ∧ At w b (o + i * sz) x.cells.toList ∧
      ∀ (w' : World) (e' : AV) (S1' : Nat → Prop), Own w' true F S1' e' x → e'.cells.length = sz → w'.heap[b]? = w.heap[b]? → Chg w w' F S S1 S1' → OwnRow w' true F (fun b => (S b ∧ ¬ S1 b) ∨ S1' b) b sz o (es.set i e')
  | _, _, [], _, _, _, h => by simp at h
  | S, o, e0 :: es, 0, e, k, h => by
    simp only [OwnRow] at k
    obtain ⟨x, Sa, Sb, h1, h2, h3, k1, k2, k2', k3, k4⟩ := k
    simp at h; subst h
    refine ⟨x, Sa, h1, k1, k2, k2', by simpa using k3, fun w' e' S1' he hl hb0 hg => ?_⟩
    simp only [List.set_cons_zero, OwnRow]
    refine ⟨x, S1', Sb, fun b hb => .inr hb, fun b hb => .inl ⟨h2 b hb, fun h => h3 b h hb⟩, fun b hb hb' => ?_, he, k2, hl, k3.agree hb0, ?_⟩
    · rcases hg.n b hb with h | h
      · exact h3 b h hb'
      · exact h (h2 b hb')
    · exact OwnRow.agree (fun _ h => h) hg.f (fun _ h => h) (fun b hb => hg.s b (h2 b hb) fun h => h3 b h hb) b sz (o + sz) hb0 es k4
  | S, o, e0 :: es, i + 1, e, k, h => by
    simp only [OwnRow] at k
    obtain ⟨x, Sa, Sb, h1, h2, h3, k1, k2, k2', k3, k4⟩ := k
    obtain ⟨x', S1, e1, e2, e3, e4, e5, e6⟩ := OwnRow.focus k4 (by simpa using h)
    refine ⟨x', S1, fun b hb => h2 b (e1 b hb), e2, e3, e4, by rw [show o + (i + 1) * sz = o + sz + i * sz from by rw [Nat.add_mul]; omega]; exact e5, fun w' e' S1' he hl hb0 hg => ?_⟩
    have hr := e6 w' e' S1' he hl hb0 (hg.sub h2)
    simp only [List.set_cons_succ, OwnRow]
    refine ⟨x, Sa, _, fun b hb => .inl ⟨h1 b hb, fun h => h3 b hb (e1 b h)⟩, fun b hb => hb.elim (fun hb => .inl ⟨h2 b hb.1, hb.2⟩) .inr, fun b hb hb' => ?_, ?_, k2, k2', k3.agree hb0, hr⟩
    · rcases hb' with hb' | hb'
      · exact h3 b hb hb'.1
      · rcases hg.n b hb' with h | h
        · exact h3 b hb (e1 b h)
        · exact h (h1 b hb)
    · exact Own.agree (fun _ h => h) hg.f (fun _ h => h) (fun b hb => hg.s b (h1 b hb) fun h => h3 b hb (e1 b h)) _ _ k1

theorem setAt_sl {nl : Bool} {sz : Nat} {es : List AV} : ∀ {p : List (Nat × Nat)} {a : AV} {nl0 : Bool} {sz0 : Nat} {es0 : List AV}, getAt a p = .sl nl0 sz0 es0 → es.length = es0.length → nl = nl0 → sz = sz0 →
    ∀ {nl1 : Bool} {sz1 : Nat} {es1 : List AV}, a = .sl nl1 sz1 es1 → ∃ es2, setAt a p (.sl nl sz es) = .sl nl1 sz1 es2 ∧ es2.length = es1.length
  | [], a, _, _, _, h, hl, h1, h2, nl1, sz1, es1, ha => by
    subst ha
    simp only [getAt, AV.sl.injEq] at h
    obtain ⟨rfl, rfl, rfl⟩ := h
    subst h1; subst h2
    exact ⟨es, rfl, hl⟩
  | (i, j) :: p, a, _, _, _, h, hl, h1, h2, nl1, sz1, es1, ha => by
    subst ha
    simp only [getAt] at h
    cases he : es1[i]? with
    | none => rw [he] at h; simp at h
    | some e =>
      rw [he] at h
      simp only [] at h
      cases hc : e.cells[j]? with
      | none => rw [hc] at h; simp at h
      | some c => exact ⟨_, by simp only [setAt, he, hc]; rfl, by simp⟩

theorem Excl.of_own {S : Nat → Prop} {nl : Bool} {sz : Nat} {es : List AV} {y : Value} (h : Own w true F S (.sl nl sz es) y) : Excl w true F S nl sz es y := by
  simp only [Own] at h
  rcases h with h | h
  · exact h
  · simp at h

/-- Along a path of what is wholly the call's own: the row at its end, and the whole when that row has turned. -/
theorem Own.focus : ∀ (p : List (Nat × Nat)) {S : Nat → Prop} {a : AV} {v : Value} {nl : Bool} {sz : Nat} {es : List AV}, Own w true F S a v → (∃ nl0 sz0 es0, a = .sl nl0 sz0 es0) → getAt a p = .sl nl sz es →
    (∀ b, S b → ¬ F b) → ∃ h, ∃ S1 : Nat → Prop, follow w a v p = some h ∧ (∀ b, S1 b → S b) ∧ Own w true F S1 (.sl nl sz es) h ∧
      ∀ (w' : World) (es' : List AV) (S1' : Nat → Prop), es'.length = es.length → Own w' true F S1' (.sl nl sz es') h → Chg w w' F S S1 S1' → Own w' true F (fun b => (S b ∧ ¬ S1 b) ∨ S1' b) (setAt a p (.sl nl sz es')) v
  | [], S, a, v, nl, sz, es, h, _, hg, _ => by
    simp only [getAt] at hg; subst hg
    refine ⟨v, S, by simp [follow], fun _ h => h, h, fun w' es' S1' _ ho _ => ?_⟩
    simp only [setAt]
    exact ho.weak (fun _ h => h) (fun b hb => .inr hb) (Agree.refl _ _)
  | (i, j) :: p, S, a, v, nl, sz, es, h, ⟨nl0, sz0, es0, ha⟩, hg, hSF => by
    subst ha
    simp only [getAt] at hg
    cases he : es0[i]? with
    | none => simp [he] at hg
    | some e =>
      cases hcj : e.cells[j]? with
      | none => simp [he, hcj] at hg
      | some c =>
        simp only [he, hcj] at hg
        have hcsl : ∃ nl1 sz1 es1, c = .sl nl1 sz1 es1 := by
          cases p with
          | nil => simp only [getAt] at hg; exact ⟨_, _, _, hg⟩
          | cons q p =>
            cases c with
            | sl _ _ _ => exact ⟨_, _, _, rfl⟩
            | _ => simp [getAt] at hg
        have hcj' : c ≠ .junk := by obtain ⟨_, _, _, rfl⟩ := hcsl; simp
        obtain ⟨a', len, cap, hv, h1, h2, h3, h4⟩ := Excl.of_own h
        rcases h4 with ⟨rfl, rfl, rfl, rfl⟩ | ⟨b, o, cs, T, rfl, rfl, hb, hcs, hsz, hrow⟩
        · have : es0 = [] := List.length_eq_zero_iff.1 h1.symm
          subst this; simp at he
        · obtain ⟨x, Sx, q1, q2, q3, q4, q5, q6⟩ := OwnRow.focus hrow he
          obtain ⟨y, Sy, r1, r2, r3, r4⟩ := Own.cellFocus q2 (by rw [q3, q4]) hcj hcj'
          obtain ⟨h', S1, t1, t2, t3, t4⟩ := Own.focus p r3 hcsl hg (fun b hb => hSF b (q1 b (r2 b hb)).1)
          have hcell : w.cell? ⟨b, o + i * sz0 + j, none⟩ = some y := q5 j y (by simpa using r1)
          refine ⟨h', S1, by subst hv; simp only [follow, he, hcj, hcell]; exact t1, fun b hb => (q1 b (r2 b (t2 b hb))).1, t3, fun w' es' S1' hl ho hg' => ?_⟩
          have hbS1 : ¬ S1 b := fun h => (q1 b (r2 b (t2 b h))).2 rfl
          have hb0 : w'.heap[b]? = w.heap[b]? := hg'.s b hb hbS1
          have c1 := t4 w' es' S1' hl ho (hg'.sub fun b hb => (q1 b (r2 b hb)).1)
          have hg2 : Chg w w' F Sx Sy (fun b => (Sy b ∧ ¬ S1 b) ∨ S1' b) := ⟨hg'.f, fun b hb hn => hg'.s b (q1 b hb).1 fun h => hn (t2 b h), fun b hb => hb.elim (fun hb => .inl hb.1) fun hb => (hg'.n b hb).elim (fun h => .inl (t2 b h)) fun h => .inr fun hx => h (q1 b hx).1⟩
          have hlen1 : (setAt c p (.sl nl sz es')).cells.length = 1 := by
            obtain ⟨nl1, sz1, es1, hc1⟩ := hcsl
            obtain ⟨es2, k1, _⟩ := setAt_sl (es := es') hg hl rfl rfl hc1
            rw [k1]; rfl
          obtain ⟨c2, c3⟩ := r4 w' _ _ hlen1 c1 hg2
          have hg3 : Chg w w' F (fun x => S x ∧ x ≠ b) Sx (fun b => (Sx b ∧ ¬ Sy b) ∨ ((Sy b ∧ ¬ S1 b) ∨ S1' b)) := ⟨hg'.f, fun b hb hn => hg'.s b hb.1 fun h => hn (r2 b (t2 b h)), fun b' hb' => by
            rcases hb' with hb' | hb' | hb'
            · exact .inl hb'.1
            · exact .inl (r2 b' hb'.1)
            · rcases hg'.n b' hb' with h | h
              · exact .inl (r2 b' (t2 b' h))
              · exact .inr fun h' => h h'.1⟩
          have hr := q6 w' _ _ c2 (by rw [c3, q4]) hb0 hg3
          simp only [setAt, he, hcj, Own]
          refine .inl ⟨_, len, cap, hv, by simp [h1], h2, h3, .inr ⟨b, o, cs, T, rfl, by simp, .inl ⟨hb, hbS1⟩, by rw [hb0]; exact hcs, hsz, ?_⟩⟩
          refine OwnRow.agree (fun _ h => h) (Agree.refl _ _) (fun b' hb' => ?_) (Agree.refl _ _) _ _ _ rfl _ hr
          rcases hb' with hb' | hb' | hb' | hb'
          · refine ⟨.inl ⟨hb'.1.1, fun h => hb'.2 (r2 b' (t2 b' h))⟩, hb'.1.2⟩
          · exact ⟨.inl ⟨(q1 b' hb'.1).1, fun h => hb'.2 (t2 b' h)⟩, (q1 b' hb'.1).2⟩
          · exact ⟨.inl ⟨(q1 b' (r2 b' hb'.1)).1, hb'.2⟩, (q1 b' (r2 b' hb'.1)).2⟩
          · refine ⟨.inr hb', fun e => ?_⟩
            subst e
            rcases hg'.n b' hb' with h | h
            · exact hbS1 h
            · exact h hb

end
end Go.Proofs.Ytehfjhenilkofaa.Ax
