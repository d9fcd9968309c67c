/-
  Elements, loads and calls: each abstract operation is met by the model's. No condition.
-/
import Derived.Test.YtehfjhenilkofaaAxOps2
namespace Go.Proofs.Ytehfjhenilkofaa.Ax
open Go Go.RowKit
section
variable {P : Program} {C : Ctx} {o : Oper} {a : Act} {w : World} {U : Ld} {w0 : World} {st : ASt} {E : Env}

mutual
theorem Own.deepF {F F' : Nat → Prop} : ∀ {S : Nat → Prop} (x : AV) (y : Value), Own w true F S x y → Own w true F' S x y
  | S, .v _, _, k => by simpa [Own] using k
  | S, .agg cs, y, k => by simp only [Own] at k ⊢; obtain ⟨ys, rfl, k⟩ := k; exact ⟨ys, rfl, OwnL.deepF cs _ k⟩
  | S, .tup cs, y, k => by simp only [Own] at k ⊢; obtain ⟨ys, rfl, k⟩ := k; exact ⟨ys, rfl, OwnL.deepF cs _ k⟩
  | S, .sl nl sz es, y, k => by
    simp only [Own, Bool.true_eq_false, false_and, or_false] at k ⊢
    obtain ⟨a', len, cap, rfl, h1, h2, h3, h4⟩ := k
    refine ⟨a', len, cap, rfl, h1, h2, h3, ?_⟩
    rcases h4 with h4 | ⟨b, o, cs, T, rfl, rfl, hb, hcs, hsz, h4⟩
    · exact .inl h4
    · exact .inr ⟨b, o, cs, T, rfl, rfl, hb, hcs, hsz, OwnRow.deepF _ _ _ _ h4⟩
  | S, .fp e j, y, k => by simp [Own] at k
  | S, .fn f cs, y, k => by simp [Own] at k
  | _, .ref _ _ _ _, _, k => by simp [Own] at k
  | _, .ptr _ _ _ _, _, k => by simp [Own] at k
  | _, .junk, _, _ => by simp [Own]
theorem OwnL.deepF {F F' : Nat → Prop} : ∀ {S : Nat → Prop} (x : List AV) (y : List Value), OwnL w true F S x y → OwnL w true F' S x y
  | _, [], _, k => by simpa [OwnL] using k
  | S, c :: cs, y, k => by
    simp only [OwnL] at k ⊢
    obtain ⟨y, ys, S1, S2, rfl, h1, h2, h3, k1, k2⟩ := k
    exact ⟨y, ys, S1, S2, rfl, h1, h2, h3, Own.deepF c y k1, OwnL.deepF cs ys k2⟩
theorem OwnRow.deepF {F F' : Nat → Prop} : ∀ {S : Nat → Prop} (b sz o : Nat) (es : List AV), OwnRow w true F S b sz o es → OwnRow w true F' S b sz o es
  | _, _, _, _, [], _ => by simp [OwnRow]
  | S, b, sz, o, e :: es, k => by
    simp only [OwnRow] at k ⊢
    obtain ⟨x, S1, S2, h1, h2, h3, k1, k2, k2', k3, k4⟩ := k
    exact ⟨x, S1, S2, h1, h2, h3, Own.deepF e x k1, k2, k2', k3, OwnRow.deepF b sz (o + sz) es k4⟩
end

theorem ev_int (hs : SR U w0 st E a w) {x : Operand} {n : Nat} (h : asNat (ev st.slots x) = some n) : ∃ k, a.eval x = .int k n := by
  obtain ⟨k, hk⟩ := asNat_eq h
  exact ⟨k, SRep_v (hs.ev x) hk⟩

theorem goes_indexAddr (hC : C.Ok P) (hs : SR U w0 st E a w) {t : TypeId} {x ix : Operand} (ho : o.op = .indexAddr t x ix) {out : Out} (h : aop C (.indexAddr t x ix) st.slots st.toks = some out) : Goes P o a w U w0 out := by
  simp only [aop] at h
  split at h
  · rename_i ti i hti hi
    obtain ⟨k, hik⟩ := ev_int hs hi
    have ht := hC.T t ti hti
    split at h
    · rename_i el nl sz es hd hx
      split at h
      · rename_i te e hte he
        split at h
        · rename_i hsz
          simp only [Option.some.injEq] at h; subst h
          have hx' := hs.ev x
          rw [hx] at hx'
          simp only [SRep] at hx'
          obtain ⟨b, o', l, cp, z, hv, hl, hF, g1, g2, g3, g4⟩ := Own.elem (Rep.own (S := fun _ => False) _ _ hx') he
          have hF : E.F b := hF.resolve_right id
          have hlt : i < l := by rw [hl]; exact (List.getElem?_eq_some_iff.1 he).1
          have hrz : Rep w E.F e z := (g1.rep).weak (fun b h => h.resolve_right id) (Agree.refl _ _)
          refine goes_pure (y := .pointer (some ⟨b, o' + i * te.size, none⟩)) hs ?_ ?_
          · have := run_index (P := P) (w := w) ht hd (hC.T _ _ hte) (k := k) (i := i) (b := b) (o' := o') (len := l) (cap := cp) hlt
            simp only [execOp, ho, hik, hv, Sem.run_bind, this]; rfl
          · simp only [SRep, Rep]
            exact ⟨b, o' + i * te.size, z, rfl, hrz, hF, by rw [hsz]; exact g4, by rw [g2, g3]⟩
        · simp at h
      · simp at h
    · rename_i el kk p lo n hd hx
      split at h
      · rename_i te tk hte htk
        split at h
        · rename_i nl sz es hg
          split at h
          · rename_i hcond
            obtain ⟨hsz, hin, hle⟩ := hcond
            simp only [Option.some.injEq] at h; subst h
            have hx' := hs.ev x
            rw [hx] at hx'
            simp only [SRep] at hx'
            obtain ⟨hv, q1, q2⟩ := hx'.2 tk nl sz es htk hg hle
            obtain ⟨hv', k1, k2⟩ := (hs.tokOk kk tk htk).follow hg
            have : hv = hv' := by have := k1 w (Agree.refl _ _); rw [q1] at this; exact Option.some.inj this
            subst this
            have hlt : lo + i < es.length := by omega
            obtain ⟨b, o', l, cp, z, hv2, hl, hF, g1, g2, g3, g4⟩ := Own.elem k2 (List.getElem?_eq_getElem hlt)
            subst hv2
            rcases q2 with ⟨q, _⟩ | ⟨h0, _⟩ | ⟨b1, o1, hl1, hc1, o2, q, hy, hor⟩
            · simp at q
            · omega
            · simp only [Value.slice.injEq, Option.some.injEq, Addr.mk.injEq, and_true] at q
              obtain ⟨⟨rfl, rfl⟩, rfl, rfl⟩ := q
              have hcap : cp ≠ lo := by
                have hr := k2.rep
                simp only [Rep, Value.slice.injEq] at hr
                obtain ⟨_, _, _, ⟨rfl, rfl, rfl⟩, _, h3, _⟩ := hr
                omega
              obtain rfl := hor.resolve_right (fun h => hcap h.1)
              refine goes_pure (y := .pointer (some ⟨b, o' + lo * sz + i * te.size, none⟩)) hs ?_ ?_
              · have := run_index (P := P) (w := w) ht hd (hC.T _ _ hte) (k := k) (i := i) (b := b) (o' := o' + lo * sz) (len := n) (cap := cp - lo) hin
                simp only [execOp, ho, hik, hy, Sem.run_bind, this]; rfl
              · simp only [SRep]
                refine ⟨hx'.1, fun tk' nl' sz' es' h1 h2 h3 => ?_⟩
                rw [htk] at h1; obtain rfl := Option.some.inj h1
                rw [hg] at h2; simp only [AV.sl.injEq] at h2; obtain ⟨rfl, rfl, rfl⟩ := h2
                exact ⟨b, o', l, cp, q1, by rw [hsz, Nat.add_mul, Nat.add_assoc]; rfl⟩
          · simp at h
        · simp at h
      · simp at h
    · simp at h
  · simp at h

theorem loadCells_ok {k : Nat} {tk : Tok} (hk : st.toks[k]? = some tk) {p : List (Nat × Nat)} {nl : Bool} {sz : Nat} {es : List AV} (hg : getAt tk.row p = .sl nl sz es)
    {i : Nat} {cs : List AV} (he : es[i]? = some (.agg cs)) {b o' hl hc : Nat} (hf : follow w tk.row (E.hd k) p = some (.slice (some ⟨b, o', none⟩) hl hc)) {ys : List Value} (hat : At w b (o' + i * sz) ys)
    (hown : ∀ (j : Nat) (c : AV), cs[j]? = some c → ∃ y : Value, ys[j]? = some y ∧ Own w tk.deep E.F (E.S k) c y) :
    ∀ (j : Nat) (l : List AV) (yl : List Value), (∀ m, l[m]? = cs[j + m]?) → (∀ m, yl[m]? = ys[j + m]?) → l.length = yl.length → SRepL w E st.toks (loadCells k p i j l) yl
  | _, [], yl, _, _, h => by have := List.length_eq_zero_iff.1 h.symm; subst this; simp [loadCells, SRepL]
  | j, c :: l, [], _, _, h => by simp at h
  | j, c :: l, y :: yl, h1, h2, h3 => by
    simp only [loadCells, SRepL]
    have hc := (h1 0).symm; have hy := (h2 0).symm
    simp at hc hy
    obtain ⟨y', e1, e2⟩ := hown j c hc
    rw [hy] at e1; obtain rfl := Option.some.inj e1
    refine ⟨y, yl, rfl, SRep_loadCell hk hg he (by simpa [AV.cells] using hc) (hat j y hy) hf e2, loadCells_ok hk hg he hf hat hown (j + 1) l yl (fun m => ?_) (fun m => ?_) (by simpa using h3)⟩
    · have := h1 (m + 1); simp at this; rw [this]; congr 1; omega
    · have := h2 (m + 1); simp at this; rw [this]; congr 1; omega

theorem goes_load (hC : C.Ok P) (hs : SR U w0 st E a w) {t : TypeId} {x : Operand} (ho : o.op = .load t x) {out : Out} (h : aop C (.load t x) st.slots st.toks = some out) : Goes P o a w U w0 out := by
  simp only [aop] at h
  split at h
  · rename_i ti hti
    have ht := hC.T t ti hti
    have hx' := hs.ev x
    split at h
    · rename_i e j hx
      rw [hx] at hx'
      simp only [SRep, Rep] at hx'
      obtain ⟨b, o', z, hy, hr, hF, hat, hzn⟩ := hx'
      split at h
      · rename_i hagg
        split at h
        · rename_i cs
          split at h
          · rename_i hcond
            obtain ⟨rfl, hlen⟩ := hcond
            simp only [Option.some.injEq] at h; subst h
            have hcn := hr.cellsN (by simp)
            simp only [Rep] at hr
            obtain ⟨ys, rfl, hr⟩ := hr
            refine goes_pure (y := .agg ys) hs ?_ ?_
            · have := run_load_agg (P := P) (w := w) (b := b) (o' := o') (ys := ys.toList) ht hagg hat (by rw [← hlen]; simpa [Value.cells, AV.cells] using hcn)
              simp only [execOp, ho, hy, Nat.add_zero, Sem.run_bind, this]; rfl
            · exact SRep.of_rep _ _ (by simp only [Rep]; exact ⟨ys, rfl, hr⟩)
          · simp at h
        · simp at h
      · rename_i hagg
        split at h
        · rename_i c hc
          simp only [Option.some.injEq] at h; subst h
          obtain ⟨y, hyc, hoc⟩ := Own.cell (Rep.own (S := fun _ => False) _ _ hr) hzn j c hc
          have hcell : w.cell? ⟨b, o' + j, none⟩ = some y := hat j y (by simpa using hyc)
          refine goes_pure (y := y) hs ?_ (SRep.of_rep _ _ (hoc.rep.weak (fun b h => h.resolve_right id) (Agree.refl _ _)))
          have := run_load_one (P := P) (w := w) (b := b) (o' := o' + j) ht (by simpa using hagg) hcell
          simp only [execOp, ho, hy, Sem.run_bind, this]; rfl
        · simp at h
    · rename_i k p i j hx
      rw [hx] at hx'
      simp only [SRep] at hx'
      split at h
      · rename_i tk htk
        split at h
        · rename_i nl sz es hg
          split at h
          · rename_i e he
            have hlt : i < es.length := (List.getElem?_eq_some_iff.1 he).1
            obtain ⟨b, o', hl, hc, q1, hy⟩ := hx'.2 tk nl sz es htk hg hlt
            obtain ⟨hv', k1, k2⟩ := (hs.tokOk k tk htk).follow hg
            have : hv' = .slice (some ⟨b, o', none⟩) hl hc := by have := k1 w (Agree.refl _ _); rw [q1] at this; exact (Option.some.inj this).symm
            subst this
            obtain ⟨b2, o2, l, cp, z, hv2, _, hF, g1, g2, g3, g4⟩ := Own.elem k2 he
            simp only [Value.slice.injEq, Option.some.injEq, Addr.mk.injEq, and_true] at hv2
            obtain ⟨⟨rfl, rfl⟩, rfl, rfl⟩ := hv2
            split at h
            · rename_i hagg
              split at h
              · rename_i cs
                split at h
                · rename_i hcond
                  obtain ⟨rfl, hlen⟩ := hcond
                  simp only [Option.some.injEq] at h; subst h
                  have hsz : sz = ti.size := by rw [← hlen]; simpa [AV.cells] using g3.symm
                  have hzc : z.cells.size = cs.length := by rw [g2, hsz, hlen]
                  simp only [Own] at g1
                  obtain ⟨ys, rfl, g1⟩ := g1
                  refine goes_pure (y := .agg ys) hs ?_ ?_
                  · have := run_load_agg (P := P) (w := w) (b := b) (o' := o' + i * sz) (ys := ys.toList) ht hagg g4 (by rw [← hlen, ← hzc]; simp [Value.cells])
                    simp only [execOp, ho, hy, Nat.add_zero, Sem.run_bind, this]; rfl
                  · simp only [SRep]
                    exact ⟨ys, rfl, loadCells_ok htk hg he q1 g4 (fun j c hc => OwnL.get g1 j c hc) 0 cs ys.toList (fun m => by simp) (fun m => by simp [Value.cells]) (by simpa [Value.cells] using hzc.symm)⟩
                · simp at h
              · simp at h
            · rename_i hagg
              split at h
              · rename_i c hc
                simp only [Option.some.injEq] at h; subst h
                obtain ⟨y, hyc, hoc⟩ := Own.cell g1 (by rw [g2, g3]) j c hc
                have hcell : w.cell? ⟨b, o' + i * sz + j, none⟩ = some y := g4 j y (by simpa using hyc)
                refine goes_pure (y := y) hs ?_ (SRep_loadCell htk hg he hc hcell q1 hoc)
                have := run_load_one (P := P) (w := w) (b := b) (o' := o' + i * sz + j) ht (by simpa using hagg) hcell
                simp only [execOp, ho, hy, Sem.run_bind, this]; rfl
              · simp at h
          · simp at h
        · simp at h
      · simp at h
    · simp at h
  · simp at h

mutual
theorem intern_app : ∀ (r : AV) (toks : List Tok), ∃ m, (intern toks r).2 = toks ++ m
  | .sl nl sz es, toks => ⟨_, rfl⟩
  | .tup vs, toks => internL_app vs toks
  | .agg vs, toks => internL_app vs toks
  | .v x, toks => ⟨[], by simp [intern]⟩
  | .fp _ _, toks => ⟨[], by simp [intern]⟩
  | .fn _ _, toks => ⟨[], by simp [intern]⟩
  | .ref _ _ _ _, toks => ⟨[], by simp [intern]⟩
  | .ptr _ _ _ _, toks => ⟨[], by simp [intern]⟩
  | .junk, toks => ⟨[], by simp [intern]⟩
theorem internL_app : ∀ (r : List AV) (toks : List Tok), ∃ m, (internL toks r).2 = toks ++ m
  | [], toks => ⟨[], by simp [internL]⟩
  | c :: cs, toks => by
    obtain ⟨m, hm⟩ := intern_app c toks
    obtain ⟨m', hm'⟩ := internL_app cs (intern toks c).2
    exact ⟨m ++ m', by simp only [internL]; rw [hm', hm, List.append_assoc]⟩
end

theorem SR.toksExt {toks toks' : List Tok} {E' : Env} {slots : List AV} (h : SR U w0 ⟨slots, toks⟩ E a w) (hF : E'.F = E.F) (hp : ∃ m, toks' = toks ++ m) (hhd : ∀ t, t < toks.length → E'.hd t = E.hd t) (x : AV) (y : Value) (hx : SRep w E toks x y) : SRep w E' toks' x y := by
  obtain ⟨m, rfl⟩ := hp
  exact SRep.ext h.tokOk (Agree.refl _ _) (fun b hb => by rw [hF]; exact hb) (fun t ht => List.getElem?_append_left ht) (by simp) hhd x y hx

mutual
theorem intern_ok {slots : List AV} {F : Nat → Prop} : ∀ (r : AV) (y : Value) (S : Nat → Prop) (toks : List Tok) (E : Env), SR U w0 ⟨slots, toks⟩ E a w → Own w true F S r y → (∀ b, S b → w0.heap.size ≤ b ∧ b < w.heap.size ∧ ¬ allB E b) →
    ∃ E' : Env, E'.F = E.F ∧ (∀ t, t < toks.length → E'.hd t = E.hd t) ∧ (∀ b, allB E' b → allB E b ∨ S b) ∧ (∃ m, (intern toks r).2 = toks ++ m) ∧ SR U w0 ⟨slots, (intern toks r).2⟩ E' a w ∧ SRep w E' (intern toks r).2 (intern toks r).1 y
  | .v x, y, S, toks, E, hs, h, hS => by
    refine ⟨E, rfl, fun _ _ => rfl, fun _ h => .inl h, ⟨[], by simp [intern]⟩, hs, ?_⟩
    simpa [intern, SRep, Own] using h
  | .junk, y, S, toks, E, hs, h, hS => ⟨E, rfl, fun _ _ => rfl, fun _ h => .inl h, ⟨[], by simp [intern]⟩, hs, by simp [intern, SRep]⟩
  | .fp _ _, y, S, toks, E, hs, h, hS => ⟨E, rfl, fun _ _ => rfl, fun _ h => .inl h, ⟨[], by simp [intern]⟩, hs, by simp [intern, SRep]⟩
  | .fn _ _, y, S, toks, E, hs, h, hS => ⟨E, rfl, fun _ _ => rfl, fun _ h => .inl h, ⟨[], by simp [intern]⟩, hs, by simp [intern, SRep]⟩
  | .ref _ _ _ _, y, S, toks, E, hs, h, hS => ⟨E, rfl, fun _ _ => rfl, fun _ h => .inl h, ⟨[], by simp [intern]⟩, hs, by simp [intern, SRep]⟩
  | .ptr _ _ _ _, y, S, toks, E, hs, h, hS => ⟨E, rfl, fun _ _ => rfl, fun _ h => .inl h, ⟨[], by simp [intern]⟩, hs, by simp [intern, SRep]⟩
  | .sl nl sz es, y, S, toks, E, hs, h, hS => by
    have hx : Excl w true E.F S nl sz es y := by
      simp only [Own, Bool.true_eq_false, false_and, or_false] at h
      obtain ⟨a', len, cap, rfl, h1, h2, h3, h4⟩ := h
      refine ⟨a', len, cap, rfl, h1, h2, h3, ?_⟩
      rcases h4 with h4 | ⟨b, o, cs, T, rfl, rfl, hb, hcs, hsz, h4⟩
      · exact .inl h4
      · exact .inr ⟨b, o, cs, T, rfl, rfl, hb, hcs, hsz, OwnRow.deepF _ _ _ _ h4⟩
    obtain ⟨E', h1, h2, h3, h4, h5⟩ := hs.newTok ⟨true, .sl nl sz es⟩ y S (fun b hb => ⟨.inl (hS b hb).1, (hS b hb).2⟩) (.inr ⟨nl, sz, es, rfl, hx⟩)
    refine ⟨E', h1, h3, h4, ⟨_, rfl⟩, h5, ?_⟩
    simp only [intern, SRep]
    refine ⟨by simp, fun tk nl' sz' es' k1 k2 k3 => ?_⟩
    simp at k1; subst k1
    simp only [getAt, AV.sl.injEq] at k2; obtain ⟨rfl, rfl, rfl⟩ := k2
    refine ⟨y, by simp only [follow]; exact congrArg some h2, ?_⟩
    obtain ⟨a', len, cap, rfl, g1, g2, g3, ⟨rfl, _, rfl, rfl⟩ | ⟨b, o, cs, T, rfl, _⟩⟩ := hx
    · exact .inl ⟨rfl, rfl⟩
    · exact .inr (.inr ⟨b, o, len, cap, o, rfl, by simp [g1], .inl (by omega)⟩)
  | .tup vs, y, S, toks, E, hs, h, hS => by
    simp only [Own] at h
    obtain ⟨ys, rfl, h⟩ := h
    obtain ⟨E', h1, h2, h3, h4, h5, h6⟩ := internL_ok vs ys.toList S toks E hs h hS
    exact ⟨E', h1, h2, h3, h4, h5, by simp only [intern, SRep]; exact ⟨ys, rfl, h6⟩⟩
  | .agg vs, y, S, toks, E, hs, h, hS => by
    simp only [Own] at h
    obtain ⟨ys, rfl, h⟩ := h
    obtain ⟨E', h1, h2, h3, h4, h5, h6⟩ := internL_ok vs ys.toList S toks E hs h hS
    exact ⟨E', h1, h2, h3, h4, h5, by simp only [intern, SRep]; exact ⟨ys, rfl, h6⟩⟩
theorem internL_ok {slots : List AV} {F : Nat → Prop} : ∀ (r : List AV) (y : List Value) (S : Nat → Prop) (toks : List Tok) (E : Env), SR U w0 ⟨slots, toks⟩ E a w → OwnL w true F S r y → (∀ b, S b → w0.heap.size ≤ b ∧ b < w.heap.size ∧ ¬ allB E b) →
    ∃ E' : Env, E'.F = E.F ∧ (∀ t, t < toks.length → E'.hd t = E.hd t) ∧ (∀ b, allB E' b → allB E b ∨ S b) ∧ (∃ m, (internL toks r).2 = toks ++ m) ∧ SR U w0 ⟨slots, (internL toks r).2⟩ E' a w ∧ SRepL w E' (internL toks r).2 (internL toks r).1 y
  | [], y, S, toks, E, hs, h, hS => ⟨E, rfl, fun _ _ => rfl, fun _ h => .inl h, ⟨[], by simp [internL]⟩, hs, by simpa [internL, SRepL, OwnL] using h⟩
  | c :: cs, y, S, toks, E, hs, h, hS => by
    simp only [OwnL] at h
    obtain ⟨y, ys, S1, S2, rfl, d1, d2, d3, k1, k2⟩ := h
    obtain ⟨E1, a1, a2, a3, ⟨m1, a4⟩, a5, a6⟩ := intern_ok c y S1 toks E hs k1 (fun b hb => hS b (d1 b hb))
    obtain ⟨E2, b1, b2, b3, ⟨m2, b4⟩, b5, b6⟩ := internL_ok cs ys S2 (intern toks c).2 E1 a5 k2 (fun b hb => ⟨(hS b (d2 b hb)).1, (hS b (d2 b hb)).2.1, fun hA => (a3 b hA).elim (hS b (d2 b hb)).2.2 fun h => d3 b h hb⟩)
    have hlen : toks.length ≤ (intern toks c).2.length := by rw [a4]; simp
    refine ⟨E2, b1.trans a1, fun t ht => (b2 t (Nat.lt_of_lt_of_le ht hlen)).trans (a2 t ht), fun b hb => ?_, ⟨m1 ++ m2, by simp only [internL]; rw [b4, a4, List.append_assoc]⟩, b5, ?_⟩
    · rcases b3 b hb with h | h
      · exact (a3 b h).imp id (d1 b)
      · exact .inr (d2 b h)
    · simp only [internL, SRepL]
      exact ⟨y, ys, rfl, SR.toksExt a5 b1 ⟨m2, b4⟩ b2 _ _ a6, b6⟩
end

end
end Go.Proofs.Ytehfjhenilkofaa.Ax
