/-
  What reads as data of a plain type (ints, bools, strings, slices and structs of them) reads so in the abstract run too. No condition.
-/
import Derived.Test.YtehfjhenilkofaaAxType
import Derived.ChangeArms
import Derived.Deep.Slices
namespace Go.Proofs.Ytehfjhenilkofaa.Ax
open Go Go.RowKit Go.ChangeShapes Go.WideShapes

def tile (P : Program) : List Field → Nat → Nat → Bool
  | [], o, n => decide (o = n)
  | f :: fs, o, n => decide (f.offset = o) && tile P fs (o + P.cellsOf f.type) n

def structB (P : Program) (t : TypeId) : Bool := match P.underlying t with
  | some (.struct _) => true
  | _ => false

def plainB (P : Program) : Nat → TypeId → Bool
  | 0, _ => false
  | n + 1, t => match P.underlying t with
    | some (.int _) => true
    | some .bool => true
    | some .string => true
    | some (.slice e) => decide (P.cellsOf e ≠ 0) && plainB P n e
    | some (.struct fs) => tile P fs.toList 0 (P.cellsOf t) && fs.toList.all fun f => plainB P n f.type
    | _ => false

def AV.isAgg : AV → Bool
  | .agg _ => true
  | _ => false

inductive Dat (P : Program) : TypeId → List AV → Prop
  | int {t : TypeId} {k : IntKind} {n : Int} : P.underlying t = some (.int k) → (Lit.int k n).wf = true → Dat P t [.v (.int k n)]
  | bool {t : TypeId} {b : Bool} : P.underlying t = some .bool → Dat P t [.v (.bool b)]
  | str {t : TypeId} {s : ByteArray} : P.underlying t = some .string → s.size ≤ maxLen → Dat P t [.v (.string s)]
  | nilSl {t e : TypeId} : P.underlying t = some (.slice e) → Dat P t [.sl true (P.cellsOf e) []]
  | sl {t e : TypeId} {es : List AV} : P.underlying t = some (.slice e) → es.length ≤ maxLen → (∀ x ∈ es, x.isAgg = structB P e) → (∀ x ∈ es, Dat P e x.cells) → Dat P t [.sl false (P.cellsOf e) es]
  | struct {t : TypeId} {fs : Array Field} {pss : List (List AV)} : P.underlying t = some (.struct fs) → pss.length = fs.size → (∀ (i : Nat) (f : Field) (ps : List AV), fs[i]? = some f → pss[i]? = some ps → Dat P f.type ps) → Dat P t pss.flatten

theorem RepL.append {w : World} {F : Nat → Prop} : ∀ {as bs : List AV} {xs ys : List Value}, RepL w F as xs → RepL w F bs ys → RepL w F (as ++ bs) (xs ++ ys)
  | [], bs, xs, ys, h, k => by simp only [RepL] at h; subst h; simpa using k
  | a :: as, bs, xs, ys, h, k => by
    simp only [RepL] at h
    obtain ⟨y, zs, rfl, h1, h2⟩ := h
    simp only [List.cons_append, RepL]
    exact ⟨y, zs ++ ys, rfl, h1, RepL.append h2 k⟩

section
variable {H : Type} {enc : TypeId × Value → H} {P : Program} {w : World} {spare : Nat → Bool} {held : Bool}

theorem block_lt {a : Addr} {v : Value} (h : w.cell? a = some v) : a.block < w.heap.size := by
  exact World.block_lt_of_cell? _ _ h

theorem trod_fields {F : Nat → Prop} {n m : Nat} (ih : ∀ t cs x, DataW.trod enc P w 0 spare held n t cs = some x → plainB P m t = true → ∃ as, RepL w F as cs ∧ Dat P t as) :
    ∀ (fs : List Field) (o : Nat) (cs : List Value), tile P fs o cs.length = true → fs.all (fun f => plainB P m f.type) = true →
      (∀ (i : Nat) (f : Field), fs[i]? = some f → ∃ x, DataW.trod enc P w 0 spare held n f.type ((cs.drop f.offset).take (P.cellsOf f.type)) = some x) →
      ∃ pss : List (List AV), RepL w F pss.flatten (cs.drop o) ∧ pss.length = fs.length ∧ ∀ (i : Nat) (f : Field) (ps : List AV), fs[i]? = some f → pss[i]? = some ps → Dat P f.type ps
  | [], o, cs, ht, _, _ => by
    simp [tile] at ht
    exact ⟨[], by simp [RepL, ht], rfl, by simp⟩
  | f :: fs, o, cs, ht, hp, h => by
    simp only [tile, Bool.and_eq_true, decide_eq_true_eq, List.all_cons] at ht hp
    obtain ⟨x, hx⟩ := h 0 f rfl
    obtain ⟨as, h1, h2⟩ := ih _ _ _ hx hp.1
    obtain ⟨pss, k1, k2, k3⟩ := trod_fields ih fs (o + P.cellsOf f.type) cs ht.2 hp.2 (fun i g hg => h (i + 1) g (by simpa using hg))
    refine ⟨as :: pss, ?_, by simp [k2], ?_⟩
    · rw [ht.1] at h1
      have := RepL.append h1 k1
      rw [show cs.drop (o + P.cellsOf f.type) = (cs.drop o).drop (P.cellsOf f.type) by rw [List.drop_drop], List.take_append_drop] at this
      simpa using this
    · intro i g ps hg hps
      cases i with
      | zero => simp at hg hps; subst hg; subst hps; exact h2
      | succ i => exact k3 i g ps (by simpa using hg) (by simpa using hps)

theorem choose_list {α : Type} {Q : Nat → α → Prop} : ∀ (n : Nat), (∀ i, i < n → ∃ x, Q i x) → ∃ xs : List α, xs.length = n ∧ ∀ i x, xs[i]? = some x → Q i x
  | 0, _ => ⟨[], rfl, by simp⟩
  | n + 1, h => by
    obtain ⟨xs, h1, h2⟩ := choose_list n (fun i hi => h i (by omega))
    obtain ⟨x, hx⟩ := h n (by omega)
    refine ⟨xs ++ [x], by simp [h1], fun i y hy => ?_⟩
    by_cases hi : i < n
    · rw [List.getElem?_append_left (by omega)] at hy; exact h2 i y hy
    · rw [List.getElem?_append_right (by omega)] at hy
      have : i = n := by
        have := (List.getElem?_eq_some_iff.1 hy).1
        simp at this; omega
      subst this
      simp [h1] at hy; subst hy; exact hx

theorem Dat.one {t : TypeId} {as : List AV} (h : Dat P t as) (hs : structB P t = false) : ∃ a, as = [a] ∧ a.isAgg = false ∧ ((∃ x, a = .v x) ∨ ∃ nl sz es, a = .sl nl sz es) := by
  cases h with
  | struct hu => simp [structB, hu] at hs
  | int => exact ⟨_, rfl, rfl, .inl ⟨_, rfl⟩⟩
  | bool => exact ⟨_, rfl, rfl, .inl ⟨_, rfl⟩⟩
  | str => exact ⟨_, rfl, rfl, .inl ⟨_, rfl⟩⟩
  | nilSl => exact ⟨_, rfl, rfl, .inr ⟨_, _, _, rfl⟩⟩
  | sl => exact ⟨_, rfl, rfl, .inr ⟨_, _, _, rfl⟩⟩

theorem trod_dat : ∀ (n m : Nat) (t : TypeId) (cs : List Value) (x : DataW H × List MemPlace), DataW.trod enc P w 0 spare held n t cs = some x → plainB P m t = true → ∃ as, RepL w (fun b => b < w.heap.size) as cs ∧ Dat P t as
  | 0, _, _, _, _, h, _ => by simp [DataW.trod] at h
  | n + 1, 0, t, cs, x, h, hp => by simp [plainB] at hp
  | n + 1, m + 1, t, cs, x, h, hp => by
    have ih := trod_dat n m
    cases hu : P.underlying t with
    | none => simp [plainB, hu] at hp
    | some d =>
      simp only [plainB, hu] at hp
      cases d with
      | bool =>
        obtain ⟨b, rfl, _⟩ := DataW.trod_bool hu h
        exact ⟨[.v (.bool b)], by simp [RepL, Rep, Value.oneCell'], .bool hu⟩
      | int k =>
        obtain ⟨z, rfl, _, hw⟩ := DataW.trod_int hu h
        exact ⟨[.v (.int k z)], by simp [RepL, Rep, Value.oneCell'], .int hu hw⟩
      | string =>
        obtain ⟨s, rfl, _, hw⟩ := DataW.trod_string hu h
        exact ⟨[.v (.string s)], by simp [RepL, Rep, Value.oneCell'], .str hu hw⟩
      | slice e =>
        simp only [Bool.and_eq_true, decide_eq_true_eq] at hp
        rcases DataW.trod_slice hu h with ⟨rfl, _⟩ | ⟨a, len, cap, elems, rest, n', hn, rfl, _, hb, hl, hm, hlen, hel, _⟩
        · exact ⟨[.sl true (P.cellsOf e) []], by simp only [RepL, Rep]; exact ⟨_, _, rfl, ⟨none, 0, 0, rfl, rfl, Nat.le_refl _, Nat.zero_le _, .inl ⟨rfl, trivial, rfl, rfl⟩⟩, rfl⟩, .nilSl hu⟩
        · simp only [Nat.add_right_cancel_iff] at hn; subst hn
          have spt : 0 < len → a.spot = none := by
            intro h0
            have h1 := hel 0 h0
            rw [List.getElem?_eq_getElem (by omega)] at h1
            obtain ⟨cs', h2, h3⟩ := Option.bind_eq_some_iff.1 h1
            obtain ⟨_, g1, g2⟩ := World.cells?_some h2
            obtain ⟨v0, hv0⟩ : ∃ v, cs'[0]? = some v := ⟨_, List.getElem?_eq_getElem (by omega)⟩
            have hc0 := (g2 0 (by omega)).trans hv0
            have := World.cell?_spot hc0
            simpa [Addr.add] using this
          have each : ∀ i, i < len → ∃ e' : AV, (a.spot = none ∧ ∃ y, Rep w (fun b => b < w.heap.size) e' y ∧ y.cells.size = P.cellsOf e ∧ e'.cells.length = P.cellsOf e ∧ a.block < w.heap.size ∧ At w a.block (a.off + i * P.cellsOf e) y.cells.toList) ∧ e'.isAgg = structB P e ∧ Dat P e e'.cells := by
            intro i hi
            have hs := spt (by omega)
            have h1 := hel i hi
            rw [List.getElem?_eq_getElem (by omega)] at h1
            obtain ⟨cs', h2, h3⟩ := Option.bind_eq_some_iff.1 h1
            obtain ⟨as, k1, k2⟩ := ih _ _ _ h3 hp.2
            obtain ⟨_, g1, g2⟩ := World.cells?_some h2
            have hk := k1.length
            obtain ⟨v0, hv0⟩ : ∃ v, cs'[0]? = some v := ⟨_, List.getElem?_eq_getElem (by omega)⟩
            have hc0 := (g2 0 (by omega)).trans hv0
            have hlt : a.block < w.heap.size := by
              have := World.block_lt_of_cell? _ _ hc0
              obtain ⟨b, o, s⟩ := a
              simp only at hs; subst hs
              simpa [add_addr] using this
            have hat : At w a.block (a.off + i * P.cellsOf e) cs' := by
              intro j y hj
              have hj' := (List.getElem?_eq_some_iff.1 hj).1
              have := g2 j (by omega)
              obtain ⟨b, o, s⟩ := a
              simp only at hs; subst hs
              rw [add_addr, add_addr, hj] at this
              exact this
            cases hs' : structB P e with
            | true =>
              exact ⟨.agg as, ⟨hs, .agg cs'.toArray, by simp only [Rep]; exact ⟨_, rfl, by simpa using k1⟩, by simpa [Value.cells] using g1, by simp [AV.cells]; omega, hlt, by simpa [Value.cells] using hat⟩, rfl, k2⟩
            | false =>
              obtain ⟨c, rfl, hna, hc⟩ := k2.one hs'
              simp only [RepL] at k1
              obtain ⟨y, ys, rfl, k1, rfl⟩ := k1
              have hy : y.cells = #[y] ∧ c.cells = [c] := by
                rcases hc with ⟨x, rfl⟩ | ⟨nl, sz, es, rfl⟩
                · simp only [Rep] at k1
                  obtain ⟨rfl, k1⟩ := k1
                  cases y <;> simp [Value.oneCell'] at k1 <;> simp [Value.cells, AV.cells]
                · simp only [Rep] at k1
                  obtain ⟨_, _, _, rfl, _⟩ := k1
                  simp [Value.cells, AV.cells]
              exact ⟨c, ⟨hs, y, k1, by rw [hy.1]; simpa using g1, by rw [hy.2]; simpa using g1, hlt, by rw [hy.1]; exact hat⟩, hna, by rw [hy.2]; exact k2⟩
          obtain ⟨es, q1, q2⟩ := choose_list len each
          refine ⟨[.sl false (P.cellsOf e) es], ?_, .sl hu (by omega) (fun x hx => ?_) (fun x hx => ?_)⟩
          · simp only [RepL]
            refine ⟨_, _, rfl, ?_, rfl⟩
            simp only [Rep]
            refine ⟨some a, len, cap, rfl, q1.symm, hl, hm, .inr ?_⟩
            by_cases hz : len = 0
            · exact .inr ⟨⟨a, rfl⟩, trivial, List.length_eq_zero_iff.1 (by omega)⟩
            · refine .inl ⟨a.block, a.off, ?_, trivial, RepRow.mk fun i e' hi => ?_⟩
              · obtain ⟨z, hz'⟩ : ∃ z, es[0]? = some z := ⟨_, List.getElem?_eq_getElem (by omega)⟩
                have := (q2 0 z hz').1.1
                obtain ⟨b, o, s⟩ := a
                simp only at this; subst this; rfl
              · exact (q2 i e' hi).1.2
          · obtain ⟨i, hi⟩ := List.getElem?_of_mem hx
            exact (q2 i x hi).2.1
          · obtain ⟨i, hi⟩ := List.getElem?_of_mem hx
            exact (q2 i x hi).2.2
      | struct fs =>
        simp only [Bool.and_eq_true] at hp
        obtain ⟨xs, n', hn, _, hl, hxl, hf⟩ := DataW.trod_struct hu h
        simp only [Nat.add_right_cancel_iff] at hn; subst hn
        obtain ⟨pss, k1, k2, k3⟩ := trod_fields (fun t cs x hx hp => ih t cs x hx hp) fs.toList 0 cs (by rw [hl]; exact hp.1) hp.2 (fun i f hi => by
          have hi' : fs[i]? = some f := by simpa using hi
          have := hf i f hi'
          have hlt := (Array.getElem?_eq_some_iff.1 hi').1
          rw [List.getElem?_eq_getElem (by omega)] at this
          exact ⟨_, this⟩)
        exact ⟨pss.flatten, by simpa using k1, .struct hu (by simpa using k2) (fun i f ps h1 h2 => k3 i f ps (by simpa using h1) h2)⟩
      | _ => simp at hp

end

/-- A value of one argument or element. -/
def DatE (P : Program) (t : TypeId) (a : AV) : Prop := a.isAgg = structB P t ∧ Dat P t a.cells

section
variable {P : Program} {t : TypeId} {a : AV}

theorem cells_one (h : a.isAgg = false) : a.cells = [a] := by cases a <;> first | rfl | simp [AV.isAgg] at h

theorem DatE.int {k : IntKind} (h : DatE P t a) (hu : P.underlying t = some (.int k)) : ∃ n, a = .v (.int k n) ∧ (Lit.int k n).wf = true := by
  obtain ⟨h1, h2⟩ := h
  have hs : structB P t = false := by simp [structB, hu]
  rw [cells_one (h1.trans hs)] at h2
  generalize ha : [a] = l at h2
  cases h2 <;> simp_all

theorem DatE.str (h : DatE P t a) (hu : P.underlying t = some .string) : ∃ s : ByteArray, a = .v (.string s) ∧ s.size ≤ maxLen := by
  obtain ⟨h1, h2⟩ := h
  have hs : structB P t = false := by simp [structB, hu]
  rw [cells_one (h1.trans hs)] at h2
  generalize ha : [a] = l at h2
  cases h2 <;> simp_all

theorem DatE.bool (h : DatE P t a) (hu : P.underlying t = some .bool) : ∃ b, a = .v (.bool b) := by
  obtain ⟨h1, h2⟩ := h
  have hs : structB P t = false := by simp [structB, hu]
  rw [cells_one (h1.trans hs)] at h2
  generalize ha : [a] = l at h2
  cases h2 <;> simp_all

theorem DatE.slice {e : TypeId} (h : DatE P t a) (hu : P.underlying t = some (.slice e)) : ∃ nl es, a = .sl nl (P.cellsOf e) es ∧ es.length ≤ maxLen ∧ ∀ x ∈ es, DatE P e x := by
  obtain ⟨h1, h2⟩ := h
  have hs : structB P t = false := by simp [structB, hu]
  rw [cells_one (h1.trans hs)] at h2
  generalize hal : [a] = l at h2
  cases h2 with
  | nilSl hu' => rw [hu] at hu'; simp at hu' hal; subst hu'; exact ⟨true, [], hal, by simp, by simp⟩
  | sl hu' hl ha hd => rw [hu] at hu'; simp at hu' hal; subst hu'; exact ⟨false, _, hal, hl, fun x hx => ⟨ha x hx, hd x hx⟩⟩
  | struct hu' => rw [hu] at hu'; simp at hu'
  | _ => simp_all

theorem list_of {α : Type} {f : α → AV} {Q : α → Prop} : ∀ {es : List AV}, (∀ x ∈ es, ∃ y, x = f y ∧ Q y) → ∃ ys : List α, es = ys.map f ∧ ∀ y ∈ ys, Q y
  | [], _ => ⟨[], rfl, by simp⟩
  | e :: es, h => by
    obtain ⟨y, rfl, hy⟩ := h e (by simp)
    obtain ⟨ys, rfl, hys⟩ := list_of (es := es) (fun x hx => h x (by simp [hx]))
    exact ⟨y :: ys, rfl, by simpa using ⟨hy, hys⟩⟩

theorem DatE.ints {e : TypeId} (h : DatE P t a) (hu : P.underlying t = some (.slice e)) (he : P.underlying e = some (.int .i64)) (hc : P.cellsOf e = 1) :
    ∃ nl xs, a = Ax.ints nl xs ∧ xs.length ≤ maxLen ∧ ∀ x ∈ xs, (Lit.int .i64 x).wf = true := by
  obtain ⟨nl, es, rfl, hl, hes⟩ := h.slice hu
  obtain ⟨xs, rfl, hx⟩ := list_of (f := Ax.int) (Q := fun x => (Lit.int .i64 x).wf = true) (fun x hx => (hes x hx).int he)
  exact ⟨nl, xs, by rw [hc]; rfl, by simpa using hl, hx⟩

theorem DatE.two {f0 f1 : Field} (h : DatE P t a) (hu : P.underlying t = some (.struct #[f0, f1])) (h0 : P.underlying f0.type = some (.int .i64)) (h1 : P.underlying f1.type = some (.int .i64)) :
    ∃ p : Int × Int, a = .agg [Ax.int p.1, Ax.int p.2] ∧ (Lit.int .i64 p.1).wf = true ∧ (Lit.int .i64 p.2).wf = true := by
  obtain ⟨g1, g2⟩ := h
  have hs : structB P t = true := by simp [structB, hu]
  rw [hs] at g1
  cases a with
  | agg as =>
    simp only [AV.cells] at g2
    generalize has : as = as' at g2
    cases g2 with
    | @struct _ fs pss hu' hl hf =>
      rw [hu] at hu'; simp only [Option.some.injEq, TypeDesc.struct.injEq] at hu'; subst hu'
      match pss, hl with
      | [p0, p1], _ =>
        have k0 := hf 0 f0 p0 rfl rfl
        have k1 := hf 1 f1 p1 rfl rfl
        have d0 : ∃ n, p0 = [.v (.int .i64 n)] ∧ (Lit.int .i64 n).wf = true := by cases k0 <;> simp_all
        have d1 : ∃ n, p1 = [.v (.int .i64 n)] ∧ (Lit.int .i64 n).wf = true := by cases k1 <;> simp_all
        obtain ⟨n0, rfl, w0⟩ := d0
        obtain ⟨n1, rfl, w1⟩ := d1
        exact ⟨(n0, n1), by simp [Ax.int], w0, w1⟩
    | _ => simp_all
  | _ => simp [AV.isAgg] at g1
end

end Go.Proofs.Ytehfjhenilkofaa.Ax
