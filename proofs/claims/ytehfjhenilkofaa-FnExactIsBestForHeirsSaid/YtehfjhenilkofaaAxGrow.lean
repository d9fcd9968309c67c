/-
  'append': a row of the call's own grows, in its place or in a new one. No condition.
-/
import Derived.Test.YtehfjhenilkofaaAxSlice
import Derived.Laws.Append
namespace Go.Proofs.Ytehfjhenilkofaa.Ax
open Go Go.RowKit

theorem OwnRow.app {w : World} {d : Bool} {F : Nat → Prop} {b sz : Nat} : ∀ {S S1 S2 : Nat → Prop} {o : Nat} {es fs : List AV}, OwnRow w d F S1 b sz o es → OwnRow w d F S2 b sz (o + es.length * sz) fs → (∀ b, S1 b → S b) → (∀ b, S2 b → S b) → (∀ b, S1 b → ¬ S2 b) → OwnRow w d F S b sz o (es ++ fs)
  | S, S1, S2, o, [], fs, _, h2, _, g2, _ => by simpa using h2.agree' g2
  | S, S1, S2, o, e :: es, fs, h1, h2, g1, g2, g3 => by
    simp only [OwnRow] at h1
    obtain ⟨x, T1, T2, a1, a2, a3, k1, k2, k3, k4, k5⟩ := h1
    simp only [List.cons_append, OwnRow]
    refine ⟨x, T1, fun b => T2 b ∨ S2 b, fun b hb => g1 b (a1 b hb), fun b hb => hb.elim (fun hb => g1 b (a2 b hb)) (g2 b), fun b hb h => h.elim (a3 b hb) (g3 b (a1 b hb)), k1, k2, k3, k4, ?_⟩
    refine OwnRow.app k5 ?_ (fun b hb => .inl hb) (fun b hb => .inr hb) (fun b hb => g3 b (a2 b hb))
    rw [show o + sz + es.length * sz = o + (e :: es).length * sz by simp only [List.length_cons, Nat.add_mul]; omega]
    exact h2

/-- The row's cells stand elsewhere now. -/
theorem OwnRow.move {w w' : World} {d : Bool} {F : Nat → Prop} {b b' sz : Nat} (hF : Agree F w w') : ∀ {S : Nat → Prop} {o o' : Nat} {es : List AV}, Agree S w w' → OwnRow w d F S b sz o es →
    (∀ j v, j < es.length * sz → w.cell? ⟨b, o + j, none⟩ = some v → w'.cell? ⟨b', o' + j, none⟩ = some v) → OwnRow w' d F S b' sz o' es
  | _, _, _, [], _, _, _ => by simp [OwnRow]
  | S, o, o', e :: es, hS, h, hc => by
    simp only [OwnRow] at h ⊢
    obtain ⟨x, T1, T2, a1, a2, a3, k1, k2, k3, k4, k5⟩ := h
    refine ⟨x, T1, T2, a1, a2, a3, Own.agree (fun _ h => h) hF (fun _ h => h) (hS.mono a1) _ _ k1, k2, k3, fun j v hj => ?_, OwnRow.move hF (hS.mono a2) k5 fun j v hj hv => ?_⟩
    · have hlt := (List.getElem?_eq_some_iff.1 hj).1
      simp at hlt
      exact hc j v (by simp only [List.length_cons, Nat.add_mul]; omega) (k4 j v hj)
    · rw [Nat.add_assoc] at hv ⊢
      exact hc (sz + j) v (by simp only [List.length_cons, Nat.add_mul]; omega) hv

/-- Elements that are numbers alone: nothing hangs on them. -/
theorem OwnRow.scal_of {w : World} {d : Bool} {F S : Nat → Prop} {b sz : Nat} : ∀ {o : Nat} {es : List AV}, (∀ (i : Nat) (e : AV), es[i]? = some e → ∃ x F', Rep w F' e x ∧ x.cells.size = sz ∧ e.cells.length = sz ∧ At w b (o + i * sz) x.cells.toList) → es.all scal = true → OwnRow w d F S b sz o es
  | _, [], _, _ => by simp [OwnRow]
  | o, e :: es, h, hs => by
    simp only [List.all_cons, Bool.and_eq_true] at hs
    obtain ⟨x, F', h1, h2, h3, h4⟩ := h 0 e rfl
    simp only [OwnRow]
    refine ⟨x, fun _ => False, fun _ => False, fun _ h => h.elim, fun _ h => h.elim, fun _ h => h.elim, ?_, h2, h3, by simpa using h4, OwnRow.scal_of (fun i e' hi => ?_) hs.2⟩
    · exact Own.scal (E := ⟨F', fun _ => undef, fun _ _ => False⟩) h1 hs.1
    · obtain ⟨x, F', g1, g2, g3, g4⟩ := h (i + 1) e' (by simpa using hi)
      refine ⟨x, F', g1, g2, g3, ?_⟩
      rw [show o + sz + i * sz = o + (i + 1) * sz by rw [Nat.add_mul]; omega]; exact g4

/-- The cells of a row, in a list. -/
theorem OwnRow.list {w : World} {d : Bool} {F : Nat → Prop} {b sz : Nat} : ∀ {S : Nat → Prop} {o : Nat} {es : List AV}, OwnRow w d F S b sz o es → (es.all fun e => flat e.cells) = true →
    ∃ l : List Value, l.length = es.length * sz ∧ (∀ j v, l[j]? = some v → w.cell? ⟨b, o + j, none⟩ = some v) ∧ ∀ v ∈ l, v.oneCell' = true
  | _, _, [], _, _ => ⟨[], by simp, by simp, by simp⟩
  | S, o, e :: es, h, hf => by
    simp only [OwnRow] at h
    obtain ⟨x, T1, T2, a1, a2, a3, k1, k2, k3, k4, k5⟩ := h
    simp only [List.all_cons, Bool.and_eq_true] at hf
    obtain ⟨l, g1, g2, g3⟩ := k5.list hf.2
    have hxl : x.cells.toList.length = sz := by simpa using k2
    refine ⟨x.cells.toList ++ l, by simp only [List.length_append, hxl, g1, List.length_cons, Nat.add_mul]; omega, fun j v hj => ?_, fun v hv => ?_⟩
    · by_cases hlt : j < sz
      · rw [List.getElem?_append_left (by omega)] at hj; exact k4 j v hj
      · rw [List.getElem?_append_right (by omega), hxl] at hj
        have := g2 (j - sz) v hj
        rw [show o + sz + (j - sz) = o + j by omega] at this; exact this
    · rcases List.mem_append.1 hv with hv | hv
      · exact (k1.flatL hf.1).flat hf.1 v hv
      · exact g3 v hv

theorem OwnRow.list0 {w : World} {d : Bool} {F : Nat → Prop} {b sz : Nat} : ∀ {S : Nat → Prop} {o : Nat} {es : List AV}, OwnRow w d F S b sz o es →
    ∃ l : List Value, l.length = es.length * sz ∧ (∀ j v, l[j]? = some v → w.cell? ⟨b, o + j, none⟩ = some v)
  | _, _, [], _ => ⟨[], by simp, by simp⟩
  | S, o, e :: es, h => by
    simp only [OwnRow] at h
    obtain ⟨x, T1, T2, a1, a2, a3, k1, k2, k3, k4, k5⟩ := h
    obtain ⟨l, g1, g2⟩ := k5.list0
    have hxl : x.cells.toList.length = sz := by simpa using k2
    refine ⟨x.cells.toList ++ l, by simp only [List.length_append, hxl, g1, List.length_cons, Nat.add_mul]; omega, fun j v hj => ?_⟩
    by_cases hlt : j < sz
    · rw [List.getElem?_append_left (by omega)] at hj; exact k4 j v hj
    · rw [List.getElem?_append_right (by omega), hxl] at hj
      have := g2 (j - sz) v hj
      rw [show o + sz + (j - sz) = o + j by omega] at this; exact this

section
variable {P : Program} {w : World}

/-- What 'append' does to memory. -/
theorem run_grow {t ty el : TypeId} {te : TI} (hu : P.underlying t = some (.slice el)) (hte : TOk P el te) (_hpos : 0 < te.size)
    {ad : Option Addr} {len cap : Nat} {xs : List Value} (hm : cap ≤ maxLen)
    (hx : (ad = none ∧ len = 0 ∧ cap = 0 ∧ xs = []) ∨ ∃ b o cur T, ad = some ⟨b, o, none⟩ ∧ w.heap[b]? = some (.cells cur T (0, 0)) ∧ o + cap * te.size ≤ cur.size ∧ len ≤ cap ∧ xs.length = len * te.size ∧ ∀ j v, xs[j]? = some v → w.cell? ⟨b, o + j, none⟩ = some v)
    {ad2 : Option Addr} {m c2 : Nat} {news : List Value} (hnl : news.length = m * te.size) (hone : ∀ v ∈ news, v.oneCell' = true)
    (hy : m = 0 ∨ ∃ b2 o2, ad2 = some ⟨b2, o2, none⟩ ∧ ∀ j v, news[j]? = some v → w.cell? ⟨b2, o2 + j, none⟩ = some v)
    (h63 : len + m ≤ maxLen) (hbytes : (len + m) * te.bytes ≤ 140737488355328) :
    ∃ ad' cap' w', (Builtin.append_ #[t, t] ty #[.slice ad len cap, .slice ad2 m c2]).run P w = .ok (.slice ad' (len + m) cap') w' ∧ cap' ≤ maxLen ∧
      ((ad' = none ∧ ad = none ∧ m = 0 ∧ cap' = 0 ∧ w' = w) ∨
        ∃ b' o' cur' T', ad' = some ⟨b', o', none⟩ ∧ w'.heap[b']? = some (.cells cur' T' (0, 0)) ∧ o' + cap' * te.size ≤ cur'.size ∧ len + m ≤ cap' ∧ (ad = none → 0 < m) ∧
          (∀ j v, (xs ++ news)[j]? = some v → w'.cell? ⟨b', o' + j, none⟩ = some v) ∧
          ((b' = w.heap.size ∧ Frm (fun _ => False) w w' ∧ b' < w'.heap.size) ∨ ((∃ o1, ad = some ⟨b', o1, none⟩) ∧ Frm (fun b => b = b') w w' ∧ w'.heap.size = w.heap.size))) := by
  obtain ⟨i, hi, hi1, hi2, hi3⟩ := hte.info
  have hsz := hi1
  have hfirst : ∀ w1 : World, (∀ a, w1.cell? a = w.cell? a) → (Builtin.firstCells i.size m (.slice ad2 m c2)).run P w1 = .ok news.toArray w1 := by
    intro w1 hw1
    rcases hy with rfl | ⟨b2, o2, rfl, hy⟩
    · have : news = [] := List.eq_nil_of_length_eq_zero (by simpa using hnl)
      subst this
      cases ad2 with
      | none => simp [Builtin.firstCells]
      | some a2 => exact run_firstCells_some w1 i.size 0 a2 0 c2 [] (by simp) (by simp)
    · exact run_firstCells_some w1 i.size m ⟨b2, o2, none⟩ m c2 news (by rw [hnl, hsz]) (fun j v hj => by rw [hw1, add_addr]; exact hy j v hj)
  by_cases hroom : len + m ≤ cap
  · -- in its place
    rcases hx with ⟨rfl, rfl, rfl, rfl⟩ | ⟨b, o, cur, T, rfl, hg, hfit, hlc, hxl, hxc⟩
    · obtain rfl : m = 0 := by omega
      refine ⟨none, 0, w, ?_, hm, .inl ⟨rfl, rfl, rfl, rfl, rfl⟩⟩
      have := hfirst w (fun _ => rfl)
      simp [Builtin.append_, run_underlying hu, sizeOf, typeInfo, hi, Builtin.lenOf, this]
    · have hmul : (len + m) * te.size ≤ cap * te.size := Nat.mul_le_mul_right _ hroom
      rw [Nat.add_mul] at hmul
      have hfit' : o + len * te.size + news.length ≤ cur.size := by rw [hnl]; omega
      have hst := run_storeCells_at (P := P) b (o + len * te.size) T news 0 cur w hg (by simpa using hfit') hone
      simp only [Nat.add_zero] at hst
      have hf := hfirst w (fun _ => rfl)
      rw [hsz] at hf
      refine ⟨some ⟨b, o, none⟩, cap, w.setRow b (cur.toList.take (o + len * te.size) ++ news ++ cur.toList.drop (o + len * te.size + news.length)).toArray, ?_, hm, .inr ⟨b, o, _, T, rfl, setRow_heap w b cur _ T (0, 0) hg, ?_, hroom, (fun h => by simp at h), ?_, .inr ⟨⟨o, rfl⟩, ⟨rfl, rfl, rfl, by simp [World.setRow], fun k _ hk => setRow_other w b k _ hk⟩, by simp [World.setRow]⟩⟩⟩
      · simp [Builtin.append_, run_underlying hu, sizeOf, typeInfo, hi, Builtin.lenOf, hroom, hf, add_addr, hst, hsz]
      · simp only [List.size_toArray, List.length_append, List.length_take, List.length_drop, Array.length_toList]
        omega
      · intro j v hj
        rw [cell_setRow hg hfit']
        by_cases hlt : j < len * te.size
        · rw [if_neg (by omega)]
          rw [List.getElem?_append_left (by omega)] at hj
          exact hxc j v hj
        · rw [List.getElem?_append_right (by omega), hxl] at hj
          have := (List.getElem?_eq_some_iff.1 hj).1
          rw [if_pos ⟨by omega, by omega⟩]
          rw [show o + j - (o + len * te.size) = j - len * te.size by omega]; exact hj
  · -- elsewhere
    have hmpos : 0 < m := by rcases hx with ⟨_, rfl, rfl, _⟩ | ⟨_, _, _, _, _, _, _, h, _⟩ <;> omega
    obtain ⟨b2, o2, rfl, hy2⟩ := hy.resolve_left (by omega)
    have hge := grownCap_ge w (len + m) cap el
    have hcm : grownCap w (len + m) cap el ≤ maxLen := grownCap_le_maxLen w (len + m) cap el h63
    have h63' : ((len + m : Nat) : Int) ≤ 9223372036854775807 := by simp only [maxLen] at h63; omega
    have hn2 : ∀ j v, news[j]? = some v → w.cell? ((⟨b2, o2, none⟩ : Addr).add j) = some v := fun j v hj => by rw [add_addr]; exact hy2 j v hj
    have hxlen : xs.length = len * i.size := by rcases hx with ⟨_, rfl, _, rfl⟩ | ⟨_, _, _, _, _, _, _, _, h, _⟩; simp; rw [hsz]; exact h
    refine ⟨some ⟨w.heap.size, 0, none⟩, grownCap w (len + m) cap el, w.drew.alloc (.cells (xs.toArray ++ news.toArray ++ Builtin.zeroCells te.zero.cells (grownCap w (len + m) cap el - (len + m))) el), ?_, hcm, .inr ⟨w.heap.size, 0, _, el, rfl, heap_alloc_new w.drew _, ?_, hge, (fun _ => hmpos), ?_, .inl ⟨rfl, ⟨rfl, rfl, rfl, by simp, fun k hk _ => heap_alloc_old w.drew _ hk⟩, by simp⟩⟩⟩
    · rcases hx with ⟨rfl, rfl, rfl, rfl⟩ | ⟨b, o, cur, T, rfl, hg, hfit, hlc, hxl, hxc⟩
      · have := run_append_nil (P := P) w t ty el i te.zero hu hi hi3 ⟨b2, o2, none⟩ m c2 news (by rw [hnl, hsz]) hn2 (by omega) (by simp only [Nat.zero_add] at h63'; exact h63') (by rw [hi2]; simp only [Nat.zero_add] at hbytes; omega)
        simpa using this
      · exact run_append_grow (P := P) w t ty el i te.zero hu hi hi3 ⟨b, o, none⟩ len cap xs hxlen (fun j v hj => by rw [add_addr]; exact hxc j v hj) ⟨b2, o2, none⟩ m c2 news (by rw [hnl, hsz]) hn2 (by omega) h63' (growslice_fits (by omega) (by rw [hi2]; exact hbytes))
    · simp only [Array.size_append, List.size_toArray, size_zeroCells, hte.size, hxlen, hnl, hsz, ← Nat.add_mul]
      rw [show len + m + (grownCap w (len + m) cap el - (len + m)) = grownCap w (len + m) cap el by omega]; omega
    · intro j v hj
      have hcell := cell_of_row (w.drew.alloc (.cells (xs.toArray ++ news.toArray ++ Builtin.zeroCells te.zero.cells (grownCap w (len + m) cap el - (len + m))) el)) w.heap.size j _ el (0, 0) (heap_alloc_new w.drew _)
      rw [Nat.zero_add, hcell]
      have hlt := (List.getElem?_eq_some_iff.1 hj).1
      rw [← Array.getElem?_toList]
      simp only [Array.toList_append]
      rw [List.getElem?_append_left (by simpa using hlt)]
      exact hj

end
end Go.Proofs.Ytehfjhenilkofaa.Ax
