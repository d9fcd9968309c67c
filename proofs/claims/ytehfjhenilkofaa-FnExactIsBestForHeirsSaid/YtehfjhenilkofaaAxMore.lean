/-
  More operations: fields, parts of a tuple, new slices, structs, max and min. No condition.
-/
import Derived.Test.YtehfjhenilkofaaAxMut
import Derived.Lib.MinMax
namespace Go.Proofs.Ytehfjhenilkofaa.Ax
open Go Go.RowKit
section
variable {P : Program} {C : Ctx} {o : Oper} {a : Act} {w : World} {U : Ld} {w0 : World} {st : ASt} {E : Env}

theorem goes_fieldAddr (hC : C.Ok P) (hs : SR U w0 st E a w) {t : TypeId} {x : Operand} {f : Nat} (ho : o.op = .fieldAddr t x f) {out : Out} (h : aop C (.fieldAddr t x f) st.slots st.toks = some out) : Goes P o a w U w0 out := by
  simp only [aop] at h
  split at h
  · rename_i ti hti
    have hu := Go.run_underlying (P := P) (hC.T t ti hti).desc
    split at h
    · rename_i fields hd
      rw [hd] at hu
      split at h
      · rename_i fd hf
        split at h
        · rename_i tf htf
          have hsz := run_size (P := P) (w := w) (hC.T _ _ htf)
          split at h
          · rename_i hpos
            have hne : tf.size ≠ 0 := by omega
            have hx := hs.ev x
            have hrun : ∀ b o', a.eval x = .pointer (some ⟨b, o', none⟩) → (execOp a.eval o).run P w = .ok (.value (.pointer (some ⟨b, o' + fd.offset, none⟩))) w := by
              intro b o' hy
              simp [execOp, ho, Instr.fieldAt, hu, hf, Instr.sureAddr, hy, fieldPlace, hsz, hne, add_addr]
            split at h
            · rename_i k p i j hp
              split at h
              · rename_i tk htk
                split at h
                · rename_i nl sz es hg
                  split at h
                  · rename_i hlt
                    simp only [Option.some.injEq] at h; subst h
                    rw [hp] at hx
                    simp only [SRep] at hx
                    obtain ⟨b, o', l, c, _, hy⟩ := hx.2 tk nl sz es htk hg hlt
                    refine goes_pure (y := .pointer (some ⟨b, o' + i * sz + j + fd.offset, none⟩)) hs (hrun b _ hy) ?_
                    simp only [SRep]
                    refine ⟨hx.1, fun tk nl sz es h1 h2 h3 => ?_⟩
                    obtain ⟨b1, o1, l1, c1, g1, g2⟩ := hx.2 tk nl sz es h1 h2 h3
                    rw [hy] at g2
                    simp only [Value.pointer.injEq, Option.some.injEq, Addr.mk.injEq, and_true] at g2
                    exact ⟨b1, o1, l1, c1, g1, by rw [g2.1, g2.2, Nat.add_assoc]⟩
                  · simp at h
                · simp at h
              · simp at h
            · rename_i e j hp
              simp only [Option.some.injEq] at h; subst h
              rw [hp] at hx
              simp only [SRep, Rep] at hx
              obtain ⟨b, o', z, hy, h1, h2, h3, h4⟩ := hx
              refine goes_pure (y := .pointer (some ⟨b, o' + j + fd.offset, none⟩)) hs (hrun b _ hy) ?_
              simp only [SRep, Rep]
              exact ⟨b, o', z, by rw [Nat.add_assoc], h1, h2, h3, h4⟩
            · simp at h
          · simp at h
        · simp at h
      · simp at h
    · simp at h
  · simp at h

theorem goes_extract (hs : SR U w0 st E a w) {x : Operand} {i : Nat} (ho : o.op = .extract x i) {out : Out} (h : aop C (.extract x i) st.slots st.toks = some out) : Goes P o a w U w0 out := by
  simp only [aop] at h
  split at h
  · rename_i vs hv
    split at h
    · rename_i v hi
      simp only [Option.some.injEq] at h; subst h
      have hx := hs.ev x
      rw [hv] at hx
      simp only [SRep] at hx
      obtain ⟨ys, hy, hl⟩ := hx
      obtain ⟨y, h1, h2⟩ := SRepL.get hl i v hi
      refine goes_pure (y := y) hs ?_ h2
      have h1' : ys[i]? = some y := by simpa using h1
      simp [execOp, ho, Instr.extract, hy, h1']
    · simp at h
  · simp at h

theorem goes_max (hs : SR U w0 st E a w) {x y : Operand} {ts : Array TypeId} (ho : o.op = .call { callee := .builtin .max, args := #[x, y], argTypes := ts }) {k k' : IntKind} {m n : Int} (hx : ev st.slots x = .v (.int k m)) (hy : ev st.slots y = .v (.int k' n)) : Goes P o a w U w0 ⟨.v (.int k (max m n)), st.slots, st.toks⟩ := by
  have e1 := SRep_v (hs.ev x) hx
  have e2 := SRep_v (hs.ev y) hy
  refine goes_pure (y := .int k (max m n)) hs ?_ (by simp [SRep, Value.oneCell'])
  simp [execOp, ho, resolve, invoke, builtin, e1, e2, Lib.run_max_ints]

theorem goes_min (hs : SR U w0 st E a w) {x y : Operand} {ts : Array TypeId} (ho : o.op = .call { callee := .builtin .min, args := #[x, y], argTypes := ts }) {k k' : IntKind} {m n : Int} (hx : ev st.slots x = .v (.int k m)) (hy : ev st.slots y = .v (.int k' n)) : Goes P o a w U w0 ⟨.v (.int k (min m n)), st.slots, st.toks⟩ := by
  have e1 := SRep_v (hs.ev x) hx
  have e2 := SRep_v (hs.ev y) hy
  refine goes_pure (y := .int k (min m n)) hs ?_ (by simp [SRep, Value.oneCell'])
  simp [execOp, ho, resolve, invoke, builtin, e1, e2, Lib.run_min_ints]

/-- A new row of the call's own, a slice over it. -/
theorem SR.newRow (hs : SR U w0 st E a w) {w1 : World} {t : TypeId} {cs : Array Value} {es : List AV} {sz cap : Nat} {deep : Bool} (hw1 : Frm (fun _ => False) w w1) (hsz1 : w1.heap.size = w.heap.size) (hcap : es.length ≤ cap) (hm : cap ≤ maxLen) (hfit : cap * sz ≤ cs.size)
    (hrow : ∀ w', Agree (fun b => b < w.heap.size) w w' → w'.heap[w.heap.size]? = some (.cells cs t (0, 0)) → OwnRow w' deep E.F (fun _ => False) w.heap.size sz 0 es) :
    ∃ E' : Env, SR U w0 ⟨st.slots, st.toks ++ [⟨deep, .sl false sz es⟩]⟩ E' a (w1.alloc (.cells cs t)) ∧
      SRep (w1.alloc (.cells cs t)) E' (st.toks ++ [⟨deep, .sl false sz es⟩]) (.ref st.toks.length [] 0 es.length) (.slice (some ⟨w.heap.size, 0, none⟩) es.length cap) := by
  have hg1 := hs.grow hw1
  have hfr := frm_alloc (w := w1) (.cells cs t)
  have hg := hg1.grow hfr
  have hself : (w1.alloc (.cells cs t)).heap[w.heap.size]? = some (.cells cs t (0, 0)) := by rw [← hsz1]; exact heap_alloc_self _
  obtain ⟨E', h1, h2, h3, _, h4⟩ := hg.newTok ⟨deep, .sl false sz es⟩ (.slice (some ⟨w.heap.size, 0, none⟩) es.length cap) (fun b => b = w.heap.size)
    (fun b hb => by subst hb; exact ⟨.inl hs.frame.size, by simp [hsz1], fun h => Nat.lt_irrefl _ (hs.allLt _ h)⟩) (.inr ⟨false, sz, es, rfl, by
      refine ⟨_, es.length, cap, rfl, rfl, hcap, hm, .inr ⟨w.heap.size, 0, cs, t, rfl, rfl, rfl, hself, by omega, ?_⟩⟩
      exact (hrow _ (fun b hb => by rw [hfr.block b (by rw [hsz1]; exact hb) id]; exact hw1.block b hb id) hself).agree' fun _ h => h.elim⟩)
  refine ⟨E', h4, ?_⟩
  simp only [SRep]
  refine ⟨by simp, fun tk nl sz' es' k1 k2 k3 => ?_⟩
  simp at k1; subst k1
  simp only [getAt, AV.sl.injEq] at k2
  obtain ⟨rfl, rfl, rfl⟩ := k2
  exact ⟨.slice (some ⟨w.heap.size, 0, none⟩) es.length cap, by simp only [follow]; exact congrArg some h2, .inr (.inr ⟨w.heap.size, 0, es.length, cap, 0, rfl, by simp, .inl (by omega)⟩)⟩

/-- A row of equal elements that lead nowhere. -/
theorem OwnRow_rep {w' : World} {d : Bool} {F : Nat → Prop} {b sz : Nat} {e : AV} {z : Value} (he : ∀ S, Own w' d F S e z) (hz : z.cells.size = sz) (hes : e.cells.length = sz) : ∀ (n o : Nat), (∀ i, i < n → At w' b (o + i * sz) z.cells.toList) → OwnRow w' d F (fun _ => False) b sz o (List.replicate n e)
  | 0, _, _ => by simp [OwnRow]
  | n + 1, o, h => by
    simp only [List.replicate_succ, OwnRow]
    refine ⟨z, fun _ => False, fun _ => False, fun _ h => h, fun _ h => h, fun _ h => h.elim, he _, hz, hes, by simpa using h 0 (by omega), OwnRow_rep he hz hes n (o + sz) fun i hi => ?_⟩
    have := h (i + 1) (by omega)
    rw [show o + (i + 1) * sz = o + sz + i * sz from by rw [Nat.add_mul]; omega] at this; exact this

theorem goes_makeSlice (hC : C.Ok P) (hs : SR U w0 st E a w) {t : TypeId} {l c : Operand} (ho : o.op = .makeSlice t l c) {out : Out} (h : aop C (.makeSlice t l c) st.slots st.toks = some out) : Goes P o a w U w0 out := by
  simp only [aop] at h
  split at h
  · rename_i ti n n' hti hl hc
    obtain ⟨kl, el⟩ := ev_int hs hl
    obtain ⟨kc, ec⟩ := ev_int hs hc
    split at h
    · rename_i el' hd
      split at h
      · rename_i te hte
        split at h
        · rename_i hcond
          obtain ⟨rfl, hb, hn63⟩ := hcond
          simp only [Option.some.injEq] at h; subst h
          have ht := hC.T t ti hti
          have hte' := hC.T _ te hte
          have hu := ht.desc
          rw [hd] at hu
          obtain ⟨i, hi, hi1, hi2, hi3⟩ := hte'.info
          have hrun := run_make (P := P) w t el' i te.zero hu hi hi3 kl kc n n (by omega) (by omega) (by rw [hi2]; omega) (by omega)
          simp only [Int.toNat_natCast] at hrun
          have hmsz : (madeCells te.zero.cells (n * i.size)).size = n * te.size := by rw [size_madeCells, hi1]
          intro hd0 next Q hn
          obtain ⟨E', g1, g2⟩ := hs.newRow (w1 := w) (t := el') (cs := madeCells te.zero.cells (n * i.size)) (es := List.replicate n (ofV te.zero)) (sz := te.size) (cap := n) (deep := true) (Frm.refl _ _) rfl (by simp) (by simp [maxLen]; omega) (by rw [hmsz]; exact Nat.le_refl _)
            (fun w' hA hself => OwnRow_rep (fun S => Own_ofV _) hte'.size (by rw [← cells_ofV, hte'.size]) n 0 fun i' hi' j y hj => by
              have hjl : j < te.size := by have := (List.getElem?_eq_some_iff.1 hj).1; simpa [hte'.size] using this
              have hlt : i' * te.size + j < n * te.size := by
                have := Nat.mul_le_mul_right te.size (show i' + 1 ≤ n by omega)
                rw [Nat.add_mul] at this; omega
              simp only [World.cell?, hself, Option.isSome_none, Bool.false_eq_true, if_false, Nat.zero_add]
              rw [Array.getElem?_eq_getElem (by rw [hmsz]; exact hlt)]
              simp only [madeCells, Array.getElem_map, Array.getElem_range]
              have hmod : (i' * te.size + j) % te.zero.cells.size = j := by
                rw [hte'.size, Nat.mul_comm, Nat.mul_add_mod]; exact Nat.mod_eq_of_lt hjl
              rw [hmod]
              have : te.zero.cells[j]? = some y := by simpa using hj
              rw [getElem!_def, this])
          simp only [List.length_replicate] at g2
          refine wp_val (y := .slice (some ⟨w.heap.size, 0, none⟩) n n) (w' := w.alloc (.cells (madeCells te.zero.cells (n * i.size)) el')) ?_ (hn E' _ _ (SR.put g1 o.dst hd0 g2))
          simp [execOp, ho, el, ec, hrun]
        · simp at h
      · simp at h
    · simp at h
  · simp at h

theorem RepL.srep {toks : List Tok} : ∀ {xs : List AV} {ys : List Value}, RepL w E.F xs ys → SRepL w E toks xs ys := fun {xs ys} h => SRepL.of_rep xs ys h

theorem part_cells (hs : SR U w0 st E a w) {x : AV} {y : Value} (h : SRep w E st.toks x y) (hp : partOk st.toks x = true) : SRepL w E st.toks x.cells y.cells.toList ∧ y.cells.size = x.cells.length := by
  simp only [partOk, Bool.or_eq_true] at hp
  by_cases hf : Ax.frz x = true
  · have hr := h.frz hf
    refine ⟨(hr.cellsL hf).1.srep, hr.cellsN (by rintro rfl; simp [Ax.frz] at hf)⟩
  · have hl := hp.resolve_left hf
    obtain ⟨n, hn⟩ := Option.isSome_iff_exists.1 hl
    obtain ⟨ad, cap, rfl⟩ := lenAV_ok hs h hn
    have hc : x.cells = [x] := by
      cases x <;> first | rfl | (simp [lenAV] at hn)
    rw [hc]
    exact ⟨by simp only [Value.cells, SRepL]; exact ⟨_, [], rfl, h, rfl⟩, rfl⟩

theorem foldl_put : ∀ (l : List Value) (k off : Nat) (cs : Array Value), off + k + l.length ≤ cs.size →
    ((l.zipIdx k).foldl (fun cs p => cs.setIfInBounds (off + p.2) p.1) cs).toList = cs.toList.take (off + k) ++ l ++ cs.toList.drop (off + k + l.length)
  | [], k, off, cs, _ => by simp
  | v :: l, k, off, cs, h => by
    simp only [List.zipIdx_cons, List.foldl_cons]
    simp only [List.length_cons] at h
    rw [foldl_put l (k + 1) off _ (by simp; omega)]
    apply List.ext_getElem?
    intro i
    simp only [Array.toList_setIfInBounds, List.length_cons]
    have hl1 : ((cs.toList.set (off + k) v).take (off + (k + 1))).length = off + k + 1 := by simp; omega
    have hl2 : (cs.toList.take (off + k)).length = off + k := by simp; omega
    by_cases h1 : i < off + k
    · rw [List.append_assoc, List.getElem?_append_left (by omega), List.getElem?_take, if_pos (by omega), List.getElem?_set_ne (by omega), List.append_assoc, List.getElem?_append_left (by omega), List.getElem?_take, if_pos h1]
    · by_cases h2 : i = off + k
      · subst h2
        rw [List.append_assoc, List.getElem?_append_left (by omega), List.getElem?_take, if_pos (by omega), List.getElem?_set_self (by simp; omega), List.append_assoc, List.getElem?_append_right (by omega), hl2]
        simp
      · by_cases h3 : i < off + k + 1 + l.length
        · rw [List.getElem?_append_left (by simp; omega), List.getElem?_append_right (by omega), hl1, List.getElem?_append_left (by simp; omega), List.getElem?_append_right (by omega), hl2]
          rw [show i - (off + k) = (i - (off + k + 1)) + 1 by omega]
          simp
        · rw [List.getElem?_append_right (by simp; omega), List.getElem?_append_right (by simp; omega), List.getElem?_drop, List.getElem?_drop, List.getElem?_set_ne (by simp; omega)]
          congr 1; simp; omega

theorem SRepL.take {toks : List Tok} : ∀ {xs : List AV} {ys : List Value} (n : Nat), SRepL w E toks xs ys → SRepL w E toks (xs.take n) (ys.take n)
  | [], ys, n, h => by simp only [SRepL] at h; subst h; simp [SRepL]
  | x :: xs, ys, 0, h => by simp [SRepL]
  | x :: xs, ys, n + 1, h => by
    simp only [SRepL] at h
    obtain ⟨y, ys, rfl, h1, h2⟩ := h
    simp only [List.take_succ_cons, SRepL]
    exact ⟨y, _, rfl, h1, h2.take n⟩

theorem SRepL.drop {toks : List Tok} : ∀ {xs : List AV} {ys : List Value} (n : Nat), SRepL w E toks xs ys → SRepL w E toks (xs.drop n) (ys.drop n)
  | [], ys, n, h => by simp only [SRepL] at h; subst h; simp [SRepL]
  | x :: xs, ys, 0, h => by simpa using h
  | x :: xs, ys, n + 1, h => by
    simp only [SRepL] at h
    obtain ⟨y, ys, rfl, h1, h2⟩ := h
    simpa using h2.drop n

theorem SRepL.app {toks : List Tok} : ∀ {xs xs' : List AV} {ys ys' : List Value}, SRepL w E toks xs ys → SRepL w E toks xs' ys' → SRepL w E toks (xs ++ xs') (ys ++ ys')
  | [], xs', ys, ys', h, h' => by simp only [SRepL] at h; subst h; simpa using h'
  | x :: xs, xs', ys, ys', h, h' => by
    simp only [SRepL] at h
    obtain ⟨y, ys, rfl, h1, h2⟩ := h
    simp only [List.cons_append, SRepL]
    exact ⟨y, _, rfl, h1, h2.app h'⟩

theorem SRepL.len {toks : List Tok} : ∀ {xs : List AV} {ys : List Value}, SRepL w E toks xs ys → ys.length = xs.length
  | [], ys, h => by simp only [SRepL] at h; simp [h]
  | x :: xs, ys, h => by
    simp only [SRepL] at h
    obtain ⟨y, ys, rfl, _, h2⟩ := h
    simp [h2.len]

theorem bld_ok (hC : C.Ok P) {fields : Array Field} {places : Nat → Option (Nat × Nat)} (hpl : ∀ i f tf, fields[i]? = some f → C.T f.type = some tf → places i = some (f.offset, tf.size)) :
    ∀ (ps : List (Nat × AV)) (vs : List (Nat × Value)) (cells out : List AV) (cs : Array Value), ps.length = vs.length →
      (∀ (j : Nat) (p : Nat × AV) (v : Nat × Value), ps[j]? = some p → vs[j]? = some v → p.1 = v.1 ∧ SRepL w E st.toks p.2.cells v.2.cells.toList ∧ v.2.cells.size = p.2.cells.length) →
      SRepL w E st.toks cells cs.toList → bld C fields.toList ps cells = some out → ∃ cs', Instr.fill places cs vs = some cs' ∧ SRepL w E st.toks out cs'.toList
  | [], vs, cells, out, cs, hl, _, hc, h => by
    simp only [bld, Option.some.injEq] at h; subst h
    have : vs = [] := List.length_eq_zero_iff.1 hl.symm
    subst this
    exact ⟨cs, rfl, hc⟩
  | (i, x) :: ps, [], _, _, _, hl, _, _, _ => by simp at hl
  | (i, x) :: ps, (i', v) :: vs, cells, out, cs, hl, hp, hc, h => by
    obtain ⟨e1, e2, e3⟩ := hp 0 (i, x) (i', v) (by simp) (by simp)
    simp only at e1 e2 e3
    subst e1
    simp only [bld] at h
    split at h
    · rename_i f hf
      split at h
      · rename_i tf htf
        split at h
        · rename_i hcond
          obtain ⟨hsz, hfit⟩ := hcond
          have hf' : fields[i]? = some f := by simpa using hf
          have hpi := hpl i f tf hf' htf
          have hcl := hc.len
          simp only [Array.length_toList] at hcl
          simp only [Instr.fill, hpi]
          have hvs : v.cells.size = tf.size := by rw [e3, hsz]
          have hno : (v.cells.size ≠ tf.size || decide (f.offset + v.cells.size > cs.size)) = false := by simp [hvs]; omega
          rw [hno]
          simp only [Bool.false_eq_true, if_false]
          have hfold := foldl_put v.cells.toList 0 f.offset cs (by simp [hvs]; omega)
          have harr : (v.cells.zipIdx.foldl (fun cs x => match x with | (c, j) => cs.setIfInBounds (f.offset + j) c) cs) = (v.cells.toList.zipIdx 0).foldl (fun cs p => cs.setIfInBounds (f.offset + p.2) p.1) cs := by
            rw [← Array.foldl_toList, Array.toList_zipIdx]
          rw [harr]
          refine bld_ok hC hpl ps vs _ out _ (by simpa using hl) (fun j p v' h1 h2 => hp (j + 1) p v' (by simpa using h1) (by simpa using h2)) ?_ h
          rw [hfold]
          simp only [Nat.add_zero, Array.length_toList, hvs]
          exact ((hc.take _).app e2).app (hc.drop _)
        · simp at h
      · simp at h
    · simp at h

theorem run_places (hC : C.Ok P) : ∀ (fields : List Field), (∀ f ∈ fields, ∃ tf, C.T f.type = some tf) →
    ((fields.mapM fun f => do pure (f.offset, ← sizeOf f.type)) : Sem (List (Nat × Nat))).run P w = .ok (fields.map fun f => (f.offset, ((C.T f.type).map (·.size)).getD 0)) w
  | [], _ => by simp
  | f :: fields, h => by
    obtain ⟨tf, htf⟩ := h f (by simp)
    rw [List.mapM_cons]
    simp only [Sem.run_bind, run_size (hC.T _ _ htf), Result.andThen_ok, Sem.run_pure]
    have ih := run_places hC fields fun f hf => h f (by simp [hf])
    rw [ih]
    simp [htf]

theorem goes_build (hC : C.Ok P) (hs : SR U w0 st E a w) {t : TypeId} {parts : Array (Nat × Operand)} (ho : o.op = .build t parts) {out : Out} (h : aop C (.build t parts) st.slots st.toks = some out) : Goes P o a w U w0 out := by
  simp only [aop] at h
  split at h
  · rename_i ti hti
    have ht := hC.T t ti hti
    split at h
    · rename_i fields hd
      split at h
      · simp at h
      · rename_i hparts
        simp only [Option.map_eq_some_iff] at h
        obtain ⟨cells, hb, rfl⟩ := h
        have hu := Go.run_underlying (P := P) ht.desc
        rw [hd] at hu
        simp only [not_or, Bool.not_eq_false, List.all_eq_true] at hparts
        have hfl : ∀ f ∈ fields.toList, ∃ tf, C.T f.type = some tf := fun f hf => Option.isSome_iff_exists.1 (hparts.2 f hf)
        have hpl := run_places (w := w) hC fields.toList hfl
        let places : Nat → Option (Nat × Nat) := fun i => (fields.toList.map fun f => (f.offset, ((C.T f.type).map (·.size)).getD 0))[i]?
        obtain ⟨cs', g1, g2⟩ := bld_ok (w := w) (st := st) (E := E) (places := places) hC (fields := fields) (fun i f tf h1 h2 => by
            have h1' : fields.toList[i]? = some f := by simpa using h1
            show (fields.toList.map _)[i]? = _
            rw [List.getElem?_map, h1']; simp [h2])
          (parts.toList.map fun p => (p.1, ev st.slots p.2)) (parts.toList.map fun p => (p.1, a.eval p.2)) _ cells ti.zero.cells (by simp) (fun j p v h1 h2 => by
            rw [List.getElem?_map, Option.map_eq_some_iff] at h1 h2
            obtain ⟨q, hq, rfl⟩ := h1
            obtain ⟨q', hq', rfl⟩ := h2
            rw [hq] at hq'; obtain rfl := Option.some.inj hq'
            have hpq : partOk st.toks (ev st.slots q.2) = true := by
              exact hparts.1 q (List.mem_of_getElem? hq)
            exact ⟨rfl, part_cells hs (hs.ev q.2) hpq⟩) (by
            have := SRep_ofV (w := w) (E := E) (toks := st.toks) ti.zero
            have hz : ∀ z : Value, SRep w E st.toks (ofV z) z → z.cells.size = (ofV z).cells.length → SRepL w E st.toks (ofV z).cells z.cells.toList := by
              intro z hz hn
              cases z with
              | agg cs => simp only [ofV, AV.cells, Value.cells]; exact SRepL_map _ fun y _ => SRep_ofV1 y
              | _ =>
                simp only [ofV, Value.cells]
                have hc1 : ∀ y : Value, (ofV1 y).cells = [ofV1 y] := fun y => by unfold ofV1; split <;> first | rfl | (split <;> rfl)
                rw [hc1]
                simp only [SRepL]
                exact ⟨_, [], rfl, SRep_ofV1 _, rfl⟩
            exact hz _ this (cells_ofV _)) hb
        refine goes_pure (y := .agg cs') hs ?_ (by simp only [SRep]; exact ⟨cs', rfl, g2⟩)
        have hplA : ((fields.mapM fun f => do pure (f.offset, ← sizeOf f.type)) : Sem (Array (Nat × Nat))).run P w = .ok (fields.toList.map fun f => (f.offset, ((C.T f.type).map (·.size)).getD 0)).toArray w := by
          rw [Array.mapM_eq_mapM_toList, Sem.run_map, hpl]; rfl
        have hfill : Instr.fill (fun i => (fields.toList.map fun f => (f.offset, ((C.T f.type).map (·.size)).getD 0)).toArray[i]?) ti.zero.cells (parts.toList.map fun p => (p.1, a.eval p.2)) = some cs' := by
          have : (fun i => (fields.toList.map fun f => (f.offset, ((C.T f.type).map (·.size)).getD 0)).toArray[i]?) = places := by funext i; simp [places]
          rw [this]; exact g1
        simp only [execOp, ho, Instr.build, Sem.run_bind, run_zero ht, Result.andThen_ok, hu, hplA]
        have hpm : (parts.map fun x => match x with | (i, x) => (i, a.eval x)).toList = parts.toList.map fun p => (p.1, a.eval p.2) := by simp
        rw [hpm, hfill]
        rfl
    · simp at h
  · simp at h

end
end Go.Proofs.Ytehfjhenilkofaa.Ax
