/-
 Runs with the calls gone into: more operations (structs, slices, maps, texts). No condition.
-/
import Derived.Test.YtompijgfpeibnaaGreatDoorCK5
import Derived.MapKept
import Derived.Test.YtompijgfpeibnaaGreatDoorCK4
namespace Go.Proofs.YtompijgfpeibnaaGreatDoor.Ax
open Go Go.RowKit
def notJ : AV → Bool
 | .junk => false
 | _ => true
theorem notJ_ok {x : AV} (h : notJ x = true) : x ≠ .junk := fun e => by rw [e] at h; simp [notJ] at h
def x_nilCheck (x : Operand) (st : XS) : Option (AV × XS) := match ev st.slots x with
 | .ptr k [] i j => some (.ptr k [] i j, st)
 | .fp e j => some (.fp e j, st)
 | _ => none
def x_index (C : Ctx) (t : TypeId) (x ix : Operand) (st : XS) : Option (AV × XS) := match C.T t, ev st.slots x, asNat (ev st.slots ix) with
 | some ti, .v (.string s), some i => (match ti.desc, s[i]? with
  | .string, some b => some (.v (.int .u8 (b.toNat : Int)), st)
  | _, _ => none)
 | _, _, _ => none
def x_slice (C : Ctx) (t : TypeId) (x : Operand) (lo hi : Option Operand) (st : XS) : Option (AV × XS) := match C.T t with
 | some ti => (match ti.desc, ev st.slots x with
  | .slice el, .sl nl sz es => (match C.T el, bndOf st.slots 0 lo, bndOf st.slots es.length hi with
   | some te, some l, some h => if te.size = sz ∧ l ≤ h ∧ h ≤ es.length then some (.sl nl sz (viewEs es l (h - l)), st) else none
   | _, _, _ => none)
  | .slice el, .ref k [(z, 0)] lo0 n => (match C.T el, bndOf st.slots 0 lo, bndOf st.slots n hi with
   | some te, some l, some h => if te.size = z ∧ l ≤ h ∧ h ≤ n ∧ (l = 0 ∨ l < h) then some (.ref k [(z, 0)] (lo0 + l * z) (h - l), st) else none
   | _, _, _ => none)
  | .string, .v (.string s) => (match bndOf st.slots 0 lo, bndOf st.slots s.size hi with
   | some l, some h => if l ≤ h ∧ h ≤ s.size then some (.v (.string (s.extract l h)), st) else none
   | _, _ => none)
  | _, _ => none)
 | none => none
def x_build (C : Ctx) (t : TypeId) (parts : List (Nat × Operand)) (st : XS) : Option (AV × XS) := match C.T t with
 | some ti => (match ti.desc with
  | .struct fields => if (parts.all fun p => notJ (ev st.slots p.2)) = false ∨ (fields.toList.all fun f => (C.T f.type).isSome) = false then none else
    (bld C fields.toList (parts.map fun p => (p.1, ev st.slots p.2)) (ofV ti.zero).cells).map fun cells => (.agg cells, st)
  | _ => none)
 | none => none
def x_buildSlice (C : Ctx) (t : TypeId) (len : Nat) (parts : List (Nat × Operand)) (st : XS) : Option (AV × XS) := match C.T t with
 | some ti => (match ti.desc with
  | .slice el => (match C.T el with
   | some te => if parts.map (·.1) = List.range len ∧ 0 < te.size ∧ len * te.size ≤ 1000 ∧ (parts.all fun p => notJ (ev st.slots p.2) && decide ((ev st.slots p.2).cells.length = te.size)) = true then
     some (.ref st.toks.length [(te.size, 0)] 0 len, { st with toks := st.toks ++ [.row el true (parts.flatMap fun p => (ev st.slots p.2).cells)] }) else none
   | none => none)
  | _ => none)
 | none => none
def x_makeMap (C : Ctx) (t : TypeId) (st : XS) : Option (AV × XS) := match C.T t with
 | some _ => some (.ptr st.toks.length [(0, 0)] 0 0, { st with toks := st.toks ++ [.map []] })
 | none => none
def findS (s : ByteArray) : List (AV × AV) → Option (Option AV)
 | [] => some none
 | (.v (.string s'), x) :: es => if s.toList == s'.toList then some (some x) else findS s es
 | _ :: _ => none
def kMap : Option XT → Option (List (AV × AV))
 | some (.map es) => some es
 | _ => none
def x_insert (C : Ctx) (t : TypeId) (m k x : Operand) (st : XS) : Option (AV × XS) := match C.T t, ev st.slots m, ev st.slots k with
 | some ti, .ptr i [(0, 0)] _ _, .v (.string s) => (match ti.desc, kMap st.toks[i]? with
  | .map kt _, some es => (match C.T kt, findS s es with
   | some tk, some none => (match tk.desc with
    | .string => some (.junk, { st with toks := st.toks.set i (.map (es ++ [(.v (.string s), ev st.slots x)])) })
    | _ => none)
   | _, _ => none)
  | _, _ => none)
 | _, _, _ => none
def x_lookup (C : Ctx) (t : TypeId) (m k : Operand) (st : XS) : Option (AV × XS) := match C.T t, ev st.slots m, ev st.slots k with
 | some ti, .ptr i [(0, 0)] _ _, .v (.string s) => (match ti.desc, kMap st.toks[i]? with
  | .map kt el, some es => (match C.T kt, C.T el, findS s es with
   | some tk, some te, some r => (match tk.desc, r with
    | .string, some x => some (.tup [x, .v (.bool true)], st)
    | .string, none => some (.tup [ofV te.zero, .v (.bool false)], st)
    | _, _ => none)
   | _, _, _ => none)
  | _, _ => none)
 | _, _, _ => none
section
variable {P : Program} {C : Ctx} {o : Oper} {B : XB} {st : XS} {E : XE} {a : Act} {gv : List Act} {w w' : World} {q : AV × XS}
theorem xg_nilCheck (h : XR B st E a gv w) {x : Operand} (ho : o.op = .nilCheck x) (hq : x_nilCheck x st = some q) : XG P o a w B gv q := by
 simp only [x_nilCheck] at hq
 have hx := h.top.ev x
 have hrun : ∀ b, a.eval x = .pointer (some b) → (execOp a.eval o).run P w = .ok (.value (.pointer (some b))) w := by
  intro b hy
  simp [execOp, ho, hy]
 split at hq
 ·rename_i k i j hp
  simp only [Option.some.injEq] at hq; subst hq
  rw [hp] at hx
  have hx' := hx
  simp only [XRep, XPtr] at hx
  rw [hx.2] at hx'
  exact xg_pure h (hrun _ hx.2) hx'
 ·rename_i e j hp
  simp only [Option.some.injEq] at hq; subst hq
  rw [hp] at hx
  have hx' := hx
  simp only [XRep, Rep] at hx
  obtain ⟨b, o', z, hy, _⟩ := hx
  rw [hy] at hx'
  exact xg_pure h (hrun _ hy) hx'
 ·simp at hq
theorem xg_binOp (hC : C.Ok P) (hs : XR B st E a gv w) {op : BinOp} {t t' : TypeId} {x y : Operand} (ho : o.op = .binOp op t x y t') (h : x_binOp C op t x y st = some q) : XG P o a w B gv q := by
 simp only [x_binOp] at h
 split at h
 ·rename_i u v hu hv
  have e1 := XRep_v (hs.top.ev x) hu
  have e2 := XRep_v (hs.top.ev y) hv
  split at h
  ·rename_i r hr
   simp only [Option.some.injEq] at h; subst h
   refine xg_pure (y := r) hs ?_ (by simp only [XRep]; exact ⟨trivial, abin_one hr⟩)
   have := abin_run (P := P) (w := w) (t := t) hr x y
   simp only [execOp, ho, e1, e2]
   rw [Sem.run_bind, this]; rfl
  ·simp at h
 ·rename_i sz hy
  have hyv := hs.top.ev y
  rw [hy] at hyv
  simp only [XRep, Rep] at hyv
  obtain ⟨a2, l2, c2, hye, _, _, _, hyk⟩ := hyv
  have ha2 : a2 = none := by
   rcases hyk with h | ⟨_, _, _, h, _⟩ | ⟨_, h, _⟩
   ·exact h.1
   ·simp at h
   ·simp at h
  subst ha2
  have key : ∀ el s1 s2 z b, C.T t = some ⟨.slice el, s1, s2, z⟩ → nilX (ev st.slots x) = some b → ∃ a1 l1 c1, a.eval x = .slice a1 l1 c1 ∧ a1.isNone = b ∧ (Op.equal t (.slice a1 l1 c1) (.slice none l2 c2)).run P w = .ok b w := fun el s1 s2 z b hti hb => by
   obtain ⟨a1, l1, c1, h1, h2⟩ := nilX_ok (hs.top.ev x) hb
   refine ⟨a1, l1, c1, h1, h2, ?_⟩
   subst h2
   have hq : ∀ d, (Op.equalIn (d + 1) t (.slice a1 l1 c1) (.slice none l2 c2)).run P w = .ok a1.isNone w := fun d => by
    rw [Op.equalIn, Sem.run_bind, run_underlying (P := P) (w := w) (hC.T t _ hti).desc]
    cases a1 <;> rfl
   exact hq 9999
  split at h
  ·rename_i el s1 s2 z b hti hb
   simp only [Option.some.injEq] at h; subst h
   obtain ⟨a1, l1, c1, h1, _, h2⟩ := key _ _ _ _ _ hti hb
   refine xg_pure (y := .bool b) hs ?_ (by simp [XRep, Value.oneCell'])
   simp [execOp, ho, h1, hye, eqGuard, binOp, h2]
  ·rename_i el s1 s2 z b hti hb
   simp only [Option.some.injEq] at h; subst h
   obtain ⟨a1, l1, c1, h1, _, h2⟩ := key _ _ _ _ _ hti hb
   refine xg_pure (y := .bool (!b)) hs ?_ (by simp [XRep, Value.oneCell'])
   simp [execOp, ho, h1, hye, eqGuard, binOp, h2]
  ·simp at h
 ·simp at h
theorem xg_index (hC : C.Ok P) (h : XR B st E a gv w) {t : TypeId} {x ix : Operand} (ho : o.op = .index t x ix) (hq : x_index C t x ix st = some q) : XG P o a w B gv q := by
 simp only [x_index] at hq
 split at hq
 ·rename_i ti s i hti hx hi
  obtain ⟨k, hk⟩ := asNat_eq hi
  have hik := XRep_v (h.top.ev ix) hk
  have hxv := XRep_v (h.top.ev x) hx
  split at hq
  ·rename_i b hd hb
   simp only [Option.some.injEq] at hq; subst hq
   have hu := Go.run_underlying (P := P) (w := w) (hC.T t ti hti).desc
   rw [hd] at hu
   refine xg_pure (y := .int .u8 b.toNat) h ?_ (by simp [XRep, Value.oneCell'])
   simp [execOp, ho, Instr.index, asIntOf, hxv, hik, hu, hb]
  ·simp at hq
 ·simp at hq
theorem xev_bnd (h : XR B st E a gv w) {x : Option Operand} {d n : Nat} (hq : bndOf st.slots d x = some n) : (x = none ∧ n = d) ∨ ∃ y k, x = some y ∧ a.eval y = .int k n := by
 cases x with
 | none => simp [bndOf] at hq; exact .inl ⟨rfl, hq.symm⟩
 | some y =>
  simp only [bndOf] at hq
  obtain ⟨k, hk⟩ := asNat_eq hq
  exact .inr ⟨y, k, rfl, XRep_v (h.top.ev y) hk⟩
theorem xg_slice (hC : C.Ok P) (hs : XR B st E a gv w) {t : TypeId} {x : Operand} {lo hi : Option Operand} (ho : o.op = .slice t x lo hi none) (h : x_slice C t x lo hi st = some q) : XG P o a w B gv q := by
 simp only [x_slice] at h
 split at h
 rotate_left
 ·simp at h
 rename_i ti hti
 have ht := hC.T t ti hti
 split at h
 ·rename_i el nl sz es hd hx
  split at h
  rotate_left
  ·simp at h
  rename_i te l hh hte hlo hhi
  split at h
  rotate_left
  ·simp at h
  rename_i hcond
  obtain ⟨hsz, h1, h2⟩ := hcond
  simp only [Option.some.injEq] at h; subst h
  have hxv := hs.top.ev x
  rw [hx] at hxv
  simp only [XRep] at hxv
  have hr := hxv
  simp only [Rep] at hr
  obtain ⟨ad, len, cap, hy, g1, g2, g3, g4⟩ := hr
  rw [← g1] at hhi h2
  have hrun := run_part (w := w) ho ht hd (hC.T _ _ hte) hy (xev_bnd hs hlo) (xev_bnd hs hhi) h1 h2 g2
  refine xg_pure (y := partOf ad cap te.size l hh) hs hrun ?_
  simp only [XRep]
  have hvw : ViewOf (a.eval x) sz 0 len (a.eval x) := by
   rw [hy]
   rcases g4 with ⟨rfl, _, rfl, rfl⟩ | ⟨b, o', rfl, _, _⟩ | ⟨⟨z, rfl⟩, _, he⟩
   ·exact .inl ⟨rfl, rfl⟩
   ·exact .inr (.inr ⟨b, o', len, cap, o', rfl, by simp, .inl (by omega)⟩)
   ·have : len = 0 := by rw [g1, he]; rfl
    subst this
    exact .inr (.inl ⟨rfl, rfl, z, cap, rfl⟩)
  have := hvw.part hy h1 h2 (fun b o' hl hc e => by rw [hy] at e; simp only [Value.slice.injEq] at e; omega) (fun e => by rw [hy] at e; simp only [Value.slice.injEq] at e; omega)
  rw [hsz]
  rw [Nat.zero_add] at this
  exact hxv.view this (by omega)
 ·rename_i el k z lo0 n hd hx
  split at h
  rotate_left
  ·simp at h
  rename_i te l hh hte hlo hhi
  split at h
  rotate_left
  ·simp at h
  rename_i hcond
  obtain ⟨hsz, h1, h2, h3⟩ := hcond
  simp only [Option.some.injEq] at h; subst h
  have hxv := hs.top.ev x
  rw [hx] at hxv
  simp only [XRep, XRef] at hxv
  obtain ⟨h0, cap, hy, g1, g2, g3⟩ := hxv
  have hrun := run_part (w := w) ho ht hd (hC.T _ _ hte) hy (xev_bnd hs hlo) (xev_bnd hs hhi) h1 h2 g1
  refine xg_pure (y := partOf (some ⟨E.blk k, lo0, none⟩) cap te.size l hh) hs hrun ?_
  simp only [XRep, XRef]
  refine ⟨h0, cap - l, ?_, by omega, by omega, ?_⟩
  ·simp only [partOf]
   split
   ·rcases h3 with h3 | h3
    ·subst h3; simp
    ·omega
   ·simp [add_addr, hsz]
  ·rw [Nat.sub_mul]
   have : l * z ≤ cap * z := Nat.mul_le_mul_right _ (by omega)
   omega
 ·rename_i s hd hx
  split at h
  rotate_left
  ·simp at h
  rename_i l hh hlo hhi
  split at h
  rotate_left
  ·simp at h
  rename_i hcond
  simp only [Option.some.injEq] at h; subst h
  have hxv := XRep_v (hs.top.ev x) hx
  have hu := Go.run_underlying (P := P) (w := w) ht.desc
  rw [hd] at hu
  refine xg_pure (y := .string (s.extract l hh)) hs ?_ (by simp [XRep, Value.oneCell'])
  have e1 : (l : Int) ≤ hh := by omega
  have e2 : (hh : Int) ≤ s.size := by omega
  rcases xev_bnd hs hlo with ⟨rfl, rfl⟩ | ⟨y, k, rfl, hy⟩ <;> rcases xev_bnd hs hhi with ⟨rfl, rfl⟩ | ⟨z, k', rfl, hz⟩
  ·simp [execOp, ho, Instr.sliceAt, hu, hxv, Instr.slice, Instr.sliceBounds]
  ·simp [execOp, ho, Instr.sliceAt, hu, hxv, Instr.slice, Instr.sliceBounds, hz, run_sliceBound, e2]
  ·simp [execOp, ho, Instr.sliceAt, hu, hxv, Instr.slice, Instr.sliceBounds, hy, run_sliceBound, e1]
  ·simp [execOp, ho, Instr.sliceAt, hu, hxv, Instr.slice, Instr.sliceBounds, hy, hz, run_sliceBound, e1, e2]
 ·simp at h
theorem xbld_ok (hC : C.Ok P) {fields : Array Field} {places : Nat → Option (Nat × Nat)} (hpl : ∀ i f tf, fields[i]? = some f → C.T f.type = some tf → places i = some (f.offset, tf.size)) :
  ∀ (ps : List (Nat × AV)) (vs : List (Nat × Value)) (cells out : List AV) (cs : Array Value), ps.length = vs.length →
   (∀ (j : Nat) (p : Nat × AV) (v : Nat × Value), ps[j]? = some p → vs[j]? = some v → p.1 = v.1 ∧ XRepL w E p.2.cells v.2.cells.toList) →
   XRepL w E cells cs.toList → bld C fields.toList ps cells = some out → ∃ cs', Instr.fill places cs vs = some cs' ∧ XRepL w E out cs'.toList
 | [], vs, cells, out, cs, hl, _, hc, h => by
  simp only [bld, Option.some.injEq] at h; subst h
  have : vs = [] := List.length_eq_zero_iff.1 hl.symm
  subst this
  exact ⟨cs, rfl, hc⟩
 | (i, x) :: ps, [], _, _, _, hl, _, _, _ => by simp at hl
 | (i, x) :: ps, (i', v) :: vs, cells, out, cs, hl, hp, hc, h => by
  obtain ⟨e1, e2⟩ := hp 0 (i, x) (i', v) (by simp) (by simp)
  simp only at e1 e2
  have e3 := e2.len
  simp only [Array.length_toList] at e3
  subst e1
  simp only [bld] at h
  split at h
  ·rename_i f hf
   split at h
   ·rename_i tf htf
    split at h
    ·rename_i hcond
     obtain ⟨hsz, hfit⟩ := hcond
     have hf' : fields[i]? = some f := by simpa using hf
     have hpi := hpl i f tf hf' htf
     have hcl := hc.len
     simp only [Array.length_toList] at hcl
     simp only [Instr.fill, hpi]
     have hvs : v.cells.size = tf.size := by rw [e3, hsz]
     have hno : (v.cells.size ≠ tf.size || decide (f.offset + v.cells.size > cs.size)) = false := by simp [hvs]; omega
     rw [hno]
     simp only [Bool.false_eq_true, if_false]
     have hfold := foldl_put v.cells.toList 0 f.offset cs (by simp [hvs]; omega)
     have harr : (v.cells.zipIdx.foldl (fun cs x => match x with | (c, j) => cs.setIfInBounds (f.offset + j) c) cs) = (v.cells.toList.zipIdx 0).foldl (fun cs p => cs.setIfInBounds (f.offset + p.2) p.1) cs := by
      rw [← Array.foldl_toList, Array.toList_zipIdx]
     rw [harr]
     refine xbld_ok hC hpl ps vs _ out _ (by simpa using hl) (fun j p v' h1 h2 => hp (j + 1) p v' (by simpa using h1) (by simpa using h2)) ?_ h
     rw [hfold]
     simp only [Nat.add_zero, Array.length_toList, hvs]
     exact ((hc.take _).app e2).app (hc.drop _)
    ·simp at h
   ·simp at h
  ·simp at h
theorem XRep_zero (z : Value) : XRepL w E (ofV z).cells z.cells.toList := by
 cases z with
 | agg cs => simp only [ofV, AV.cells, Value.cells]; exact XRepL.mapV _ fun y _ => XRep_ofV1 y
 | _ =>
  simp only [ofV, Value.cells]
  have hc1 : ∀ y : Value, (ofV1 y).cells = [ofV1 y] := fun y => by unfold ofV1; split <;> first | rfl | (split <;> rfl)
  rw [hc1]
  simp only [XRepL]
  exact ⟨_, [], rfl, XRep_ofV1 _, rfl⟩
theorem xg_build (hC : C.Ok P) (hs : XR B st E a gv w) {t : TypeId} {parts : Array (Nat × Operand)} (ho : o.op = .build t parts) (h : x_build C t parts.toList st = some q) : XG P o a w B gv q := by
 simp only [x_build] at h
 split at h
 rotate_left
 ·simp at h
 rename_i ti hti
 have ht := hC.T t ti hti
 split at h
 rotate_left
 ·simp at h
 rename_i fields hd
 split at h
 ·simp at h
 rename_i hparts
 simp only [Option.map_eq_some_iff] at h
 obtain ⟨cells, hb, rfl⟩ := h
 have hu := Go.run_underlying (P := P) ht.desc
 rw [hd] at hu
 simp only [not_or, Bool.not_eq_false, List.all_eq_true] at hparts
 have hfl : ∀ f ∈ fields.toList, ∃ tf, C.T f.type = some tf := fun f hf => Option.isSome_iff_exists.1 (hparts.2 f hf)
 have hpl := run_places (w := w) hC fields.toList hfl
 let places : Nat → Option (Nat × Nat) := fun i => (fields.toList.map fun f => (f.offset, ((C.T f.type).map (·.size)).getD 0))[i]?
 obtain ⟨cs', g1, g2⟩ := xbld_ok (w := w) (E := E) (places := places) hC (fields := fields) (fun i f tf h1 h2 => by
   have h1' : fields.toList[i]? = some f := by simpa using h1
   show (fields.toList.map _)[i]? = _
   rw [List.getElem?_map, h1']; simp [h2])
  (parts.toList.map fun p => (p.1, ev st.slots p.2)) (parts.toList.map fun p => (p.1, a.eval p.2)) _ cells ti.zero.cells (by simp) (fun j p v h1 h2 => by
   rw [List.getElem?_map, Option.map_eq_some_iff] at h1 h2
   obtain ⟨q, hq, rfl⟩ := h1
   obtain ⟨q', hq', rfl⟩ := h2
   rw [hq] at hq'; obtain rfl := Option.some.inj hq'
   exact ⟨rfl, (hs.top.ev q.2).cells (notJ_ok (hparts.1 q (List.mem_of_getElem? hq)))⟩) (XRep_zero _) hb
 refine xg_pure (y := .agg cs') hs ?_ (by simp only [XRep]; exact ⟨cs', rfl, g2⟩)
 have hplA : ((fields.mapM fun f => do pure (f.offset, ← sizeOf f.type)) : Sem (Array (Nat × Nat))).run P w = .ok (fields.toList.map fun f => (f.offset, ((C.T f.type).map (·.size)).getD 0)).toArray w := by
  rw [Array.mapM_eq_mapM_toList, Sem.run_map, hpl]; rfl
 have hfill : Instr.fill (fun i => (fields.toList.map fun f => (f.offset, ((C.T f.type).map (·.size)).getD 0)).toArray[i]?) ti.zero.cells (parts.toList.map fun p => (p.1, a.eval p.2)) = some cs' := by
  have : (fun i => (fields.toList.map fun f => (f.offset, ((C.T f.type).map (·.size)).getD 0)).toArray[i]?) = places := by funext i; simp [places]
  rw [this]; exact g1
 simp only [execOp, ho, Instr.build, Sem.run_bind, run_zero ht, Result.andThen_ok, hu, hplA]
 have hpm : (parts.map fun x => match x with | (i, x) => (i, a.eval x)).toList = parts.toList.map fun p => (p.1, a.eval p.2) := by simp
 rw [hpm, hfill]
 rfl
theorem flat_eq {sz : Nat} : ∀ {ps : List (Nat × Value)} {l : List Value}, l.length = ps.length * sz → (∀ p ∈ ps, p.2.cells.size = sz) →
  (∀ (i : Nat) (p : Nat × Value), ps[i]? = some p → ∀ (j : Nat) (y : Value), p.2.cells.toList[j]? = some y → l[i * sz + j]? = some y) → l = ps.flatMap fun p => p.2.cells.toList
 | [], l, hl, _, _ => by simpa using hl
 | p :: ps, l, hl, hs, h => by
  have hp : p.2.cells.toList.length = sz := by simpa using hs p (by simp)
  have hmul : (p :: ps).length * sz = ps.length * sz + sz := by rw [List.length_cons, Nat.add_mul]; omega
  have h1 : l.take sz = p.2.cells.toList := by
   apply List.ext_getElem?
   intro j
   rw [List.getElem?_take]
   split
   ·rename_i hj
    have := h 0 p (by simp) j (p.2.cells.toList[j]'(by omega)) (List.getElem?_eq_getElem _)
    rw [Nat.zero_mul, Nat.zero_add] at this
    rw [this, List.getElem?_eq_getElem]
   ·rename_i hj
    rw [List.getElem?_eq_none (by omega)]
  have h2 := flat_eq (ps := ps) (l := l.drop sz) (by rw [List.length_drop]; omega) (fun q hq => hs q (by simp [hq])) fun i q hi j y hj => by
   rw [List.getElem?_drop]
   have := h (i + 1) q (by simpa using hi) j y hj
   rw [Nat.add_mul] at this
   rw [show sz + (i * sz + j) = i * sz + 1 * sz + j by omega]; exact this
  rw [← List.take_append_drop sz l, h1, h2]
  simp
theorem XRepL.flat : ∀ {ps : List (Nat × Operand)}, (∀ p ∈ ps, XRepL w E (ev st.slots p.2).cells (a.eval p.2).cells.toList) → XRepL w E (ps.flatMap fun p => (ev st.slots p.2).cells) (ps.flatMap fun p => (a.eval p.2).cells.toList)
 | [], _ => by simp [XRepL]
 | p :: ps, h => by
  simp only [List.flatMap_cons]
  exact (h p (by simp)).app (XRepL.flat fun q hq => h q (by simp [hq]))
theorem xg_buildSlice (hC : C.Ok P) (h : XR B st E a gv w) {t : TypeId} {len : Nat} {parts : Array (Nat × Operand)} (ho : o.op = .buildSlice t len parts) (hq : x_buildSlice C t len parts.toList st = some q) : XG P o a w B gv q := by
 simp only [x_buildSlice] at hq
 split at hq
 rotate_left
 ·simp at hq
 rename_i ti hti
 split at hq
 rotate_left
 ·simp at hq
 rename_i el hd
 split at hq
 rotate_left
 ·simp at hq
 rename_i te hte0
 split at hq
 rotate_left
 ·simp at hq
 rename_i hcond
 obtain ⟨hidx, hpos, hsmall, hall⟩ := hcond
 simp only [Option.some.injEq] at hq; subst hq
 have hte := hC.T _ _ hte0
 have hu := (hC.T t ti hti).desc
 rw [hd] at hu
 have hp : ∀ p ∈ parts.toList, ev st.slots p.2 ≠ .junk ∧ (ev st.slots p.2).cells.length = te.size := fun p hp => by
  have := List.all_eq_true.1 hall p hp
  simp only [Bool.and_eq_true, decide_eq_true_eq] at this
  exact ⟨notJ_ok this.1, this.2⟩
 have hcells : ∀ p ∈ parts.toList, XRepL w E (ev st.slots p.2).cells (a.eval p.2).cells.toList := fun p hp' => (h.top.ev p.2).cells (hp p hp').1
 have hvsz : ∀ p ∈ parts.toList, (a.eval p.2).cells.size = te.size := fun p hp' => by
  have := (hcells p hp').len
  rw [(hp p hp').2] at this
  simpa using this
 obtain ⟨i, hi, hi1, hi2, hi3⟩ := hte.info
 have hpl : parts.toList.length = len := by have := congrArg List.length hidx; simpa using this
 let ps : List (Nat × Value) := parts.toList.map fun p => (p.1, a.eval p.2)
 have hps : ps.length = len := by simp [ps, hpl]
 have hpsz : ∀ p ∈ ps, p.2.cells.size = te.size := fun p hp' => by
  simp only [ps, List.mem_map] at hp'
  obtain ⟨p', h1, rfl⟩ := hp'
  exact hvsz p' h1
 obtain ⟨cs', g1, g2, g3, _⟩ := fill_rows (sz := te.size) ps 0 ((Array.range (len * te.size)).map (te.zero.cells[· % te.zero.cells.size]!)) (by
   rw [hps, ← List.range_eq_range']; rw [← hidx]; simp [ps]) hpsz (by simp [hps])
 have hcsz : cs'.size = len * te.size := by rw [g2]; simp
 have hflat : cs'.toList = ps.flatMap fun p => p.2.cells.toList := flat_eq (sz := te.size) (by simp [hcsz, hps]) hpsz fun i p hp' j y hj => by
  have := g3 i p hp' j y hj
  rw [Nat.zero_add] at this
  simpa using this
 have hrun : (execOp a.eval o).run P w = .ok (.value (.slice (some ⟨w.heap.size, 0, none⟩) len len)) (w.alloc (.cells cs' el)) := by
  have hmap : (parts.map fun x => match x with | (i, x) => (i, a.eval x)).toList = ps := by simp [ps]
  have hb : (Instr.buildSlice t len (parts.map fun x => match x with | (i, x) => (i, a.eval x))).run P w = .ok (.slice (some ⟨w.heap.size, 0, none⟩) len len) (w.alloc (.cells cs' el)) := by
   by_cases hz : len = 0
   ·subst hz
    have hpn : ps = [] := List.eq_nil_of_length_eq_zero hps
    have hc : cs' = #[] := by apply Array.eq_empty_of_size_eq_zero; rw [hcsz]; simp
    subst hc
    have hpe : parts = #[] := by apply Array.eq_empty_of_size_eq_zero; simpa using hpl
    subst hpe
    have hr0 : Array.range 0 = #[] := rfl
    simp [Instr.buildSlice, run_underlying hu, sizeOf, typeInfo, hi, Instr.fill, newRow, hr0]
   ·refine run_buildSlice w t el len _ cs' i te.zero hu hi hi3 (by rw [hi1]; omega) (by rw [hi1]; intro h; rcases Nat.mul_eq_zero.1 h with h | h <;> omega) ?_
    rw [hi1, hmap]; exact g1
  simp only [execOp, ho, Sem.run_bind, hb]
  rfl
 obtain ⟨h1, h2⟩ := h.newRow el (xs := parts.toList.flatMap fun p => (ev st.slots p.2).cells) (ys := cs') fun E' hle => by
  rw [hflat]
  simp only [ps, List.flatMap_map]
  exact (XRepL.flat hcells).mono hle
 intro next hn
 refine wp_val hrun (hn _ _ _ h1 ?_)
 simp only [XRep, XPtr] at h2
 simp only [XRep, XRef]
 refine ⟨h2.1, len, ?_, Nat.le_refl _, by simp only [maxLen]; have := Nat.le_mul_of_pos_right len hpos; omega, ?_⟩
 ·have := h2.2
  simp only [Value.pointer.injEq, Option.some.injEq, Addr.mk.injEq, and_true] at this
  rw [← this]
 ·rw [← h.n, XE.new_sz, hcsz]; omega
theorem kMap_ok {k : Option XT} {es : List (AV × AV)} (h : kMap k = some es) : k = some (.map es) := by
 unfold kMap at h; split at h <;> simp_all
theorem xg_makeMap (h : XR B st E a gv w) {t : TypeId} (ho : o.op = .makeMap t none) (hu : ∃ k e, P.underlying t = some (.map k e)) (hq : x_makeMap C t st = some q) : XG P o a w B gv q := by
 simp only [x_makeMap] at hq
 split at hq
 rotate_left
 ·simp at hq
 simp only [Option.some.injEq] at hq; subst hq
 have hfr : Frm (fun b => b = w.heap.size) w (w.alloc (.map #[] 0)) := ⟨rfl, rfl, rfl, by simp, fun k hk _ => (frm_alloc (w := w) (.map #[] 0)).block k hk id⟩
 have h1 := h.new hfr h.frame.size (by simp) (fun hb => Nat.lt_irrefl _ (h.flt _ hb)) (fun t k ht hk e => by have := (h.live t k ht hk).2.1; omega) 0 (k := .map []) ⟨#[], 0, by rw [XE.new_blk]; exact heap_alloc_self _, by simp [XEnt]⟩
 intro next hn
 refine wp_val (y := .map (some w.heap.size)) ?_ (hn _ _ _ h1 ?_)
 ·simp [execOp, ho, Instr.makeMap, newObj]; rfl
 ·simp only [XRep, XPtr]
  exact ⟨by simp [XE.new, h.n], by rw [← h.n, XE.new_blk]⟩
theorem findS_ok (kt : TypeId) (hk : P.underlying kt = some .string) (s : ByteArray) : ∀ {es : List (AV × AV)} {ms : List MapEntry} {r : Option AV} (i : Nat), XEnt w E es ms → findS s es = some r →
  ∃ r', (Instr.findNow .string (.string s) ms i) = some r' ∧ match r, r' with
   | some x, some (_, y) => XRep w E x y
   | none, none => True
   | _, _ => False
 | [], ms, r, i, h, hf => by
  simp only [findS, Option.some.injEq] at hf; subst hf
  simp only [XEnt] at h; subst h
  exact ⟨none, rfl, trivial⟩
 | (k, x) :: es, ms, r, i, h, hf => by
  simp only [XEnt] at h
  obtain ⟨m, ms', rfl, h1, h2, h3⟩ := h
  unfold findS at hf
  split at hf
  ·rename_i e; simp at e
  ·rename_i s' x' es' e
   simp only [List.cons.injEq, Prod.mk.injEq] at e
   obtain ⟨⟨rfl, rfl⟩, rfl⟩ := e
   simp only [XRep] at h1
   have hb : (s == s') = (s.toList == s'.toList) := by
    rw [ByteArray.toList_eq, ByteArray.toList_eq]
    show (s.data == s'.data) = (s.data.toList == s'.data.toList)
    by_cases e : s.data = s'.data
    ·simp [e]
    ·have : ¬ s.data.toList = s'.data.toList := fun h => e (Array.toList_inj.1 h)
     have h1 : (s.data == s'.data) = false := by simpa using e
     have h2 : (s.data.toList == s'.data.toList) = false := by simpa using this
     rw [h1, h2]
   split at hf
   ·rename_i he
    simp only [Option.some.injEq] at hf; subst hf
    refine ⟨some (i, m.val), ?_, h2⟩
    simp only [Instr.findNow, h1.1, Instr.sameNow, hb, he]
   ·rename_i he
    obtain ⟨r', g1, g2⟩ := findS_ok kt hk s (i + 1) h3 hf
    refine ⟨r', ?_, g2⟩
    have : (s.toList == s'.toList) = false := by simpa using he
    simp only [Instr.findNow, h1.1, Instr.sameNow, hb, this]
    exact g1
  ·simp at hf
end
open Go Go.RowKit
def newsX (C : Ctx) (t t2 : TypeId) (z : Nat) (st : XS) (y : AV) : Option (List AV × Nat) := match y with
 | .ref k [(z', 0)] lo m => (match kRow st.toks[k]? with
  | some (_, _, cs) => if t2 = t ∧ z' = z ∧ lo + m * z ≤ cs.length ∧ (cs.all oneX) = true then some ((cs.drop lo).take (m * z), m) else none
  | none => none)
 | .sl _ z' es => if t2 = t ∧ z' = z ∧ (es.all fun e => decide (e.cells.length = z) && e.cells.all oneX) = true then some (es.flatMap AV.cells, es.length) else none
 | .v (.string s) => (match C.T t2 with
  | some ti => (match ti.desc with
   | .string => if z = 1 then some (s.data.toList.map fun b => .v (.int .u8 (b.toNat : Int)), s.size) else none
   | _ => none)
  | none => none)
 | _ => none
def oldsX (el z : Nat) (st : XS) (x : AV) : Option (List AV × Nat × Option Nat) := match x with
 | .sl true _ [] => some ([], 0, none)
 | .ref k [(z', 0)] lo n => (match kRow st.toks[k]? with
  | some (T, _, cs) => if z' = z ∧ lo = 0 ∧ n * z ≤ cs.length ∧ T = el then some (cs.take (n * z), n, some k) else none
  | none => none)
 | _ => none
def x_append (C : Ctx) (args : List Operand) (ts : List TypeId) (st : XS) : Option (AV × XS) := match args, ts with
 | [x, y], [t, t2] => (match C.T t with
  | some ti => (match ti.desc with
   | .slice el => (match C.T el with
    | some te => (match oldsX el te.size st (ev st.slots x), newsX C t t2 te.size st (ev st.slots y) with
     | some (xs, n, k), some (ys, m) =>
      if 0 < te.size ∧ 0 < m ∧ n + m ≤ 4611686018427387904 ∧ (n + m) * te.bytes ≤ 140737488355328 then (match k with
       | some k => some (.ref st.toks.length [(te.size, 0)] 0 (n + m), { killX k st with toks := (killX k st).toks ++ [.row el false (killL k (xs ++ ys))] })
       | none => some (.ref st.toks.length [(te.size, 0)] 0 (n + m), { st with toks := st.toks ++ [.row el false (xs ++ ys)] })) else none
     | _, _ => none)
    | none => none)
   | _ => none)
  | none => none)
 | _, _ => none
section
variable {P : Program} {C : Ctx} {o : Oper} {B : XB} {st : XS} {E : XE} {a : Act} {gv : List Act} {w w' : World} {q : AV × XS}
theorem XEnt.app : ∀ {es : List (AV × AV)} {ms : List MapEntry} {k x : AV} {m : MapEntry}, XEnt w E es ms → XRep w E k m.key → XRep w E x m.val → XEnt w E (es ++ [(k, x)]) (ms ++ [m])
 | [], _, _, _, _, h, h1, h2 => by simp only [XEnt] at h; subst h; simp only [List.nil_append, XEnt]; exact ⟨_, _, rfl, h1, h2, rfl⟩
 | e :: es, _, _, _, _, h, h1, h2 => by
  simp only [XEnt] at h
  obtain ⟨m', ms', rfl, g1, g2, g3⟩ := h
  simp only [List.cons_append, XEnt]
  exact ⟨_, _, rfl, g1, g2, g3.app h1 h2⟩
theorem xg_insert (hC : C.Ok P) (h : XR B st E a gv w) {t : TypeId} {m k x : Operand} (ho : o.op = .insert t m k x) (hq : x_insert C t m k x st = some q) : XG P o a w B gv q := by
 simp only [x_insert] at hq
 split at hq
 rotate_left
 ·simp at hq
 rename_i ti i _ _ s hti hm hk
 split at hq
 rotate_left
 ·simp at hq
 rename_i kt el es hd hes
 split at hq
 rotate_left
 ·simp at hq
 rename_i tk htk hf
 split at hq
 rotate_left
 ·simp at hq
 rename_i hdk
 simp only [Option.some.injEq] at hq; subst hq
 have hu := (hC.T t ti hti).desc
 rw [hd] at hu
 have huk := (hC.T kt tk htk).desc
 rw [hdk] at huk
 have hmv := h.top.ev m
 rw [hm] at hmv
 simp only [XRep, XPtr] at hmv
 have hkv := XRep_v (h.top.ev k) hk
 have hes' := kMap_ok hes
 obtain ⟨ms, clock, g1, g2⟩ := h.tok i _ hes'
 obtain ⟨r', f1, f2⟩ := findS_ok (P := P) kt huk s 0 g2 hf
 have hr' : r' = none := by
  cases r' with
  | none => rfl
  | some p => exact f2.elim
 subst hr'
 intro next hn
 let ob : Obj := .map (ms.push { key := .string s, val := a.eval x, born := clock }) (clock + 1)
 let w' : World := { w with heap := w.heap.setIfInBounds (E.blk i) ob }
 have hlt : E.blk i < w.heap.size := (h.live i _ hes' (by simp)).2.1
 have hfr : Frm (fun b => b = E.blk i) w w' := ⟨rfl, rfl, rfl, by simp [w'], fun b _ hb => by show (w.heap.setIfInBounds (E.blk i) ob)[b]? = _; rw [Array.getElem?_setIfInBounds_ne (fun e => hb e.symm)]⟩
 have hF : Agree E.F w w' := fun b hb => hfr.block b (h.flt b hb) fun e => (h.live i _ hes' (by simp)).2.2 (e ▸ hb)
 have hle : XLe w w' E E := ⟨fun _ h => h, hF, Nat.le_refl _, fun _ _ => ⟨rfl, rfl⟩⟩
 refine .inr (.inl ⟨w', ?_, hn E _ w' (h.upd hes' (by simp) hfr ?_) trivial⟩)
 ·have hck : (Instr.checkKey false 10000 kt (.string s)).run P w = .ok () w := MapKept.run_checkKey (k := .string s) huk (by simp [MapKept.IsKey]) false 9999
  simp [execOp, ho, Instr.mapUpdate, run_underlying hu, hmv.2, hkv, MapKept.run_getObj_map g1, hck, MapKept.run_findKey huk f1, MapKept.run_setObj_map _ g1, w', ob]
 ·refine ⟨ms.push { key := .string s, val := a.eval x, born := clock }, clock + 1, ?_, ?_⟩
  ·show (w.heap.setIfInBounds (E.blk i) ob)[E.blk i]? = _
   rw [Array.getElem?_setIfInBounds_self_of_lt hlt]
  ·rw [Array.toList_push]
   exact (g2.mono hle).app (by simp [XRep, Value.oneCell']) ((h.top.ev x).mono hle)
theorem xg_lookup (hC : C.Ok P) (h : XR B st E a gv w) {t : TypeId} {m k : Operand} (ho : o.op = .lookup t m k true) (hq : x_lookup C t m k st = some q) : XG P o a w B gv q := by
 simp only [x_lookup] at hq
 split at hq
 rotate_left
 ·simp at hq
 rename_i ti i _ _ s hti hm hk
 split at hq
 rotate_left
 ·simp at hq
 rename_i kt el es hd hes
 split at hq
 rotate_left
 ·simp at hq
 rename_i tk te r htk hte hf
 have hu := (hC.T t ti hti).desc
 rw [hd] at hu
 have huk := (hC.T kt tk htk).desc
 have hmv := h.top.ev m
 rw [hm] at hmv
 simp only [XRep, XPtr] at hmv
 have hkv := XRep_v (h.top.ev k) hk
 have hes' := kMap_ok hes
 obtain ⟨ms, clock, g1, g2⟩ := h.tok i _ hes'
 have hck : ∀ e, tk.desc = .string → (Instr.checkKey e 10000 kt (.string s)).run P w = .ok () w := fun e hdk => by
  rw [hdk] at huk
  exact MapKept.run_checkKey (k := .string s) huk (by simp [MapKept.IsKey]) e 9999
 split at hq
 ·rename_i x hdk
  rw [hdk] at huk
  simp only [Option.some.injEq] at hq; subst hq
  obtain ⟨r', f1, f2⟩ := findS_ok (P := P) kt huk s 0 g2 hf
  cases r' with
  | none => exact f2.elim
  | some p =>
   obtain ⟨pi, y⟩ := p
   refine xg_pure (y := .tuple #[y, .bool true]) h ?_ ?_
   ·simp [execOp, ho, Instr.lookup, run_underlying hu, hmv.2, hkv, MapKept.run_getObj_map g1, hck _ hdk, MapKept.run_findKey huk f1]
   ·simp only [XRep]
    exact ⟨_, rfl, by simp only [XRepL]; exact ⟨y, [.bool true], rfl, f2, _, [], rfl, by simp [XRep, Value.oneCell'], rfl⟩⟩
 ·rename_i hdk
  rw [hdk] at huk
  simp only [Option.some.injEq] at hq; subst hq
  obtain ⟨r', f1, f2⟩ := findS_ok (P := P) kt huk s 0 g2 hf
  cases r' with
  | some p => exact f2.elim
  | none =>
   refine xg_pure (y := .tuple #[te.zero, .bool false]) h ?_ ?_
   ·simp [execOp, ho, Instr.lookup, run_underlying hu, hmv.2, hkv, MapKept.run_getObj_map g1, hck _ hdk, MapKept.run_findKey huk f1, run_zero (hC.T _ _ hte)]
   ·simp only [XRep]
    exact ⟨_, rfl, by simp only [XRepL]; exact ⟨_, [.bool false], rfl, XRep_ofV _, _, [], rfl, by simp [XRep, Value.oneCell'], rfl⟩⟩
 ·simp at hq
theorem oldsX_ok (h : XR B st E a gv w) {el z : Nat} {x : AV} {y : Value} (hx : XRep w E x y) {xs : List AV} {n : Nat} {k : Option Nat} (ho : oldsX el z st x = some (xs, n, k)) :
  ∃ ad cap vs, y = .slice ad n cap ∧ XRepL w E xs vs ∧ vs.length = n * z ∧ cap ≤ maxLen ∧
   ((ad = none ∧ n = 0 ∧ cap = 0 ∧ vs = [] ∧ k = none) ∨ ∃ k' T ex cs cur, k = some k' ∧ st.toks[k']? = some (.row T ex cs) ∧ ad = some ⟨E.blk k', 0, none⟩ ∧ w.heap[E.blk k']? = some (.cells cur el (0, 0)) ∧ cur.size = E.sz k' ∧ 0 + cap * z ≤ cur.size ∧ n ≤ cap ∧ ∀ j v, vs[j]? = some v → w.cell? ⟨E.blk k', 0 + j, none⟩ = some v) := by
 unfold oldsX at ho
 split at ho
 ·simp only [Option.some.injEq, Prod.mk.injEq] at ho
  obtain ⟨rfl, rfl, rfl⟩ := ho
  simp only [XRep, Rep] at hx
  obtain ⟨ad, len, cap, rfl, h1, h2, h3, h4⟩ := hx
  rcases h4 with ⟨rfl, _, rfl, rfl⟩ | ⟨_, _, _, h, _⟩ | ⟨_, h, _⟩
  ·exact ⟨none, 0, [], rfl, by simp [XRepL], by simp, Nat.zero_le _, .inl ⟨rfl, rfl, rfl, rfl, rfl⟩⟩
  ·simp at h
  ·simp at h
 ·rename_i k' z' lo n'
  split at ho
  ·rename_i T ex cs hk
   split at ho
   ·rename_i hc
    obtain ⟨rfl, rfl, hfit, rfl⟩ := hc
    simp only [Option.some.injEq, Prod.mk.injEq] at ho
    obtain ⟨rfl, rfl, rfl⟩ := ho
    simp only [XRep, XRef] at hx
    obtain ⟨_, cap, rfl, h1, h2, h3⟩ := hx
    have hk' := kRow_ok hk
    obtain ⟨ys, g1, g2, g3⟩ := (h.tok k' _ hk').at
    obtain ⟨cur, q1, q2, _⟩ := h.tok k' _ hk'
    refine ⟨_, cap, ys.take (n' * z'), rfl, g1.take _, by simp; omega, h2, .inr ⟨k', T, ex, cs, cur, rfl, hk', rfl, q1, q2, by rw [q2]; exact h3, h1, fun j v hj => ?_⟩⟩
    rw [List.getElem?_take] at hj
    split at hj
    ·rw [Nat.zero_add]; exact g3 j v hj
    ·simp at hj
   ·simp at ho
  ·simp at ho
 ·simp at ho
theorem RepRow.cellsX {F : Nat → Prop} {b z : Nat} : ∀ {es : List AV} {o' : Nat}, RepRow w F b z o' es → (es.all fun e => decide (e.cells.length = z) && e.cells.all oneX) = true →
  ∃ vs : List Value, RepL w F (es.flatMap AV.cells) vs ∧ vs.length = es.length * z ∧ (∀ v ∈ vs, v.oneCell' = true) ∧ ∀ j v, vs[j]? = some v → w.cell? ⟨b, o' + j, none⟩ = some v
 | [], _, _, _ => ⟨[], by simp [RepL], by simp, by simp, by simp⟩
 | e :: es, o', h, hall => by
  simp only [RepRow] at h
  obtain ⟨⟨x, h1, h2, h3, h4, h5⟩, h6⟩ := h
  simp only [List.all_cons, Bool.and_eq_true, decide_eq_true_eq] at hall
  obtain ⟨⟨hl, hone⟩, hall⟩ := hall
  obtain ⟨vs, g1, g2, g3, g4⟩ := RepRow.cellsX h6 hall
  have hj : e ≠ .junk := fun he => by subst he; simp [AV.cells, oneX] at hone
  let E0 : XE := { F := F, n := 0, blk := fun _ => 0, sz := fun _ => 0 }
  have hx : XRepL w E0 e.cells x.cells.toList := (XRep.of_rep (E := E0) _ _ h1).cells hj
  have hxl := hx.len
  have hr : RepL w F e.cells x.cells.toList := by
   cases e with
   | agg cs => simp only [Rep] at h1; obtain ⟨ys, rfl, h1⟩ := h1; exact h1
   | v y =>
    simp only [AV.cells, RepL]
    have h1' := h1
    simp only [Rep] at h1
    obtain ⟨rfl, h1⟩ := h1
    rw [oneCell_cells h1]
    exact ⟨_, [], rfl, h1', rfl⟩
   | sl nl sz es => have h1' := h1; simp only [Rep] at h1; obtain ⟨a, l, c, rfl, _⟩ := h1; simp only [AV.cells, Value.cells, RepL]; exact ⟨_, [], rfl, h1', rfl⟩
   | fp e j => have h1' := h1; simp only [Rep] at h1; obtain ⟨b, o, x, rfl, _⟩ := h1; simp only [AV.cells, Value.cells, RepL]; exact ⟨_, [], rfl, h1', rfl⟩
   | fn f cs => have h1' := h1; simp only [Rep] at h1; obtain ⟨b, rfl, _⟩ := h1; simp only [AV.cells, Value.cells, RepL]; exact ⟨_, [], rfl, h1', rfl⟩
   | tup cs => simp [AV.cells, oneX] at hone
   | ref _ _ _ _ => simp [Rep] at h1
   | ptr _ _ _ _ => simp [Rep] at h1
   | junk => exact (hj rfl).elim
  refine ⟨x.cells.toList ++ vs, ?_, by simp [h2, g2, Nat.add_mul]; omega, fun v hv => ?_, fun j v hv => ?_⟩
  ·rw [List.flatMap_cons]; exact RepL_app hr g1
  ·rcases List.mem_append.1 hv with hv | hv
   ·exact hx.one hone v hv
   ·exact g3 v hv
  ·by_cases hlt : j < x.cells.toList.length
   ·rw [List.getElem?_append_left hlt] at hv; exact h5 j v hv
   ·rw [List.getElem?_append_right (by omega)] at hv
    have := g4 _ _ hv
    rw [show o' + z + (j - x.cells.toList.length) = o' + j by simp at hlt ⊢; omega] at this
    exact this
theorem newsX_ok (hC : C.Ok P) (h : XR B st E a gv w) {t t2 el : TypeId} {ti te : TI} (hti : C.T t = some ti) (hd : ti.desc = .slice el) (hte : C.T el = some te) {x : AV} {y : Value} (hx : XRep w E x y) {xs : List AV} {m : Nat} (hm : 0 < m) (ho : newsX C t t2 te.size st x = some (xs, m)) :
  ∃ vs d2, XRepL w E xs vs ∧ vs.length = m * te.size ∧ (∀ v ∈ vs, v.oneCell' = true) ∧ P.underlying t2 = some d2 ∧ (d2 = .string ∨ ∃ e, d2 = .slice e) ∧ (∀ w1, (Builtin.lenOf y).run P w1 = .ok m w1) ∧
   ∀ w1 : World, (∀ a, w1.cell? a = w.cell? a) → (Builtin.firstCells te.size m y).run P w1 = .ok vs.toArray w1 := by
 have hu := (hC.T t ti hti).desc
 rw [hd] at hu
 unfold newsX at ho
 split at ho
 ·rename_i k z' lo m'
  split at ho
  ·rename_i T ex cs hk
   split at ho
   ·rename_i hc
    obtain ⟨rfl, rfl, hfit, hone⟩ := hc
    simp only [Option.some.injEq, Prod.mk.injEq] at ho
    obtain ⟨rfl, rfl⟩ := ho
    simp only [XRep, XRef] at hx
    obtain ⟨_, cap, rfl, h1, h2, h3⟩ := hx
    obtain ⟨ys, g1, g2, g3⟩ := (h.tok k _ (kRow_ok hk)).at
    have hl : ((ys.drop lo).take (m' * te.size)).length = m' * te.size := by simp; omega
    refine ⟨(ys.drop lo).take (m' * te.size), _, (g1.drop lo).take _, hl, fun v hv => g1.one hone v (List.mem_of_mem_drop (List.mem_of_mem_take hv)), hu, .inr ⟨_, rfl⟩, fun w1 => by simp [Builtin.lenOf], fun w1 hw1 => ?_⟩
    refine run_firstCells_some w1 te.size m' ⟨E.blk k, lo, none⟩ m' cap _ hl fun j v hj => ?_
    rw [hw1, add_addr]
    rw [List.getElem?_take] at hj
    split at hj
    ·rw [List.getElem?_drop] at hj; exact g3 _ _ hj
    ·simp at hj
   ·simp at ho
  ·simp at ho
 ·rename_i nl z' es
  split at ho
  ·rename_i hc
   obtain ⟨rfl, rfl, hall⟩ := hc
   simp only [Option.some.injEq, Prod.mk.injEq] at ho
   obtain ⟨rfl, rfl⟩ := ho
   simp only [XRep, Rep] at hx
   obtain ⟨ad, len, cap, rfl, h1, h2, h3, h4⟩ := hx
   rcases h4 with ⟨_, _, h0, _⟩ | ⟨b, o', rfl, _, hrow⟩ | ⟨_, _, h0⟩
   ·omega
   ·obtain ⟨vs, g1, g2, g3, g4⟩ := RepRow.cellsX hrow hall
    subst h1
    refine ⟨vs, _, XRepL.of_rep _ _ g1, g2, g3, hu, .inr ⟨_, rfl⟩, fun w1 => by simp [Builtin.lenOf], fun w1 hw1 => ?_⟩
    exact run_firstCells_some w1 te.size es.length ⟨b, o', none⟩ es.length cap _ g2 fun j v hj => by rw [hw1, add_addr]; exact g4 j v hj
   ·rw [h0] at hm; simp at hm
  ·simp at ho
 ·rename_i s
  split at ho
  ·rename_i t2i ht2
   split at ho
   ·rename_i hd2
    split at ho
    ·rename_i hz
     simp only [Option.some.injEq, Prod.mk.injEq] at ho
     obtain ⟨rfl, rfl⟩ := ho
     have hu2 := (hC.T t2 t2i ht2).desc
     rw [hd2] at hu2
     simp only [XRep] at hx
     obtain ⟨rfl, _⟩ := hx
     refine ⟨Lib.strCells s, _, ?_, by rw [Lib.strCells_length, hz]; omega, Lib.strCells_oneCell s, hu2, .inl rfl, fun w1 => by simp [Builtin.lenOf], fun w1 _ => Lib.run_firstCells_string w1 te.size s⟩
     unfold Lib.strCells
     generalize s.data.toList = l
     induction l with
     | nil => simp [XRepL]
     | cons b l ih => simp only [List.map_cons, XRepL]; exact ⟨_, _, rfl, by simp [XRep, Value.oneCell'], ih⟩
    ·simp at ho
   ·simp at ho
  ·simp at ho
 ·simp at ho
theorem xg_append (hC : C.Ok P) (h : XR B st E a gv w) {args : Array Operand} {ts : Array TypeId} (ho : o.op = .call { callee := .builtin .append, args := args, argTypes := ts }) (hq : x_append C args.toList ts.toList st = some q) : XG P o a w B gv q := by
 simp only [x_append] at hq
 split at hq
 rotate_left
 ·simp at hq
 rename_i x y t t2 hxy ht2
 have ha : args = #[x, y] := by cases args; simp_all
 have hts : ts = #[t, t2] := by cases ts; simp_all
 subst ha; subst hts
 split at hq
 rotate_left
 ·simp at hq
 rename_i ti hti
 split at hq
 rotate_left
 ·simp at hq
 rename_i el hd
 split at hq
 rotate_left
 ·simp at hq
 rename_i te hte
 split at hq
 rotate_left
 ·simp at hq
 rename_i xs n k ys m hol hne
 split at hq
 rotate_left
 ·simp at hq
 rename_i hc
 obtain ⟨hpos, hm, hn63, hby⟩ := hc
 have hu := (hC.T t ti hti).desc
 rw [hd] at hu
 obtain ⟨ad, cap, vs, hvx, o1, o2, o3, o4⟩ := oldsX_ok h (h.top.ev x) hol
 obtain ⟨us, d2, n1, n2, n3, n4, n5, n6, n7⟩ := newsX_ok hC h hti hd hte (h.top.ev y) hm hne
 obtain ⟨b', o', cap', cur', w', hrun, r1, r2, r3, r4, r5, r6⟩ := run_growX (P := P) (w := w) (ty := o.type) hu n4 n5 (hC.T _ _ hte) hpos (ad := ad) (len := n) (cap := cap) (xs := vs) o3 (by
   rcases o4 with ⟨q1, q2, q3, q4, _⟩ | ⟨k', T, ex, cs, cur, _, _, q1, q2, _, q3, q4, q5⟩
   ·exact .inl ⟨q1, q2, q3, q4⟩
   ·exact .inr ⟨_, _, cur, q1, q2, q3, q4, o2, q5⟩) n2 n3 hm n6 n7 (by simp only [maxLen]; omega) hby
 have hexec : (execOp a.eval o).run P w = .ok (.value (.slice (some ⟨b', o', none⟩) (n + m) cap')) w' := by
  simp only [execOp, ho, resolve, invoke, builtin, Sem.run_bind, Sem.run_pure, Result.andThen_ok, List.map_toArray, List.map_cons, List.map_nil, hvx, hrun]
 have hcl : (vs ++ us).length = (n + m) * te.size := by rw [List.length_append, o2, n2, Nat.add_mul]
 have hmul : (n + m) * te.size ≤ cap' * te.size := Nat.mul_le_mul_right _ r4
 have hxl := (o1.app n1).len
 -- the cells of the row
 have htk : ∀ (E' : XE) (w' : World), w'.heap[b']? = some (.cells cur' el (0, 0)) → o' = 0 → (∀ j v, (vs ++ us)[j]? = some v → w'.cell? ⟨b', o' + j, none⟩ = some v) → ∀ l : List AV, l.length = (xs ++ ys).length → XRepL w' (E'.new b' cur'.size) l (vs ++ us) → XTok w' (E'.new b' cur'.size) E'.n (.row el false l) := fun E' w' hh ho' hcells l hl hrep => by
  refine ⟨cur', by rw [XE.new_blk]; exact hh, XE.new_sz.symm, by rw [hl, ← hxl, hcl]; omega, ?_, by simp⟩
  have : cur'.toList.take l.length = vs ++ us := by
   apply List.ext_getElem?
   intro j
   rw [List.getElem?_take]
   split
   ·rename_i hj
    have hj' : j < (vs ++ us).length := by rw [hxl, ← hl]; exact hj
    have := hcells j _ (List.getElem?_eq_getElem hj')
    rw [List.getElem?_eq_getElem hj']
    simp only [World.cell?, hh, ho', Nat.zero_add] at this
    simpa using this
   ·rename_i hj
    rw [List.getElem?_eq_none (by rw [hxl, ← hl]; omega)]
  rw [this]; exact hrep
 have ho0 : o' = 0 := by
  rcases r6 with ⟨_, h0, _⟩ | ⟨h0, _⟩
  ·exact h0
  ·rcases o4 with ⟨q1, _⟩ | ⟨k', T, ex, cs, cur, _, _, q1, _⟩
   ·rw [q1] at h0; simp at h0
   ·rw [q1] at h0; simp only [Option.some.injEq, Addr.mk.injEq, and_true] at h0; exact h0.2.symm
 subst ho0
 intro next hn
 have hval : ∀ (E' : XE) (T : Nat), E'.n = T → XRep w' (E'.new b' cur'.size) (.ref T [(te.size, 0)] 0 (n + m)) (.slice (some ⟨b', 0, none⟩) (n + m) cap') := fun E' T hT => by
  subst hT
  simp only [XRep, XRef]
  exact ⟨by simp [XE.new], cap', by rw [XE.new_blk], r4, r1, by rw [XE.new_sz]; exact r3⟩
 cases k with
 | none =>
  simp only [Option.some.injEq] at hq; subst hq
  rcases o4 with ⟨rfl, rfl, rfl, rfl, _⟩ | ⟨k', _, _, _, _, e, _⟩
  ·rcases r6 with ⟨rfl, _, hfr, hlt⟩ | ⟨e, _⟩
   ·have hF : Agree E.F w w' := fun b hb => hfr.block b (h.flt b hb) id
    have hle := XE.new_le (b := w.heap.size) (s := cur'.size) hF
    have h1 := h.new (b0 := w.heap.size) ⟨hfr.os, hfr.tape, hfr.output, hfr.size, fun b hb _ => hfr.block b hb id⟩ h.frame.size hlt (fun hb => Nat.lt_irrefl _ (h.flt _ hb)) (fun t k ht hk e => by have := (h.live t k ht hk).2.1; omega) cur'.size
     (htk E w' r2 rfl r5 (xs ++ ys) rfl ((o1.app n1).mono hle))
    exact wp_val hexec (hn _ _ w' h1 (hval E _ h.n))
   ·simp at e
  ·simp at e
 | some k =>
  simp only [Option.some.injEq] at hq; subst hq
  rcases o4 with ⟨_, _, _, _, e⟩ | ⟨k', T, ex, cs, cur, e, hk', rfl, q2, q2s, q3, q4, q5⟩
  ·simp at e
  ·simp only [Option.some.injEq] at e; subst e
   have hK := h.kill k
   have hEn : E.n = (killX k st).toks.length := hK.n
   have hlen : (killX k st).toks.length = st.toks.length := by simp [killX]
   obtain ⟨l1, l2, l3⟩ := h.live k _ hk' (by simp)
   have hkill : XRepL w E (killL k (xs ++ ys)) (vs ++ us) := (o1.app n1).kill k
   rcases r6 with ⟨rfl, _, hfr, hlt⟩ | ⟨e, rfl, hfr, hsz, cur0, c1, c2⟩
   ·have hF : Agree E.F w w' := fun b hb => hfr.block b (h.flt b hb) id
    have hle := XE.new_le (b := w.heap.size) (s := cur'.size) hF
    have h1 := hK.new (b0 := w.heap.size) ⟨hfr.os, hfr.tape, hfr.output, hfr.size, fun b hb _ => hfr.block b hb id⟩ h.frame.size hlt (fun hb => Nat.lt_irrefl _ (h.flt _ hb)) (fun t k ht hk e => by have := (hK.live t k ht hk).2.1; omega) cur'.size
     (htk E w' r2 rfl r5 (killL k (xs ++ ys)) (killL_len _ _) (hkill.mono hle))
    exact wp_val hexec (hn _ _ w' h1 (hval E _ h.n))
   ·simp only [Option.some.injEq, Addr.mk.injEq, and_true] at e
    subst e
    have hF : Agree E.F w w' := fun b hb => hfr.block b (h.flt b hb) fun e => l3 (e ▸ hb)
    have hle := XE.new_le (b := E.blk k) (s := cur'.size) hF
    have h1 := hK.new (b0 := E.blk k) hfr l1 (by rw [hsz]; exact l2) l3 (fun t kk ht hkk e => by
      by_cases htk' : t = k
      ·subst htk'
       simp only [killX] at ht
       rw [List.getElem?_set_self (by simp; exact (List.getElem?_eq_some_iff.1 hk').1)] at ht
       exact hkk (Option.some.inj ht).symm
      ·simp only [killX] at ht
       rw [List.getElem?_set_ne (fun e => htk' e.symm), List.getElem?_map] at ht
       obtain ⟨k0, h0, h0'⟩ := Option.map_eq_some_iff.1 ht
       exact h.inj t k k0 _ h0 hk' (killT_none (t := k) (h0' ▸ hkk)) (by simp) htk' e) cur'.size
     (htk E w' r2 rfl r5 (killL k (xs ++ ys)) (killL_len _ _) (hkill.mono hle))
    exact wp_val hexec (hn _ _ w' h1 (hval E _ h.n))
end
open Go Go.RowKit
def x_makeSlice (C : Ctx) (t : TypeId) (l c : Operand) (st : XS) : Option (AV × XS) := match C.T t, asNat (ev st.slots l), asNat (ev st.slots c) with
 | some ti, some n, some n' => (match ti.desc with
  | .slice el => (match C.T el with
   | some te => if n = n' ∧ te.bytes * n ≤ 281474976710656 ∧ n ≤ 4611686018427387904 ∧ 0 < te.size then
     some (.ref st.toks.length [(te.size, 0)] 0 n, { st with toks := st.toks ++ [.row el true ((List.range (n * te.size)).map fun i => (ofV te.zero).cells.getD (i % te.size) .junk)] }) else none
   | none => none)
  | _ => none)
 | _, _, _ => none
def srcX (z : Nat) (st : XS) (y : AV) : Option (List AV × Nat) := match y with
 | .ref k [(z', 0)] lo m => (match kRow st.toks[k]? with
  | some (_, _, cs) => if z' = z ∧ lo + m * z ≤ cs.length ∧ (cs.all oneX) = true then some ((cs.drop lo).take (m * z), m) else none
  | none => none)
 | .sl _ z' es => if z' = z ∧ (es.all fun e => decide (e.cells.length = z) && e.cells.all oneX) = true then some (es.flatMap AV.cells, es.length) else if es.length = 0 then some ([], 0) else none
 | _ => none
def x_copy (C : Ctx) (args : List Operand) (ts : List TypeId) (st : XS) : Option (AV × XS) := match args, ts with
 | [x, y], [t, _] => (match C.T t with
  | some ti => (match ti.desc with
   | .slice el => (match C.T el, ev st.slots x with
    | some te, .ref k [(z, 0)] lo n => (match kRow st.toks[k]?, srcX te.size st (ev st.slots y) with
     | some (T, ex, cs), some (ys, m) => if z = te.size ∧ lo + n * z ≤ cs.length then
       some (.v (.int .i64 ((min m n : Nat) : Int)), { st with toks := st.toks.set k (.row T ex (cs.take lo ++ ys.take (min m n * z) ++ cs.drop (lo + min m n * z))) }) else none
     | _, _ => none)
    | _, _ => none)
   | _ => none)
  | none => none)
 | _, _ => none
def bytesX : List AV → Option (List UInt8)
 | [] => some []
 | .v (.int .u8 n) :: cs => (match bytesX cs with
  | some bs => if ((UInt8.ofNat n.toNat).toNat : Int) = n then some (UInt8.ofNat n.toNat :: bs) else none
  | none => none)
 | _ :: _ => none
def x_convert (C : Ctx) (s d : TypeId) (x : AV) (st : XS) : Option (AV × XS) := match C.T s, C.T d with
 | some ts, some td => (match ts.desc, td.desc, x with
  | .int _, .int k, .v (.int _ n) => some (.v (.int k (k.wrap n)), st)
  | .string, .string, .v (.string b) => some (.v (.string b), st)
  | .slice el, .string, x => (match C.T el, srcX 1 st x with
   | some te, some (cs, _) => (match te.desc, bytesX cs with
    | .int .u8, some bs => some (.v (.string ⟨bs.toArray⟩), st)
    | _, _ => none)
   | _, _ => none)
  | _, _, _ => none)
 | _, _ => none
def x_mm (f : Int → Int → Int) (args : List Operand) (st : XS) : Option (AV × XS) := match args with
 | [x, y] => (match ev st.slots x, ev st.slots y with
  | .v (.int k a), .v (.int _ b) => some (.v (.int k (f a b)), st)
  | _, _ => none)
 | _ => none
section
variable {P : Program} {C : Ctx} {o : Oper} {B : XB} {st : XS} {E : XE} {a : Act} {gv : List Act} {w w' : World} {q : AV × XS}
theorem XRepL.of_get : ∀ {cs : List AV} {ys : List Value}, ys.length = cs.length → (∀ (i : Nat) (c : AV), cs[i]? = some c → ∃ y : Value, ys[i]? = some y ∧ XRep w E c y) → XRepL w E cs ys
 | [], ys, h, _ => by simpa [XRepL] using h
 | c :: cs, [], h, _ => by simp at h
 | c :: cs, y :: ys, h, hg => by
  simp only [XRepL]
  obtain ⟨y', h1, h2⟩ := hg 0 c (by simp)
  simp at h1; subst h1
  exact ⟨_, _, rfl, h2, XRepL.of_get (by simpa using h) fun i c' hc => by simpa using hg (i + 1) c' (by simpa using hc)⟩
theorem xg_makeSlice (hC : C.Ok P) (h : XR B st E a gv w) {t : TypeId} {l c : Operand} (ho : o.op = .makeSlice t l c) (hq : x_makeSlice C t l c st = some q) : XG P o a w B gv q := by
 simp only [x_makeSlice] at hq
 split at hq
 rotate_left
 ·simp at hq
 rename_i ti n n' hti hl hc
 obtain ⟨kl, el0⟩ := asNat_eq hl
 obtain ⟨kc, ec0⟩ := asNat_eq hc
 have el := XRep_v (h.top.ev l) el0
 have ec := XRep_v (h.top.ev c) ec0
 split at hq
 rotate_left
 ·simp at hq
 rename_i el' hd
 split at hq
 rotate_left
 ·simp at hq
 rename_i te hte
 split at hq
 rotate_left
 ·simp at hq
 rename_i hcond
 obtain ⟨rfl, hb, hn63, hpos⟩ := hcond
 simp only [Option.some.injEq] at hq; subst hq
 have ht := hC.T t ti hti
 have hte' := hC.T _ te hte
 have hu := ht.desc
 rw [hd] at hu
 obtain ⟨i, hi, hi1, hi2, hi3⟩ := hte'.info
 have hrun := run_make (P := P) w t el' i te.zero hu hi hi3 kl kc n n (by omega) (by omega) (by rw [hi2]; omega) (by omega)
 simp only [Int.toNat_natCast] at hrun
 have hmsz : (madeCells te.zero.cells (n * i.size)).size = n * te.size := by rw [size_madeCells, hi1]
 have hzc := XRep_zero (w := w) (E := E) te.zero
 have hzl : (ofV te.zero).cells.length = te.size := by rw [← cells_ofV, hte'.size]
 obtain ⟨h1, h2⟩ := h.newRow el' (xs := (List.range (n * te.size)).map fun i => (ofV te.zero).cells.getD (i % te.size) .junk) (ys := madeCells te.zero.cells (n * i.size)) fun E' hle => by
  refine XRepL.of_get (by simp [hmsz]) fun j c hj => ?_
  rw [List.getElem?_map, Option.map_eq_some_iff] at hj
  obtain ⟨j', hj', rfl⟩ := hj
  have hjl : j < n * te.size := by have := (List.getElem?_eq_some_iff.1 hj').1; simpa using this
  have : j' = j := by rw [List.getElem?_range hjl] at hj'; exact (Option.some.inj hj').symm
  subst this
  have hm : j' % te.size < te.size := Nat.mod_lt _ hpos
  obtain ⟨y, g1, g2⟩ := hzc.get (j' % te.size) _ (List.getElem?_eq_getElem (by omega))
  have e : (ofV te.zero).cells.getD (j' % te.size) .junk = (ofV te.zero).cells[j' % te.size]'(by omega) := by rw [List.getD_eq_getElem?_getD, List.getElem?_eq_getElem (by omega)]; rfl
  rw [e]
  refine ⟨y, ?_, g2.mono hle⟩
  rw [Array.getElem?_toList, Array.getElem?_eq_getElem (by rw [hmsz]; exact hjl)]
  simp only [madeCells, Array.getElem_map, Array.getElem_range]
  rw [hte'.size]
  have : te.zero.cells[j' % te.size]? = some y := by simpa using g1
  rw [getElem!_def, this]
 intro next hn
 refine wp_val (y := .slice (some ⟨w.heap.size, 0, none⟩) n n) ?_ (hn _ _ _ h1 ?_)
 ·simp [execOp, ho, el, ec, hrun]
 ·simp only [XRep, XPtr] at h2
  simp only [XRep, XRef]
  refine ⟨h2.1, n, ?_, Nat.le_refl _, by simp [maxLen]; omega, by rw [← h.n, XE.new_sz, hmsz]; omega⟩
  have := h2.2
  simp only [Value.pointer.injEq, Option.some.injEq, Addr.mk.injEq, and_true] at this
  rw [← this]
theorem srcX_ok (h : XR B st E a gv w) {z : Nat} {x : AV} {y : Value} (hx : XRep w E x y) {xs : List AV} {m : Nat} (ho : srcX z st x = some (xs, m)) :
  ∃ ad cap vs, y = .slice ad m cap ∧ XRepL w E xs vs ∧ vs.length = m * z ∧ (∀ v ∈ vs, v.oneCell' = true) ∧ (m = 0 ∨ ∃ b o', ad = some ⟨b, o', none⟩ ∧ ∀ j v, vs[j]? = some v → w.cell? ⟨b, o' + j, none⟩ = some v) := by
 unfold srcX at ho
 split at ho
 ·rename_i k z' lo m'
  split at ho
  ·rename_i T ex cs hk
   split at ho
   ·rename_i hc
    obtain ⟨rfl, hfit, hone⟩ := hc
    simp only [Option.some.injEq, Prod.mk.injEq] at ho
    obtain ⟨rfl, rfl⟩ := ho
    simp only [XRep, XRef] at hx
    obtain ⟨_, cap, rfl, h1, h2, h3⟩ := hx
    obtain ⟨ys, g1, g2, g3⟩ := (h.tok k _ (kRow_ok hk)).at
    refine ⟨_, cap, (ys.drop lo).take (m' * z'), rfl, (g1.drop lo).take _, by simp; omega, fun v hv => g1.one hone v (List.mem_of_mem_drop (List.mem_of_mem_take hv)), .inr ⟨_, _, rfl, fun j v hj => ?_⟩⟩
    rw [List.getElem?_take] at hj
    split at hj
    ·rw [List.getElem?_drop] at hj; exact g3 _ _ hj
    ·simp at hj
   ·simp at ho
  ·simp at ho
 ·rename_i nl z' es
  simp only [XRep] at hx
  have hx0 := hx
  simp only [Rep] at hx
  obtain ⟨ad, len, cap, rfl, h1, h2, h3, h4⟩ := hx
  split at ho
  ·rename_i hc
   obtain ⟨rfl, hall⟩ := hc
   simp only [Option.some.injEq, Prod.mk.injEq] at ho
   obtain ⟨rfl, rfl⟩ := ho
   subst h1
   have hnil : es = [] → ∃ ad' cap' vs, Value.slice ad es.length cap = .slice ad' es.length cap' ∧ XRepL w E (es.flatMap AV.cells) vs ∧ vs.length = es.length * z' ∧ (∀ v ∈ vs, v.oneCell' = true) ∧ (es.length = 0 ∨ ∃ b o', ad' = some ⟨b, o', none⟩ ∧ ∀ j v, vs[j]? = some v → w.cell? ⟨b, o' + j, none⟩ = some v) := fun he => by
    subst he
    exact ⟨ad, cap, [], rfl, by simp [XRepL], by simp, by simp, .inl rfl⟩
   rcases h4 with ⟨_, _, h0, _⟩ | ⟨b, o', rfl, _, hrow⟩ | ⟨_, _, h0⟩
   ·exact hnil (List.length_eq_zero_iff.1 h0)
   ·obtain ⟨vs, g1, g2, g3, g4⟩ := RepRow.cellsX hrow hall
    exact ⟨_, cap, vs, rfl, XRepL.of_rep _ _ g1, g2, g3, .inr ⟨b, o', rfl, g4⟩⟩
   ·exact hnil h0
  ·split at ho
   ·rename_i h0
    simp only [Option.some.injEq, Prod.mk.injEq] at ho
    obtain ⟨rfl, rfl⟩ := ho
    exact ⟨ad, cap, [], by rw [h1, h0], by simp [XRepL], by simp, by simp, .inl rfl⟩
   ·simp at ho
 ·simp at ho
theorem xg_copy (hC : C.Ok P) (h : XR B st E a gv w) {args : Array Operand} {ts : Array TypeId} (ho : o.op = .call { callee := .builtin .copy, args := args, argTypes := ts }) (hq : x_copy C args.toList ts.toList st = some q) : XG P o a w B gv q := by
 simp only [x_copy] at hq
 split at hq
 rotate_left
 ·simp at hq
 rename_i x y t t2 hxy hts
 have ha : args = #[x, y] := by cases args; simp_all
 have hts' : ts = #[t, t2] := by cases ts; simp_all
 subst ha; subst hts'
 split at hq
 rotate_left
 ·simp at hq
 rename_i ti hti
 split at hq
 rotate_left
 ·simp at hq
 rename_i el hd
 split at hq
 rotate_left
 ·simp at hq
 rename_i te k z lo n hte hxe
 split at hq
 rotate_left
 ·simp at hq
 rename_i T ex cs ys m hk hsrc
 split at hq
 rotate_left
 ·simp at hq
 rename_i hcond
 obtain ⟨rfl, hfit⟩ := hcond
 simp only [Option.some.injEq] at hq; subst hq
 have hu := (hC.T t ti hti).desc
 rw [hd] at hu
 have hte' := hC.T _ te hte
 have hxv := h.top.ev x
 rw [hxe] at hxv
 simp only [XRep, XRef] at hxv
 obtain ⟨_, cap, hvx, c1, c2, c3⟩ := hxv
 obtain ⟨ad2, cap2, vs, hvy, s1, s2, s3, s4⟩ := srcX_ok h (h.top.ev y) hsrc
 have hk' := kRow_ok hk
 obtain ⟨cur, g1, g2, g3, g4, g5⟩ := h.tok k _ hk'
 generalize hm : min m n = m'
 have hm1 : m' ≤ m := by omega
 have hm2 : m' ≤ n := by omega
 have hmul1 : m' * te.size ≤ m * te.size := Nat.mul_le_mul_right _ hm1
 have hmul2 : m' * te.size ≤ n * te.size := Nat.mul_le_mul_right _ hm2
 obtain ⟨news, hnews⟩ : ∃ news, news = vs.take (m' * te.size) := ⟨_, rfl⟩
 have hnl : news.length = m' * te.size := by rw [hnews, List.length_take]; omega
 have hone : ∀ v ∈ news, v.oneCell' = true := fun v hv => s3 v (List.mem_of_mem_take (hnews ▸ hv))
 have hfirst : (Builtin.firstCells te.size m' (.slice ad2 m cap2)).run P w = .ok news.toArray w := by
  rcases s4 with h0 | ⟨b2, o2, rfl, s4⟩
  ·obtain rfl : m' = 0 := by omega
   have : news = [] := List.eq_nil_of_length_eq_zero (by simpa using hnl)
   rw [this]
   cases ad2 with
   | none => simp [Builtin.firstCells]
   | some a2 => exact run_firstCells_some w te.size 0 a2 m cap2 [] (by simp) (by simp)
  ·refine run_firstCells_some w te.size m' ⟨b2, o2, none⟩ m cap2 news hnl fun j v hj => ?_
   rw [add_addr]
   rw [hnews, List.getElem?_take] at hj
   split at hj
   ·exact s4 j v hj
   ·simp at hj
 have hfit' : lo + news.length ≤ cur.size := by omega
 have hst := run_storeCells_at (P := P) (E.blk k) lo T news 0 cur w g1 (by simpa using hfit') hone
 simp only [Nat.add_zero] at hst
 let w' := w.setRow (E.blk k) (cur.toList.take lo ++ news ++ cur.toList.drop (lo + news.length)).toArray
 have hrun : (execOp a.eval o).run P w = .ok (.value (.int .i64 (m' : Int))) w' := by
  have hmin : Nat.min m n = m' := hm
  have hsz := run_size (P := P) (w := w) hte'
  have hb : (Builtin.copy_ #[t, t2] o.type #[.slice (some ⟨E.blk k, lo, none⟩) n cap, .slice ad2 m cap2]).run P w = .ok (.int .i64 (m' : Int)) w' := by
   simp [Builtin.copy_, run_underlying hu, Builtin.lenOf, hmin, hsz, hfirst, goInt, hst, w']
  simp only [execOp, ho, resolve, invoke, builtin, Sem.run_bind, Sem.run_pure, Result.andThen_ok, List.map_toArray, List.map_cons, List.map_nil, hvx, hvy, hb]
 have hfr : Frm (fun b => b = E.blk k) w w' := ⟨rfl, rfl, rfl, by simp [w', World.setRow], fun b _ hb => setRow_other w _ b _ hb⟩
 have hF : Agree E.F w w' := fun b hb => setRow_other w _ b _ fun e => (h.live k _ hk' (by simp)).2.2 (e ▸ hb)
 have hle : XLe w w' E E := ⟨fun _ h => h, hF, Nat.le_refl _, fun _ _ => ⟨rfl, rfl⟩⟩
 intro next hn
 refine wp_val hrun (hn E _ w' (h.upd hk' (by simp) hfr ?_) (by simp [XRep, Value.oneCell']))
 have hcsl := g4.len
 have hyl := s1.len
 refine ⟨_, setRow_heap w _ cur _ T (0, 0) g1, ?_, ?_, ?_, fun he => ?_⟩
 ·simp only [List.size_toArray, List.length_append, List.length_take, List.length_drop, Array.length_toList]; omega
 ·simp only [List.size_toArray, List.length_append, List.length_take, List.length_drop, Array.length_toList]; omega
 ·have e1 := ((g4.take lo).app (s1.take (m' * te.size))).app (g4.drop (lo + m' * te.size))
  rw [← hnews] at e1
  have hL : (List.take lo cs ++ List.take (m' * te.size) ys ++ List.drop (lo + m' * te.size) cs).length = cs.length := by simp; omega
  have : List.take lo (List.take cs.length cur.toList) ++ news ++ List.drop (lo + m' * te.size) (List.take cs.length cur.toList) =
    List.take cs.length (cur.toList.take lo ++ news ++ cur.toList.drop (lo + news.length)) := by
   rw [List.take_take, Nat.min_eq_left (by omega : lo ≤ cs.length), hnl, List.take_append, List.take_append, List.take_take, List.length_append, List.length_take, hnl]
   have e1 : min lo cur.toList.length = lo := Nat.min_eq_left (by rw [Array.length_toList]; omega)
   have e2 : min cs.length lo = lo := Nat.min_eq_right (by omega)
   rw [e1, e2, List.take_of_length_le (l := news) (by omega), List.drop_take]
  rw [hL, List.toList_toArray, ← this]
  exact e1.mono hle
 ·have := g5 he
  simp only [List.size_toArray, List.length_append, List.length_take, List.length_drop, Array.length_toList]; omega
theorem bytesX_ok : ∀ {cs : List AV} {ys : List Value} {bs : List UInt8}, XRepL w E cs ys → bytesX cs = some bs → ys = bs.map fun b => .int .u8 (b.toNat : Int)
 | [], _, _, h, hb => by simp only [XRepL] at h; simp only [bytesX, Option.some.injEq] at hb; subst hb; subst h; rfl
 | c :: cs, _, _, h, hb => by
  simp only [XRepL] at h
  obtain ⟨y, ys, rfl, h1, h2⟩ := h
  unfold bytesX at hb
  split at hb
  ·rename_i e; simp at e
  ·rename_i n cs' e
   simp only [List.cons.injEq] at e
   obtain ⟨rfl, rfl⟩ := e
   split at hb
   ·rename_i bs' hbs
    split at hb
    ·rename_i hn
     simp only [Option.some.injEq] at hb; subst hb
     simp only [XRep] at h1
     rw [List.map_cons, ← bytesX_ok h2 hbs, h1.1, hn]
    ·simp at hb
   ·simp at hb
  ·simp at hb
theorem xg_convert (hC : C.Ok P) (h : XR B st E a gv w) {s d : TypeId} {x : Operand} (ho : o.op = .convert s d x) (hq : x_convert C s d (ev st.slots x) st = some q) : XG P o a w B gv q := by
 unfold x_convert at hq
 split at hq
 rotate_left
 ·simp at hq
 rename_i ts td hts htd
 have hus := run_underlying (P := P) (w := w) (hC.T _ _ hts).desc
 have hud := run_underlying (P := P) (w := w) (hC.T _ _ htd).desc
 split at hq
 ·rename_i k0 k k' n hk1 hk hx
  simp only [Option.some.injEq] at hq; subst hq
  have hxv := XRep_v (h.top.ev x) hx
  rw [hk] at hud
  refine xg_pure (y := .int k (k.wrap n)) h ?_ (by simp [XRep, Value.oneCell'])
  simp [execOp, ho, convert, hus, hud, hxv, Conv.intToInt]
 ·rename_i b hk1 hk2 hx
  simp only [Option.some.injEq] at hq; subst hq
  have hxv := XRep_v (h.top.ev x) hx
  rw [hk1] at hus
  rw [hk2] at hud
  refine xg_pure (y := .string b) h ?_ (by simp [XRep, Value.oneCell'])
  simp [execOp, ho, convert, hus, hud, hxv]
 ·rename_i el _ hk1 hk2
  split at hq
  rotate_left
  ·simp at hq
  rename_i te cs m hte hsrc
  split at hq
  rotate_left
  ·simp at hq
  rename_i bs hk3 hbs
  simp only [Option.some.injEq] at hq; subst hq
  rw [hk1] at hus
  rw [hk2] at hud
  have hue := run_underlying (P := P) (w := w) (hC.T _ _ hte).desc
  rw [hk3] at hue
  obtain ⟨ad, cap, vs, hy, s1, s2, s3, s4⟩ := srcX_ok h (h.top.ev x) hsrc
  have hvs := bytesX_ok s1 hbs
  rw [Nat.mul_one] at s2
  refine xg_pure (y := .string ⟨bs.toArray⟩) h ?_ (by simp [XRep, Value.oneCell'])
  have hns : (bs.map fun b => (b.toNat : Int)).map (Value.int .u8) = vs := by rw [hvs, List.map_map]; rfl
  have hback : ((bs.map fun b => (b.toNat : Int)).map fun n => UInt8.ofNat n.toNat) = bs := by
   rw [List.map_map]
   conv => rhs; rw [← List.map_id bs]
   exact List.map_congr_left fun b _ => by simp
  cases had : ad with
  | none =>
   have hm0 : m = 0 := by
    rcases s4 with h0 | ⟨b, o', e, _⟩
    ·exact h0
    ·rw [had] at e; simp at e
   have hb0 : bs = [] := by
    have := congrArg List.length hvs
    simp at this
    exact List.length_eq_zero_iff.1 (by omega)
   subst hb0
   rw [had] at hy
   simp [execOp, ho, convert, hus, hud, hue, hy, Conv.bytesToString]
   rfl
  | some ad' =>
   have hload : (Go.loadCells ad' m).run P w = .ok ((bs.map fun b => (b.toNat : Int)).map (Value.int .u8)).toArray w := by
    rw [hns]
    have hl : m = vs.length := s2.symm
    rw [hl]
    refine run_loadCells_list w ad' vs fun j v hj => ?_
    rcases s4 with h0 | ⟨b, o', e, s4⟩
    ·have := (List.getElem?_eq_some_iff.1 hj).1; omega
    ·rw [had] at e
     obtain rfl := Option.some.inj e
     rw [add_addr]; exact s4 j v hj
   have := run_bytesToString (P := P) w ad' m cap _ hload
   rw [push_bytes, hback] at this
   have e0 : (ByteArray.empty.data ++ bs.toArray) = bs.toArray := by
    rw [show ByteArray.empty.data = #[] from rfl]; simp
   rw [e0] at this
   rw [had] at hy
   simp only [execOp, ho, convert, Sem.run_bind, hus, hud, hue, hy, Result.andThen_ok, this]
   rfl
 ·simp at hq
theorem xg_max (h : XR B st E a gv w) {args : Array Operand} {ts : Array TypeId} (ho : o.op = .call { callee := .builtin .max, args := args, argTypes := ts }) (hq : x_mm max args.toList st = some q) : XG P o a w B gv q := by
 simp only [x_mm] at hq
 split at hq
 rotate_left
 ·simp at hq
 rename_i x y hxy
 have ha : args = #[x, y] := by cases args; simp_all
 subst ha
 split at hq
 rotate_left
 ·simp at hq
 rename_i k m k' n hx hy
 simp only [Option.some.injEq] at hq; subst hq
 have e1 := XRep_v (h.top.ev x) hx
 have e2 := XRep_v (h.top.ev y) hy
 refine xg_pure (y := .int k (max m n)) h ?_ (by simp [XRep, Value.oneCell'])
 simp [execOp, ho, resolve, invoke, builtin, e1, e2, Lib.run_max_ints]
theorem xg_min (h : XR B st E a gv w) {args : Array Operand} {ts : Array TypeId} (ho : o.op = .call { callee := .builtin .min, args := args, argTypes := ts }) (hq : x_mm min args.toList st = some q) : XG P o a w B gv q := by
 simp only [x_mm] at hq
 split at hq
 rotate_left
 ·simp at hq
 rename_i x y hxy
 have ha : args = #[x, y] := by cases args; simp_all
 subst ha
 split at hq
 rotate_left
 ·simp at hq
 rename_i k m k' n hx hy
 simp only [Option.some.injEq] at hq; subst hq
 have e1 := XRep_v (h.top.ev x) hx
 have e2 := XRep_v (h.top.ev y) hy
 refine xg_pure (y := .int k (min m n)) h ?_ (by simp [XRep, Value.oneCell'])
 simp [execOp, ho, resolve, invoke, builtin, e1, e2, Lib.run_min_ints]
end
open Go Go.RowKit
def x_usd (x : AV) (st : XS) : Option (AV × XS) := match x with
 | .ref k [(_, 0)] lo n => if 0 < n then some (.ptr k [] 0 lo, st) else none
 | _ => none
def x_ustr (C : Ctx) (t : TypeId) (x y : AV) (st : XS) : Option (AV × XS) := match x, y with
 | .ptr k [] _ 0, .v (.int .i64 n) => (match kRow st.toks[k]?, C.T t with
  | some (T, _, cs), some ti => (match ti.desc, C.T T, bytesX (cs.take n.toNat) with
   | .pointer T', some te, some bs => if T' = T ∧ te.size = 1 ∧ (bs.length : Int) = n ∧ 0 < bs.length ∧ bs.length ≤ 4611686018427387904 then some (.v (.string ⟨bs.toArray⟩), killX k st) else none
   | _, _, _ => none)
  | _, _ => none)
 | _, _ => none
def x_clip (C : Ctx) (t : TypeId) (x hi mx : Operand) (st : XS) : Option (AV × XS) := match C.T t with
 | some ti => (match ti.desc, ev st.slots x with
  | .slice el, .ref k [(z, 0)] lo n => (match C.T el, asNat (ev st.slots hi), asNat (ev st.slots mx) with
   | some te, some h, some m => if te.size = z ∧ h = n ∧ m = n then some (.ref k [(z, 0)] lo n, st) else none
   | _, _, _ => none)
  | .slice el, .sl nl sz es => (match C.T el, asNat (ev st.slots hi), asNat (ev st.slots mx) with
   | some te, some h, some m => if te.size = sz ∧ h = es.length ∧ m = es.length then some (.sl nl sz es, st) else none
   | _, _, _ => none)
  | _, _ => none)
 | none => none
def x_builtin (C : Ctx) (b : Builtin) (args : List Operand) (ts : List TypeId) (st : XS) : Option (AV × XS) := match b with
 | .len => x_len C args ts st
 | .copy => x_copy C args ts st
 | .max => x_mm max args st
 | .min => x_mm min args st
 | .append => x_append C args ts st
 | .unsafeSliceData => (match args with
  | [x] => x_usd (ev st.slots x) st
  | _ => none)
 | .unsafeString => (match args, ts with
  | [x, y], [t, _] => x_ustr C t (ev st.slots x) (ev st.slots y) st
  | _, _ => none)
 | _ => none
def xop (C : Ctx) (cf : CF) (op : Op) (st : XS) : Option (AV × XS) := match op with
 | .move x => x_move x st
 | .assign x => x_move x st
 | .pick c x y => x_pick c x y st
 | .alloc t => x_alloc C t st
 | .box t x => x_box t x st
 | .load t x => x_load C t x st
 | .store t x y => x_store C t x y st
 | .binOp op t x y _ => x_binOp C op t x y st
 | .unOp op _ x => x_unOp op x st
 | .fieldAddr t x f => x_fieldAddr C t x f st
 | .field t x f => x_field C t x f st
 | .extract x i => x_extract x i st
 | .makeFunc (.func f) first captured => x_makeFunc f first.toList captured.toList st
 | .indexAddr t x ix => x_indexAddr C t x ix st
 | .index t x ix => x_index C t x ix st
 | .slice t x lo hi none => x_slice C t x lo hi st
 | .slice t x none (some hi) (some mx) => x_clip C t x hi mx st
 | .build t parts => x_build C t parts.toList st
 | .makeSlice t l c => x_makeSlice C t l c st
 | .convert s d x => x_convert C s d (ev st.slots x) st
 | .buildSlice t len parts => x_buildSlice C t len parts.toList st
 | .makeMap t none => (match C.T t with
  | some ti => (match ti.desc with
   | .map _ _ => x_makeMap C t st
   | _ => none)
  | none => none)
 | .insert t m k x => x_insert C t m k x st
 | .lookup t m k true => x_lookup C t m k st
 | .nilCheck x => x_nilCheck x st
 | .call c => (match c.callee with
  | .builtin b => x_builtin C b c.args.toList c.argTypes.toList st
  | .value f => x_call cf f c.args.toList st
  | _ => none)
 | _ => none
section
variable {P : Program} {C : Ctx} {cf : CF} {o : Oper} {B : XB} {st : XS} {E : XE} {a : Act} {gv : List Act} {w w' : World} {q : AV × XS}
theorem XR.other (h : XR B st E a gv w) {b0 : Nat} (hw : Frm (fun b => b = b0) w w') (h1 : B.w0.heap.size ≤ b0) (h3 : ¬ E.F b0) (h4 : ∀ t k, st.toks[t]? = some k → k ≠ .none → E.blk t ≠ b0) : XR B st E a gv w' := by
 have hF : Agree E.F w w' := fun b hb => hw.block b (h.flt b hb) fun e => h3 (e ▸ hb)
 have hle : XLe w w' E E := ⟨fun _ h => h, hF, Nat.le_refl _, fun _ _ => ⟨rfl, rfl⟩⟩
 refine ⟨h.n, h.top.mono hle, h.ghost.mono hle _ _, fun t k ht => ?_, fun t k ht hk => ?_, h.inj, fun b hb => Nat.lt_of_lt_of_le (h.flt b hb) hw.size, h.fz, h.gl.agree hF, h.frame.trans' hw fun b hb => by rw [hb]; exact h1⟩
 ·by_cases hkn : k = .none
  ·subst hkn; trivial
  ·exact (h.tok t k ht).mono hle (h.lt ht) (hw.block _ (h.live t k ht hkn).2.1 (h4 t k ht hkn))
 ·have := h.live t k ht hk
  exact ⟨this.1, Nat.lt_of_lt_of_le this.2.1 hw.size, this.2.2⟩
theorem XR.drew (h : XR B st E a gv w) : XR B st (E.more fun _ => False) a gv { w with drawn := w.drawn + 1 } :=
 h.grow (w' := { w with drawn := w.drawn + 1 }) ⟨rfl, rfl, rfl, Nat.le_refl _, fun _ _ _ => rfl⟩ fun _ h => h.elim
theorem xg_clip (hC : C.Ok P) (hs : XR B st E a gv w) {t : TypeId} {x hi mx : Operand} (ho : o.op = .slice t x none (some hi) (some mx)) (h : x_clip C t x hi mx st = some q) : XG P o a w B gv q := by
 simp only [x_clip] at h
 split at h
 rotate_left
 ·simp at h
 rename_i ti hti
 have ht := hC.T t ti hti
 split at h
 rotate_left
 ·rename_i el nl sz es hd hx
  split at h
  rotate_left
  ·simp at h
  rename_i te hh m hte hhi hmx
  split at h
  rotate_left
  ·simp at h
  rename_i hcond
  obtain ⟨hsz, e3, rfl⟩ := hcond
  subst e3
  simp only [Option.some.injEq] at h; subst h
  have hxv := hs.top.ev x
  rw [hx] at hxv
  simp only [XRep] at hxv
  have hr := hxv
  simp only [Rep] at hr
  obtain ⟨ad, len, cap, hy, g1, g2, g3, g4⟩ := hr
  obtain ⟨k1, hk1⟩ := asNat_eq hhi
  obtain ⟨k2, hk2⟩ := asNat_eq hmx
  have e1 := XRep_v (hs.top.ev hi) hk1
  have e2 := XRep_v (hs.top.ev mx) hk2
  rw [← g1] at e1 e2
  have hu := Go.run_underlying (P := P) (w := w) ht.desc
  rw [hd] at hu
  have hszr := run_size (P := P) (w := w) (hC.T _ _ hte)
  have hle : (len : Int) ≤ cap := by omega
  refine xg_pure (y := .slice ad len len) hs ?_ ?_
  ·cases ad <;> simp [execOp, ho, Instr.sliceAt, hu, hy, Instr.slice, Instr.sliceBounds, hszr, e1, e2, run_sliceBound, hle, Addr.add]
  ·simp only [XRep, Rep]
   refine ⟨ad, len, len, rfl, g1, Nat.le_refl _, by omega, ?_⟩
   rcases g4 with ⟨a1, a2, a3, a4⟩ | ⟨b, o', a1, a2, a3⟩ | ⟨⟨z, a1⟩, a2, a3⟩
   ·exact .inl ⟨a1, a2, a3, a3⟩
   ·exact .inr (.inl ⟨b, o', a1, a2, a3⟩)
   ·exact .inr (.inr ⟨⟨z, a1⟩, a2, a3⟩)
 ·simp at h
 rename_i el k z lo0 n hd hx
 split at h
 rotate_left
 ·simp at h
 rename_i te hh m hte hhi hmx
 split at h
 rotate_left
 ·simp at h
 rename_i hcond
 obtain ⟨hsz, rfl, rfl⟩ := hcond
 simp only [Option.some.injEq] at h; subst h
 have hxv := hs.top.ev x
 rw [hx] at hxv
 simp only [XRep, XRef] at hxv
 obtain ⟨h0, cap, hy, g1, g2, g3⟩ := hxv
 obtain ⟨k1, hk1⟩ := asNat_eq hhi
 obtain ⟨k2, hk2⟩ := asNat_eq hmx
 have e1 := XRep_v (hs.top.ev hi) hk1
 have e2 := XRep_v (hs.top.ev mx) hk2
 have hu := Go.run_underlying (P := P) (w := w) ht.desc
 rw [hd] at hu
 have hszr := run_size (P := P) (w := w) (hC.T _ _ hte)
 have hle : (m : Int) ≤ cap := by omega
 have hle2 : (m : Int) ≤ m := by omega
 refine xg_pure (y := .slice (some ⟨E.blk k, lo0, none⟩) m m) hs ?_ ?_
 ·simp [execOp, ho, Instr.sliceAt, hu, hy, Instr.slice, Instr.sliceBounds, hszr, e1, e2, run_sliceBound, hle, hle2, Addr.add]
 ·simp only [XRep, XRef]
  refine ⟨h0, m, rfl, Nat.le_refl _, by omega, ?_⟩
  have : m * z ≤ cap * z := Nat.mul_le_mul_right _ (by omega)
  omega
theorem xg_usd (h : XR B st E a gv w) {args : Array Operand} {ts : Array TypeId} {x : Operand} (ha : args = #[x]) (ho : o.op = .call { callee := .builtin .unsafeSliceData, args := args, argTypes := ts }) (hq : x_usd (ev st.slots x) st = some q) : XG P o a w B gv q := by
 subst ha
 have hx := h.top.ev x
 unfold x_usd at hq
 split at hq
 ·rename_i k z lo n hxe
  split at hq
  ·rename_i hn
   simp only [Option.some.injEq] at hq; subst hq
   rw [hxe] at hx
   simp only [XRep, XRef] at hx
   obtain ⟨h0, cap, hy, h1, _⟩ := hx
   refine xg_pure (y := .pointer (some ⟨E.blk k, lo, none⟩)) h ?_ (by simp only [XRep, XPtr]; exact ⟨h0, trivial⟩)
   have := Lib.run_unsafeSliceData_row (P := P) (w := w) ts o.type ⟨E.blk k, lo, none⟩ n cap (by omega)
   simp only [execOp, ho, resolve, invoke, builtin, Sem.run_bind, Sem.run_pure, Result.andThen_ok, List.map_toArray, List.map_cons, List.map_nil, hy, this]
  ·simp at hq
 ·simp at hq
theorem xg_ustr (hC : C.Ok P) (h : XR B st E a gv w) {args : Array Operand} {ts : Array TypeId} {x y : Operand} {t t' : TypeId} (ha : args = #[x, y]) (hts : ts = #[t, t']) (ho : o.op = .call { callee := .builtin .unsafeString, args := args, argTypes := ts }) (hq : x_ustr C t (ev st.slots x) (ev st.slots y) st = some q) : XG P o a w B gv q := by
 subst ha; subst hts
 have hx := h.top.ev x
 unfold x_ustr at hq
 split at hq
 rotate_left
 ·simp at hq
 rename_i k i n hxe hye
 split at hq
 rotate_left
 ·simp at hq
 rename_i T ex cs ti hk hti
 split at hq
 rotate_left
 ·simp at hq
 rename_i T' te bs hd hte hbs
 split at hq
 rotate_left
 ·simp at hq
 rename_i hc
 obtain ⟨rfl, hsz, hn, hpos, h62⟩ := hc
 simp only [Option.some.injEq] at hq; subst hq
 have hk' := kRow_ok hk
 rw [hxe] at hx
 simp only [XRep, XPtr] at hx
 have hy := XRep_v (h.top.ev y) hye
 obtain ⟨ys, g1, g2, g3⟩ := (h.tok k _ hk').at
 obtain ⟨cur, q1, q2, q3, _⟩ := h.tok k _ hk'
 have hys := bytesX_ok (g1.take n.toNat) hbs
 have hnt : n.toNat = bs.length := by omega
 have hlen : bs.length ≤ cs.length := by
  have := congrArg List.length hys
  simp at this
  omega
 have hu := (hC.T t ti hti).desc
 rw [hd] at hu
 obtain ⟨inf, hinf, hi1, _⟩ := (hC.T _ _ hte).info
 have hrun := Lib.run_unsafeString_row (P := P) w t t' o.type T' hu (by simp [Program.cellsOf, hinf, hi1, hsz]) (E.blk k) cur.size (by simp [World.shape?, q1]) bs (by intro e; rw [e] at hpos; simp at hpos) (by omega) (by omega) (fun j b hj => by
  rw [add_addr, Nat.zero_add]
  have : (ys.take n.toNat)[j]? = some (.int .u8 b.toNat) := by rw [hys]; simp [hj]
  rw [List.getElem?_take] at this
  split at this
  ·exact g3 j _ this
  ·simp at this)
 rw [hn] at hrun
 obtain ⟨l1, l2, l3⟩ := h.live k _ hk' (by simp)
 have hfr : Frm (fun b => b = E.blk k) w (w.freeze ⟨E.blk k, 0, none⟩ bs.length) := by
  unfold World.freeze
  split
  ·exact Frm.refl _ _
  ·refine ⟨rfl, rfl, rfl, by simp, fun b hb hne => ?_⟩
   simp only [Array.getElem?_modify]
   rw [if_neg (fun e => hne e.symm)]
 have hK := (h.kill k).other hfr l1 l3 (fun t kk ht hkk e => by
  by_cases htk' : t = k
  ·subst htk'
   simp only [killX] at ht
   rw [List.getElem?_set_self (by simp; exact (List.getElem?_eq_some_iff.1 hk').1)] at ht
   exact hkk (Option.some.inj ht).symm
  ·simp only [killX] at ht
   rw [List.getElem?_set_ne (fun e => htk' e.symm), List.getElem?_map] at ht
   obtain ⟨k0, h0, h0'⟩ := Option.map_eq_some_iff.1 ht
   exact h.inj t k k0 _ h0 hk' (killT_none (t := k) (h0' ▸ hkk)) (by simp) htk' e)
 intro next hnx
 refine wp_val (y := .string ⟨bs.toArray⟩) ?_ (hnx E _ _ hK (by simp [XRep, Value.oneCell']))
 simp only [execOp, ho, resolve, invoke, builtin, Sem.run_bind, Sem.run_pure, Result.andThen_ok, List.map_toArray, List.map_cons, List.map_nil, hx.2, hy, hrun]
theorem xop_ok (hC : C.Ok P) (hcf : CFOk P cf) (h : XR B st E a gv w) (hq : xop C cf o.op st = some q) : XG P o a w B gv q := by
 generalize hop : o.op = op at hq
 cases op with
 | move x => exact xg_move h (.inl hop) hq
 | assign x => exact xg_move h (.inr hop) hq
 | pick c x y => exact xg_pick h hop hq
 | alloc t => exact xg_alloc hC h hop hq
 | box t x => exact xg_box h hop hq
 | load t x => exact xg_load hC h hop hq
 | store t x y => exact xg_store hC h hop hq
 | binOp op t x y t' => exact xg_binOp hC h hop hq
 | unOp op t x => exact xg_unOp h hop hq
 | fieldAddr t x f => exact xg_fieldAddr hC h hop hq
 | field t x f => exact xg_field hC h hop hq
 | extract x i => exact xg_extract h hop hq
 | makeFunc f first captured =>
  cases f with
  | func f => exact xg_makeFunc h hop hq
  | _ => simp [xop] at hq
 | indexAddr t x ix => exact xg_indexAddr hC h hop hq
 | index t x ix => exact xg_index hC h hop hq
 | slice t x lo hi mx =>
  cases mx with
  | none => exact xg_slice hC h hop hq
  | some m =>
   cases lo with
   | some l => simp [xop] at hq
   | none =>
    cases hi with
    | none => simp [xop] at hq
    | some hh => exact xg_clip hC h hop hq
 | build t parts => exact xg_build hC h hop hq
 | makeSlice t l c => exact xg_makeSlice hC h hop hq
 | convert s d x => exact xg_convert hC h hop hq
 | buildSlice t len parts => exact xg_buildSlice hC h hop hq
 | makeMap t r =>
  cases r with
  | some r => simp [xop] at hq
  | none =>
   simp only [xop] at hq
   split at hq
   ·rename_i ti hti
    split at hq
    ·rename_i k e hd
     have hu := (hC.T t ti hti).desc
     rw [hd] at hu
     exact xg_makeMap h hop ⟨_, _, hu⟩ hq
    ·simp at hq
   ·simp at hq
 | insert t m k x => exact xg_insert hC h hop hq
 | lookup t m k b =>
  cases b with
  | true => exact xg_lookup hC h hop hq
  | false => simp [xop] at hq
 | nilCheck x => exact xg_nilCheck h hop hq
 | call c =>
  obtain ⟨callee, args, ts⟩ := c
  cases callee with
  | value f => exact xg_call hcf h hop hq
  | builtin b =>
   simp only [xop] at hq
   cases b with
   | len => exact xg_len hC h hop hq
   | append => exact xg_append hC h hop hq
   | copy => exact xg_copy hC h hop hq
   | max => exact xg_max h hop hq
   | min => exact xg_min h hop hq
   | unsafeSliceData =>
    simp only [x_builtin] at hq
    split at hq
    ·rename_i x hx
     exact xg_usd h (by cases args; simp_all) hop hq
    ·simp at hq
   | unsafeString =>
    simp only [x_builtin] at hq
    split at hq
    ·rename_i x y t t' hx ht
     exact xg_ustr (t' := t') hC h (by cases args; simp_all) (by cases ts; simp_all) hop hq
    ·simp at hq
   | _ => simp [x_builtin] at hq
  | _ => simp [xop] at hq
 | _ => simp [xop] at hq
def yieldAt (st : XS) : Op → Option (Nat × List AV)
 | .call c => (match c.callee with
  | .value f => (match ev st.slots f with
   | .ptr t [(1, _)] _ _ => some (t, c.args.toList.map (ev st.slots))
   | _ => none)
  | _ => none)
 | _ => none
def xstep (C : Ctx) (cf : CF) (yf : YF) (ops : List Oper) (o : Oper) (st : XS) : Option XS := match guardOk ops st.slots o with
 | some true => (match yieldAt st o.op with
  | some (t, vs) => (match yf t vs st with
   | some q => some { q.2 with slots := putD q.2.slots o.dst q.1 }
   | none => none)
  | none => (match xop C cf o.op st with
   | some q => some { q.2 with slots := putD q.2.slots o.dst q.1 }
   | none => none))
 | some false => some { st with slots := putD st.slots o.dst (.tup []) }
 | none => none
theorem xwanted_ok {ops : Array Oper} (hs : XR B st E a gv w) {b : Bool} (h : guardOk ops.toList st.slots o = some b) : Region.wanted o (yielded ops a.tmps) = b := by
 unfold guardOk at h
 unfold Region.wanted
 split at h
 ·simp at h; simp_all
 ·rename_i j want hg
  rw [hg]
  simp only []
  split at h
  rotate_left
  ·simp at h
  rename_i o' ho'
  split at h
  rotate_left
  ·simp at h
  rename_i d hd
  have ho'' : ops[j]? = some o' := by simpa using ho'
  have hget : ∀ {x : AV}, st.slots.getD d .junk = x → x ≠ .junk → ∃ y, a.tmps[d]? = some y ∧ XRep w E x y := fun {x} hx hj => by
   rw [List.getD_eq_getElem?_getD] at hx
   cases hsl : st.slots[d]? with
   | none => rw [hsl] at hx; exact (hj hx.symm).elim
   | some z =>
    rw [hsl] at hx
    obtain ⟨y, h1, h2⟩ := hs.top.1.get d z hsl
    have : z = x := hx
    subst this
    exact ⟨y, by simpa using h1, h2⟩
  split at h
  ·rename_i c hc
   simp only [Option.some.injEq] at h
   obtain ⟨y, h1, h2⟩ := hget hc (by simp)
   simp only [XRep] at h2
   have hy : yielded ops a.tmps j = some c := by simp [yielded, ho'', hd, h1, h2.1]
   rw [hy, ← h]; simp
  ·rename_i vs hc
   simp only [Option.some.injEq] at h
   obtain ⟨y, h1, h2⟩ := hget hc (by simp)
   simp only [XRep] at h2
   obtain ⟨ys, rfl, _⟩ := h2
   have hy : yielded ops a.tmps j = none := by simp [yielded, ho'', hd, h1]
   rw [hy, ← h]; simp
  ·simp at h
theorem xstep_ok {yf : YF} (hC : C.Ok P) (hcf : CFOk P cf) (hyf : YFOk P yf) {ops : Array Oper} {i : Nat} (hi : ops[i]? = some o) (hs : XR B st E a gv w) {st' : XS} (h : xstep C cf yf ops.toList o st = some st') {K : Act → World → Prop} {Q : Exit → Act → World → Prop} (ro : Option Nat)
  (hn : ∀ E' a' w', XR B st' E' a' gv w' → K a' w') : wpOpIn (fen ro) 0 P ops Q i K a w := by
 unfold xstep at h
 unfold wpOpIn
 simp only [hi]
 split at h
 ·rename_i hg
  rw [xwanted_ok hs hg]
  split at h
  ·rename_i t vs hy
   split at h
   ·rename_i q hq
    simp only [Option.some.injEq] at h; subst h
    simp only [if_true]
    obtain ⟨r, st'⟩ := q
    unfold yieldAt at hy
    split at hy
    rotate_left
    ·simp at hy
    rename_i c hop
    obtain ⟨callee, args, ts⟩ := c
    split at hy
    rotate_left
    ·simp at hy
    rename_i f hcal
    simp only at hcal
    subst hcal
    split at hy
    rotate_left
    ·simp at hy
    rename_i t' z i j hf
    simp only [Option.some.injEq, Prod.mk.injEq] at hy
    obtain ⟨rfl, rfl⟩ := hy
    have hfv := hs.top.ev f
    rw [hf] at hfv
    simp only [XRep, XPtr] at hfv
    have hrep : XRepL w E (args.toList.map (ev st.slots)) (args.map a.eval).toList := by rw [Array.toList_map]; exact hs.top.evL _
    obtain ⟨fn, tmps, assign, body, hrun, hround⟩ := hyf _ _ _ _ _ hq B E a gv w _ hs hrep
    have hexec : (execOp a.eval o).run P w = .ok (.round (E.blk t') fn tmps assign body) w := by
     simp [execOp, hop, resolve, hfv.2, Deferred.ofValue, invoke, hrun]
    refine ⟨fun _ _ => trivial, ?_⟩
    have hsem : (o.semAt (fen ro).round a.eval).run P w = .ok (.round (E.blk t') fn tmps assign body) w := by
     rw [Oper.semAt_eq]
     ·exact hexec
     ·intro c hcc; rw [hop] at hcc; simp at hcc
    rw [hsem, Oper.uponIn_round]
    refine ⟨fun hd => by simp [fen, Fence.wide] at hd, ?_⟩
    have hround' : RoundIn (fen ro) (0 - 1) P (E.blk t') fn tmps assign body w _ := hround
    refine hround'.mono fun e W2 he => ?_
    obtain ⟨y, E', rfl, h1, h2⟩ := he
    exact hn E' _ W2 (h1.put o.dst h2)
   ·simp at h
  ·split at h
   ·rename_i q hq
    simp only [Option.some.injEq] at h; subst h
    simp only [if_true]
    exact (xop_ok hC hcf hs hq K fun E' v w' h1 h2 => hn E' _ w' (h1.put o.dst h2)).wpIn ro
   ·simp at h
 ·rename_i hg
  rw [xwanted_ok hs hg]
  simp only [Option.some.injEq] at h; subst h
  simp only [Bool.false_eq_true, if_false]
  exact ⟨fun _ _ => trivial, hn E _ w (hs.put o.dst (by simp [XRep, XRepL, undef]))⟩
 ·simp at h
def xrun (C : Ctx) (cf : CF) (yf : YF) (ops : List Oper) : List Oper → XS → Option XS
 | [], st => some st
 | o :: rest, st => (match xstep C cf yf ops o st with
  | some st' => xrun C cf yf ops rest st'
  | none => none)
theorem xrun_ok {yf : YF} (hC : C.Ok P) (hcf : CFOk P cf) (hyf : YFOk P yf) {ops : Array Oper} {Q : Exit → Act → World → Prop} (ro : Option Nat) {fin : XS} (hQ : ∀ E' a' w', XR B fin E' a' gv w' → Q .normal a' w') :
  ∀ (l : List Oper) (k : Nat) (st : XS) (E : XE) (a : Act) (w : World), (∀ j, l[j]? = ops[k + j]?) → XR B st E a gv w → xrun C cf yf ops.toList l st = some fin → wpOpsIn (fen ro) 0 P ops Q (List.range' k l.length) a w
 | [], k, st, E, a, w, _, hs, h => by
  simp only [xrun, Option.some.injEq] at h; subst h
  simpa [wpOpsIn] using hQ E a w hs
 | o :: l, k, st, E, a, w, hl, hs, h => by
  simp only [xrun] at h
  split at h
  ·rename_i st' hst
   rw [List.length_cons, List.range'_succ, wpOpsIn_cons]
   have h0 := hl 0
   simp at h0
   exact xstep_ok hC hcf hyf h0.symm hs hst ro fun E' a' w' hs' => xrun_ok hC hcf hyf ro hQ l (k + 1) st' E' a' w' (fun j => by have := hl (j + 1); simp at this; rw [this]; congr 1; omega) hs' h
  ·simp at h
end
open Go Go.RowKit
abbrev BL := List (Array Bool × XS)
def bIns (l : Array Bool) (s : XS) : BL → Option BL
 | [] => some [(l, s)]
 |(l', s') :: r => if l'.toList = l.toList then (if eqS s' s = true then some ((l', s') :: r) else none) else (match bIns l s r with
  | some r' => some ((l', s') :: r')
  | none => none)
def bOps (C : Ctx) (cf : CF) (yf : YF) (ops : Array Oper) (l : Array Bool) (s : XS) : List Nat → BL → Option BL
 | [], acc => some acc
 | i :: is, acc => (match ops[i]? with
  | some o => (match (xstep C cf yf ops.toList o s).bind canon with
   | some s2 => (match bIns (l.setIfInBounds i true) s2 acc with
    | some acc' => bOps C cf yf ops l s is acc'
    | none => none)
   | none => none)
  | none => none)
def bLev (C : Ctx) (cf : CF) (yf : YF) (ops : Array Oper) : BL → BL → Option BL
 | [], acc => some acc
 |(l, s) :: r, acc => (match Region.ready .any ops l with
  | [] => none
  | i :: is => (match bOps C cf yf ops l s (i :: is) acc with
   | some acc' => bLev C cf yf ops r acc'
   | none => none))
def bRun (C : Ctx) (cf : CF) (yf : YF) (ops : Array Oper) : Nat → BL → Option XS
 | 0, [(l, s)] => (match Region.ready .any ops l with
  | [] => some s
  | _ => none)
 | n + 1, lv => (match bLev C cf yf ops lv [] with
  | some lv' => bRun C cf yf ops n lv'
  | none => none)
 | _, _ => none
theorem bIns_ok {l : Array Bool} {s : XS} : ∀ {acc acc' : BL}, bIns l s acc = some acc' → (∀ p ∈ acc, p ∈ acc') ∧ (l, s) ∈ acc'
 | [], acc', h => by simp only [bIns, Option.some.injEq] at h; subst h; simp
 | (l', s') :: r, acc', h => by
  simp only [bIns] at h
  split at h
  ·rename_i e
   split at h
   ·rename_i e'
    simp only [Option.some.injEq] at h; subst h
    have := eqS_ok e'
    have e2 : l' = l := by cases l'; cases l; simp_all
    subst this; subst e2
    exact ⟨fun p hp => hp, by simp⟩
   ·simp at h
  ·split at h
   ·rename_i r' hr
    simp only [Option.some.injEq] at h; subst h
    obtain ⟨g1, g2⟩ := bIns_ok hr
    refine ⟨fun p hp => ?_, by simp [g2]⟩
    rcases List.mem_cons.1 hp with rfl | hp
    ·simp
    ·simp [g1 p hp]
   ·simp at h
section
variable {P : Program} {C : Ctx} {cf : CF} {o : Oper} {B : XB} {st : XS} {E : XE} {a : Act} {gv : List Act} {w w' : World} {q : AV × XS} {ops : Array Oper} {yf : YF}
theorem bOps_ok {l : Array Bool} {s : XS} : ∀ {is : List Nat} {acc acc' : BL}, bOps C cf yf ops l s is acc = some acc' → (∀ p ∈ acc, p ∈ acc') ∧ ∀ i ∈ is, ∃ o s2, ops[i]? = some o ∧ (xstep C cf yf ops.toList o s).bind canon = some s2 ∧ (l.setIfInBounds i true, s2) ∈ acc'
 | [], acc, acc', h => by simp only [bOps, Option.some.injEq] at h; subst h; simp
 | i :: is, acc, acc', h => by
  simp only [bOps] at h
  split at h
  rotate_left
  ·simp at h
  rename_i o ho
  split at h
  rotate_left
  ·simp at h
  rename_i s2 hs2
  split at h
  rotate_left
  ·simp at h
  rename_i acc1 hi
  obtain ⟨g1, g2⟩ := bIns_ok hi
  obtain ⟨k1, k2⟩ := bOps_ok h
  refine ⟨fun p hp => k1 p (g1 p hp), fun j hj => ?_⟩
  rcases List.mem_cons.1 hj with rfl | hj
  ·exact ⟨o, s2, ho, hs2, k1 _ g2⟩
  ·exact k2 j hj
theorem bLev_ok : ∀ {lv acc acc' : BL}, bLev C cf yf ops lv acc = some acc' → (∀ p ∈ acc, p ∈ acc') ∧ ∀ p ∈ lv, Region.ready .any ops p.1 ≠ [] ∧ ∀ i ∈ Region.ready .any ops p.1, ∃ o s2, ops[i]? = some o ∧ (xstep C cf yf ops.toList o p.2).bind canon = some s2 ∧ (p.1.setIfInBounds i true, s2) ∈ acc'
 | [], acc, acc', h => by simp only [bLev, Option.some.injEq] at h; subst h; simp
 | (l, s) :: r, acc, acc', h => by
  simp only [bLev] at h
  split at h
  ·simp at h
  ·rename_i i is hr
   split at h
   ·rename_i acc1 ho
    obtain ⟨g1, g2⟩ := bOps_ok ho
    obtain ⟨k1, k2⟩ := bLev_ok h
    refine ⟨fun p hp => k1 p (g1 p hp), fun p hp => ?_⟩
    rcases List.mem_cons.1 hp with rfl | hp
    ·refine ⟨by rw [hr]; simp, fun j hj => ?_⟩
     rw [hr] at hj
     obtain ⟨o, s2, h1, h2, h3⟩ := g2 j hj
     exact ⟨o, s2, h1, h2, k1 _ h3⟩
    ·exact k2 p hp
   ·simp at h
theorem bRun_ok (hC : C.Ok P) (hcf : CFOk P cf) (hyf : YFOk P yf) {Q : Exit → Act → World → Prop} (ro : Option Nat) {fin : XS} (hQ : ∀ E' a' w', XR B fin E' a' gv w' → Q .normal a' w') :
  ∀ (n : Nat) (lv : BL), bRun C cf yf ops n lv = some fin → ∀ p ∈ lv, ∀ (E : XE) (a : Act) (w : World), XR B p.2 E a gv w → wpAnyIn (fen ro) 0 P .any ops Q n p.1 a w
 | 0, lv, h, p, hp, E, a, w, hs => by
  unfold bRun at h
  split at h
  ·rename_i l s e
   split at h
   ·rename_i hr
    simp only [Option.some.injEq] at h; subst h
    simp only [List.mem_singleton] at hp
    subst hp
    exact ⟨hr, hQ E a w hs⟩
   ·simp at h
  ·rename_i e; simp at e
  ·simp at h
 | n + 1, lv, h, p, hp, E, a, w, hs => by
  simp only [bRun] at h
  split at h
  ·rename_i lv' hl
   obtain ⟨_, k⟩ := bLev_ok hl
   obtain ⟨h1, h2⟩ := k p hp
   refine ⟨fun hr => absurd hr h1, fun i hi => ?_⟩
   obtain ⟨o, s2, g1, g2, g3⟩ := h2 i hi
   obtain ⟨s1, e1, e2⟩ := Option.bind_eq_some_iff.1 g2
   refine xstep_ok hC hcf hyf g1 hs e1 ro fun E' a' w' hs' => ?_
   obtain ⟨E2, hs2⟩ := canon_ok hs' e2
   exact bRun_ok hC hcf hyf ro hQ n lv' h _ g3 E2 a' w' hs2
  ·simp at h
def cfQ (C : Ctx) (d : Nat) (f : FuncId) (vs : List AV) (toks : List XT) : Option AV := match C.G f (vs.map (rsv toks d)) with
 | some r => some r
 | none => (match C.H f (vs.map (rsv toks d)) with
  | some (false, r) => some r
  | _ => none)
theorem cfQ_ok {d : Nat} {f : FuncId} {vs : List AV} {r : AV} (h : cfQ C d f vs st.toks = some r) : cfC C d f vs st = some (r, st) := by
 unfold cfQ at h
 unfold cfC
 split at h
 ·rename_i r' hr
  simp only [Option.some.injEq] at h; subst h
  rw [hr]
 ·rename_i hr
  rw [hr]
  split at h
  ·rename_i r' hr'
   simp only [Option.some.injEq] at h; subst h
   simp [hr']
  ·simp at h
def qLoad (C : Ctx) (t : TypeId) (toks : List XT) (x : AV) : Option AV := match C.T t with
 | some ti => (match x with
  | .fp e j => if TypeDesc.aggB ti.desc then (if j + ti.size ≤ e.cells.length then some (.agg ((e.cells.drop j).take ti.size)) else none)
   else e.cells[j]?
  | .ptr k [] _ j => (match kRow toks[k]? with
   | some (_, _, cs) => if TypeDesc.aggB ti.desc then (if j + ti.size ≤ cs.length then some (.agg ((cs.drop j).take ti.size)) else none)
    else cs[j]?
   | none => none)
  | _ => none)
 | none => none
def qFieldAddr (C : Ctx) (t : TypeId) (x : AV) (f : Nat) : Option AV := match C.T t with
 | some ti => (match ti.desc with
  | .struct fields => (match fields[f]? with
   | some fd => (match C.T fd.type with
    | some tf => if 0 < tf.size then (match x with
     | .ptr k [] _ j => some (.ptr k [] 0 (j + fd.offset))
     | .fp e j => some (.fp e (j + fd.offset))
     | _ => none) else none
    | none => none)
   | none => none)
  | _ => none)
 | none => none
def qIndexAddr (C : Ctx) (t : TypeId) (x ix : AV) : Option AV := match C.T t, asNat ix with
 | some ti, some i => (match ti.desc, x with
  | .slice el, .sl _ sz es => (match C.T el, es[i]? with
   | some te, some e => if te.size = sz then some (.fp e 0) else none
   | _, _ => none)
  | .slice el, .ref k [(z, 0)] lo n => (match C.T el with
   | some te => if te.size = z ∧ i < n then some (.ptr k [] 0 (lo + i * z)) else none
   | none => none)
  | _, _ => none)
 | _, _ => none
def qBin (C : Ctx) (op : BinOp) (t : TypeId) (x y : AV) : Option AV := match x, y with
 | .v a, .v b => (match abin op a b with
  | some r => some (.v r)
  | none => none)
 | x, .sl true _ [] => (match C.T t, nilX x, op with
  | some ⟨.slice _, _, _, _⟩, some b, .eql => some (.v (.bool b))
  | some ⟨.slice _, _, _, _⟩, some b, .neq => some (.v (.bool (!b)))
  | _, _, _ => none)
 | _, _ => none
def qBnd (f : Operand → AV) (d : Nat) : Option Operand → Option Nat
 | none => some d
 | some x => asNat (f x)
def qSlice (C : Ctx) (t : TypeId) (f : Operand → AV) (x : Operand) (lo hi : Option Operand) : Option AV := match C.T t with
 | some ti => (match ti.desc, f x with
  | .slice el, .sl nl sz es => (match C.T el, qBnd f 0 lo, qBnd f es.length hi with
   | some te, some l, some h => if te.size = sz ∧ l ≤ h ∧ h ≤ es.length then some (.sl nl sz (viewEs es l (h - l))) else none
   | _, _, _ => none)
  | .slice el, .ref k [(z, 0)] lo0 n => (match C.T el, qBnd f 0 lo, qBnd f n hi with
   | some te, some l, some h => if te.size = z ∧ l ≤ h ∧ h ≤ n ∧ (l = 0 ∨ l < h) then some (.ref k [(z, 0)] (lo0 + l * z) (h - l)) else none
   | _, _, _ => none)
  | .string, .v (.string s) => (match qBnd f 0 lo, qBnd f s.size hi with
   | some l, some h => if l ≤ h ∧ h ≤ s.size then some (.v (.string (s.extract l h))) else none
   | _, _ => none)
  | _, _ => none)
 | none => none
def qLen (C : Ctx) (f : Operand → AV) (args : List Operand) (ts : List TypeId) : Option AV := match args, ts with
 | [x], [t] => (match C.T t with
  | some ti => (match ti.desc with
   | .slice _ => (lenX (f x)).map fun (n : Nat) => .v (.int .i64 (n : Int))
   | .string => (match f x with
    | .v (.string s) => some (.v (.int .i64 (s.size : Int)))
    | _ => none)
   | _ => none)
  | none => none)
 | _, _ => none
def qIndex (C : Ctx) (t : TypeId) (x ix : AV) : Option AV := match C.T t, x, asNat ix with
 | some ti, .v (.string s), some i => (match ti.desc, s[i]? with
  | .string, some b => some (.v (.int .u8 (b.toNat : Int)))
  | _, _ => none)
 | _, _, _ => none
def qExtract (x : AV) (i : Nat) : Option AV := match x with
 | .tup vs => vs[i]?
 | _ => none
def qv (C : Ctx) (d : Nat) (toks : List XT) (f : Operand → AV) : Op → Option AV
 | .move x => some (f x)
 | .assign x => some (f x)
 | .pick c x y => (match f c with
  | .v (.bool b) => some (pickAV b (f x) (f y))
  | _ => none)
 | .binOp op t x y _ => qBin C op t (f x) (f y)
 | .unOp op _ x => (match f x with
  | .v a => (aun op a).map .v
  | _ => none)
 | .nilCheck x => (match f x with
  | .ptr k [] i j => some (.ptr k [] i j)
  | .fp e j => some (.fp e j)
  | _ => none)
 | .load t x => qLoad C t toks (f x)
 | .fieldAddr t x i => qFieldAddr C t (f x) i
 | .indexAddr t x ix => qIndexAddr C t (f x) (f ix)
 | .slice t x lo hi none => qSlice C t f x lo hi
 | .index t x ix => qIndex C t (f x) (f ix)
 | .extract x i => qExtract (f x) i
 | .call c => (match c.callee with
  | .builtin .len => qLen C f c.args.toList c.argTypes.toList
  | .value g => (match f g with
   | .fn h caps => cfQ C d h (c.args.toList.map f ++ caps) toks
   | _ => none)
  | _ => none)
 | _ => none
theorem qBnd_eq {slots : List AV} {d : Nat} {x : Option Operand} : qBnd (ev slots) d x = bndOf slots d x := by cases x <;> rfl
theorem qv_ok {d : Nat} {op : Op} {v : AV} (h : qv C d st.toks (ev st.slots) op = some v) : xop C (cfC C d) op st = some (v, st) := by
 cases op <;> simp only [qv, reduceCtorEq] at h
 case move x => simp only [Option.some.injEq] at h; subst h; rfl
 case assign x => simp only [Option.some.injEq] at h; subst h; rfl
 case pick c x y =>
  simp only [xop, x_pick]
  split at h
  ·rename_i hc; simp only [Option.some.injEq] at h; subst h; rw [hc]
  ·simp at h
 case binOp op t x y t' =>
  simp only [xop, x_binOp]
  unfold qBin at h
  split at h
  ·rename_i hx hy
   rw [hx, hy]
   split at h
   ·rename_i hr; simp only [Option.some.injEq] at h; subst h; simp [hr]
   ·simp at h
  ·rename_i hn hy
   rw [hy]
   split at h
   ·rename_i e1 e2
    simp only [Option.some.injEq] at h; subst h
    cases hx : ev st.slots x <;> simp_all
   ·rename_i e1 e2
    simp only [Option.some.injEq] at h; subst h
    cases hx : ev st.slots x <;> simp_all
   ·simp at h
  ·simp at h
 case unOp op t x =>
  simp only [xop, x_unOp]
  split at h
  ·rename_i hx
   rw [hx]
   simp only [Option.map_eq_some_iff] at h
   obtain ⟨r, hr, rfl⟩ := h
   simp [hr]
  ·simp at h
 case nilCheck x =>
  simp only [xop, x_nilCheck]
  split at h
  ·rename_i hx; simp only [Option.some.injEq] at h; subst h; simp [hx]
  ·rename_i hx; simp only [Option.some.injEq] at h; subst h; simp [hx]
  ·simp at h
 case load t x =>
  simp only [xop, x_load]
  unfold qLoad at h
  split at h
  ·rename_i ti hti
   simp only [hti]
   split at h
   ·rename_i e j hx
    rw [hx]
    simp only
    split at h
    ·rename_i hg
     rw [if_pos hg]
     split at h
     ·rename_i hl; rw [if_pos hl]; simp only [Option.some.injEq] at h; subst h; rfl
     ·simp at h
    ·rename_i hg
     rw [if_neg hg, h]
   ·rename_i k i j hx
    rw [hx]
    simp only
    split at h
    ·rename_i T ex cs hk
     rw [hk]
     simp only
     split at h
     ·rename_i hg
      rw [if_pos hg]
      split at h
      ·rename_i hl; rw [if_pos hl]; simp only [Option.some.injEq] at h; subst h; rfl
      ·simp at h
     ·rename_i hg
      rw [if_neg hg, h]
    ·simp at h
   ·simp at h
  ·simp at h
 case fieldAddr t x f =>
  simp only [xop, x_fieldAddr]
  unfold qFieldAddr at h
  repeat' split at h
  all_goals first | (simp at h; done) | (simp only [Option.some.injEq] at h; subst h; simp_all)
 case indexAddr t x ix =>
  simp only [xop, x_indexAddr]
  unfold qIndexAddr at h
  repeat' split at h
  all_goals first | (simp at h; done) | (simp only [Option.some.injEq] at h; subst h; simp_all)
 case slice t x lo hi mx =>
  cases mx with
  | some m => simp at h
  | none =>
   simp only [xop, x_slice]
   simp only at h
   unfold qSlice at h
   simp only [qBnd_eq] at h
   repeat' split at h
   all_goals first | (simp at h; done) | (simp only [Option.some.injEq] at h; subst h; simp_all)
 case index t x ix =>
  simp only [xop, x_index]
  unfold qIndex at h
  repeat' split at h
  all_goals first | (simp at h; done) | (simp only [Option.some.injEq] at h; subst h; simp_all)
 case extract x i =>
  simp only [xop, x_extract]
  unfold qExtract at h
  split at h
  ·rename_i hx; rw [hx]; simp only [h]
  ·simp at h
 case call c =>
  obtain ⟨callee, args, ts⟩ := c
  cases callee with
  | value g =>
   simp only [xop, x_call]
   simp only at h
   split at h
   ·rename_i hf
    rw [hf]
    exact cfQ_ok h
   ·simp at h
  | builtin b =>
   cases b <;> first | (simp at h; done) | skip
   simp only [xop, x_builtin, x_len]
   simp only at h
   unfold qLen at h
   repeat' split at h
   all_goals first | (simp at h; done) | skip
   all_goals first
    | (simp at h; done)
    | (simp only [Option.map_eq_some_iff] at h; obtain ⟨n, hn, rfl⟩ := h; simp_all)
    | (simp only [Option.some.injEq] at h; subst h; simp_all)
  | _ => simp at h
theorem qv_noY {d : Nat} {op : Op} {v : AV} (h : qv C d st.toks (ev st.slots) op = some v) : yieldAt st op = none := by
 cases op <;> first | rfl | skip
 rename_i c
 obtain ⟨callee, args, ts⟩ := c
 cases callee with
 | value g =>
  simp only [qv] at h
  simp only [yieldAt]
  split at h
  ·rename_i hf; rw [hf]
  ·simp at h
 | _ => rfl
theorem qBnd_congr {f g : Operand → AV} {d : Nat} : ∀ {x : Option Operand}, (∀ y, x = some y → f y = g y) → qBnd f d x = qBnd g d x
 | none, _ => rfl
 | some y, h => by simp only [qBnd, h y rfl]
theorem qv_congr {d : Nat} {toks : List XT} {f g : Operand → AV} : ∀ {op : Op}, (∀ x ∈ op.operands, f x = g x) → qv C d toks f op = qv C d toks g op := by
 intro op h
 cases op <;> simp only [qv]
 case move x => rw [h x (by simp [Op.operands])]
 case assign x => rw [h x (by simp [Op.operands])]
 case pick c x y => rw [h c (by simp [Op.operands]), h x (by simp [Op.operands]), h y (by simp [Op.operands])]
 case binOp op t x y t' => rw [h x (by simp [Op.operands]), h y (by simp [Op.operands])]
 case unOp op t x => rw [h x (by simp [Op.operands])]
 case nilCheck x => rw [h x (by simp [Op.operands])]
 case load t x => rw [h x (by simp [Op.operands])]
 case fieldAddr t x i => rw [h x (by simp [Op.operands])]
 case indexAddr t x ix => rw [h x (by simp [Op.operands]), h ix (by simp [Op.operands])]
 case slice t x lo hi mx =>
  cases mx with
  | some m => rfl
  | none =>
   simp only [qSlice]
   have e1 : ∀ n, qBnd f n lo = qBnd g n lo := fun n => qBnd_congr fun y hy => h y (by subst hy; simp [Op.operands])
   have e2 : ∀ n, qBnd f n hi = qBnd g n hi := fun n => qBnd_congr fun y hy => h y (by subst hy; simp [Op.operands])
   rw [h x (by simp [Op.operands])]
   simp only [e1, e2]
 case index t x ix => rw [h x (by simp [Op.operands]), h ix (by simp [Op.operands])]
 case extract x i => rw [h x (by simp [Op.operands])]
 case call c =>
  obtain ⟨callee, args, ts⟩ := c
  cases callee with
  | builtin b =>
   cases b <;> first | rfl | skip
   simp only [qLen]
   split
   ·rename_i x t hx ht
    rw [h x (by
          simp [Op.operands, Call.operands]; have : x ∈ args.toList := by rw [hx]; simp
          simpa using this)]
   ·rfl
  | value y =>
   simp only
   rw [h y (by simp [Op.operands, Call.operands])]
   have : args.toList.map f = args.toList.map g := List.map_congr_left fun x hx => h x (by simp [Op.operands, Call.operands]; right; simpa using hx)
   rw [this]
  | _ => rfl
end
open Go Go.RowKit
def qstep (C : Ctx) (d : Nat) (ops : List Oper) (toks : List XT) (s : List AV) (o : Oper) : Option AV := match guardOk ops s o with
 | some true => qv C d toks (ev s) o.op
 | some false => some (.tup [])
 | none => none
def qrun (C : Ctx) (d : Nat) (ops : List Oper) (toks : List XT) : List Oper → List AV → Option (List AV)
 | [], s => some s
 | o :: r, s => (match qstep C d ops toks s o with
  | some v => qrun C d ops toks r (putD s o.dst v)
  | none => none)
def tmpsOf (ops : List Oper) (o : Oper) : List Nat := (o.op.operands.toList.filterMap fun | .tmp t => some t | _ => none) ++ (match o.guard with
 | some (j, _) => (match ops[j]? with
  | some oj => oj.dst.toList
  | none => [])
 | none => [])
def qGood (ops : List Oper) : Bool := (List.range ops.length).all fun i => match ops[i]? with
 | some o => (o.after.all fun e => !Region.binds .any e || decide (e.on < i)) && ((tmpsOf ops o).all fun t => (List.range ops.length).all fun j => match ops[j]? with
   | some oj => !decide (oj.dst = some t) || edgeB o j
   | none => true) &&
  (List.range ops.length).all fun j => decide (j = i) || (match ops[j]? with
   | some oj => oj.dst.isNone || !decide (oj.dst = o.dst)
   | none => true)
 | none => false
def qFin (C : Ctx) (d : Nat) (ops : List Oper) (toks : List XT) (fin : List AV) : Bool := ops.all fun o => match qstep C d ops toks fin o, o.dst with
 | some v, some t => decide (t < fin.length) && eqA (fin.getD t .junk) v
 | some _, none => true
 | none, _ => false
def xquiet (C : Ctx) (d : Nat) (ops : List Oper) (st : XS) : Option XS := if qGood ops = true then (match qrun C d ops st.toks ops st.slots with
 | some fin => if qFin C d ops st.toks fin = true then some { st with slots := fin } else none
 | none => none) else none
theorem putD_other {s : List AV} {e : Option Nat} {v : AV} {t : Nat} (h : e ≠ some t) : (putD s e v)[t]? = s[t]? := by
 cases e with
 | none => rfl
 | some d => simp only [putD]; rw [List.getElem?_set_ne (fun e => h (by rw [e]))]
theorem putD_len {s : List AV} {e : Option Nat} {v : AV} : (putD s e v).length = s.length := by cases e <;> simp [putD]
theorem qrun_off {C : Ctx} {d : Nat} {ops : List Oper} {toks : List XT} : ∀ {r : List Oper} {s fin : List AV}, qrun C d ops toks r s = some fin → fin.length = s.length ∧ ∀ t, (∀ o ∈ r, o.dst ≠ some t) → fin[t]? = s[t]?
 | [], s, fin, h => by simp only [qrun, Option.some.injEq] at h; subst h; exact ⟨rfl, fun _ _ => rfl⟩
 | o :: r, s, fin, h => by
  simp only [qrun] at h
  split at h
  ·rename_i v hv
   obtain ⟨h1, h2⟩ := qrun_off h
   exact ⟨h1.trans putD_len, fun t ht => (h2 t fun o' ho' => ht o' (by simp [ho'])).trans (putD_other (ht o (by simp)))⟩
  ·simp at h
section
variable {P : Program} {C : Ctx} {o : Oper} {B : XB} {st : XS} {E : XE} {a : Act} {gv : List Act} {w w' : World} {ops : Array Oper}
theorem xquiet_ok (hC : C.Ok P) {d : Nat} {Q : Exit → Act → World → Prop} (ro : Option Nat) {fin : XS} (h : xquiet C d ops.toList st = some fin) (hQ : ∀ E' a' w', XR B fin E' a' gv w' → Q .normal a' w') (hs : XR B st E a gv w) :
  wpAnyIn (fen ro) 0 P .any ops Q ops.size (Array.replicate ops.size false) a w := by
 unfold xquiet at h
 split at h
 rotate_left
 ·simp at h
 rename_i hgood
 split at h
 rotate_left
 ·simp at h
 rename_i fs hrun
 split at h
 rotate_left
 ·simp at h
 rename_i hfin
 simp only [Option.some.injEq] at h; subst h
 obtain ⟨hflen, hfoff⟩ := qrun_off hrun
 have hcf := cfC_ok hC d
 -- what the checks say
 have hop : ∀ (i : Nat) (o : Oper), ops[i]? = some o → (∀ e ∈ o.after, Region.binds .any e = true → e.on < i) ∧ (∀ t ∈ tmpsOf ops.toList o, ∀ (j : Nat) (oj : Oper), ops[j]? = some oj → oj.dst = some t → edgeB o j = true) ∧ (∀ (j : Nat) (oj : Oper), ops[j]? = some oj → j ≠ i → ∀ t, oj.dst = some t → o.dst ≠ some t) := by
  intro i o hi
  have hlt : i < ops.size := (Array.getElem?_eq_some_iff.1 hi).1
  have := List.all_eq_true.1 hgood i (List.mem_range.2 (by simpa using hlt))
  have hi' : ops.toList[i]? = some o := by simpa using hi
  rw [hi'] at this
  simp only [Bool.and_eq_true, List.all_eq_true, List.mem_range, Array.all_eq_true_iff_forall_mem, Bool.or_eq_true, Bool.not_eq_true', decide_eq_true_eq] at this
  obtain ⟨⟨h1, h2⟩, h3⟩ := this
  refine ⟨fun e he hb => (h1 e he).resolve_left (by simp [hb]), fun t ht j oj hj hd => ?_, fun j oj hj hne t hd hod => ?_⟩
  ·have hjl : j < ops.size := (Array.getElem?_eq_some_iff.1 hj).1
   have := h2 t ht j (by simpa using hjl)
   have hj' : ops.toList[j]? = some oj := by simpa using hj
   rw [hj'] at this
   simp only [Bool.or_eq_true, Bool.not_eq_true', decide_eq_false_iff_not] at this
   exact this.resolve_left fun h => h hd
  ·have hjl : j < ops.size := (Array.getElem?_eq_some_iff.1 hj).1
   have hj' : ops.toList[j]? = some oj := by simpa using hj
   rcases h3 j (by simpa using hjl) with h | h
   ·exact hne h
   ·rw [hj'] at h
    simp only [Bool.or_eq_true, Bool.not_eq_true', decide_eq_false_iff_not] at h
    rcases h with h | h
    ·rw [hd] at h; simp at h
    ·exact h (hd.trans hod.symm)
 have hval : ∀ (i : Nat) (o : Oper), ops[i]? = some o → ∃ v, qstep C d ops.toList st.toks fs o = some v ∧ ∀ t, o.dst = some t → fs[t]? = some v := by
  intro i o hi
  have := List.all_eq_true.1 hfin o (by simpa using Array.mem_of_getElem? hi)
  split at this
  ·rename_i v t hv ht
   simp only [Bool.and_eq_true, decide_eq_true_eq] at this
   refine ⟨v, hv, fun t' ht' => ?_⟩
   rw [ht] at ht'; simp only [Option.some.injEq] at ht'; subst ht'
   have h2 := eqA_ok this.2
   rw [List.getD_eq_getElem?_getD, List.getElem?_eq_getElem this.1] at h2
   rw [List.getElem?_eq_getElem this.1]
   simpa using h2
  ·rename_i v hv ht
   exact ⟨v, hv, fun t' ht' => by rw [ht] at ht'; simp at ht'⟩
  ·simp at this
 have hfirst : ∀ (listed : Array Bool), listed.size = ops.size → Region.ready .any ops listed = [] → ∀ i, i < ops.size → listed.getD i true = true := by
  intro listed hsz hr
  have key : ∀ n i, i < n → i < ops.size → listed.getD i true = true := by
   intro n
   induction n with
   | zero => intro i h; omega
   | succ n ih =>
    intro i hi hlt
    rcases Classical.em (listed.getD i true = true) with h | h
    ·exact h
    ·exfalso
     have hi' : i ∈ Region.ready .any ops listed := by
      rw [mem_ready]
      refine ⟨by simpa using h, ops[i], Array.getElem?_eq_getElem hlt, fun e he hb => ?_⟩
      have hon := (hop i ops[i] (Array.getElem?_eq_getElem hlt)).1 e he hb
      have := ih e.on (by omega) (by omega)
      rw [Array.getD_eq_getD_getElem?] at this ⊢
      rw [Array.getElem?_eq_getElem (by omega)] at this ⊢
      simpa using this
     rw [hr] at hi'; simp at hi'
  exact fun i hi => key (i + 1) i (by omega) hi
 have hgt : ∀ (listed : Array Bool) (i : Nat), listed.size = ops.size → i < ops.size → listed.getD i true = true → listed.getD i false = true := fun listed i hsz hi h => by
  rw [Array.getD_eq_getD_getElem?, Array.getElem?_eq_getElem (by omega)] at h ⊢
  simpa using h
 -- all done: the end
 have hend : ∀ (listed : Array Bool) (s : List AV), listed.size = ops.size → (∀ i, i < ops.size → listed.getD i true = true) → s.length = st.slots.length →
   (∀ t, (∃ (j : Nat) (oj : Oper), ops[j]? = some oj ∧ listed.getD j false = true ∧ oj.dst = some t) → s[t]? = fs[t]?) → (∀ t, (∀ (j : Nat) (oj : Oper), ops[j]? = some oj → oj.dst = some t → ¬ listed.getD j false = true) → s[t]? = st.slots[t]?) → s = fs := by
  intro listed s hsz hall hl h1 h2
  apply List.ext_getElem?
  intro t
  rcases Classical.em (∃ (j : Nat) (oj : Oper), ops[j]? = some oj ∧ oj.dst = some t) with ⟨j, oj, hj, hd⟩ | hno
  ·exact h1 t ⟨j, oj, hj, hgt listed j hsz (Array.getElem?_eq_some_iff.1 hj).1 (hall j (Array.getElem?_eq_some_iff.1 hj).1), hd⟩
  ·rw [h2 t fun j oj hj hd => (hno ⟨j, oj, hj, hd⟩).elim, hfoff t fun o ho hd => ?_]
   obtain ⟨j, hj⟩ := List.getElem?_of_mem ho
   exact hno ⟨j, o, by simpa using hj, hd⟩
 have main : ∀ (fuel : Nat) (listed : Array Bool) (s : List AV) (E : XE) (a : Act) (w : World), listed.size = ops.size → ((List.range ops.size).filter fun i => !listed.getD i true).length ≤ fuel → s.length = st.slots.length →
   (∀ t, (∃ (j : Nat) (oj : Oper), ops[j]? = some oj ∧ listed.getD j false = true ∧ oj.dst = some t) → s[t]? = fs[t]?) → (∀ t, (∀ (j : Nat) (oj : Oper), ops[j]? = some oj → oj.dst = some t → ¬ listed.getD j false = true) → s[t]? = st.slots[t]?) →
   XR B { st with slots := s } E a gv w → wpAnyIn (fen ro) 0 P .any ops Q fuel listed a w := by
  intro fuel
  induction fuel with
  | zero =>
   intro listed s E a w hsz hlen hl h1 h2 hs
   have hnil : ((List.range ops.size).filter fun i => !listed.getD i true) = [] := List.length_eq_zero_iff.1 (by omega)
   have hall : ∀ i, i < ops.size → listed.getD i true = true := fun i hi => by
    rw [List.filter_eq_nil_iff] at hnil
    have := hnil i (List.mem_range.2 hi)
    simpa using this
   refine ⟨?_, ?_⟩
   ·refine List.eq_nil_iff_forall_not_mem.2 fun i hi => ?_
    rw [mem_ready] at hi
    obtain ⟨h0, o, ho, _⟩ := hi
    rw [hall i (Array.getElem?_eq_some_iff.1 ho).1] at h0
    simp at h0
   ·obtain rfl := hend listed s hsz hall hl h1 h2
    exact hQ E a w hs
  | succ fuel ih =>
   intro listed s E a w hsz hlen hl h1 h2 hs
   refine ⟨fun hr => ?_, fun i hi => ?_⟩
   ·obtain rfl := hend listed s hsz (hfirst listed hsz hr) hl h1 h2
    exact hQ E a w hs
   ·rw [mem_ready] at hi
    obtain ⟨h0, o, ho, hpred⟩ := hi
    have hlt : i < ops.size := (Array.getElem?_eq_some_iff.1 ho).1
    obtain ⟨q1, q2, q3⟩ := hop i o ho
    obtain ⟨v, hv, hdv⟩ := hval i o ho
    have hlk : ∀ t ∈ tmpsOf ops.toList o, s[t]? = fs[t]? := fun t ht => by
     rcases Classical.em (∃ (j : Nat) (oj : Oper), ops[j]? = some oj ∧ oj.dst = some t) with ⟨j, oj, hj, hd⟩ | hno
     ·have he := q2 t ht j oj hj hd
      simp only [edgeB, Array.any_eq_true', Bool.and_eq_true, beq_iff_eq] at he
      obtain ⟨e, he1, he2, he3⟩ := he
      have := hpred e he1 he2
      rw [he3] at this
      exact h1 t ⟨j, oj, hj, this, hd⟩
     ·rw [h2 t fun j oj hj hd => (hno ⟨j, oj, hj, hd⟩).elim, hfoff t fun o ho hd => ?_]
      obtain ⟨j, hj⟩ := List.getElem?_of_mem ho
      exact hno ⟨j, o, by simpa using hj, hd⟩
    have hg : guardOk ops.toList s o = guardOk ops.toList fs o := by
     unfold guardOk
     split
     ·rfl
     ·rename_i j want hgd
      split
      ·rename_i oj hoj
       split
       ·rename_i dd hdd
        have : s[dd]? = fs[dd]? := hlk dd (by simp [tmpsOf, hgd, hoj, hdd])
        rw [List.getD_eq_getElem?_getD, List.getD_eq_getElem?_getD, this]
       ·rfl
      ·rfl
    have hq : qstep C d ops.toList st.toks s o = some v := by
     rw [← hv]
     unfold qstep
     rw [hg]
     split
     ·refine qv_congr fun x hx => ?_
      cases x with
      | tmp t =>
       have : s[t]? = fs[t]? := hlk t (List.mem_append_left _ (List.mem_filterMap.2 ⟨.tmp t, by simpa using hx, rfl⟩))
       simp only [ev, List.getD_eq_getElem?_getD, this]
      | _ => rfl
     ·rfl
     ·rfl
    have hst : xstep C (cfC C d) (fun _ _ _ => none) ops.toList o { st with slots := s } = some { st with slots := putD s o.dst v } := by
     unfold qstep at hq
     unfold xstep
     split at hq
     ·rename_i hgg
      have h1 := qv_ok (st := { st with slots := s }) hq
      have h2 := qv_noY (st := { st with slots := s }) hq
      simp only [hgg, h1, h2]
     ·rename_i hgg
      simp only [Option.some.injEq] at hq
      simp only [hgg, ← hq]
     ·simp at hq
    refine xstep_ok hC hcf (fun _ _ _ _ _ h => by simp at h) ho hs hst ro fun E' a' w' hs' => ?_
    have hset : ∀ j, (listed.setIfInBounds i true).getD j false = true ↔ (j = i ∨ listed.getD j false = true) := fun j => by
     rw [Array.getD_eq_getD_getElem?, Array.getD_eq_getD_getElem?, Array.getElem?_setIfInBounds]
     by_cases e : i = j
     ·subst e; simp [hsz, hlt]
     ·rw [if_neg e]
      constructor
      ·exact .inr
      ·rintro (h | h)
       ·exact (e h.symm).elim
       ·exact h
    refine ih (listed.setIfInBounds i true) (putD s o.dst v) E' a' w' (by simpa using hsz) ?_ (putD_len.trans hl) (fun t ht => ?_) (fun t ht => ?_) hs'
    ·have hsub : ((List.range ops.size).filter fun j => !(listed.setIfInBounds i true).getD j true).length < ((List.range ops.size).filter fun j => !listed.getD j true).length := by
      have e1 : ((List.range ops.size).filter fun j => !(listed.setIfInBounds i true).getD j true) = ((List.range ops.size).filter fun j => !listed.getD j true).filter fun j => decide (j ≠ i) := by
       rw [List.filter_filter]
       refine List.filter_congr fun j hj => ?_
       rw [Array.getD_eq_getD_getElem?, Array.getD_eq_getD_getElem?, Array.getElem?_setIfInBounds]
       by_cases e : i = j
       ·subst e; simp [hsz, hlt]
       ·have : j ≠ i := fun h => e h.symm
        simp [e, this]
      rw [e1]
      refine List.length_filter_lt_length_iff_exists.2 ⟨i, List.mem_filter.2 ⟨List.mem_range.2 hlt, by rw [h0]; rfl⟩, by simp⟩
     omega
    ·obtain ⟨j, oj, hj, hlj, hd⟩ := ht
     rcases (hset j).1 hlj with rfl | hlj
     ·rw [ho] at hj
      obtain rfl := Option.some.inj hj
      have := hdv t hd
      have htl : t < s.length := by rw [hl, ← hflen]; exact (List.getElem?_eq_some_iff.1 this).1
      rw [this, hd]
      simp only [putD]
      rw [List.getElem?_set_self htl]
     ·by_cases e : j = i
      ·subst e
       rw [ho] at hj
       obtain rfl := Option.some.inj hj
       have := hdv t hd
       have htl : t < s.length := by rw [hl, ← hflen]; exact (List.getElem?_eq_some_iff.1 this).1
       rw [this, hd]
       simp only [putD]
       rw [List.getElem?_set_self htl]
      ·rw [putD_other (q3 j oj hj e t hd)]
       exact h1 t ⟨j, oj, hj, hlj, hd⟩
    ·have hne : o.dst ≠ some t := fun hd => ht i o ho hd ((hset i).2 (.inl rfl))
     rw [putD_other hne]
     exact h2 t fun j oj hj hd hlj => ht j oj hj hd ((hset j).2 (.inr hlj))
 refine main ops.size _ st.slots E a w (by simp) ?_ rfl (fun t ht => ?_) (fun _ _ => rfl) hs
 ·exact Nat.le_trans (List.length_filter_le _ _) (by simp)
 ·obtain ⟨j, oj, hj, hlj, _⟩ := ht
  rw [Array.getD_eq_getD_getElem?, Array.getElem?_replicate] at hlj
  split at hlj <;> simp at hlj
end
open Go Go.RowKit
def mask : List Bool → List AV → List AV
 | [], xs => xs.map fun _ => .junk
 | b :: bs, x :: xs => (bif b then x else .junk) :: mask bs xs
 | _ :: _, [] => []
def fX {β : Type} (x : AV) (k : AV → β) : β := match x with
 | .sl b n l => k (.sl b n l)
 | x => fAV x k
theorem fX_eq {β : Type} (x : AV) (k : AV → β) : fX x k = k x := by cases x <;> simp [fX, fAV_eq]
def fXs {β : Type} : List AV → (List AV → β) → β
 | [], k => k []
 | x :: l, k => fX x fun x => fXs l fun l => k (x :: l)
theorem fXs_eq {β : Type} : ∀ (l : List AV) (k : List AV → β), fXs l k = k l
 | [], k => by simp [fXs]
 | x :: l, k => by simp [fXs, fX_eq, fXs_eq l]
def fXT {β : Type} : List XT → (List XT → β) → β
 | [], k => k []
 | .row T ex cs :: l, k => fXs cs fun cs => fXT l fun l => k (.row T ex cs :: l)
 | t :: l, k => fXT l fun l => k (t :: l)
theorem fXT_eq {β : Type} : ∀ (l : List XT) (k : List XT → β), fXT l k = k l
 | [], k => by simp [fXT]
 | t :: l, k => by cases t <;> simp [fXT, fXs_eq, fXT_eq l]
def hasApp : List Oper → Bool
 | [] => false
 | o :: l => (match o.op with
  | .call c => (match c.callee with
   | .builtin .append => true
   | _ => hasApp l)
  | _ => hasApp l)
def fReg {β : Type} (ops : List Oper) (l : List XT) (k : List XT → β) : β := match hasApp ops with
 | true => fXT l k
 | false => k l
theorem fReg_eq {β : Type} (ops : List Oper) (l : List XT) (k : List XT → β) : fReg ops l k = k l := by unfold fReg; split <;> simp [fXT_eq]
def maskS (live : List Bool) (st : XS) : XS := { st with slots := mask live st.slots }
structure XA where
 C : Ctx
 d : Nat
 S : CF
 K : FuncId → Option (List Bool)
 loops : Nat
def iterX : Nat → (XS → Option (Exit × XS)) → XS → Option (Exit × XS)
 | 0, _, _ => none
 | n + 1, F, st => match F st with
  | some (.normal, s) => iterX n F s
  | r => r
def xregion (A : XA) (cf : CF) (yf : YF) (ops : Array Oper) (draw : Bool) (st : XS) : Option XS := match draw with
 | false => xrun A.C cf yf ops.toList ops.toList st
 | true => (match xquiet A.C A.d ops.toList st with
  | some s => some s
  | none => bRun A.C cf yf ops ops.size [(Array.replicate ops.size false, st)])
def xendLoop (s : XS) : Option (Exit × XS) := match s.df with
 | D :: _ => (match s.toks[D]? with
  | some (.dfr l) => (match s.toks[l]? with
   | some (.loop k _ _ _ _ pend _) => if k = 0 ∨ k = 2 then (match pend with
    | none => some (.normal, { s with toks := s.toks.set l .none })
    | some .ret => some (.ret, { s with toks := s.toks.set l .none })
    | some (.exit id) => some (.exit id, { s with toks := s.toks.set l .none })
    | _ => none) else none
   | _ => none)
  | _ => none)
 | [] => none
def xexec (A : XA) (cf : CF) (yf : YF) (live : List Bool) (inR : Bool) : Code → XS → Option (Exit × XS)
 | .skip, st => some (.normal, st)
 | .exit id, st => some (.exit id, st)
 | .ret, st => some (.ret, st)
 | .seq x y, st => (match xexec A cf yf live inR x st with
  | some (.normal, s) => xexec A cf yf live inR y s
  | r => r)
 | .cond c x y, st => (match ev st.slots c with
  | .v (.bool true) => xexec A cf yf live inR x st
  | .v (.bool false) => xexec A cf yf live inR y st
  | _ => none)
 | .block id x, st => (match xexec A cf yf live inR x st with
  | some (.exit id', s) => if id' = id then some (.normal, s) else some (.exit id', s)
  | r => r)
 | .region _ ops d, st => (match xregion A cf yf ops d st with
  | some f => fXs (mask live f.slots) fun a => fReg ops.toList f.toks fun b => some (.normal, { f with slots := a, toks := b })
  | none => none)
 | .loop x, st => iterX A.loops (xexec A cf yf live inR x) st
 | .rangeFunc g ps assign body, st => (match inR, ev st.slots g with
  | false, .fn h caps => (match cf h (.ptr (st.toks.length + 1) [(1, 0)] 0 0 :: caps) { st with df := st.toks.length :: st.df, toks := st.toks ++ [.dfr (st.toks.length + 1), .loop 0 st.slots ps.toList assign body none live] } with
   | some (_, s) => xendLoop s
   | none => none)
  | _, _ => none)
 | _, _ => none
def setPs : List AV → List Nat → List AV → List AV
 | S, p :: ps, v :: vs => setPs (S.set p v) ps vs
 | S, _, _ => S
def lOf (toks : List XT) (gh : List (List AV × List Nat)) (j : Nat) : Option Nat := match gh[j]? with
 | some (_, D :: _) => (match toks[D]? with
  | some (.dfr l) => some l
  | _ => none)
 | _ => none
def ownerX (toks : List XT) (t : Nat) : List (List AV × List Nat) → Option Nat
 | [] => none
 | g :: gs => if lOf toks [g] 0 = some t then some 0 else (ownerX toks t gs).map (· + 1)
def setLoop (s : XS) (l k k' : Nat) (pend : Option Code) : Option XS := match s.toks[l]? with
 | some (.loop k0 S ps assign body none live) => if k0 = k then some { s with toks := s.toks.set l (.loop k' S ps assign body pend live) } else none
 | _ => none
def popX (s : XS) : Option XS := match s.gh with
 | (sl, d) :: g => some ⟨sl, d, g, s.toks⟩
 | [] => none
def endRoundX (s : XS) (l : Nat) : Exit → Option (AV × XS)
 | .normal => ((setLoop s l 1 0 none).bind popX).map fun s => (.v (.bool true), s)
 | .ret => ((setLoop s l 1 2 (some .ret)).bind popX).map fun s => (.v (.bool false), s)
 | .exit id => ((setLoop s l 1 2 (some (.exit id))).bind popX).map fun s => (.v (.bool false), s)
 | _ => none
def xyield (A : XA) (cf : CF) (yf : YF) : YF := fun t vs st => match st.toks[t]?, ownerX st.toks t st.gh with
 | some (.loop 0 S ps assign body none live), some i => if vs.length = ps.length then
   (match xexec A cf yf live true assign ⟨setPs S ps vs, [], (st.slots, st.df) :: st.gh, st.toks⟩ with
   | some (.normal, s1) => (match lOf s1.toks s1.gh (i + 1) with
    | some l1 => (match setLoop s1 l1 0 1 none with
     | some s2 => (match xexec A cf yf live true body s2 with
      | some (e, s3) => (match lOf s3.toks s3.gh (i + 1) with
       | some l3 => endRoundX s3 l3 e
       | none => none)
      | none => none)
     | none => none)
    | none => none)
   | _ => none) else none
 | _, _ => none
def xresV (C : Ctx) (st : XS) : ResultVar → Option AV
 | .tmp t => some (st.slots.getD t .junk)
 | .cell ad t => (match st.slots.getD ad .junk with
  | .ptr k [] _ j => qLoad C t st.toks (.ptr k [] 0 j)
  | _ => none)
def xresL (C : Ctx) (st : XS) : List ResultVar → Option (List AV)
 | [] => some []
 | r :: rs => (match xresV C st r, xresL C st rs with
  | some q, some q' => some (q :: q')
  | _, _ => none)
def bodyX (P : Program) (f : FuncId) : Option (Func × Code) := match P.funcs[f]? with
 | some fn => (match fn.body with
  | some c => if (fn.name == "runtime.NumGoroutine") = false then some (fn, c) else none
  | none => none)
 | none => none
def isDfr : Option XT → Bool
 | some (.dfr _) => true
 | _ => false
def dropD : List Nat → List XT → List XT
 | [], toks => toks
 | d :: ds, toks => dropD ds (toks.set d .none)
def backX (C : Ctx) (fn : Func) (e : Exit) (s : XS) : Option (AV × XS) := if isEnd e = true ∧ s.df.Nodup ∧ (s.df.all fun d => isDfr s.toks[d]?) = true then (match xresL C { s with toks := dropD s.df s.toks } fn.results.toList, s.gh with
 | some rs, (sl, d) :: g => some (pack rs, ⟨sl, d, g, dropD s.df s.toks⟩)
 | _, _ => none) else none
def xgo (P : Program) (A : XA) : Nat → CF × YF
 | 0 => (cfC A.C A.d, fun _ _ _ => none)
 | n + 1 => (fun f vs st => match cfC A.C A.d f vs st with
  | some r => some r
  | none => (match A.S f vs st with
   | some r => some r
   | none => (match A.K f, bodyX P f with
    | some live, some (fn, c) => (match xexec A (xgo P A n).1 (xgo P A n).2 live false c ⟨vs ++ List.replicate (fn.ntmps - vs.length) .junk, [], (st.slots, st.df) :: st.gh, st.toks⟩ with
     | some (e, s) => backX A.C fn e s
     | none => none)
    | _, _ => none)), xyield A (xgo P A n).1 (xgo P A n).2)
def xcall (P : Program) (A : XA) (n : Nat) : CF := (xgo P A n).1
section
variable {P : Program} {A : XA} {C : Ctx} {cf : CF} {o : Oper} {B : XB} {st : XS} {E : XE} {a : Act} {gv : List Act} {w w' : World} {ops : Array Oper} {yf : YF}
theorem mask_ok : ∀ {live : List Bool} {xs : List AV} {ys : List Value}, XRepL w E xs ys → XRepL w E (mask live xs) ys
 | [], xs, ys, h => by
  simp only [mask]
  induction xs generalizing ys with
  | nil => simpa [XRepL] using h
  | cons x xs ih =>
   simp only [XRepL] at h
   obtain ⟨y, ys, rfl, _, h⟩ := h
   simp only [List.map_cons, XRepL]
   exact ⟨y, ys, rfl, by simp [XRep], ih (ys := ys) h⟩
 | b :: bs, x :: xs, ys, h => by
  simp only [XRepL] at h
  obtain ⟨y, ys, rfl, h1, h2⟩ := h
  simp only [mask, XRepL]
  exact ⟨y, ys, rfl, by cases b; simp [XRep]; exact h1, mask_ok h2⟩
 | _ :: _, [], ys, h => by simpa [mask, XRepL] using h
theorem XR.mask (h : XR B st E a gv w) (live : List Bool) : XR B (maskS live st) E a gv w :=
 ⟨h.n, ⟨mask_ok h.top.1, h.top.2⟩, h.ghost, h.tok, h.live, h.inj, h.flt, h.fz, h.gl, h.frame⟩
theorem wp_xregion (hC : A.C.Ok P) (hm : P.follows .mixedOrders = true) (hcf : CFOk P cf) (hyf : YFOk P yf) {id : Nat} {draw : Bool} {fin : XS} (h : xregion A cf yf ops draw st = some fin) {K : Exit → Act → World → Prop} (ro : Option Nat) (hK : ∀ E' a' w', XR B fin E' a' gv w' → K .normal a' w') (hs : XR B st E a gv w) :
  (Code.region id ops draw).wpIn (fen ro) 0 P K a w := by
 cases draw with
 | false =>
  simp only [xregion] at h
  refine wpIn_region ?_
  have := xrun_ok hC hcf hyf (ops := ops) (Q := K) ro hK ops.toList 0 st E a w (fun j => by simp) hs h
  simpa [List.range_eq_range'] using this
 | true =>
  simp only [xregion] at h
  refine wpIn_region_any hm ?_
  split at h
  ·rename_i s hq
   simp only [Option.some.injEq] at h; subst h
   exact xquiet_ok hC ro hq hK hs.drew
  ·exact bRun_ok hC hcf hyf ro hK ops.size _ h (Array.replicate ops.size false, st) (by simp) _ _ _ hs.drew
theorem wp_iterX {c : Code} {F : XS → Option (Exit × XS)} (ro : Option Nat) (hF : ∀ st e s, F st = some (e, s) → ∀ K : Exit → Act → World → Prop, (∀ E' a' w', XR B s E' a' gv w' → K e a' w') → ∀ E a w, XR B st E a gv w → c.wpIn (fen ro) 0 P K a w)
  (n : Nat) (st : XS) (e : Exit) (s : XS) (h : iterX n F st = some (e, s)) (K : Exit → Act → World → Prop) (hK : ∀ E' a' w', XR B s E' a' gv w' → K e a' w') (E : XE) (a : Act) (w : World) (hs : XR B st E a gv w) : (Code.loop c).wpIn (fen ro) 0 P K a w := by
 have key : ∀ (n : Nat) (st : XS), iterX n F st = some (e, s) → ∀ (E : XE) (a : Act) (w : World), XR B st E a gv w → Code.roundsIn (fen ro) 0 P c K n a w := by
  intro n
  induction n with
  | zero => intro st h; simp [iterX] at h
  | succ n ih =>
   intro st h E a w hs
   unfold iterX at h
   simp only [Code.roundsIn]
   cases hf : F st with
   | none => rw [hf] at h; simp at h
   | some p =>
    obtain ⟨e1, s1⟩ := p
    rw [hf] at h
    refine hF st e1 s1 hf _ ?_ E a w hs
    intro E' a' w' hs'
    cases e1 with
    | normal => exact ih s1 h E' a' w' hs'
    | _ =>
     simp only [Option.some.injEq, Prod.mk.injEq] at h
     obtain ⟨rfl, rfl⟩ := h
     exact hK E' a' w' hs'
 exact wpIn_loop_rounds n (key n st h E a w hs)
theorem XR.drop (h : XR B st E a gv w) (t : Nat) : XR B { st with toks := st.toks.set t .none } E a gv w := by
 have hold : ∀ {i : Nat} {q : XT}, (st.toks.set t .none)[i]? = some q → q ≠ .none → st.toks[i]? = some q := fun {i q} hi hq => by
  by_cases e : i = t
  ·subst e
   rw [List.getElem?_set] at hi
   simp at hi
   exact (hq hi.2.symm).elim
  ·rw [List.getElem?_set_ne (fun h => e h.symm)] at hi; exact hi
 refine ⟨by simp [h.n], h.top, h.ghost, fun i q hi => ?_, fun i q hi hq => h.live i q (hold hi hq) hq, fun i j q r hi hj hq hr hne => h.inj i j q r (hold hi hq) (hold hj hr) hq hr hne, h.flt, h.fz, h.gl, h.frame⟩
 by_cases hq : q = .none
 ·subst hq; trivial
 ·exact h.tok i q (hold hi hq)
theorem xexec_ok (hC : A.C.Ok P) (hm : P.follows .mixedOrders = true) (hcf : CFOk P cf) (hyf : YFOk P yf) (live : List Bool) (ro : Option Nat) (inR : Bool) (hro : inR = false → ro = none) : ∀ (c : Code) (st : XS) (e : Exit) (s : XS), xexec A cf yf live inR c st = some (e, s) →
  ∀ K : Exit → Act → World → Prop, (∀ E' a' w', XR B s E' a' gv w' → K e a' w') → ∀ E a w, XR B st E a gv w → c.wpIn (fen ro) 0 P K a w
 | .skip, st, e, s, h, K, hK, E, a, w, hs => by
  simp only [xexec, Option.some.injEq, Prod.mk.injEq] at h
  obtain ⟨rfl, rfl⟩ := h
  exact wpIn_skip (hK E a w hs)
 | .exit id, st, e, s, h, K, hK, E, a, w, hs => by
  simp only [xexec, Option.some.injEq, Prod.mk.injEq] at h
  obtain ⟨rfl, rfl⟩ := h
  exact wpIn_exit (hK E a w hs)
 | .ret, st, e, s, h, K, hK, E, a, w, hs => by
  simp only [xexec, Option.some.injEq, Prod.mk.injEq] at h
  obtain ⟨rfl, rfl⟩ := h
  exact wpIn_ret (hK E a w hs)
 | .seq x y, st, e, s, h, K, hK, E, a, w, hs => by
  simp only [xexec] at h
  refine wpIn_seq ?_
  cases hx : xexec A cf yf live inR x st with
  | none => rw [hx] at h; simp at h
  | some p =>
   obtain ⟨e1, s1⟩ := p
   rw [hx] at h
   refine xexec_ok hC hm hcf hyf live ro inR hro x st e1 s1 hx _ ?_ E a w hs
   intro E' a' w' hs'
   cases e1 with
   | normal => exact xexec_ok hC hm hcf hyf live ro inR hro y s1 e s h K hK E' a' w' hs'
   | _ =>
    simp only [Option.some.injEq, Prod.mk.injEq] at h
    obtain ⟨rfl, rfl⟩ := h
    exact hK E' a' w' hs'
 | .cond c x y, st, e, s, h, K, hK, E, a, w, hs => by
  simp only [xexec] at h
  split at h
  ·rename_i hc
   have := XRep_v (hs.top.ev c) hc
   exact wpIn_cond_split this (fun _ => xexec_ok hC hm hcf hyf live ro inR hro x st e s h K hK E a w hs) (fun h => by cases h)
  ·rename_i hc
   have := XRep_v (hs.top.ev c) hc
   exact wpIn_cond_split this (fun h => by cases h) (fun _ => xexec_ok hC hm hcf hyf live ro inR hro y st e s h K hK E a w hs)
  ·simp at h
 | .block id x, st, e, s, h, K, hK, E, a, w, hs => by
  simp only [xexec] at h
  refine wpIn_block ?_
  cases hx : xexec A cf yf live inR x st with
  | none => rw [hx] at h; simp at h
  | some p =>
   obtain ⟨e1, s1⟩ := p
   rw [hx] at h
   refine xexec_ok hC hm hcf hyf live ro inR hro x st e1 s1 hx _ ?_ E a w hs
   intro E' a' w' hs'
   cases e1 with
   | exit id' =>
    simp only at h
    simp only [Exit.inBlock]
    by_cases he : id' = id
    ·rw [if_pos he] at h ⊢
     simp only [Option.some.injEq, Prod.mk.injEq] at h
     obtain ⟨rfl, rfl⟩ := h
     exact hK E' a' w' hs'
    ·rw [if_neg he] at h ⊢
     simp only [Option.some.injEq, Prod.mk.injEq] at h
     obtain ⟨rfl, rfl⟩ := h
     exact hK E' a' w' hs'
   | _ =>
    simp only [Option.some.injEq, Prod.mk.injEq] at h
    obtain ⟨rfl, rfl⟩ := h
    exact hK E' a' w' hs'
 | .region id ops d, st, e, s, h, K, hK, E, a, w, hs => by
  simp only [xexec, fXs_eq, fReg_eq] at h
  split at h
  ·rename_i f hf
   simp only [Option.some.injEq, Prod.mk.injEq] at h
   obtain ⟨rfl, rfl⟩ := h
   exact wp_xregion hC hm hcf hyf hf ro (fun E' a' w' hs' => hK E' a' w' (hs'.mask live)) hs
  ·simp at h
 | .loop x, st, e, s, h, K, hK, E, a, w, hs => by
  simp only [xexec] at h
  exact wp_iterX ro (fun st e s h K hK E a w hs => xexec_ok hC hm hcf hyf live ro inR hro x st e s h K hK E a w hs) A.loops st e s h K hK E a w hs
 | .rangeFunc g ps assign body, st, e, s, h, K, hK, E, a, w, hs => by
  simp only [xexec] at h
  split at h
  rotate_left
  ·simp at h
  rename_i gf caps hg
  rw [hro rfl]
  split at h
  rotate_left
  ·simp at h
  rename_i r1 s1 hcall
  obtain ⟨⟨gfn, hgf, hgn, hgb⟩, hcall⟩ := hcf _ _ _ _ _ hcall
  have hgv := hs.top.ev g
  rw [hg] at hgv
  simp only [XRep] at hgv
  obtain ⟨lb, hgv, hlb⟩ := hgv
  refine wpIn_rangeFunc ?_
  intro fn hfn
  -- the two blocks
  have f1 : Frm (fun b => b = w.heap.size) w (w.alloc (.deferred (some []))) := ⟨rfl, rfl, rfl, by simp, fun k hk _ => (frm_alloc (w := w) (.deferred (some []))).block k hk id⟩
  obtain ⟨w1, hw1⟩ : ∃ w1, w.alloc (.deferred (some [])) = w1 := ⟨_, rfl⟩
  obtain ⟨rec, hrec⟩ : ∃ rec : Loop, rec = { state := .ready, pending := none, fn, tmps := a.tmps, params := ps, assign, body, defers := w.heap.size } := ⟨_, rfl⟩
  obtain ⟨w2, hw2⟩ : ∃ w2, w1.alloc (.loop rec) = w2 := ⟨_, rfl⟩
  have hsz1 : w1.heap.size = w.heap.size + 1 := by rw [← hw1]; simp
  have hsz2 : w2.heap.size = w.heap.size + 2 := by rw [← hw2]; simp [hsz1]
  have hD : w1.heap[w.heap.size]? = some (.deferred (some [])) := by rw [← hw1]; exact World.alloc_heap_new _ _
  rw [hw1] at f1
  have f2 : Frm (fun b => b = w.heap.size + 1) w1 w2 := by
   rw [← hw2]
   exact ⟨rfl, rfl, rfl, by simp, fun k hk _ => (frm_alloc (w := w1) (.loop rec)).block k hk id⟩
  have hL : w2.heap[w.heap.size + 1]? = some (.loop rec) := by rw [← hw2, ← hsz1]; exact World.alloc_heap_new _ _
  have hD2 : w2.heap[w.heap.size]? = some (.deferred (some [])) := (f2.block _ (by omega) (by omega)).trans hD
  have hF2 : Agree E.F w w2 := fun b hb => (f2.block b (by have := hs.flt b hb; omega) (by have := hs.flt b hb; omega)).trans (f1.block b (hs.flt b hb) (by have := hs.flt b hb; omega))
  let E2 : XE := { F := E.F, n := E.n + 2, blk := fun t => if t = E.n then w.heap.size else if t = E.n + 1 then w.heap.size + 1 else E.blk t, sz := E.sz }
  have hle : XLe w w2 E E2 := ⟨fun _ h => h, hF2, by simp [E2], fun t ht => by simp [E2, show t ≠ E.n by omega, show t ≠ E.n + 1 by omega]⟩
  let a1 : Act := { a with defers := [{ target := .collected w.heap.size, args := #[] }] ++ a.defers }
  have hn := hs.n
  have b0 : E2.blk E.n = w.heap.size := by simp [E2]
  have b1 : E2.blk (E.n + 1) = w.heap.size + 1 := by simp [E2]
  have htok : ∀ {t : Nat} {k : XT}, (st.toks ++ [.dfr (st.toks.length + 1), .loop 0 st.slots ps.toList assign body none live])[t]? = some k →
    (t = E.n ∧ k = .dfr (E.n + 1)) ∨ (t = E.n + 1 ∧ k = .loop 0 st.slots ps.toList assign body none live) ∨ (t < E.n ∧ st.toks[t]? = some k) := fun {t k} ht => by
   rw [hn]
   rcases Nat.lt_or_ge t st.toks.length with h | h
   ·rw [List.getElem?_append_left h] at ht; exact .inr (.inr ⟨h, ht⟩)
   ·rw [List.getElem?_append_right h] at ht
    rcases hd : t - st.toks.length with _ | _ | m
    ·rw [hd] at ht; simp at ht; exact .inl ⟨by omega, ht.symm⟩
    ·rw [hd] at ht; simp at ht; exact .inr (.inl ⟨by omega, ht.symm⟩)
    ·rw [hd] at ht; simp at ht
  have hblk : ∀ t, t < E.n → E2.blk t = E.blk t := fun t ht => (hle.blk t ht).1
  have hs2 : XR B { st with df := st.toks.length :: st.df, toks := st.toks ++ [.dfr (st.toks.length + 1), .loop 0 st.slots ps.toList assign body none live] } E2 a1 gv w2 := by
   refine ⟨by simp [E2, hn], ⟨hs.top.1.mono hle, ?_, fun t ht => ?_⟩, hs.ghost.mono hle _ _, fun t k ht => ?_, fun t k ht hk => ?_, fun t t' k k' ht ht' hk hk' hne => ?_, fun b hb => by have := hs.flt b hb; omega, hs.fz, hs.gl.agree hF2, (hs.frame.trans' f1 fun b hb => by rw [hb]; exact hs.frame.size).trans' f2 fun b hb => by rw [hb]; have := hs.frame.size; omega⟩
   ·have := (hs.top.mono hle).2.1
    simp only [List.map_cons, a1, List.singleton_append, markX]
    rw [this]
    rw [← hn, b0]
   ·rcases List.mem_cons.1 ht with rfl | ht
    ·show st.toks.length < E.n + 2; omega
    ·have := hs.top.2.2 t ht; show t < E.n + 2; omega
   ·rcases htok ht with ⟨rfl, rfl⟩ | ⟨rfl, rfl⟩ | ⟨h1, h2⟩
    ·simp only [XTok]; rw [b0, b1]; exact ⟨hD2, by show E.n + 1 < E.n + 2; omega, rfl⟩
    ·simp only [XTok, stX]; rw [b1]
     exact ⟨fn, a.tmps, w.heap.size, by rw [hL, hrec], hs.top.1.mono hle⟩
    ·by_cases hkn : k = .none
     ·subst hkn; trivial
     ·have hl := (hs.live t k h2 hkn).2.1
      exact (hs.tok t k h2).mono hle h1 ((f2.block _ (by omega) (by omega)).trans (f1.block _ hl (by omega)))
   ·rcases htok ht with ⟨rfl, rfl⟩ | ⟨rfl, rfl⟩ | ⟨h1, h2⟩
    ·rw [b0]; exact ⟨hs.frame.size, by omega, fun hb => Nat.lt_irrefl _ (hs.flt _ hb)⟩
    ·rw [b1]; exact ⟨by have := hs.frame.size; omega, by omega, fun hb => by have := hs.flt _ hb; omega⟩
    ·rw [hblk t h1]
     have := hs.live t k h2 hk
     exact ⟨this.1, by omega, this.2.2⟩
   ·rcases htok ht with ⟨rfl, rfl⟩ | ⟨rfl, rfl⟩ | ⟨h1, h2⟩ <;> rcases htok ht' with ⟨rfl, rfl⟩ | ⟨rfl, rfl⟩ | ⟨h1', h2'⟩
    ·exact (hne rfl).elim
    ·rw [b0, b1]; omega
    ·rw [b0, hblk t' h1']; have := (hs.live t' k' h2' hk').2.1; omega
    ·rw [b0, b1]; omega
    ·exact (hne rfl).elim
    ·rw [b1, hblk t' h1']; have := (hs.live t' k' h2' hk').2.1; omega
    ·rw [b0, hblk t h1]; have := (hs.live t k h2 hk).2.1; omega
    ·rw [b1, hblk t h1]; have := (hs.live t k h2 hk).2.1; omega
    ·rw [hblk t h1, hblk t' h1']; exact hs.inj t t' k k' h2 h2' hk hk' hne
  have hargs : XRepL w2 E2 (.ptr (st.toks.length + 1) [(1, 0)] 0 0 :: caps) (#[Value.func (.yield (w.heap.size + 1)) #[] #[]] ++ lb).toList := by
   rw [Array.toList_append]
   simp only [XRepL, List.cons_append, List.nil_append]
   refine ⟨_, _, rfl, ?_, hlb.mono hle⟩
   simp only [XRep, XPtr]
   exact ⟨by show st.toks.length + 1 < E.n + 2; omega, by rw [← hn, b1]⟩
  refine ⟨w.heap.size + 1, [{ target := .collected w.heap.size, args := #[] }], w2, { target := .fn (.func gf) lb, args := #[.func (.yield (w.heap.size + 1)) #[] #[]] }, w2, gf,
   #[.func (.yield (w.heap.size + 1)) #[] #[]] ++ lb, w2, ?_, ?_, fun _ _ => trivial, ?_, fun hd => by simp [fen, Fence.wide] at hd, ?_⟩
  ·have := run_enterLoop_outer (P := P) (w := w) fn a.tmps ps assign body
   rw [hw1, ← hrec, hw2] at this
   exact this
  ·simp only [resolve, hgv]
   simp [go_sem]
  ·have e1 : gfn.name ≠ "runtime.NumGoroutine" := by simpa using hgn
   have e2 : gfn.body ≠ Option.none := by intro e; rw [e] at hgb; simp at hgb
   simp [invoke, callFunc, hgf, e1, e2]
  ·have hc := hcall B E2 a1 gv w2 _ hs2 hargs
   have hcI : CallsIn (fen none) (0 - 1) P gf (#[.func (.yield (w.heap.size + 1)) #[] #[]] ++ lb) w2 _ := callsIn_wide.2 hc
   refine hcI.mono fun e2 w3 he => ?_
   obtain ⟨y, E3, rfl, g1, _⟩ := he
   -- the end of the loop
   unfold xendLoop at h
   split at h
   rotate_left
   ·simp at h
   rename_i D ds hdf
   split at h
   rotate_left
   ·simp at h
   rename_i l htD
   split at h
   rotate_left
   ·simp at h
   rename_i k0 S0 ps0 as0 bd0 pend lv0 htl
   split at h
   rotate_left
   ·simp at h
   rename_i hk0
   have hmk : w.heap.size = E3.blk D := by
    have := g1.top.2.1
    rw [hdf] at this
    simp only [a1, List.singleton_append, List.map_cons, List.cons.injEq, markX] at this
    have := this.1
    simpa using this
   have hl3 := g1.tok D _ htD
   simp only [XTok] at hl3
   have hbl : E3.blk l = w.heap.size + 1 := by rw [hl3.2.2, ← hmk]
   have htl3 := g1.tok l _ htl
   simp only [XTok] at htl3
   obtain ⟨fn3, tmps3, D3, q1, _⟩ := htl3
   rw [hbl] at q1
   have hrun := run_endLoop (P := P) q1 (by rcases hk0 with rfl | rfl <;> simp [stX])
   have hdrop := (g1.drop l).other (w' := w3.putObj (w.heap.size + 1) (.loop { ({ state := stX k0, pending := pend, fn := fn3, tmps := tmps3, params := ps0.toArray, assign := as0, body := bd0, defers := D3 } : Loop) with state := .exhausted })) (b0 := E3.blk l) (by rw [hbl]; exact frm_put) (g1.live l _ htl (by simp)).1 (g1.live l _ htl (by simp)).2.2 (fun t kk ht hkk e => by
    by_cases htk' : t = l
    ·subst htk'
     rw [List.getElem?_set_self (List.getElem?_eq_some_iff.1 htl).1] at ht
     exact hkk (Option.some.inj ht).symm
    ·rw [List.getElem?_set_ne (fun e => htk' e.symm)] at ht
     exact g1.inj t l kk _ ht htl hkk (by simp) htk' e)
   refine ⟨pend, _, hrun, ?_⟩
   split at h
   ·simp only [Option.some.injEq, Prod.mk.injEq] at h
    obtain ⟨rfl, rfl⟩ := h
    exact hK E3 a1 _ hdrop
   ·simp only [Option.some.injEq, Prod.mk.injEq] at h
    obtain ⟨rfl, rfl⟩ := h
    exact wpIn_ret (hK E3 a1 _ hdrop)
   ·simp only [Option.some.injEq, Prod.mk.injEq] at h
    obtain ⟨rfl, rfl⟩ := h
    exact wpIn_exit (hK E3 a1 _ hdrop)
   ·simp at h
 | .scope _, _, _, _, h, _, _, _, _, _, _ => by simp [xexec] at h
 | .label _, _, _, _, h, _, _, _, _, _, _ => by simp [xexec] at h
 | .goto _, _, _, _, h, _, _, _, _, _, _ => by simp [xexec] at h
 | .refuse _, _, _, _, h, _, _, _, _, _, _ => by simp [xexec] at h
theorem xresV_ok (hC : C.Ok P) (hs : XR B st E a gv w) (r : ResultVar) (q : AV) (h : xresV C st r = some q) : ∃ y, (resSem a.tmps r).run P w = .ok y w ∧ XRep w E q y := by
 cases r with
 | tmp t =>
  simp only [xresV, Option.some.injEq] at h; subst h
  have hev := hs.top.ev (.tmp t)
  simp only [Ax.ev, Act.eval] at hev
  exact ⟨a.tmps.getD t undef, rfl, hev⟩
 | cell ad t =>
  simp only [xresV] at h
  split at h
  rotate_left
  ·simp at h
  rename_i k i j hp
  have hpv := hs.top.ev (.tmp ad)
  simp only [Ax.ev, Act.eval] at hpv
  rw [hp] at hpv
  simp only [XRep, XPtr] at hpv
  have hy := hpv.2
  unfold qLoad at h
  split at h
  rotate_left
  ·simp at h
  rename_i ti hti
  have ht := hC.T t ti hti
  simp only at h
  split at h
  rotate_left
  ·simp at h
  rename_i T ex cs hk
  obtain ⟨ys, g1, g2, g3⟩ := (hs.tok k _ (kRow_ok hk)).at
  split at h
  ·rename_i hg
   split at h
   ·rename_i hle
    simp only [Option.some.injEq] at h; subst h
    have hys : ((ys.drop j).take ti.size).length = ti.size := by simp; omega
    refine ⟨.agg ((ys.drop j).take ti.size).toArray, ?_, ?_⟩
    ·have := run_load_agg (P := P) (w := w) ht hg (b := E.blk k) (o' := j) (ys := (ys.drop j).take ti.size) (fun i y hi => by
      rw [List.getElem?_take] at hi
      split at hi
      ·rw [List.getElem?_drop] at hi; exact g3 _ _ hi
      ·simp at hi) hys
     simp only [resSem]
     rw [hy]
     simpa [asAddr, Instr.loadAt, Instr.sureAddr] using this
    ·simp only [XRep]; exact ⟨_, rfl, (g1.drop j).take _⟩
   ·simp at h
  ·rename_i hg
   obtain ⟨y, h1, h2⟩ := g1.get _ _ h
   refine ⟨y, ?_, h2⟩
   have := run_load_one (P := P) (w := w) ht (by simpa using hg) (g3 _ _ h1)
   simp only [resSem]
   rw [hy]
   simpa [asAddr, Instr.loadAt, Instr.sureAddr] using this
theorem xresL_ok (hC : C.Ok P) (hs : XR B st E a gv w) : ∀ (rs : List ResultVar) (q : List AV), xresL C st rs = some q →
  ∃ ys, (rs.mapM (resSem a.tmps) : Sem (List Value)).run P w = .ok ys w ∧ XRepL w E q ys
 | [], q, h => by
  simp only [xresL, Option.some.injEq] at h; subst h
  exact ⟨[], by simp, by simp [XRepL]⟩
 | r :: rs, q, h => by
  simp only [xresL] at h
  split at h
  ·rename_i q1 q2 h1 h2
   simp only [Option.some.injEq] at h; subst h
   obtain ⟨y, k1, k2⟩ := xresV_ok hC hs r q1 h1
   obtain ⟨ys, g1, g2⟩ := xresL_ok hC hs rs q2 h2
   refine ⟨y :: ys, ?_, ?_⟩
   ·rw [List.mapM_cons, Sem.run_bind, k1, Result.andThen_ok, Sem.run_bind, g1]; rfl
   ·simp only [XRepL]; exact ⟨y, ys, rfl, k2, g2⟩
  ·simp at h
theorem packX_ok : ∀ {xs : List AV} {ys : List Value}, XRepL w E xs ys → XRep w E (pack xs) (if h : ys.toArray.size = 1 then ys.toArray[0] else .tuple ys.toArray)
 | [], ys, g => by
  simp only [XRepL] at g; subst g
  simp only [pack, XRep]
  exact ⟨#[], by simp, by simp [XRepL]⟩
 | [x], ys, g => by
  simp only [XRepL] at g
  obtain ⟨y, ys', rfl, k, rfl⟩ := g
  simp only [pack]
  simpa using k
 | x :: x' :: xs, ys, g => by
  have hl := g.len
  simp only [pack, XRep]
  refine ⟨ys.toArray, ?_, by simpa using g⟩
  rw [dif_neg (by simp [hl])]
theorem bodyX_ok {f : FuncId} {fn : Func} {c : Code} (h : bodyX P f = some (fn, c)) : P.funcs[f]? = some fn ∧ fn.body = some c ∧ (fn.name == "runtime.NumGoroutine") = false := by
 unfold bodyX at h
 split at h
 ·rename_i g hg
  split at h
  ·rename_i c' hc
   split at h
   ·rename_i hh
    simp only [Option.some.injEq, Prod.mk.injEq] at h
    obtain ⟨rfl, rfl⟩ := h
    exact ⟨hg, hc, hh⟩
   ·simp at h
  ·simp at h
 ·simp at h
theorem setPs_ok : ∀ {ps : List Nat} {vs S : List AV} {vals : List Value} {tmps : Array Value}, XRepL w E S tmps.toList → XRepL w E vs vals → vs.length = ps.length → XRepL w E (setPs S ps vs) ((ps.zip vals).foldl (fun (tmps : Array Value) p => tmps.setIfInBounds p.1 p.2) tmps).toList
 | [], vs, S, vals, tmps, h, _, _ => by simpa [setPs] using h
 | p :: ps, [], _, _, _, _, _, hl => by simp at hl
 | p :: ps, v :: vs, S, vals, tmps, h, hv, hl => by
  simp only [XRepL] at hv
  obtain ⟨y, ys, rfl, h1, h2⟩ := hv
  simp only [setPs, List.zip_cons_cons, List.foldl_cons]
  refine setPs_ok ?_ h2 (by simpa using hl)
  rw [Array.toList_setIfInBounds]
  exact h.set h1 p
theorem lOf_ok (h : XR B st E a gv w) : ∀ {j l : Nat}, lOf st.toks st.gh j = some l → ∃ (act : Act) (b : Nat), gv[j]? = some act ∧ act.defers.head? = some { target := .collected b, args := #[] } ∧ E.blk l = b + 1 := by
 intro j l hl
 unfold lOf at hl
 split at hl
 rotate_left
 ·simp at hl
 rename_i sl D ds hg
 split at hl
 rotate_left
 ·simp at hl
 rename_i l' hD
 simp only [Option.some.injEq] at hl; subst hl
 have key : ∀ {gh : List (List AV × List Nat)} {gv : List Act} {j : Nat} {g : List AV × List Nat}, XGh w E gh gv → gh[j]? = some g → ∃ act, gv[j]? = some act ∧ XFr w E g.1 g.2 act := by
  intro gh
  induction gh with
  | nil => intro gv j g _ hj; simp at hj
  | cons g0 gh ih =>
   intro gv j g hx hj
   simp only [XGh] at hx
   obtain ⟨v, vs, rfl, h1, h2⟩ := hx
   cases j with
   | zero => simp at hj; subst hj; exact ⟨v, by simp, h1⟩
   | succ j => obtain ⟨act, k1, k2⟩ := ih h2 (by simpa using hj); exact ⟨act, by simpa using k1, k2⟩
 obtain ⟨act, k1, k2⟩ := key h.ghost hg
 have hd := k2.2.1
 simp only [List.map_cons, markX] at hd
 have ht := h.tok D _ hD
 simp only [XTok] at ht
 exact ⟨act, E.blk D, k1, by rw [hd]; rfl, ht.2.2⟩
theorem ownerX_ok : ∀ {gh : List (List AV × List Nat)} {t i : Nat} {toks : List XT}, ownerX toks t gh = some i → lOf toks gh i = some t
 | [], _, _, _, h => by simp [ownerX] at h
 | g :: gh, t, i, toks, h => by
  unfold ownerX at h
  split at h
  ·rename_i hl; simp only [Option.some.injEq] at h; subst h; simpa [lOf] using hl
  ·obtain ⟨j, hj, rfl⟩ := Option.map_eq_some_iff.1 h
   have := ownerX_ok hj
   simpa [lOf] using this
theorem setLoop_ok {s s' : XS} {l k k' : Nat} {pend : Option Code} (h : XR B s E a gv w) (hl : setLoop s l k k' pend = some s') : ∃ r : Loop, w.heap[E.blk l]? = some (.loop r) ∧ r.state = stX k ∧ s'.gh = s.gh ∧
  XR B s' E a gv (w.putObj (E.blk l) (.loop { r with state := stX k', pending := pend })) := by
 unfold setLoop at hl
 split at hl
 rotate_left
 ·simp at hl
 rename_i k0 S ps assign body live ht
 split at hl
 rotate_left
 ·simp at hl
 rename_i hk
 subst hk
 simp only [Option.some.injEq] at hl; subst hl
 have htk := h.tok l _ ht
 simp only [XTok] at htk
 obtain ⟨fn, tmps, D, q1, q2⟩ := htk
 refine ⟨_, q1, rfl, rfl, h.upd ht (by simp) frm_put ?_⟩
 have hlv := h.live l _ ht (by simp)
 have hF : Agree E.F w (w.putObj (E.blk l) (.loop { state := stX k', pending := pend, fn, tmps, params := ps.toArray, assign, body, defers := D })) := fun b hb => World.putObj_heap_other fun e => hlv.2.2 (e ▸ hb)
 simp only [XTok]
 exact ⟨fn, tmps, D, World.putObj_heap_same hlv.2.1, q2.mono ⟨fun _ h => h, hF, Nat.le_refl _, fun _ _ => ⟨rfl, rfl⟩⟩⟩
theorem popX_ok {s s' : XS} {a' : Act} (h : XR B s E a' (a :: gv) w) (hp : popX s = some s') : XR B s' E a gv w := by
 unfold popX at hp
 split at hp
 ·rename_i sl d g hg
  simp only [Option.some.injEq] at hp; subst hp
  exact h.pop hg
 ·simp at hp
theorem xyield_ok (hC : A.C.Ok P) (hm : P.follows .mixedOrders = true) (hcf : CFOk P cf) (hyf : YFOk P yf) : YFOk P (xyield A cf yf) := by
 intro t vs st r st' h B E a gv w vals hs hv
 unfold xyield at h
 split at h
 rotate_left
 ·simp at h
 rename_i S ps assign body live i htok hown
 split at h
 rotate_left
 ·simp at h
 rename_i hlen
 split at h
 rotate_left
 ·simp at h
 rename_i s1 hx1
 split at h
 rotate_left
 ·simp at h
 rename_i l1 hl1
 split at h
 rotate_left
 ·simp at h
 rename_i s2 hset
 split at h
 rotate_left
 ·simp at h
 rename_i e s3 hx3
 split at h
 rotate_left
 ·simp at h
 rename_i l3 hl3
 have ht := hs.tok t _ htok
 simp only [XTok, stX] at ht
 obtain ⟨fn, tmps, D, q1, q2⟩ := ht
 have hvl : vals.size = ps.length := by have := hv.len; simp at this; omega
 have hy := run_yield (P := P) (args := vals) q1 (by simp [hvl])
 obtain ⟨act, b, c1, c2, c3⟩ := lOf_ok hs (ownerX_ok hown)
 have hsame : ∀ {s : XS} {E' : XE} {a' : Act} {w' : World} {l' : Nat}, XR B s E' a' (a :: gv) w' → lOf s.toks s.gh (i + 1) = some l' → E'.blk l' = E.blk t := fun {s E' a' w' l'} hs' hl' => by
  obtain ⟨act', b', d1, d2, d3⟩ := lOf_ok hs' hl'
  have d1' : gv[i]? = some act' := by simpa using d1
  rw [c1] at d1'
  obtain rfl := Option.some.inj d1'
  rw [c2] at d2
  simp only [Option.some.injEq, Deferred.mk.injEq, Target.collected.injEq, and_true] at d2
  rw [d3, c3, d2]
 refine ⟨fn, _, assign, body, hy, ?_⟩
 refine roundIn_of_wpIn trivial ?_
 have hfold : (Array.foldl (fun tmps x => match x with | (t, a) => tmps.setIfInBounds t a) tmps (ps.toArray.zip vals)) = (ps.zip vals.toList).foldl (fun (tmps : Array Value) p => tmps.setIfInBounds p.1 p.2) tmps := by
  rw [← Array.foldl_toList]
  congr 1
  simp
 have hp := hs.push (s := setPs S ps vs) (a' := { tmps := (ps.zip vals.toList).foldl (fun (tmps : Array Value) p => tmps.setIfInBounds p.1 p.2) tmps, defers := [] }) (setPs_ok q2 hv hlen) rfl
 show Code.wpIn (fen (some (E.blk t))) 0 P assign _ { tmps := Array.foldl (fun tmps x => match x with | (t, a) => tmps.setIfInBounds t a) tmps (ps.toArray.zip vals), defers := [] } w
 rw [hfold]
 refine xexec_ok hC hm hcf hyf live (some (E.blk t)) true (by simp) assign _ _ _ hx1 _ ?_ E _ w hp
 intro E1 a1 w1 hs1
 obtain ⟨rc, k1, k2, _, k4⟩ := setLoop_ok hs1 hset
 have hb1 := hsame hs1 hl1
 rw [hb1] at k1 k4
 refine ⟨_, run_beginRound k1 (by rw [k2]; rfl), ?_⟩
 have k4' : XR B s2 E1 a1 (a :: gv) (w1.putObj (E.blk t) (.loop { rc with state := .busy })) := by
  have : rc.pending = none := by
   unfold setLoop at hset
   split at hset
   rotate_left
   ·simp at hset
   rename_i k0 S' ps' as' bd' lv' ht'
   have htk := hs1.tok l1 _ ht'
   simp only [XTok] at htk
   obtain ⟨fn', tmps', D', z1, _⟩ := htk
   rw [hb1, k1] at z1
   simp only [Option.some.injEq, Obj.loop.injEq] at z1
   rw [z1]
  have e : ({ rc with state := stX 1, pending := none } : Loop) = { rc with state := .busy } := by rw [← this]; rfl
  rw [e] at k4
  exact k4
 refine xexec_ok hC hm hcf hyf live (some (E.blk t)) true (by simp) body _ _ _ hx3 _ ?_ E1 _ _ k4'
 intro E3 a3 w3 hs3
 have hb3 := hsame hs3 hl3
 have fin : ∀ (k' : Nat) (jump : Option Code) (s4 s5 : XS) (bb : Bool), setLoop s3 l3 1 k' jump = some s4 → popX s4 = some s5 → stX k' = (if jump.isNone then .ready else .done) → jump.isNone = bb → r = .v (.bool bb) → st' = s5 →
   ∃ v w', (Instr.endRound (E.blk t) jump).run P w3 = .ok v w' ∧ ∃ y E', Ending.returned v = .returned y ∧ XR B st' E' a gv w' ∧ XRep w' E' r y := by
  rintro k' jump s4 s5 bb z1 z2 z3 z4 rfl rfl
  obtain ⟨rc3, y1, y2, _, y4⟩ := setLoop_ok hs3 z1
  rw [hb3] at y1 y4
  have hrun := run_endRound (P := P) jump y1
  refine ⟨_, _, hrun, _, E3, rfl, ?_, ?_⟩
  ·rw [← z3]; exact popX_ok y4 z2
  ·rw [z4]; simp [XRep, Value.oneCell']
 unfold endRoundX at h
 split at h
 ·obtain ⟨s5, z, e⟩ := Option.map_eq_some_iff.1 h
  obtain ⟨s4, z1, z2⟩ := Option.bind_eq_some_iff.1 z
  simp only [Prod.mk.injEq] at e
  exact fin 0 none s4 s5 true z1 z2 rfl rfl e.1.symm e.2.symm
 ·obtain ⟨s5, z, e⟩ := Option.map_eq_some_iff.1 h
  obtain ⟨s4, z1, z2⟩ := Option.bind_eq_some_iff.1 z
  simp only [Prod.mk.injEq] at e
  exact fin 2 (some .ret) s4 s5 false z1 z2 rfl rfl e.1.symm e.2.symm
 ·rename_i id
  obtain ⟨s5, z, e⟩ := Option.map_eq_some_iff.1 h
  obtain ⟨s4, z1, z2⟩ := Option.bind_eq_some_iff.1 z
  simp only [Prod.mk.injEq] at e
  exact fin 2 (some (.exit id)) s4 s5 false z1 z2 rfl rfl e.1.symm e.2.symm
 ·simp at h
theorem dropD_get : ∀ {ds : List Nat} {toks : List XT} {t : Nat} {k : XT}, (dropD ds toks)[t]? = some k → k ≠ .none → t ∉ ds ∧ toks[t]? = some k
 | [], _, _, _, h, _ => ⟨by simp, h⟩
 | d :: ds, toks, t, k, h, hk => by
  simp only [dropD] at h
  obtain ⟨h1, h2⟩ := dropD_get h hk
  by_cases e : t = d
  ·subst e
   rw [List.getElem?_set] at h2
   simp at h2
   exact (hk h2.2.symm).elim
  ·rw [List.getElem?_set_ne (fun h => e h.symm)] at h2
   exact ⟨by simp [e, h1], h2⟩
theorem dropD_len : ∀ {ds : List Nat} {toks : List XT}, (dropD ds toks).length = toks.length
 | [], _ => rfl
 | d :: ds, toks => by simp [dropD, dropD_len]
theorem XR.dropD {ds : List Nat} (h : XR B st E a gv w) (hds : ∀ d ∈ ds, isDfr st.toks[d]? = true) {w2 : World} (h1 : ∀ b, b ∉ ds.map E.blk → w2.heap[b]? = w.heap[b]?) (h2 : w2.heap.size = w.heap.size) (h3 : w2.os = w.os) (h4 : w2.tape = w.tape) (h5 : w2.output = w.output) :
  XR B { st with toks := Ax.dropD ds st.toks } E a gv w2 := by
 have hd : ∀ d ∈ ds, ∃ l, st.toks[d]? = some (.dfr l) := fun d hd => by
  have := hds d hd
  unfold isDfr at this
  split at this
  ·exact ⟨_, by assumption⟩
  ·simp at this
 have hnF : ∀ b, E.F b → b ∉ ds.map E.blk := fun b hb hm => by
  obtain ⟨d, hd1, rfl⟩ := List.mem_map.1 hm
  obtain ⟨l, hl⟩ := hd d hd1
  exact (h.live d _ hl (by simp)).2.2 hb
 have hF : Agree E.F w w2 := fun b hb => h1 b (hnF b hb)
 have hle : XLe w w2 E E := ⟨fun _ h => h, hF, Nat.le_refl _, fun _ _ => ⟨rfl, rfl⟩⟩
 have hnt : ∀ {t : Nat} {k : XT}, (Ax.dropD ds st.toks)[t]? = some k → k ≠ .none → st.toks[t]? = some k ∧ E.blk t ∉ ds.map E.blk := fun {t k} ht hk => by
  obtain ⟨g1, g2⟩ := dropD_get ht hk
  refine ⟨g2, fun hm => ?_⟩
  obtain ⟨d, hd1, e⟩ := List.mem_map.1 hm
  obtain ⟨l, hl⟩ := hd d hd1
  exact h.inj d t _ k hl g2 (by simp) hk (fun e => g1 (e ▸ hd1)) e
 refine ⟨by simp [dropD_len, h.n], h.top.mono hle, h.ghost.mono hle _ _, fun t k ht => ?_, fun t k ht hk => ?_, fun t t' k k' ht ht' hk hk' hne => h.inj t t' k k' (hnt ht hk).1 (hnt ht' hk').1 hk hk' hne, fun b hb => by rw [h2]; exact h.flt b hb, h.fz, h.gl.agree hF, ⟨h3.trans h.frame.os, h4.trans h.frame.tape, h5.trans h.frame.output, by rw [h2]; exact h.frame.size, fun b hb _ => (h1 b fun hm => ?_).trans (h.frame.block b hb id)⟩⟩
 ·by_cases hk : k = .none
  ·subst hk; trivial
  ·obtain ⟨g1, g2⟩ := hnt ht hk
   exact (h.tok t k g1).mono hle (h.lt g1) (h1 _ g2)
 ·have := h.live t k (hnt ht hk).1 hk
  exact ⟨this.1, by rw [h2]; exact this.2.1, this.2.2⟩
 ·obtain ⟨d, hd1, rfl⟩ := List.mem_map.1 hm
  obtain ⟨l, hl⟩ := hd d hd1
  have := (h.live d _ hl (by simp)).1
  omega
theorem xenter (hC : A.C.Ok P) (hm : P.follows .mixedOrders = true) (hcf : CFOk P cf) (hyf : YFOk P yf) {live : List Bool} {f : FuncId} {fn : Func} {c : Code} (hb : bodyX P f = some (fn, c)) {vs : List AV} {e : Exit} {s : XS} {r : AV} {st' : XS}
  (hx : xexec A cf yf live false c ⟨vs ++ List.replicate (fn.ntmps - vs.length) .junk, [], (st.slots, st.df) :: st.gh, st.toks⟩ = some (e, s)) (hback : backX A.C fn e s = some (r, st')) {vals : Array Value} (hs : XR B st E a gv w) (hv : XRepL w E vs vals.toList) :
  Calls P f vals w fun e w' => ∃ y E', e = .returned y ∧ XR B st' E' a gv w' ∧ XRep w' E' r y := by
 obtain ⟨h1, h2, h3⟩ := bodyX_ok hb
 have hlen : vals.size = vs.length := by simpa using hv.len
 refine (callsIn_wide (n := 0)).1 (callsIn_of_wp_marks h1 h2 trivial ?_)
 have hp := hs.push (s := vs ++ List.replicate (fn.ntmps - vs.length) .junk) (a' := { tmps := vals ++ Array.replicate (fn.ntmps - vals.size) undef, defers := [] }) (by
  rw [Array.toList_append, Array.toList_replicate, hlen]
  exact hv.app (XRepL.junks _ _)) rfl
 refine xexec_ok hC hm hcf hyf live none false (fun _ => rfl) c _ e s hx _ ?_ E _ w hp
 intro E' a' w' hs'
 unfold backX at hback
 split at hback
 rotate_left
 ·simp at hback
 rename_i hend
 obtain ⟨he, hnd, hdf⟩ := hend
 have hdf' : ∀ d ∈ s.df, isDfr s.toks[d]? = true := fun d hd => List.all_eq_true.1 hdf d hd
 split at hback
 rotate_left
 ·simp at hback
 rename_i rs sl d g hrs hgh
 simp only [Option.some.injEq, Prod.mk.injEq] at hback
 obtain ⟨rfl, rfl⟩ := hback
 have hdl : ∀ d ∈ s.df, ∃ l, s.toks[d]? = some (.dfr l) := fun d hd => by
  have := hdf' d hd
  unfold isDfr at this
  split at this
  ·exact ⟨_, by assumption⟩
  ·simp at this
 have hpost : LeavesInM Fence.wide 0 P fn a'.tmps (fun e w' => ∃ y E', e = .returned y ∧ XR B ⟨sl, d, g, dropD s.df s.toks⟩ E' a gv w' ∧ XRep w' E' (pack rs) y) a'.defers .returning w' := by
  have hdd : a'.defers = (s.df.map E'.blk).map fun D => ({ target := .collected D, args := #[] } : Deferred) := by rw [hs'.top.2.1, List.map_map]; rfl
  rw [hdd]
  refine leaves_marks (s.df.map E'.blk) w' ?_ (fun b hb => ?_) fun w2 n1 n2 n3 n4 n5 => ?_
  ·unfold List.Nodup
   rw [List.pairwise_map]
   refine List.Pairwise.imp_of_mem (fun {x y} hx hy hne hxy => ?_) hnd
   obtain ⟨l, hl⟩ := hdl x hx
   obtain ⟨l', hl'⟩ := hdl y hy
   exact hs'.inj x y _ _ hl hl' (by simp) (by simp) hne hxy
  ·obtain ⟨x, hx, rfl⟩ := List.mem_map.1 hb
   obtain ⟨l, hl⟩ := hdl x hx
   exact (hs'.tok x _ hl).1
  ·have hs2 := hs'.dropD hdf' n1 n2 n3 n4 n5
   obtain ⟨ys, k1, k2⟩ := xresL_ok hC hs2 _ _ hrs
   have hrun : (results fn a'.tmps).run P w2 = .ok (if h : ys.toArray.size = 1 then ys.toArray[0] else .tuple ys.toArray) w2 := by
    rw [results_eq, Sem.run_bind, Array.mapM_eq_mapM_toList, Sem.run_map, k1]
    rfl
   exact ⟨_, hrun, _, E', rfl, hs2.pop hgh, packX_ok k2⟩
 rcases isEnd_iff he with rfl | rfl
 ·exact hpost
 ·exact hpost
theorem xgo_ok (hC : A.C.Ok P) (hm : P.follows .mixedOrders = true) (hS : CFOk P A.S) : ∀ n, CFOk P (xgo P A n).1 ∧ YFOk P (xgo P A n).2
 | 0 => ⟨cfC_ok hC A.d, fun _ _ _ _ _ h => by simp [xgo] at h⟩
 | n + 1 => by
  obtain ⟨ih, iy⟩ := xgo_ok hC hm hS n
  refine ⟨?_, xyield_ok hC hm ih iy⟩
  intro f vs st r st' h
  simp only [xgo] at h
  split at h
  ·rename_i q hq
   simp only [Option.some.injEq] at h; subst h
   exact cfC_ok hC A.d f vs st r st' hq
  ·split at h
   ·rename_i q hq
    simp only [Option.some.injEq] at h; subst h
    exact hS f vs st r st' hq
   ·split at h
    ·rename_i live fn c hk hb
     split at h
     ·rename_i e s hx
      obtain ⟨h1, h2, h3⟩ := bodyX_ok hb
      exact ⟨⟨fn, h1, h3, by rw [h2]; rfl⟩, fun B E a gv w vals hs hv => xenter hC hm ih iy hb hx h hs hv⟩
     ·simp at h
    ·simp at h
theorem xcall_ok (hC : A.C.Ok P) (hm : P.follows .mixedOrders = true) (hS : CFOk P A.S) (n : Nat) : CFOk P (xcall P A n) := (xgo_ok hC hm hS n).1
end
end Go.Proofs.YtompijgfpeibnaaGreatDoor.Ax
