/-
 'append' to a row of which the shorter slice is read again: both of append's ways. No condition.
-/
import Derived.Test.YtompijgfpeibnaaGreatDoorCK4
import Derived.RangeFuncSeq
import Derived.Lib.AppendStr
import Derived.Lib.UnsafeStr
namespace Go.Proofs.YtompijgfpeibnaaGreatDoor.Ax
open Go Go.RowKit
def q_move (C : Ctx) (x : Operand) (slots : List AV) (toks : List Tok) : Option Out := some ⟨ev slots x, slots, toks⟩
def q_assign (C : Ctx) (x : Operand) (slots : List AV) (toks : List Tok) : Option Out := some ⟨ev slots x, slots, toks⟩
def q_pick (C : Ctx) (c a b : Operand) (slots : List AV) (toks : List Tok) : Option Out := (match ev slots c with
  | .v (.bool t) => some ⟨pickAV t (ev slots a) (ev slots b), slots, toks⟩
  | _ => none)
def q_binOp (C : Ctx) (op : BinOp) (t : TypeId) (x y : Operand) (slots : List AV) (toks : List Tok) : Option Out := (match ev slots x, ev slots y with
  | .v a, .v b => (match abin op a b with
   | some r => some ⟨.v r, slots, toks⟩
   | none => (match C.T t, op, a, b with
    | some ⟨.bool, _, _, _⟩, .eql, .bool p, .bool q => some ⟨.v (.bool (p == q)), slots, toks⟩
    | some ⟨.bool, _, _, _⟩, .neq, .bool p, .bool q => some ⟨.v (.bool (!(p == q))), slots, toks⟩
    | _, _, _, _ => none))
  | .agg cs, .agg ds => (match C.X t, cellInts cs, cellInts ds, op with
   | some n, some xs, some ys, .eql => if xs.length = n ∧ ys.length = n then some ⟨.v (.bool (decide (xs = ys))), slots, toks⟩ else none
   | some n, some xs, some ys, .neq => if xs.length = n ∧ ys.length = n then some ⟨.v (.bool (!decide (xs = ys))), slots, toks⟩ else none
   | _, _, _, _ => none)
  | _, .sl true _ [] => (match C.T t, nilAV toks (ev slots x), op with
   | some ⟨.slice _, _, _, _⟩, some b, .eql => some ⟨.v (.bool b), slots, toks⟩
   | some ⟨.slice _, _, _, _⟩, some b, .neq => some ⟨.v (.bool (!b)), slots, toks⟩
   | _, _, _ => none)
  | _, _ => none)
def q_convert (C : Ctx) (s d : TypeId) (x : Operand) (slots : List AV) (toks : List Tok) : Option Out := (match C.T s, C.T d with
  | some ts, some td => (match ts.desc, td.desc, res toks (ev slots x) with
   | _, .int k, .v (.int _ n) => some ⟨.v (.int k (k.wrap n)), slots, toks⟩
   | .slice el, .string, .sl _ sz es => (match C.T el, bytesOf es with
    | some te, some bs => (match te.desc with
     | .int .u8 => if sz = 1 then some ⟨.v (.string ⟨bs.toArray⟩), slots, toks⟩ else none
     | _ => none)
    | _, _ => none)
   | .string, .string, .v (.string b) => some ⟨.v (.string b), slots, toks⟩
   | _, _, _ => none)
  | _, _ => none)
def q_index (C : Ctx) (t : TypeId) (x ix : Operand) (slots : List AV) (toks : List Tok) : Option Out := (match C.T t, ev slots x, asNat (ev slots ix) with
  | some ti, .v (.string s), some i => (match ti.desc, s[i]? with
   | .string, some b => some ⟨.v (.int .u8 (b.toNat : Int)), slots, toks⟩
   | _, _ => none)
  | _, _, _ => none)
def q_unOp (C : Ctx) (op : UnOp) (x : Operand) (slots : List AV) (toks : List Tok) : Option Out := (match ev slots x with
  | .v a => (aun op a).map fun r => ⟨.v r, slots, toks⟩
  | _ => none)
def q_alloc (C : Ctx) (t : TypeId) (slots : List AV) (toks : List Tok) : Option Out := (match C.T t with
  | some ti => some ⟨.ptr toks.length [] 0 0, slots, toks ++ [⟨true, .sl false ti.size [ofV ti.zero]⟩]⟩
  | none => none)
def q_box (C : Ctx) (t : TypeId) (x : Operand) (slots : List AV) (toks : List Tok) : Option Out := (match C.T t with
  | some ti => if frz (ev slots x) ∧ (ev slots x).cells.length = ti.size then some ⟨.ptr toks.length [] 0 0, slots, toks ++ [⟨scal (ev slots x), .sl false ti.size [ev slots x]⟩]⟩
   else (match ownR toks (ev slots x) with
    | some q => if q.2.Nodup ∧ flat q.1.cells ∧ q.1.cells.length = ti.size then some ⟨.ptr toks.length [] 0 0, (drops slots toks q.2).1, (drops slots toks q.2).2 ++ [⟨true, .sl false ti.size [q.1]⟩]⟩ else none
    | none => none)
  | none => none)
def q_indexAddr (C : Ctx) (t : TypeId) (x ix : Operand) (slots : List AV) (toks : List Tok) : Option Out := (match C.T t, asNat (ev slots ix) with
  | some ti, some i => (match ti.desc, ev slots x with
   | .slice el, .sl _ sz es => (match C.T el, es[i]? with
    | some te, some e => if te.size = sz then some ⟨.fp e 0, slots, toks⟩ else none
    | _, _ => none)
   | .slice el, .ref k p lo n => (match C.T el, toks[k]? with
    | some te, some tk => (match getAt tk.row p with
     | .sl _ sz es => if te.size = sz ∧ i < n ∧ lo + n ≤ es.length then some ⟨.ptr k p (lo + i) 0, slots, toks⟩ else none
     | _ => none)
    | _, _ => none)
   | .array n el, .ptr k p q j => (match C.T el, toks[k]? with
    | some te, some tk => (match getAt tk.row p with
     | .sl _ _ es => if i < n ∧ q < es.length then some ⟨.ptr k p q (j + i * te.size), slots, toks⟩ else none
     | _ => none)
    | _, _ => none)
   | _, _ => none)
  | _, _ => none)
def q_load (C : Ctx) (t : TypeId) (a : Operand) (slots : List AV) (toks : List Tok) : Option Out := (match C.T t with
  | some ti => (match ev slots a with
   | .fp e j => if TypeDesc.aggB ti.desc then (match e with
      | .agg cs => if j = 0 ∧ cs.length = ti.size then some ⟨.agg cs, slots, toks⟩ else if j + ti.size ≤ cs.length then some ⟨.agg ((cs.drop j).take ti.size), slots, toks⟩ else none
      | _ => none)
     else (match e.cells[j]? with
      | some c => some ⟨c, slots, toks⟩
      | none => none)
   | .ptr k p i j => (match toks[k]? with
    | some tk => (match getAt tk.row p with
     | .sl _ _ es => (match es[i]? with
      | some e => if TypeDesc.aggB ti.desc then (match e with
         | .agg cs => if j = 0 ∧ cs.length = ti.size then some ⟨.agg (loadCells k p i 0 cs), slots, toks⟩ else if j + ti.size ≤ cs.length then some ⟨.agg (loadCells k p i j ((cs.drop j).take ti.size)), slots, toks⟩ else none
         | _ => none)
        else (match e.cells[j]? with
         | some c => some ⟨loadCell k p i j c, slots, toks⟩
         | none => none)
      | none => none)
     | _ => none)
    | none => none)
   | _ => none)
  | none => none)
def q_store (C : Ctx) (t : TypeId) (a x : Operand) (slots : List AV) (toks : List Tok) : Option Out := (match C.T t with
  | some ti => (match ev slots a with
   | .ptr k [] i j => (match toks[k]? with
    | some tk => (match tk.row with
     | .sl nl sz es => (match es[i]? with
      | some e => if scal (ev slots x) ∧ (ev slots x).cells.length = ti.size ∧ j + ti.size ≤ sz ∧ 0 < ti.size then
         some ⟨.junk, slots, toks.set k ⟨tk.deep, .sl nl sz (es.set i (putCells e j (ev slots x).cells))⟩⟩
        else if frz (ev slots x) ∧ (ev slots x).cells.length = ti.size ∧ j + ti.size ≤ sz ∧ 0 < ti.size then
         some ⟨.junk, slots.map (killN k), toks.set k ⟨tk.deep && nilS (ev slots x), .sl nl sz (es.set i (putCells e j (ev slots x).cells))⟩⟩
        else (match ownR toks (ev slots x) with
         | some q => if q.2.Nodup ∧ k ∉ q.2 ∧ flat q.1.cells ∧ q.1.cells.length = ti.size ∧ j + ti.size ≤ sz ∧ 0 < ti.size then
           some ⟨.junk, (drops slots toks q.2).1.map (killN k), (drops slots toks q.2).2.set k ⟨tk.deep, .sl nl sz (es.set i (putCells e j q.1.cells))⟩⟩ else none
         | none => none)
      | none => none)
     | _ => none)
    | none => none)
   | .ptr k p i j => (match toks[k]? with
    | some tk => (match getAt tk.row p with
     | .sl nl sz es => (match es[i]? with
      | some e => if tk.deep = true ∧ scal (ev slots x) = true ∧ (ev slots x).cells.length = ti.size ∧ j + ti.size ≤ sz ∧ 0 < ti.size then
         some ⟨.junk, slots.map (killN k), toks.set k ⟨true, setAt tk.row p (.sl nl sz (es.set i (putCells e j (ev slots x).cells)))⟩⟩ else none
      | none => none)
     | _ => none)
    | none => none)
   | _ => none)
  | none => none)
def q_fieldAddr (C : Ctx) (t : TypeId) (x : Operand) (f : Nat) (slots : List AV) (toks : List Tok) : Option Out := (match C.T t with
  | some ti => (match ti.desc with
   | .struct fields => (match fields[f]? with
    | some fd => (match C.T fd.type with
     | some tf => if 0 < tf.size then (match ev slots x with
       | .ptr k p i j => (match toks[k]? with
        | some tk => (match getAt tk.row p with
         | .sl _ _ es => if i < es.length then some ⟨.ptr k p i (j + fd.offset), slots, toks⟩ else none
         | _ => none)
        | none => none)
       | .fp e j => some ⟨.fp e (j + fd.offset), slots, toks⟩
       | _ => none) else none
     | none => none)
    | none => none)
   | _ => none)
  | none => none)
def q_slice (C : Ctx) (t : TypeId) (x : Operand) (lo hi : Option Operand) (slots : List AV) (toks : List Tok) : Option Out := (match C.T t with
  | some ti => (match ti.desc, ev slots x with
   | .slice el, .sl nl sz es => (match C.T el, bndOf slots 0 lo, bndOf slots es.length hi with
    | some te, some l, some h => if te.size = sz ∧ l ≤ h ∧ h ≤ es.length then some ⟨.sl nl sz (viewEs es l (h - l)), slots, toks⟩ else none
    | _, _, _ => none)
   | .slice el, .ref k p lo0 n => (match C.T el, bndOf slots 0 lo, bndOf slots n hi, toks[k]? with
    | some te, some l, some h, some tk => (match getAt tk.row p with
     | .sl _ sz es => if te.size = sz ∧ l ≤ h ∧ h ≤ n ∧ lo0 + n ≤ es.length then some ⟨.ref k p (lo0 + l) (h - l), slots, toks⟩ else none
     | _ => none)
    | _, _, _, _ => none)
   | .string, .v (.string s) => (match bndOf slots 0 lo, bndOf slots s.size hi with
    | some l, some h => if l ≤ h ∧ h ≤ s.size then some ⟨.v (.string (s.extract l h)), slots, toks⟩ else none
    | _, _ => none)
   | _, _ => none)
  | none => none)
def q_field (C : Ctx) (t : TypeId) (x : Operand) (f : Nat) (slots : List AV) (toks : List Tok) : Option Out := (match C.T t with
  | some ti => (match ti.desc with
   | .struct fields => (match fields[f]? with
    | some fd => (match C.T fd.type with
     | some tf => (match ev slots x with
      | .agg cs => if TypeDesc.aggB tf.desc then (if fd.offset + tf.size ≤ cs.length then some ⟨.agg ((cs.drop fd.offset).take tf.size), slots, toks⟩ else none)
        else (match cs[fd.offset]? with
         | some c => some ⟨c, slots, toks⟩
         | none => none)
      | _ => none)
     | none => none)
    | none => none)
   | _ => none)
  | none => none)
def q_extract (C : Ctx) (x : Operand) (i : Nat) (slots : List AV) (toks : List Tok) : Option Out := (match ev slots x with
  | .tup vs => (match vs[i]? with
   | some v => some ⟨v, slots, toks⟩
   | none => none)
  | _ => none)
def q_makeSlice (C : Ctx) (t : TypeId) (l c : Operand) (slots : List AV) (toks : List Tok) : Option Out := (match C.T t, asNat (ev slots l), asNat (ev slots c) with
  | some ti, some n, some n' => (match ti.desc with
   | .slice el => (match C.T el with
    | some te => if n = n' ∧ te.bytes * n ≤ 281474976710656 ∧ n ≤ 4611686018427387904 then some ⟨.ref toks.length [] 0 n, slots, toks ++ [⟨true, .sl false te.size (List.replicate n (ofV te.zero))⟩]⟩ else none
    | none => none)
   | _ => none)
  | _, _, _ => none)
def q_build (C : Ctx) (t : TypeId) (parts : Array (Nat × Operand)) (slots : List AV) (toks : List Tok) : Option Out := (match C.T t with
  | some ti => (match ti.desc with
   | .struct fields => if (parts.toList.all fun p => partOk toks (ev slots p.2)) = false ∨ (fields.toList.all fun f => (C.T f.type).isSome) = false then none else (bld C fields.toList (parts.toList.map fun p => (p.1, ev slots p.2)) (ofV ti.zero).cells).map fun cells => ⟨.agg cells, slots, toks⟩
   | _ => none)
  | none => none)
def q_buildSlice (C : Ctx) (t : TypeId) (len : Nat) (parts : Array (Nat × Operand)) (slots : List AV) (toks : List Tok) : Option Out := (match C.T t with
  | some ti => (match ti.desc with
   | .slice el => (match C.T el with
    | some te => if (parts.toList.map (·.1)) = List.range len ∧ 0 < te.size ∧ len * te.size ≤ 1000 then
      (match ownRL toks (parts.toList.map fun p => ev slots p.2) with
      | some q => if q.2.Nodup ∧ (C.W = true ∨ q.2 = []) ∧ (q.1.all fun v => decide (v.cells.length = te.size) && flat v.cells) = true then
        some ⟨.ref toks.length [] 0 len, (drops slots toks q.2).1, (drops slots toks q.2).2 ++ [⟨true, .sl false te.size q.1⟩]⟩ else none
      | none => if ((parts.toList.map fun p => ev slots p.2).all fun v => frz v && decide (v.cells.length = te.size)) = true then
        some ⟨.ref toks.length [] 0 len, slots, toks ++ [⟨false, .sl false te.size (parts.toList.map fun p => ev slots p.2)⟩]⟩
       else if C.W = true ∧ ((resL toks (parts.toList.map fun p => ev slots p.2)).all fun v => frz v && decide (v.cells.length = te.size)) = true then
        some ⟨.ref toks.length [] 0 len, (drops slots toks (refsL (parts.toList.map fun p => ev slots p.2))).1, (drops slots toks (refsL (parts.toList.map fun p => ev slots p.2))).2 ++ [⟨false, .sl false te.size (resL toks (parts.toList.map fun p => ev slots p.2))⟩]⟩ else none) else none
    | none => none)
   | _ => none)
  | none => none)
def q_call (C : Ctx) (c : Call) (slots : List AV) (toks : List Tok) : Option Out := (match c.callee with
  | .builtin .len => (match c.args.toList, c.argTypes.toList with
   | [x], [t] => (match C.T t with
    | some ti => (match ti.desc with
     | .slice _ => (lenAV toks (ev slots x)).map fun (n : Nat) => ⟨.v (.int .i64 (n : Int)), slots, toks⟩
     | .string => (match ev slots x with
      | .v (.string s) => some ⟨.v (.int .i64 (s.size : Int)), slots, toks⟩
      | _ => none)
     | _ => none)
    | none => none)
   | _, _ => none)
  | .builtin .append => alt (appO C c slots toks) (appU C c slots toks)
  | .builtin .cap => (match c.args.toList, c.argTypes.toList with
   | [x], [t] => (match C.T t, ev slots x with
    | some ti, .sl true _ [] => (match ti.desc with
     | .slice _ => some ⟨.v (.int .i64 0), slots, toks⟩
     | _ => none)
    | _, _ => none)
   | _, _ => none)
  | .builtin .copy => (match c.args.toList, c.argTypes.toList with
   | [x, y], [t, _] => (match C.T t, ev slots x, res toks (ev slots y) with
    | some ti, .ref k [] lo n, .sl _ sz' ys => (match ti.desc, toks[k]? with
     | .slice el, some tk => (match C.T el, tk.row with
      | some te, .sl nl sz es => if sz = te.size ∧ sz' = te.size ∧ 0 < te.size ∧ lo + n ≤ es.length ∧ allS es = true ∧ allS ys = true then
        some ⟨.v (.int .i64 ((min ys.length n : Nat) : Int)), slots.map (killN k), toks.set k ⟨tk.deep, .sl nl sz (es.take lo ++ ys.take (min ys.length n) ++ es.drop (lo + min ys.length n))⟩⟩ else none
      | _, _ => none)
     | _, _ => none)
    | _, _, _ => none)
   | _, _ => none)
  | .builtin .max => (match c.args.toList with
   | [x, y] => (match ev slots x, ev slots y with
    | .v (.int k a), .v (.int _ b) => some ⟨.v (.int k (max a b)), slots, toks⟩
    | _, _ => none)
   | _ => none)
  | .builtin .min => (match c.args.toList with
   | [x, y] => (match ev slots x, ev slots y with
    | .v (.int k a), .v (.int _ b) => some ⟨.v (.int k (min a b)), slots, toks⟩
    | _, _ => none)
   | _ => none)
  | .value f => (match ev slots f with
   | .fn g caps => (match C.G g (c.args.toList.map (fun x => res toks (ev slots x)) ++ resL toks caps) with
    | some r => some ⟨(intern toks r).1, slots, (intern toks r).2⟩
    | none => alt (mutCall slots toks (c.args.toList.map (ev slots)) caps (C.M g (c.args.toList.map (fun x => res toks (ev slots x)) ++ resL toks caps)))
      (alt (movCall slots toks (c.args.toList.map (ev slots)) caps (C.V g (c.args.toList.map (fun x => res toks (ev slots x)) ++ resL toks caps)))
       (frzCall slots toks (refsL (c.args.toList.map (ev slots)) ++ refsL caps) (C.H g (c.args.toList.map (fun x => res toks (ev slots x)) ++ resL toks caps)))))
   | _ => none)
  | _ => none)
def aopQ (C : Ctx) (op : Op) (slots : List AV) (toks : List Tok) : Option Out :=
 match op with
 | .move x => q_move C x slots toks
 | .assign x => q_assign C x slots toks
 | .pick c a b => q_pick C c a b slots toks
 | .binOp op t x y _ => q_binOp C op t x y slots toks
 | .convert s d x => q_convert C s d x slots toks
 | .index t x ix => q_index C t x ix slots toks
 | .unOp op _ x => q_unOp C op x slots toks
 | .alloc t => q_alloc C t slots toks
 | .box t x => q_box C t x slots toks
 | .indexAddr t x ix => q_indexAddr C t x ix slots toks
 | .load t a => q_load C t a slots toks
 | .store t a x => q_store C t a x slots toks
 | .fieldAddr t x f => q_fieldAddr C t x f slots toks
 | .slice t x lo hi none => q_slice C t x lo hi slots toks
 | .field t x f => q_field C t x f slots toks
 | .extract x i => q_extract C x i slots toks
 | .makeSlice t l c => q_makeSlice C t l c slots toks
 | .build t parts => q_build C t parts slots toks
 | .buildSlice t len parts => q_buildSlice C t len parts slots toks
 | .call c => q_call C c slots toks
 | op => aop C op slots toks
theorem aopQ_eq {C : Ctx} {op : Op} {slots : List AV} {toks : List Tok} : aopQ C op slots toks = aop C op slots toks := by
 cases op <;> first | rfl | (rename_i m; cases m <;> rfl)
def rstepQ (C : Ctx) (ops : List Oper) (o : Oper) (st : ASt) : Option ASt :=
 match guardOk ops st.slots o with
 | some g => if g then (aopQ C o.op st.slots st.toks).map fun r => ⟨putD r.slots o.dst r.val, r.toks⟩ else some ⟨putD st.slots o.dst (.tup []), st.toks⟩
 | none => none
theorem rstepQ_eq {C : Ctx} {ops : List Oper} {o : Oper} {st : ASt} : rstepQ C ops o st = rstep C ops o st := by
 unfold rstepQ rstep
 simp only [aopQ_eq]
 cases guardOk ops st.slots o <;> rfl
def rrunQ (C : Ctx) (ops : List Oper) : List Oper → ASt → Option ASt
 | [], st => some st
 | o :: rest, st => (match rstepQ C ops o st with
  | some st' => rrunQ C ops rest st'
  | none => none)
theorem rrunQ_eq {C : Ctx} {ops : List Oper} : ∀ {l : List Oper} {st : ASt}, rrunQ C ops l st = rrun C ops l st
 | [], _ => rfl
 | o :: l, st => by
  unfold rrunQ rrun
  rw [rstepQ_eq]
  cases rstep C ops o st with
  | none => rfl
  | some s => exact rrunQ_eq (l := l) (st := s)
def rstepDQ (C : Ctx) (ops : List Oper) (L off c : Nat) (o : Oper) (st : ASt) : Option ASt :=
 match guardOk ops st.slots o with
 | some g => if g then outDr L off c o.dst (aopQ C o.op st.slots st.toks) else some ⟨putD st.slots o.dst (.tup []), st.toks⟩
 | none => none
theorem rstepDQ_eq {C : Ctx} {ops : List Oper} {L off c : Nat} {o : Oper} {st : ASt} : rstepDQ C ops L off c o st = rstepD C ops L off c o st := by
 unfold rstepDQ rstepD
 simp only [aopQ_eq]
 cases guardOk ops st.slots o <;> rfl
def rrunDQ (C : Ctx) (ops : List Oper) (d : RD) (L : Nat) : List Oper → Nat → Nat → List Nat → List (Option (List Nat)) → ASt → Option ASt
 | [], _, _, _, _, st => some st
 | o :: l, i, off, cs, tr, st => match rstepDQ (if d.wr.contains i then C else noM C) ops L off (cs.headD 0) o st with
  | some st' => if needs i d.prs then (if chk tr i (stR st.slots o.op (guardOk ops st.slots o)) d.prs then rrunDQ C ops d L l (i + 1) (off + cs.headD 0) cs.tail (tr ++ [stR st.slots o.op (guardOk ops st.slots o)]) st' else none)
    else rrunDQ C ops d L l (i + 1) (off + cs.headD 0) cs.tail (tr ++ [none]) st'
  | none => none
theorem rrunDQ_eq {C : Ctx} {ops : List Oper} {d : RD} {L : Nat} : ∀ {l : List Oper} {i off : Nat} {cs : List Nat} {tr : List (Option (List Nat))} {st : ASt}, rrunDQ C ops d L l i off cs tr st = rrunD C ops d L l i off cs tr st
 | [], _, _, _, _, _ => rfl
 | o :: l, i, off, cs, tr, st => by
  unfold rrunDQ rrunD
  rw [rstepDQ_eq]
  cases rstepD (if d.wr.contains i then C else noM C) ops L off (cs.headD 0) o st with
  | none => rfl
  | some s => simp only [rrunDQ_eq (l := l)]
def regrunQ (C : Ctx) (dt : List (Nat × RD)) (id : Nat) (ops : List Oper) : Bool → ASt → Option ASt
 | false, st => rrunQ C ops ops st
 | true, st => rrunDQ C ops (dtGet dt id) (st.toks.length + (dtGet dt id).cs.sum) ops 0 st.toks.length (dtGet dt id).cs [] ⟨st.slots, st.toks ++ List.replicate (dtGet dt id).cs.sum ⟨true, .junk⟩⟩
theorem regrunQ_eq {C : Ctx} {dt : List (Nat × RD)} {id : Nat} {ops : List Oper} {b : Bool} {st : ASt} : regrunQ C dt id ops b st = regrun C dt id ops b st := by
 cases b
 ·exact rrunQ_eq
 ·exact rrunDQ_eq
open Go Go.RowKit
section
variable {β : Type}
def fNat (n : Nat) (k : Nat → β) : β := Nat.rec (motive := fun _ => β) (k 0) (fun m _ => k (m + 1)) n
theorem fNat_eq {n : Nat} {k : Nat → β} : fNat n k = k n := by cases n <;> rfl
def fInt (n : Int) (k : Int → β) : β := match n with
 | .ofNat m => fNat m fun m => k (.ofNat m)
 | .negSucc m => fNat m fun m => k (.negSucc m)
theorem fInt_eq {n : Int} {k : Int → β} : fInt n k = k n := by cases n <;> simp [fInt, fNat_eq]
def fBool (b : Bool) (k : Bool → β) : β := match b with
 | true => k true
 | false => k false
theorem fBool_eq {b : Bool} {k : Bool → β} : fBool b k = k b := by cases b <;> rfl
def fBys : List UInt8 → (List UInt8 → β) → β
 | [], k => k []
 | b :: l, k => fNat b.toNat fun n => fBys l fun l => k (UInt8.ofNat n :: l)
theorem fBys_eq : ∀ {l : List UInt8} {k : List UInt8 → β}, fBys l k = k l
 | [], _ => rfl
 | b :: l, k => by simp [fBys, fNat_eq, fBys_eq (l := l)]
def fVal (x : Value) (k : Value → β) : β := match x with
 | .int i n => fInt n fun n => k (.int i n)
 | .bool b => fBool b fun b => k (.bool b)
 | .string s => fBys s.data.toList fun l => k (.string ⟨⟨l⟩⟩)
 | x => k x
theorem fVal_eq {x : Value} {k : Value → β} : fVal x k = k x := by
 cases x <;> simp [fVal, fInt_eq, fBool_eq, fBys_eq]
def fPth : List (Nat × Nat) → (List (Nat × Nat) → β) → β
 | [], k => k []
 | (a, b) :: l, k => fNat a fun a => fNat b fun b => fPth l fun l => k ((a, b) :: l)
theorem fPth_eq : ∀ {l : List (Nat × Nat)} {k : List (Nat × Nat) → β}, fPth l k = k l
 | [], _ => rfl
 | (a, b) :: l, k => by simp [fPth, fNat_eq, fPth_eq (l := l)]
mutual
def fAV : AV → (AV → β) → β
 | .v x, k => fVal x fun x => k (.v x)
 | .agg l, k => fAVs l fun l => k (.agg l)
 | .tup l, k => fAVs l fun l => k (.tup l)
 | .sl b n l, k => fBool b fun b => fNat n fun n => fAVs l fun l => k (.sl b n l)
 | .fp e j, k => fAV e fun e => fNat j fun j => k (.fp e j)
 | .fn f l, k => fNat f fun f => fAVs l fun l => k (.fn f l)
 | .ref t p a b, k => fNat t fun t => fPth p fun p => fNat a fun a => fNat b fun b => k (.ref t p a b)
 | .ptr t p a b, k => fNat t fun t => fPth p fun p => fNat a fun a => fNat b fun b => k (.ptr t p a b)
 | .junk, k => k .junk
def fAVs : List AV → (List AV → β) → β
 | [], k => k []
 | x :: l, k => fAV x fun x => fAVs l fun l => k (x :: l)
end
mutual
theorem fAV_eq : ∀ (x : AV) (k : AV → β), fAV x k = k x
 | .v x, k => by simp [fAV, fVal_eq]
 | .agg l, k => by simp [fAV, fAVs_eq l]
 | .tup l, k => by simp [fAV, fAVs_eq l]
 | .sl b n l, k => by simp [fAV, fBool_eq, fNat_eq, fAVs_eq l]
 | .fp e j, k => by simp [fAV, fNat_eq, fAV_eq e]
 | .fn f l, k => by simp [fAV, fNat_eq, fAVs_eq l]
 | .ref t p a b, k => by simp [fAV, fNat_eq, fPth_eq]
 | .ptr t p a b, k => by simp [fAV, fNat_eq, fPth_eq]
 | .junk, k => by simp [fAV]
theorem fAVs_eq : ∀ (l : List AV) (k : List AV → β), fAVs l k = k l
 | [], k => by simp [fAVs]
 | x :: l, k => by simp [fAVs, fAV_eq x, fAVs_eq l]
end
def fToks : List Tok → (List Tok → β) → β
 | [], k => k []
 | t :: l, k => fBool t.deep fun d => fAV t.row fun r => fToks l fun l => k (⟨d, r⟩ :: l)
theorem fToks_eq : ∀ {l : List Tok} {k : List Tok → β}, fToks l k = k l
 | [], _ => rfl
 | t :: l, k => by simp [fToks, fBool_eq, fAV_eq, fToks_eq (l := l)]
def fW (x : AV) (k : AV → β) : β := match x with
 | .v y => fVal y fun y => k (.v y)
 | .junk => k .junk
 | .ref t p a b => fNat t fun t => fNat b fun b => k (.ref t p a b)
 | .ptr t p a b => fNat t fun t => fNat a fun a => k (.ptr t p a b)
 | .sl b n l => k (.sl b n l)
 | .fp e j => fNat j fun j => k (.fp e j)
 | x => fAV x k
theorem fW_eq {x : AV} {k : AV → β} : fW x k = k x := by cases x <;> simp [fW, fNat_eq, fAV_eq, fVal_eq]
def fWs : List AV → (List AV → β) → β
 | [], k => k []
 | x :: l, k => fW x fun x => fWs l fun l => k (x :: l)
theorem fWs_eq : ∀ {l : List AV} {k : List AV → β}, fWs l k = k l
 | [], _ => rfl
 | x :: l, k => by simp [fWs, fW_eq, fWs_eq (l := l)]
def fRw (x : AV) (k : AV → β) : β := match x with
 | .sl b n l => fWs l fun l => k (.sl b n l)
 | x => fW x k
theorem fRw_eq {x : AV} {k : AV → β} : fRw x k = k x := by cases x <;> simp [fRw, fWs_eq, fW_eq]
def fTw : List Tok → (List Tok → β) → β
 | [], k => k []
 | t :: l, k => fBool t.deep fun d => fRw t.row fun r => fTw l fun l => k (⟨d, r⟩ :: l)
theorem fTw_eq : ∀ {l : List Tok} {k : List Tok → β}, fTw l k = k l
 | [], _ => rfl
 | t :: l, k => by simp [fTw, fBool_eq, fRw_eq, fTw_eq (l := l)]
def quiet (ops : List Oper) : Bool := ops.all fun o => match o.op with
 | .move _ => true
 | .assign _ => true
 | .pick _ _ _ => true
 | .binOp _ _ _ _ _ => true
 | .unOp _ _ _ => true
 | .load _ _ => true
 | .indexAddr _ _ _ => true
 | .fieldAddr _ _ _ => true
 | .slice _ _ _ _ _ => true
 | .index _ _ _ => true
 | .convert _ _ _ => true
 | .call c => (match c.callee with
  | .builtin .len => true
  | _ => false)
 | _ => false
def fTk : List Tok → (List Tok → β) → β
 | [], k => k []
 | ⟨d, r⟩ :: l, k => fTk l fun l => k (⟨d, r⟩ :: l)
theorem fTk_eq : ∀ {l : List Tok} {k : List Tok → β}, fTk l k = k l
 | [], _ => rfl
 | ⟨d, r⟩ :: l, k => by simp [fTk, fTk_eq (l := l)]
def fStO (ops : List Oper) (s : ASt) (k : ASt → β) : β := match quiet ops with
 | true => fWs s.slots fun a => fTk s.toks fun b => k ⟨a, b⟩
 | false => fWs s.slots fun a => fTw s.toks fun b => k ⟨a, b⟩
theorem fStO_eq {ops : List Oper} {s : ASt} {k : ASt → β} : fStO ops s k = k s := by
 unfold fStO
 split
 ·simp [fWs_eq, fTk_eq]
 ·simp [fWs_eq, fTw_eq]
end
structure Fi where
 live : List Bool
 dt : List (Nat × RD)
 fz : List (Nat × List Nat)
def fzL (I : Fi) (id : Nat) : List Nat := match I.fz.find? fun p => p.1 == id with
 | some p => p.2
 | none => []
def fzS (I : Fi) (id : Nat) (st : ASt) : ASt := match fzL I id with
 | [] => st
 | l => freeze (once [] (refsL (l.map fun i => st.slots.getD i .junk))) st
def iter : Nat → (ASt → Option (Exit × ASt)) → ASt → Option (Exit × ASt)
 | 0, _, _ => none
 | n + 1, F, st => match F st with
  | some (.normal, s) => iter n F s
  | r => r
def exC (C : Ctx) (I : Fi) (n : Nat) : Code → ASt → Option (Exit × ASt)
 | .skip, st => some (.normal, st)
 | .exit id, st => some (.exit id, st)
 | .ret, st => some (.ret, st)
 | .seq x y, st => (match exC C I n x st with
  | some (.normal, s) => exC C I n y s
  | r => r)
 | .cond c x y, st => (match ev st.slots c with
  | .v (.bool true) => exC C I n x st
  | .v (.bool false) => exC C I n y st
  | _ => none)
 | .block id x, st => (match exC C I n x st with
  | some (.exit id', s) => if id' = id then some (.normal, s) else some (.exit id', s)
  | r => r)
 | .region id ops d, st => (match regrunQ C I.dt id ops.toList d (fzS I id st) with
  | some f => fStO ops.toList (clean I.live f) fun s => some (.normal, s)
  | none => none)
 | .loop x, st => iter n (exC C I n x) st
 | _, _ => none
section
variable {P : Program} {C : Ctx} {U : Ld} {w0 : World}
theorem tr_iter {c : Code} {F : ASt → Option (Exit × ASt)} (hF : ∀ st e s, F st = some (e, s) → ∀ Q : Exit → ASt → Prop, Q e s → Tr P U w0 c st Q) (n : Nat) (st : ASt) (e : Exit) (s : ASt) (h : iter n F st = some (e, s)) (Q : Exit → ASt → Prop) (hq : Q e s) : Tr P U w0 (.loop c) st Q := by
 intro hc E a w hs K hK
 simp only [codeOk] at hc
 have key : ∀ (n : Nat) (st : ASt), iter n F st = some (e, s) → ∀ (E : Env) (a : Act) (w : World), SR U w0 st E a w → Code.roundsIn (fen U.ro) 0 P c K n a w := by
  intro n
  induction n with
  | zero => intro st h; simp [iter] at h
  | succ n ih =>
   intro st h E a w hs
   unfold iter at h
   simp only [Code.roundsIn]
   cases hf : F st with
   | none => rw [hf] at h; simp at h
   | some p =>
    obtain ⟨e1, s1⟩ := p
    rw [hf] at h
    refine hF st e1 s1 hf (fun e2 s2 => e2 = e1 ∧ s2 = s1) ⟨rfl, rfl⟩ hc E a w hs _ ?_
    rintro e2 s2 E' a' w' ⟨rfl, rfl⟩ hs'
    cases e2 with
    | normal => exact ih s2 h E' a' w' hs'
    | _ =>
     simp only [Option.some.injEq, Prod.mk.injEq] at h
     obtain ⟨rfl, rfl⟩ := h
     exact hK _ _ E' a' w' hq hs'
 exact wpIn_loop_rounds n (key n st h E a w hs)
theorem le_fz {I : Fi} {id : Nat} {st : ASt} : Le U w0 st (fzS I id st) := by
 unfold fzS
 split
 ·exact fun E a w h => ⟨E, h⟩
 ·exact le_freeze _
theorem tr_exC (hC : C.Ok P) (hm : P.follows .mixedOrders = true) {I : Fi} (hU : U.dt = I.dt) {n : Nat} : ∀ (c : Code) (st : ASt) (e : Exit) (s : ASt), exC C I n c st = some (e, s) → ∀ Q : Exit → ASt → Prop, Q e s → Tr P U w0 c st Q
 | .skip, st, e, s, h, Q, hq => by
  simp only [exC, Option.some.injEq, Prod.mk.injEq] at h
  obtain ⟨rfl, rfl⟩ := h
  exact tr_skip hq
 | .exit id, st, e, s, h, Q, hq => by
  simp only [exC, Option.some.injEq, Prod.mk.injEq] at h
  obtain ⟨rfl, rfl⟩ := h
  exact tr_exit hq
 | .ret, st, e, s, h, Q, hq => by
  simp only [exC, Option.some.injEq, Prod.mk.injEq] at h
  obtain ⟨rfl, rfl⟩ := h
  exact tr_ret hq
 | .seq x y, st, e, s, h, Q, hq => by
  simp only [exC] at h
  refine tr_seq ?_
  cases hx : exC C I n x st with
  | none => rw [hx] at h; simp at h
  | some p =>
   obtain ⟨e1, s1⟩ := p
   rw [hx] at h
   refine tr_exC hC hm hU x st e1 s1 hx _ ?_
   cases e1 with
   | normal => exact tr_exC hC hm hU y s1 e s h Q hq
   | _ =>
    simp only [Option.some.injEq, Prod.mk.injEq] at h
    obtain ⟨rfl, rfl⟩ := h
    exact hq
 | .cond c x y, st, e, s, h, Q, hq => by
  simp only [exC] at h
  split at h
  ·rename_i hc
   exact tr_cond (t := true) hc (fun _ => tr_exC hC hm hU x st e s h Q hq) (fun h => by cases h)
  ·rename_i hc
   exact tr_cond (t := false) hc (fun h => by cases h) (fun _ => tr_exC hC hm hU y st e s h Q hq)
  ·simp at h
 | .block id x, st, e, s, h, Q, hq => by
  simp only [exC] at h
  refine tr_block ?_
  cases hx : exC C I n x st with
  | none => rw [hx] at h; simp at h
  | some p =>
   obtain ⟨e1, s1⟩ := p
   rw [hx] at h
   refine tr_exC hC hm hU x st e1 s1 hx _ ?_
   cases e1 with
   | exit id' =>
    simp only at h
    show if id' = id then Q .normal s1 else Q (.exit id') s1
    by_cases he : id' = id
    ·rw [if_pos he] at h ⊢
     simp only [Option.some.injEq, Prod.mk.injEq] at h
     obtain ⟨rfl, rfl⟩ := h
     exact hq
    ·rw [if_neg he] at h ⊢
     simp only [Option.some.injEq, Prod.mk.injEq] at h
     obtain ⟨rfl, rfl⟩ := h
     exact hq
   | _ =>
    simp only [Option.some.injEq, Prod.mk.injEq] at h
    obtain ⟨rfl, rfl⟩ := h
    exact hq
 | .region id ops d, st, e, s, h, Q, hq => by
  simp only [exC] at h
  split at h
  ·rename_i f hf
   rw [fStO_eq] at h
   simp only [Option.some.injEq, Prod.mk.injEq] at h
   obtain ⟨rfl, rfl⟩ := h
   rw [regrunQ_eq] at hf
   refine Tr.pre (st' := fzS I id st) (tr_awp (live := I.live) hC hm (.region id ops d) _ _ ⟨f, ?_, hq⟩) le_fz
   rw [hU]; exact hf
  ·simp at h
 | .loop x, st, e, s, h, Q, hq => by
  simp only [exC] at h
  exact tr_iter (fun st e s h Q hq => tr_exC hC hm hU x st e s h Q hq) n st e s h Q hq
 | .rangeFunc _ _ _ _, _, _, _, h, _, _ => by simp [exC] at h
 | .scope _, _, _, _, h, _, _ => by simp [exC] at h
 | .label _, _, _, _, h, _, _ => by simp [exC] at h
 | .goto _, _, _, _, h, _, _ => by simp [exC] at h
 | .refuse _, _, _, _, h, _, _ => by simp [exC] at h
end
inductive Kd where
 | g
 | h
 | o
 | m (pos : Nat)
 | v (mv : List Nat)
structure An where
 T : TypeId → Option TI
 X : TypeId → Option Nat
 L : FuncId → List AV → Option AV
 LM : FuncId → List AV → Option (Nat × AV × AV)
 LV : FuncId → List AV → Option (List Nat × AV)
 LH : FuncId → List AV → Option (Bool × AV)
 K : FuncId → Option (Kd × Fi)
 loops : Nat
def bodyOf (P : Program) (I : Fi) (L : List Nat) (f : FuncId) : Option (Func × Code) := match P.funcs[f]? with
 | some fn => (match fn.body with
  | some c => if (fn.name == "runtime.NumGoroutine") = false ∧ codeOk I.dt L c = true then some (fn, c) else none
  | none => none)
 | none => none
def isEnd : Exit → Bool
 | .normal => true
 | .ret => true
 | _ => false
def goG (P : Program) (A : An) (C : Ctx) (I : Fi) (f : FuncId) (args : List AV) : Option AV := match bodyOf P I [] f with
 | some (fn, c) => (match exC C I A.loops c ⟨args ++ List.replicate (fn.ntmps - args.length) .junk, []⟩ with
  | some (e, s) => if isEnd e then (match resVars C s fn.results.toList with
   | some q => if q.2.Nodup then some (pack q.1) else none
   | none => none) else none
  | none => none)
 | none => none
def goH (P : Program) (A : An) (C : Ctx) (I : Fi) (f : FuncId) (args : List AV) : Option AV := match bodyOf P I [] f with
 | some (fn, c) => (match exC C I A.loops c ⟨args ++ List.replicate (fn.ntmps - args.length) .junk, []⟩ with
  | some (e, s) => if isEnd e then (resVarsF C s fn.results.toList).map pack else none
  | none => none)
 | none => none
def goM (P : Program) (A : An) (C : Ctx) (I : Fi) (pos : Nat) (f : FuncId) (args : List AV) : Option (AV × AV) := match args[pos]?, bodyOf P I [pos] f with
 | some (.sl nl sz es), some (fn, c) => (match exC C I A.loops c ⟨args.set pos (.ref 0 [] 0 es.length) ++ List.replicate (fn.ntmps - args.length) .junk, [⟨true, .sl nl sz es⟩]⟩ with
  | some (e, s) => if isEnd e then (match resM C s fn.results.toList pos with
   | some (r, .sl nl' sz' es') => if nl' = nl ∧ sz' = sz then some (r, .sl nl sz es') else none
   | _ => none) else none
  | none => none)
 | _, _ => none
def goV (P : Program) (A : An) (C : Ctx) (I : Fi) (mv : List Nat) (f : FuncId) (args : List AV) : Option AV := match bodyOf P I [] f with
 | some (fn, c) => (match exC C I A.loops c ⟨setSl mv (internL [] (mv.map fun i => args.getD i .junk)).1 args ++ List.replicate (fn.ntmps - args.length) .junk, (internL [] (mv.map fun i => args.getD i .junk)).2⟩ with
  | some (e, s) => if isEnd e then (match resVars C s fn.results.toList with
   | some q => if q.2.Nodup then some (pack q.1) else none
   | none => none) else none
  | none => none)
 | none => none
def ctxR (P : Program) (A : An) : Nat → Ctx
 | 0 => ⟨A.T, A.X, A.L, A.LM, A.LV, A.LH, true⟩
 | n + 1 => ⟨A.T, A.X,
  fun f args => (match A.K f with
   | some (.g, I) => goG P A (ctxR P A n) I f args
   | _ => A.L f args),
  fun f args => (match A.K f with
   | some (.m pos, I) => (match goM P A (ctxR P A n) I pos f args with
    | some (r, row) => some (pos, r, row)
    | none => none)
   | _ => A.LM f args),
  fun f args => (match A.K f with
   | some (.v mv, I) => (match goV P A (ctxR P A n) I mv f args with
    | some r => some (mv, r)
    | none => none)
   | _ => A.LV f args),
  fun f args => (match A.K f with
   | some (.h, I) => (match goH P A (ctxR P A n) I f args with
    | some r => some (true, r)
    | none => none)
   | some (.o, I) => (match goG P A (ctxR P A n) I f args with
    | some r => some (false, r)
    | none => none)
   | _ => A.LH f args), true⟩
def runG (P : Program) (A : An) (n : Nat) : FuncId → List AV → Option AV := (ctxR P A n).G
theorem isEnd_iff {e : Exit} (h : isEnd e = true) : e = .normal ∨ e = .ret := by
 cases e <;> simp_all [isEnd]
theorem bodyOf_ok {P : Program} {I : Fi} {L : List Nat} {f : FuncId} {fn : Func} {c : Code} (h : bodyOf P I L f = some (fn, c)) : P.funcs[f]? = some fn ∧ fn.body = some c ∧ (fn.name == "runtime.NumGoroutine") = false ∧ codeOk I.dt L c = true := by
 unfold bodyOf at h
 split at h
 ·rename_i g hg
  split at h
  ·rename_i c' hc
   split at h
   ·rename_i hh
    simp only [Option.some.injEq, Prod.mk.injEq] at h
    obtain ⟨rfl, rfl⟩ := h
    exact ⟨hg, hc, hh.1, hh.2⟩
   ·simp at h
  ·simp at h
 ·simp at h
section
variable {P : Program} {A : An} {C : Ctx} {I : Fi} {f : FuncId} {args : List AV} {r : AV}
theorem goG_ok (hC : C.Ok P) (hm : P.follows .mixedOrders = true) (h : goG P A C I f args = some r) : CallOk P f args r := by
 unfold goG at h
 split at h
 ·rename_i fn c hb
  obtain ⟨h1, h2, h3, h4⟩ := bodyOf_ok hb
  split at h
  ·rename_i e s hx
   split at h
   ·rename_i he
    exact callOk_of_tr hC h1 h2 h3 h4 fun w0 => tr_exC (U := noLd I.dt) hC hm rfl c _ e s hx _ ⟨isEnd_iff he, h⟩
   ·simp at h
  ·simp at h
 ·simp at h
theorem goH_ok (hC : C.Ok P) (hm : P.follows .mixedOrders = true) (h : goH P A C I f args = some r) : FrzOk P f args true r := by
 unfold goH at h
 split at h
 ·rename_i fn c hb
  obtain ⟨h1, h2, h3, h4⟩ := bodyOf_ok hb
  split at h
  ·rename_i e s hx
   split at h
   ·rename_i he
    exact frzOk_of_tr hC h1 h2 h3 h4 fun B w0 => tr_exC (U := frzLd B I.dt) hC hm rfl c _ e s hx _ ⟨isEnd_iff he, h⟩
   ·simp at h
  ·simp at h
 ·simp at h
theorem goM_ok (hC : C.Ok P) (hm : P.follows .mixedOrders = true) {pos : Nat} {row : AV} (h : goM P A C I pos f args = some (r, row)) : MutOk P f args pos r row := by
 unfold goM at h
 split at h
 ·rename_i nl sz es fn c hp hb
  obtain ⟨h1, h2, h3, h4⟩ := bodyOf_ok hb
  split at h
  ·rename_i e s hx
   split at h
   ·rename_i he
    split at h
    ·rename_i r' nl' sz' es' hr
     split at h
     ·rename_i hh
      simp only [Option.some.injEq, Prod.mk.injEq] at h
      obtain ⟨rfl, rfl⟩ := h
      obtain ⟨rfl, rfl⟩ := hh
      exact mutOk_of_tr false hC hp h1 h2 h3 h4 fun US Uv w0 _ => tr_exC (U := mkLdN false US [pos] Uv I.dt) hC hm rfl c _ e s hx _ ⟨isEnd_iff he, hr⟩
     ·simp at h
    ·simp at h
   ·simp at h
  ·simp at h
 ·simp at h
theorem goV_ok (hC : C.Ok P) (hm : P.follows .mixedOrders = true) {mv : List Nat} (h : goV P A C I mv f args = some r) : MovOk P f args mv r := by
 unfold goV at h
 split at h
 ·rename_i fn c hb
  obtain ⟨h1, h2, h3, h4⟩ := bodyOf_ok hb
  split at h
  ·rename_i e s hx
   split at h
   ·rename_i he
    exact movOk_of_tr hC h1 h2 h3 h4 fun US w0 _ => tr_exC (U := mkLd US [] undef I.dt) hC hm rfl c _ e s hx _ ⟨isEnd_iff he, h⟩
   ·simp at h
  ·simp at h
 ·simp at h
structure An.Ok (P : Program) (A : An) : Prop where
 T : ∀ t ti, A.T t = some ti → TOk P t ti
 X : ∀ t n, A.X t = some n → EqOk P t n
 L : ∀ f args r, A.L f args = some r → CallOk P f args r
 LM : ∀ f args pos r row, A.LM f args = some (pos, r, row) → MutOk P f args pos r row
 LV : ∀ f args mv r, A.LV f args = some (mv, r) → MovOk P f args mv r
 LH : ∀ f args sh r, A.LH f args = some (sh, r) → FrzOk P f args sh r
theorem ctxR_ok (hA : A.Ok P) (hm : P.follows .mixedOrders = true) : ∀ n, (ctxR P A n).Ok P
 | 0 => ⟨hA.T, hA.X, hA.L, hA.LM, hA.LV, hA.LH⟩
 | n + 1 => by
  have ih := ctxR_ok hA hm n
  refine ⟨hA.T, hA.X, fun f args r h => ?_, fun f args pos r row h => ?_, fun f args mv r h => ?_, fun f args sh r h => ?_⟩
  ·simp only [ctxR] at h
   split at h
   ·exact goG_ok ih hm h
   ·exact hA.L _ _ _ h
  ·simp only [ctxR] at h
   split at h
   ·split at h
    ·rename_i hg
     simp only [Option.some.injEq, Prod.mk.injEq] at h
     obtain ⟨rfl, rfl, rfl⟩ := h
     exact goM_ok ih hm hg
    ·simp at h
   ·exact hA.LM _ _ _ _ _ h
  ·simp only [ctxR] at h
   split at h
   ·split at h
    ·rename_i hg
     simp only [Option.some.injEq, Prod.mk.injEq] at h
     obtain ⟨rfl, rfl⟩ := h
     exact goV_ok ih hm hg
    ·simp at h
   ·exact hA.LV _ _ _ _ h
  ·simp only [ctxR] at h
   split at h
   ·split at h
    ·rename_i hg
     simp only [Option.some.injEq, Prod.mk.injEq] at h
     obtain ⟨rfl, rfl⟩ := h
     exact goH_ok ih hm hg
    ·simp at h
   ·split at h
    ·rename_i hg
     simp only [Option.some.injEq, Prod.mk.injEq] at h
     obtain ⟨rfl, rfl⟩ := h
     exact (goG_ok ih hm hg).frz
    ·simp at h
   ·exact hA.LH _ _ _ _ h
end
theorem runG_ok {P : Program} {A : An} (hA : A.Ok P) (hm : P.follows .mixedOrders = true) (n : Nat) (f : FuncId) (args : List AV) (r : AV) (h : runG P A n f args = some r) : CallOk P f args r := (ctxR_ok hA hm n).G f args r h
open Go Go.RowKit
inductive XT where
 | row (T : TypeId) (ex : Bool) (cs : List AV)
 | map (es : List (AV × AV))
 | dfr (l : Nat)
 | loop (s : Nat) (S : List AV) (ps : List Nat) (assign body : Code) (pend : Option Code) (live : List Bool)
 | none
structure XS where
 slots : List AV
 df : List Nat
 gh : List (List AV × List Nat)
 toks : List XT
structure XE where
 F : Nat → Prop
 n : Nat
 blk : Nat → Nat
 sz : Nat → Nat
def XRef (E : XE) (t : Nat) (p : List (Nat × Nat)) (lo n : Nat) (y : Value) : Prop := t < E.n ∧ match p with
 | [(z, 0)] => ∃ cap, y = .slice (some ⟨E.blk t, lo, none⟩) n cap ∧ n ≤ cap ∧ cap ≤ maxLen ∧ lo + cap * z ≤ E.sz t
 | [(f, 1)] => y = .func (.func f) #[.pointer (some ⟨E.blk t, lo, none⟩)] #[]
 | _ => False
def XPtr (E : XE) (t : Nat) (p : List (Nat × Nat)) (j : Nat) (y : Value) : Prop := t < E.n ∧ match p with
 | [] => y = .pointer (some ⟨E.blk t, j, none⟩)
 | [(0, _)] => y = .map (some (E.blk t))
 | [(1, _)] => y = .func (.yield (E.blk t)) #[] #[]
 | _ => False
mutual
def XRep (w : World) (E : XE) : AV → Value → Prop
 | .v x, y => y = x ∧ x.oneCell' = true
 | .agg cs, y => ∃ ys : Array Value, y = .agg ys ∧ XRepL w E cs ys.toList
 | .tup vs, y => ∃ ys : Array Value, y = .tuple ys ∧ XRepL w E vs ys.toList
 | .sl nl sz es, y => Rep w E.F (.sl nl sz es) y
 | .fp e j, y => Rep w E.F (.fp e j) y
 | .fn f caps, y => ∃ cv : Array Value, y = .func (.func f) #[] cv ∧ XRepL w E caps cv.toList
 | .ref t p lo n, y => XRef E t p lo n y
 | .ptr t p _ j, y => XPtr E t p j y
 | .junk, _ => True
def XRepL (w : World) (E : XE) : List AV → List Value → Prop
 | [], ys => ys = []
 | c :: cs, ys => ∃ y ys', ys = y :: ys' ∧ XRep w E c y ∧ XRepL w E cs ys'
end
def XEnt (w : World) (E : XE) : List (AV × AV) → List MapEntry → Prop
 | [], ms => ms = []
 | e :: es, ms => ∃ m ms', ms = m :: ms' ∧ XRep w E e.1 m.key ∧ XRep w E e.2 m.val ∧ XEnt w E es ms'
def stX : Nat → LoopState
 | 0 => .ready
 | 1 => .busy
 | 2 => .done
 | _ => .exhausted
def XTok (w : World) (E : XE) (t : Nat) : XT → Prop
 | .row T ex cs => ∃ c, w.heap[E.blk t]? = some (.cells c T (0, 0)) ∧ c.size = E.sz t ∧ cs.length ≤ c.size ∧ XRepL w E cs (c.toList.take cs.length) ∧ (ex = true → cs.length = c.size)
 | .map es => ∃ m k, w.heap[E.blk t]? = some (.map m k) ∧ XEnt w E es m.toList
 | .dfr l => w.heap[E.blk t]? = some (.deferred (some [])) ∧ l < E.n ∧ E.blk l = E.blk t + 1
 | .loop s S ps assign body pend _ => ∃ (fn : FuncId) (tmps : Array Value) (D : Nat), w.heap[E.blk t]? = some (.loop { state := stX s, pending := pend, fn, tmps, params := ps.toArray, assign, body, defers := D }) ∧ XRepL w E S tmps.toList
 | .none => True
def markX (E : XE) (t : Nat) : Deferred := { target := .collected (E.blk t), args := #[] }
def XFr (w : World) (E : XE) (s : List AV) (d : List Nat) (a : Act) : Prop := XRepL w E s a.tmps.toList ∧ a.defers = d.map (markX E) ∧ ∀ t ∈ d, t < E.n
def XGh (w : World) (E : XE) : List (List AV × List Nat) → List Act → Prop
 | [], vs => vs = []
 | s :: ss, vs => ∃ v vs', vs = v :: vs' ∧ XFr w E s.1 s.2 v ∧ XGh w E ss vs'
structure XB where
 F0 : Nat → Prop
 w0 : World
structure XR (B : XB) (st : XS) (E : XE) (a : Act) (gv : List Act) (w : World) : Prop where
 n : E.n = st.toks.length
 top : XFr w E st.slots st.df a
 ghost : XGh w E st.gh gv
 tok : ∀ t k, st.toks[t]? = some k → XTok w E t k
 live : ∀ t k, st.toks[t]? = some k → k ≠ .none → B.w0.heap.size ≤ E.blk t ∧ E.blk t < w.heap.size ∧ ¬ E.F (E.blk t)
 inj : ∀ t t' k k', st.toks[t]? = some k → st.toks[t']? = some k' → k ≠ .none → k' ≠ .none → t ≠ t' → E.blk t ≠ E.blk t'
 flt : ∀ b, E.F b → b < w.heap.size
 fz : ∀ b, E.F b → B.F0 b ∨ B.w0.heap.size ≤ b
 gl : Gl E.F w
 frame : Frm (fun _ => False) B.w0 w
structure XLe (w w' : World) (E E' : XE) : Prop where
 F : ∀ b, E.F b → E'.F b
 hF : Agree E.F w w'
 n : E.n ≤ E'.n
 blk : ∀ t, t < E.n → E'.blk t = E.blk t ∧ E'.sz t = E.sz t
section
variable {w w' : World} {E E' : XE}
theorem XRef.mono (h : XLe w w' E E') {t : Nat} {p : List (Nat × Nat)} {lo n : Nat} {y : Value} (k : XRef E t p lo n y) : XRef E' t p lo n y := by
 obtain ⟨h1, k⟩ := k
 obtain ⟨e1, e2⟩ := h.blk t h1
 refine ⟨Nat.lt_of_lt_of_le h1 h.n, ?_⟩
 split at k
 ·rw [e1, e2]; exact k
 ·rw [e1]; exact k
 ·exact k.elim
theorem XPtr.mono (h : XLe w w' E E') {t : Nat} {p : List (Nat × Nat)} {j : Nat} {y : Value} (k : XPtr E t p j y) : XPtr E' t p j y := by
 obtain ⟨h1, k⟩ := k
 obtain ⟨e1, e2⟩ := h.blk t h1
 refine ⟨Nat.lt_of_lt_of_le h1 h.n, ?_⟩
 split at k
 ·rw [e1]; exact k
 ·rw [e1]; exact k
 ·rw [e1]; exact k
 ·exact k.elim
mutual
theorem XRep.mono (h : XLe w w' E E') : ∀ (x : AV) (y : Value), XRep w E x y → XRep w' E' x y
 | .v _, _, k => by simpa [XRep] using k
 | .agg cs, _, k => by simp only [XRep] at k ⊢; obtain ⟨ys, rfl, k⟩ := k; exact ⟨ys, rfl, XRepL.mono h cs _ k⟩
 | .tup cs, _, k => by simp only [XRep] at k ⊢; obtain ⟨ys, rfl, k⟩ := k; exact ⟨ys, rfl, XRepL.mono h cs _ k⟩
 | .sl nl sz es, _, k => by simp only [XRep] at k ⊢; exact k.weak h.F h.hF
 | .fp e j, _, k => by simp only [XRep] at k ⊢; exact k.weak h.F h.hF
 | .fn f cs, _, k => by simp only [XRep] at k ⊢; obtain ⟨ys, rfl, k⟩ := k; exact ⟨ys, rfl, XRepL.mono h cs _ k⟩
 | .ref _ _ _ _, _, k => by simp only [XRep] at k ⊢; exact k.mono h
 | .ptr _ _ _ _, _, k => by simp only [XRep] at k ⊢; exact k.mono h
 | .junk, _, _ => by simp [XRep]
theorem XRepL.mono (h : XLe w w' E E') : ∀ (x : List AV) (y : List Value), XRepL w E x y → XRepL w' E' x y
 | [], _, k => by simpa [XRepL] using k
 | c :: cs, _, k => by
  simp only [XRepL] at k ⊢; obtain ⟨y, ys, rfl, k1, k2⟩ := k
  exact ⟨y, ys, rfl, XRep.mono h c y k1, XRepL.mono h cs ys k2⟩
end
theorem XEnt.mono (h : XLe w w' E E') : ∀ (x : List (AV × AV)) (y : List MapEntry), XEnt w E x y → XEnt w' E' x y
 | [], _, k => by simpa [XEnt] using k
 | c :: cs, _, k => by
  simp only [XEnt] at k ⊢; obtain ⟨y, ys, rfl, k1, k2, k3⟩ := k
  exact ⟨y, ys, rfl, k1.mono h, k2.mono h, XEnt.mono h cs ys k3⟩
theorem XFr.mono (h : XLe w w' E E') {s : List AV} {d : List Nat} {a : Act} (k : XFr w E s d a) : XFr w' E' s d a := by
 refine ⟨k.1.mono h, k.2.1.trans (List.map_congr_left fun t ht => ?_), fun t ht => Nat.lt_of_lt_of_le (k.2.2 t ht) h.n⟩
 simp only [markX, (h.blk t (k.2.2 t ht)).1]
theorem XGh.mono (h : XLe w w' E E') : ∀ (x : List (List AV × List Nat)) (y : List Act), XGh w E x y → XGh w' E' x y
 | [], _, k => by simpa [XGh] using k
 | c :: cs, _, k => by
  simp only [XGh] at k ⊢; obtain ⟨y, ys, rfl, k1, k2⟩ := k
  exact ⟨y, ys, rfl, k1.mono h, XGh.mono h cs ys k2⟩
theorem XTok.mono (h : XLe w w' E E') {t : Nat} {k : XT} (ht : t < E.n) (hb : w'.heap[E.blk t]? = w.heap[E.blk t]?) (hk : XTok w E t k) : XTok w' E' t k := by
 obtain ⟨e1, e2⟩ := h.blk t ht
 cases k with
 | row T ex cs =>
  obtain ⟨c, h1, h2, h3, h4, h5⟩ := hk
  exact ⟨c, by rw [e1, hb]; exact h1, by rw [e2]; exact h2, h3, h4.mono h, h5⟩
 | map es =>
  obtain ⟨m, k, h1, h2⟩ := hk
  exact ⟨m, k, by rw [e1, hb]; exact h1, h2.mono h⟩
 | dfr l => simp only [XTok] at hk ⊢; rw [e1, hb, (h.blk l hk.2.1).1]; exact ⟨hk.1, Nat.lt_of_lt_of_le hk.2.1 h.n, hk.2.2⟩
 | loop s S ps assign body pend live =>
  obtain ⟨fn, tmps, D, h1, h2⟩ := hk
  exact ⟨fn, tmps, D, by rw [e1, hb]; exact h1, h2.mono h⟩
 | none => trivial
theorem XRepL.len : ∀ {cs : List AV} {ys : List Value}, XRepL w E cs ys → ys.length = cs.length
 | [], _, k => by simp only [XRepL] at k; simp [k]
 | c :: cs, _, k => by simp only [XRepL] at k; obtain ⟨y, ys, rfl, _, k⟩ := k; simp [XRepL.len k]
theorem XRepL.get : ∀ {cs : List AV} {ys : List Value}, XRepL w E cs ys → ∀ (i : Nat) (c : AV), cs[i]? = some c → ∃ y, ys[i]? = some y ∧ XRep w E c y
 | [], _, _, i, c, h => by simp at h
 | c :: cs, _, k, 0, c', h => by
  simp only [XRepL] at k; obtain ⟨y, ys, rfl, k1, _⟩ := k; simp at h; subst h; exact ⟨y, by simp, k1⟩
 | c :: cs, _, k, i + 1, c', h => by
  simp only [XRepL] at k; obtain ⟨y, ys, rfl, _, k⟩ := k
  obtain ⟨z, h1, h2⟩ := XRepL.get k i c' (by simpa using h)
  exact ⟨z, by simpa using h1, h2⟩
theorem XRepL.set : ∀ {cs : List AV} {ys : List Value} {x : AV} {y : Value}, XRepL w E cs ys → XRep w E x y → ∀ i, XRepL w E (cs.set i x) (ys.set i y)
 | [], _, _, _, k, _, _ => by simp only [XRepL] at k; subst k; simp [XRepL]
 | c :: cs, _, _, _, k, h, 0 => by
  simp only [XRepL] at k; obtain ⟨y, ys, rfl, _, k⟩ := k
  simp only [List.set_cons_zero, XRepL]; exact ⟨_, _, rfl, h, k⟩
 | c :: cs, _, _, _, k, h, i + 1 => by
  simp only [XRepL] at k; obtain ⟨y, ys, rfl, k1, k⟩ := k
  simp only [List.set_cons_succ, XRepL]; exact ⟨_, _, rfl, k1, XRepL.set k h i⟩
theorem XRepL.app : ∀ {cs ds : List AV} {ys zs : List Value}, XRepL w E cs ys → XRepL w E ds zs → XRepL w E (cs ++ ds) (ys ++ zs)
 | [], _, _, _, k, h => by simp only [XRepL] at k; subst k; simpa using h
 | c :: cs, _, _, _, k, h => by
  simp only [XRepL] at k; obtain ⟨y, ys, rfl, k1, k⟩ := k
  simp only [List.cons_append, XRepL]; exact ⟨_, _, rfl, k1, XRepL.app k h⟩
theorem XRepL.take : ∀ {cs : List AV} {ys : List Value} (n : Nat), XRepL w E cs ys → XRepL w E (cs.take n) (ys.take n)
 | _, _, 0, _ => by simp [XRepL]
 | [], _, n + 1, k => by simp only [XRepL] at k; subst k; simp [XRepL]
 | c :: cs, _, n + 1, k => by
  simp only [XRepL] at k; obtain ⟨y, ys, rfl, k1, k⟩ := k
  simp only [List.take_succ_cons, XRepL]; exact ⟨_, _, rfl, k1, XRepL.take n k⟩
theorem XRepL.drop : ∀ {cs : List AV} {ys : List Value} (n : Nat), XRepL w E cs ys → XRepL w E (cs.drop n) (ys.drop n)
 | _, _, 0, k => by simpa using k
 | [], _, n + 1, k => by simp only [XRepL] at k; subst k; simp [XRepL]
 | c :: cs, _, n + 1, k => by
  simp only [XRepL] at k; obtain ⟨y, ys, rfl, _, k⟩ := k
  simpa using XRepL.drop n k
theorem XRepL.junks (n : Nat) (y : Value) : XRepL w E (List.replicate n .junk) (List.replicate n y) := by
 induction n with
 | zero => simp [XRepL]
 | succ n ih => simp only [List.replicate_succ, XRepL, XRep]; exact ⟨_, _, rfl, trivial, ih⟩
theorem XRepL.mapV {f : Value → AV} : ∀ (ys : List Value), (∀ y ∈ ys, XRep w E (f y) y) → XRepL w E (ys.map f) ys
 | [], _ => by simp [XRepL]
 | y :: ys, h => by simp only [List.map_cons, XRepL]; exact ⟨y, ys, rfl, h y (by simp), XRepL.mapV ys fun z hz => h z (by simp [hz])⟩
mutual
theorem XRep.of_rep : ∀ (x : AV) (y : Value), Rep w E.F x y → XRep w E x y
 | .v _, _, k => by simpa [XRep, Rep] using k
 | .agg cs, y, k => by simp only [XRep, Rep] at k ⊢; obtain ⟨ys, rfl, k⟩ := k; exact ⟨ys, rfl, XRepL.of_rep cs _ k⟩
 | .tup cs, y, k => by simp only [XRep, Rep] at k ⊢; obtain ⟨ys, rfl, k⟩ := k; exact ⟨ys, rfl, XRepL.of_rep cs _ k⟩
 | .sl nl sz es, y, k => by simpa only [XRep] using k
 | .fp e j, y, k => by simpa only [XRep] using k
 | .fn f cs, y, k => by simp only [XRep, Rep] at k ⊢; obtain ⟨ys, rfl, k⟩ := k; exact ⟨ys, rfl, XRepL.of_rep cs _ k⟩
 | .ref t p lo n, y, k => by simp [Rep] at k
 | .ptr t p i j, y, k => by simp [Rep] at k
 | .junk, _, _ => by simp [XRep]
theorem XRepL.of_rep : ∀ (x : List AV) (y : List Value), RepL w E.F x y → XRepL w E x y
 | [], _, k => by simpa [XRepL, RepL] using k
 | c :: cs, y, k => by
  simp only [XRepL, RepL] at k ⊢; obtain ⟨y, ys, rfl, k1, k2⟩ := k
  exact ⟨y, ys, rfl, XRep.of_rep c y k1, XRepL.of_rep cs ys k2⟩
end
theorem XRep_ofV1 (x : Value) : XRep w E (ofV1 x) x := by
 unfold ofV1
 split
 ·simp only [XRep, Rep]; exact ⟨none, 0, 0, rfl, rfl, Nat.le_refl _, Nat.zero_le _, .inl ⟨rfl, trivial, rfl, rfl⟩⟩
 ·split
  ·simp [XRep, *]
  ·simp [XRep]
theorem XRep_ofV (x : Value) : XRep w E (ofV x) x := by
 unfold ofV
 split
 ·simp only [XRep]; exact ⟨_, rfl, XRepL.mapV _ fun y _ => XRep_ofV1 y⟩
 ·exact XRep_ofV1 _
theorem XFr.ev {s : List AV} {d : List Nat} {a : Act} (h : XFr w E s d a) (x : Operand) : XRep w E (Ax.ev s x) (a.eval x) := by
 cases x with
 | tmp t =>
  simp only [Ax.ev, Act.eval, List.getD_eq_getElem?_getD]
  cases ht : s[t]? with
  | none => simp [XRep]
  | some x =>
   obtain ⟨y, h1, h2⟩ := h.1.get t x ht
   have : a.tmps.getD t undef = y := by rw [Array.getD_eq_getD_getElem?, ← Array.getElem?_toList, h1]; rfl
   rw [this]; exact h2
 | const c => exact XRep_ofV c
 | func f => simp only [Ax.ev, Act.eval, XRep]; exact ⟨#[], rfl, by simp [XRepL]⟩
 | global g => simp [Ax.ev, XRep]
theorem XFr.evL {s : List AV} {d : List Nat} {a : Act} (h : XFr w E s d a) : ∀ (l : List Operand), XRepL w E (l.map (Ax.ev s)) (l.map a.eval)
 | [] => by simp [XRepL]
 | x :: l => by simp only [List.map_cons, XRepL]; exact ⟨_, _, rfl, h.ev x, h.evL l⟩
theorem XFr.put {s : List AV} {d : List Nat} {a : Act} (h : XFr w E s d a) (e : Option Nat) {x : AV} {y : Value} (hx : XRep w E x y) : XFr w E (putD s e x) d (a.put e y) := by
 cases e with
 | none => exact h
 | some e => exact ⟨by simpa [putD, Act.put] using h.1.set hx e, h.2.1, h.2.2⟩
end
mutual
theorem XRep.kill {w : World} {E : XE} (t : Nat) : ∀ (x : AV) (y : Value), XRep w E x y → XRep w E (Ax.kill t x) y
 | .v _, _, k => by simpa [Ax.kill] using k
 | .agg cs, _, k => by simp only [XRep, Ax.kill] at k ⊢; obtain ⟨ys, rfl, k⟩ := k; exact ⟨ys, rfl, XRepL.kill t cs _ k⟩
 | .tup cs, _, k => by simp only [XRep, Ax.kill] at k ⊢; obtain ⟨ys, rfl, k⟩ := k; exact ⟨ys, rfl, XRepL.kill t cs _ k⟩
 | .sl nl sz es, _, k => by simpa only [Ax.kill] using k
 | .fp e j, _, k => by simpa only [Ax.kill] using k
 | .fn f cs, _, k => by simp only [XRep, Ax.kill] at k ⊢; obtain ⟨ys, rfl, k⟩ := k; exact ⟨ys, rfl, XRepL.kill t cs _ k⟩
 | .ref t' _ _ _, _, k => by
  simp only [Ax.kill]; split
  ·simp [XRep]
  ·exact k
 | .ptr t' _ _ _, _, k => by
  simp only [Ax.kill]; split
  ·simp [XRep]
  ·exact k
 | .junk, _, _ => by simp [XRep, Ax.kill]
theorem XRepL.kill {w : World} {E : XE} (t : Nat) : ∀ (x : List AV) (y : List Value), XRepL w E x y → XRepL w E (Ax.killL t x) y
 | [], _, k => by simpa [XRepL, Ax.killL] using k
 | c :: cs, _, k => by
  simp only [XRepL, Ax.killL] at k ⊢; obtain ⟨y, ys, rfl, k1, k2⟩ := k
  exact ⟨y, ys, rfl, XRep.kill t c y k1, XRepL.kill t cs ys k2⟩
end
open Go Go.RowKit
def XE.new (E : XE) (b s : Nat) : XE := { F := E.F, n := E.n + 1, blk := fun t => if t = E.n then b else E.blk t, sz := fun t => if t = E.n then s else E.sz t }
theorem XE.new_le {w w' : World} {E : XE} {b s : Nat} (hF : Agree E.F w w') : XLe w w' E (E.new b s) :=
 ⟨fun _ h => h, hF, Nat.le_succ _, fun t ht => by simp [XE.new, Nat.ne_of_lt ht]⟩
theorem XE.new_blk {E : XE} {b s : Nat} : (E.new b s).blk E.n = b := by simp [XE.new]
theorem XE.new_sz {E : XE} {b s : Nat} : (E.new b s).sz E.n = s := by simp [XE.new]
def XE.more (E : XE) (F : Nat → Prop) : XE := { E with F := fun b => E.F b ∨ F b }
theorem XE.more_le {w w' : World} {E : XE} {F : Nat → Prop} (hF : Agree E.F w w') : XLe w w' E (E.more F) := ⟨fun _ h => .inl h, hF, Nat.le_refl _, fun _ _ => ⟨rfl, rfl⟩⟩
section
variable {B : XB} {st : XS} {E : XE} {a : Act} {gv : List Act} {w w' : World}
theorem Frm.trans' {U : Nat → Prop} {w0 w w' : World} (h : Frm (fun _ => False) w0 w) (k : Frm U w w') (hU : ∀ b, U b → w0.heap.size ≤ b) : Frm (fun _ => False) w0 w' :=
 ⟨k.os.trans h.os, k.tape.trans h.tape, k.output.trans h.output, Nat.le_trans h.size k.size, fun b hb _ => (k.block b (Nat.lt_of_lt_of_le hb h.size) fun hu => by have := hU b hu; omega).trans (h.block b hb id)⟩
theorem XR.lt (h : XR B st E a gv w) {t : Nat} {k : XT} (ht : st.toks[t]? = some k) : t < E.n := by
 rw [h.n]; exact (List.getElem?_eq_some_iff.1 ht).1
theorem XR.new (h : XR B st E a gv w) {b0 : Nat} (hw : Frm (fun b => b = b0) w w') (h1 : B.w0.heap.size ≤ b0) (h2 : b0 < w'.heap.size) (h3 : ¬ E.F b0)
  (h4 : ∀ t k, st.toks[t]? = some k → k ≠ .none → E.blk t ≠ b0) (s : Nat) {k : XT} (hk : XTok w' (E.new b0 s) E.n k) : XR B { st with toks := st.toks ++ [k] } (E.new b0 s) a gv w' := by
 have hF : Agree E.F w w' := fun b hb => hw.block b (h.flt b hb) fun e => h3 (e ▸ hb)
 have hle := XE.new_le (b := b0) (s := s) hF
 have hold : ∀ {t : Nat} {k' : XT}, t ≠ st.toks.length → (st.toks ++ [k])[t]? = some k' → st.toks[t]? = some k' ∧ t < E.n := fun {t k'} hne ht => by
  have hlt : t < st.toks.length := by
   have := (List.getElem?_eq_some_iff.1 ht).1
   simp at this; omega
  rw [List.getElem?_append_left hlt] at ht
  exact ⟨ht, by rw [h.n]; exact hlt⟩
 have hblk : ∀ t, t < E.n → (E.new b0 s).blk t = E.blk t := fun t ht => (hle.blk t ht).1
 refine ⟨by simp [XE.new, h.n], h.top.mono hle, h.ghost.mono hle _ _, fun t k' ht => ?_, fun t k' ht hne => ?_, fun t t' k1 k2 ht ht' hk1 hk2 hne => ?_, fun b hb => Nat.lt_of_lt_of_le (h.flt b hb) hw.size, h.fz, h.gl.agree hF, h.frame.trans' hw fun b hb => by rw [hb]; exact h1⟩
 ·by_cases e : t = st.toks.length
  ·subst e
   simp at ht; subst ht
   rw [← h.n]; exact hk
  ·obtain ⟨ht, hlt⟩ := hold e ht
   by_cases hkn : k' = .none
   ·subst hkn; trivial
   ·exact (h.tok t k' ht).mono hle hlt (hw.block _ (h.live t k' ht hkn).2.1 (h4 t k' ht hkn))
 ·by_cases e : t = st.toks.length
  ·rw [e, ← h.n, XE.new_blk]; exact ⟨h1, h2, h3⟩
  ·obtain ⟨ht, hlt⟩ := hold e ht
   rw [hblk t hlt]
   have := h.live t k' ht hne
   exact ⟨this.1, Nat.lt_of_lt_of_le this.2.1 hw.size, this.2.2⟩
 ·by_cases e : t = st.toks.length <;> by_cases e' : t' = st.toks.length
  ·omega
  ·obtain ⟨ht', hlt'⟩ := hold e' ht'
   rw [e, ← h.n, XE.new_blk, hblk t' hlt']
   exact fun h => h4 t' k2 ht' hk2 h.symm
  ·obtain ⟨ht, hlt⟩ := hold e ht
   rw [e', ← h.n, XE.new_blk, hblk t hlt]
   exact h4 t k1 ht hk1
  ·obtain ⟨ht, hlt⟩ := hold e ht
   obtain ⟨ht', hlt'⟩ := hold e' ht'
   rw [hblk t hlt, hblk t' hlt']
   exact h.inj t t' k1 k2 ht ht' hk1 hk2 hne
theorem XR.upd (h : XR B st E a gv w) {t : Nat} {k k' : XT} (ht : st.toks[t]? = some k) (hkn : k ≠ .none) (hw : Frm (fun b => b = E.blk t) w w') (hk : XTok w' E t k') : XR B { st with toks := st.toks.set t k' } E a gv w' := by
 obtain ⟨l1, l2, l3⟩ := h.live t k ht hkn
 have hF : Agree E.F w w' := fun b hb => hw.block b (h.flt b hb) fun e => l3 (e ▸ hb)
 have hle : XLe w w' E E := ⟨fun _ h => h, hF, Nat.le_refl _, fun _ _ => ⟨rfl, rfl⟩⟩
 have hlen : t < st.toks.length := (List.getElem?_eq_some_iff.1 ht).1
 have hold : ∀ {i : Nat} {q : XT}, (st.toks.set t k')[i]? = some q → (i = t ∧ q = k') ∨ (i ≠ t ∧ st.toks[i]? = some q) := fun {i q} hi => by
  by_cases e : i = t
  ·subst e; rw [List.getElem?_set_self hlen] at hi; exact .inl ⟨rfl, (Option.some.inj hi).symm⟩
  ·rw [List.getElem?_set_ne (fun h => e h.symm)] at hi; exact .inr ⟨e, hi⟩
 have hlive : ∀ {i : Nat} {q : XT}, (st.toks.set t k')[i]? = some q → q ≠ .none → ∃ q', st.toks[i]? = some q' ∧ q' ≠ .none := fun {i q} hi hq => by
  rcases hold hi with ⟨rfl, _⟩ | ⟨_, h⟩
  ·exact ⟨k, ht, hkn⟩
  ·exact ⟨q, h, hq⟩
 refine ⟨by simp [h.n], h.top.mono hle, h.ghost.mono hle _ _, fun i q hi => ?_, fun i q hi hq => ?_, fun i j q r hi hj hq hr hne => ?_, fun b hb => Nat.lt_of_lt_of_le (h.flt b hb) hw.size, h.fz, h.gl.agree hF, h.frame.trans' hw fun b hb => by rw [hb]; exact l1⟩
 ·rcases hold hi with ⟨rfl, rfl⟩ | ⟨e, hi⟩
  ·exact hk
  ·by_cases hq : q = .none
   ·subst hq; trivial
   ·exact (h.tok i q hi).mono hle (h.lt hi) (hw.block _ (h.live i q hi hq).2.1 (h.inj i t q k hi ht hq hkn e))
 ·obtain ⟨q', hi', hq'⟩ := hlive hi hq
  have := h.live i q' hi' hq'
  exact ⟨this.1, Nat.lt_of_lt_of_le this.2.1 hw.size, this.2.2⟩
 ·obtain ⟨q', hi', hq'⟩ := hlive hi hq
  obtain ⟨r', hj', hr'⟩ := hlive hj hr
  exact h.inj i j q' r' hi' hj' hq' hr' hne
theorem XR.grow (h : XR B st E a gv w) (hw : Frm (fun _ => False) w w') {F : Nat → Prop} (hF : ∀ b, F b → E.F b ∨ (w.heap.size ≤ b ∧ b < w'.heap.size)) : XR B st (E.more F) a gv w' := by
 have hA : Agree E.F w w' := fun b hb => hw.block b (h.flt b hb) id
 have hle := XE.more_le (F := F) hA
 refine ⟨h.n, h.top.mono hle, h.ghost.mono hle _ _, fun t k ht => ?_, fun t k ht hk => ?_, h.inj, fun b hb => ?_, fun b hb => ?_, (h.gl.agree hA).mono fun _ h => .inl h, h.frame.trans' hw fun _ h => h.elim⟩
 ·by_cases hkn : k = .none
  ·subst hkn; trivial
  ·exact (h.tok t k ht).mono hle (h.lt ht) (hw.block _ (h.live t k ht hkn).2.1 id)
 ·have := h.live t k ht hk
  refine ⟨this.1, Nat.lt_of_lt_of_le this.2.1 hw.size, fun hb => hb.elim this.2.2 fun hb => ?_⟩
  rcases hF _ hb with h | h
  ·exact this.2.2 h
  ·have := this.2.1; show False; exact absurd h.1 (by simp [XE.more] at *; omega)
 ·rcases hb with hb | hb
  ·exact Nat.lt_of_lt_of_le (h.flt b hb) hw.size
  ·rcases hF b hb with h' | h'
   ·exact Nat.lt_of_lt_of_le (h.flt b h') hw.size
   ·exact h'.2
 ·rcases hb with hb | hb
  ·exact h.fz b hb
  ·rcases hF b hb with h' | h'
   ·exact h.fz b h'
   ·exact .inr (Nat.le_trans h.frame.size h'.1)
def killT (t : Nat) : XT → XT
 | .row T ex cs => .row T ex (killL t cs)
 | .map es => .map (es.map fun e => (kill t e.1, kill t e.2))
 | .loop s S ps assign body pend live => .loop s (killL t S) ps assign body pend live
 | k => k
def killX (t : Nat) (st : XS) : XS := { slots := killL t st.slots, df := st.df, gh := st.gh.map fun g => (killL t g.1, g.2), toks := (st.toks.map (killT t)).set t .none }
theorem killL_len (t : Nat) : ∀ (l : List AV), (killL t l).length = l.length
 | [] => rfl
 | _ :: l => by simp [killL, killL_len t l]
theorem XGh.kill (t : Nat) : ∀ {gh : List (List AV × List Nat)} {gv : List Act}, XGh w E gh gv → XGh w E (gh.map fun g => (killL t g.1, g.2)) gv
 | [], _, h => by simpa [XGh] using h
 | g :: gh, _, h => by
  simp only [XGh, List.map_cons] at h ⊢
  obtain ⟨v, vs, rfl, h1, h2⟩ := h
  exact ⟨v, vs, rfl, ⟨h1.1.kill t, h1.2⟩, XGh.kill t h2⟩
theorem XEnt.kill (t : Nat) : ∀ {es : List (AV × AV)} {ms : List MapEntry}, XEnt w E es ms → XEnt w E (es.map fun e => (Ax.kill t e.1, Ax.kill t e.2)) ms
 | [], _, h => by simpa [XEnt] using h
 | e :: es, _, h => by
  simp only [XEnt, List.map_cons] at h ⊢
  obtain ⟨m, ms, rfl, h1, h2, h3⟩ := h
  exact ⟨m, ms, rfl, h1.kill t, h2.kill t, XEnt.kill t h3⟩
theorem XTok.kill (t : Nat) {i : Nat} {k : XT} (h : XTok w E i k) : XTok w E i (killT t k) := by
 cases k with
 | row T ex cs =>
  obtain ⟨c, h1, h2, h3, h4, h5⟩ := h
  exact ⟨c, h1, h2, by rw [killL_len]; exact h3, by rw [killL_len]; exact h4.kill t, by rw [killL_len]; exact h5⟩
 | map es =>
  obtain ⟨m, k, h1, h2⟩ := h
  exact ⟨m, k, h1, h2.kill t⟩
 | loop s S ps assign body pend live =>
  obtain ⟨fn, tmps, D, h1, h2⟩ := h
  exact ⟨fn, tmps, D, h1, h2.kill t⟩
 | _ => exact h
theorem killT_none {t : Nat} {k : XT} (h : killT t k ≠ .none) : k ≠ .none := fun e => h (by rw [e]; rfl)
theorem XR.kill (h : XR B st E a gv w) (t : Nat) : XR B (killX t st) E a gv w := by
 have hold : ∀ {i : Nat} {q : XT}, ((st.toks.map (killT t)).set t .none)[i]? = some q → q ≠ .none → i ≠ t ∧ ∃ q', st.toks[i]? = some q' ∧ q = killT t q' ∧ q' ≠ .none := fun {i q} hi hq => by
  by_cases e : i = t
  ·subst e
   rw [List.getElem?_set] at hi
   simp at hi
   exact (hq hi.2.symm).elim
  ·rw [List.getElem?_set_ne (fun h => e h.symm), List.getElem?_map] at hi
   obtain ⟨q', h1, h2⟩ := Option.map_eq_some_iff.1 hi
   exact ⟨e, q', h1, h2.symm, killT_none (t := t) (h2 ▸ hq)⟩
 refine ⟨by simp [killX, h.n], ⟨h.top.1.kill t, h.top.2⟩, h.ghost.kill t, fun i q hi => ?_, fun i q hi hq => ?_, fun i j q r hi hj hq hr hne => ?_, h.flt, h.fz, h.gl, h.frame⟩
 ·by_cases hq : q = .none
  ·subst hq; trivial
  ·obtain ⟨_, q', h1, rfl, _⟩ := hold hi hq
   exact (h.tok i q' h1).kill t
 ·obtain ⟨_, q', h1, rfl, h2⟩ := hold hi hq
  exact h.live i q' h1 h2
 ·obtain ⟨_, q', h1, _, h2⟩ := hold hi hq
  obtain ⟨_, r', h3, _, h4⟩ := hold hj hr
  exact h.inj i j q' r' h1 h3 h2 h4 hne
theorem XR.put (h : XR B st E a gv w) (d : Option Nat) {x : AV} {y : Value} (hx : XRep w E x y) : XR B { st with slots := putD st.slots d x } E (a.put d y) gv w :=
 ⟨h.n, h.top.put d hx, h.ghost, h.tok, h.live, h.inj, h.flt, h.fz, h.gl, h.frame⟩
theorem XR.push (h : XR B st E a gv w) {s : List AV} {a' : Act} (ha : XRepL w E s a'.tmps.toList) (hd : a'.defers = []) : XR B { slots := s, df := [], gh := (st.slots, st.df) :: st.gh, toks := st.toks } E a' (a :: gv) w :=
 ⟨h.n, ⟨ha, hd, by simp⟩, by simp only [XGh]; exact ⟨a, gv, rfl, h.top, h.ghost⟩, h.tok, h.live, h.inj, h.flt, h.fz, h.gl, h.frame⟩
theorem XR.pop {s : List AV} {d : List Nat} {g : List (List AV × List Nat)} {a' : Act} (h : XR B st E a' (a :: gv) w) (hg : st.gh = (s, d) :: g) : XR B { slots := s, df := d, gh := g, toks := st.toks } E a gv w := by
 have hgh := h.ghost
 rw [hg] at hgh
 simp only [XGh] at hgh
 obtain ⟨v, vs, e, h1, h2⟩ := hgh
 simp only [List.cons.injEq] at e
 obtain ⟨rfl, rfl⟩ := e
 exact ⟨h.n, h1, h2, h.tok, h.live, h.inj, h.flt, h.fz, h.gl, h.frame⟩
end
open Go Go.RowKit
def XG (P : Program) (o : Oper) (a : Act) (w : World) (B : XB) (gv : List Act) (q : AV × XS) : Prop :=
 ∀ next : Act → World → Prop, (∀ E' v w', XR B q.2 E' a gv w' → XRep w' E' q.1 v → next (a.put o.dst v) w') → Does P o a w next
def oneX : AV → Bool
 | .v _ => true
 | .sl _ _ _ => true
 | .fp _ _ => true
 | .fn _ _ => true
 | .ref _ _ _ _ => true
 | .ptr _ _ _ _ => true
 | _ => false
def kRow : Option XT → Option (TypeId × Bool × List AV)
 | some (.row T ex cs) => some (T, ex, cs)
 | _ => none
theorem kRow_ok {k : Option XT} {T : TypeId} {ex : Bool} {cs : List AV} (h : kRow k = some (T, ex, cs)) : k = some (.row T ex cs) := by
 unfold kRow at h; split at h <;> simp_all
def x_move (x : Operand) (st : XS) : Option (AV × XS) := some (ev st.slots x, st)
def x_pick (c x y : Operand) (st : XS) : Option (AV × XS) := match ev st.slots c with
 | .v (.bool b) => some (pickAV b (ev st.slots x) (ev st.slots y), st)
 | _ => none
def x_unOp (op : UnOp) (x : Operand) (st : XS) : Option (AV × XS) := match ev st.slots x with
 | .v a => (aun op a).map fun r => (.v r, st)
 | _ => none
def nilX : AV → Option Bool
 | .sl nl _ _ => some nl
 | .ref _ [(_, 0)] _ _ => some false
 | _ => none
def x_binOp (C : Ctx) (op : BinOp) (t : TypeId) (x y : Operand) (st : XS) : Option (AV × XS) := match ev st.slots x, ev st.slots y with
 | .v a, .v b => (match abin op a b with
  | some r => some (.v r, st)
  | none => none)
 | x, .sl true _ [] => (match C.T t, nilX x, op with
  | some ⟨.slice _, _, _, _⟩, some b, .eql => some (.v (.bool b), st)
  | some ⟨.slice _, _, _, _⟩, some b, .neq => some (.v (.bool (!b)), st)
  | _, _, _ => none)
 | _, _ => none
def x_extract (x : Operand) (i : Nat) (st : XS) : Option (AV × XS) := match ev st.slots x with
 | .tup vs => (match vs[i]? with
  | some v => some (v, st)
  | none => none)
 | _ => none
def x_makeFunc (f : FuncId) (first captured : List Operand) (st : XS) : Option (AV × XS) := match first, captured with
 | [], _ => some (.fn f (captured.map (ev st.slots)), st)
 | [x], [] => (match ev st.slots x with
  | .ptr t [] _ j => some (.ref t [(f, 1)] j 0, st)
  | _ => none)
 | _, _ => none
def x_alloc (C : Ctx) (t : TypeId) (st : XS) : Option (AV × XS) := match C.T t with
 | some ti => some (.ptr st.toks.length [] 0 0, { st with toks := st.toks ++ [.row t true (ofV ti.zero).cells] })
 | none => none
def x_box (t : TypeId) (x : Operand) (st : XS) : Option (AV × XS) := match ev st.slots x with
 | .junk => none
 | v => some (.ptr st.toks.length [] 0 0, { st with toks := st.toks ++ [.row t true v.cells] })
def x_fieldAddr (C : Ctx) (t : TypeId) (x : Operand) (f : Nat) (st : XS) : Option (AV × XS) := match C.T t with
 | some ti => (match ti.desc with
  | .struct fields => (match fields[f]? with
   | some fd => (match C.T fd.type with
    | some tf => if 0 < tf.size then (match ev st.slots x with
     | .ptr k [] _ j => some (.ptr k [] 0 (j + fd.offset), st)
     | .fp e j => some (.fp e (j + fd.offset), st)
     | _ => none) else none
    | none => none)
   | none => none)
  | _ => none)
 | none => none
def x_field (C : Ctx) (t : TypeId) (x : Operand) (f : Nat) (st : XS) : Option (AV × XS) := match C.T t with
 | some ti => (match ti.desc with
  | .struct fields => (match fields[f]? with
   | some fd => (match C.T fd.type with
    | some tf => (match ev st.slots x with
     | .agg cs => if TypeDesc.aggB tf.desc then (if fd.offset + tf.size ≤ cs.length then some (.agg ((cs.drop fd.offset).take tf.size), st) else none)
      else (match cs[fd.offset]? with
       | some c => some (c, st)
       | none => none)
     | _ => none)
    | none => none)
   | none => none)
  | _ => none)
 | none => none
def x_load (C : Ctx) (t : TypeId) (x : Operand) (st : XS) : Option (AV × XS) := match C.T t with
 | some ti => (match ev st.slots x with
  | .fp e j => if TypeDesc.aggB ti.desc then (if j + ti.size ≤ e.cells.length then some (.agg ((e.cells.drop j).take ti.size), st) else none)
   else (match e.cells[j]? with
    | some c => some (c, st)
    | none => none)
  | .ptr k [] _ j => (match kRow st.toks[k]? with
   | some (_, _, cs) => if TypeDesc.aggB ti.desc then (if j + ti.size ≤ cs.length then some (.agg ((cs.drop j).take ti.size), st) else none)
    else (match cs[j]? with
     | some c => some (c, st)
     | none => none)
   | none => none)
  | _ => none)
 | none => none
def x_store (C : Ctx) (t : TypeId) (x y : Operand) (st : XS) : Option (AV × XS) := match C.T t with
 | some ti => (match ev st.slots x with
  | .ptr k [] _ j => (match kRow st.toks[k]? with
   | some (T, ex, cs) => if (ev st.slots y).cells.length = ti.size ∧ j + ti.size ≤ cs.length ∧ (ev st.slots y).cells.all oneX = true then
     some (.junk, { st with toks := st.toks.set k (.row T ex (cs.take j ++ (ev st.slots y).cells ++ cs.drop (j + ti.size))) }) else none
   | none => none)
  | _ => none)
 | none => none
def x_indexAddr (C : Ctx) (t : TypeId) (x ix : Operand) (st : XS) : Option (AV × XS) := match C.T t, asNat (ev st.slots ix) with
 | some ti, some i => (match ti.desc, ev st.slots x with
  | .slice el, .sl _ sz es => (match C.T el, es[i]? with
   | some te, some e => if te.size = sz then some (.fp e 0, st) else none
   | _, _ => none)
  | .slice el, .ref k [(z, 0)] lo n => (match C.T el with
   | some te => if te.size = z ∧ i < n then some (.ptr k [] 0 (lo + i * z), st) else none
   | none => none)
  | .array n el, .ptr k [] _ j => (match C.T el with
   | some te => if i < n then some (.ptr k [] 0 (j + i * te.size), st) else none
   | none => none)
  | _, _ => none)
 | _, _ => none
def lenX : AV → Option Nat
 | .sl _ _ es => some es.length
 | .ref _ [(_, 0)] _ n => some n
 | _ => none
def x_len (C : Ctx) (args : List Operand) (ts : List TypeId) (st : XS) : Option (AV × XS) := match args, ts with
 | [x], [t] => (match C.T t with
  | some ti => (match ti.desc with
   | .slice _ => (lenX (ev st.slots x)).map fun (n : Nat) => (.v (.int .i64 (n : Int)), st)
   | .string => (match ev st.slots x with
    | .v (.string s) => some (.v (.int .i64 (s.size : Int)), st)
    | _ => none)
   | _ => none)
  | none => none)
 | _, _ => none
section
variable {P : Program} {C : Ctx} {o : Oper} {B : XB} {st : XS} {E : XE} {a : Act} {gv : List Act} {w w' : World} {q : AV × XS}
theorem xg_pure (h : XR B st E a gv w) {x : AV} {y : Value} (hrun : (execOp a.eval o).run P w = .ok (.value y) w) (hx : XRep w E x y) : XG P o a w B gv (x, st) :=
 fun _ hn => wp_val hrun (hn E y w h hx)
theorem XRep_v {x : AV} {v y : Value} (h : XRep w E x y) (hx : x = .v v) : y = v := by
 subst hx; simp only [XRep] at h; exact h.1
theorem xg_move (h : XR B st E a gv w) {x : Operand} (ho : o.op = .move x ∨ o.op = .assign x) (hq : x_move x st = some q) : XG P o a w B gv q := by
 simp only [x_move, Option.some.injEq] at hq; subst hq
 refine xg_pure (y := a.eval x) h ?_ (h.top.ev x)
 rcases ho with ho | ho <;> simp [execOp, ho]
theorem XRep_pick {t : Bool} {x y : AV} {u v : Value} (hx : XRep w E x u) (hy : XRep w E y v) : XRep w E (pickAV t x y) (if t = true then u else v) := by
 unfold pickAV
 split
 ·simp only [XRep] at hx hy ⊢
  obtain ⟨rfl, _⟩ := hx; obtain ⟨rfl, _⟩ := hy
  cases t <;> simp [Value.oneCell']
 ·cases t <;> simpa
theorem xg_pick (h : XR B st E a gv w) {c x y : Operand} (ho : o.op = .pick c x y) (hq : x_pick c x y st = some q) : XG P o a w B gv q := by
 simp only [x_pick] at hq
 split at hq
 ·rename_i b hb
  simp only [Option.some.injEq] at hq; subst hq
  have hc := XRep_v (h.top.ev c) hb
  refine xg_pure (y := if b = true then a.eval x else a.eval y) h ?_ (XRep_pick (h.top.ev x) (h.top.ev y))
  simp [execOp, ho, hc, asBool_run]
 ·simp at hq
theorem xg_unOp (h : XR B st E a gv w) {op : UnOp} {t : TypeId} {x : Operand} (ho : o.op = .unOp op t x) (hq : x_unOp op x st = some q) : XG P o a w B gv q := by
 simp only [x_unOp] at hq
 split at hq
 ·rename_i v hv
  simp only [Option.map_eq_some_iff] at hq
  obtain ⟨r, hr, rfl⟩ := hq
  have e1 := XRep_v (h.top.ev x) hv
  refine xg_pure (y := r) h ?_ (by simp only [XRep]; exact ⟨trivial, aun_one hr⟩)
  have := aun_run (P := P) (w := w) hr
  simp only [execOp, ho, e1]
  rw [Sem.run_bind, this]; rfl
 ·simp at hq
theorem nilX_ok {x : AV} {y : Value} (hx : XRep w E x y) {b : Bool} (h : nilX x = some b) : ∃ a1 l1 c1, y = .slice a1 l1 c1 ∧ a1.isNone = b := by
 cases x with
 | sl nl sz es =>
  simp only [nilX, Option.some.injEq] at h; subst h
  simp only [XRep, Rep] at hx
  obtain ⟨a1, l1, c1, rfl, _, _, _, hk⟩ := hx
  refine ⟨a1, l1, c1, rfl, ?_⟩
  rcases hk with ⟨rfl, rfl, _⟩ | ⟨_, _, rfl, rfl, _⟩ | ⟨⟨_, rfl⟩, rfl, _⟩ <;> rfl
 | ref t p lo n =>
  simp only [XRep] at hx
  obtain ⟨_, hx⟩ := hx
  split at hx
  ·have h : some false = some b := h
   simp only [Option.some.injEq] at h; subst h
   obtain ⟨cap, rfl, _⟩ := hx; exact ⟨_, _, _, rfl, rfl⟩
  ·have h : (none : Option Bool) = some b := h
   simp at h
  ·exact hx.elim
 | _ => simp [nilX] at h
theorem xg_extract (h : XR B st E a gv w) {x : Operand} {i : Nat} (ho : o.op = .extract x i) (hq : x_extract x i st = some q) : XG P o a w B gv q := by
 simp only [x_extract] at hq
 split at hq
 ·rename_i vs hv
  split at hq
  ·rename_i v hi
   simp only [Option.some.injEq] at hq; subst hq
   have hx := h.top.ev x
   rw [hv] at hx
   simp only [XRep] at hx
   obtain ⟨ys, hy, hl⟩ := hx
   obtain ⟨y, h1, h2⟩ := hl.get i v hi
   refine xg_pure (y := y) h ?_ h2
   have h1' : ys[i]? = some y := by simpa using h1
   simp [execOp, ho, Instr.extract, hy, h1']
  ·simp at hq
 ·simp at hq
theorem xg_makeFunc (h : XR B st E a gv w) {f : FuncId} {first captured : Array Operand} (ho : o.op = .makeFunc (.func f) first captured) (hq : x_makeFunc f first.toList captured.toList st = some q) : XG P o a w B gv q := by
 simp only [x_makeFunc] at hq
 split at hq
 ·rename_i hf
  simp only [Option.some.injEq] at hq; subst hq
  have he : first = #[] := by apply Array.ext'; simpa using hf
  refine xg_pure (y := .func (.func f) #[] (captured.map a.eval)) h ?_ ?_
  ·simp [execOp, ho, Instr.makeFunc, he]
  ·simp only [XRep]
   exact ⟨_, rfl, by rw [Array.toList_map]; exact h.top.evL _⟩
 ·rename_i x hf hc
  have he : first = #[x] := by apply Array.ext'; simpa using hf
  have he' : captured = #[] := by apply Array.ext'; simpa using hc
  split at hq
  ·rename_i t i j hx
   simp only [Option.some.injEq] at hq; subst hq
   have hxv := h.top.ev x
   rw [hx] at hxv
   simp only [XRep, XPtr] at hxv
   refine xg_pure (y := .func (.func f) #[a.eval x] #[]) h ?_ ?_
   ·simp [execOp, ho, Instr.makeFunc, he, he']
   ·simp only [XRep, XRef]
    exact ⟨hxv.1, by rw [hxv.2]⟩
  ·simp at hq
 ·simp at hq
theorem XRep.cells {x : AV} {y : Value} (h : XRep w E x y) (hj : x ≠ .junk) : XRepL w E x.cells y.cells.toList := by
 cases x with
 | agg cs => simp only [XRep] at h; obtain ⟨ys, rfl, h⟩ := h; exact h
 | v z =>
  have h0 := h
  simp only [XRep] at h; obtain ⟨rfl, h1⟩ := h
  have : y.cells = #[y] := by cases y <;> first | rfl | simp [Value.oneCell'] at h1
  rw [this]; simp only [AV.cells, XRepL]; exact ⟨y, [], rfl, h0, rfl⟩
 | tup cs => have h0 := h; simp only [XRep] at h; obtain ⟨ys, rfl, h⟩ := h; simp only [AV.cells, Value.cells, XRepL]; exact ⟨_, [], rfl, h0, rfl⟩
 | sl nl sz es => have h0 := h; simp only [XRep, Rep] at h; obtain ⟨a, l, c, rfl, _⟩ := h; simp only [AV.cells, Value.cells, XRepL]; exact ⟨_, [], rfl, h0, rfl⟩
 | fp e j => have h0 := h; simp only [XRep, Rep] at h; obtain ⟨b, o, x, rfl, _⟩ := h; simp only [AV.cells, Value.cells, XRepL]; exact ⟨_, [], rfl, h0, rfl⟩
 | fn f cs => have h0 := h; simp only [XRep] at h; obtain ⟨b, rfl, _⟩ := h; simp only [AV.cells, Value.cells, XRepL]; exact ⟨_, [], rfl, h0, rfl⟩
 | ref t p lo n =>
  have h0 := h
  simp only [XRep] at h
  obtain ⟨_, h⟩ := h
  split at h
  ·obtain ⟨cap, rfl, _⟩ := h; simp only [AV.cells, Value.cells, XRepL]; exact ⟨_, [], rfl, h0, rfl⟩
  ·subst h; simp only [AV.cells, Value.cells, XRepL]; exact ⟨_, [], rfl, h0, rfl⟩
  ·exact h.elim
 | ptr t p i j =>
  have h0 := h
  simp only [XRep] at h
  obtain ⟨_, h⟩ := h
  split at h
  ·subst h; simp only [AV.cells, Value.cells, XRepL]; exact ⟨_, [], rfl, h0, rfl⟩
  ·subst h; simp only [AV.cells, Value.cells, XRepL]; exact ⟨_, [], rfl, h0, rfl⟩
  ·subst h; simp only [AV.cells, Value.cells, XRepL]; exact ⟨_, [], rfl, h0, rfl⟩
  ·exact h.elim
 | junk => exact (hj rfl).elim
theorem XRep.one {x : AV} {y : Value} (h : XRep w E x y) (hj : oneX x = true) : y.oneCell' = true := by
 cases x with
 | v z => simp only [XRep] at h; obtain ⟨rfl, h1⟩ := h; exact h1
 | sl nl sz es => simp only [XRep, Rep] at h; obtain ⟨a, l, c, rfl, _⟩ := h; rfl
 | fp e j => simp only [XRep, Rep] at h; obtain ⟨b, o, x, rfl, _⟩ := h; rfl
 | fn f cs => simp only [XRep] at h; obtain ⟨b, rfl, _⟩ := h; rfl
 | ref t p lo n =>
  simp only [XRep] at h
  obtain ⟨_, h⟩ := h
  split at h
  ·obtain ⟨cap, rfl, _⟩ := h; rfl
  ·subst h; rfl
  ·exact h.elim
 | ptr t p i j =>
  simp only [XRep] at h
  obtain ⟨_, h⟩ := h
  split at h
  ·subst h; rfl
  ·subst h; rfl
  ·subst h; rfl
  ·exact h.elim
 | _ => simp [oneX] at hj
theorem XRepL.one : ∀ {xs : List AV} {ys : List Value}, XRepL w E xs ys → xs.all oneX = true → ∀ y ∈ ys, y.oneCell' = true
 | [], _, h, _, y, hy => by simp only [XRepL] at h; subst h; simp at hy
 | x :: xs, _, h, hx, y, hy => by
  simp only [XRepL] at h
  obtain ⟨z, zs, rfl, h1, h2⟩ := h
  simp only [List.all_cons, Bool.and_eq_true] at hx
  rcases List.mem_cons.1 hy with rfl | hy
  ·exact h1.one hx.1
  ·exact XRepL.one h2 hx.2 y hy
theorem XR.newRow (h : XR B st E a gv w) (t : TypeId) {xs : List AV} {ys : Array Value} (hx : ∀ E', XLe w (w.alloc (.cells ys t)) E E' → XRepL (w.alloc (.cells ys t)) E' xs ys.toList) :
  XR B { st with toks := st.toks ++ [.row t true xs] } (E.new w.heap.size ys.size) a gv (w.alloc (.cells ys t)) ∧ XRep (w.alloc (.cells ys t)) (E.new w.heap.size ys.size) (.ptr st.toks.length [] 0 0) (.pointer (some ⟨w.heap.size, 0, none⟩)) := by
 have hfr : Frm (fun b => b = w.heap.size) w (w.alloc (.cells ys t)) := ⟨rfl, rfl, rfl, by simp, fun k hk _ => (frm_alloc (w := w) (.cells ys t)).block k hk id⟩
 have hF : Agree E.F w (w.alloc (.cells ys t)) := fun b hb => (frm_alloc (w := w) (.cells ys t)).block b (h.flt b hb) id
 have hxs := hx _ (XE.new_le (b := w.heap.size) (s := ys.size) hF)
 have hl := hxs.len
 simp only [Array.length_toList] at hl
 refine ⟨h.new hfr h.frame.size (by simp) (fun hb => Nat.lt_irrefl _ (h.flt _ hb)) (fun t k ht hk e => by have := (h.live t k ht hk).2.1; omega) ys.size ⟨ys, by rw [XE.new_blk]; exact heap_alloc_self _, XE.new_sz.symm, by omega, ?_, fun _ => by omega⟩, ?_⟩
 ·rw [List.take_of_length_le (by simp; omega)]; exact hxs
 ·simp only [XRep, XPtr]
  exact ⟨by simp [XE.new, h.n], by rw [← h.n, XE.new_blk]⟩
theorem xg_alloc (hC : C.Ok P) (h : XR B st E a gv w) {t : TypeId} (ho : o.op = .alloc t) (hq : x_alloc C t st = some q) : XG P o a w B gv q := by
 simp only [x_alloc] at hq
 split at hq
 ·rename_i ti hti
  simp only [Option.some.injEq] at hq; subst hq
  have ht := hC.T t ti hti
  have hz : (ofV ti.zero) ≠ .junk := fun e => by
   have h1 := cells_ofV ti.zero
   have h2 := XRep_ofV (w := w) (E := E) ti.zero
   have h3 := ht.one
   generalize ti.zero = z at *
   cases z <;> simp [ofV, ofV1, Value.oneCell', Value.cells] at e h3
   rename_i ad l c
   split at e <;> simp_all
  obtain ⟨h1, h2⟩ := h.newRow t (xs := (ofV ti.zero).cells) (ys := ti.zero.cells) fun E' _ => (XRep_ofV ti.zero).cells hz
  intro next hn
  refine wp_val ?_ (hn _ _ _ h1 h2)
  simp [execOp, ho, Instr.alloc, run_zero ht, newVar, newRow]
 ·simp at hq
theorem xg_box (h : XR B st E a gv w) {t : TypeId} {x : Operand} (ho : o.op = .box t x) (hq : x_box t x st = some q) : XG P o a w B gv q := by
 simp only [x_box] at hq
 have hx := h.top.ev x
 generalize hv : ev st.slots x = v at hq hx
 have key : v ≠ .junk → q = (.ptr st.toks.length [] 0 0, { st with toks := st.toks ++ [.row t true v.cells] }) → XG P o a w B gv q := by
  rintro hj rfl
  obtain ⟨h1, h2⟩ := h.newRow t (xs := v.cells) (ys := (a.eval x).cells) fun E' hle => (hx.mono hle).cells hj
  intro next hn
  refine wp_val ?_ (hn _ _ _ h1 h2)
  simp [execOp, ho, Instr.box, newVar, newRow]
 cases v with
 | junk => simp at hq
 | _ => simp only [Option.some.injEq] at hq; exact key (by simp) hq.symm
theorem xg_fieldAddr (hC : C.Ok P) (h : XR B st E a gv w) {t : TypeId} {x : Operand} {f : Nat} (ho : o.op = .fieldAddr t x f) (hq : x_fieldAddr C t x f st = some q) : XG P o a w B gv q := by
 simp only [x_fieldAddr] at hq
 split at hq
 ·rename_i ti hti
  have hu := Go.run_underlying (P := P) (hC.T t ti hti).desc
  split at hq
  ·rename_i fields hd
   rw [hd] at hu
   split at hq
   ·rename_i fd hf
    split at hq
    ·rename_i tf htf
     have hsz := run_size (P := P) (w := w) (hC.T _ _ htf)
     split at hq
     ·rename_i hpos
      have hne : tf.size ≠ 0 := by omega
      have hx := h.top.ev x
      have hrun : ∀ b o', a.eval x = .pointer (some ⟨b, o', none⟩) → (execOp a.eval o).run P w = .ok (.value (.pointer (some ⟨b, o' + fd.offset, none⟩))) w := by
       intro b o' hy
       simp [execOp, ho, Instr.fieldAt, hu, hf, Instr.sureAddr, hy, fieldPlace, hsz, hne, add_addr]
      split at hq
      ·rename_i k i j hp
       simp only [Option.some.injEq] at hq; subst hq
       rw [hp] at hx
       simp only [XRep, XPtr] at hx
       refine xg_pure h (hrun _ _ hx.2) ?_
       simp only [XRep, XPtr]
       exact ⟨hx.1, trivial⟩
      ·rename_i e j hp
       simp only [Option.some.injEq] at hq; subst hq
       rw [hp] at hx
       simp only [XRep, Rep] at hx
       obtain ⟨b, o', z, hy, h1, h2, h3, h4⟩ := hx
       refine xg_pure (y := .pointer (some ⟨b, o' + j + fd.offset, none⟩)) h (hrun b _ hy) ?_
       simp only [XRep, Rep]
       exact ⟨b, o', z, by rw [Nat.add_assoc], h1, h2, h3, h4⟩
      ·simp at hq
     ·simp at hq
    ·simp at hq
   ·simp at hq
  ·simp at hq
 ·simp at hq
theorem xg_field (hC : C.Ok P) (hs : XR B st E a gv w) {t : TypeId} {x : Operand} {f : Nat} (ho : o.op = .field t x f) (h : x_field C t x f st = some q) : XG P o a w B gv q := by
 simp only [x_field] at h
 split at h
 rotate_left
 ·simp at h
 rename_i ti hti
 have hu := Go.run_underlying (P := P) (hC.T t ti hti).desc
 split at h
 rotate_left
 ·simp at h
 rename_i fields hd
 rw [hd] at hu
 split at h
 rotate_left
 ·simp at h
 rename_i fd hf
 split at h
 rotate_left
 ·simp at h
 rename_i tf htf
 have hsz := run_size (P := P) (w := w) (hC.T _ _ htf)
 have hag := run_isAgg (P := P) (w := w) (hC.T _ _ htf)
 split at h
 rotate_left
 ·simp at h
 rename_i cs hxe
 have hx := hs.top.ev x
 rw [hxe] at hx
 simp only [XRep] at hx
 obtain ⟨ys, hy, hl⟩ := hx
 split at h
 ·rename_i hg
  split at h
  ·rename_i hle
   simp only [Option.some.injEq] at h; subst h
   rw [hg] at hag
   refine xg_pure (y := .agg (ys.extract fd.offset (fd.offset + tf.size))) hs ?_ ?_
   ·simp [execOp, ho, Instr.field, hu, hf, hy, part, hag, hsz, asAgg]
   ·simp only [XRep]
    refine ⟨_, rfl, ?_⟩
    have := (hl.drop fd.offset).take tf.size
    rw [Array.toList_extract]
    simpa [List.extract, List.take_drop] using this
  ·simp at h
 ·rename_i hg
  have hg' : TypeDesc.aggB tf.desc = false := by simpa using hg
  split at h
  ·rename_i c hc
   simp only [Option.some.injEq] at h; subst h
   rw [hg'] at hag
   obtain ⟨y, h1, h2⟩ := hl.get _ _ hc
   refine xg_pure (y := y) hs ?_ h2
   have h1' : ys[fd.offset]? = some y := by simpa using h1
   simp [execOp, ho, Instr.field, hu, hf, hy, part, hag, asAgg, h1']
  ·simp at h
theorem XTok.at {t : Nat} {T : TypeId} {ex : Bool} {cs : List AV} (h : XTok w E t (.row T ex cs)) : ∃ ys : List Value, XRepL w E cs ys ∧ ys.length = cs.length ∧ ∀ j y, ys[j]? = some y → w.cell? ⟨E.blk t, j, none⟩ = some y := by
 obtain ⟨c, h1, h2, h3, h4, _⟩ := h
 refine ⟨_, h4, h4.len, fun j y hj => ?_⟩
 rw [List.getElem?_take] at hj
 split at hj
 ·simp only [World.cell?, h1]; simpa using hj
 ·simp at hj
theorem xg_load (hC : C.Ok P) (h : XR B st E a gv w) {t : TypeId} {x : Operand} (ho : o.op = .load t x) (hq : x_load C t x st = some q) : XG P o a w B gv q := by
 simp only [x_load] at hq
 split at hq
 rotate_left
 ·simp at hq
 rename_i ti hti
 have ht := hC.T t ti hti
 have hx := h.top.ev x
 -- cells ys from b, o on, which read as cs
 have key : ∀ (cs : List AV) (ys : List Value) (b o' j : Nat), a.eval x = .pointer (some ⟨b, o' + j, none⟩) → XRepL w E cs ys → (∀ j y, ys[j]? = some y → w.cell? ⟨b, o' + j, none⟩ = some y) →
   (if TypeDesc.aggB ti.desc then (if j + ti.size ≤ cs.length then some (AV.agg ((cs.drop j).take ti.size), st) else none) else (match cs[j]? with
    | some c => some (c, st)
    | none => none)) = some q → XG P o a w B gv q := by
  intro cs ys b o' j hy hl hat hq
  split at hq
  ·rename_i hg
   split at hq
   ·rename_i hle
    simp only [Option.some.injEq] at hq; subst hq
    have hyl := hl.len
    have hys : ((ys.drop j).take ti.size).length = ti.size := by simp; omega
    refine xg_pure (y := .agg ((ys.drop j).take ti.size).toArray) h ?_ ?_
    ·have := run_load_agg (P := P) (w := w) ht hg (b := b) (o' := o' + j) (ys := (ys.drop j).take ti.size) (fun i y hi => by
      rw [List.getElem?_take] at hi
      split at hi
      ·rw [List.getElem?_drop] at hi; have := hat _ _ hi; rwa [← Nat.add_assoc] at this
      ·simp at hi) hys
     simp only [execOp, ho, hy, Sem.run_bind, this]; rfl
    ·simp only [XRep]; exact ⟨_, rfl, (hl.drop j).take _⟩
   ·simp at hq
  ·rename_i hg
   split at hq
   ·rename_i c hc
    simp only [Option.some.injEq] at hq; subst hq
    obtain ⟨y, h1, h2⟩ := hl.get _ _ hc
    refine xg_pure (y := y) h ?_ h2
    have := run_load_one (P := P) (w := w) ht (by simpa using hg) (hat _ _ h1)
    simp only [execOp, ho, hy, Sem.run_bind, this]; rfl
   ·simp at hq
 split at hq
 ·rename_i e j hp
  rw [hp] at hx
  simp only [XRep, Rep] at hx
  obtain ⟨b, o', z, hy, h1, h2, h3, h4⟩ := hx
  refine key e.cells z.cells.toList b o' j hy ?_ h3 hq
  by_cases hj : e = .junk
  ·subst hj
   simp only [AV.cells, List.length_singleton] at h4 ⊢
   obtain ⟨y, hyy⟩ : ∃ y, z.cells.toList = [y] := List.length_eq_one_iff.1 (by simpa using h4)
   rw [hyy]; simp [XRepL, XRep]
  ·exact (XRep.of_rep _ _ h1).cells hj
 ·rename_i k i j hp
  split at hq
  ·rename_i T ex cs hk
   have hk' : st.toks[k]? = some (.row T ex cs) := kRow_ok hk
   rw [hp] at hx
   simp only [XRep, XPtr] at hx
   obtain ⟨ys, g1, g2, g3⟩ := (h.tok k _ hk').at
   exact key cs ys (E.blk k) 0 j (by rw [Nat.zero_add]; exact hx.2) g1 (fun j y hj => by rw [Nat.zero_add]; exact g3 j y hj) hq
  ·simp at hq
 ·simp at hq
theorem xg_store (hC : C.Ok P) (h : XR B st E a gv w) {t : TypeId} {x y : Operand} (ho : o.op = .store t x y) (hq : x_store C t x y st = some q) : XG P o a w B gv q := by
 simp only [x_store] at hq
 split at hq
 rotate_left
 ·simp at hq
 rename_i ti hti
 have ht := hC.T t ti hti
 have hx := h.top.ev x
 have hyv := h.top.ev y
 split at hq
 rotate_left
 ·simp at hq
 rename_i k i j hp
 split at hq
 rotate_left
 ·simp at hq
 rename_i T ex cs hk
 have hk' : st.toks[k]? = some (.row T ex cs) := kRow_ok hk
 split at hq
 rotate_left
 ·simp at hq
 rename_i hcond
 obtain ⟨hcl, hfit, hone⟩ := hcond
 simp only [Option.some.injEq] at hq; subst hq
 rw [hp] at hx
 simp only [XRep, XPtr] at hx
 obtain ⟨cur, g1, g2, g3, g4, g5⟩ := h.tok k _ hk'
 have hj : ev st.slots y ≠ .junk := fun e => by rw [e] at hone; simp [AV.cells, oneX] at hone
 have hvc := hyv.cells hj
 have hvl : (a.eval y).cells.toList.length = ti.size := by rw [hvc.len, hcl]
 have hyn : (a.eval y).cells.size = ti.size := by simpa using hvl
 have hfit' : j + (a.eval y).cells.toList.length ≤ cur.size := by omega
 have hst := run_storeCells_at (P := P) (E.blk k) j T (a.eval y).cells.toList 0 cur w g1 (by simpa using hfit') (hvc.one hone)
 simp only [Nat.add_zero] at hst
 intro next hn
 let w' := w.setRow (E.blk k) (cur.toList.take j ++ (a.eval y).cells.toList ++ cur.toList.drop (j + (a.eval y).cells.toList.length)).toArray
 have hfr : Frm (fun b => b = E.blk k) w w' := ⟨rfl, rfl, rfl, by simp [w', World.setRow], fun b _ hb => setRow_other w _ b _ hb⟩
 have hF : Agree E.F w w' := fun b hb => setRow_other w _ b _ fun e => (h.live k _ hk' (by simp)).2.2 (e ▸ hb)
 have hle : XLe w w' E E := ⟨fun _ h => h, hF, Nat.le_refl _, fun _ _ => ⟨rfl, rfl⟩⟩
 refine .inr (.inl ⟨w', ?_, hn E _ w' (h.upd hk' (by simp) hfr ?_) trivial⟩)
 ·simp only [execOp, ho, hx.2, Instr.storeAt, Instr.sureAddr, storeVar, pure_bind, Sem.run_bind, run_size ht, Result.andThen_ok, hyn]
  simp [hst, w']
 ·refine ⟨_, setRow_heap w _ cur _ T (0, 0) g1, ?_, ?_, ?_, fun he => ?_⟩
  ·simp only [List.size_toArray, List.length_append, List.length_take, List.length_drop, Array.length_toList]; simp at hfit'; omega
  ·simp only [List.size_toArray, List.length_append, List.length_take, List.length_drop, Array.length_toList]; simp at hfit' hvl; omega
  ·have hcur : ∀ n, n ≤ cs.length → List.take n (List.take cs.length cur.toList) = List.take n cur.toList := fun n hn => by rw [List.take_take, Nat.min_eq_left hn]
   have e1 := ((g4.take j).app hvc).app (g4.drop (j + ti.size))
   have e2 := e1.mono hle
   have hL : (List.take j cs ++ (ev st.slots y).cells ++ List.drop (j + ti.size) cs).length = cs.length := by simp; omega
   have : List.take j (List.take cs.length cur.toList) ++ (a.eval y).cells.toList ++ List.drop (j + ti.size) (List.take cs.length cur.toList) =
     List.take cs.length (cur.toList.take j ++ (a.eval y).cells.toList ++ cur.toList.drop (j + (a.eval y).cells.toList.length)) := by
    rw [hcur j (by omega), hvl, List.take_append, List.take_append, List.take_take, List.length_append, List.length_take, hvl]
    have e1 : min j cur.toList.length = j := Nat.min_eq_left (by rw [Array.length_toList]; omega)
    have e2 : min cs.length j = j := Nat.min_eq_right (by omega)
    rw [e1, e2, List.take_of_length_le (l := (a.eval y).cells.toList) (by omega), List.drop_take]
   rw [hL, List.toList_toArray, ← this]
   exact e2
  ·have := g5 he
   simp only [List.size_toArray, List.length_append, List.length_take, List.length_drop, Array.length_toList]; simp at hfit' hvl; omega
theorem xg_indexAddr (hC : C.Ok P) (h : XR B st E a gv w) {t : TypeId} {x ix : Operand} (ho : o.op = .indexAddr t x ix) (hq : x_indexAddr C t x ix st = some q) : XG P o a w B gv q := by
 simp only [x_indexAddr] at hq
 split at hq
 rotate_left
 ·simp at hq
 rename_i ti i hti hi
 have ht := hC.T t ti hti
 obtain ⟨ki, hki⟩ := asNat_eq hi
 have hik := XRep_v (h.top.ev ix) hki
 have hx := h.top.ev x
 split at hq
 ·rename_i el nl sz es hd hxe
  split at hq
  ·rename_i te e hte he
   split at hq
   ·rename_i hsz
    simp only [Option.some.injEq] at hq; subst hq
    rw [hxe] at hx
    simp only [XRep] at hx
    obtain ⟨b, o', l, cp, z, hv, hl, hF, g1, g2, g3, g4⟩ := Own.elem (Rep.own (S := fun _ => False) _ _ hx) he
    have hF : E.F b := hF.resolve_right id
    have hlt : i < l := by rw [hl]; exact (List.getElem?_eq_some_iff.1 he).1
    have hrz : Rep w E.F e z := (g1.rep).weak (fun b h => h.resolve_right id) (Agree.refl _ _)
    refine xg_pure (y := .pointer (some ⟨b, o' + i * te.size, none⟩)) h ?_ ?_
    ·have := run_index (P := P) (w := w) ht hd (hC.T _ _ hte) (k := ki) (i := i) (b := b) (o' := o') (len := l) (cap := cp) hlt
     simp only [execOp, ho, hik, hv, Sem.run_bind, this]; rfl
    ·simp only [XRep, Rep]
     exact ⟨b, o' + i * te.size, z, rfl, hrz, hF, by rw [hsz]; exact g4, by rw [g2, g3]⟩
   ·simp at hq
  ·simp at hq
 ·rename_i el k z lo n hd hxe
  split at hq
  ·rename_i te hte
   split at hq
   ·rename_i hcond
    simp only [Option.some.injEq] at hq; subst hq
    rw [hxe] at hx
    simp only [XRep, XRef] at hx
    obtain ⟨h0, cap, hv, _, _, _⟩ := hx
    refine xg_pure (y := .pointer (some ⟨E.blk k, lo + i * te.size, none⟩)) h ?_ ?_
    ·have := run_index (P := P) (w := w) ht hd (hC.T _ _ hte) (k := ki) (i := i) (b := E.blk k) (o' := lo) (len := n) (cap := cap) hcond.2
     simp only [execOp, ho, hik, hv, Sem.run_bind, this]; rfl
    ·simp only [XRep, XPtr]
     exact ⟨h0, by rw [hcond.1]⟩
   ·simp at hq
  ·simp at hq
 ·rename_i n el k i' j hd hxe
  split at hq
  ·rename_i te hte
   split at hq
   ·rename_i hcond
    simp only [Option.some.injEq] at hq; subst hq
    rw [hxe] at hx
    simp only [XRep, XPtr] at hx
    refine xg_pure (y := .pointer (some ⟨E.blk k, j + i * te.size, none⟩)) h ?_ ?_
    ·have := run_indexArr (P := P) (w := w) ht hd (hC.T _ _ hte) (k := ki) (i := i) (b := E.blk k) (o' := j) hcond
     simp only [execOp, ho, hik, hx.2, Sem.run_bind, this]; rfl
    ·simp only [XRep, XPtr]
     exact ⟨hx.1, trivial⟩
   ·simp at hq
  ·simp at hq
 ·simp at hq
theorem lenX_ok {x : AV} {y : Value} (h : XRep w E x y) {n : Nat} (hn : lenX x = some n) : ∃ ad cap, y = .slice ad n cap := by
 cases x with
 | sl nl sz es =>
  simp only [lenX, Option.some.injEq] at hn; subst hn
  simp only [XRep, Rep] at h
  obtain ⟨ad, l, cap, rfl, rfl, _⟩ := h
  exact ⟨_, _, rfl⟩
 | ref t p lo m =>
  simp only [XRep] at h
  obtain ⟨_, h⟩ := h
  split at h
  ·have hn : some m = some n := hn
   simp only [Option.some.injEq] at hn; subst hn
   obtain ⟨cap, rfl, _⟩ := h; exact ⟨_, _, rfl⟩
  ·have hn : (none : Option Nat) = some n := hn
   simp at hn
  ·exact h.elim
 | _ => simp [lenX] at hn
theorem xg_len (hC : C.Ok P) (h : XR B st E a gv w) {args : Array Operand} {ts : Array TypeId} (ho : o.op = .call { callee := .builtin .len, args := args, argTypes := ts }) (hq : x_len C args.toList ts.toList st = some q) : XG P o a w B gv q := by
 simp only [x_len] at hq
 split at hq
 rotate_left
 ·simp at hq
 rename_i x t hx ht
 have ha : args = #[x] := by cases args; simp_all
 have hts : ts = #[t] := by cases ts; simp_all
 subst ha; subst hts
 split at hq
 rotate_left
 ·simp at hq
 rename_i ti hti
 have hu := (hC.T t ti hti).desc
 split at hq
 ·rename_i el hd
  rw [hd] at hu
  simp only [Option.map_eq_some_iff] at hq
  obtain ⟨n, hn, rfl⟩ := hq
  obtain ⟨ad, cap, hy⟩ := lenX_ok (h.top.ev x) hn
  refine xg_pure (y := .int .i64 n) h ?_ (by simp [XRep, Value.oneCell'])
  simp [execOp, ho, resolve, invoke, builtin, Builtin.len_, Go.run_underlying hu, hy, goInt]
 ·rename_i hd
  rw [hd] at hu
  split at hq
  ·rename_i s hs
   simp only [Option.some.injEq] at hq; subst hq
   have hy := XRep_v (h.top.ev x) hs
   refine xg_pure (y := .int .i64 s.size) h ?_ (by simp [XRep, Value.oneCell'])
   simp [execOp, ho, resolve, invoke, builtin, Builtin.len_, Go.run_underlying hu, hy, goInt]
  ·simp at hq
 ·simp at hq
end
open Go Go.RowKit
abbrev CF := FuncId → List AV → XS → Option (AV × XS)
def HasBody (P : Program) (f : FuncId) : Prop := ∃ fn, P.funcs[f]? = some fn ∧ (fn.name == "runtime.NumGoroutine") = false ∧ fn.body.isNone = false
def CFOk (P : Program) (cf : CF) : Prop := ∀ f vs st r st', cf f vs st = some (r, st') → HasBody P f ∧
 ∀ (B : XB) (E : XE) (a : Act) (gv : List Act) (w : World) (vals : Array Value), XR B st E a gv w → XRepL w E vs vals.toList →
  Calls P f vals w fun e w' => ∃ y E', e = .returned y ∧ XR B st' E' a gv w' ∧ XRep w' E' r y
abbrev YF := Nat → List AV → XS → Option (AV × XS)
def YFOk (P : Program) (yf : YF) : Prop := ∀ t vs st r st', yf t vs st = some (r, st') →
 ∀ (B : XB) (E : XE) (a : Act) (gv : List Act) (w : World) (vals : Array Value), XR B st E a gv w → XRepL w E vs vals.toList →
  YieldAt (fen none) 0 P (E.blk t) vals w fun e w' => ∃ y E', e = .returned y ∧ XR B st' E' a gv w' ∧ XRep w' E' r y
def chunk (z : Nat) : Nat → List AV → List AV
 | 0, _ => []
 | m + 1, cs => (if z = 1 then cs.headD .junk else .agg (cs.take z)) :: chunk z m (cs.drop z)
def rsv (toks : List XT) : Nat → AV → AV
 | d + 1, .agg cs => .agg (cs.map (rsv toks d))
 | d + 1, .tup cs => .tup (cs.map (rsv toks d))
 | d + 1, .fn f cs => .fn f (cs.map (rsv toks d))
 | d + 1, .ref t [(z, 0)] lo m => (match kRow toks[t]? with
  | some (_, _, cs) => if lo + m * z ≤ cs.length ∧ cs.all oneX = true then .sl false z (chunk z m ((cs.drop lo).map (rsv toks d))) else .junk
  | none => .junk)
 | _, .v x => .v x
 | _, .sl nl z es => .sl nl z es
 | _, .fp e j => .fp e j
 | _, _ => .junk
section
variable {P : Program} {C : Ctx} {o : Oper} {B : XB} {st : XS} {E : XE} {a : Act} {gv : List Act} {w w' : World} {q : AV × XS}
def allX (st : XS) (E : XE) (b : Nat) : Prop := E.F b ∨ ∃ t k, st.toks[t]? = some k ∧ k ≠ .none ∧ b = E.blk t
theorem XR.allLt (h : XR B st E a gv w) {b : Nat} (hb : allX st E b) : b < w.heap.size := by
 rcases hb with hb | ⟨t, k, h1, h2, rfl⟩
 ·exact h.flt b hb
 ·exact (h.live t k h1 h2).2.1
theorem XRepL.map {X : Nat → Prop} {f : AV → AV} (hf : ∀ x y, XRep w E x y → Rep w X (f x) y) : ∀ {xs : List AV} {ys : List Value}, XRepL w E xs ys → RepL w X (xs.map f) ys
 | [], _, h => by simpa [XRepL, RepL] using h
 | x :: xs, _, h => by
  simp only [XRepL, List.map_cons, RepL] at h ⊢
  obtain ⟨y, ys, rfl, h1, h2⟩ := h
  exact ⟨y, ys, rfl, hf x y h1, XRepL.map hf h2⟩
theorem oneCell_cells {y : Value} (h : y.oneCell' = true) : y.cells = #[y] := by cases y <;> first | rfl | simp [Value.oneCell'] at h
theorem chunk_len {z : Nat} : ∀ {m : Nat} {cs : List AV}, (chunk z m cs).length = m
 | 0, _ => rfl
 | m + 1, cs => by simp [chunk, chunk_len]
theorem chunk_ok {X : Nat → Prop} {b z : Nat} (hb : X b) : ∀ {m o : Nat} {cs : List AV} {ys : List Value}, m * z ≤ cs.length → RepL w X cs ys → (∀ y ∈ ys, y.oneCell' = true) → (∀ j y, ys[j]? = some y → w.cell? ⟨b, o + j, none⟩ = some y) →
  (∀ c ∈ cs, c.cells.length = 1) → RepRow w X b z o (chunk z m cs)
 | 0, _, _, _, _, _, _, _, _ => by simp [chunk, RepRow]
 | m + 1, o, cs, ys, hl, hr, hone, hat, hc1 => by
  have hmul : (m + 1) * z = m * z + z := by rw [Nat.add_mul, Nat.one_mul]
  have hyl := hr.length
  simp only [chunk, RepRow]
  refine ⟨?_, chunk_ok hb (by simp; omega) (hr.drop (j := z)) (fun y hy => hone y (List.mem_of_mem_drop hy)) (fun j y hj => ?_) (fun c hc => hc1 c (List.mem_of_mem_drop hc))⟩
  ·split
   ·rename_i hz
    subst hz
    cases cs with
    | nil => simp at hl
    | cons c cs =>
     simp only [RepL] at hr
     obtain ⟨y, ys', rfl, h1, _⟩ := hr
     have hy1 := oneCell_cells (hone y (by simp))
     refine ⟨y, h1, by rw [hy1]; rfl, hc1 c (by simp), hb, fun j v hj => ?_⟩
     rw [hy1] at hj
     have hj0 : j = 0 := by
      rcases j with _ | j
      ·rfl
      ·simp at hj
     subst hj0
     exact hat 0 v (by simpa using hj)
   ·refine ⟨.agg (ys.take z).toArray, ?_, by simp [Value.cells]; omega, by simp [AV.cells]; omega, hb, fun j v hj => ?_⟩
    ·simp only [Rep]; exact ⟨_, rfl, hr.take (j := z)⟩
    ·simp only [Value.cells, List.toList_toArray] at hj
     rw [List.getElem?_take] at hj
     split at hj
     ·exact hat j v hj
     ·simp at hj
  ·rw [List.getElem?_drop] at hj
   have := hat _ _ hj
   rwa [← Nat.add_assoc] at this
theorem rsv_cells (toks : List XT) (d : Nat) {c : AV} (hc : oneX c = true) : (rsv toks d c).cells.length = 1 := by
 unfold rsv
 split <;> first | rfl | (simp [oneX] at hc; done) | (split <;> first | rfl | (split <;> rfl))
theorem XR.rsv (h : XR B st E a gv w) : ∀ (d : Nat) (x : AV) (y : Value), XRep w E x y → Rep w (allX st E) (Ax.rsv st.toks d x) y
 | 0, x, y, hx => by
  cases x <;> simp only [Ax.rsv] <;> first | simp only [Rep] | skip
  ·simpa [XRep, Rep] using hx
  ·simp only [XRep] at hx
   simpa only [Rep] using hx.weak (F' := allX st E) (fun _ h => .inl h) (Agree.refl _ _)
  ·simp only [XRep] at hx
   simpa only [Rep] using hx.weak (F' := allX st E) (fun _ h => .inl h) (Agree.refl _ _)
 | d + 1, x, y, hx => by
  have ih : ∀ x y, XRep w E x y → Rep w (allX st E) (Ax.rsv st.toks d x) y := XR.rsv h d
  cases x with
  | v z => simp only [Ax.rsv]; simpa [XRep, Rep] using hx
  | sl nl z es => simp only [Ax.rsv]; simp only [XRep] at hx; exact hx.weak (fun _ h => .inl h) (Agree.refl _ _)
  | fp e j => simp only [Ax.rsv]; simp only [XRep] at hx; exact hx.weak (fun _ h => .inl h) (Agree.refl _ _)
  | agg cs => simp only [Ax.rsv, Rep]; simp only [XRep] at hx; obtain ⟨ys, rfl, hx⟩ := hx; exact ⟨ys, rfl, hx.map ih⟩
  | tup cs => simp only [Ax.rsv, Rep]; simp only [XRep] at hx; obtain ⟨ys, rfl, hx⟩ := hx; exact ⟨ys, rfl, hx.map ih⟩
  | fn f cs => simp only [Ax.rsv, Rep]; simp only [XRep] at hx; obtain ⟨ys, rfl, hx⟩ := hx; exact ⟨ys, rfl, hx.map ih⟩
  | ref t p lo m =>
   simp only [XRep] at hx
   obtain ⟨_, hx⟩ := hx
   split at hx
   ·rename_i z
    obtain ⟨cap, rfl, h1, h2, h3⟩ := hx
    simp only [Ax.rsv]
    split
    ·rename_i T ex cs hk
     have hk' : st.toks[t]? = some (.row T ex cs) := kRow_ok hk
     split
     ·rename_i hcond
      obtain ⟨hfit, hone⟩ := hcond
      obtain ⟨ys, g1, g2, g3⟩ := (h.tok t _ hk').at
      simp only [Rep]
      refine ⟨_, m, cap, rfl, chunk_len.symm, h1, h2, .inr (.inl ⟨_, _, rfl, trivial, ?_⟩)⟩
      refine chunk_ok (.inr ⟨t, _, hk', by simp, rfl⟩) (by simp; omega) ((g1.drop lo).map ih) (fun y hy => g1.one hone y (List.mem_of_mem_drop hy)) (fun j y hj => ?_) (fun c hc => ?_)
      ·rw [List.getElem?_drop] at hj; exact g3 _ _ hj
      ·obtain ⟨c', h1, rfl⟩ := List.mem_map.1 hc
       exact rsv_cells _ _ (List.all_eq_true.1 hone c' (List.mem_of_mem_drop h1))
     ·simp [Rep]
    ·simp [Rep]
   ·simp [Ax.rsv, Rep]
   ·exact hx.elim
  | ptr t p i j => simp only [Ax.rsv, Rep]
  | junk => simp only [Ax.rsv, Rep]
theorem XR.rsvL (h : XR B st E a gv w) (d : Nat) {xs : List AV} {ys : List Value} (hx : XRepL w E xs ys) : RepL w (allX st E) (xs.map (Ax.rsv st.toks d)) ys := hx.map (h.rsv d)
mutual
theorem XRep.frz {x : AV} {y : Value} (h : XRep w E x y) (hf : Ax.frz x = true) : Rep w E.F x y := by
 cases x with
 | v z => simpa [XRep, Rep] using h
 | sl nl sz es => simpa only [XRep] using h
 | fp e j => simpa only [XRep] using h
 | agg cs =>
  simp only [XRep, Rep] at h ⊢
  obtain ⟨ys, rfl, h⟩ := h
  refine ⟨ys, rfl, XRepL.frz cs _ h fun c hc => ?_⟩
  simp only [Ax.frz, List.all_eq_true] at hf
  have := hf c hc
  split at this <;> first | exact .inl ⟨_, rfl⟩ | exact .inr (.inl ⟨_, _, _, rfl⟩) | exact .inr (.inr ⟨_, _, rfl⟩) | simp at this
 | fn f cs =>
  simp only [XRep, Rep] at h ⊢
  obtain ⟨ys, rfl, h⟩ := h
  refine ⟨ys, rfl, XRepL.frz cs _ h fun c hc => ?_⟩
  simp only [Ax.frz, List.all_eq_true] at hf
  have := hf c hc
  split at this <;> first | exact .inl ⟨_, rfl⟩ | exact .inr (.inl ⟨_, _, _, rfl⟩) | exact .inr (.inr ⟨_, _, rfl⟩) | simp at this
 | _ => simp [Ax.frz] at hf
theorem XRepL.frz : ∀ (cs : List AV) (ys : List Value), XRepL w E cs ys → (∀ c ∈ cs, (∃ x, c = .v x) ∨ (∃ nl sz es, c = .sl nl sz es) ∨ ∃ e j, c = .fp e j) → RepL w E.F cs ys
 | [], _, h, _ => by simpa [XRepL, RepL] using h
 | c :: cs, ys, h, hc => by
  simp only [XRepL, RepL] at h ⊢
  obtain ⟨y, ys, rfl, h1, h2⟩ := h
  refine ⟨y, ys, rfl, ?_, XRepL.frz cs ys h2 fun c h => hc c (by simp [h])⟩
  rcases hc c (by simp) with ⟨x, rfl⟩ | ⟨nl, sz, es, rfl⟩ | ⟨e, j, rfl⟩
  ·simpa [XRep, Rep] using h1
  ·simpa only [XRep] using h1
  ·simpa only [XRep] using h1
end
theorem XRepL.frzL {cs : List AV} (hc : cs.all Ax.frz = true) {ys : List Value} (h : XRepL w E cs ys) : RepL w E.F cs ys := by
 induction cs generalizing ys with
 | nil => simpa [XRepL, RepL] using h
 | cons c cs ih =>
  simp only [XRepL, RepL, List.all_cons, Bool.and_eq_true] at h hc ⊢
  obtain ⟨y, ys, rfl, h1, h2⟩ := h
  exact ⟨y, ys, rfl, h1.frz hc.1, ih hc.2 h2⟩
def cfC (C : Ctx) (d : Nat) : CF := fun f vs st => match C.G f (vs.map (rsv st.toks d)) with
 | some r => some (r, st)
 | none => (match C.H f (vs.map (rsv st.toks d)) with
  | some (false, r) => some (r, st)
  | some (true, _) => (match vs.all frz, C.H f vs with
   | true, some (_, r) => some (r, st)
   | _, _ => none)
  | none => none)
theorem XR.frzCall (h : XR B st E a gv w) {f : FuncId} {args : List AV} {sh : Bool} {r : AV} (hc : FrzOk P f args sh r) {vals : Array Value} {X : Nat → Prop} (hX : ∀ b, X b → allX st E b) (hEX : ∀ b, E.F b → X b)
  (hargs : RepL w X args vals.toList) (hsh : sh = true → ∀ b, X b → E.F b) : Calls P f vals w fun e w' => ∃ y E', e = .returned y ∧ XR B st E' a gv w' ∧ XRep w' E' r y := by
 obtain ⟨_, hcall⟩ := hc
 refine (hcall w X vals ⟨fun b hb => h.allLt (hX b hb), h.gl.mono hEX⟩ hargs).mono fun e w' he => ?_
 obtain ⟨y, F', rfl, hfr, hF', hrep⟩ := he
 refine ⟨y, E.more F', rfl, h.grow hfr fun b hb => ?_, XRep.of_rep _ _ (hrep.weak (fun _ h => .inr h) (Agree.refl _ _))⟩
 obtain ⟨h1, h2⟩ := hF' b hb
 rcases h1 with ⟨h1, h3⟩ | h1
 ·exact .inl (hsh h1 b h3)
 ·exact .inr ⟨h1, h2⟩
theorem cfC_ok (hC : C.Ok P) (d : Nat) : CFOk P (cfC C d) := by
 intro f vs st r st' hcf
 unfold cfC at hcf
 split at hcf
 ·rename_i r' hr
  simp only [Option.some.injEq, Prod.mk.injEq] at hcf
  obtain ⟨rfl, rfl⟩ := hcf
  have hc := (hC.G _ _ _ hr).frz
  exact ⟨hc.1, fun B E a gv w vals h hv => h.frzCall hc (fun _ h => h) (fun _ h => .inl h) (h.rsvL d hv) (fun h => by simp at h)⟩
 ·split at hcf
  ·rename_i r' hr
   simp only [Option.some.injEq, Prod.mk.injEq] at hcf
   obtain ⟨rfl, rfl⟩ := hcf
   have hc := hC.H _ _ _ _ hr
   exact ⟨hc.1, fun B E a gv w vals h hv => h.frzCall hc (fun _ h => h) (fun _ h => .inl h) (h.rsvL d hv) (fun h => by simp at h)⟩
  ·split at hcf
   ·rename_i sh r' hfz hr
    simp only [Option.some.injEq, Prod.mk.injEq] at hcf
    obtain ⟨rfl, rfl⟩ := hcf
    have hc := hC.H _ _ _ _ hr
    exact ⟨hc.1, fun B E a gv w vals h hv => h.frzCall hc (X := E.F) (fun _ h => .inl h) (fun _ h => h) (XRepL.frzL hfz hv) (fun _ _ h => h)⟩
   ·simp at hcf
  ·simp at hcf
def x_call (cf : CF) (f : Operand) (args : List Operand) (st : XS) : Option (AV × XS) := match ev st.slots f with
 | .fn g caps => cf g (args.map (ev st.slots) ++ caps) st
 | .ref t [(g, 1)] lo _ => cf g (.ptr t [] 0 lo :: args.map (ev st.slots)) st
 | _ => none
theorem xg_call {cf : CF} (hcf : CFOk P cf) (h : XR B st E a gv w) {f : Operand} {args : Array Operand} {ts : Array TypeId} (ho : o.op = .call { callee := .value f, args := args, argTypes := ts }) (hq : x_call cf f args.toList st = some q) : XG P o a w B gv q := by
 simp only [x_call] at hq
 split at hq
 ·rename_i g caps hf
  obtain ⟨r, st'⟩ := q
  obtain ⟨⟨fn, hfn, hn1, hn2⟩, hcall⟩ := hcf _ _ _ _ _ hq
  have hfv := h.top.ev f
  rw [hf] at hfv
  simp only [XRep] at hfv
  obtain ⟨cv, hfv, hcaps⟩ := hfv
  intro next hn
  have hrep : XRepL w E (args.toList.map (ev st.slots) ++ caps) (args.map a.eval ++ cv).toList := by
   rw [Array.toList_append, Array.toList_map]
   exact (h.top.evL _).app hcaps
  have hrun : (execOp a.eval o).run P w = .ok (.enter g (args.map a.eval ++ cv)) w := by
   have e1 : fn.name ≠ "runtime.NumGoroutine" := by simpa using hn1
   have e2 : fn.body ≠ Option.none := by intro e; rw [e] at hn2; simp at hn2
   simp [execOp, ho, resolve, hfv, Deferred.ofValue, invoke, callFunc, hfn, e1, e2]
  refine .inr (.inr ⟨_, _, _, hrun, ?_⟩)
  refine (hcall B E a gv w _ h hrep).mono fun e w' he => ?_
  obtain ⟨y, E', rfl, h1, h2⟩ := he
  exact ⟨y, rfl, hn E' y w' h1 h2⟩
 ·rename_i t g lo _ hf
  obtain ⟨r, st'⟩ := q
  obtain ⟨⟨fn, hfn, hn1, hn2⟩, hcall⟩ := hcf _ _ _ _ _ hq
  have hfv := h.top.ev f
  rw [hf] at hfv
  simp only [XRep, XRef] at hfv
  obtain ⟨hlt, hfv⟩ := hfv
  intro next hn
  have hrep : XRepL w E (.ptr t [] 0 lo :: args.toList.map (ev st.slots)) (#[Value.pointer (some ⟨E.blk t, lo, none⟩)] ++ args.map a.eval).toList := by
   rw [Array.toList_append, Array.toList_map]
   simp only [XRepL, List.cons_append, List.nil_append]
   exact ⟨_, _, rfl, by simp only [XRep, XPtr]; exact ⟨hlt, trivial⟩, h.top.evL _⟩
  have hrun : (execOp a.eval o).run P w = .ok (.enter g (#[Value.pointer (some ⟨E.blk t, lo, none⟩)] ++ args.map a.eval)) w := by
   have e1 : fn.name ≠ "runtime.NumGoroutine" := by simpa using hn1
   have e2 : fn.body ≠ Option.none := by intro e; rw [e] at hn2; simp at hn2
   simp [execOp, ho, resolve, hfv, Deferred.ofValue, invoke, callFunc, hfn, e1, e2]
  refine .inr (.inr ⟨_, _, _, hrun, ?_⟩)
  refine (hcall B E a gv w _ h hrep).mono fun e w' he => ?_
  obtain ⟨y, E', rfl, h1, h2⟩ := he
  exact ⟨y, rfl, hn E' y w' h1 h2⟩
 ·simp at hq
end
open Go Go.RowKit
def idxN (k : Nat) : List Nat → Option Nat
 | [] => none
 | x :: l => if x = k then some 0 else (idxN k l).map (· + 1)
theorem idxN_some {k : Nat} : ∀ {l : List Nat} {i : Nat}, idxN k l = some i → l[i]? = some k
 | [], _, h => by simp [idxN] at h
 | x :: l, i, h => by
  unfold idxN at h
  split at h
  ·rename_i e; simp only [Option.some.injEq] at h; subst h; simp [e]
  ·obtain ⟨j, hj, rfl⟩ := Option.map_eq_some_iff.1 h
   simpa using idxN_some hj
mutual
def renX (f : Nat → Option Nat) : AV → AV
 | .v x => .v x
 | .agg cs => .agg (renXL f cs)
 | .tup cs => .tup (renXL f cs)
 | .sl nl z es => .sl nl z es
 | .fp e j => .fp e j
 | .fn g cs => .fn g (renXL f cs)
 | .ref t p lo n => (match f t with
  | some t' => .ref t' p lo n
  | none => .junk)
 | .ptr t p i j => (match f t with
  | some t' => .ptr t' p i j
  | none => .junk)
 | .junk => .junk
def renXL (f : Nat → Option Nat) : List AV → List AV
 | [] => []
 | c :: cs => renX f c :: renXL f cs
end
def renT (f : Nat → Option Nat) : XT → XT
 | .row T ex cs => .row T ex (renXL f cs)
 | .map es => .map (es.map fun e => (renX f e.1, renX f e.2))
 | .loop s S ps assign body pend live => .loop s (renXL f S) ps assign body pend live
 | .dfr l => (match f l with
  | some l' => .dfr l'
  | none => .none)
 | k => k
def renD (f : Nat → Option Nat) : List Nat → Option (List Nat)
 | [] => some []
 | d :: ds => (match f d, renD f ds with
  | some d', some ds' => some (d' :: ds')
  | _, _ => none)
def renG (f : Nat → Option Nat) : List (List AV × List Nat) → Option (List (List AV × List Nat))
 | [] => some []
 | g :: gs => (match renD f g.2, renG f gs with
  | some d', some gs' => some ((renXL f g.1, d') :: gs')
  | _, _ => none)
def gcX (ks : List Nat) (st : XS) : Option XS := if ks.Nodup then (match renD (idxN · ks) st.df, renG (idxN · ks) st.gh with
 | some d, some g => some ⟨renXL (idxN · ks) st.slots, d, g, ks.map fun k => renT (idxN · ks) (st.toks.getD k .none)⟩
 | _, _ => none) else none
def refsT : Option XT → List Nat
 | some (.row _ _ cs) => refsL cs
 | some (.map es) => es.flatMap fun e => refs e.1 ++ refs e.2
 | some (.loop _ S _ _ _ _ _) => refsL S
 | some (.dfr l) => [l]
 | _ => []
def ordX (toks : List XT) : Nat → List Nat → List Nat → List Nat
 | 0, _, acc => acc.reverse
 | _ + 1, [], acc => acc.reverse
 | n + 1, k :: q, acc => if acc.contains k then ordX toks n q acc else ordX toks n (q ++ refsT toks[k]?) (k :: acc)
def canon (st : XS) : Option XS := gcX (ordX st.toks 100000 (refsL st.slots ++ st.df ++ st.gh.flatMap fun g => refsL g.1 ++ g.2) []) st
section
variable {w w' : World} {E : XE} {B : XB} {st : XS} {a : Act} {gv : List Act}
def XE.ren (E : XE) (ks : List Nat) : XE := { F := E.F, n := ks.length, blk := fun i => E.blk (ks.getD i 0), sz := fun i => E.sz (ks.getD i 0) }
theorem idxN_blk {ks : List Nat} {t t' : Nat} (h : idxN t ks = some t') : t' < ks.length ∧ (E.ren ks).blk t' = E.blk t ∧ (E.ren ks).sz t' = E.sz t := by
 have h' := idxN_some h
 have e : ks.getD t' 0 = t := by rw [List.getD_eq_getElem?_getD, h']; rfl
 exact ⟨(List.getElem?_eq_some_iff.1 h').1, by simp only [XE.ren]; rw [e], by simp only [XE.ren]; rw [e]⟩
mutual
theorem XRep.ren {ks : List Nat} : ∀ (x : AV) (y : Value), XRep w E x y → XRep w (E.ren ks) (renX (idxN · ks) x) y
 | .v _, _, k => by simpa [XRep, renX] using k
 | .agg cs, _, k => by simp only [XRep, renX] at k ⊢; obtain ⟨ys, rfl, k⟩ := k; exact ⟨ys, rfl, XRepL.ren cs _ k⟩
 | .tup cs, _, k => by simp only [XRep, renX] at k ⊢; obtain ⟨ys, rfl, k⟩ := k; exact ⟨ys, rfl, XRepL.ren cs _ k⟩
 | .sl nl sz es, _, k => by simp only [XRep, renX] at k ⊢; exact k
 | .fp e j, _, k => by simp only [XRep, renX] at k ⊢; exact k
 | .fn f cs, _, k => by simp only [XRep, renX] at k ⊢; obtain ⟨ys, rfl, k⟩ := k; exact ⟨ys, rfl, XRepL.ren cs _ k⟩
 | .ref t p lo n, _, k => by
  simp only [renX]
  split
  ·rename_i t' ht
   obtain ⟨h1, h2, h3⟩ := idxN_blk (E := E) ht
   simp only [XRep, XRef] at k ⊢
   refine ⟨h1, ?_⟩
   rw [h2, h3]; exact k.2
  ·simp [XRep]
 | .ptr t p i j, _, k => by
  simp only [renX]
  split
  ·rename_i t' ht
   obtain ⟨h1, h2, h3⟩ := idxN_blk (E := E) ht
   simp only [XRep, XPtr] at k ⊢
   refine ⟨h1, ?_⟩
   rw [h2]; exact k.2
  ·simp [XRep]
 | .junk, _, _ => by simp [XRep, renX]
theorem XRepL.ren {ks : List Nat} : ∀ (x : List AV) (y : List Value), XRepL w E x y → XRepL w (E.ren ks) (renXL (idxN · ks) x) y
 | [], _, k => by simpa [XRepL, renXL] using k
 | c :: cs, _, k => by
  simp only [XRepL, renXL] at k ⊢; obtain ⟨y, ys, rfl, k1, k2⟩ := k
  exact ⟨y, ys, rfl, XRep.ren c y k1, XRepL.ren cs ys k2⟩
end
theorem renXL_len {f : Nat → Option Nat} : ∀ {l : List AV}, (renXL f l).length = l.length
 | [] => rfl
 | _ :: l => by simp [renXL, renXL_len (l := l)]
theorem XEnt.ren {ks : List Nat} : ∀ {es : List (AV × AV)} {ms : List MapEntry}, XEnt w E es ms → XEnt w (E.ren ks) (es.map fun e => (renX (idxN · ks) e.1, renX (idxN · ks) e.2)) ms
 | [], _, h => by simpa [XEnt] using h
 | e :: es, _, h => by
  simp only [XEnt, List.map_cons] at h ⊢
  obtain ⟨m, ms, rfl, h1, h2, h3⟩ := h
  exact ⟨m, ms, rfl, h1.ren, h2.ren, XEnt.ren h3⟩
theorem renD_ok {ks : List Nat} : ∀ {d d' : List Nat}, renD (idxN · ks) d = some d' → d'.map (markX (E.ren ks)) = d.map (markX E) ∧ ∀ t ∈ d', t < ks.length
 | [], _, h => by simp only [renD, Option.some.injEq] at h; subst h; simp
 | x :: d, _, h => by
  simp only [renD] at h
  split at h
  ·rename_i x' d' h1 h2
   simp only [Option.some.injEq] at h; subst h
   obtain ⟨g1, g2, _⟩ := idxN_blk (E := E) h1
   obtain ⟨k1, k2⟩ := renD_ok h2
   refine ⟨by simp only [List.map_cons, k1, markX, g2], fun t ht => ?_⟩
   rcases List.mem_cons.1 ht with rfl | ht
   ·exact g1
   ·exact k2 t ht
  ·simp at h
theorem XFr.ren {ks : List Nat} {s : List AV} {d d' : List Nat} (h : XFr w E s d a) (hd : renD (idxN · ks) d = some d') : XFr w (E.ren ks) (renXL (idxN · ks) s) d' a :=
 ⟨XRepL.ren _ _ h.1, h.2.1.trans (renD_ok (E := E) hd).1.symm, (renD_ok (E := E) hd).2⟩
theorem renG_ok {ks : List Nat} : ∀ {g g' : List (List AV × List Nat)} {gv : List Act}, XGh w E g gv → renG (idxN · ks) g = some g' → XGh w (E.ren ks) g' gv
 | [], _, _, h, hg => by simp only [renG, Option.some.injEq] at hg; subst hg; simpa [XGh] using h
 | x :: g, _, _, h, hg => by
  simp only [renG] at hg
  split at hg
  ·rename_i d' gs' h1 h2
   simp only [Option.some.injEq] at hg; subst hg
   simp only [XGh] at h ⊢
   obtain ⟨v, vs, rfl, k1, k2⟩ := h
   exact ⟨v, vs, rfl, k1.ren h1, renG_ok k2 h2⟩
  ·simp at hg
theorem XTok.ren {ks : List Nat} {t t' : Nat} {k : XT} (hb : (E.ren ks).blk t' = E.blk t ∧ (E.ren ks).sz t' = E.sz t) (h : XTok w E t k) : XTok w (E.ren ks) t' (renT (idxN · ks) k) := by
 cases k with
 | row T ex cs =>
  obtain ⟨c, h1, h2, h3, h4, h5⟩ := h
  exact ⟨c, by rw [hb.1]; exact h1, by rw [hb.2]; exact h2, by rw [renXL_len]; exact h3, by rw [renXL_len]; exact XRepL.ren _ _ h4, by rw [renXL_len]; exact h5⟩
 | map es =>
  obtain ⟨m, k, h1, h2⟩ := h
  exact ⟨m, k, by rw [hb.1]; exact h1, h2.ren⟩
 | dfr l =>
  simp only [renT]
  split
  ·rename_i l' hl
   obtain ⟨g1, g2, _⟩ := idxN_blk (E := E) hl
   simp only [XTok] at h ⊢
   rw [hb.1, g2]; exact ⟨h.1, g1, h.2.2⟩
  ·trivial
 | loop s S ps assign body pend live =>
  obtain ⟨fn, tmps, D, h1, h2⟩ := h
  exact ⟨fn, tmps, D, by rw [hb.1]; exact h1, XRepL.ren _ _ h2⟩
 | none => trivial
theorem renT_none {f : Nat → Option Nat} {k : XT} (h : renT f k ≠ .none) : k ≠ .none := fun e => h (by rw [e]; rfl)
theorem gcX_ok {ks : List Nat} {st' : XS} (h : XR B st E a gv w) (hg : gcX ks st = some st') : XR B st' (E.ren ks) a gv w := by
 unfold gcX at hg
 split at hg
 rotate_left
 ·simp at hg
 rename_i hnd
 split at hg
 rotate_left
 ·simp at hg
 rename_i d g hd hgg
 simp only [Option.some.injEq] at hg; subst hg
 have hget : ∀ {i : Nat} {k : XT}, (ks.map fun k => renT (idxN · ks) (st.toks.getD k .none))[i]? = some k → ∃ t, ks[i]? = some t ∧ k = renT (idxN · ks) (st.toks.getD t .none) ∧ (E.ren ks).blk i = E.blk t ∧ (E.ren ks).sz i = E.sz t := fun {i k} hi => by
  rw [List.getElem?_map] at hi
  obtain ⟨t, h1, h2⟩ := Option.map_eq_some_iff.1 hi
  have e : ks.getD i 0 = t := by rw [List.getD_eq_getElem?_getD, h1]; rfl
  exact ⟨t, h1, h2.symm, by simp only [XE.ren]; rw [e], by simp only [XE.ren]; rw [e]⟩
 have hlive : ∀ {t : Nat}, renT (idxN · ks) (st.toks.getD t .none) ≠ .none → ∃ k, st.toks[t]? = some k ∧ st.toks.getD t .none = k ∧ k ≠ .none := fun {t} hne => by
  have := renT_none hne
  rw [List.getD_eq_getElem?_getD] at this ⊢
  cases ht : st.toks[t]? with
  | none => rw [ht] at this; exact (this rfl).elim
  | some k => rw [ht] at this; exact ⟨k, rfl, rfl, this⟩
 refine ⟨by simp [XE.ren], h.top.ren hd, renG_ok h.ghost hgg, fun i k hi => ?_, fun i k hi hk => ?_, fun i j k l hi hj hk hl hne => ?_, h.flt, h.fz, h.gl, h.frame⟩
 ·obtain ⟨t, _, rfl, e2⟩ := hget hi
  by_cases hne : renT (idxN · ks) (st.toks.getD t .none) = .none
  ·rw [hne]; trivial
  ·obtain ⟨k, h1, h2, _⟩ := hlive hne
   rw [h2]; exact (h.tok t k h1).ren e2
 ·obtain ⟨t, _, rfl, e2, _⟩ := hget hi
  obtain ⟨k, h1, _, h3⟩ := hlive hk
  rw [e2]; exact h.live t k h1 h3
 ·obtain ⟨t, g1, rfl, e2, _⟩ := hget hi
  obtain ⟨t', g1', rfl, e2', _⟩ := hget hj
  obtain ⟨k, h1, _, h3⟩ := hlive hk
  obtain ⟨k', h1', _, h3'⟩ := hlive hl
  rw [e2, e2']
  refine h.inj t t' k k' h1 h1' h3 h3' fun e => hne ?_
  subst e
  have hi1 := (List.getElem?_eq_some_iff.1 g1)
  obtain ⟨q1, q2⟩ := hi1
  obtain ⟨q1', q2'⟩ := List.getElem?_eq_some_iff.1 g1'
  have hp := List.pairwise_iff_getElem.1 hnd
  rcases Nat.lt_trichotomy i j with h | h | h
  ·exact absurd (q2.trans q2'.symm) (hp i j q1 q1' h)
  ·exact h
  ·exact absurd (q2'.trans q2.symm) (hp j i q1' q1 h)
theorem canon_ok {st' : XS} (h : XR B st E a gv w) (hc : canon st = some st') : ∃ E', XR B st' E' a gv w := ⟨_, gcX_ok h hc⟩
end
def eqV : Value → Value → Bool
 | .int k n, .int k' n' => decide (k = k') && decide (n = n')
 | .bool b, .bool b' => b == b'
 | .string s, .string s' => s.data.toList == s'.data.toList
 | .pointer none, .pointer none => true
 | .slice none a b, .slice none a' b' => decide (a = a') && decide (b = b')
 | .nilFunc, .nilFunc => true
 | .nilIface, .nilIface => true
 | .map none, .map none => true
 | _, _ => false
theorem eqV_ok {x y : Value} (h : eqV x y = true) : x = y := by
 unfold eqV at h
 split at h <;> first | rfl | (simp at h; done) | skip
 ·simp only [Bool.and_eq_true, decide_eq_true_eq] at h; obtain ⟨rfl, rfl⟩ := h; rfl
 ·simp only [beq_iff_eq] at h; subst h; rfl
 ·rename_i s s'
  simp only [beq_iff_eq] at h
  cases s with | mk d => cases s' with | mk d' =>
   cases d with | mk l => cases d' with | mk l' => simp at h; subst h; rfl
 ·simp only [Bool.and_eq_true, decide_eq_true_eq] at h; obtain ⟨rfl, rfl⟩ := h; rfl
mutual
def eqA : AV → AV → Bool
 | .v x, .v y => eqV x y
 | .agg l, .agg l' => eqL l l'
 | .tup l, .tup l' => eqL l l'
 | .sl b n l, .sl b' n' l' => (b == b') && decide (n = n') && eqL l l'
 | .fp e j, .fp e' j' => decide (j = j') && eqA e e'
 | .fn f l, .fn f' l' => decide (f = f') && eqL l l'
 | .ref t p a b, .ref t' p' a' b' => decide (t = t') && decide (p = p') && decide (a = a') && decide (b = b')
 | .ptr t p a b, .ptr t' p' a' b' => decide (t = t') && decide (p = p') && decide (a = a') && decide (b = b')
 | .junk, .junk => true
 | _, _ => false
def eqL : List AV → List AV → Bool
 | [], [] => true
 | x :: l, y :: l' => eqA x y && eqL l l'
 | _, _ => false
end
mutual
theorem eqA_ok : ∀ {x y : AV}, eqA x y = true → x = y := by
 intro x y h
 cases x <;> cases y <;> simp only [eqA, Bool.and_eq_true, decide_eq_true_eq, beq_iff_eq, Bool.false_eq_true] at h
 ·rw [eqV_ok h]
 ·rw [eqL_ok h]
 ·rw [eqL_ok h]
 ·obtain ⟨⟨rfl, rfl⟩, h⟩ := h; rw [eqL_ok h]
 ·obtain ⟨rfl, h⟩ := h; rw [eqA_ok h]
 ·obtain ⟨rfl, h⟩ := h; rw [eqL_ok h]
 ·obtain ⟨⟨⟨rfl, rfl⟩, rfl⟩, rfl⟩ := h; rfl
 ·obtain ⟨⟨⟨rfl, rfl⟩, rfl⟩, rfl⟩ := h; rfl
 ·rfl
theorem eqL_ok : ∀ {x y : List AV}, eqL x y = true → x = y
 | [], [], _ => rfl
 | x :: l, y :: l', h => by
  simp only [eqL, Bool.and_eq_true] at h
  rw [eqA_ok h.1, eqL_ok h.2]
 | [], _ :: _, h => by simp [eqL] at h
 | _ :: _, [], h => by simp [eqL] at h
end
def eqE : List (AV × AV) → List (AV × AV) → Bool
 | [], [] => true
 | x :: l, y :: l' => eqA x.1 y.1 && eqA x.2 y.2 && eqE l l'
 | _, _ => false
theorem eqE_ok : ∀ {x y : List (AV × AV)}, eqE x y = true → x = y
 | [], [], _ => rfl
 | (x, x') :: l, (y, y') :: l', h => by
  simp only [eqE, Bool.and_eq_true] at h
  rw [eqA_ok h.1.1, eqA_ok h.1.2, eqE_ok h.2]
 | [], _ :: _, h => by simp [eqE] at h
 | _ :: _, [], h => by simp [eqE] at h
def eqTk : List XT → List XT → Bool
 | [], [] => true
 | .row T e a :: l, .row T' e' b :: l' => decide (T = T') && decide (e = e') && eqL a b && eqTk l l'
 | .map a :: l, .map b :: l' => eqE a b && eqTk l l'
 | .dfr x :: l, .dfr y :: l' => decide (x = y) && eqTk l l'
 | .none :: l, .none :: l' => eqTk l l'
 | _, _ => false
theorem eqTk_ok : ∀ {x y : List XT}, eqTk x y = true → x = y
 | [], [], _ => rfl
 | x :: l, y :: l', h => by
  cases x <;> cases y <;> simp only [eqTk, Bool.and_eq_true, decide_eq_true_eq, Bool.false_eq_true] at h
  ·obtain ⟨⟨⟨rfl, rfl⟩, h1⟩, h2⟩ := h; rw [eqL_ok h1, eqTk_ok h2]
  ·rw [eqE_ok h.1, eqTk_ok h.2]
  ·obtain ⟨rfl, h⟩ := h; rw [eqTk_ok h]
  ·rw [eqTk_ok h]
 | [], _ :: _, h => by simp [eqTk] at h
 | x :: _, [], h => by cases x <;> simp [eqTk] at h
def eqG : List (List AV × List Nat) → List (List AV × List Nat) → Bool
 | [], [] => true
 | x :: l, y :: l' => eqL x.1 y.1 && decide (x.2 = y.2) && eqG l l'
 | _, _ => false
theorem eqG_ok : ∀ {x y : List (List AV × List Nat)}, eqG x y = true → x = y
 | [], [], _ => rfl
 | (x, x') :: l, (y, y') :: l', h => by
  simp only [eqG, Bool.and_eq_true, decide_eq_true_eq] at h
  obtain ⟨⟨h1, rfl⟩, h2⟩ := h
  rw [eqL_ok h1, eqG_ok h2]
 | [], _ :: _, h => by simp [eqG] at h
 | _ :: _, [], h => by simp [eqG] at h
def eqS (s s' : XS) : Bool := eqL s.slots s'.slots && decide (s.df = s'.df) && eqG s.gh s'.gh && eqTk s.toks s'.toks
theorem eqS_ok {s s' : XS} (h : eqS s s' = true) : s = s' := by
 simp only [eqS, Bool.and_eq_true, decide_eq_true_eq] at h
 obtain ⟨⟨⟨h1, h2⟩, h3⟩, h4⟩ := h
 cases s; cases s'
 simp only at h1 h2 h3 h4
 rw [eqL_ok h1, h2, eqG_ok h3, eqTk_ok h4]
open Go Go.RowKit
section
variable {P : Program} {w : World}
set_option maxHeartbeats 1000000 in
theorem run_growX {t t2 ty el : TypeId} {te : TI} {d2 : TypeDesc} (hu : P.underlying t = some (.slice el)) (hu2 : P.underlying t2 = some d2) (hd2 : d2 = .string ∨ ∃ e, d2 = .slice e) (hte : TOk P el te) (_hpos : 0 < te.size)
  {ad : Option Addr} {len cap : Nat} {xs : List Value} (hm : cap ≤ maxLen)
  (hx : (ad = none ∧ len = 0 ∧ cap = 0 ∧ xs = []) ∨ ∃ b o cur, ad = some ⟨b, o, none⟩ ∧ w.heap[b]? = some (.cells cur el (0, 0)) ∧ o + cap * te.size ≤ cur.size ∧ len ≤ cap ∧ xs.length = len * te.size ∧ ∀ j v, xs[j]? = some v → w.cell? ⟨b, o + j, none⟩ = some v)
  {y : Value} {m : Nat} {news : List Value} (hnl : news.length = m * te.size) (hone : ∀ v ∈ news, v.oneCell' = true) (hm0 : 0 < m) (hly : ∀ w1, (Builtin.lenOf y).run P w1 = .ok m w1)
  (hfirst : ∀ w1 : World, (∀ a, w1.cell? a = w.cell? a) → (Builtin.firstCells te.size m y).run P w1 = .ok news.toArray w1)
  (h63 : len + m ≤ maxLen) (hbytes : (len + m) * te.bytes ≤ 140737488355328) :
  ∃ b' o' cap' cur' w', (Builtin.append_ #[t, t2] ty #[.slice ad len cap, y]).run P w = .ok (.slice (some ⟨b', o', none⟩) (len + m) cap') w' ∧ cap' ≤ maxLen ∧
   w'.heap[b']? = some (.cells cur' el (0, 0)) ∧ o' + cap' * te.size ≤ cur'.size ∧ len + m ≤ cap' ∧
     (∀ j v, (xs ++ news)[j]? = some v → w'.cell? ⟨b', o' + j, none⟩ = some v) ∧
     ((b' = w.heap.size ∧ o' = 0 ∧ Frm (fun _ => False) w w' ∧ b' < w'.heap.size) ∨ (ad = some ⟨b', o', none⟩ ∧ cap' = cap ∧ Frm (fun b => b = b') w w' ∧ w'.heap.size = w.heap.size ∧ ∃ cur, w.heap[b']? = some (.cells cur el (0, 0)) ∧ cur'.size = cur.size)) := by
 obtain ⟨i, hi, hi1, hi2, hi3⟩ := hte.info
 have hsz := hi1
 by_cases hroom : len + m ≤ cap
 ·rcases hx with ⟨rfl, rfl, rfl, rfl⟩ | ⟨b, o, cur, rfl, hg, hfit, hlc, hxl, hxc⟩
  ·omega
  ·have hmul : (len + m) * te.size ≤ cap * te.size := Nat.mul_le_mul_right _ hroom
   rw [Nat.add_mul] at hmul
   have hfit' : o + len * te.size + news.length ≤ cur.size := by rw [hnl]; omega
   have hst := run_storeCells_at (P := P) b (o + len * te.size) el news 0 cur w hg (by simpa using hfit') hone
   simp only [Nat.add_zero] at hst
   have hf := hfirst w (fun _ => rfl)
   refine ⟨b, o, cap, _, w.setRow b (cur.toList.take (o + len * te.size) ++ news ++ cur.toList.drop (o + len * te.size + news.length)).toArray, ?_, hm, setRow_heap w b cur _ el (0, 0) hg, ?_, hroom, ?_, .inr ⟨rfl, rfl, ⟨rfl, rfl, rfl, by simp [World.setRow], fun k _ hk => setRow_other w b k _ hk⟩, by simp [World.setRow], cur, hg, ?_⟩⟩
   ·rcases hd2 with rfl | ⟨e, rfl⟩ <;> simp [Builtin.append_, run_underlying hu, run_underlying hu2, sizeOf, typeInfo, hi, hroom, hf, add_addr, hst, hsz, hly]
   ·simp only [List.size_toArray, List.length_append, List.length_take, List.length_drop, Array.length_toList]
    omega
   ·intro j v hj
    rw [cell_setRow hg hfit']
    by_cases hlt : j < len * te.size
    ·rw [if_neg (by omega)]
     rw [List.getElem?_append_left (by omega)] at hj
     exact hxc j v hj
    ·rw [List.getElem?_append_right (by omega), hxl] at hj
     have := (List.getElem?_eq_some_iff.1 hj).1
     rw [if_pos ⟨by omega, by omega⟩]
     rw [show o + j - (o + len * te.size) = j - len * te.size by omega]; exact hj
   ·simp only [List.size_toArray, List.length_append, List.length_take, List.length_drop, Array.length_toList]
    omega
 ·have hge := grownCap_ge w (len + m) cap el
  have hcm : grownCap w (len + m) cap el ≤ maxLen := grownCap_le_maxLen w (len + m) cap el h63
  have h63' : ((len + m : Nat) : Int) ≤ 9223372036854775807 := by simp only [maxLen] at h63; omega
  have hxlen : xs.length = len * i.size := by rcases hx with ⟨_, rfl, _, rfl⟩ | ⟨_, _, _, _, _, _, _, h, _⟩; simp; rw [hsz]; exact h
  have hn : ¬ (len + m ≤ cap) := by omega
  have h63'' : ¬ (9223372036854775807 < ((len : Int) + (m : Int))) := by omega
  have hgf : Builtin.nextslicecap (len + m) cap * i.bytes ≤ 281474976710656 := growslice_fits (by omega) (by rw [hi2]; exact hbytes)
  have h48' : ¬ (281474976710656 < Builtin.nextslicecap (len + m) cap * i.bytes) := by omega
  have hf := hfirst w.drew (fun _ => by simp)
  have hfo : (Builtin.firstCells i.size len (.slice ad len cap)).run P w.drew = .ok xs.toArray w.drew := by
   rcases hx with ⟨rfl, rfl, rfl, rfl⟩ | ⟨b, o, cur, rfl, hg, hfit, hlc, hxl, hxc⟩
   ·simp [Builtin.firstCells]
   ·exact run_firstCells_some (P := P) w.drew i.size len ⟨b, o, none⟩ len cap xs hxlen (fun j v hj => by rw [add_addr]; simpa using hxc j v hj)
  refine ⟨w.heap.size, 0, grownCap w (len + m) cap el, _, w.drew.alloc (.cells (xs.toArray ++ news.toArray ++ Builtin.zeroCells te.zero.cells (grownCap w (len + m) cap el - (len + m))) el), ?_, hcm, heap_alloc_new w.drew _, ?_, hge, ?_, .inl ⟨rfl, rfl, ⟨rfl, rfl, rfl, by simp, fun k hk _ => heap_alloc_old w.drew _ hk⟩, by simp⟩⟩
  ·rw [← hsz] at hf
   rcases hd2 with rfl | ⟨e, rfl⟩ <;> (simp [Builtin.append_, run_underlying hu, run_underlying hu2, sizeOf, typeInfo, zeroValue, hi, hi3, hly, hn, h63'', h48', Question.forced, hf, hfo, newRow, grownCap]; try (congr 2; apply Array.ext'; simp [List.append_assoc]))
  ·simp only [Array.size_append, List.size_toArray, size_zeroCells, hte.size, hxlen, hnl, hsz, ← Nat.add_mul]
   rw [show len + m + (grownCap w (len + m) cap el - (len + m)) = grownCap w (len + m) cap el by omega]; omega
  ·intro j v hj
   have hcell := cell_of_row (w.drew.alloc (.cells (xs.toArray ++ news.toArray ++ Builtin.zeroCells te.zero.cells (grownCap w (len + m) cap el - (len + m))) el)) w.heap.size j _ el (0, 0) (heap_alloc_new w.drew _)
   rw [Nat.zero_add, hcell]
   have hlt := (List.getElem?_eq_some_iff.1 hj).1
   rw [← Array.getElem?_toList]
   simp only [Array.toList_append]
   rw [List.getElem?_append_left (by simpa using hlt)]
   exact hj
end
end Go.Proofs.YtompijgfpeibnaaGreatDoor.Ax
