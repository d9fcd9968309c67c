/-
  The abstract run of one operation and of a region in the order of the text. No condition.
-/
import Derived.Test.YtehfjhenilkofaaAxState
namespace Go.Proofs.Ytehfjhenilkofaa.Ax
open Go Go.RowKit

structure TI where
  desc : TypeDesc
  size : Nat
  bytes : Nat
  zero : Value

def TypeDesc.aggB : TypeDesc → Bool
  | .struct _ => true
  | .array _ _ => true
  | _ => false

def ofV1 : Value → AV
  | .slice none 0 0 => .sl true 1 []
  | x => if x.oneCell' then .v x else .junk

def ofV : Value → AV
  | .agg cs => .agg (cs.toList.map ofV1)
  | x => ofV1 x

def ev (slots : List AV) : Operand → AV
  | .tmp t => slots.getD t .junk
  | .const c => ofV c
  | .func f => .fn f []
  | .global _ => .junk

/-- 'No memory in it.' -/
def scal : AV → Bool
  | .v _ => true
  | .agg cs => cs.all fun | .v _ => true | _ => false
  | _ => false

/-- 'It leads into no row of the call's own.' -/
def frz : AV → Bool
  | .v _ => true
  | .agg cs => cs.all fun | .v _ | .sl _ _ _ | .fp _ _ => true | _ => false
  | .sl _ _ _ => true
  | .fp _ _ => true
  | _ => false

def viewEs (es : List AV) (lo n : Nat) : List AV := (es.drop lo).take n

mutual
/-- As it reads now. -/
def res (toks : List Tok) : AV → AV
  | .v x => .v x
  | .agg cs => .agg (resL toks cs)
  | .tup cs => .tup (resL toks cs)
  | .sl nl sz es => .sl nl sz es
  | .fp e j => .fp e j
  | .fn f cs => .fn f (resL toks cs)
  | .ref t p lo n => match toks[t]? with
    | some tk => (match getAt tk.row p with
      | .sl nl sz es => if lo + n ≤ es.length then .sl nl sz (viewEs es lo n) else .junk
      | _ => .junk)
    | none => .junk
  | .ptr t p i j => match toks[t]? with
    | some tk => (match getAt tk.row p with
      | .sl _ _ es => (match es[i]? with
        | some e => .fp e j
        | none => .junk)
      | _ => .junk)
    | none => .junk
  | .junk => .junk
def resL (toks : List Tok) : List AV → List AV
  | [] => []
  | c :: cs => res toks c :: resL toks cs
end

mutual
/-- What leads into row t is forgotten. -/
def kill (t : Nat) : AV → AV
  | .agg cs => .agg (killL t cs)
  | .tup cs => .tup (killL t cs)
  | .fn f cs => .fn f (killL t cs)
  | .ref t' p lo n => if t' = t then .junk else .ref t' p lo n
  | .ptr t' p i j => if t' = t then .junk else .ptr t' p i j
  | a => a
def killL (t : Nat) : List AV → List AV
  | [] => []
  | c :: cs => kill t c :: killL t cs
end

mutual
/-- What leads through a cell of row t is forgotten (what leads to the row itself is kept). -/
def killN (t : Nat) : AV → AV
  | .v x => .v x
  | .agg cs => .agg (killNL t cs)
  | .tup cs => .tup (killNL t cs)
  | .sl nl sz es => .sl nl sz es
  | .fp e j => .fp e j
  | .fn f cs => .fn f (killNL t cs)
  | .ref t' p lo n => if t' = t ∧ p ≠ [] then .junk else .ref t' p lo n
  | .ptr t' p i j => if t' = t ∧ p ≠ [] then .junk else .ptr t' p i j
  | .junk => .junk
def killNL (t : Nat) : List AV → List AV
  | [] => []
  | c :: cs => killN t c :: killNL t cs
end

mutual
def refs : AV → List Nat
  | .v _ => []
  | .agg cs => refsL cs
  | .tup cs => refsL cs
  | .sl _ _ _ => []
  | .fp _ _ => []
  | .fn _ cs => refsL cs
  | .ref t _ _ _ => [t]
  | .ptr t _ _ _ => [t]
  | .junk => []
def refsL : List AV → List Nat
  | [] => []
  | c :: cs => refs c ++ refsL cs
end

/-- Cell j of an element is another. -/
def setCell : AV → Nat → AV → AV
  | .agg cs, j, c => .agg (cs.set j c)
  | _, _, c => c

/-- What stands at the end of a path is another. -/
def setAt : AV → List (Nat × Nat) → AV → AV
  | _, [], r => r
  | .sl nl sz es, (i, j) :: p, r => match es[i]? with
    | some e => (match e.cells[j]? with
      | some c => .sl nl sz (es.set i (setCell e j (setAt c p r)))
      | none => .junk)
    | none => .junk
  | _, _ :: _, _ => .junk

structure Out where
  val : AV
  slots : List AV
  toks : List Tok

def abin (op : BinOp) : Value → Value → Option Value
  | .int k a, .int k' b => if k = k' then (match op with
    | .add => some (.int k (k.wrap (a + b)))
    | .sub => some (.int k (k.wrap (a - b)))
    | .mul => some (.int k (k.wrap (a * b)))
    | .quo => if b = 0 then none else some (.int k (k.wrap (a.tdiv b)))
    | .rem => if b = 0 then none else some (.int k (a.tmod b))
    | .eql => some (.bool (a == b))
    | .neq => some (.bool (a != b))
    | .lss => some (.bool (decide (a < b)))
    | .leq => some (.bool (decide (a ≤ b)))
    | .gtr => some (.bool (decide (a > b)))
    | .geq => some (.bool (decide (a ≥ b)))
    | _ => none) else none
  | .string a, .string b => (match op with
    | .eql => some (.bool (a.toList == b.toList))
    | .neq => some (.bool !(a.toList == b.toList))
    | _ => none)
  | _, _ => none

def aun (op : UnOp) : Value → Option Value
  | .int k a => (match op with
    | .neg => some (.int k (k.wrap (0 - a)))
    | _ => none)
  | .bool b => (match op with
    | .not => some (.bool !b)
    | _ => none)
  | _ => none

def pickAV (c : Bool) : AV → AV → AV
  | .v (.bool p), .v (.bool q) => .v (.bool (bif c then p else q))
  | x, y => bif c then x else y

/-- A loaded cell of row t: a slice in it is met by its path. -/
def loadCell (t : Nat) (p : List (Nat × Nat)) (i j : Nat) : AV → AV
  | .sl _ _ es => .ref t (p ++ [(i, j)]) 0 es.length
  | .v x => .v x
  | .fp e k => .fp e k
  | .fn f cs => .fn f cs
  | _ => .junk

def loadCells (t : Nat) (p : List (Nat × Nat)) (i : Nat) : Nat → List AV → List AV
  | _, [] => []
  | j, c :: cs => loadCell t p i j c :: loadCells t p i (j + 1) cs

/-- The cells of e with cs written from j on. -/
def putCells (e : AV) (j : Nat) (cs : List AV) : AV :=
  match e with
  | .agg ds => .agg (ds.take j ++ cs ++ ds.drop (j + cs.length))
  | a => (match cs with
    | [c] => c
    | _ => a)

structure Ctx where
  T : TypeId → Option TI
  /-- structs of so many plain ints -/
  X : TypeId → Option Nat
  G : FuncId → List AV → Option AV
  /-- functions that change one of their arguments: which one, the result, what the argument is then -/
  M : FuncId → List AV → Option (Nat × AV × AV)
  /-- rows may become parts of others -/
  W : Bool

def noM (C : Ctx) : Ctx := ⟨C.T, C.X, C.G, fun _ _ => none, false⟩
def dC (draw : Bool) (C : Ctx) : Ctx := if draw then noM C else C
class NoM (C : Ctx) : Prop where
  no : ∀ f a, C.M f a = none
  nw : C.W = false
instance {C : Ctx} : NoM (noM C) := ⟨fun _ _ => rfl, rfl⟩
theorem noM_mk {T : TypeId → Option TI} {X : TypeId → Option Nat} {G : FuncId → List AV → Option AV} {M : FuncId → List AV → Option (Nat × AV × AV)} {W : Bool} : noM ⟨T, X, G, M, W⟩ = ⟨T, X, G, fun _ _ => none, false⟩ := rfl
theorem dC_false {C : Ctx} : dC false C = C := rfl
theorem dC_true {C : Ctx} : dC true C = noM C := rfl

/-- The ints of a row of cells. -/
def cellInts : List AV → Option (List Int)
  | [] => some []
  | .v (.int .i64 n) :: cs => (match cellInts cs with
    | some ns => some (n :: ns)
    | none => none)
  | _ :: _ => none

def bld (C : Ctx) (fields : List Field) : List (Nat × AV) → List AV → Option (List AV)
  | [], cells => some cells
  | (i, x) :: rest, cells => (match fields[i]? with
    | some f => (match C.T f.type with
      | some tf => if x.cells.length = tf.size ∧ f.offset + tf.size ≤ cells.length then bld C fields rest (cells.take f.offset ++ x.cells ++ cells.drop (f.offset + tf.size)) else none
      | none => none)
    | none => none)

mutual
/-- A result of a call: each slice in it is a new row of the call's own. -/
def intern (toks : List Tok) : AV → AV × List Tok
  | .sl nl sz es => (.ref toks.length [] 0 es.length, toks ++ [⟨true, .sl nl sz es⟩])
  | .tup vs => (.tup (internL toks vs).1, (internL toks vs).2)
  | .agg vs => (.agg (internL toks vs).1, (internL toks vs).2)
  | .v x => (.v x, toks)
  | _ => (.junk, toks)
def internL (toks : List Tok) : List AV → List AV × List Tok
  | [] => ([], toks)
  | c :: cs => ((intern toks c).1 :: (internL (intern toks c).2 cs).1, (internL (intern toks c).2 cs).2)
end

def asNat : AV → Option Nat
  | .v (.int _ n) => if 0 ≤ n then some n.toNat else none
  | _ => none

def lenAV (toks : List Tok) : AV → Option Nat
  | .sl _ _ es => some es.length
  | .ref t p lo n => (match toks[t]? with
    | some tk => (match getAt tk.row p with
      | .sl _ _ es => if lo + n ≤ es.length then some n else none
      | _ => none)
    | none => none)
  | _ => none

/-- What may become a part of a struct. -/
def partOk (toks : List Tok) (x : AV) : Bool := frz x || (lenAV toks x).isSome

mutual
/-- What is handed back: it has to be the call's own. Beside it: the rows that it takes with it. -/
def ownR (toks : List Tok) : AV → Option (AV × List Nat)
  | .v x => some (.v x, [])
  | .sl nl sz es => (match nl, es with
    | true, [] => some (.sl true sz [], [])
    | _, _ => none)
  | .ref t p lo n => (match p, lo, toks[t]? with
    | [], 0, some tk => (match tk.row with
      | .sl nl sz es => if tk.deep = true ∧ n = es.length then some (.sl nl sz es, [t]) else none
      | _ => none)
    | _, _, _ => none)
  | .agg cs => (ownRL toks cs).map fun q => (.agg q.1, q.2)
  | _ => none
def ownRL (toks : List Tok) : List AV → Option (List AV × List Nat)
  | [] => some ([], [])
  | c :: cs => (match ownR toks c, ownRL toks cs with
    | some q, some q' => some (q.1 :: q'.1, q.2 ++ q'.2)
    | _, _ => none)
end

/-- Rows that are no longer met by themselves: they have become parts of another. -/
def drops (slots : List AV) (toks : List Tok) : List Nat → List AV × List Tok
  | [] => (slots, toks)
  | t :: l => drops (slots.map (kill t)) (toks.set t ⟨true, .junk⟩) l

/-- One cell each. -/
def flat : List AV → Bool
  | [] => true
  | .v _ :: cs => flat cs
  | .sl _ _ _ :: cs => flat cs
  | _ :: _ => false

/-- The row that 'append' lets grow: its elements, the row's number, whether nothing foreign hangs in it, whether it is nil. -/
def appX (sz : Nat) (toks : List Tok) : AV → Option (List AV × List Nat × Bool × Bool)
  | .sl nl _ es => (match nl, es with
    | true, [] => some ([], [], true, true)
    | _, _ => none)
  | .ref t p lo n => (match p, lo, toks[t]? with
    | [], 0, some tk => (match tk.row with
      | .sl nl sz' es => if n = es.length ∧ sz' = sz then some (es, [t], tk.deep, nl) else none
      | _ => none)
    | _, _, _ => none)
  | _ => none

/-- What 'append' puts behind it: numbers are copied, what else is the call's own is moved. -/
def appY (sz : Nat) (toks : List Tok) : AV → Option (List AV × List Nat × Bool)
  | .sl _ sz' ys => if sz' = sz ∧ (ys.all fun e => flat e.cells) = true then some (ys, [], ys.all scal) else none
  | .ref t p lo n => (match toks[t]? with
    | some tk => (match getAt tk.row p with
      | .sl _ sz' es => if sz' = sz ∧ lo + n ≤ es.length then
          (if (viewEs es lo n).all scal = true then some (viewEs es lo n, [], true)
           else if p = [] ∧ lo = 0 ∧ n = es.length ∧ (es.all fun e => flat e.cells) = true then some (es, [t], tk.deep) else none) else none
      | _ => none)
    | none => none)
  | _ => none

def bndOf (slots : List AV) (d : Nat) : Option Operand → Option Nat
  | none => some d
  | some x => asNat (ev slots x)

/-- A call that changes the row that one of its arguments leads to. -/
def mutCall (slots : List AV) (toks : List Tok) (avs caps : List AV) : Option (Nat × AV × AV) → Option Out
  | some (pos, r, row') => (match avs[pos]?, row' with
    | some (.ref t p lo n), .sl nl' sz' es' => (match toks[t]? with
      | some tk => (match getAt tk.row p with
        | .sl nl sz es => if tk.deep = true ∧ lo = 0 ∧ n = es.length ∧ es'.length = n ∧ nl' = nl ∧ sz' = sz ∧ t ∉ refsL (avs.eraseIdx pos ++ caps) then
            some ⟨(intern (toks.set t ⟨true, setAt tk.row p (.sl nl sz es')⟩) r).1, slots.map (killN t), (intern (toks.set t ⟨true, setAt tk.row p (.sl nl sz es')⟩) r).2⟩ else none
        | _ => none)
      | none => none)
    | some (.sl true sz []), .sl true sz' [] => if sz' = sz then some ⟨(intern toks r).1, slots, (intern toks r).2⟩ else none
    | _, _ => none)
  | none => none

def aop (C : Ctx) (op : Op) (slots : List AV) (toks : List Tok) : Option Out :=
  match op with
  | .move x => some ⟨ev slots x, slots, toks⟩
  | .assign x => some ⟨ev slots x, slots, toks⟩
  | .pick c a b => (match ev slots c with
    | .v (.bool t) => some ⟨pickAV t (ev slots a) (ev slots b), slots, toks⟩
    | _ => none)
  | .binOp op t x y _ => (match ev slots x, ev slots y with
    | .v a, .v b => (match abin op a b with
      | some r => some ⟨.v r, slots, toks⟩
      | none => (match C.T t, op, a, b with
        | some ⟨.bool, _, _, _⟩, .eql, .bool p, .bool q => some ⟨.v (.bool (p == q)), slots, toks⟩
        | some ⟨.bool, _, _, _⟩, .neq, .bool p, .bool q => some ⟨.v (.bool (!(p == q))), slots, toks⟩
        | _, _, _, _ => none))
    | .agg cs, .agg ds => (match C.X t, cellInts cs, cellInts ds, op with
      | some n, some xs, some ys, .eql => if xs.length = n ∧ ys.length = n then some ⟨.v (.bool (decide (xs = ys))), slots, toks⟩ else none
      | some n, some xs, some ys, .neq => if xs.length = n ∧ ys.length = n then some ⟨.v (.bool (!decide (xs = ys))), slots, toks⟩ else none
      | _, _, _, _ => none)
    | _, _ => none)
  | .unOp op _ x => (match ev slots x with
    | .v a => (aun op a).map fun r => ⟨.v r, slots, toks⟩
    | _ => none)
  | .alloc t => (match C.T t with
    | some ti => some ⟨.ptr toks.length [] 0 0, slots, toks ++ [⟨true, .sl false ti.size [ofV ti.zero]⟩]⟩
    | none => none)
  | .box t x => (match C.T t with
    | some ti => if frz (ev slots x) ∧ (ev slots x).cells.length = ti.size then some ⟨.ptr toks.length [] 0 0, slots, toks ++ [⟨scal (ev slots x), .sl false ti.size [ev slots x]⟩]⟩ else none
    | none => none)
  | .indexAddr t x ix => (match C.T t, asNat (ev slots ix) with
    | some ti, some i => (match ti.desc, ev slots x with
      | .slice el, .sl _ sz es => (match C.T el, es[i]? with
        | some te, some e => if te.size = sz then some ⟨.fp e 0, slots, toks⟩ else none
        | _, _ => none)
      | .slice el, .ref k p lo n => (match C.T el, toks[k]? with
        | some te, some tk => (match getAt tk.row p with
          | .sl _ sz es => if te.size = sz ∧ i < n ∧ lo + n ≤ es.length then some ⟨.ptr k p (lo + i) 0, slots, toks⟩ else none
          | _ => none)
        | _, _ => none)
      | _, _ => none)
    | _, _ => none)
  | .load t a => (match C.T t with
    | some ti => (match ev slots a with
      | .fp e j => if TypeDesc.aggB ti.desc then (match e with
            | .agg cs => if j = 0 ∧ cs.length = ti.size then some ⟨.agg cs, slots, toks⟩ else none
            | _ => none)
          else (match e.cells[j]? with
            | some c => some ⟨c, slots, toks⟩
            | none => none)
      | .ptr k p i j => (match toks[k]? with
        | some tk => (match getAt tk.row p with
          | .sl _ _ es => (match es[i]? with
            | some e => if TypeDesc.aggB ti.desc then (match e with
                  | .agg cs => if j = 0 ∧ cs.length = ti.size then some ⟨.agg (loadCells k p i 0 cs), slots, toks⟩ else none
                  | _ => none)
                else (match e.cells[j]? with
                  | some c => some ⟨loadCell k p i j c, slots, toks⟩
                  | none => none)
            | none => none)
          | _ => none)
        | none => none)
      | _ => none)
    | none => none)
  | .store t a x => (match C.T t with
    | some ti => (match ev slots a with
      | .ptr k [] i j => (match toks[k]? with
        | some tk => (match tk.row with
          | .sl nl sz es => (match es[i]? with
            | some e => if scal (ev slots x) ∧ (ev slots x).cells.length = ti.size ∧ j + ti.size ≤ sz ∧ 0 < ti.size then
                  some ⟨.junk, slots, toks.set k ⟨tk.deep, .sl nl sz (es.set i (putCells e j (ev slots x).cells))⟩⟩
                else if frz (ev slots x) ∧ (ev slots x).cells.length = ti.size ∧ j + ti.size ≤ sz ∧ 0 < ti.size then
                  some ⟨.junk, slots.map (killN k), toks.set k ⟨false, .sl nl sz (es.set i (putCells e j (ev slots x).cells))⟩⟩
                else (match ownR toks (ev slots x) with
                  | some q => if q.2.Nodup ∧ k ∉ q.2 ∧ flat q.1.cells ∧ q.1.cells.length = ti.size ∧ j + ti.size ≤ sz ∧ 0 < ti.size then
                      some ⟨.junk, (drops slots toks q.2).1.map (killN k), (drops slots toks q.2).2.set k ⟨tk.deep, .sl nl sz (es.set i (putCells e j q.1.cells))⟩⟩ else none
                  | none => none)
            | none => none)
          | _ => none)
        | none => none)
      | .ptr k p i j => (match toks[k]? with
        | some tk => (match getAt tk.row p with
          | .sl nl sz es => (match es[i]? with
            | some e => if tk.deep = true ∧ scal (ev slots x) = true ∧ (ev slots x).cells.length = ti.size ∧ j + ti.size ≤ sz ∧ 0 < ti.size then
                  some ⟨.junk, slots.map (killN k), toks.set k ⟨true, setAt tk.row p (.sl nl sz (es.set i (putCells e j (ev slots x).cells)))⟩⟩ else none
            | none => none)
          | _ => none)
        | none => none)
      | _ => none)
    | none => none)
  | .fieldAddr t x f => (match C.T t with
    | some ti => (match ti.desc with
      | .struct fields => (match fields[f]? with
        | some fd => (match C.T fd.type with
          | some tf => if 0 < tf.size then (match ev slots x with
              | .ptr k p i j => (match toks[k]? with
                | some tk => (match getAt tk.row p with
                  | .sl _ _ es => if i < es.length then some ⟨.ptr k p i (j + fd.offset), slots, toks⟩ else none
                  | _ => none)
                | none => none)
              | .fp e j => some ⟨.fp e (j + fd.offset), slots, toks⟩
              | _ => none) else none
          | none => none)
        | none => none)
      | _ => none)
    | none => none)
  | .slice t x lo hi none => (match C.T t with
    | some ti => (match ti.desc, ev slots x with
      | .slice el, .sl nl sz es => (match C.T el, bndOf slots 0 lo, bndOf slots es.length hi with
        | some te, some l, some h => if te.size = sz ∧ l ≤ h ∧ h ≤ es.length then some ⟨.sl nl sz (viewEs es l (h - l)), slots, toks⟩ else none
        | _, _, _ => none)
      | .slice el, .ref k p lo0 n => (match C.T el, bndOf slots 0 lo, bndOf slots n hi, toks[k]? with
        | some te, some l, some h, some tk => (match getAt tk.row p with
          | .sl _ sz es => if te.size = sz ∧ l ≤ h ∧ h ≤ n ∧ lo0 + n ≤ es.length then some ⟨.ref k p (lo0 + l) (h - l), slots, toks⟩ else none
          | _ => none)
        | _, _, _, _ => none)
      | .string, .v (.string s) => (match bndOf slots 0 lo, bndOf slots s.size hi with
        | some l, some h => if l ≤ h ∧ h ≤ s.size then some ⟨.v (.string (s.extract l h)), slots, toks⟩ else none
        | _, _ => none)
      | _, _ => none)
    | none => none)
  | .extract x i => (match ev slots x with
    | .tup vs => (match vs[i]? with
      | some v => some ⟨v, slots, toks⟩
      | none => none)
    | _ => none)
  | .makeSlice t l c => (match C.T t, asNat (ev slots l), asNat (ev slots c) with
    | some ti, some n, some n' => (match ti.desc with
      | .slice el => (match C.T el with
        | some te => if n = n' ∧ te.bytes * n ≤ 281474976710656 ∧ n ≤ 4611686018427387904 then some ⟨.ref toks.length [] 0 n, slots, toks ++ [⟨true, .sl false te.size (List.replicate n (ofV te.zero))⟩]⟩ else none
        | none => none)
      | _ => none)
    | _, _, _ => none)
  | .build t parts => (match C.T t with
    | some ti => (match ti.desc with
      | .struct fields => if (parts.toList.all fun p => partOk toks (ev slots p.2)) = false ∨ (fields.toList.all fun f => (C.T f.type).isSome) = false then none else (bld C fields.toList (parts.toList.map fun p => (p.1, ev slots p.2)) (ofV ti.zero).cells).map fun cells => ⟨.agg cells, slots, toks⟩
      | _ => none)
    | none => none)
  | .buildSlice t len parts => (match C.T t with
    | some ti => (match ti.desc with
      | .slice el => (match C.T el with
        | some te => if (parts.toList.map (·.1)) = List.range len ∧ 0 < te.size ∧ len * te.size ≤ 1000 then
            (match ownRL toks (parts.toList.map fun p => ev slots p.2) with
            | some q => if q.2.Nodup ∧ (C.W = true ∨ q.2 = []) ∧ (q.1.all fun v => decide (v.cells.length = te.size) && flat v.cells) = true then
                some ⟨.ref toks.length [] 0 len, (drops slots toks q.2).1, (drops slots toks q.2).2 ++ [⟨true, .sl false te.size q.1⟩]⟩ else none
            | none => if ((parts.toList.map fun p => ev slots p.2).all fun v => frz v && decide (v.cells.length = te.size)) = true then
                some ⟨.ref toks.length [] 0 len, slots, toks ++ [⟨false, .sl false te.size (parts.toList.map fun p => ev slots p.2)⟩]⟩ else none) else none
        | none => none)
      | _ => none)
    | none => none)
  | .makeFunc (.func f) first captured => if first.size = 0 then some ⟨.fn f (captured.toList.map (ev slots)), slots, toks⟩ else none
  | .call c => (match c.callee with
    | .builtin .len => (match c.args.toList, c.argTypes.toList with
      | [x], [t] => (match C.T t with
        | some ti => (match ti.desc with
          | .slice _ => (lenAV toks (ev slots x)).map fun (n : Nat) => ⟨.v (.int .i64 (n : Int)), slots, toks⟩
          | _ => none)
        | none => none)
      | _, _ => none)
    | .builtin .append => (match c.args.toList, c.argTypes.toList with
      | [x, y], [t, t'] => if t = t' then (match C.T t with
        | some ti => (match ti.desc with
          | .slice el => (match C.T el with
            | some te => (match appX te.size toks (ev slots x), appY te.size toks (ev slots y) with
              | some (es, ux, dx, nl), some (ys, uy, dy) => if (ux ++ uy).Nodup ∧ 0 < te.size ∧ es.length + ys.length ≤ 4611686018427387904 ∧ (es.length + ys.length) * te.bytes ≤ 140737488355328 then
                  some ⟨.ref toks.length [] 0 (es.length + ys.length), (drops slots toks (ux ++ uy)).1, (drops slots toks (ux ++ uy)).2 ++ [⟨dx && dy, .sl (nl && ys.isEmpty) te.size (es ++ ys)⟩]⟩ else none
              | _, _ => none)
            | none => none)
          | _ => none)
        | none => none) else none
      | _, _ => none)
    | .builtin .max => (match c.args.toList with
      | [x, y] => (match ev slots x, ev slots y with
        | .v (.int k a), .v (.int _ b) => some ⟨.v (.int k (max a b)), slots, toks⟩
        | _, _ => none)
      | _ => none)
    | .builtin .min => (match c.args.toList with
      | [x, y] => (match ev slots x, ev slots y with
        | .v (.int k a), .v (.int _ b) => some ⟨.v (.int k (min a b)), slots, toks⟩
        | _, _ => none)
      | _ => none)
    | .value f => (match ev slots f with
      | .fn g caps => (match C.G g (c.args.toList.map (fun x => res toks (ev slots x)) ++ resL toks caps) with
        | some r => some ⟨(intern toks r).1, slots, (intern toks r).2⟩
        | none => mutCall slots toks (c.args.toList.map (ev slots)) caps (C.M g (c.args.toList.map (fun x => res toks (ev slots x)) ++ resL toks caps)))
      | _ => none)
    | _ => none)
  | _ => none

def guardOk (ops : List Oper) (slots : List AV) (o : Oper) : Option Bool :=
  match o.guard with
  | none => some true
  | some (j, want) => (match ops[j]? with
    | some o' => (match o'.dst with
      | some d => (match slots.getD d .junk with
        | .v (.bool b) => some (b == want)
        | .tup _ => some false
        | _ => none)
      | none => none)
    | none => none)

def putD (slots : List AV) (d : Option Nat) (x : AV) : List AV :=
  match d with
  | some d => slots.set d x
  | none => slots

def rstep (C : Ctx) (ops : List Oper) (o : Oper) (st : ASt) : Option ASt :=
  match guardOk ops st.slots o with
  | some g => if g then (aop C o.op st.slots st.toks).map fun r => ⟨putD r.slots o.dst r.val, r.toks⟩ else some ⟨putD st.slots o.dst (.tup []), st.toks⟩
  | none => none

def rrun (C : Ctx) (ops : List Oper) : List Oper → ASt → Option ASt
  | [], st => some st
  | o :: rest, st => (match rstep C ops o st with
    | some st' => rrun C ops rest st'
    | none => none)

end Go.Proofs.Ytehfjhenilkofaa.Ax
