/-
 Contracts: strings.Join; both programs' Join. No condition.
-/
import Derived.Test.YtompijgfpeibnaaGreatDoorCG9
import Derived.Ground.NamesProg
import Derived.Shelf.Strings.OnBuilder
namespace Go.Proofs
open Go.Shelf
def Tryz.laysJoin_ren : Go.Shelf.Ren := ⟨fun | 156 => 26 | 165 => 80 | 166 => 15 | 169 => 16 | 240 => 27 | 241 => 142 | 276 => 81 | 277 => 245 | n => n, fun | 31 => 28 | 9 => 9 | 3 => 3 | 4 => 4 | 0 => 0 | 20 => 20 | 72 => 44 | 76 => 47 | 70 => 42 | 37 => 22 | 75 => 46 | 127 => 65 | 164 => 103 | 5 => 5 | 80 => 49 | n => n, fun | n => n⟩
theorem Tryz.laysJoin : Go.Proofs.Lays.n156 Tryz.prog Tryz.laysJoin_ren := {
 mixed := by kernel_rfl
 f156 := Tryz.func26.trans (congrArg some (by kernel_rfl))
 f165 := Tryz.func80.trans (congrArg some (by kernel_rfl))
 f166 := Tryz.func15.trans (congrArg some (by kernel_rfl))
 f169 := Tryz.func16.trans (congrArg some (by kernel_rfl))
 f240 := Tryz.func27.trans (congrArg some (by kernel_rfl))
 f241 := Tryz.func142.trans (congrArg some (by kernel_rfl))
 f276 := Tryz.func81.trans (congrArg some (by kernel_rfl))
 f277 := Tryz.func245.trans (congrArg some (by kernel_rfl))
 t0 := Tryz.underlying0
 a0 := Tryz.isAgg0
 z0 := Tryz.sizeOf0
 v0 := Tryz.zeroValue0
 t3 := Tryz.underlying3
 a3 := Tryz.isAgg3
 z3 := Tryz.sizeOf3
 v3 := Tryz.zeroValue3
 t4 := Tryz.underlying4
 a4 := Tryz.isAgg4
 z4 := Tryz.sizeOf4
 v4 := Tryz.zeroValue4
 t9 := Tryz.underlying9
 a9 := Tryz.isAgg9
 z9 := Tryz.sizeOf9
 v9 := Tryz.zeroValue9
 t20 := Tryz.underlying20
 a20 := Tryz.isAgg20
 z20 := Tryz.sizeOf20
 v20 := Tryz.zeroValue20
 t31 := Tryz.underlying28
 a31 := Tryz.isAgg28
 z31 := Tryz.sizeOf28
 v31 := Tryz.zeroValue28
 t37 := Tryz.underlying22
 a37 := Tryz.isAgg22
 z37 := Tryz.sizeOf22
 v37 := Tryz.zeroValue22
 t70 := Tryz.underlying42
 a70 := Tryz.isAgg42
 z70 := Tryz.sizeOf42
 v70 := Tryz.zeroValue42
 t72 := Tryz.underlying44
 a72 := Tryz.isAgg44
 z72 := Tryz.sizeOf44
 v72 := Tryz.zeroValue44
 t75 := Tryz.underlying46
 a75 := Tryz.isAgg46
 z75 := Tryz.sizeOf46
 v75 := Tryz.zeroValue46
 t76 := Tryz.underlying47
 a76 := Tryz.isAgg47
 z76 := Tryz.sizeOf47
 v76 := Tryz.zeroValue47
 t127 := Tryz.underlying65
 a127 := Tryz.isAgg65
 z127 := Tryz.sizeOf65
 v127 := Tryz.zeroValue65
 t164 := Tryz.underlying103
 a164 := Tryz.isAgg103
 z164 := Tryz.sizeOf103
 v164 := Tryz.zeroValue103 }
theorem Tryz.extraJoin : Builder.Extra Tryz.prog Tryz.laysJoin_ren where
 sizeBuilder := by kernel_rfl
 liesBuilder := by kernel_rfl
 t5 := by kernel_rfl
 a5 := fun _ => YtompijgfpeibnaaGreatDoor.Ax.run_isAgg (YtompijgfpeibnaaGreatDoor.Ax.tyOf_ok YtompijgfpeibnaaGreatDoor.Ax.ty5)
 z5 := fun _ => YtompijgfpeibnaaGreatDoor.Ax.run_size (YtompijgfpeibnaaGreatDoor.Ax.tyOf_ok YtompijgfpeibnaaGreatDoor.Ax.ty5)
 v5 := fun _ => YtompijgfpeibnaaGreatDoor.Ax.run_zero (YtompijgfpeibnaaGreatDoor.Ax.tyOf_ok YtompijgfpeibnaaGreatDoor.Ax.ty5)
 infoByte := by kernel_rfl
 cellsByte := by kernel_rfl
 sizeByte := by kernel_rfl
 neB5 := by decide
end Go.Proofs
namespace Go.Proofs.YtompijgfpeibnaaGreatDoor.Ax
open Go Go.RowKit
set_option linter.unusedSimpArgs false
def str (s : ByteArray) : AV := .v (.string s)
def strs (nl : Bool) (ws : List ByteArray) : AV := .sl nl 1 (ws.map str)
theorem map_str_inj {a b : List ByteArray} : a.map str = b.map str ↔ a = b := by
 constructor
 ·exact fun h => (List.map_inj_right (f := str) (fun x y h => by simpa [str] using h)).1 h
 ·rintro rfl; rfl
def joinS (ws : List ByteArray) (by' : ByteArray) : ByteArray := ⟨(Lib.join (ws.map bl) (bl by')).toArray⟩
def joinOk (ws : List ByteArray) (by' : ByteArray) : Prop := ws.length ≤ 140737488355328 ∧ (Lib.join (ws.map bl) (bl by')).length ≤ 140737488355328
noncomputable def mJoin : List AV → Option AV := mk (fun p => joinOk p.2.1 p.2.2) (fun (p : Bool × List ByteArray × ByteArray) => [strs p.1 p.2.1, str p.2.2]) (fun p => .v (.string (joinS p.2.1 p.2.2)))
theorem mJoin_at (nl : Bool) (ws : List ByteArray) (by' : ByteArray) (h : joinOk ws by') : mJoin [.sl nl 1 (ws.map str), .v (.string by')] = some (.v (.string (joinS ws by'))) :=
 mk_eq (enc := fun (p : Bool × List ByteArray × ByteArray) => [strs p.1 p.2.1, str p.2.2]) (x := (nl, ws, by')) (by rintro ⟨a, b, c⟩ ⟨d, e, f⟩ h; simp [strs, str] at h; simp [map_str_inj.1 (by simpa [str] using h.1.2), h]) h
theorem row_str {w : World} {F : Nat → Prop} {b : Nat} : ∀ {ws : List ByteArray} {o : Nat}, RepRow w F b 1 o (ws.map str) → ∀ (j : Nat) (x : ByteArray), ws[j]? = some x → w.cell? ⟨b, o + j, none⟩ = some (.string x) ∧ F b
 | [], _, _, j, x, h => by simp at h
 | y :: ws, o, hr, 0, x, h => by
  simp only [List.map_cons, RepRow, str, Rep] at hr
  obtain ⟨⟨v, ⟨rfl, _⟩, _, _, hb, hat⟩, _⟩ := hr
  simp at h
  subst h
  exact ⟨hat 0 _ (by simp [Value.cells]), hb⟩
 | y :: ws, o, hr, j + 1, x, h => by
  simp only [List.map_cons, RepRow] at hr
  have := row_str hr.2 j x (by simpa using h)
  rw [show o + (j + 1) = o + 1 + j by omega]
  exact this
theorem frm_of_below {w w' : World} (h : Below w.heap.size w w') : Frm (fun _ => False) w w' := by
 obtain ⟨h1, h2, h3, h4, h5⟩ := h
 exact ⟨h1, h2, h3, h4, fun k hk _ => h5 k hk⟩
theorem stringsJoin_ok : FnOk Tryz.prog 26 mJoin := by
 refine mk_ok fun ⟨nl, ws, by'⟩ ⟨hN, hL⟩ => ?_
 simp only at hN hL
 refine ⟨⟨_, Tryz.func26, by kernel_rfl, by kernel_rfl⟩, fun w F vals hF hv => ?_⟩
 simp only [strs, RepL, Rep, str] at hv
 obtain ⟨v1, r1, e1, ⟨a, len, cap, rfl, hlen, hcap, _, hrow⟩, v2, r2, rfl, ⟨rfl, _⟩, rfl⟩ := hv
 have hvals : vals = #[.slice a len cap, .string by'] := by apply Array.ext'; rw [e1]
 subst hvals
 simp only [List.length_map] at hlen
 subst hlen
 have key : Calls Tryz.prog 26 #[.slice a ws.length cap, .string by'] w fun e w' => e = .returned (.string (joinS ws by')) ∧ Below w.heap.size w w' := by
  cases hws : ws with
  | nil =>
   subst hws
   refine (Go.Proofs.Any.strings_Join_none Tryz.laysJoin Tryz.extraJoin a cap by' w).mono fun e w' h => ?_
   obtain ⟨rfl, rfl⟩ := h
   exact ⟨rfl, Below.refl _ _⟩
  | cons x ws' =>
   rw [← hws]
   have hne : ws ≠ [] := by rw [hws]; simp
   rcases hrow with ⟨_, _, h0, _⟩ | ⟨b, o, rfl, _, hrow⟩ | ⟨_, _, h0⟩
   ·rw [hws] at h0; simp at h0
   ·have hc := row_str (ws := ws) hrow
    refine (Go.Proofs.Any.strings_Join Tryz.laysJoin Tryz.extraJoin b o cap ws by' w (fun j x h => (hc j x h).1) (hF.lt b (hc 0 x (by rw [hws]; rfl)).2) hN hcap hL).mono fun e w' h => ?_
    exact h
   ·exact absurd (List.map_eq_nil_iff.1 h0) hne
 refine key.mono fun e w' h => ?_
 obtain ⟨rfl, hb⟩ := h
 exact ⟨_, fun _ => False, rfl, frm_of_below hb, fun _ h => h.elim, by simp [Own, Value.oneCell']⟩
open Go Go.RowKit
set_option linter.unusedSimpArgs false
def numS (xs : List Int) : ByteArray := if xs = [] then ⟨#[45]⟩ else joinS (xs.map itoaS) ⟨#[44]⟩
open Go Go.RowKit
set_option linter.unusedSimpArgs false
def by1 (s : ByteArray) (i : Nat) : Nat := (s[i]?.getD 0).toNat
theorem str_inj {a b : ByteArray} (h : [str a] = [str b]) : a = b := by simpa [str] using h
open Go Go.RowKit
set_option linter.unusedSimpArgs false
def rowS (r : Bool × List Int) : ByteArray := numS r.2
def wr (r : Bool × List Int) : AV := .v (.string (rowS r))
open Go Go.RowKit
set_option linter.unusedSimpArgs false
def dvlL (l : List UInt8) : Nat := l.foldl (fun a c => 10 * a + (c.toNat - 48)) 0
theorem dvL_snoc {l : List UInt8} {c : UInt8} : dvlL (l ++ [c]) = 10 * dvlL l + (c.toNat - 48) := by simp [dvlL]
theorem dec_facts : ∀ u, dvlL (Lib.decDigits u) = u ∧ (∀ c ∈ Lib.decDigits u, 48 ≤ c.toNat ∧ c.toNat ≤ 57) ∧ 0 < (Lib.decDigits u).length := by
 intro u
 induction u using Nat.strongRecOn with
 | _ u ih =>
  by_cases h : u < 10
  ·rw [dec_lt h]
   have e : (UInt8.ofNat (48 + u)).toNat = 48 + u := by simp; omega
   refine ⟨?_, ?_, by simp⟩
   ·have := dvL_snoc (l := []) (c := UInt8.ofNat (48 + u))
    rw [List.nil_append, e] at this
    rw [this]; simp [dvlL]
   ·intro c hc
    rw [List.mem_singleton] at hc
    subst hc
    rw [e]; omega
  ·rw [dec_ge (by omega)]
   obtain ⟨i1, i2, i3⟩ := ih (u / 10) (by omega)
   have e : (UInt8.ofNat (48 + u % 10)).toNat = 48 + u % 10 := by simp; omega
   refine ⟨?_, ?_, by simp⟩
   ·rw [dvL_snoc, i1, e]; omega
   ·intro c hc
    rw [List.mem_append, List.mem_singleton] at hc
    rcases hc with hc | rfl
    ·exact i2 c hc
    ·rw [e]; omega
def vL : List UInt8 → Int
 | [] => 0
 | c :: r => if c.toNat = 45 then -(dvlL r : Int) else dvlL (c :: r)
theorem vL_itoa (n : Int) : vL (Lib.itoa n) = n := by
 unfold Lib.itoa
 split
 ·obtain ⟨i1, _, _⟩ := dec_facts n.natAbs
  show (if (45 : UInt8).toNat = 45 then -(dvlL (Lib.decDigits n.natAbs) : Int) else dvlL (45 :: Lib.decDigits n.natAbs)) = n
  rw [if_pos (by decide), i1]; omega
 ·obtain ⟨i1, i2, i3⟩ := dec_facts n.toNat
  generalize Lib.decDigits n.toNat = l at *
  cases l with
  | nil => simp at i3
  | cons c r =>
   show (if c.toNat = 45 then -(dvlL r : Int) else dvlL (c :: r)) = n
   have := i2 c (by simp)
   rw [if_neg (by omega), i1]; omega
theorem itoaS_inj {a b : Int} (h : itoaS a = itoaS b) : a = b := by
 have h1 : bl (itoaS a) = bl (itoaS b) := by rw [h]
 unfold itoaS at h1
 rw [bl_mk, bl_mk] at h1
 rw [← vL_itoa a, h1, vL_itoa]
open Classical in
noncomputable def pI (s : ByteArray) : Int × Bool := if h : ∃ n, inI n ∧ itoaS n = s then (Classical.choose h, true) else (0, false)
theorem pI_of {n : Int} (h : inI n) : pI (itoaS n) = (n, true) := by
 unfold pI
 have hx : ∃ m, inI m ∧ itoaS m = itoaS n := ⟨n, h, rfl⟩
 rw [dif_pos hx]
 have := Classical.choose_spec hx
 rw [itoaS_inj this.2]
theorem pI_no {s : ByteArray} (h : ∀ n, inI n → itoaS n = s → False) : pI s = (0, false) := by
 unfold pI
 rw [dif_neg]
 rintro ⟨n, h1, h2⟩
 exact h n h1 h2
theorem by1_mk {l : List UInt8} {i : Nat} : by1 ⟨l.toArray⟩ i = (l[i]?.getD 0).toNat := by
 unfold by1
 have hs : (⟨l.toArray⟩ : ByteArray).size = l.length := by simp [ByteArray.size]
 by_cases h : i < l.length
 ·rw [getElem?_pos (⟨l.toArray⟩ : ByteArray) i (by rw [hs]; exact h), List.getElem?_eq_getElem h]
  rfl
 ·rw [getElem?_neg (⟨l.toArray⟩ : ByteArray) i (by rw [hs]; exact h), List.getElem?_eq_none (by omega)]
theorem mk_bl (s : ByteArray) : s = ⟨(bl s).toArray⟩ := by unfold bl; rw [Array.toArray_toList]
theorem bl_size (s : ByteArray) : (bl s).length = s.size := by simp [bl]
theorem by1_bl {s : ByteArray} {i : Nat} : by1 s i = ((bl s)[i]?.getD 0).toNat := by
 conv => lhs; rw [mk_bl s]
 exact by1_mk
open Go Go.RowKit
set_option linter.unusedSimpArgs false
noncomputable def mPI : List AV → Option AV := mk (fun s => s.size ≤ 281474976710656) (fun (s : ByteArray) => [str s]) (fun s => .tup [.v (.int .i64 (pI s).1), .v (.bool (pI s).2)])
theorem mPI_at (s : ByteArray) (h : s.size ≤ 281474976710656) : mPI [.v (.string s)] = some (.tup [.v (.int .i64 (pI s).1), .v (.bool (pI s).2)]) :=
 mk_eq (enc := fun (s : ByteArray) => [str s]) (x := s) (fun a b h => by rw [str_inj h]) h
theorem tl_ne {a b : ByteArray} (h : ¬ a = b) : ¬ a.toList = b.toList := fun e => h (bl_inj (by rw [ByteArray.toList_eq, ByteArray.toList_eq] at e; exact e))
open Go Go.RowKit
set_option linter.unusedSimpArgs false
def swF (s : ByteArray) (c : UInt8) : Nat → Nat
 | 0 => 0
 | i + 1 => if by1 s i = c.toNat then i + 1 else swF s c i
def spL (s : ByteArray) (c : UInt8) : Nat → List ByteArray
 | 0 => []
 | i + 1 => if by1 s i = c.toNat then spL s c i ++ [s.extract (swF s c i) i] else spL s c i
theorem spF_le {s : ByteArray} {c : UInt8} : ∀ {i : Nat}, swF s c i ≤ i
 | 0 => Nat.le_refl _
 | i + 1 => by
  have := spF_le (s := s) (c := c) (i := i)
  unfold swF
  split <;> omega
theorem spL_len {s : ByteArray} {c : UInt8} : ∀ {i : Nat}, (spL s c i).length ≤ i
 | 0 => Nat.le_refl _
 | i + 1 => by
  have := spL_len (s := s) (c := c) (i := i)
  unfold spL
  split
  ·rw [List.length_append, List.length_singleton]; omega
  ·omega
def splitS (s : ByteArray) (c : UInt8) : List ByteArray := spL s c s.size ++ [s.extract (swF s c s.size) s.size]
theorem ex_size {s : ByteArray} {a b : Nat} : (s.extract a b).size ≤ s.size := by
 rw [ByteArray.size_extract]; omega
theorem spL_size {s : ByteArray} {c : UInt8} : ∀ {i : Nat}, ∀ x ∈ spL s c i, x.size ≤ s.size
 | 0, x, hx => by simp [spL] at hx
 | i + 1, x, hx => by
  have ih := spL_size (s := s) (c := c) (i := i)
  unfold spL at hx
  split at hx
  ·rw [List.mem_append, List.mem_singleton] at hx
   rcases hx with hx | rfl
   ·exact ih x hx
   ·exact ex_size
  ·exact ih x hx
theorem splitS_facts {s : ByteArray} {c : UInt8} : (splitS s c).length ≤ s.size + 1 ∧ ∀ x ∈ splitS s c, x.size ≤ s.size := by
 unfold splitS
 refine ⟨?_, fun x hx => ?_⟩
 ·have := spL_len (s := s) (c := c) (i := s.size)
  rw [List.length_append, List.length_singleton]; omega
 ·rw [List.mem_append, List.mem_singleton] at hx
  rcases hx with hx | rfl
  ·exact spL_size x hx
  ·exact ex_size
end Go.Proofs.YtompijgfpeibnaaGreatDoor.Ax
