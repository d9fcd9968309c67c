/-
  Contracts: ParseInt (the reference's). No condition.
-/
import Derived.Test.YtkfmhpgnhkdebaaGreatDoorCG13
import Derived.Lib.AtoiAllCases
import Derived.Ground.NamesProg
import Derived.Shelf.Strings.Search3
namespace Go.Proofs.YtkfmhpgnhkdebaaGreatDoor.Ax
open Go Go.RowKit
set_option linter.unusedSimpArgs false
noncomputable def mPI : List AV → Option AV := mk (fun s => s.size ≤ 281474976710656) (fun (s : ByteArray) => [str s]) (fun s => .tup [.v (.int .i64 (pI s).1), .v (.bool (pI s).2)])
theorem mPI_at (s : ByteArray) (h : s.size ≤ 281474976710656) : mPI [.v (.string s)] = some (.tup [.v (.int .i64 (pI s).1), .v (.bool (pI s).2)]) :=
  mk_eq (enc := fun (s : ByteArray) => [str s]) (x := s) (fun a b h => by rw [str_inj h]) h
theorem tl_ne {a b : ByteArray} (h : ¬ a = b) : ¬ a.toList = b.toList := fun e => h (bl_inj (by rw [ByteArray.toList_eq, ByteArray.toList_eq] at e; exact e))
end Go.Proofs.YtkfmhpgnhkdebaaGreatDoor.Ax
namespace Go.Proofs.YtkfmhpgnhkdebaaGreatDoor.Ax
open Go Go.RowKit
set_option linter.unusedSimpArgs false
def swF (s : ByteArray) (c : UInt8) : Nat → Nat
  | 0 => 0
  | i + 1 => if by1 s i = c.toNat then i + 1 else swF s c i
def spL (s : ByteArray) (c : UInt8) : Nat → List ByteArray
  | 0 => []
  | i + 1 => if by1 s i = c.toNat then spL s c i ++ [s.extract (swF s c i) i] else spL s c i
theorem spL_len {s : ByteArray} {c : UInt8} : ∀ {i : Nat}, (spL s c i).length ≤ i
  | 0 => Nat.le_refl _
  | i + 1 => by
    have := spL_len (s := s) (c := c) (i := i)
    unfold spL
    split
    · rw [List.length_append, List.length_singleton]; omega
    · omega
def splitS (s : ByteArray) (c : UInt8) : List ByteArray := spL s c s.size ++ [s.extract (swF s c s.size) s.size]
theorem ex_size {s : ByteArray} {a b : Nat} : (s.extract a b).size ≤ s.size := by
  rw [ByteArray.size_extract]; omega
theorem spL_size {s : ByteArray} {c : UInt8} : ∀ {i : Nat}, ∀ x ∈ spL s c i, x.size ≤ s.size
  | 0, x, hx => by simp [spL] at hx
  | i + 1, x, hx => by
    have ih := spL_size (s := s) (c := c) (i := i)
    unfold spL at hx
    split at hx
    · rw [List.mem_append, List.mem_singleton] at hx
      rcases hx with hx | rfl
      · exact ih x hx
      · exact ex_size
    · exact ih x hx
theorem splitS_facts {s : ByteArray} {c : UInt8} : (splitS s c).length ≤ s.size + 1 ∧ ∀ x ∈ splitS s c, x.size ≤ s.size := by
  unfold splitS
  refine ⟨?_, fun x hx => ?_⟩
  · have := spL_len (s := s) (c := c) (i := s.size)
    rw [List.length_append, List.length_singleton]; omega
  · rw [List.mem_append, List.mem_singleton] at hx
    rcases hx with hx | rfl
    · exact spL_size x hx
    · exact ex_size
end Go.Proofs.YtkfmhpgnhkdebaaGreatDoor.Ax
namespace Go.Proofs.YtkfmhpgnhkdebaaGreatDoor.Ax
open Go Go.RowKit
set_option linter.unusedSimpArgs false
noncomputable def pnOk (W : List ByteArray) : Bool := W.all (fun x => (pI x).2) && decide (W.length ≤ 20)
noncomputable def pnL (W : List ByteArray) : List Int := W.map fun x => (pI x).1
noncomputable def pnR (b : Bool) (s : ByteArray) : AV := if s = ⟨#[45]⟩ then .tup [.sl b 1 [], .v (.bool true)] else if pnOk (splitS s 44) = true then .tup [.sl false 1 ((pnL (splitS s 44)).map int), .v (.bool true)] else .tup [.sl true 1 [], .v (.bool false)]
noncomputable def mPN (b : Bool) : List AV → Option AV := mk (fun s => s.size ≤ 2097152) (fun (s : ByteArray) => [str s]) (fun s => pnR b s)
theorem mPN_at (b : Bool) (s : ByteArray) (h : s.size ≤ 2097152) : mPN b [.v (.string s)] = some (pnR b s) :=
  mk_eq (enc := fun (s : ByteArray) => [str s]) (x := s) (fun a b h => by rw [str_inj h]) h
theorem pn_no {W : List ByteArray} {k : Nat} (h : k < W.length) (hf : (pI W[k]).2 = false) : pnOk W = false := by
  unfold pnOk
  have : W.all (fun x => (pI x).2) = false := List.all_eq_false.2 ⟨W[k], List.getElem_mem h, by simp [hf]⟩
  rw [this]; rfl
theorem pn_many {W : List ByteArray} (h : 20 < W.length) : pnOk W = false := by
  unfold pnOk
  simp; intro _; exact h
theorem pn_step {W : List ByteArray} {k : Nat} (h : k < W.length) (hp : (W.take k).all (fun x => (pI x).2) = true) (ht : (pI W[k]).2 = true) : (W.take (k + 1)).all (fun x => (pI x).2) = true := by
  rw [List.take_succ_eq_append_getElem h, List.all_append, hp]; simp [ht]
theorem pnL_step {W : List ByteArray} {k : Nat} (h : k < W.length) : pnL (W.take (k + 1)) = pnL (W.take k) ++ [(pI W[k]).1] := by
  unfold pnL
  rw [List.take_succ_eq_append_getElem h, List.map_append]; rfl
theorem pnL_len {W : List ByteArray} {k : Nat} (h : k ≤ W.length) : (pnL (W.take k)).length = k := by
  unfold pnL; rw [List.length_map, List.length_take]; omega
end Go.Proofs.YtkfmhpgnhkdebaaGreatDoor.Ax
namespace Go.Proofs.YtkfmhpgnhkdebaaGreatDoor.Ax
open Go Go.RowKit
def dvA (a : Nat) (l : List UInt8) : Nat := l.foldl (fun a c => 10 * a + (c.toNat - 48)) a
theorem dvA_cons {a : Nat} {c : UInt8} {l : List UInt8} : dvA a (c :: l) = dvA (10 * a + (c.toNat - 48)) l := by simp [dvA]
theorem dvA_nil {a : Nat} : dvA a [] = a := by simp [dvA]
theorem dvA_ge (l : List UInt8) : ∀ a, a ≤ dvA a l := by
  induction l with
  | nil => intro a; rw [dvA_nil]; exact Nat.le_refl _
  | cons c l ih =>
    intro a
    rw [dvA_cons]
    exact Nat.le_trans (by omega) (ih (10 * a + (c.toNat - 48)))
theorem parse_digits (l : List UInt8) : ∀ a, (∀ c ∈ l, 48 ≤ c.toNat ∧ c.toNat ≤ 57) → dvA a l < 18446744073709551616 → Lib.parseUint10 a l = .ok (dvA a l) := by
  induction l with
  | nil => intro a _ _; rw [dvA_nil]; simp [Lib.parseUint10]
  | cons c l ih =>
    intro a hd h
    rw [dvA_cons] at h ⊢
    have hc := hd c (by simp)
    have hg := dvA_ge l (10 * a + (c.toNat - 48))
    simp only [Lib.parseUint10]
    rw [if_pos hc, if_neg (by omega), if_neg (by omega), Nat.mul_comm a 10]
    exact ih _ (fun x hx => hd x (by simp [hx])) h
theorem parse_dec {u : Nat} (h : u < 18446744073709551616) : Lib.parseMag (Lib.decDigits u) = .ok u := by
  obtain ⟨i1, i2, i3⟩ := dec_facts u
  have e : dvA 0 (Lib.decDigits u) = u := i1
  unfold Lib.parseMag
  rw [if_neg (by intro h; rw [h] at i3; simp at i3), parse_digits _ 0 i2 (by omega), e]
theorem atoi_itoa {n : Int} (h : inI n) : Lib.atoiAll (Lib.itoa n) = .ok n := by
  have h1 := h.1
  have h2 := h.2
  unfold Lib.itoa
  split
  · rw [Lib.atoiAll_minus, parse_dec (by omega)]
    unfold Lib.signed
    simp only
    rw [if_neg (by omega)]
    congr 1; omega
  · have hp := parse_dec (u := n.toNat) (by omega)
    obtain ⟨_, i2, i3⟩ := dec_facts n.toNat
    generalize Lib.decDigits n.toNat = l at *
    cases l with
    | nil => simp at i3
    | cons c r =>
      have := i2 c (by simp)
      rw [Lib.atoiAll_plain c r (by omega) (by omega), hp]
      unfold Lib.signless
      simp only
      rw [if_neg (by omega)]
      congr 1; omega
theorem pI_atoi {s : ByteArray} : (∃ v, Lib.atoiAll s.data.toList = .ok v ∧ inI v ∧ pI s = if itoaS v = s then (v, true) else (0, false)) ∨ ((Lib.atoiAll s.data.toList = .syntax ∨ Lib.atoiAll s.data.toList = .range) ∧ pI s = (0, false)) := by
  have key : ∀ n, inI n → itoaS n = s → Lib.atoiAll s.data.toList = .ok n := fun n hn e => by
    subst e
    exact (show Lib.atoiAll (Lib.itoa n) = .ok n from atoi_itoa hn)
  cases h : Lib.atoiAll s.data.toList with
  | ok v =>
    have hv := Lib.atoiAll_bounds h
    refine .inl ⟨v, rfl, hv, ?_⟩
    split
    · rename_i e; rw [← e]; exact pI_of hv
    · rename_i e
      refine pI_no fun n hn e' => e ?_
      have := key n hn e'
      rw [h] at this
      injection this with this
      rw [this]; exact e'
  | «syntax» => exact .inr ⟨.inl rfl, pI_no fun n hn e => by have := key n hn e; rw [h] at this; cases this⟩
  | range => exact .inr ⟨.inr rfl, pI_no fun n hn e => by have := key n hn e; rw [h] at this; cases this⟩
end Go.Proofs.YtkfmhpgnhkdebaaGreatDoor.Ax
namespace Go.Proofs.YtkfmhpgnhkdebaaGreatDoor.Ax
open Go Go.RowKit
set_option linter.unusedSimpArgs false
noncomputable def pnK (s : ByteArray) : Bool := decide (s = ⟨#[45]⟩) || pnOk (splitS s 44)
noncomputable def prw (b : Bool) (s : ByteArray) : Bool × List Int := if s = ⟨#[45]⟩ then (b, []) else (false, pnL (splitS s 44))
theorem pnR_eq {b : Bool} {s : ByteArray} : pnR b s = if pnK s = true then .tup [.sl (prw b s).1 1 ((prw b s).2.map int), .v (.bool true)] else .tup [.sl true 1 [], .v (.bool false)] := by
  unfold pnR pnK prw
  by_cases h : s = ⟨#[45]⟩
  · simp [h]
  · simp [h]
noncomputable def ptOk (W : List ByteArray) : Bool := W.all pnK && decide (W.length ≤ 20)
noncomputable def ptbL (b : Bool) (W : List ByteArray) : List (Bool × List Int) := W.map (prw b)
noncomputable def ptbR (b : Bool) (s : ByteArray) : AV := if s = ⟨#[61]⟩ then .tup [.sl b 1 [], .v (.bool true)] else if ptOk (splitS s 59) = true then .tup [.sl false 1 ((ptbL b (splitS s 59)).map row), .v (.bool true)] else .tup [.sl true 1 [], .v (.bool false)]
noncomputable def mPT (b : Bool) : List AV → Option AV := mk (fun s => s.size ≤ 2097152) (fun (s : ByteArray) => [str s]) (fun s => ptbR b s)
theorem mPT_at (b : Bool) (s : ByteArray) (h : s.size ≤ 2097152) : mPT b [.v (.string s)] = some (ptbR b s) :=
  mk_eq (enc := fun (s : ByteArray) => [str s]) (x := s) (fun a b h => by rw [str_inj h]) h
theorem pt_no {W : List ByteArray} {k : Nat} (h : k < W.length) (hf : pnK W[k] = false) : ptOk W = false := by
  unfold ptOk
  have : W.all pnK = false := List.all_eq_false.2 ⟨W[k], List.getElem_mem h, by simp [hf]⟩
  rw [this]; rfl
theorem pt_many {W : List ByteArray} (h : 20 < W.length) : ptOk W = false := by
  unfold ptOk
  simp; intro _; exact h
theorem pt_step {W : List ByteArray} {k : Nat} (h : k < W.length) (hp : (W.take k).all pnK = true) (ht : pnK W[k] = true) : (W.take (k + 1)).all pnK = true := by
  rw [List.take_succ_eq_append_getElem h, List.all_append, hp]; simp [ht]
theorem ptL_step {b : Bool} {W : List ByteArray} {k : Nat} (h : k < W.length) : ptbL b (W.take (k + 1)) = ptbL b (W.take k) ++ [prw b W[k]] := by
  unfold ptbL
  rw [List.take_succ_eq_append_getElem h, List.map_append]; rfl
theorem ptL_len {b : Bool} {W : List ByteArray} {k : Nat} (h : k ≤ W.length) : (ptbL b (W.take k)).length = k := by
  unfold ptbL; rw [List.length_map, List.length_take]; omega
end Go.Proofs.YtkfmhpgnhkdebaaGreatDoor.Ax
namespace Go.Proofs
open Go.Shelf
def Tryz.laysIndex_ren : Go.Shelf.Ren := ⟨fun | 143 => 242 | 219 => 236 | 217 => 267 | 225 => 268 | 224 => 269 | 267 => 270 | 266 => 289 | 314 => 290 | n => n, fun | 9 => 9 | 3 => 3 | 4 => 4 | 5 => 5 | 46 => 167 | 146 => 232 | 51 => 206 | n => n, fun | 1 => 0 | n => n⟩
theorem Tryz.laysIndex : Go.Proofs.Lays.n143 Tryz.prog Tryz.laysIndex_ren := {
  mixed := by kernel_rfl
  f143 := Tryz.func242.trans (congrArg some (by kernel_rfl))
  f217 := Tryz.func267.trans (congrArg some (by kernel_rfl))
  f219 := Tryz.func236.trans (congrArg some (by kernel_rfl))
  f224 := Tryz.func269.trans (congrArg some (by kernel_rfl))
  f225 := Tryz.func268.trans (congrArg some (by kernel_rfl))
  f266 := Tryz.func289.trans (congrArg some (by kernel_rfl))
  f267 := Tryz.func270.trans (congrArg some (by kernel_rfl))
  f314 := Tryz.func290.trans (congrArg some (by kernel_rfl))
  t3 := Tryz.underlying3
  a3 := Tryz.isAgg3
  z3 := Tryz.sizeOf3
  v3 := Tryz.zeroValue3
  t4 := Tryz.underlying4
  a4 := Tryz.isAgg4
  z4 := Tryz.sizeOf4
  v4 := Tryz.zeroValue4
  t5 := Tryz.underlying5
  a5 := Tryz.isAgg5
  z5 := Tryz.sizeOf5
  v5 := Tryz.zeroValue5
  t9 := Tryz.underlying9
  a9 := Tryz.isAgg9
  z9 := Tryz.sizeOf9
  v9 := Tryz.zeroValue9
  t46 := Tryz.underlying167
  a46 := Tryz.isAgg167
  z46 := Tryz.sizeOf167
  v46 := Tryz.zeroValue167
  t51 := Tryz.underlying206
  a51 := Tryz.isAgg206
  z51 := Tryz.sizeOf206
  v51 := Tryz.zeroValue206
  t146 := Tryz.underlying232
  a146 := Tryz.isAgg232
  z146 := Tryz.sizeOf232
  v146 := Tryz.zeroValue232
  g1 := by kernel_rfl }
end Go.Proofs
namespace Go.Proofs.YtkfmhpgnhkdebaaGreatDoor.Ax
open Go Go.RowKit
set_option linter.unusedSimpArgs false
noncomputable def mIxb : List AV → Option AV := mk (fun _ => True) (fun (p : ByteArray × UInt8) => [str p.1, str ⟨#[p.2]⟩]) (fun p => int (Lib.indexByte (bl p.1) p.2))
theorem mIxb_at (s : ByteArray) (c : UInt8) : mIxb [.v (.string s), .v (.string ⟨#[c]⟩)] = some (.v (.int .i64 (Lib.indexByte (bl s) c))) :=
  mk_eq (enc := fun (p : ByteArray × UInt8) => [str p.1, str ⟨#[p.2]⟩]) (x := (s, c)) (by
    rintro ⟨a, b⟩ ⟨a', b'⟩ h
    simp [str] at h
    rw [h.1, h.2]) trivial
theorem index_ok : FnOk Tryz.prog 242 mIxb := by
  refine mk_ok fun ⟨s, c⟩ _ => ?_
  refine ⟨⟨_, Tryz.func242, by kernel_rfl, by kernel_rfl⟩, fun w F vals hF hv => ?_⟩
  simp only [RepL, Rep, str] at hv
  obtain ⟨v1, r1, e1, ⟨rfl, _⟩, v2, r2, rfl, ⟨rfl, _⟩, rfl⟩ := hv
  have hvals : vals = #[.string s, .string ⟨#[c]⟩] := by apply Array.ext'; rw [e1]
  subst hvals
  refine (Go.Proofs.Any.strings_Index_one Tryz.laysIndex s c w).mono fun e w' h => ?_
  obtain ⟨rfl, rfl⟩ := h
  exact ⟨_, fun _ => False, rfl, Frm.refl _ _, fun _ h => h.elim, by simp [Own, int, Value.oneCell', bl]⟩
theorem idx_facts {l : List UInt8} {c : UInt8} : (Lib.indexByte l c = -1 ∧ ∀ x ∈ l, x ≠ c) ∨ ∃ k : Nat, Lib.indexByte l c = k ∧ ∃ h : k < l.length, l[k] = c ∧ ∀ j (hj : j < k), l[j] ≠ c := by
  induction l with
  | nil => exact .inl ⟨rfl, fun x hx => by simp at hx⟩
  | cons b l ih =>
    by_cases hb : b = c
    · subst hb
      exact .inr ⟨0, by simp [Lib.indexByte], by simp, rfl, fun j hj => by omega⟩
    · have hbb : (b == c) = false := by simpa using hb
      rcases ih with ⟨h1, h2⟩ | ⟨k, h1, h2, h3, h4⟩
      · refine .inl ⟨by simp [Lib.indexByte, hbb, h1], fun x hx => ?_⟩
        rcases List.mem_cons.1 hx with rfl | hx
        · exact hb
        · exact h2 x hx
      · refine .inr ⟨k + 1, ?_, by simp; exact h2, by simpa using h3, fun j hj => ?_⟩
        · have : ¬ ((k : Int) = -1) := by omega
          simp [Lib.indexByte, hbb, h1, this]
        · cases j with
          | zero => simpa using hb
          | succ j => simpa using h4 j (by omega)
end Go.Proofs.YtkfmhpgnhkdebaaGreatDoor.Ax
namespace Go.Proofs.YtkfmhpgnhkdebaaGreatDoor.Ax
open Go Go.RowKit
theorem bl_ex {s : ByteArray} {a b : Nat} : bl (s.extract a b) = ((bl s).take b).drop a := by
  unfold bl
  rw [ByteArray.data_extract, Array.toList_extract, List.extract_eq_take_drop]
  rw [List.drop_take]
theorem sp_none {s : ByteArray} {c : UInt8} : ∀ {i : Nat}, (∀ j, j < i → by1 s j ≠ c.toNat) → spL s c i = [] ∧ swF s c i = 0
  | 0, _ => ⟨rfl, rfl⟩
  | i + 1, h => by
    obtain ⟨h1, h2⟩ := sp_none (s := s) (c := c) (i := i) fun j hj => h j (by omega)
    have := h i (by omega)
    unfold spL swF
    rw [if_neg this, if_neg this]
    exact ⟨h1, h2⟩
theorem ex_all {s : ByteArray} : s.extract 0 s.size = s := by
  apply bl_inj
  rw [bl_ex, List.drop_zero, List.take_of_length_le (by rw [bl_size]; exact Nat.le_refl _)]
theorem split_none {s : ByteArray} {c : UInt8} (h : ∀ j, j < s.size → by1 s j ≠ c.toNat) : splitS s c = [s] := by
  obtain ⟨h1, h2⟩ := sp_none (s := s) (c := c) (i := s.size) h
  unfold splitS
  rw [h1, h2, ex_all]; rfl
theorem sp_some {s : ByteArray} {c : UInt8} {j : Nat} (_hj : j < s.size) (hc : by1 s j = c.toNat) (h : ∀ i, i < j → by1 s i ≠ c.toNat) : ∀ {i : Nat}, j + 1 + i ≤ s.size →
    spL s c (j + 1 + i) = s.extract 0 j :: spL (s.extract (j + 1) s.size) c i ∧ swF s c (j + 1 + i) = j + 1 + swF (s.extract (j + 1) s.size) c i := by
  intro i
  induction i with
  | zero =>
    intro _
    obtain ⟨h1, h2⟩ := sp_none (s := s) (c := c) (i := j) h
    simp only [Nat.add_zero, spL, swF]
    rw [if_pos hc, if_pos hc, h1, h2]
    exact ⟨rfl, rfl⟩
  | succ i ih =>
    intro hi
    obtain ⟨h1, h2⟩ := ih (by omega)
    have hb : by1 (s.extract (j + 1) s.size) i = by1 s (j + 1 + i) := by
      rw [by1_bl, by1_bl, bl_ex, List.getElem?_drop, List.getElem?_take, if_pos (by omega)]
    have he : (s.extract (j + 1) s.size).extract (swF (s.extract (j + 1) s.size) c i) i = s.extract (j + 1 + swF (s.extract (j + 1) s.size) c i) (j + 1 + i) := by
      apply bl_inj
      rw [bl_ex, bl_ex, bl_ex]
      rw [List.take_of_length_le (l := bl s) (by rw [bl_size]; exact Nat.le_refl _), List.take_drop, List.drop_drop]
    rw [show j + 1 + (i + 1) = (j + 1 + i) + 1 by omega]
    simp only [spL, swF]
    rw [hb, h1, h2, he]
    split
    · exact ⟨rfl, by omega⟩
    · exact ⟨rfl, rfl⟩
theorem split_some {s : ByteArray} {c : UInt8} {j : Nat} (hj : j < s.size) (hc : by1 s j = c.toNat) (h : ∀ i, i < j → by1 s i ≠ c.toNat) : splitS s c = s.extract 0 j :: splitS (s.extract (j + 1) s.size) c := by
  have hsz : (s.extract (j + 1) s.size).size = s.size - (j + 1) := by rw [ByteArray.size_extract]; omega
  obtain ⟨h1, h2⟩ := sp_some hj hc h (i := s.size - (j + 1)) (by omega)
  rw [show j + 1 + (s.size - (j + 1)) = s.size by omega] at h1 h2
  have he : (s.extract (j + 1) s.size).extract (swF (s.extract (j + 1) s.size) c (s.size - (j + 1))) (s.size - (j + 1)) = s.extract (j + 1 + swF (s.extract (j + 1) s.size) c (s.size - (j + 1))) s.size := by
    apply bl_inj
    rw [bl_ex, bl_ex, bl_ex]
    rw [List.take_of_length_le (l := bl s) (by rw [bl_size]; exact Nat.le_refl _), List.take_drop, List.drop_drop, show j + 1 + (s.size - (j + 1)) = s.size by omega, List.take_of_length_le (l := bl s) (by rw [bl_size]; exact Nat.le_refl _)]
  unfold splitS
  rw [hsz, h1, h2, he]; rfl
theorem split_idx {s : ByteArray} {c : UInt8} : (Lib.indexByte (bl s) c = -1 ∧ splitS s c = [s]) ∨ ∃ j : Nat, Lib.indexByte (bl s) c = j ∧ j < s.size ∧ splitS s c = s.extract 0 j :: splitS (s.extract (j + 1) s.size) c := by
  rcases idx_facts (l := bl s) (c := c) with ⟨h1, h2⟩ | ⟨j, h1, h2, h3, h4⟩
  · refine .inl ⟨h1, split_none fun j hj e => ?_⟩
    have hj' : j < (bl s).length := by rw [bl_size]; exact hj
    rw [by1_bl, List.getElem?_eq_getElem hj'] at e
    exact h2 _ (List.getElem_mem hj') (UInt8.toNat_inj.1 e)
  · have hj : j < s.size := by rw [← bl_size]; exact h2
    refine .inr ⟨j, h1, hj, split_some hj ?_ fun i hi e => ?_⟩
    · rw [by1_bl, List.getElem?_eq_getElem h2, Option.getD_some, h3]
    · have hi' : i < (bl s).length := by omega
      rw [by1_bl, List.getElem?_eq_getElem hi'] at e
      exact h4 i hi (UInt8.toNat_inj.1 e)
end Go.Proofs.YtkfmhpgnhkdebaaGreatDoor.Ax
