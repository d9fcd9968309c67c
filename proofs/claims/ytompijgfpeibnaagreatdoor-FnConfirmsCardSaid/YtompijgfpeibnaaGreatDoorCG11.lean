/-
 What strconv.Atoi answers for a number's own numeral. No condition.
-/
import Derived.Test.YtompijgfpeibnaaGreatDoorCG10
import Derived.Lib.AtoiAllCases
import Derived.Ground.NamesProg
import Derived.Shelf.Strings.Search3
import Derived.Test.YtompijgfpeibnaaGreatDoorCK6
import Derived.Shelf.Strconv.AtoiAll
namespace Go.Proofs.YtompijgfpeibnaaGreatDoor.Ax
open Go Go.RowKit
def dvA (a : Nat) (l : List UInt8) : Nat := l.foldl (fun a c => 10 * a + (c.toNat - 48)) a
theorem dvA_cons {a : Nat} {c : UInt8} {l : List UInt8} : dvA a (c :: l) = dvA (10 * a + (c.toNat - 48)) l := by simp [dvA]
theorem dvA_nil {a : Nat} : dvA a [] = a := by simp [dvA]
theorem dvA_ge (l : List UInt8) : ∀ a, a ≤ dvA a l := by
 induction l with
 | nil => intro a; rw [dvA_nil]; exact Nat.le_refl _
 | cons c l ih =>
  intro a
  rw [dvA_cons]
  exact Nat.le_trans (by omega) (ih (10 * a + (c.toNat - 48)))
theorem parse_digits (l : List UInt8) : ∀ a, (∀ c ∈ l, 48 ≤ c.toNat ∧ c.toNat ≤ 57) → dvA a l < 18446744073709551616 → Lib.parseUint10 a l = .ok (dvA a l) := by
 induction l with
 | nil => intro a _ _; rw [dvA_nil]; simp [Lib.parseUint10]
 | cons c l ih =>
  intro a hd h
  rw [dvA_cons] at h ⊢
  have hc := hd c (by simp)
  have hg := dvA_ge l (10 * a + (c.toNat - 48))
  simp only [Lib.parseUint10]
  rw [if_pos hc, if_neg (by omega), if_neg (by omega), Nat.mul_comm a 10]
  exact ih _ (fun x hx => hd x (by simp [hx])) h
theorem parse_dec {u : Nat} (h : u < 18446744073709551616) : Lib.parseMag (Lib.decDigits u) = .ok u := by
 obtain ⟨i1, i2, i3⟩ := dec_facts u
 have e : dvA 0 (Lib.decDigits u) = u := i1
 unfold Lib.parseMag
 rw [if_neg (by intro h; rw [h] at i3; simp at i3), parse_digits _ 0 i2 (by omega), e]
theorem atoi_itoa {n : Int} (h : inI n) : Lib.atoiAll (Lib.itoa n) = .ok n := by
 have h1 := h.1
 have h2 := h.2
 unfold Lib.itoa
 split
 ·rw [Lib.atoiAll_minus, parse_dec (by omega)]
  unfold Lib.signed
  simp only
  rw [if_neg (by omega)]
  congr 1; omega
 ·have hp := parse_dec (u := n.toNat) (by omega)
  obtain ⟨_, i2, i3⟩ := dec_facts n.toNat
  generalize Lib.decDigits n.toNat = l at *
  cases l with
  | nil => simp at i3
  | cons c r =>
   have := i2 c (by simp)
   rw [Lib.atoiAll_plain c r (by omega) (by omega), hp]
   unfold Lib.signless
   simp only
   rw [if_neg (by omega)]
   congr 1; omega
theorem pI_atoi {s : ByteArray} : (∃ v, Lib.atoiAll s.data.toList = .ok v ∧ inI v ∧ pI s = if itoaS v = s then (v, true) else (0, false)) ∨ ((Lib.atoiAll s.data.toList = .syntax ∨ Lib.atoiAll s.data.toList = .range) ∧ pI s = (0, false)) := by
 have key : ∀ n, inI n → itoaS n = s → Lib.atoiAll s.data.toList = .ok n := fun n hn e => by
  subst e
  exact (show Lib.atoiAll (Lib.itoa n) = .ok n from atoi_itoa hn)
 cases h : Lib.atoiAll s.data.toList with
 | ok v =>
  have hv := Lib.atoiAll_bounds h
  refine .inl ⟨v, rfl, hv, ?_⟩
  split
  ·rename_i e; rw [← e]; exact pI_of hv
  ·rename_i e
   refine pI_no fun n hn e' => e ?_
   have := key n hn e'
   rw [h] at this
   injection this with this
   rw [this]; exact e'
 | «syntax» => exact .inr ⟨.inl rfl, pI_no fun n hn e => by have := key n hn e; rw [h] at this; cases this⟩
 | range => exact .inr ⟨.inr rfl, pI_no fun n hn e => by have := key n hn e; rw [h] at this; cases this⟩
end Go.Proofs.YtompijgfpeibnaaGreatDoor.Ax
namespace Go.Proofs
open Go.Shelf
def Tryz.laysIndex_ren : Go.Shelf.Ren := ⟨fun | 143 => 85 | 219 => 91 | 217 => 158 | 225 => 159 | 224 => 160 | 267 => 161 | 266 => 258 | 314 => 259 | n => n, fun | 9 => 9 | 3 => 3 | 4 => 4 | 5 => 5 | 46 => 64 | 146 => 225 | 51 => 215 | n => n, fun | 1 => 0 | n => n⟩
theorem Tryz.laysIndex : Go.Proofs.Lays.n143 Tryz.prog Tryz.laysIndex_ren := {
 mixed := by kernel_rfl
 f143 := Tryz.func85.trans (congrArg some (by kernel_rfl))
 f217 := Tryz.func158.trans (congrArg some (by kernel_rfl))
 f219 := Tryz.func91.trans (congrArg some (by kernel_rfl))
 f224 := Tryz.func160.trans (congrArg some (by kernel_rfl))
 f225 := Tryz.func159.trans (congrArg some (by kernel_rfl))
 f266 := Tryz.func258.trans (congrArg some (by kernel_rfl))
 f267 := Tryz.func161.trans (congrArg some (by kernel_rfl))
 f314 := Tryz.func259.trans (congrArg some (by kernel_rfl))
 t3 := Tryz.underlying3
 a3 := Tryz.isAgg3
 z3 := Tryz.sizeOf3
 v3 := Tryz.zeroValue3
 t4 := Tryz.underlying4
 a4 := Tryz.isAgg4
 z4 := Tryz.sizeOf4
 v4 := Tryz.zeroValue4
 t5 := Tryz.underlying5
 a5 := Tryz.isAgg5
 z5 := Tryz.sizeOf5
 v5 := Tryz.zeroValue5
 t9 := Tryz.underlying9
 a9 := Tryz.isAgg9
 z9 := Tryz.sizeOf9
 v9 := Tryz.zeroValue9
 t46 := Tryz.underlying64
 a46 := Tryz.isAgg64
 z46 := Tryz.sizeOf64
 v46 := Tryz.zeroValue64
 t51 := Tryz.underlying215
 a51 := Tryz.isAgg215
 z51 := Tryz.sizeOf215
 v51 := Tryz.zeroValue215
 t146 := Tryz.underlying225
 a146 := Tryz.isAgg225
 z146 := Tryz.sizeOf225
 v146 := Tryz.zeroValue225
 g1 := by kernel_rfl }
end Go.Proofs
namespace Go.Proofs.YtompijgfpeibnaaGreatDoor.Ax
open Go Go.RowKit
set_option linter.unusedSimpArgs false
noncomputable def mIxb : List AV → Option AV := mk (fun _ => True) (fun (p : ByteArray × UInt8) => [str p.1, str ⟨#[p.2]⟩]) (fun p => int (Lib.indexByte (bl p.1) p.2))
theorem mIxb_at (s : ByteArray) (c : UInt8) : mIxb [.v (.string s), .v (.string ⟨#[c]⟩)] = some (.v (.int .i64 (Lib.indexByte (bl s) c))) :=
 mk_eq (enc := fun (p : ByteArray × UInt8) => [str p.1, str ⟨#[p.2]⟩]) (x := (s, c)) (by
  rintro ⟨a, b⟩ ⟨a', b'⟩ h
  simp [str] at h
  rw [h.1, h.2]) trivial
theorem index_ok : FnOk Tryz.prog 85 mIxb := by
 refine mk_ok fun ⟨s, c⟩ _ => ?_
 refine ⟨⟨_, Tryz.func85, by kernel_rfl, by kernel_rfl⟩, fun w F vals hF hv => ?_⟩
 simp only [RepL, Rep, str] at hv
 obtain ⟨v1, r1, e1, ⟨rfl, _⟩, v2, r2, rfl, ⟨rfl, _⟩, rfl⟩ := hv
 have hvals : vals = #[.string s, .string ⟨#[c]⟩] := by apply Array.ext'; rw [e1]
 subst hvals
 refine (Go.Proofs.Any.strings_Index_one Tryz.laysIndex s c w).mono fun e w' h => ?_
 obtain ⟨rfl, rfl⟩ := h
 exact ⟨_, fun _ => False, rfl, Frm.refl _ _, fun _ h => h.elim, by simp [Own, int, Value.oneCell', bl]⟩
theorem idx_facts {l : List UInt8} {c : UInt8} : (Lib.indexByte l c = -1 ∧ ∀ x ∈ l, x ≠ c) ∨ ∃ k : Nat, Lib.indexByte l c = k ∧ ∃ h : k < l.length, l[k] = c ∧ ∀ j (hj : j < k), l[j] ≠ c := by
 induction l with
 | nil => exact .inl ⟨rfl, fun x hx => by simp at hx⟩
 | cons b l ih =>
  by_cases hb : b = c
  ·subst hb
   exact .inr ⟨0, by simp [Lib.indexByte], by simp, rfl, fun j hj => by omega⟩
  ·have hbb : (b == c) = false := by simpa using hb
   rcases ih with ⟨h1, h2⟩ | ⟨k, h1, h2, h3, h4⟩
   ·refine .inl ⟨by simp [Lib.indexByte, hbb, h1], fun x hx => ?_⟩
    rcases List.mem_cons.1 hx with rfl | hx
    ·exact hb
    ·exact h2 x hx
   ·refine .inr ⟨k + 1, ?_, by simp; exact h2, by simpa using h3, fun j hj => ?_⟩
    ·have : ¬ ((k : Int) = -1) := by omega
     simp [Lib.indexByte, hbb, h1, this]
    ·cases j with
     | zero => simpa using hb
     | succ j => simpa using h4 j (by omega)
open Go Go.RowKit
theorem bl_ex {s : ByteArray} {a b : Nat} : bl (s.extract a b) = ((bl s).take b).drop a := by
 unfold bl
 rw [ByteArray.data_extract, Array.toList_extract, List.extract_eq_take_drop]
 rw [List.drop_take]
theorem sp_none {s : ByteArray} {c : UInt8} : ∀ {i : Nat}, (∀ j, j < i → by1 s j ≠ c.toNat) → spL s c i = [] ∧ swF s c i = 0
 | 0, _ => ⟨rfl, rfl⟩
 | i + 1, h => by
  obtain ⟨h1, h2⟩ := sp_none (s := s) (c := c) (i := i) fun j hj => h j (by omega)
  have := h i (by omega)
  unfold spL swF
  rw [if_neg this, if_neg this]
  exact ⟨h1, h2⟩
theorem ex_all {s : ByteArray} : s.extract 0 s.size = s := by
 apply bl_inj
 rw [bl_ex, List.drop_zero, List.take_of_length_le (by rw [bl_size]; exact Nat.le_refl _)]
theorem split_none {s : ByteArray} {c : UInt8} (h : ∀ j, j < s.size → by1 s j ≠ c.toNat) : splitS s c = [s] := by
 obtain ⟨h1, h2⟩ := sp_none (s := s) (c := c) (i := s.size) h
 unfold splitS
 rw [h1, h2, ex_all]; rfl
theorem sp_some {s : ByteArray} {c : UInt8} {j : Nat} (_hj : j < s.size) (hc : by1 s j = c.toNat) (h : ∀ i, i < j → by1 s i ≠ c.toNat) : ∀ {i : Nat}, j + 1 + i ≤ s.size →
  spL s c (j + 1 + i) = s.extract 0 j :: spL (s.extract (j + 1) s.size) c i ∧ swF s c (j + 1 + i) = j + 1 + swF (s.extract (j + 1) s.size) c i := by
 intro i
 induction i with
 | zero =>
  intro _
  obtain ⟨h1, h2⟩ := sp_none (s := s) (c := c) (i := j) h
  simp only [Nat.add_zero, spL, swF]
  rw [if_pos hc, if_pos hc, h1, h2]
  exact ⟨rfl, rfl⟩
 | succ i ih =>
  intro hi
  obtain ⟨h1, h2⟩ := ih (by omega)
  have hb : by1 (s.extract (j + 1) s.size) i = by1 s (j + 1 + i) := by
   rw [by1_bl, by1_bl, bl_ex, List.getElem?_drop, List.getElem?_take, if_pos (by omega)]
  have he : (s.extract (j + 1) s.size).extract (swF (s.extract (j + 1) s.size) c i) i = s.extract (j + 1 + swF (s.extract (j + 1) s.size) c i) (j + 1 + i) := by
   apply bl_inj
   rw [bl_ex, bl_ex, bl_ex]
   rw [List.take_of_length_le (l := bl s) (by rw [bl_size]; exact Nat.le_refl _), List.take_drop, List.drop_drop]
  rw [show j + 1 + (i + 1) = (j + 1 + i) + 1 by omega]
  simp only [spL, swF]
  rw [hb, h1, h2, he]
  split
  ·exact ⟨rfl, by omega⟩
  ·exact ⟨rfl, rfl⟩
theorem split_some {s : ByteArray} {c : UInt8} {j : Nat} (hj : j < s.size) (hc : by1 s j = c.toNat) (h : ∀ i, i < j → by1 s i ≠ c.toNat) : splitS s c = s.extract 0 j :: splitS (s.extract (j + 1) s.size) c := by
 have hsz : (s.extract (j + 1) s.size).size = s.size - (j + 1) := by rw [ByteArray.size_extract]; omega
 obtain ⟨h1, h2⟩ := sp_some hj hc h (i := s.size - (j + 1)) (by omega)
 rw [show j + 1 + (s.size - (j + 1)) = s.size by omega] at h1 h2
 have he : (s.extract (j + 1) s.size).extract (swF (s.extract (j + 1) s.size) c (s.size - (j + 1))) (s.size - (j + 1)) = s.extract (j + 1 + swF (s.extract (j + 1) s.size) c (s.size - (j + 1))) s.size := by
  apply bl_inj
  rw [bl_ex, bl_ex, bl_ex]
  rw [List.take_of_length_le (l := bl s) (by rw [bl_size]; exact Nat.le_refl _), List.take_drop, List.drop_drop, show j + 1 + (s.size - (j + 1)) = s.size by omega, List.take_of_length_le (l := bl s) (by rw [bl_size]; exact Nat.le_refl _)]
 unfold splitS
 rw [hsz, h1, h2, he]; rfl
theorem split_idx {s : ByteArray} {c : UInt8} : (Lib.indexByte (bl s) c = -1 ∧ splitS s c = [s]) ∨ ∃ j : Nat, Lib.indexByte (bl s) c = j ∧ j < s.size ∧ splitS s c = s.extract 0 j :: splitS (s.extract (j + 1) s.size) c := by
 rcases idx_facts (l := bl s) (c := c) with ⟨h1, h2⟩ | ⟨j, h1, h2, h3, h4⟩
 ·refine .inl ⟨h1, split_none fun j hj e => ?_⟩
  have hj' : j < (bl s).length := by rw [bl_size]; exact hj
  rw [by1_bl, List.getElem?_eq_getElem hj'] at e
  exact h2 _ (List.getElem_mem hj') (UInt8.toNat_inj.1 e)
 ·have hj : j < s.size := by rw [← bl_size]; exact h2
  refine .inr ⟨j, h1, hj, split_some hj ?_ fun i hi e => ?_⟩
  ·rw [by1_bl, List.getElem?_eq_getElem h2, Option.getD_some, h3]
  ·have hi' : i < (bl s).length := by omega
   rw [by1_bl, List.getElem?_eq_getElem hi'] at e
   exact h4 i hi (UInt8.toNat_inj.1 e)
end Go.Proofs.YtompijgfpeibnaaGreatDoor.Ax
namespace Go.Proofs
open Go.Shelf
def Tryz.laysAtoi_ren : Go.Shelf.Ren := ⟨fun | 172 => 87 | 244 => 151 | 245 => 152 | 247 => 252 | 279 => 253 | 280 => 254 | 281 => 255 | 282 => 256 | 287 => 329 | 316 => 330 | 171 => 17 | 205 => 331 | 321 => 370 | 322 => 371 | 243 => 28 | 246 => 82 | 283 => 143 | 284 => 144 | 285 => 145 | 286 => 146 | 129 => 247 | 317 => 246 | 318 => 248 | 319 => 249 | 320 => 250 | 337 => 327 | 338 => 328 | n => n, fun | 9 => 9 | 3 => 3 | 75 => 46 | 76 => 47 | 4 => 4 | 5 => 5 | 167 => 218 | 37 => 22 | 0 => 0 | 85 => 219 | 2 => 2 | 168 => 221 | 53 => 149 | 175 => 258 | 46 => 64 | 210 => 262 | 127 => 65 | 145 => 282 | 143 => 280 | 21 => 21 | 171 => 148 | 173 => 152 | 212 => 214 | 51 => 215 | 20 => 20 | 213 => 216 | 232 => 277 | 233 => 278 | 80 => 49 | n => n, fun | 15 => 4 | 16 => 5 | 17 => 1 | 18 => 6 | 19 => 7 | n => n⟩
theorem Tryz.laysAtoi : Go.Proofs.LaysC.n172 Tryz.prog Tryz.laysAtoi_ren := {
 mixed := by kernel_rfl
 f129 := Tryz.func247.trans (congrArg some (by kernel_rfl))
 f171 := Tryz.func17.trans (congrArg some (by kernel_rfl))
 f172 := Tryz.func87.trans (congrArg some (by kernel_rfl))
 f205 := Tryz.func331.trans (congrArg some (by kernel_rfl))
 f243 := Tryz.func28.trans (congrArg some (by kernel_rfl))
 f244 := Tryz.func151.trans (congrArg some (by kernel_rfl))
 f245 := Tryz.func152.trans (congrArg some (by kernel_rfl))
 f246 := Tryz.func82.trans (congrArg some (by kernel_rfl))
 f247 := Tryz.func252.trans (congrArg some (by kernel_rfl))
 f279 := Tryz.func253.trans (congrArg some (by kernel_rfl))
 f280 := Tryz.func254.trans (congrArg some (by kernel_rfl))
 f281 := Tryz.func255.trans (congrArg some (by kernel_rfl))
 f282 := Tryz.func256.trans (congrArg some (by kernel_rfl))
 f283 := Tryz.func143.trans (congrArg some (by kernel_rfl))
 f284 := Tryz.func144.trans (congrArg some (by kernel_rfl))
 f285 := Tryz.func145.trans (congrArg some (by kernel_rfl))
 f286 := Tryz.func146.trans (congrArg some (by kernel_rfl))
 f287 := Tryz.func329.trans (congrArg some (by kernel_rfl))
 f316 := Tryz.func330.trans (congrArg some (by kernel_rfl))
 f317 := Tryz.func246.trans (congrArg some (by kernel_rfl))
 f318 := Tryz.func248.trans (congrArg some (by kernel_rfl))
 f319 := Tryz.func249.trans (congrArg some (by kernel_rfl))
 f320 := Tryz.func250.trans (congrArg some (by kernel_rfl))
 f321 := Tryz.func370.trans (congrArg some (by kernel_rfl))
 f322 := Tryz.func371.trans (congrArg some (by kernel_rfl))
 f337 := Tryz.func327.trans (congrArg some (by kernel_rfl))
 f338 := Tryz.func328.trans (congrArg some (by kernel_rfl))
 t0 := Tryz.underlying0
 a0 := Tryz.isAgg0
 z0 := Tryz.sizeOf0
 v0 := Tryz.zeroValue0
 t2 := Tryz.underlying2
 a2 := Tryz.isAgg2
 z2 := Tryz.sizeOf2
 v2 := Tryz.zeroValue2
 t3 := Tryz.underlying3
 a3 := Tryz.isAgg3
 z3 := Tryz.sizeOf3
 v3 := Tryz.zeroValue3
 t4 := Tryz.underlying4
 a4 := Tryz.isAgg4
 z4 := Tryz.sizeOf4
 v4 := Tryz.zeroValue4
 t5 := Tryz.underlying5
 a5 := Tryz.isAgg5
 z5 := Tryz.sizeOf5
 v5 := Tryz.zeroValue5
 t9 := Tryz.underlying9
 a9 := Tryz.isAgg9
 z9 := Tryz.sizeOf9
 v9 := Tryz.zeroValue9
 t20 := Tryz.underlying20
 a20 := Tryz.isAgg20
 z20 := Tryz.sizeOf20
 v20 := Tryz.zeroValue20
 t21 := Tryz.underlying21
 a21 := Tryz.isAgg21
 z21 := Tryz.sizeOf21
 v21 := Tryz.zeroValue21
 t37 := Tryz.underlying22
 a37 := Tryz.isAgg22
 z37 := Tryz.sizeOf22
 v37 := Tryz.zeroValue22
 t46 := Tryz.underlying64
 a46 := Tryz.isAgg64
 z46 := Tryz.sizeOf64
 v46 := Tryz.zeroValue64
 t51 := Tryz.underlying215
 a51 := Tryz.isAgg215
 z51 := Tryz.sizeOf215
 v51 := Tryz.zeroValue215
 t53 := Tryz.underlying149
 a53 := Tryz.isAgg149
 z53 := Tryz.sizeOf149
 v53 := Tryz.zeroValue149
 t75 := Tryz.underlying46
 a75 := Tryz.isAgg46
 z75 := Tryz.sizeOf46
 v75 := Tryz.zeroValue46
 t76 := Tryz.underlying47
 a76 := Tryz.isAgg47
 z76 := Tryz.sizeOf47
 v76 := Tryz.zeroValue47
 t85 := Tryz.underlying219
 a85 := Tryz.isAgg219
 z85 := Tryz.sizeOf219
 v85 := Tryz.zeroValue219
 t127 := Tryz.underlying65
 a127 := Tryz.isAgg65
 z127 := Tryz.sizeOf65
 v127 := Tryz.zeroValue65
 t143 := Tryz.underlying280
 a143 := Tryz.isAgg280
 z143 := Tryz.sizeOf280
 v143 := Tryz.zeroValue280
 t145 := Tryz.underlying282
 a145 := Tryz.isAgg282
 z145 := Tryz.sizeOf282
 v145 := Tryz.zeroValue282
 t167 := Tryz.underlying218
 a167 := Tryz.isAgg218
 z167 := Tryz.sizeOf218
 v167 := Tryz.zeroValue218
 t168 := Tryz.underlying221
 a168 := Tryz.isAgg221
 z168 := Tryz.sizeOf221
 v168 := Tryz.zeroValue221
 t171 := Tryz.underlying148
 a171 := Tryz.isAgg148
 z171 := Tryz.sizeOf148
 v171 := Tryz.zeroValue148
 t173 := Tryz.underlying152
 a173 := Tryz.isAgg152
 z173 := Tryz.sizeOf152
 v173 := Tryz.zeroValue152
 t175 := Tryz.underlying258
 a175 := Tryz.isAgg258
 z175 := Tryz.sizeOf258
 v175 := Tryz.zeroValue258
 t210 := Tryz.underlying262
 a210 := Tryz.isAgg262
 z210 := Tryz.sizeOf262
 v210 := Tryz.zeroValue262
 t212 := Tryz.underlying214
 a212 := Tryz.isAgg214
 z212 := Tryz.sizeOf214
 v212 := Tryz.zeroValue214
 t213 := Tryz.underlying216
 a213 := Tryz.isAgg216
 z213 := Tryz.sizeOf216
 t232 := Tryz.underlying277
 a232 := Tryz.isAgg277
 z232 := Tryz.sizeOf277
 v232 := Tryz.zeroValue277
 t233 := Tryz.underlying278
 a233 := Tryz.isAgg278
 z233 := Tryz.sizeOf278
 v233 := Tryz.zeroValue278
 g15 := by kernel_rfl
 g16 := by kernel_rfl
 g17 := by kernel_rfl
 g18 := by kernel_rfl
 g19 := by kernel_rfl
 t80 := Tryz.underlying49
 a80 := Tryz.isAgg49
 z80 := Tryz.sizeOf49
 v80 := Tryz.zeroValue49
 i0 := by kernel_rfl
 i2 := by kernel_rfl
 i3 := by kernel_rfl
 i4 := by kernel_rfl
 i5 := by kernel_rfl
 i9 := by kernel_rfl
 i20 := by kernel_rfl
 i21 := by kernel_rfl
 i37 := by kernel_rfl
 i46 := by kernel_rfl
 i51 := by kernel_rfl
 i53 := by kernel_rfl
 i75 := by kernel_rfl
 i76 := by kernel_rfl
 i80 := by kernel_rfl
 i85 := by kernel_rfl
 i127 := by kernel_rfl
 i143 := by kernel_rfl
 i145 := by kernel_rfl
 i167 := by kernel_rfl
 i168 := by kernel_rfl
 i171 := by kernel_rfl
 i173 := by kernel_rfl
 i175 := by kernel_rfl
 i210 := by kernel_rfl
 i212 := by kernel_rfl
 i232 := by kernel_rfl
 i233 := by kernel_rfl
 m15 := by kernel_rfl
 m16 := by kernel_rfl
 m17 := by kernel_rfl
 m18 := by kernel_rfl
 m19 := by kernel_rfl
 c0 := by kernel_rfl
 c2 := by kernel_rfl
 c3 := by kernel_rfl
 c4 := by kernel_rfl
 c5 := by kernel_rfl
 c9 := by kernel_rfl
 c20 := by kernel_rfl
 c21 := by kernel_rfl
 c37 := by kernel_rfl
 c46 := by kernel_rfl
 c51 := by kernel_rfl
 c53 := by kernel_rfl
 c75 := by kernel_rfl
 c76 := by kernel_rfl
 c80 := by kernel_rfl
 c85 := by kernel_rfl
 c127 := by kernel_rfl
 c143 := by kernel_rfl
 c145 := by kernel_rfl
 c167 := by kernel_rfl
 c168 := by kernel_rfl
 c171 := by kernel_rfl
 c173 := by kernel_rfl
 c175 := by kernel_rfl
 c210 := by kernel_rfl
 c212 := by kernel_rfl
 c213 := by kernel_rfl
 c232 := by kernel_rfl
 c233 := by kernel_rfl }
end Go.Proofs
namespace Go.Proofs.YtompijgfpeibnaaGreatDoor.Ax
open Go Go.RowKit
set_option linter.unusedSimpArgs false
theorem err_of {n : String} {F : Nat → Prop} {w : World} {g : Nat} (h : ErrG n F w) (hg : Tryz.prog.globalNamed n = some g) : ∃ u v, w.cell? ⟨g, 0, none⟩ = some (.iface u v) := by
 obtain ⟨_, u, v, x, y, h2⟩ := h g hg
 exact ⟨u, v, by simp [World.cell?, h2]⟩
theorem own_ib {w : World} {n : Int} {b : Bool} : Own w true (fun _ => False) (fun _ => False) (.tup [.v (.int .i64 n), .v (.bool b)]) (.tuple #[.int .i64 n, .bool b]) := by
 simp [Own, OwnL, Value.oneCell']
 exact ⟨_, _, ⟨rfl, rfl⟩, fun _ => False, fun _ h => h, fun _ => False, fun _ h => h, fun _ h => h.elim, rfl, _, _, rfl, fun _ => False, fun _ h => h, fun _ => False, fun _ h => h, fun _ h => h.elim, rfl, rfl⟩
theorem frm_below {w w' : World} (h : Below w.heap.size w w') : Frm (fun _ => False) w w' := ⟨h.os, h.tape, h.output, h.size, fun k hk _ => h.block k hk⟩
set_option maxHeartbeats 2000000 in
theorem implPI_ok : FnOk Tryz.prog 34 mPI := by
 refine mk_ok fun s hs => ?_
 refine ⟨⟨_, Tryz.func34, by kernel_rfl, by kernel_rfl⟩, fun w F vals hF hv => ?_⟩
 simp only [RepL, Rep, str] at hv
 obtain ⟨v1, r1, e1, ⟨rfl, _⟩, rfl⟩ := hv
 have hvals : vals = #[.string s] := by apply Array.ext'; rw [e1]
 subst hvals
 rcases pI_atoi (s := s) with ⟨v, h1, h2, h3⟩ | ⟨h1, h3⟩
 ·have hA := Any.strconv_Atoi_ok Tryz.laysAtoi s (by omega) v h1 w
  go_enter Tryz.func34, Tryz.ntmps34
  go_wp2_with (go_at_call 87; refine hA.mono ?_; rintro e W1 ⟨rfl, hW⟩)
  have hb1 : Below w.heap.size w W1 := by
   rcases hW with rfl | ⟨t, rfl⟩
   ·exact Below.refl _ _
   ·exact Lib.bytesWorld_below _ _ _
  have hfr := frm_below hb1
  have hF1 : Fit F W1 := ⟨fun b hb => Nat.lt_of_lt_of_le (hF.lt b hb) hfr.size, hF.gl.agree fun b hb => (hfr.block b (hF.lt b hb) id)⟩
  have hI := (implFormatInt_ok _ _ (mItoa_at v h2)).2 W1 F #[.int .i64 v] hF1 (by simp [RepL, Rep, Value.oneCell'])
  go_wp2_with (go_at_call 7; refine hI.mono ?_; rintro e W2 ⟨y, S, rfl, hf2, hS, ho⟩; simp only [Own] at ho; obtain ⟨rfl, _⟩ := ho)
  ·rename_i hc
   go_ret2
   have hne : ¬ itoaS v = s := fun h => by subst h; simp at hc
   rw [h3, if_neg hne]
   exact ⟨_, fun _ => False, rfl, hfr.comp hf2 (fun _ _ h => h) (fun _ _ h => h), fun _ h => h.elim, own_ib⟩
  ·rename_i hc
   go_ret2
   have he : itoaS v = s := by
    have : (itoaS v).toList = s.toList := by simpa using hc
    exact Decidable.byContradiction fun h => tl_ne h this
   rw [h3, if_pos he]
   exact ⟨_, fun _ => False, rfl, hfr.comp hf2 (fun _ _ h => h) (fun _ _ h => h), fun _ h => h.elim, own_ib⟩
 ·have hlim : s.size ≤ 281474976710656 := hs
  rw [h3]
  obtain ⟨u1, p1, c1⟩ := err_of hF.gl.2.1 (g := Tryz.laysAtoi_ren.g 15) (by kernel_rfl)
  obtain ⟨u2, p2, c2⟩ := err_of hF.gl.2.2 (g := Tryz.laysAtoi_ren.g 16) (by kernel_rfl)
  rcases h1 with h1 | h1
  ·have hA := Any.strconv_Atoi_syntax Tryz.laysAtoi s hlim h1 _ w c1 (.inr ⟨u1, p1, rfl⟩)
   go_enter Tryz.func34, Tryz.ntmps34
   go_wp2_with (go_at_call 87; refine hA.mono ?_; rintro e W1 ⟨N, rfl, hN, hW, hb⟩)
   go_ret2
   exact ⟨_, fun _ => False, rfl, frm_below hb, fun _ h => h.elim, own_ib⟩
  ·have hA := Any.strconv_Atoi_range Tryz.laysAtoi s hlim h1 _ w c2 (.inr ⟨u2, p2, rfl⟩)
   go_enter Tryz.func34, Tryz.ntmps34
   go_wp2_with (go_at_call 87; refine hA.mono ?_; rintro e W1 ⟨N, rfl, hN, hW, hb⟩)
   go_ret2
   exact ⟨_, fun _ => False, rfl, frm_below hb, fun _ h => h.elim, own_ib⟩
end Go.Proofs.YtompijgfpeibnaaGreatDoor.Ax
