/-
 Contracts: strings.Cut and strings.CutPrefix, at one byte. No condition.
-/
import Derived.Test.YtompijgfpeibnaaGreatDoorCG11
import Derived.Shelf.Strings.Search2
import Derived.Ground.NamesProg
import Derived.Shelf.Strings.Count
import Derived.Test.YtompijgfpeibnaaGreatDoorCK6
namespace Go.Proofs.YtompijgfpeibnaaGreatDoor.Ax
open Go Go.RowKit
set_option linter.unusedSimpArgs false
theorem index2_ok : FnOk Tryz.prog 91 mIxb := by
 refine mk_ok fun ⟨s, c⟩ _ => ?_
 refine ⟨⟨_, Tryz.func91, by kernel_rfl, by kernel_rfl⟩, fun w F vals hF hv => ?_⟩
 simp only [RepL, Rep, str] at hv
 obtain ⟨v1, r1, e1, ⟨rfl, _⟩, v2, r2, rfl, ⟨rfl, _⟩, rfl⟩ := hv
 have hvals : vals = #[.string s, .string ⟨#[c]⟩] := by apply Array.ext'; rw [e1]
 subst hvals
 refine (Go.Proofs.Any.stringslite_Index_one (P := Tryz.prog) { Tryz.laysIndex with } s c w).mono fun e w' h => ?_
 obtain ⟨rfl, rfl⟩ := h
 exact ⟨_, fun _ => False, rfl, Frm.refl _ _, fun _ h => h.elim, by simp [Own, int, Value.oneCell', bl]⟩
end Go.Proofs.YtompijgfpeibnaaGreatDoor.Ax
namespace Go.Proofs
open Go.Shelf
def Tryz.laysCount_ren : Go.Shelf.Ren := ⟨fun | 138 => 84 | 195 => 147 | 218 => 149 | 143 => 85 | 219 => 91 | 217 => 158 | 225 => 159 | 224 => 160 | 267 => 161 | 266 => 258 | 314 => 259 | n => n, fun | 9 => 9 | 3 => 3 | 4 => 4 | 5 => 5 | 0 => 0 | 46 => 64 | 146 => 225 | 51 => 215 | n => n, fun | 1 => 0 | n => n⟩
theorem Tryz.laysCount : Go.Proofs.Lays.n138 Tryz.prog Tryz.laysCount_ren := {
 mixed := by kernel_rfl
 f138 := Tryz.func84.trans (congrArg some (by kernel_rfl))
 f143 := Tryz.func85.trans (congrArg some (by kernel_rfl))
 f195 := Tryz.func147.trans (congrArg some (by kernel_rfl))
 f217 := Tryz.func158.trans (congrArg some (by kernel_rfl))
 f218 := Tryz.func149.trans (congrArg some (by kernel_rfl))
 f219 := Tryz.func91.trans (congrArg some (by kernel_rfl))
 f224 := Tryz.func160.trans (congrArg some (by kernel_rfl))
 f225 := Tryz.func159.trans (congrArg some (by kernel_rfl))
 f266 := Tryz.func258.trans (congrArg some (by kernel_rfl))
 f267 := Tryz.func161.trans (congrArg some (by kernel_rfl))
 f314 := Tryz.func259.trans (congrArg some (by kernel_rfl))
 t0 := Tryz.underlying0
 a0 := Tryz.isAgg0
 z0 := Tryz.sizeOf0
 v0 := Tryz.zeroValue0
 t3 := Tryz.underlying3
 a3 := Tryz.isAgg3
 z3 := Tryz.sizeOf3
 v3 := Tryz.zeroValue3
 t4 := Tryz.underlying4
 a4 := Tryz.isAgg4
 z4 := Tryz.sizeOf4
 v4 := Tryz.zeroValue4
 t5 := Tryz.underlying5
 a5 := Tryz.isAgg5
 z5 := Tryz.sizeOf5
 v5 := Tryz.zeroValue5
 t9 := Tryz.underlying9
 a9 := Tryz.isAgg9
 z9 := Tryz.sizeOf9
 v9 := Tryz.zeroValue9
 t46 := Tryz.underlying64
 a46 := Tryz.isAgg64
 z46 := Tryz.sizeOf64
 v46 := Tryz.zeroValue64
 t51 := Tryz.underlying215
 a51 := Tryz.isAgg215
 z51 := Tryz.sizeOf215
 v51 := Tryz.zeroValue215
 t146 := Tryz.underlying225
 a146 := Tryz.isAgg225
 z146 := Tryz.sizeOf225
 v146 := Tryz.zeroValue225
 g1 := by kernel_rfl }
end Go.Proofs
namespace Go.Proofs.YtompijgfpeibnaaGreatDoor.Ax
open Go Go.RowKit
set_option linter.unusedSimpArgs false
def cntT (s : ByteArray) (c : UInt8) : Nat := (bl s).count c
noncomputable def mCntB : List AV → Option AV := mk (fun _ => True) (fun (p : ByteArray × UInt8) => [str p.1, str ⟨#[p.2]⟩]) (fun p => int (cntT p.1 p.2 : Int))
theorem mCntB_at (s : ByteArray) (c : UInt8) : mCntB [.v (.string s), .v (.string ⟨#[c]⟩)] = some (.v (.int .i64 (cntT s c : Int))) :=
 mk_eq (enc := fun (p : ByteArray × UInt8) => [str p.1, str ⟨#[p.2]⟩]) (x := (s, c)) (by
  rintro ⟨a, b⟩ ⟨a', b'⟩ h
  simp [str] at h
  rw [h.1, h.2]) trivial
theorem countS_ok : FnOk Tryz.prog 84 mCntB := by
 refine mk_ok fun ⟨s, c⟩ _ => ?_
 refine ⟨⟨_, Tryz.func84, by kernel_rfl, by kernel_rfl⟩, fun w F vals hF hv => ?_⟩
 simp only [RepL, Rep, str] at hv
 obtain ⟨v1, r1, e1, ⟨rfl, _⟩, v2, r2, rfl, ⟨rfl, _⟩, rfl⟩ := hv
 have hvals : vals = #[.string s, .string ⟨#[c]⟩] := by apply Array.ext'; rw [e1]
 subst hvals
 refine (Go.Proofs.Any.strings_Count_one Tryz.laysCount s c w).mono fun e w' h => ?_
 obtain ⟨rfl, rfl⟩ := h
 exact ⟨_, fun _ => False, rfl, Frm.refl _ _, fun _ h => h.elim, by simp [Own, int, Value.oneCell', cntT, bl, Lib.countByte]⟩
def gsR (W : List ByteArray) (N i : Nat) : List AV := (W.take i).map str ++ List.replicate (N - i) (.v (.string ⟨#[]⟩))
theorem gsR_len {W : List ByteArray} {N i : Nat} (h : i ≤ W.length) (hN : i ≤ N) : (gsR W N i).length = N := by simp [gsR]; omega
theorem gsR_set {W : List ByteArray} {N i : Nat} (h : i < W.length) (hN : i < N) : (gsR W N i).set i (str W[i]) = gsR W N (i + 1) := by
 have hl : ((W.take i).map str).length = i := by simp; omega
 have e : List.replicate (N - i) (AV.v (.string ⟨#[]⟩)) = .v (.string ⟨#[]⟩) :: List.replicate (N - (i + 1)) (.v (.string ⟨#[]⟩)) := by
  rw [show N - i = (N - (i + 1)) + 1 by omega, List.replicate_succ]
 unfold gsR
 rw [e, List.set_append_right _ _ (by omega), hl, Nat.sub_self, List.set_cons_zero, List.take_succ_eq_append_getElem h, List.map_append]
 simp
structure SpA (s : ByteArray) (c : UInt8) : Prop where
 sz : s.size ≤ 1000000
 ct : cntT s c + 1 = (splitS s c).length
noncomputable def mSpl1 : List AV → Option AV := mk (fun p => SpA p.1 p.2) (fun (p : ByteArray × UInt8) => [str p.1, str ⟨#[p.2]⟩, int 0, int (-1)]) (fun p => .sl false 1 ((splitS p.1 p.2).map str))
theorem mSpl1_at (s : ByteArray) (c : UInt8) (h : SpA s c) : mSpl1 [.v (.string s), .v (.string ⟨#[c]⟩), .v (.int .i64 0), .v (.int .i64 (-1))] = some (.sl false 1 ((splitS s c).map str)) :=
 mk_eq (enc := fun (p : ByteArray × UInt8) => [str p.1, str ⟨#[p.2]⟩, int 0, int (-1)]) (x := (s, c)) (by
  rintro ⟨a, b⟩ ⟨a', b'⟩ h
  simp [str] at h
  rw [h.1, h.2]) h
set_option maxHeartbeats 2000000 in
theorem genSplit_ok : FnOk Tryz.prog 29 mSpl1 := by
 refine mk_ok fun ⟨s, c⟩ hs => ?_
 obtain ⟨hsz, hct⟩ := hs
 simp only at hsz hct
 have hcn := mCntB_at s c
 have c1 : (⟨#[c]⟩ : ByteArray).size = 1 := rfl
 have hse : ¬ (⟨#[c]⟩ : ByteArray).toList = [] := by rw [ByteArray.toList_eq]; simp
 obtain ⟨f1, _⟩ := splitS_facts (s := s) (c := c)
 have hG : FnsOk Tryz.prog [(84, mCntB), (85, mIxb)] := (.cons countS_ok (.cons index_ok .nil))
 refine callOk_awp (ctx_ok eqOk hG) mixed (live := [true, true, true, true, false, false, false, false, true, true, true, true, false, true, false, true, false, false, false, false, true, false, false, false, false, false, false, false, false, false, false, false, false, false, false, false, true, false, false, false, false, true]) (dt := []) Tryz.func29 rfl (by kernel_rfl) (by kernel_rfl) fun w0 hlens => ?_
 clear hlens
 generalize hW : splitS s c = W at *
 obtain ⟨N, hN⟩ : ∃ N : Nat, N = W.length := ⟨_, rfl⟩
 have hk : cntT s c = N - 1 := by omega
 have hN1 : 1 ≤ N := by omega
 rw [hk] at hcn
 have e0 : ((N - 1 : Nat) : Int) = (N : Int) - 1 := by omega
 rw [e0] at hcn
 have v1 : IntKind.i64.wrap ((N : Int) - 1 + 1) = N := by rw [show (N : Int) - 1 + 1 = N by omega]; exact wrapI (by omega) (by omega)
 have v1' : IntKind.i64.wrap (N : Int) = N := wrapI (by omega) (by omega)
 have v2 : IntKind.i64.wrap ((s.size : Int) + 1) = (s.size : Int) + 1 := wrapI (by omega) (by omega)
 have v3 : min (N : Int) ((s.size : Int) + 1) = N := by omega
 have v4 : IntKind.i64.wrap ((N : Int) - 1) = (N : Int) - 1 := wrapI (by omega) (by omega)
 have hb : N ≤ 281474976710656 ∧ N ≤ 4611686018427387904 ∧ N * 16 ≤ 281474976710656 ∧ 16 * N ≤ 281474976710656 := by omega
 have z0 : List.replicate N (AV.v (.string ⟨#[]⟩)) = gsR W N 0 := by simp [gsR]
 simp [Tryz.f29, List.range, List.range.loop, ints, intss, int, bool, row, frac, fracs, ← List.map_take, ← List.map_drop, str, hse, hcn, c1, v1, v1', v2, v3, v4, hb]
 refine awp_loop_of (live := [true, true, true, true, false, false, false, false, true, true, true, true, false, true, false, true, false, false, false, false, true, false, false, false, false, false, false, false, false, false, false, false, false, false, false, false, true, false, false, false, false, true]) (ctx_ok eqOk hG) mixed [true, true, true, true, false, false, false, false, false, true, true] (α := {p : Nat × ByteArray // splitS p.2 c = W.drop p.1 ∧ p.1 < N ∧ p.2.size ≤ s.size}) (fun p => ⟨[str p.1.2, str ⟨#[c]⟩, int 0, int ((N : Int) - 1), .junk, .junk, .junk, .junk, .junk, .ref 0 [] 0 N, int p.1.1, .junk, .junk, .junk, .junk, .junk, .junk, .junk, .junk, .junk, .junk, .junk, .junk, .junk, .junk, .junk, .junk, .junk, .junk, .junk, .junk, .junk, .junk, .junk, .junk, .junk, .junk, .junk, .junk, .junk, .junk, .junk, .junk, .junk, .junk, .junk, .junk, .junk, .junk, .junk, .junk, .junk, .junk, .junk, .junk, .junk, .junk, .junk, .junk, .junk, .junk, .junk, .junk, .junk, .junk, .junk], [⟨true, .sl false 1 (gsR W N p.1.1)⟩]⟩) (fun p => N - p.1.1) ⟨(0, s), by simp [hW], by omega, Nat.le_refl _⟩ (by simp [sub, slotsLe, clean, keep, refsL, refs, once, place, renL, ren, List.replicate, int, bool, z0, str]) ?_
 rintro ⟨⟨i, r⟩, hr, hi, hrs⟩
 simp only at hr hi hrs
 simp only
 have hgl := gsR_len (W := W) (N := N) (i := i) (by omega) (by omega)
 have hgs := gsR_set (W := W) (N := N) (i := i) (by omega) hi
 have hgv : (gsR W N i)[i]'(by rw [hgl]; exact hi) = .v (.string ⟨#[]⟩) := by
  have e : (gsR W N i)[i]? = some (.v (.string ⟨#[]⟩)) := by
   unfold gsR
   have hl : ((W.take i).map str).length = i := by simp; omega
   rw [List.getElem?_append_right (by omega), hl, Nat.sub_self, List.getElem?_replicate, if_pos (by omega)]
  rw [List.getElem?_eq_getElem (by rw [hgl]; exact hi)] at e
  exact Option.some.inj e
 have hix := mIxb_at r c
 have hiW : i < W.length := by omega
 have hd0 : (W.drop i)[0]? = W[i]? := by rw [List.getElem?_drop]; simp
 by_cases hin : i < N - 1
 ·have hini : (i : Int) < (N : Int) - 1 := by omega
  rcases split_idx (s := r) (c := c) with ⟨g1, g2⟩ | ⟨j, g1, g2, g3⟩
  ·rw [g2] at hr
   have := congrArg List.length hr
   simp at this; omega
  ·rw [g3] at hr
   rw [g1] at hix
   have hw0 : W[i] = r.extract 0 j := by
    have := congrArg (fun l => l[0]?) hr
    simp only [hd0, List.getElem?_eq_getElem hiW] at this
    simpa using this.symm
   have hr2 : splitS (r.extract (j + 1) r.size) c = W.drop (i + 1) := by
    have := congrArg (List.drop 1) hr
    rw [List.drop_drop] at this
    simpa using this
   have hes : (r.extract (j + 1) r.size).size ≤ s.size := by rw [ByteArray.size_extract]; omega
   rw [hw0] at hgs
   simp only [str] at hgs
   have hj0 : ¬ ((j : Int) < 0) := by omega
   have u1 : IntKind.i64.wrap (j : Int) = j := wrapI (by omega) (by omega)
   have u2 : IntKind.i64.wrap ((j : Int) + 1) = (j : Int) + 1 := wrapI (by omega) (by omega)
   have u3 : IntKind.i64.wrap ((i : Int) + 1) = (i : Int) + 1 := wrapI (by omega) (by omega)
   have hjr : j ≤ r.size := by omega
   have hjr1 : j + 1 ≤ r.size := by omega
   simp [List.range, List.range.loop, ints, intss, int, bool, row, frac, fracs, ← List.map_take, ← List.map_drop, str, hini, hix, hj0, u1, u2, u3, c1, hjr, hjr1, hgl, hi, hgv]
   exact ⟨⟨(i + 1, r.extract (j + 1) r.size), hr2, by omega, hes⟩, by simp [sub, slotsLe, clean, keep, refsL, refs, once, place, renL, ren, List.replicate, int, bool, str, hgs, hgv], by simp; omega⟩
 ·obtain rfl : i = N - 1 := by omega
  have hini : ¬ (((N - 1 : Nat) : Int) < (N : Int) - 1) := by omega
  have hrl : W[N - 1] = r := by
   rcases split_idx (s := r) (c := c) with ⟨g1, g2⟩ | ⟨j, g1, g2, g3⟩
   ·rw [g2] at hr
    have := congrArg (fun l => l[0]?) hr
    simp only [hd0, List.getElem?_eq_getElem hiW] at this
    simpa using this.symm
   ·rw [g3] at hr
    have := congrArg List.length hr
    unfold splitS at this
    simp at this; omega
  rw [hrl] at hgs
  simp only [str] at hgs
  have u3 : IntKind.i64.wrap (((N - 1 : Nat) : Int) + 1) = (N : Int) := by rw [show ((N - 1 : Nat) : Int) + 1 = N by omega]; exact wrapI (by omega) (by omega)
  have hfin : gsR W N (N - 1 + 1) = W.map str := by
   unfold gsR
   rw [show N - 1 + 1 = N by omega, Nat.sub_self, List.take_of_length_le (by omega)]; simp
  have hNW : N ≤ W.length := by omega
  have htW : List.take N W = W := List.take_of_length_le (by omega)
  simp [List.range, List.range.loop, ints, intss, int, bool, row, frac, fracs, ← List.map_take, ← List.map_drop, str, hini, hgl, hi, u3, hgs, hfin, hgv, htW, ← hN]
  done
noncomputable def mSpl2 : List AV → Option AV := mk (fun p => SpA p.1 p.2) (fun (p : ByteArray × UInt8) => [str p.1, str ⟨#[p.2]⟩]) (fun p => .sl false 1 ((splitS p.1 p.2).map str))
theorem mSpl2_at (s : ByteArray) (c : UInt8) (h : SpA s c) : mSpl2 [.v (.string s), .v (.string ⟨#[c]⟩)] = some (.sl false 1 ((splitS s c).map str)) :=
 mk_eq (enc := fun (p : ByteArray × UInt8) => [str p.1, str ⟨#[p.2]⟩]) (x := (s, c)) (by
  rintro ⟨a, b⟩ ⟨a', b'⟩ h
  simp [str] at h
  rw [h.1, h.2]) h
theorem splitP_ok : FnOk Tryz.prog 18 mSpl2 := by
 refine mk_ok fun ⟨s, c⟩ hs => ?_
 have h1 := mSpl1_at s c hs
 have hG : FnsOk Tryz.prog [(29, mSpl1)] := (.cons genSplit_ok .nil)
 refine callOk_awp (ctx_ok eqOk hG) mixed (live := [true, true, false, false, true]) (dt := []) Tryz.func18 rfl (by kernel_rfl) (by kernel_rfl) fun w0 hlens => ?_
 clear hlens
 simp [Tryz.f18, List.range, List.range.loop, ints, intss, int, bool, row, frac, fracs, ← List.map_take, ← List.map_drop, str, h1]
open Go Go.RowKit
def decF : Nat → Nat → List UInt8
 | 0, _ => []
 | n + 1, u => if u < 10 then [UInt8.ofNat (48 + u)] else decF n (u / 10) ++ [UInt8.ofNat (48 + u % 10)]
theorem decF_eq : ∀ {n u : Nat}, u < 10 ^ n → 0 < n → decF n u = Lib.decDigits u
 | 0, _, _, h => by omega
 | n + 1, u, h, _ => by
  rw [Lib.decDigits]
  simp only [decF]
  split
  ·rfl
  ·rename_i hu
   rcases Nat.eq_zero_or_pos n with rfl | hn
   ·simp at h; omega
   ·rw [decF_eq (n := n) (u := u / 10) (by rw [Nat.pow_succ] at h; exact Nat.div_lt_of_lt_mul (by rw [Nat.mul_comm]; exact h)) hn]
def itoaL (n : Int) : List UInt8 := if n < 0 then 45 :: decF 20 n.natAbs else decF 20 n.toNat
def fitI (n : Int) : Bool := decide (-9223372036854775808 ≤ n) && decide (n ≤ 9223372036854775807)
theorem fitI_iff {n : Int} : fitI n = true ↔ inI n := by simp [fitI, inI]
theorem itoaL_eq {n : Int} (h : inI n) : itoaL n = Lib.itoa n := by
 unfold itoaL Lib.itoa
 obtain ⟨h1, h2⟩ := h
 split
 ·rw [decF_eq (by omega) (by omega)]
 ·rw [decF_eq (by omega) (by omega)]
theorem itoaL_S {n : Int} (h : inI n) : (⟨(itoaL n).toArray⟩ : ByteArray) = itoaS n := by unfold itoaS; rw [itoaL_eq h]
def strsOf : List AV → Option (List ByteArray)
 | [] => some []
 | .v (.string s) :: es => (match strsOf es with
  | some ws => some (s :: ws)
  | none => none)
 | _ :: _ => none
theorem strsOf_ok : ∀ {es : List AV} {ws : List ByteArray}, strsOf es = some ws → es = ws.map str
 | [], _, h => by simp only [strsOf, Option.some.injEq] at h; subst h; rfl
 | e :: es, ws, h => by
  unfold strsOf at h
  split at h
  ·rename_i e; simp at e
  ·rename_i s es' e
   simp only [List.cons.injEq] at e
   obtain ⟨rfl, rfl⟩ := e
   split at h
   ·rename_i ws' hw
    simp only [Option.some.injEq] at h; subst h
    rw [List.map_cons, ← strsOf_ok hw]; rfl
   ·simp at h
  ·simp at h
def b_itoa (args : List AV) : Option AV := match args with
 | [.v (.int .i64 n)] => if fitI n = true then some (.v (.string ⟨(itoaL n).toArray⟩)) else none
 | _ => none
def b_index (args : List AV) : Option AV := match args with
 | [.v (.string s), .v (.string c)] => (match c.data.toList with
  | [b] => some (.v (.int .i64 (Lib.indexByte s.data.toList b)))
  | _ => none)
 | _ => none
def b_count (args : List AV) : Option AV := match args with
 | [.v (.string s), .v (.string c)] => (match c.data.toList with
  | [b] => some (.v (.int .i64 ((s.data.toList.count b : Nat) : Int)))
  | _ => none)
 | _ => none
def b_join (args : List AV) : Option AV := match args with
 | [.sl _ 1 es, .v (.string c)] => (match strsOf es with
  | some ws => if ws.length ≤ 140737488355328 ∧ (Lib.join (ws.map bl) (bl c)).length ≤ 140737488355328 then some (.v (.string ⟨(Lib.join (ws.map bl) (bl c)).toArray⟩)) else none
  | none => none)
 | _ => none
def b_parse (args : List AV) : Option AV := match args with
 | [.v (.string s)] => if s.size ≤ 281474976710656 then (if fitI (vL s.data.toList) = true ∧ itoaL (vL s.data.toList) = s.data.toList then some (.tup [.v (.int .i64 (vL s.data.toList)), .v (.bool true)]) else some (.tup [.v (.int .i64 0), .v (.bool false)])) else none
 | _ => none
def baseL (f : FuncId) (args : List AV) : Option AV :=
 if f = 17 then b_itoa args else if f = 91 then b_index args else if f = 84 then b_count args else if f = 26 then b_join args
 else if f = 34 then b_parse args else none
theorem one_byte {c : ByteArray} {b : UInt8} (h : c.data.toList = [b]) : c = ⟨#[b]⟩ := by
 cases c with | mk d => cases d with | mk l => simp at h; subst h; rfl
theorem baseL_ok (f : FuncId) (args : List AV) (r : AV) (h : baseL f args = some r) : CallOk Tryz.prog f args r := by
 unfold baseL at h
 split at h
 ·rename_i e; subst e
  unfold b_itoa at h
  split at h
  ·rename_i n
   split at h
   ·rename_i hn
    have hn' := fitI_iff.1 hn
    simp only [Option.some.injEq] at h; subst h
    rw [itoaL_S hn']
    exact itoa_ok _ _ (mItoa_at n hn')
   ·simp at h
  ·simp at h
 split at h
 ·rename_i e; subst e
  unfold b_index at h
  split at h
  ·rename_i s c
   split at h
   ·rename_i b hb
    simp only [Option.some.injEq] at h; subst h
    rw [one_byte hb]
    exact index2_ok _ _ (mIxb_at s b)
   ·simp at h
  ·simp at h
 split at h
 ·rename_i e; subst e
  unfold b_count at h
  split at h
  ·rename_i s c
   split at h
   ·rename_i b hb
    simp only [Option.some.injEq] at h; subst h
    rw [one_byte hb]
    exact countS_ok _ _ (mCntB_at s b)
   ·simp at h
  ·simp at h
 split at h
 ·rename_i e; subst e
  unfold b_join at h
  split at h
  ·rename_i nl es c
   split at h
   ·rename_i ws hws
    split at h
    ·rename_i hc
     simp only [Option.some.injEq] at h; subst h
     rw [strsOf_ok hws]
     exact stringsJoin_ok _ _ (mJoin_at nl ws c hc)
    ·simp at h
   ·simp at h
  ·simp at h
 split at h
 ·rename_i e; subst e
  unfold b_parse at h
  split at h
  ·rename_i s
   split at h
   ·rename_i hs
    split at h
    ·rename_i hc
     have hn := fitI_iff.1 hc.1
     simp only [Option.some.injEq] at h; subst h
     have hS : itoaS (vL s.data.toList) = s := by rw [← itoaL_S hn, hc.2]
     have := mPI_at s hs
     have hp : pI s = (vL s.data.toList, true) := by
      have := pI_of hn
      rw [hS] at this
      exact this
     rw [hp] at this
     exact implPI_ok _ _ this
    ·rename_i hc
     simp only [Option.some.injEq] at h; subst h
     have := mPI_at s hs
     have hp : pI s = (0, false) := pI_no fun n hn he => hc (by
      have hv : vL s.data.toList = n := by
       rw [← he]
       exact vL_itoa n
      rw [hv]
      exact ⟨fitI_iff.2 hn, by rw [itoaL_eq hn, ← he]; rfl⟩)
     rw [hp] at this
     exact implPI_ok _ _ this
   ·simp at h
  ·simp at h
 simp at h
structure Fact where
 f : FuncId
 args : List AV
 r : AV
def lkF (f : FuncId) (args : List AV) : List Fact → Option AV
 | [] => none
 | x :: l => if x.f = f then (if eqL x.args args = true then some x.r else lkF f args l) else lkF f args l
theorem lkF_ok {P : Program} {f : FuncId} {args : List AV} {r : AV} : ∀ {l : List Fact}, (∀ x ∈ l, CallOk P x.f x.args x.r) → lkF f args l = some r → CallOk P f args r
 | [], _, h => by simp [lkF] at h
 | x :: l, hl, h => by
  unfold lkF at h
  split at h
  ·rename_i e
   split at h
   ·rename_i e2
    simp only [Option.some.injEq] at h; subst h
    have := hl x (by simp)
    rw [e, eqL_ok e2] at this
    exact this
   ·exact lkF_ok (fun y hy => hl y (by simp [hy])) h
  ·exact lkF_ok (fun y hy => hl y (by simp [hy])) h
theorem lkH_ok {P : Program} {f : FuncId} {args : List AV} {r : AV} : ∀ {l : List Fact}, (∀ x ∈ l, FrzOk P x.f x.args true x.r) → lkF f args l = some r → FrzOk P f args true r
 | [], _, h => by simp [lkF] at h
 | x :: l, hl, h => by
  unfold lkF at h
  split at h
  ·rename_i e
   split at h
   ·rename_i e2
    simp only [Option.some.injEq] at h; subst h
    have := hl x (by simp)
    rw [e, eqL_ok e2] at this
    exact this
   ·exact lkH_ok (fun y hy => hl y (by simp [hy])) h
  ·exact lkH_ok (fun y hy => hl y (by simp [hy])) h
end Go.Proofs.YtompijgfpeibnaaGreatDoor.Ax
