/-
  Contracts: SharesOk (both programs). No condition.
-/
import Derived.Test.YtigepnpiofcooaaGreatDoorCB1
import Derived.Test.YtigepnpiofcooaaGreatDoorCB2
import Derived.Ground.NamesProg
import Derived.Shelf.LaysM
import Derived.Shelf.Strconv.Itoa3
import Derived.Shelf.Strings.OnBuilder
namespace Go.Proofs.YtigepnpiofcooaaGreatDoor.Ax
open Go Go.RowKit
set_option linter.unusedSimpArgs false
end Go.Proofs.YtigepnpiofcooaaGreatDoor.Ax
namespace Go.Proofs
open Go.Shelf
def Tryz.laysM171_ren : Go.Shelf.Ren := ⟨fun | 171 => 48 | 243 => 64 | 246 => 76 | 283 => 85 | 284 => 86 | 285 => 87 | 286 => 88 | 129 => 92 | 317 => 91 | 318 => 93 | 319 => 94 | 320 => 95 | 337 => 98 | 338 => 99 | n => n, fun | 3 => 3 | 9 => 9 | 2 => 2 | 4 => 4 | 171 => 113 | 0 => 0 | 53 => 88 | 37 => 68 | 5 => 5 | 173 => 116 | 212 => 119 | 51 => 105 | 20 => 20 | 213 => 120 | 46 => 87 | 232 => 127 | 233 => 128 | n => n, fun | 17 => 5 | 18 => 6 | 19 => 7 | n => n⟩
theorem Tryz.laysM171 : Go.Proofs.LaysM.n171 Tryz.prog Tryz.laysM171_ren := {
  mixed := by kernel_rfl
  f129 := Tryz.func92.trans (congrArg some (by kernel_rfl))
  f171 := Tryz.func48.trans (congrArg some (by kernel_rfl))
  f243 := Tryz.func64.trans (congrArg some (by kernel_rfl))
  f246 := Tryz.func76.trans (congrArg some (by kernel_rfl))
  f283 := Tryz.func85.trans (congrArg some (by kernel_rfl))
  f284 := Tryz.func86.trans (congrArg some (by kernel_rfl))
  f285 := Tryz.func87.trans (congrArg some (by kernel_rfl))
  f286 := Tryz.func88.trans (congrArg some (by kernel_rfl))
  f317 := Tryz.func91.trans (congrArg some (by kernel_rfl))
  f318 := Tryz.func93.trans (congrArg some (by kernel_rfl))
  f319 := Tryz.func94.trans (congrArg some (by kernel_rfl))
  f320 := Tryz.func95.trans (congrArg some (by kernel_rfl))
  f337 := Tryz.func98.trans (congrArg some (by kernel_rfl))
  f338 := Tryz.func99.trans (congrArg some (by kernel_rfl))
  t0 := Tryz.underlying0
  a0 := Tryz.isAgg0
  z0 := Tryz.sizeOf0
  v0 := Tryz.zeroValue0
  t2 := Tryz.underlying2
  a2 := Tryz.isAgg2
  z2 := Tryz.sizeOf2
  v2 := Tryz.zeroValue2
  t3 := Tryz.underlying3
  a3 := Tryz.isAgg3
  z3 := Tryz.sizeOf3
  v3 := Tryz.zeroValue3
  t4 := Tryz.underlying4
  a4 := Tryz.isAgg4
  z4 := Tryz.sizeOf4
  v4 := Tryz.zeroValue4
  t5 := Tryz.underlying5
  a5 := Tryz.isAgg5
  z5 := Tryz.sizeOf5
  v5 := Tryz.zeroValue5
  t9 := Tryz.underlying9
  a9 := Tryz.isAgg9
  z9 := Tryz.sizeOf9
  v9 := Tryz.zeroValue9
  t20 := Tryz.underlying20
  a20 := Tryz.isAgg20
  z20 := Tryz.sizeOf20
  v20 := Tryz.zeroValue20
  t37 := Tryz.underlying68
  a37 := Tryz.isAgg68
  z37 := Tryz.sizeOf68
  v37 := Tryz.zeroValue68
  t46 := Tryz.underlying87
  a46 := Tryz.isAgg87
  z46 := Tryz.sizeOf87
  v46 := Tryz.zeroValue87
  t51 := Tryz.underlying105
  a51 := Tryz.isAgg105
  z51 := Tryz.sizeOf105
  v51 := Tryz.zeroValue105
  t53 := Tryz.underlying88
  a53 := Tryz.isAgg88
  z53 := Tryz.sizeOf88
  v53 := Tryz.zeroValue88
  t171 := Tryz.underlying113
  a171 := Tryz.isAgg113
  z171 := Tryz.sizeOf113
  v171 := Tryz.zeroValue113
  t173 := Tryz.underlying116
  a173 := Tryz.isAgg116
  z173 := Tryz.sizeOf116
  v173 := Tryz.zeroValue116
  t212 := Tryz.underlying119
  a212 := Tryz.isAgg119
  z212 := Tryz.sizeOf119
  v212 := Tryz.zeroValue119
  t213 := Tryz.underlying120
  a213 := Tryz.isAgg120
  z213 := Tryz.sizeOf120
  t232 := Tryz.underlying127
  a232 := Tryz.isAgg127
  z232 := Tryz.sizeOf127
  v232 := Tryz.zeroValue127
  t233 := Tryz.underlying128
  a233 := Tryz.isAgg128
  z233 := Tryz.sizeOf128
  v233 := Tryz.zeroValue128
  g17 := by kernel_rfl
  g18 := by kernel_rfl
  g19 := by kernel_rfl
  i0 := by kernel_rfl
  i2 := by kernel_rfl
  i3 := by kernel_rfl
  i4 := by kernel_rfl
  i5 := by kernel_rfl
  i9 := by kernel_rfl
  i20 := by kernel_rfl
  i37 := by kernel_rfl
  i46 := by kernel_rfl
  i51 := by kernel_rfl
  i53 := by kernel_rfl
  i171 := by kernel_rfl
  i173 := by kernel_rfl
  i212 := by kernel_rfl
  i232 := by kernel_rfl
  i233 := by kernel_rfl
  m17 := by kernel_rfl
  m18 := by kernel_rfl
  m19 := by kernel_rfl }
end Go.Proofs
namespace Go.Proofs.YtigepnpiofcooaaGreatDoor.Ax
open Go Go.RowKit
set_option linter.unusedSimpArgs false
def inI (n : Int) : Prop := -9223372036854775808 ≤ n ∧ n ≤ 9223372036854775807
def itoaS (n : Int) : ByteArray := ⟨(Lib.itoa n).toArray⟩
theorem tab_of {F : Nat → Prop} {w : World} (h : Gl F w) : Lib.TabIs Tryz.prog w "internal/strconv.uint64pow10" .u64 Lib.pow10Tab := by
  cases hg : Tryz.prog.globalNamed "internal/strconv.uint64pow10" with
  | none => exact absurd (show (Tryz.prog.globalNamed "internal/strconv.uint64pow10").isSome = true by kernel_rfl) (by rw [hg]; simp)
  | some g =>
    obtain ⟨_, x, y, h2⟩ := h.1 g hg
    unfold Lib.TabIs World.var?
    rw [hg]
    simp [h2]
noncomputable def mItoa : List AV → Option AV := mk inI (fun (n : Int) => [int n]) (fun n => .v (.string (itoaS n)))
theorem mItoa_at (n : Int) (h : inI n) : mItoa [.v (.int .i64 n)] = some (.v (.string (itoaS n))) :=
  mk_eq (enc := fun (n : Int) => [int n]) (x := n) (by intro a b h; simp [int] at h; rw [h]) h
theorem itoa_ok : FnOk Tryz.prog 48 mItoa := by
  refine mk_ok fun n hn => ?_
  refine ⟨⟨_, Tryz.func48, by kernel_rfl, by kernel_rfl⟩, fun w F vals hF hv => ?_⟩
  simp only [RepL, Rep, int] at hv
  obtain ⟨a, r1, e1, ⟨rfl, _⟩, rfl⟩ := hv
  have hvals : vals = #[.int .i64 n] := by apply Array.ext'; rw [e1]
  subst hvals
  refine (Go.Proofs.Any.strconv_Itoa Tryz.laysM171 n hn.1 hn.2 w (tab_of hF.gl)).mono fun e w' h => ?_
  obtain ⟨rfl, k, os, rfl⟩ := h
  refine ⟨_, fun _ => False, rfl, ⟨rfl, rfl, rfl, by simp [Go.Sort.grow, World.drewN], fun b hb _ => ?_⟩, fun _ h => h.elim, ?_⟩
  · simp [Go.Sort.grow, World.drewN, Array.getElem?_append, hb]
  · simp only [Own]; exact ⟨rfl, rfl⟩
theorem implFormatInt_ok : FnOk Tryz.prog 37 mItoa := by
  refine mk_ok fun n hn => ?_
  have hG : FnsOk Tryz.prog [(48, mItoa)] := (.cons itoa_ok .nil)
  refine callOk_awp (ctx_ok eqOk hG) mixed (live := [true, false, true]) (dt := []) Tryz.func37 rfl (by kernel_rfl) (by kernel_rfl) fun w0 hlens => ?_
  clear hlens
  have hm := mItoa_at n hn
  simp (config := {contextual := true}) [Tryz.f37, List.range, List.range.loop, ints, intss, int, bool, row, frac, fracs, ← List.map_take, ← List.map_drop, hm]
  done
end Go.Proofs.YtigepnpiofcooaaGreatDoor.Ax
namespace Go.Proofs.YtigepnpiofcooaaGreatDoor.Ax
open Go Go.RowKit
set_option linter.unusedSimpArgs false
theorem ba_app (l r : List UInt8) : (⟨l.toArray⟩ : ByteArray) ++ (⟨r.toArray⟩ : ByteArray) = ⟨(l ++ r).toArray⟩ := by
  apply ByteArray.ext; simp
theorem ba_size (l : List UInt8) : (⟨l.toArray⟩ : ByteArray).size = l.length := by
  simp [ByteArray.size]
theorem dec_lt {u : Nat} (h : u < 10) : Lib.decDigits u = [UInt8.ofNat (48 + u)] := by rw [Lib.decDigits, dif_pos h]
theorem dec_ge {u : Nat} (h : 10 ≤ u) : Lib.decDigits u = Lib.decDigits (u / 10) ++ [UInt8.ofNat (48 + u % 10)] := by rw [Lib.decDigits, dif_neg (by omega)]
theorem dec_len (u : Nat) : (Lib.decDigits u).length ≤ u + 1 := by
  induction u using Nat.strongRecOn with
  | _ u ih =>
    by_cases h : u < 10
    · rw [dec_lt h]; simp
    · rw [dec_ge (by omega), List.length_append]
      have := ih (u / 10) (by omega)
      simp; omega
theorem itoa_nat (m : Nat) : Lib.itoa (m : Int) = Lib.decDigits m := by simp [Lib.itoa]
theorem itoa_neg {m : Nat} (h : 0 < m) : Lib.itoa (-(m : Int)) = 45 :: Lib.decDigits m := by
  unfold Lib.itoa; rw [if_pos (by omega)]; simp
theorem tdiv_neg10 (m : Nat) : Int.tdiv (-(m : Int)) 10 = -((m / 10 : Nat) : Int) := by
  rw [Int.neg_tdiv]; rfl
theorem tmod_neg10 (m : Nat) : Int.tmod (-(m : Int)) 10 = -((m % 10 : Nat) : Int) := by
  rw [Int.neg_tmod]; rfl
theorem tdiv_nat10 (m : Nat) : Int.tdiv (m : Int) 10 = ((m / 10 : Nat) : Int) := rfl
theorem tmod_nat10 (m : Nat) : Int.tmod (m : Int) 10 = ((m % 10 : Nat) : Int) := rfl
theorem wrap8 {x : Int} (h : 0 ≤ x) (h2 : x ≤ 255) : IntKind.u8.wrap x = x := by
  simp [IntKind.wrap, IntKind.bits, IntKind.signed]; omega
noncomputable def mItoaK (k : Nat) : List AV → Option AV := mk (fun n => inI n ∧ n.natAbs < 10 ^ k ∧ 0 < k) (fun (n : Int) => [int n]) (fun n => .v (.string (itoaS n)))
theorem mItoaK_at (k : Nat) (n : Int) (h : inI n ∧ n.natAbs < 10 ^ k ∧ 0 < k) : mItoaK k [.v (.int .i64 n)] = some (.v (.string (itoaS n))) :=
  mk_eq (enc := fun (n : Int) => [int n]) (x := n) (by intro a b h; simp [int] at h; rw [h]) h
theorem specFI_zero : (FnOk Tryz.prog 29 (mItoaK 0)) := mk_ok fun n h => absurd h.2.2 (by omega)
theorem ba2 (x y : UInt8) : ({ data := #[x] } : ByteArray) ++ { data := #[y] } = ⟨#[x, y]⟩ := ba_app [x] [y]
theorem ba1 (x : UInt8) (l : List UInt8) : ({ data := #[x] } : ByteArray) ++ { data := l.toArray } = ⟨(x :: l).toArray⟩ := ba_app [x] l
theorem sz1 (x : UInt8) : ({ data := #[x] } : ByteArray).size = 1 := rfl
theorem itoaS_size {m : Nat} (h : m ≤ 9223372036854775808) : (itoaS (-(m : Int))).size ≤ 9223372036854775810 := by
  unfold itoaS
  rw [ba_size]
  rcases Nat.eq_zero_or_pos m with rfl | h0
  · simp [Lib.itoa, dec_lt]
  · rw [itoa_neg h0, List.length_cons]
    have := dec_len m
    omega
abbrev FI (n : Nat) : Type := { p : Nat × List UInt8 // Lib.decDigits p.1 ++ p.2 = Lib.decDigits n ∧ p.1 + 2 * p.2.length ≤ n }
set_option maxHeartbeats 1000000 in
theorem specFI_succ {k : Nat} (ih : FnOk Tryz.prog 29 (mItoaK k)) : (FnOk Tryz.prog 29 (mItoaK (k + 1))) := by
  refine mk_ok fun n ⟨hn, hk, _⟩ => ?_
  have hG : FnsOk Tryz.prog [(29, mItoaK k)] := (.cons ih .nil)
  refine callOk_awp (ctx_ok eqOk hG) mixed (live := [true, false, true, true, false, true, false, false, true, false, false, false, false, false, false, false, false, false, false, false, false, false, false, false, false, false, true]) (dt := [(4, ⟨[(1, 7), (2, 7)], [0, 0, 0, 0, 0, 0, 0, 1], []⟩)]) Tryz.func29 rfl (by kernel_rfl) (by kernel_rfl) fun w0 hlens => ?_
  clear hlens
  have w0 : IntKind.i64.wrap 0 = 0 := by decide
  by_cases h0 : n < 0
  · obtain ⟨m, rfl⟩ : ∃ m : Nat, n = -(m : Int) := ⟨n.natAbs, by omega⟩
    have hm : 0 < m := by omega
    have hm2 : m ≤ 9223372036854775808 := by have := hn.1; omega
    have hz := itoa_neg hm
    have ed := tdiv_neg10 m
    have er := tmod_neg10 m
    by_cases h10 : m < 10
    · have e1 : m / 10 = 0 := by omega
      have w1 : IntKind.i64.wrap (48 + (m : Int)) = 48 + (m : Int) := wrapI (by omega) (by omega)
      have w2 : IntKind.u8.wrap (48 + (m : Int)) = 48 + (m : Int) := wrap8 (by omega) (by omega)
      have w3 : (48 + (m : Int)).toNat = 48 + m := by omega
      rw [e1] at ed
      have hmi : ¬ ((m : Int) = 0) := by omega
      have hs : itoaS (-(m : Int)) = ⟨#[45, UInt8.ofNat (48 + m)]⟩ := by unfold itoaS; rw [hz, dec_lt h10]
      simp (config := {contextual := true}) [Tryz.f29, List.range, List.range.loop, ints, intss, int, bool, row, frac, fracs, ← List.map_take, ← List.map_drop, h0, hm, ed, w0, w1, w2, w3, hmi, ba2, sz1, hs]
      done
    · have hs : itoaS (-(m : Int)) = itoaS (-((m / 10 : Nat) : Int)) ++ ⟨#[UInt8.ofNat (48 + m % 10)]⟩ := by
        have := ba_app (Lib.itoa (-((m / 10 : Nat) : Int))) [UInt8.ofNat (48 + m % 10)]
        unfold itoaS
        rw [hz, dec_ge (by omega)]
        refine Eq.trans ?_ this.symm
        rw [itoa_neg (by omega)]; simp
      have hq : 0 < m / 10 := by omega
      have hd : m % 10 < 10 := by omega
      have hsz := itoaS_size (m := m / 10) (by omega)
      have hk1 : 0 < k := by
        rcases Nat.eq_zero_or_pos k with rfl | h
        · simp at hk; omega
        · exact h
      have hkq : m / 10 < 10 ^ k := by
        have : m < 10 ^ (k + 1) := by omega
        rw [Nat.pow_succ] at this; omega
      have hc := mItoaK_at k (-((m / 10 : Nat) : Int)) ⟨⟨by omega, by omega⟩, by omega, hk1⟩
      have hq2 : m / 10 ≤ 922337203685477580 := by omega
      generalize m / 10 = q at *
      generalize m % 10 = d at *
      have wq : IntKind.i64.wrap (-(q : Int)) = -(q : Int) := wrapI (by omega) (by omega)
      have w1 : IntKind.i64.wrap (48 + (d : Int)) = 48 + (d : Int) := wrapI (by omega) (by omega)
      have w2 : IntKind.u8.wrap (48 + (d : Int)) = 48 + (d : Int) := wrap8 (by omega) (by omega)
      have w3 : (48 + (d : Int)).toNat = 48 + d := by omega
      have hq0 : ¬ (q = 0) := by omega
      have hsz2 : (itoaS (-(q : Int))).size ≤ 9223372036854775806 := by
        unfold itoaS
        rw [ba_size, itoa_neg hq, List.length_cons]
        have := dec_len q
        omega
      simp (config := {contextual := true}) [Tryz.f29, List.range, List.range.loop, ints, intss, int, bool, row, frac, fracs, ← List.map_take, ← List.map_drop, h0, hm, ed, er, w0, wq, w1, w2, w3, hq0, hc, sz1, hs, hsz2]
      done
  · obtain ⟨m, rfl⟩ : ∃ m : Nat, n = (m : Int) := ⟨n.toNat, by omega⟩
    have hm2 : m ≤ 9223372036854775807 := by have := hn.2; omega
    have hnn : ¬ ((m : Int) < 0) := by omega
    have hs : itoaS (m : Int) = ⟨(Lib.decDigits m).toArray⟩ := by unfold itoaS; rw [itoa_nat]
    simp (config := {contextual := true}) [Tryz.f29, List.range, List.range.loop, ints, intss, int, bool, row, frac, fracs, ← List.map_take, ← List.map_drop, hnn]
    refine awp_loop_of (live := [true, false, true, true, false, true, false, false, true, false, false, false, false, false, false, false, false, false, false, false, false, false, false, false, false, false, true]) (ctx_ok eqOk hG) mixed [true, false, false, true] (α := FI m) (fun p => ⟨[int (p.1.1 : Int), .junk, .junk, .v (.string ⟨p.1.2.toArray⟩), .junk, .junk, .junk, .junk, .junk, .junk, .junk, .junk, .junk, .junk, .junk, .junk, .junk, .junk, .junk, .junk, .junk, .junk, .junk, .junk, .junk, .junk, .junk, .junk, .junk, .junk, .junk, .junk, .junk, .junk, .junk, .junk, .junk, .junk, .junk, .junk, .junk, .junk, .junk, .junk], []⟩) (fun p => p.1.1) ⟨(m, []), by simp, by simp⟩ (by simp [sub, slotsLe, clean, keep, refsL, refs, once, place, renL, ren, List.replicate, int, bool, FI]) ?_
    rintro ⟨⟨u, l⟩, h1, h2⟩
    simp only at h1 h2
    by_cases h9 : u < 10
    · have e9 : ¬ (9 < u) := by omega
      have w1 : IntKind.i64.wrap (48 + (u : Int)) = 48 + (u : Int) := wrapI (by omega) (by omega)
      have w2 : IntKind.u8.wrap (48 + (u : Int)) = 48 + (u : Int) := wrap8 (by omega) (by omega)
      have w3 : (48 + (u : Int)).toNat = 48 + u := by omega
      have e9' : ¬ ((9 : Int) < u) := by omega
      have hsz := ba_size l
      have hl : 1 + l.length ≤ 9223372036854775807 := by omega
      rw [dec_lt h9, List.singleton_append] at h1
      rw [← h1] at hs
      simp (config := {contextual := true}) [List.range, List.range.loop, ints, intss, int, bool, row, frac, fracs, ← List.map_take, ← List.map_drop, e9, e9', w1, w2, w3, sz1, hsz, hl, hs, ba1]
      done
    · have e9 : (9 : Int) < u := by omega
      have ed := tdiv_nat10 u
      have er := tmod_nat10 u
      have hd : u % 10 < 10 := by omega
      have hq : u / 10 + 2 ≤ u := by omega
      have hq2 : u / 10 < u := by omega
      rw [dec_ge (by omega), List.append_assoc, List.singleton_append] at h1
      generalize u / 10 = q at *
      generalize u % 10 = d at *
      have wq : IntKind.i64.wrap (q : Int) = (q : Int) := wrapI (by omega) (by omega)
      have w1 : IntKind.i64.wrap (48 + (d : Int)) = 48 + (d : Int) := wrapI (by omega) (by omega)
      have w2 : IntKind.u8.wrap (48 + (d : Int)) = 48 + (d : Int) := wrap8 (by omega) (by omega)
      have w3 : (48 + (d : Int)).toNat = 48 + d := by omega
      have hsz := ba_size l
      have hl : 1 + l.length ≤ 9223372036854775807 := by omega
      simp (config := {contextual := true}) [List.range, List.range.loop, ints, intss, int, bool, row, frac, fracs, ← List.map_take, ← List.map_drop, e9, ed, er, wq, w1, w2, w3, sz1, hsz, hl, ba1]
      exact ⟨⟨(q, UInt8.ofNat (48 + d) :: l), h1, by simp; omega⟩, by simp [sub, slotsLe, clean, keep, refsL, refs, once, place, renL, ren, List.replicate, int, bool], by simp; omega⟩
theorem specFI_all : ∀ k, FnOk Tryz.prog 29 (mItoaK k)
  | 0 => specFI_zero
  | k + 1 => specFI_succ (specFI_all k)
theorem specFormatInt_ok : FnOk Tryz.prog 29 mItoa := by
  refine mk_ok fun n hn => ?_
  have h1 := hn.1
  have h2 := hn.2
  have h3 : (9223372036854775808 : Nat) < 10 ^ 19 := by decide
  exact specFI_all 19 _ _ (mItoaK_at 19 n ⟨hn, by omega, by omega⟩)
end Go.Proofs.YtigepnpiofcooaaGreatDoor.Ax
namespace Go.Proofs
open Go.Shelf
def Tryz.laysJoin_ren : Go.Shelf.Ren := ⟨fun | 156 => 67 | 165 => 78 | 166 => 79 | 169 => 80 | 240 => 89 | 241 => 90 | 276 => 96 | 277 => 97 | n => n, fun | 31 => 35 | 9 => 9 | 3 => 3 | 4 => 4 | 0 => 0 | 20 => 20 | 72 => 98 | 76 => 63 | 70 => 96 | 37 => 68 | 75 => 62 | 127 => 109 | 164 => 123 | 5 => 5 | 80 => 100 | n => n, fun | n => n⟩
theorem Tryz.laysJoin : Go.Proofs.Lays.n156 Tryz.prog Tryz.laysJoin_ren := {
  mixed := by kernel_rfl
  f156 := Tryz.func67.trans (congrArg some (by kernel_rfl))
  f165 := Tryz.func78.trans (congrArg some (by kernel_rfl))
  f166 := Tryz.func79.trans (congrArg some (by kernel_rfl))
  f169 := Tryz.func80.trans (congrArg some (by kernel_rfl))
  f240 := Tryz.func89.trans (congrArg some (by kernel_rfl))
  f241 := Tryz.func90.trans (congrArg some (by kernel_rfl))
  f276 := Tryz.func96.trans (congrArg some (by kernel_rfl))
  f277 := Tryz.func97.trans (congrArg some (by kernel_rfl))
  t0 := Tryz.underlying0
  a0 := Tryz.isAgg0
  z0 := Tryz.sizeOf0
  v0 := Tryz.zeroValue0
  t3 := Tryz.underlying3
  a3 := Tryz.isAgg3
  z3 := Tryz.sizeOf3
  v3 := Tryz.zeroValue3
  t4 := Tryz.underlying4
  a4 := Tryz.isAgg4
  z4 := Tryz.sizeOf4
  v4 := Tryz.zeroValue4
  t9 := Tryz.underlying9
  a9 := Tryz.isAgg9
  z9 := Tryz.sizeOf9
  v9 := Tryz.zeroValue9
  t20 := Tryz.underlying20
  a20 := Tryz.isAgg20
  z20 := Tryz.sizeOf20
  v20 := Tryz.zeroValue20
  t31 := Tryz.underlying35
  a31 := Tryz.isAgg35
  z31 := Tryz.sizeOf35
  v31 := Tryz.zeroValue35
  t37 := Tryz.underlying68
  a37 := Tryz.isAgg68
  z37 := Tryz.sizeOf68
  v37 := Tryz.zeroValue68
  t70 := Tryz.underlying96
  a70 := Tryz.isAgg96
  z70 := Tryz.sizeOf96
  v70 := Tryz.zeroValue96
  t72 := Tryz.underlying98
  a72 := Tryz.isAgg98
  z72 := Tryz.sizeOf98
  v72 := Tryz.zeroValue98
  t75 := Tryz.underlying62
  a75 := Tryz.isAgg62
  z75 := Tryz.sizeOf62
  v75 := Tryz.zeroValue62
  t76 := Tryz.underlying63
  a76 := Tryz.isAgg63
  z76 := Tryz.sizeOf63
  v76 := Tryz.zeroValue63
  t127 := Tryz.underlying109
  a127 := Tryz.isAgg109
  z127 := Tryz.sizeOf109
  v127 := Tryz.zeroValue109
  t164 := Tryz.underlying123
  a164 := Tryz.isAgg123
  z164 := Tryz.sizeOf123
  v164 := Tryz.zeroValue123 }
theorem Tryz.extraJoin : Builder.Extra Tryz.prog Tryz.laysJoin_ren where
  sizeBuilder := by kernel_rfl
  liesBuilder := by kernel_rfl
  t5 := by kernel_rfl
  a5 := fun _ => YtigepnpiofcooaaGreatDoor.Ax.run_isAgg (YtigepnpiofcooaaGreatDoor.Ax.tyOf_ok YtigepnpiofcooaaGreatDoor.Ax.ty5)
  z5 := fun _ => YtigepnpiofcooaaGreatDoor.Ax.run_size (YtigepnpiofcooaaGreatDoor.Ax.tyOf_ok YtigepnpiofcooaaGreatDoor.Ax.ty5)
  v5 := fun _ => YtigepnpiofcooaaGreatDoor.Ax.run_zero (YtigepnpiofcooaaGreatDoor.Ax.tyOf_ok YtigepnpiofcooaaGreatDoor.Ax.ty5)
  infoByte := by kernel_rfl
  cellsByte := by kernel_rfl
  sizeByte := by kernel_rfl
  neB5 := by decide
end Go.Proofs
namespace Go.Proofs.YtigepnpiofcooaaGreatDoor.Ax
open Go Go.RowKit
set_option linter.unusedSimpArgs false
def str (s : ByteArray) : AV := .v (.string s)
def strs (nl : Bool) (ws : List ByteArray) : AV := .sl nl 1 (ws.map str)
theorem map_str_inj {a b : List ByteArray} : a.map str = b.map str ↔ a = b := by
  constructor
  · exact fun h => (List.map_inj_right (f := str) (fun x y h => by simpa [str] using h)).1 h
  · rintro rfl; rfl
def bl (s : ByteArray) : List UInt8 := s.data.toList
def joinS (ws : List ByteArray) (by' : ByteArray) : ByteArray := ⟨(Lib.join (ws.map bl) (bl by')).toArray⟩
def joinOk (ws : List ByteArray) (by' : ByteArray) : Prop := ws.length ≤ 140737488355328 ∧ (Lib.join (ws.map bl) (bl by')).length ≤ 140737488355328
noncomputable def mJoin : List AV → Option AV := mk (fun p => joinOk p.2.1 p.2.2) (fun (p : Bool × List ByteArray × ByteArray) => [strs p.1 p.2.1, str p.2.2]) (fun p => .v (.string (joinS p.2.1 p.2.2)))
theorem mJoin_at (nl : Bool) (ws : List ByteArray) (by' : ByteArray) (h : joinOk ws by') : mJoin [.sl nl 1 (ws.map str), .v (.string by')] = some (.v (.string (joinS ws by'))) :=
  mk_eq (enc := fun (p : Bool × List ByteArray × ByteArray) => [strs p.1 p.2.1, str p.2.2]) (x := (nl, ws, by')) (by rintro ⟨a, b, c⟩ ⟨d, e, f⟩ h; simp [strs, str] at h; simp [map_str_inj.1 (by simpa [str] using h.1.2), h]) h
theorem row_str {w : World} {F : Nat → Prop} {b : Nat} : ∀ {ws : List ByteArray} {o : Nat}, RepRow w F b 1 o (ws.map str) → ∀ (j : Nat) (x : ByteArray), ws[j]? = some x → w.cell? ⟨b, o + j, none⟩ = some (.string x) ∧ F b
  | [], _, _, j, x, h => by simp at h
  | y :: ws, o, hr, 0, x, h => by
    simp only [List.map_cons, RepRow, str, Rep] at hr
    obtain ⟨⟨v, ⟨rfl, _⟩, _, _, hb, hat⟩, _⟩ := hr
    simp at h
    subst h
    exact ⟨hat 0 _ (by simp [Value.cells]), hb⟩
  | y :: ws, o, hr, j + 1, x, h => by
    simp only [List.map_cons, RepRow] at hr
    have := row_str hr.2 j x (by simpa using h)
    rw [show o + (j + 1) = o + 1 + j by omega]
    exact this
theorem frm_of_below {w w' : World} (h : Below w.heap.size w w') : Frm (fun _ => False) w w' := by
  obtain ⟨h1, h2, h3, h4, h5⟩ := h
  exact ⟨h1, h2, h3, h4, fun k hk _ => h5 k hk⟩
theorem stringsJoin_ok : FnOk Tryz.prog 67 mJoin := by
  refine mk_ok fun ⟨nl, ws, by'⟩ ⟨hN, hL⟩ => ?_
  simp only at hN hL
  refine ⟨⟨_, Tryz.func67, by kernel_rfl, by kernel_rfl⟩, fun w F vals hF hv => ?_⟩
  simp only [strs, RepL, Rep, str] at hv
  obtain ⟨v1, r1, e1, ⟨a, len, cap, rfl, hlen, hcap, _, hrow⟩, v2, r2, rfl, ⟨rfl, _⟩, rfl⟩ := hv
  have hvals : vals = #[.slice a len cap, .string by'] := by apply Array.ext'; rw [e1]
  subst hvals
  simp only [List.length_map] at hlen
  subst hlen
  have key : Calls Tryz.prog 67 #[.slice a ws.length cap, .string by'] w fun e w' => e = .returned (.string (joinS ws by')) ∧ Below w.heap.size w w' := by
    cases hws : ws with
    | nil =>
      subst hws
      refine (Go.Proofs.Any.strings_Join_none Tryz.laysJoin Tryz.extraJoin a cap by' w).mono fun e w' h => ?_
      obtain ⟨rfl, rfl⟩ := h
      exact ⟨rfl, Below.refl _ _⟩
    | cons x ws' =>
      rw [← hws]
      have hne : ws ≠ [] := by rw [hws]; simp
      rcases hrow with ⟨_, _, h0, _⟩ | ⟨b, o, rfl, _, hrow⟩ | ⟨_, _, h0⟩
      · rw [hws] at h0; simp at h0
      · have hc := row_str (ws := ws) hrow
        refine (Go.Proofs.Any.strings_Join Tryz.laysJoin Tryz.extraJoin b o cap ws by' w (fun j x h => (hc j x h).1) (hF.lt b (hc 0 x (by rw [hws]; rfl)).2) hN hcap hL).mono fun e w' h => ?_
        exact h
      · exact absurd (List.map_eq_nil_iff.1 h0) hne
  refine key.mono fun e w' h => ?_
  obtain ⟨rfl, hb⟩ := h
  exact ⟨_, fun _ => False, rfl, frm_of_below hb, fun _ h => h.elim, by simp [Own, Value.oneCell']⟩
theorem implJoin_ok : FnOk Tryz.prog 54 mJoin := by
  refine mk_ok fun ⟨nl, ws, by'⟩ h => ?_
  have hG : FnsOk Tryz.prog [(67, mJoin)] := (.cons stringsJoin_ok .nil)
  refine callOk_awp (ctx_ok eqOk hG) mixed (live := [true, true, false, false, true]) (dt := []) Tryz.func54 rfl (by kernel_rfl) (by kernel_rfl) fun w0 hlens => ?_
  clear hlens
  have hm := mJoin_at nl ws by' h
  simp (config := {contextual := true}) [Tryz.f54, List.range, List.range.loop, ints, intss, int, bool, row, frac, fracs, ← List.map_take, ← List.map_drop, strs, str, hm]
  done
theorem join_snoc {xs : List (List UInt8)} (h : xs ≠ []) (x sep : List UInt8) : Lib.join (xs ++ [x]) sep = Lib.join xs sep ++ sep ++ x := by
  cases xs with
  | nil => exact absurd rfl h
  | cons y r => simp [Lib.join_cons, Lib.joinTail]
end Go.Proofs.YtigepnpiofcooaaGreatDoor.Ax
namespace Go.Proofs.YtigepnpiofcooaaGreatDoor.Ax
open Go Go.RowKit
set_option linter.unusedSimpArgs false
def jTo (ws : List ByteArray) (by' : ByteArray) (k : Nat) : ByteArray := joinS (ws.take k) by'
theorem ba_data (s : ByteArray) : s = ⟨(bl s).toArray⟩ := by apply ByteArray.ext; simp [bl]
theorem bl_mk (l : List UInt8) : bl ⟨l.toArray⟩ = l := by simp [bl]
theorem jTo_zero {ws : List ByteArray} {by' : ByteArray} : jTo ws by' 0 = ⟨#[]⟩ := rfl
theorem jTo_one {ws : List ByteArray} {by' : ByteArray} (h : 0 < ws.length) : jTo ws by' 1 = ws[0] := by
  unfold jTo joinS
  rw [show ws.take 1 = [ws[0]] by cases ws with | nil => simp at h | cons x l => rfl]
  rw [List.map_cons, List.map_nil, Lib.join_one]
  exact (ba_data _).symm
theorem jTo_succ {ws : List ByteArray} {by' : ByteArray} {k : Nat} (h0 : 0 < k) (h : k < ws.length) : jTo ws by' k ++ by' ++ ws[k] = jTo ws by' (k + 1) := by
  unfold jTo joinS
  rw [List.take_succ_eq_append_getElem h, List.map_append, List.map_cons, List.map_nil, join_snoc (by intro e; rw [List.map_eq_nil_iff] at e; have := congrArg List.length e; rw [List.length_take, List.length_nil] at this; omega)]
  rw [← ba_app, ← ba_app, ← ba_data, ← ba_data]
theorem join_mono {ws : List ByteArray} {by' : ByteArray} : ∀ {j k : Nat}, j ≤ k → (jTo ws by' j).size ≤ (jTo ws by' k).size
  | j, 0, h => by rw [Nat.le_zero.1 h]; exact Nat.le_refl _
  | j, k + 1, h => by
    rcases Nat.lt_or_ge j (k + 1) with hlt | hge
    · refine Nat.le_trans (join_mono (show j ≤ k by omega)) ?_
      rcases Nat.lt_or_ge k ws.length with hk | hk
      · rcases Nat.eq_zero_or_pos k with rfl | h0
        · rw [jTo_zero]; exact Nat.zero_le _
        · rw [← jTo_succ h0 hk]; simp only [ByteArray.size_append]; omega
      · unfold jTo; rw [List.take_of_length_le hk, List.take_of_length_le (by omega)]; exact Nat.le_refl _
    · rw [show j = k + 1 by omega]; exact Nat.le_refl _
theorem jTo_all {ws : List ByteArray} {by' : ByteArray} : jTo ws by' ws.length = joinS ws by' := by unfold jTo; rw [List.take_length]
theorem joinS_size {ws : List ByteArray} {by' : ByteArray} : (joinS ws by').size = (Lib.join (ws.map bl) (bl by')).length := by unfold joinS; rw [ba_size]
set_option maxHeartbeats 1000000 in
theorem specJoin_ok : FnOk Tryz.prog 34 mJoin := by
  refine mk_ok fun ⟨nl, ws, by'⟩ ⟨hN, hL⟩ => ?_
  simp only at hN hL
  have hG : FnsOk Tryz.prog [] := .nil
  refine callOk_awp (ctx_ok eqOk hG) mixed (live := [true, true, false, false, true, true, true, true, true, true, true, true, false, false, false, false, true]) (dt := []) Tryz.func34 rfl (by kernel_rfl) (by kernel_rfl) fun w0 hlens => ?_
  clear hlens
  simp (config := {contextual := true}) [Tryz.f34, List.range, List.range.loop, ints, intss, int, bool, row, frac, fracs, ← List.map_take, ← List.map_drop, strs, str]
  refine awp_range (live := [true, true, false, false, true, true, true, true, true, true, true, true, false, false, false, false, true]) (ctx_ok eqOk hG) mixed [false, true, false, false, false, true, false, false, true, true, true] (ws.length) (fun k => True) (fun k => ⟨[.junk, str by', .junk, .junk, .junk, .v (.string (jTo ws by' k)), .junk, .junk, strs nl ws, int ws.length, int k, .junk, .junk, .junk, .junk, .junk, .junk, .junk, .junk, .junk, .junk, .junk, .junk, .junk, .junk], []⟩) ?_ (by simp [sub, slotsLe, clean, keep, refsL, refs, once, place, renL, ren, List.replicate, int, bool, strs, str, jTo_zero]) ?_ ?_ ?_
  · omega
  · trivial
  · intro k hk _ hwk
    have hm := join_mono (ws := ws) (by' := by') (show k + 1 ≤ ws.length by omega)
    rw [jTo_all, joinS_size] at hm
    rcases Nat.eq_zero_or_pos k with rfl | h0
    · have h1 := jTo_one (by' := by') hk
      have hz : ({ data := #[] } : ByteArray) ++ ws[0] = ws[0] := by rw [ba_data ws[0]]; exact ba_app [] _
      have hs : ({ data := #[] } : ByteArray).size + ws[0].size ≤ 9223372036854775807 := by
        have e0 : ({ data := #[] } : ByteArray).size = 0 := rfl
        have hm' : (jTo ws by' 1).size ≤ _ := hm
        rw [h1] at hm'
        omega
      have hwk' : IntKind.i64.wrap 1 = 1 := by decide
      simp (config := {contextual := true}) [List.range, List.range.loop, ints, intss, int, bool, row, frac, fracs, ← List.map_take, ← List.map_drop, hk, hwk', h1, hz, hs, jTo_zero, str, strs]
      done
    · have h1 := jTo_succ (by' := by') h0 hk
      have hs : (jTo ws by' k).size + by'.size + ws[k].size ≤ 9223372036854775807 := by rw [← ByteArray.size_append, ← ByteArray.size_append, h1]; omega
      have hs1 : (jTo ws by' k).size + by'.size ≤ 9223372036854775807 := by omega
      have hk0 : (0 : Int) < k := by omega
      simp (config := {contextual := true}) [List.range, List.range.loop, ints, intss, int, bool, row, frac, fracs, ← List.map_take, ← List.map_drop, hk, hwk, h0, hk0, h1, hs, hs1, str, strs]
      done
  · intro _
    simp (config := {contextual := true}) [List.range, List.range.loop, ints, intss, int, bool, row, frac, fracs, ← List.map_take, ← List.map_drop, jTo_all]
    done
end Go.Proofs.YtigepnpiofcooaaGreatDoor.Ax
namespace Go.Proofs.YtigepnpiofcooaaGreatDoor.Ax
open Go Go.RowKit
set_option linter.unusedSimpArgs false
def apW : Nat → AV
  | 0 => .sl true 1 []
  | k + 1 => .ref 0 [] 0 (k + 1)
def apWt (l : List AV) : Nat → List Tok
  | 0 => []
  | _ + 1 => [⟨true, .sl false 1 l⟩]
def apV (l : List AV) : List Tok := [⟨true, .sl false 1 l⟩]
theorem take_snoc {α : Type} {f : α → AV} {xs : List α} {k : Nat} (h : k < xs.length) : (xs.take k).map f ++ [f xs[k]] = (xs.take (k + 1)).map f := by
  rw [List.take_succ_eq_append_getElem h, List.map_append]; rfl
theorem dec_len10 : ∀ (k : Nat) (u : Nat), u < 10 ^ k → 0 < k → (Lib.decDigits u).length ≤ k
  | 0, _, _, h => absurd h (by omega)
  | k + 1, u, hu, _ => by
    by_cases h : u < 10
    · rw [dec_lt h]; simp
    · rw [dec_ge (by omega), List.length_append]
      have hk : 0 < k := by
        rcases Nat.eq_zero_or_pos k with rfl | h'
        · simp at hu; omega
        · exact h'
      have := dec_len10 k (u / 10) (by rw [Nat.pow_succ] at hu; omega) hk
      simp; omega
theorem itoa_len {n : Int} (h : inI n) : (Lib.itoa n).length ≤ 20 := by
  have h1 := h.1
  have h2 := h.2
  have h3 : (9223372036854775808 : Nat) < 10 ^ 19 := by decide
  unfold Lib.itoa
  split
  · have := dec_len10 19 n.natAbs (by omega) (by omega)
    simp; omega
  · have := dec_len10 19 n.toNat (by omega) (by omega)
    omega
theorem join_len {c : Nat} {sep : List UInt8} : ∀ {ws : List (List UInt8)}, (∀ w ∈ ws, w.length ≤ c) → (Lib.join ws sep).length ≤ (c + sep.length) * ws.length
  | [], _ => by simp [Lib.join_nil]
  | x :: r, h => by
    have hx := h x (by simp)
    have key : ∀ (r : List (List UInt8)), (∀ w ∈ r, w.length ≤ c) → (Lib.joinTail sep r).length ≤ (c + sep.length) * r.length := by
      intro r
      induction r with
      | nil => intro _; simp [Lib.joinTail]
      | cons y r ih =>
        intro h
        have h1 := h y (by simp)
        have h2 := ih fun w hw => h w (by simp [hw])
        simp only [Lib.joinTail, List.map_cons, List.flatten_cons, List.length_append, List.length_cons, Nat.mul_add, Nat.mul_one] at h2 ⊢
        omega
    have h2 := key r fun w hw => h w (by simp [hw])
    rw [Lib.join_cons, List.length_append, List.length_cons, Nat.mul_add, Nat.mul_one]
    omega
def numS (xs : List Int) : ByteArray := if xs = [] then ⟨#[45]⟩ else joinS (xs.map itoaS) ⟨#[44]⟩
end Go.Proofs.YtigepnpiofcooaaGreatDoor.Ax
namespace Go.Proofs.YtigepnpiofcooaaGreatDoor.Ax
open Go Go.RowKit
set_option linter.unusedSimpArgs false
theorem inI_small {x : Int} (h : -1000000 ≤ x ∧ x ≤ 1000000) : inI x := by unfold inI; omega
end Go.Proofs.YtigepnpiofcooaaGreatDoor.Ax
namespace Go.Proofs.YtigepnpiofcooaaGreatDoor.Ax
open Go Go.RowKit
theorem nlt0 (k : Nat) : ((k : Int) < 0) = False := by simp
theorem itoa_size {n : Int} (h : inI n) : (itoaS n).size ≤ 20 := by
  have := itoa_len h
  have e : (itoaS n).size = (bl (itoaS n)).length := by unfold bl; rw [Array.length_toList]; rfl
  rw [e]; unfold itoaS; rw [bl_mk]; exact this
end Go.Proofs.YtigepnpiofcooaaGreatDoor.Ax
