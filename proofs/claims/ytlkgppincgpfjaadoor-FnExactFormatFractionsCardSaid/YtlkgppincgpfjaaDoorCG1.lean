/-
  Contracts: SharesOk (both programs). No condition.
-/
import Derived.Test.YtlkgppincgpfjaaDoorCB2
import Derived.Test.YtlkgppincgpfjaaDoorCB3
import Derived.Ground.NamesProg
import Derived.Shelf.LaysM
import Derived.Shelf.Strconv.Itoa3
import Derived.Shelf.Strings.OnBuilder
namespace Go.Proofs.YtlkgppincgpfjaaDoor.Ax
open Go Go.RowKit
set_option linter.unusedSimpArgs false

theorem points_facts {xss : List (Bool × List Int)} (h : pointsB xss = true) : xss.length = 2 ∧ rectB xss 2 6 100 = true := by
  by_cases hl : xss.length = 2
  · refine ⟨hl, ?_⟩
    rw [pointsB_rect hl] at h
    simp only [Bool.and_eq_true] at h
    exact h.1
  · rw [pointsB_ne hl] at h; simp at h

/-- A valid fraction from 0 to 1. -/
def partB (f : Int × Int) : Bool := fracOk f && inR 0 f.2 f.1
noncomputable def mPart : List AV → Option AV := mk (fun _ => True) (fun (p : (Int) × (Int)) => [frac (p.1, p.2)]) (fun p => bool (partB (p.1, p.2)))
theorem mPart_at (t : Int) (b : Int) : mPart [.agg [.v (.int .i64 t), .v (.int .i64 b)]] = some (.v (.bool (partB (t, b)))) :=
  mk_eq (enc := fun (p : (Int) × (Int)) => [frac (p.1, p.2)]) (x := (t, b)) (by rintro ⟨a0, a1⟩ ⟨b0, b1⟩ h; simp [ints, intss, int, bool, row, frac, fracs, map_int_inj, map_row_inj, frac_inj, map_frac_inj] at h; simp [h]) trivial

set_option maxHeartbeats 1000000 in
theorem isPart_ok : FnOk Tryd.prog 95 mPart := by
  refine mk_ok fun ⟨t, b⟩ _ => ?_
  have hG : FnsOk Tryd.prog [(105, mFracOk), (69, mWithin)] := (.cons implFractionOk_ok (.cons within_ok .nil))
  refine callOk_awp (ctx_ok eqOk hG) mixed (live := [true, true, true]) (dt := []) Tryd.func95 rfl (by kernel_rfl) (by kernel_rfl) fun w0 hlens => ?_
  simp (config := {contextual := true}) [Tryd.f95, List.range, List.range.loop, ints, intss, int, bool, row, frac, fracs, ← List.map_take, ← List.map_drop, mFracOk_at, mWithin_in, partB]

def sharesB (xss : List (Bool × List Int)) (fs : List (Int × Int)) : Bool := pointsB xss && decide (fs.length = wid xss) && fs.all partB

noncomputable def mShares : List AV → Option AV := mk (fun _ => True) (fun (p : (Bool) × (List (Bool × List Int)) × (Bool) × (List (Int × Int))) => [intss p.1 p.2.1, fracs p.2.2.1 p.2.2.2]) (fun p => bool (sharesB p.2.1 p.2.2.2))
theorem mShares_at (nl : Bool) (xss : List (Bool × List Int)) (nl' : Bool) (fs : List (Int × Int)) : mShares [.sl nl 1 (xss.map row), .sl nl' 2 (fs.map frac)] = some (.v (.bool (sharesB xss fs))) :=
  mk_eq (enc := fun (p : (Bool) × (List (Bool × List Int)) × (Bool) × (List (Int × Int))) => [intss p.1 p.2.1, fracs p.2.2.1 p.2.2.2]) (x := (nl, xss, nl', fs)) (by rintro ⟨a0, a1, a2, a3⟩ ⟨b0, b1, b2, b3⟩ h; simp [ints, intss, int, bool, row, frac, fracs, map_int_inj, map_row_inj, frac_inj, map_frac_inj] at h; simp [h]) trivial

theorem all_allF {fs : List (Int × Int)} {p : Int × Int → Bool} : fs.all p = allR fs.length fun i => p (fs.getD i (0, 0)) := by
  unfold allR
  rw [Bool.eq_iff_iff]; simp only [List.all_eq_true, List.mem_range]
  constructor
  · intro h i hi
    have : fs.getD i (0, 0) = fs[i] := by simp [List.getD_eq_getElem?_getD, hi]
    rw [this]; exact h _ (List.getElem_mem _)
  · intro h x hx
    obtain ⟨i, hi, rfl⟩ := List.getElem_of_mem hx
    have := h i hi
    have e : fs.getD i (0, 0) = fs[i] := by simp [List.getD_eq_getElem?_getD, hi]
    rwa [e] at this

end Go.Proofs.YtlkgppincgpfjaaDoor.Ax

/-
  Contracts: decimal numerals (strconv.Itoa; both programs' FormatInt). No condition.
-/
namespace Go.Proofs
open Go.Shelf
def Tryd.laysM171_ren : Go.Shelf.Ren := ⟨fun | 171 => 98 | 243 => 128 | 246 => 142 | 283 => 147 | 284 => 148 | 285 => 149 | 286 => 150 | 129 => 155 | 317 => 154 | 318 => 156 | 319 => 157 | 320 => 158 | 337 => 159 | 338 => 160 | n => n, fun | 3 => 3 | 9 => 9 | 2 => 2 | 4 => 4 | 171 => 125 | 0 => 0 | 53 => 126 | 37 => 86 | 5 => 5 | 173 => 129 | 212 => 138 | 51 => 131 | 20 => 20 | 213 => 139 | 46 => 119 | 232 => 142 | 233 => 143 | n => n, fun | 17 => 1 | 18 => 2 | 19 => 3 | n => n⟩
theorem Tryd.laysM171 : Go.Proofs.LaysM.n171 Tryd.prog Tryd.laysM171_ren := {
  mixed := by kernel_rfl
  f129 := Tryd.func155.trans (congrArg some (by kernel_rfl))
  f171 := Tryd.func98.trans (congrArg some (by kernel_rfl))
  f243 := Tryd.func128.trans (congrArg some (by kernel_rfl))
  f246 := Tryd.func142.trans (congrArg some (by kernel_rfl))
  f283 := Tryd.func147.trans (congrArg some (by kernel_rfl))
  f284 := Tryd.func148.trans (congrArg some (by kernel_rfl))
  f285 := Tryd.func149.trans (congrArg some (by kernel_rfl))
  f286 := Tryd.func150.trans (congrArg some (by kernel_rfl))
  f317 := Tryd.func154.trans (congrArg some (by kernel_rfl))
  f318 := Tryd.func156.trans (congrArg some (by kernel_rfl))
  f319 := Tryd.func157.trans (congrArg some (by kernel_rfl))
  f320 := Tryd.func158.trans (congrArg some (by kernel_rfl))
  f337 := Tryd.func159.trans (congrArg some (by kernel_rfl))
  f338 := Tryd.func160.trans (congrArg some (by kernel_rfl))
  t0 := Tryd.underlying0
  a0 := Tryd.isAgg0
  z0 := Tryd.sizeOf0
  v0 := Tryd.zeroValue0
  t2 := Tryd.underlying2
  a2 := Tryd.isAgg2
  z2 := Tryd.sizeOf2
  v2 := Tryd.zeroValue2
  t3 := Tryd.underlying3
  a3 := Tryd.isAgg3
  z3 := Tryd.sizeOf3
  v3 := Tryd.zeroValue3
  t4 := Tryd.underlying4
  a4 := Tryd.isAgg4
  z4 := Tryd.sizeOf4
  v4 := Tryd.zeroValue4
  t5 := Tryd.underlying5
  a5 := Tryd.isAgg5
  z5 := Tryd.sizeOf5
  v5 := Tryd.zeroValue5
  t9 := Tryd.underlying9
  a9 := Tryd.isAgg9
  z9 := Tryd.sizeOf9
  v9 := Tryd.zeroValue9
  t20 := Tryd.underlying20
  a20 := Tryd.isAgg20
  z20 := Tryd.sizeOf20
  v20 := Tryd.zeroValue20
  t37 := Tryd.underlying86
  a37 := Tryd.isAgg86
  z37 := Tryd.sizeOf86
  v37 := Tryd.zeroValue86
  t46 := Tryd.underlying119
  a46 := Tryd.isAgg119
  z46 := Tryd.sizeOf119
  v46 := Tryd.zeroValue119
  t51 := Tryd.underlying131
  a51 := Tryd.isAgg131
  z51 := Tryd.sizeOf131
  v51 := Tryd.zeroValue131
  t53 := Tryd.underlying126
  a53 := Tryd.isAgg126
  z53 := Tryd.sizeOf126
  v53 := Tryd.zeroValue126
  t171 := Tryd.underlying125
  a171 := Tryd.isAgg125
  z171 := Tryd.sizeOf125
  v171 := Tryd.zeroValue125
  t173 := Tryd.underlying129
  a173 := Tryd.isAgg129
  z173 := Tryd.sizeOf129
  v173 := Tryd.zeroValue129
  t212 := Tryd.underlying138
  a212 := Tryd.isAgg138
  z212 := Tryd.sizeOf138
  v212 := Tryd.zeroValue138
  t213 := Tryd.underlying139
  a213 := Tryd.isAgg139
  z213 := Tryd.sizeOf139
  t232 := Tryd.underlying142
  a232 := Tryd.isAgg142
  z232 := Tryd.sizeOf142
  v232 := Tryd.zeroValue142
  t233 := Tryd.underlying143
  a233 := Tryd.isAgg143
  z233 := Tryd.sizeOf143
  v233 := Tryd.zeroValue143
  g17 := by kernel_rfl
  g18 := by kernel_rfl
  g19 := by kernel_rfl
  i0 := by kernel_rfl
  i2 := by kernel_rfl
  i3 := by kernel_rfl
  i4 := by kernel_rfl
  i5 := by kernel_rfl
  i9 := by kernel_rfl
  i20 := by kernel_rfl
  i37 := by kernel_rfl
  i46 := by kernel_rfl
  i51 := by kernel_rfl
  i53 := by kernel_rfl
  i171 := by kernel_rfl
  i173 := by kernel_rfl
  i212 := by kernel_rfl
  i232 := by kernel_rfl
  i233 := by kernel_rfl
  m17 := by kernel_rfl
  m18 := by kernel_rfl
  m19 := by kernel_rfl }
end Go.Proofs
namespace Go.Proofs.YtlkgppincgpfjaaDoor.Ax
open Go Go.RowKit
set_option linter.unusedSimpArgs false

def inI (n : Int) : Prop := -9223372036854775808 ≤ n ∧ n ≤ 9223372036854775807
def itoaS (n : Int) : ByteArray := ⟨(Lib.itoa n).toArray⟩

theorem tab_of {F : Nat → Prop} {w : World} (h : Gl F w) : Lib.TabIs Tryd.prog w "internal/strconv.uint64pow10" .u64 Lib.pow10Tab := by
  cases hg : Tryd.prog.globalNamed "internal/strconv.uint64pow10" with
  | none => exact absurd (show (Tryd.prog.globalNamed "internal/strconv.uint64pow10").isSome = true by kernel_rfl) (by rw [hg]; simp)
  | some g =>
    obtain ⟨_, x, y, h2⟩ := h g hg
    unfold Lib.TabIs World.var?
    rw [hg]
    simp [h2]

noncomputable def mItoa : List AV → Option AV := mk inI (fun (n : Int) => [int n]) (fun n => .v (.string (itoaS n)))
theorem mItoa_at (n : Int) (h : inI n) : mItoa [.v (.int .i64 n)] = some (.v (.string (itoaS n))) :=
  mk_eq (enc := fun (n : Int) => [int n]) (x := n) (by intro a b h; simp [int] at h; rw [h]) h

theorem itoa_ok : FnOk Tryd.prog 98 mItoa := by
  refine mk_ok fun n hn => ?_
  refine ⟨⟨_, Tryd.func98, by kernel_rfl, by kernel_rfl⟩, fun w F vals hF hv => ?_⟩
  simp only [RepL, Rep, int] at hv
  obtain ⟨a, r1, e1, ⟨rfl, _⟩, rfl⟩ := hv
  have hvals : vals = #[.int .i64 n] := by apply Array.ext'; rw [e1]
  subst hvals
  refine (Go.Proofs.Any.strconv_Itoa Tryd.laysM171 n hn.1 hn.2 w (tab_of hF.gl)).mono fun e w' h => ?_
  obtain ⟨rfl, k, os, rfl⟩ := h
  refine ⟨_, fun _ => False, rfl, ⟨rfl, rfl, rfl, by simp [Go.Sort.grow, World.drewN], fun b hb _ => ?_⟩, fun _ h => h.elim, ?_⟩
  · simp [Go.Sort.grow, World.drewN, Array.getElem?_append, hb]
  · simp only [Own]; exact ⟨rfl, rfl⟩

theorem implFormatInt_ok : FnOk Tryd.prog 61 mItoa := by
  refine mk_ok fun n hn => ?_
  have hG : FnsOk Tryd.prog [(98, mItoa)] := (.cons itoa_ok .nil)
  refine callOk_awp (ctx_ok eqOk hG) mixed (live := [true, false, true]) (dt := []) Tryd.func61 rfl (by kernel_rfl) (by kernel_rfl) fun w0 hlens => ?_
  clear hlens
  have hm := mItoa_at n hn
  simp (config := {contextual := true}) [Tryd.f61, List.range, List.range.loop, ints, intss, int, bool, row, frac, fracs, ← List.map_take, ← List.map_drop, hm]
  done

end Go.Proofs.YtlkgppincgpfjaaDoor.Ax

/-
  Contracts: the reference's FormatInt. No condition.
-/
namespace Go.Proofs.YtlkgppincgpfjaaDoor.Ax
open Go Go.RowKit
set_option linter.unusedSimpArgs false

theorem ba_app (l r : List UInt8) : (⟨l.toArray⟩ : ByteArray) ++ (⟨r.toArray⟩ : ByteArray) = ⟨(l ++ r).toArray⟩ := by
  apply ByteArray.ext; simp
theorem ba_size (l : List UInt8) : (⟨l.toArray⟩ : ByteArray).size = l.length := by
  simp [ByteArray.size]
theorem dec_lt {u : Nat} (h : u < 10) : Lib.decDigits u = [UInt8.ofNat (48 + u)] := by rw [Lib.decDigits, dif_pos h]
theorem dec_ge {u : Nat} (h : 10 ≤ u) : Lib.decDigits u = Lib.decDigits (u / 10) ++ [UInt8.ofNat (48 + u % 10)] := by rw [Lib.decDigits, dif_neg (by omega)]
theorem dec_len (u : Nat) : (Lib.decDigits u).length ≤ u + 1 := by
  induction u using Nat.strongRecOn with
  | _ u ih =>
    by_cases h : u < 10
    · rw [dec_lt h]; simp
    · rw [dec_ge (by omega), List.length_append]
      have := ih (u / 10) (by omega)
      simp; omega
theorem itoa_nat (m : Nat) : Lib.itoa (m : Int) = Lib.decDigits m := by simp [Lib.itoa]
theorem itoa_neg {m : Nat} (h : 0 < m) : Lib.itoa (-(m : Int)) = 45 :: Lib.decDigits m := by
  unfold Lib.itoa; rw [if_pos (by omega)]; simp
theorem tdiv_neg10 (m : Nat) : Int.tdiv (-(m : Int)) 10 = -((m / 10 : Nat) : Int) := by
  rw [Int.neg_tdiv]; rfl
theorem tmod_neg10 (m : Nat) : Int.tmod (-(m : Int)) 10 = -((m % 10 : Nat) : Int) := by
  rw [Int.neg_tmod]; rfl
theorem tdiv_nat10 (m : Nat) : Int.tdiv (m : Int) 10 = ((m / 10 : Nat) : Int) := rfl
theorem tmod_nat10 (m : Nat) : Int.tmod (m : Int) 10 = ((m % 10 : Nat) : Int) := rfl
theorem wrap8 {x : Int} (h : 0 ≤ x) (h2 : x ≤ 255) : IntKind.u8.wrap x = x := by
  simp [IntKind.wrap, IntKind.bits, IntKind.signed]; omega

noncomputable def mItoaK (k : Nat) : List AV → Option AV := mk (fun n => inI n ∧ n.natAbs < 10 ^ k ∧ 0 < k) (fun (n : Int) => [int n]) (fun n => .v (.string (itoaS n)))
theorem mItoaK_at (k : Nat) (n : Int) (h : inI n ∧ n.natAbs < 10 ^ k ∧ 0 < k) : mItoaK k [.v (.int .i64 n)] = some (.v (.string (itoaS n))) :=
  mk_eq (enc := fun (n : Int) => [int n]) (x := n) (by intro a b h; simp [int] at h; rw [h]) h

theorem specFI_zero : (FnOk Tryd.prog 60 (mItoaK 0)) := mk_ok fun n h => absurd h.2.2 (by omega)

theorem ba2 (x y : UInt8) : ({ data := #[x] } : ByteArray) ++ { data := #[y] } = ⟨#[x, y]⟩ := ba_app [x] [y]
theorem ba1 (x : UInt8) (l : List UInt8) : ({ data := #[x] } : ByteArray) ++ { data := l.toArray } = ⟨(x :: l).toArray⟩ := ba_app [x] l
theorem sz1 (x : UInt8) : ({ data := #[x] } : ByteArray).size = 1 := rfl
theorem itoaS_size {m : Nat} (h : m ≤ 9223372036854775808) : (itoaS (-(m : Int))).size ≤ 9223372036854775810 := by
  unfold itoaS
  rw [ba_size]
  rcases Nat.eq_zero_or_pos m with rfl | h0
  · simp [Lib.itoa, dec_lt]
  · rw [itoa_neg h0, List.length_cons]
    have := dec_len m
    omega

/-- What is left to print, and what has been printed. -/
abbrev FI (n : Nat) : Type := { p : Nat × List UInt8 // Lib.decDigits p.1 ++ p.2 = Lib.decDigits n ∧ p.1 + 2 * p.2.length ≤ n }

set_option maxHeartbeats 1000000 in
theorem specFI_succ {k : Nat} (ih : FnOk Tryd.prog 60 (mItoaK k)) : (FnOk Tryd.prog 60 (mItoaK (k + 1))) := by
  refine mk_ok fun n ⟨hn, hk, _⟩ => ?_
  have hG : FnsOk Tryd.prog [(60, mItoaK k)] := (.cons ih .nil)
  refine callOk_awp (ctx_ok eqOk hG) mixed (live := [true, false, true, true, false, true, false, false, true, false, false, false, false, false, false, false, false, false, false, false, false, false, false, false, false, false, true]) (dt := [(4, ⟨[(1, 7), (2, 7)], [0, 0, 0, 0, 0, 0, 0, 1], []⟩)]) Tryd.func60 rfl (by kernel_rfl) (by kernel_rfl) fun w0 hlens => ?_
  clear hlens
  have w0 : IntKind.i64.wrap 0 = 0 := by decide
  by_cases h0 : n < 0
  · obtain ⟨m, rfl⟩ : ∃ m : Nat, n = -(m : Int) := ⟨n.natAbs, by omega⟩
    have hm : 0 < m := by omega
    have hm2 : m ≤ 9223372036854775808 := by have := hn.1; omega
    have hz := itoa_neg hm
    have ed := tdiv_neg10 m
    have er := tmod_neg10 m
    by_cases h10 : m < 10
    · have e1 : m / 10 = 0 := by omega
      have w1 : IntKind.i64.wrap (48 + (m : Int)) = 48 + (m : Int) := wrapI (by omega) (by omega)
      have w2 : IntKind.u8.wrap (48 + (m : Int)) = 48 + (m : Int) := wrap8 (by omega) (by omega)
      have w3 : (48 + (m : Int)).toNat = 48 + m := by omega
      rw [e1] at ed
      have hmi : ¬ ((m : Int) = 0) := by omega
      have hs : itoaS (-(m : Int)) = ⟨#[45, UInt8.ofNat (48 + m)]⟩ := by unfold itoaS; rw [hz, dec_lt h10]
      simp (config := {contextual := true}) [Tryd.f60, List.range, List.range.loop, ints, intss, int, bool, row, frac, fracs, ← List.map_take, ← List.map_drop, h0, hm, ed, w0, w1, w2, w3, hmi, ba2, sz1, hs]
      done
    · have hs : itoaS (-(m : Int)) = itoaS (-((m / 10 : Nat) : Int)) ++ ⟨#[UInt8.ofNat (48 + m % 10)]⟩ := by
        have := ba_app (Lib.itoa (-((m / 10 : Nat) : Int))) [UInt8.ofNat (48 + m % 10)]
        unfold itoaS
        rw [hz, dec_ge (by omega)]
        refine Eq.trans ?_ this.symm
        rw [itoa_neg (by omega)]; simp
      have hq : 0 < m / 10 := by omega
      have hd : m % 10 < 10 := by omega
      have hsz := itoaS_size (m := m / 10) (by omega)
      have hk1 : 0 < k := by
        rcases Nat.eq_zero_or_pos k with rfl | h
        · simp at hk; omega
        · exact h
      have hkq : m / 10 < 10 ^ k := by
        have : m < 10 ^ (k + 1) := by omega
        rw [Nat.pow_succ] at this; omega
      have hc := mItoaK_at k (-((m / 10 : Nat) : Int)) ⟨⟨by omega, by omega⟩, by omega, hk1⟩
      have hq2 : m / 10 ≤ 922337203685477580 := by omega
      generalize m / 10 = q at *
      generalize m % 10 = d at *
      have wq : IntKind.i64.wrap (-(q : Int)) = -(q : Int) := wrapI (by omega) (by omega)
      have w1 : IntKind.i64.wrap (48 + (d : Int)) = 48 + (d : Int) := wrapI (by omega) (by omega)
      have w2 : IntKind.u8.wrap (48 + (d : Int)) = 48 + (d : Int) := wrap8 (by omega) (by omega)
      have w3 : (48 + (d : Int)).toNat = 48 + d := by omega
      have hq0 : ¬ (q = 0) := by omega
      have hsz2 : (itoaS (-(q : Int))).size ≤ 9223372036854775806 := by
        unfold itoaS
        rw [ba_size, itoa_neg hq, List.length_cons]
        have := dec_len q
        omega
      simp (config := {contextual := true}) [Tryd.f60, List.range, List.range.loop, ints, intss, int, bool, row, frac, fracs, ← List.map_take, ← List.map_drop, h0, hm, ed, er, w0, wq, w1, w2, w3, hq0, hc, sz1, hs, hsz2]
      done
  · obtain ⟨m, rfl⟩ : ∃ m : Nat, n = (m : Int) := ⟨n.toNat, by omega⟩
    have hm2 : m ≤ 9223372036854775807 := by have := hn.2; omega
    have hnn : ¬ ((m : Int) < 0) := by omega
    have hs : itoaS (m : Int) = ⟨(Lib.decDigits m).toArray⟩ := by unfold itoaS; rw [itoa_nat]
    simp (config := {contextual := true}) [Tryd.f60, List.range, List.range.loop, ints, intss, int, bool, row, frac, fracs, ← List.map_take, ← List.map_drop, hnn]
    refine awp_loop_of (live := [true, false, true, true, false, true, false, false, true, false, false, false, false, false, false, false, false, false, false, false, false, false, false, false, false, false, true]) (ctx_ok eqOk hG) mixed [true, false, false, true] (α := FI m) (fun p => ⟨[int (p.1.1 : Int), .junk, .junk, .v (.string ⟨p.1.2.toArray⟩), .junk, .junk, .junk, .junk, .junk, .junk, .junk, .junk, .junk, .junk, .junk, .junk, .junk, .junk, .junk, .junk, .junk, .junk, .junk, .junk, .junk, .junk, .junk, .junk, .junk, .junk, .junk, .junk, .junk, .junk, .junk, .junk, .junk, .junk, .junk, .junk, .junk, .junk, .junk, .junk], []⟩) (fun p => p.1.1) ⟨(m, []), by simp, by simp⟩ (by simp [sub, slotsLe, clean, keep, refsL, refs, once, place, renL, ren, List.replicate, int, bool, FI]) ?_
    rintro ⟨⟨u, l⟩, h1, h2⟩
    simp only at h1 h2
    by_cases h9 : u < 10
    · have e9 : ¬ (9 < u) := by omega
      have w1 : IntKind.i64.wrap (48 + (u : Int)) = 48 + (u : Int) := wrapI (by omega) (by omega)
      have w2 : IntKind.u8.wrap (48 + (u : Int)) = 48 + (u : Int) := wrap8 (by omega) (by omega)
      have w3 : (48 + (u : Int)).toNat = 48 + u := by omega
      have e9' : ¬ ((9 : Int) < u) := by omega
      have hsz := ba_size l
      have hl : 1 + l.length ≤ 9223372036854775807 := by omega
      rw [dec_lt h9, List.singleton_append] at h1
      rw [← h1] at hs
      simp (config := {contextual := true}) [List.range, List.range.loop, ints, intss, int, bool, row, frac, fracs, ← List.map_take, ← List.map_drop, e9, e9', w1, w2, w3, sz1, hsz, hl, hs, ba1]
      done
    · have e9 : (9 : Int) < u := by omega
      have ed := tdiv_nat10 u
      have er := tmod_nat10 u
      have hd : u % 10 < 10 := by omega
      have hq : u / 10 + 2 ≤ u := by omega
      have hq2 : u / 10 < u := by omega
      rw [dec_ge (by omega), List.append_assoc, List.singleton_append] at h1
      generalize u / 10 = q at *
      generalize u % 10 = d at *
      have wq : IntKind.i64.wrap (q : Int) = (q : Int) := wrapI (by omega) (by omega)
      have w1 : IntKind.i64.wrap (48 + (d : Int)) = 48 + (d : Int) := wrapI (by omega) (by omega)
      have w2 : IntKind.u8.wrap (48 + (d : Int)) = 48 + (d : Int) := wrap8 (by omega) (by omega)
      have w3 : (48 + (d : Int)).toNat = 48 + d := by omega
      have hsz := ba_size l
      have hl : 1 + l.length ≤ 9223372036854775807 := by omega
      simp (config := {contextual := true}) [List.range, List.range.loop, ints, intss, int, bool, row, frac, fracs, ← List.map_take, ← List.map_drop, e9, ed, er, wq, w1, w2, w3, sz1, hsz, hl, ba1]
      exact ⟨⟨(q, UInt8.ofNat (48 + d) :: l), h1, by simp; omega⟩, by simp [sub, slotsLe, clean, keep, refsL, refs, once, place, renL, ren, List.replicate, int, bool], by simp; omega⟩

theorem specFI_all : ∀ k, FnOk Tryd.prog 60 (mItoaK k)
  | 0 => specFI_zero
  | k + 1 => specFI_succ (specFI_all k)
theorem specFormatInt_ok : FnOk Tryd.prog 60 mItoa := by
  refine mk_ok fun n hn => ?_
  have h1 := hn.1
  have h2 := hn.2
  have h3 : (9223372036854775808 : Nat) < 10 ^ 19 := by decide
  exact specFI_all 19 _ _ (mItoaK_at 19 n ⟨hn, by omega, by omega⟩)

end Go.Proofs.YtlkgppincgpfjaaDoor.Ax

/-
  Contracts: strings.Join; both programs' Join. No condition.
-/
namespace Go.Proofs
open Go.Shelf
def Tryd.laysJoin_ren : Go.Shelf.Ren := ⟨fun | 156 => 97 | 165 => 125 | 166 => 126 | 169 => 127 | 240 => 140 | 241 => 141 | 276 => 145 | 277 => 146 | n => n, fun | 31 => 53 | 9 => 9 | 3 => 3 | 4 => 4 | 0 => 0 | 20 => 20 | 72 => 104 | 76 => 108 | 70 => 102 | 37 => 86 | 75 => 107 | 127 => 116 | 164 => 122 | 5 => 5 | 80 => 110 | n => n, fun | n => n⟩
theorem Tryd.laysJoin : Go.Proofs.Lays.n156 Tryd.prog Tryd.laysJoin_ren := {
  mixed := by kernel_rfl
  f156 := Tryd.func97.trans (congrArg some (by kernel_rfl))
  f165 := Tryd.func125.trans (congrArg some (by kernel_rfl))
  f166 := Tryd.func126.trans (congrArg some (by kernel_rfl))
  f169 := Tryd.func127.trans (congrArg some (by kernel_rfl))
  f240 := Tryd.func140.trans (congrArg some (by kernel_rfl))
  f241 := Tryd.func141.trans (congrArg some (by kernel_rfl))
  f276 := Tryd.func145.trans (congrArg some (by kernel_rfl))
  f277 := Tryd.func146.trans (congrArg some (by kernel_rfl))
  t0 := Tryd.underlying0
  a0 := Tryd.isAgg0
  z0 := Tryd.sizeOf0
  v0 := Tryd.zeroValue0
  t3 := Tryd.underlying3
  a3 := Tryd.isAgg3
  z3 := Tryd.sizeOf3
  v3 := Tryd.zeroValue3
  t4 := Tryd.underlying4
  a4 := Tryd.isAgg4
  z4 := Tryd.sizeOf4
  v4 := Tryd.zeroValue4
  t9 := Tryd.underlying9
  a9 := Tryd.isAgg9
  z9 := Tryd.sizeOf9
  v9 := Tryd.zeroValue9
  t20 := Tryd.underlying20
  a20 := Tryd.isAgg20
  z20 := Tryd.sizeOf20
  v20 := Tryd.zeroValue20
  t31 := Tryd.underlying53
  a31 := Tryd.isAgg53
  z31 := Tryd.sizeOf53
  v31 := Tryd.zeroValue53
  t37 := Tryd.underlying86
  a37 := Tryd.isAgg86
  z37 := Tryd.sizeOf86
  v37 := Tryd.zeroValue86
  t70 := Tryd.underlying102
  a70 := Tryd.isAgg102
  z70 := Tryd.sizeOf102
  v70 := Tryd.zeroValue102
  t72 := Tryd.underlying104
  a72 := Tryd.isAgg104
  z72 := Tryd.sizeOf104
  v72 := Tryd.zeroValue104
  t75 := Tryd.underlying107
  a75 := Tryd.isAgg107
  z75 := Tryd.sizeOf107
  v75 := Tryd.zeroValue107
  t76 := Tryd.underlying108
  a76 := Tryd.isAgg108
  z76 := Tryd.sizeOf108
  v76 := Tryd.zeroValue108
  t127 := Tryd.underlying116
  a127 := Tryd.isAgg116
  z127 := Tryd.sizeOf116
  v127 := Tryd.zeroValue116
  t164 := Tryd.underlying122
  a164 := Tryd.isAgg122
  z164 := Tryd.sizeOf122
  v164 := Tryd.zeroValue122 }
theorem Tryd.extraJoin : Builder.Extra Tryd.prog Tryd.laysJoin_ren where
  sizeBuilder := by kernel_rfl
  liesBuilder := by kernel_rfl
  t5 := by kernel_rfl
  a5 := fun _ => YtlkgppincgpfjaaDoor.Ax.run_isAgg (YtlkgppincgpfjaaDoor.Ax.tyOf_ok YtlkgppincgpfjaaDoor.Ax.ty5)
  z5 := fun _ => YtlkgppincgpfjaaDoor.Ax.run_size (YtlkgppincgpfjaaDoor.Ax.tyOf_ok YtlkgppincgpfjaaDoor.Ax.ty5)
  v5 := fun _ => YtlkgppincgpfjaaDoor.Ax.run_zero (YtlkgppincgpfjaaDoor.Ax.tyOf_ok YtlkgppincgpfjaaDoor.Ax.ty5)
  infoByte := by kernel_rfl
  cellsByte := by kernel_rfl
  sizeByte := by kernel_rfl
  neB5 := by decide
end Go.Proofs
namespace Go.Proofs.YtlkgppincgpfjaaDoor.Ax
open Go Go.RowKit
set_option linter.unusedSimpArgs false

def str (s : ByteArray) : AV := .v (.string s)
def strs (nl : Bool) (ws : List ByteArray) : AV := .sl nl 1 (ws.map str)
theorem map_str_inj {a b : List ByteArray} : a.map str = b.map str ↔ a = b := by
  constructor
  · exact fun h => (List.map_inj_right (f := str) (fun x y h => by simpa [str] using h)).1 h
  · rintro rfl; rfl

def bl (s : ByteArray) : List UInt8 := s.data.toList
def joinS (ws : List ByteArray) (by' : ByteArray) : ByteArray := ⟨(Lib.join (ws.map bl) (bl by')).toArray⟩
/-- The text is not too long. -/
def joinOk (ws : List ByteArray) (by' : ByteArray) : Prop := ws.length ≤ 140737488355328 ∧ (Lib.join (ws.map bl) (bl by')).length ≤ 140737488355328

noncomputable def mJoin : List AV → Option AV := mk (fun p => joinOk p.2.1 p.2.2) (fun (p : Bool × List ByteArray × ByteArray) => [strs p.1 p.2.1, str p.2.2]) (fun p => .v (.string (joinS p.2.1 p.2.2)))
theorem mJoin_at (nl : Bool) (ws : List ByteArray) (by' : ByteArray) (h : joinOk ws by') : mJoin [.sl nl 1 (ws.map str), .v (.string by')] = some (.v (.string (joinS ws by'))) :=
  mk_eq (enc := fun (p : Bool × List ByteArray × ByteArray) => [strs p.1 p.2.1, str p.2.2]) (x := (nl, ws, by')) (by rintro ⟨a, b, c⟩ ⟨d, e, f⟩ h; simp [strs, str] at h; simp [map_str_inj.1 (by simpa [str] using h.1.2), h]) h

theorem row_str {w : World} {F : Nat → Prop} {b : Nat} : ∀ {ws : List ByteArray} {o : Nat}, RepRow w F b 1 o (ws.map str) → ∀ (j : Nat) (x : ByteArray), ws[j]? = some x → w.cell? ⟨b, o + j, none⟩ = some (.string x) ∧ F b
  | [], _, _, j, x, h => by simp at h
  | y :: ws, o, hr, 0, x, h => by
    simp only [List.map_cons, RepRow, str, Rep] at hr
    obtain ⟨⟨v, ⟨rfl, _⟩, _, _, hb, hat⟩, _⟩ := hr
    simp at h
    subst h
    exact ⟨hat 0 _ (by simp [Value.cells]), hb⟩
  | y :: ws, o, hr, j + 1, x, h => by
    simp only [List.map_cons, RepRow] at hr
    have := row_str hr.2 j x (by simpa using h)
    rw [show o + (j + 1) = o + 1 + j by omega]
    exact this

theorem frm_of_below {w w' : World} (h : Below w.heap.size w w') : Frm (fun _ => False) w w' := by
  obtain ⟨h1, h2, h3, h4, h5⟩ := h
  exact ⟨h1, h2, h3, h4, fun k hk _ => h5 k hk⟩

theorem stringsJoin_ok : FnOk Tryd.prog 97 mJoin := by
  refine mk_ok fun ⟨nl, ws, by'⟩ ⟨hN, hL⟩ => ?_
  simp only at hN hL
  refine ⟨⟨_, Tryd.func97, by kernel_rfl, by kernel_rfl⟩, fun w F vals hF hv => ?_⟩
  simp only [strs, RepL, Rep, str] at hv
  obtain ⟨v1, r1, e1, ⟨a, len, cap, rfl, hlen, hcap, _, hrow⟩, v2, r2, rfl, ⟨rfl, _⟩, rfl⟩ := hv
  have hvals : vals = #[.slice a len cap, .string by'] := by apply Array.ext'; rw [e1]
  subst hvals
  simp only [List.length_map] at hlen
  subst hlen
  have key : Calls Tryd.prog 97 #[.slice a ws.length cap, .string by'] w fun e w' => e = .returned (.string (joinS ws by')) ∧ Below w.heap.size w w' := by
    cases hws : ws with
    | nil =>
      subst hws
      refine (Go.Proofs.Any.strings_Join_none Tryd.laysJoin Tryd.extraJoin a cap by' w).mono fun e w' h => ?_
      obtain ⟨rfl, rfl⟩ := h
      exact ⟨rfl, Below.refl _ _⟩
    | cons x ws' =>
      rw [← hws]
      have hne : ws ≠ [] := by rw [hws]; simp
      rcases hrow with ⟨_, _, h0, _⟩ | ⟨b, o, rfl, _, hrow⟩ | ⟨_, _, h0⟩
      · rw [hws] at h0; simp at h0
      · have hc := row_str (ws := ws) hrow
        refine (Go.Proofs.Any.strings_Join Tryd.laysJoin Tryd.extraJoin b o cap ws by' w (fun j x h => (hc j x h).1) (hF.lt b (hc 0 x (by rw [hws]; rfl)).2) hN hcap hL).mono fun e w' h => ?_
        exact h
      · exact absurd (List.map_eq_nil_iff.1 h0) hne
  refine key.mono fun e w' h => ?_
  obtain ⟨rfl, hb⟩ := h
  exact ⟨_, fun _ => False, rfl, frm_of_below hb, fun _ h => h.elim, by simp [Own, Value.oneCell']⟩

theorem implJoin_ok : FnOk Tryd.prog 59 mJoin := by
  refine mk_ok fun ⟨nl, ws, by'⟩ h => ?_
  have hG : FnsOk Tryd.prog [(97, mJoin)] := (.cons stringsJoin_ok .nil)
  refine callOk_awp (ctx_ok eqOk hG) mixed (live := [true, true, false, false, true]) (dt := []) Tryd.func59 rfl (by kernel_rfl) (by kernel_rfl) fun w0 hlens => ?_
  clear hlens
  have hm := mJoin_at nl ws by' h
  simp (config := {contextual := true}) [Tryd.f59, List.range, List.range.loop, ints, intss, int, bool, row, frac, fracs, ← List.map_take, ← List.map_drop, strs, str, hm]
  done

theorem join_snoc {xs : List (List UInt8)} (h : xs ≠ []) (x sep : List UInt8) : Lib.join (xs ++ [x]) sep = Lib.join xs sep ++ sep ++ x := by
  cases xs with
  | nil => exact absurd rfl h
  | cons y r => simp [Lib.join_cons, Lib.joinTail]

end Go.Proofs.YtlkgppincgpfjaaDoor.Ax

/-
  Contracts: the reference's Join; FormatNumbers (both programs). No condition.
-/
namespace Go.Proofs.YtlkgppincgpfjaaDoor.Ax
open Go Go.RowKit
set_option linter.unusedSimpArgs false

/-- The first k words. -/
def jTo (ws : List ByteArray) (by' : ByteArray) (k : Nat) : ByteArray := joinS (ws.take k) by'
theorem ba_data (s : ByteArray) : s = ⟨(bl s).toArray⟩ := by apply ByteArray.ext; simp [bl]
theorem bl_mk (l : List UInt8) : bl ⟨l.toArray⟩ = l := by simp [bl]
theorem size_bl (s : ByteArray) : s.size = (bl s).length := by unfold bl; rw [Array.length_toList]; rfl
theorem jTo_zero {ws : List ByteArray} {by' : ByteArray} : jTo ws by' 0 = ⟨#[]⟩ := rfl
theorem jTo_one {ws : List ByteArray} {by' : ByteArray} (h : 0 < ws.length) : jTo ws by' 1 = ws[0] := by
  unfold jTo joinS
  rw [show ws.take 1 = [ws[0]] by cases ws with | nil => simp at h | cons x l => rfl]
  rw [List.map_cons, List.map_nil, Lib.join_one]
  exact (ba_data _).symm
theorem jTo_succ {ws : List ByteArray} {by' : ByteArray} {k : Nat} (h0 : 0 < k) (h : k < ws.length) : jTo ws by' k ++ by' ++ ws[k] = jTo ws by' (k + 1) := by
  unfold jTo joinS
  rw [List.take_succ_eq_append_getElem h, List.map_append, List.map_cons, List.map_nil, join_snoc (by intro e; rw [List.map_eq_nil_iff] at e; have := congrArg List.length e; rw [List.length_take, List.length_nil] at this; omega)]
  rw [← ba_app, ← ba_app, ← ba_data, ← ba_data]
theorem join_mono {ws : List ByteArray} {by' : ByteArray} : ∀ {j k : Nat}, j ≤ k → (jTo ws by' j).size ≤ (jTo ws by' k).size
  | j, 0, h => by rw [Nat.le_zero.1 h]; exact Nat.le_refl _
  | j, k + 1, h => by
    rcases Nat.lt_or_ge j (k + 1) with hlt | hge
    · refine Nat.le_trans (join_mono (show j ≤ k by omega)) ?_
      rcases Nat.lt_or_ge k ws.length with hk | hk
      · rcases Nat.eq_zero_or_pos k with rfl | h0
        · rw [jTo_zero]; exact Nat.zero_le _
        · rw [← jTo_succ h0 hk]; simp only [ByteArray.size_append]; omega
      · unfold jTo; rw [List.take_of_length_le hk, List.take_of_length_le (by omega)]; exact Nat.le_refl _
    · rw [show j = k + 1 by omega]; exact Nat.le_refl _
theorem jTo_all {ws : List ByteArray} {by' : ByteArray} : jTo ws by' ws.length = joinS ws by' := by unfold jTo; rw [List.take_length]
theorem joinS_size {ws : List ByteArray} {by' : ByteArray} : (joinS ws by').size = (Lib.join (ws.map bl) (bl by')).length := by unfold joinS; rw [ba_size]

set_option maxHeartbeats 1000000 in
theorem specJoin_ok : FnOk Tryd.prog 53 mJoin := by
  refine mk_ok fun ⟨nl, ws, by'⟩ ⟨hN, hL⟩ => ?_
  simp only at hN hL
  have hG : FnsOk Tryd.prog [] := .nil
  refine callOk_awp (ctx_ok eqOk hG) mixed (live := [true, true, false, false, true, true, true, true, true, true, true, true, false, false, false, false, true]) (dt := []) Tryd.func53 rfl (by kernel_rfl) (by kernel_rfl) fun w0 hlens => ?_
  clear hlens
  simp (config := {contextual := true}) [Tryd.f53, List.range, List.range.loop, ints, intss, int, bool, row, frac, fracs, ← List.map_take, ← List.map_drop, strs, str]
  refine awp_range (live := [true, true, false, false, true, true, true, true, true, true, true, true, false, false, false, false, true]) (ctx_ok eqOk hG) mixed [false, true, false, false, false, true, false, false, true, true, true] (ws.length) (fun k => True) (fun k => ⟨[.junk, str by', .junk, .junk, .junk, .v (.string (jTo ws by' k)), .junk, .junk, strs nl ws, int ws.length, int k, .junk, .junk, .junk, .junk, .junk, .junk, .junk, .junk, .junk, .junk, .junk, .junk, .junk, .junk], []⟩) ?_ (by simp [sub, slotsLe, clean, keep, refsL, refs, once, place, renL, ren, List.replicate, int, bool, strs, str, jTo_zero]) ?_ ?_ ?_
  · omega
  · trivial
  · intro k hk _ hwk
    have hm := join_mono (ws := ws) (by' := by') (show k + 1 ≤ ws.length by omega)
    rw [jTo_all, joinS_size] at hm
    rcases Nat.eq_zero_or_pos k with rfl | h0
    · have h1 := jTo_one (by' := by') hk
      have hz : ({ data := #[] } : ByteArray) ++ ws[0] = ws[0] := by rw [ba_data ws[0]]; exact ba_app [] _
      have hs : ({ data := #[] } : ByteArray).size + ws[0].size ≤ 9223372036854775807 := by
        have e0 : ({ data := #[] } : ByteArray).size = 0 := rfl
        have hm' : (jTo ws by' 1).size ≤ _ := hm
        rw [h1] at hm'
        omega
      have hwk' : IntKind.i64.wrap 1 = 1 := by decide
      simp (config := {contextual := true}) [List.range, List.range.loop, ints, intss, int, bool, row, frac, fracs, ← List.map_take, ← List.map_drop, hk, hwk', h1, hz, hs, jTo_zero, str, strs]
      done
    · have h1 := jTo_succ (by' := by') h0 hk
      have hs : (jTo ws by' k).size + by'.size + ws[k].size ≤ 9223372036854775807 := by rw [← ByteArray.size_append, ← ByteArray.size_append, h1]; omega
      have hs1 : (jTo ws by' k).size + by'.size ≤ 9223372036854775807 := by omega
      have hk0 : (0 : Int) < k := by omega
      simp (config := {contextual := true}) [List.range, List.range.loop, ints, intss, int, bool, row, frac, fracs, ← List.map_take, ← List.map_drop, hk, hwk, h0, hk0, h1, hs, hs1, str, strs]
      done
  · intro _
    simp (config := {contextual := true}) [List.range, List.range.loop, ints, intss, int, bool, row, frac, fracs, ← List.map_take, ← List.map_drop, jTo_all]
    done

end Go.Proofs.YtlkgppincgpfjaaDoor.Ax
