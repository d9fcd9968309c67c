/-
  Contracts: the reference's FormatInt. No condition.
-/
import Derived.Test.YtblnpjppckfmfaaDoorCG70
namespace Go.Proofs.YtblnpjppckfmfaaDoor.Ax
open Go Go.RowKit
set_option linter.unusedSimpArgs false

theorem ba_app (l r : List UInt8) : (⟨l.toArray⟩ : ByteArray) ++ (⟨r.toArray⟩ : ByteArray) = ⟨(l ++ r).toArray⟩ := by
  apply ByteArray.ext; simp
theorem ba_size (l : List UInt8) : (⟨l.toArray⟩ : ByteArray).size = l.length := by
  simp [ByteArray.size]
theorem dec_lt {u : Nat} (h : u < 10) : Lib.decDigits u = [UInt8.ofNat (48 + u)] := by rw [Lib.decDigits, dif_pos h]
theorem dec_ge {u : Nat} (h : 10 ≤ u) : Lib.decDigits u = Lib.decDigits (u / 10) ++ [UInt8.ofNat (48 + u % 10)] := by rw [Lib.decDigits, dif_neg (by omega)]
theorem dec_len (u : Nat) : (Lib.decDigits u).length ≤ u + 1 := by
  induction u using Nat.strongRecOn with
  | _ u ih =>
    by_cases h : u < 10
    · rw [dec_lt h]; simp
    · rw [dec_ge (by omega), List.length_append]
      have := ih (u / 10) (by omega)
      simp; omega
theorem itoa_nat (m : Nat) : Lib.itoa (m : Int) = Lib.decDigits m := by simp [Lib.itoa]
theorem itoa_neg {m : Nat} (h : 0 < m) : Lib.itoa (-(m : Int)) = 45 :: Lib.decDigits m := by
  unfold Lib.itoa; rw [if_pos (by omega)]; simp
theorem tdiv_neg10 (m : Nat) : Int.tdiv (-(m : Int)) 10 = -((m / 10 : Nat) : Int) := by
  rw [Int.neg_tdiv]; rfl
theorem tmod_neg10 (m : Nat) : Int.tmod (-(m : Int)) 10 = -((m % 10 : Nat) : Int) := by
  rw [Int.neg_tmod]; rfl
theorem tdiv_nat10 (m : Nat) : Int.tdiv (m : Int) 10 = ((m / 10 : Nat) : Int) := rfl
theorem tmod_nat10 (m : Nat) : Int.tmod (m : Int) 10 = ((m % 10 : Nat) : Int) := rfl
theorem wrap8 {x : Int} (h : 0 ≤ x) (h2 : x ≤ 255) : IntKind.u8.wrap x = x := by
  simp [IntKind.wrap, IntKind.bits, IntKind.signed]; omega

noncomputable def mItoaK (k : Nat) : List AV → Option AV := mk (fun n => inI n ∧ n.natAbs < 10 ^ k ∧ 0 < k) (fun (n : Int) => [int n]) (fun n => .v (.string (itoaS n)))
theorem mItoaK_at (k : Nat) (n : Int) (h : inI n ∧ n.natAbs < 10 ^ k ∧ 0 < k) : mItoaK k [.v (.int .i64 n)] = some (.v (.string (itoaS n))) :=
  mk_eq (enc := fun (n : Int) => [int n]) (x := n) (by intro a b h; simp [int] at h; rw [h]) h

theorem specFI_zero : (FnOk Tryd.prog 35 (mItoaK 0)) := mk_ok fun n h => absurd h.2.2 (by omega)

theorem ba2 (x y : UInt8) : ({ data := #[x] } : ByteArray) ++ { data := #[y] } = ⟨#[x, y]⟩ := ba_app [x] [y]
theorem ba1 (x : UInt8) (l : List UInt8) : ({ data := #[x] } : ByteArray) ++ { data := l.toArray } = ⟨(x :: l).toArray⟩ := ba_app [x] l
theorem sz1 (x : UInt8) : ({ data := #[x] } : ByteArray).size = 1 := rfl
theorem itoaS_size {m : Nat} (h : m ≤ 9223372036854775808) : (itoaS (-(m : Int))).size ≤ 9223372036854775810 := by
  unfold itoaS
  rw [ba_size]
  rcases Nat.eq_zero_or_pos m with rfl | h0
  · simp [Lib.itoa, dec_lt]
  · rw [itoa_neg h0, List.length_cons]
    have := dec_len m
    omega

/-- What is left to print, and what has been printed. -/
abbrev FI (n : Nat) : Type := { p : Nat × List UInt8 // Lib.decDigits p.1 ++ p.2 = Lib.decDigits n ∧ p.1 + 2 * p.2.length ≤ n }

set_option maxHeartbeats 1000000 in
theorem specFI_succ {k : Nat} (ih : FnOk Tryd.prog 35 (mItoaK k)) : (FnOk Tryd.prog 35 (mItoaK (k + 1))) := by
  refine mk_ok fun n ⟨hn, hk, _⟩ => ?_
  have hG : FnsOk Tryd.prog [(35, mItoaK k)] := (.cons ih .nil)
  refine callOk_awp (ctx_ok eqOk hG) mixed (live := [true, false, true, true, false, true, false, false, true, false, false, false, false, false, false, false, false, false, false, false, false, false, false, false, false, false, true]) (dt := [(4, ⟨[(1, 7), (2, 7)], [0, 0, 0, 0, 0, 0, 0, 1], []⟩)]) Tryd.func35 rfl (by kernel_rfl) (by kernel_rfl) fun w0 hlens => ?_
  clear hlens
  have w0 : IntKind.i64.wrap 0 = 0 := by decide
  by_cases h0 : n < 0
  · obtain ⟨m, rfl⟩ : ∃ m : Nat, n = -(m : Int) := ⟨n.natAbs, by omega⟩
    have hm : 0 < m := by omega
    have hm2 : m ≤ 9223372036854775808 := by have := hn.1; omega
    have hz := itoa_neg hm
    have ed := tdiv_neg10 m
    have er := tmod_neg10 m
    by_cases h10 : m < 10
    · have e1 : m / 10 = 0 := by omega
      have w1 : IntKind.i64.wrap (48 + (m : Int)) = 48 + (m : Int) := wrapI (by omega) (by omega)
      have w2 : IntKind.u8.wrap (48 + (m : Int)) = 48 + (m : Int) := wrap8 (by omega) (by omega)
      have w3 : (48 + (m : Int)).toNat = 48 + m := by omega
      rw [e1] at ed
      have hmi : ¬ ((m : Int) = 0) := by omega
      have hs : itoaS (-(m : Int)) = ⟨#[45, UInt8.ofNat (48 + m)]⟩ := by unfold itoaS; rw [hz, dec_lt h10]
      simp (config := {contextual := true}) [Tryd.f35, List.range, List.range.loop, ints, intss, int, bool, row, frac, fracs, ← List.map_take, ← List.map_drop, h0, hm, ed, w0, w1, w2, w3, hmi, ba2, sz1, hs]
      done
    · have hs : itoaS (-(m : Int)) = itoaS (-((m / 10 : Nat) : Int)) ++ ⟨#[UInt8.ofNat (48 + m % 10)]⟩ := by
        have := ba_app (Lib.itoa (-((m / 10 : Nat) : Int))) [UInt8.ofNat (48 + m % 10)]
        unfold itoaS
        rw [hz, dec_ge (by omega)]
        refine Eq.trans ?_ this.symm
        rw [itoa_neg (by omega)]; simp
      have hq : 0 < m / 10 := by omega
      have hd : m % 10 < 10 := by omega
      have hsz := itoaS_size (m := m / 10) (by omega)
      have hk1 : 0 < k := by
        rcases Nat.eq_zero_or_pos k with rfl | h
        · simp at hk; omega
        · exact h
      have hkq : m / 10 < 10 ^ k := by
        have : m < 10 ^ (k + 1) := by omega
        rw [Nat.pow_succ] at this; omega
      have hc := mItoaK_at k (-((m / 10 : Nat) : Int)) ⟨⟨by omega, by omega⟩, by omega, hk1⟩
      have hq2 : m / 10 ≤ 922337203685477580 := by omega
      generalize m / 10 = q at *
      generalize m % 10 = d at *
      have wq : IntKind.i64.wrap (-(q : Int)) = -(q : Int) := wrapI (by omega) (by omega)
      have w1 : IntKind.i64.wrap (48 + (d : Int)) = 48 + (d : Int) := wrapI (by omega) (by omega)
      have w2 : IntKind.u8.wrap (48 + (d : Int)) = 48 + (d : Int) := wrap8 (by omega) (by omega)
      have w3 : (48 + (d : Int)).toNat = 48 + d := by omega
      have hq0 : ¬ (q = 0) := by omega
      have hsz2 : (itoaS (-(q : Int))).size ≤ 9223372036854775806 := by
        unfold itoaS
        rw [ba_size, itoa_neg hq, List.length_cons]
        have := dec_len q
        omega
      simp (config := {contextual := true}) [Tryd.f35, List.range, List.range.loop, ints, intss, int, bool, row, frac, fracs, ← List.map_take, ← List.map_drop, h0, hm, ed, er, w0, wq, w1, w2, w3, hq0, hc, sz1, hs, hsz2]
      done
  · obtain ⟨m, rfl⟩ : ∃ m : Nat, n = (m : Int) := ⟨n.toNat, by omega⟩
    have hm2 : m ≤ 9223372036854775807 := by have := hn.2; omega
    have hnn : ¬ ((m : Int) < 0) := by omega
    have hs : itoaS (m : Int) = ⟨(Lib.decDigits m).toArray⟩ := by unfold itoaS; rw [itoa_nat]
    simp (config := {contextual := true}) [Tryd.f35, List.range, List.range.loop, ints, intss, int, bool, row, frac, fracs, ← List.map_take, ← List.map_drop, hnn]
    refine awp_loop_of (live := [true, false, true, true, false, true, false, false, true, false, false, false, false, false, false, false, false, false, false, false, false, false, false, false, false, false, true]) (ctx_ok eqOk hG) mixed [true, false, false, true] (α := FI m) (fun p => ⟨[int (p.1.1 : Int), .junk, .junk, .v (.string ⟨p.1.2.toArray⟩), .junk, .junk, .junk, .junk, .junk, .junk, .junk, .junk, .junk, .junk, .junk, .junk, .junk, .junk, .junk, .junk, .junk, .junk, .junk, .junk, .junk, .junk, .junk, .junk, .junk, .junk, .junk, .junk, .junk, .junk, .junk, .junk, .junk, .junk, .junk, .junk, .junk, .junk, .junk, .junk], []⟩) (fun p => p.1.1) ⟨(m, []), by simp, by simp⟩ (by simp [sub, slotsLe, clean, keep, refsL, refs, once, place, renL, ren, List.replicate, int, bool, FI]) ?_
    rintro ⟨⟨u, l⟩, h1, h2⟩
    simp only at h1 h2
    by_cases h9 : u < 10
    · have e9 : ¬ (9 < u) := by omega
      have w1 : IntKind.i64.wrap (48 + (u : Int)) = 48 + (u : Int) := wrapI (by omega) (by omega)
      have w2 : IntKind.u8.wrap (48 + (u : Int)) = 48 + (u : Int) := wrap8 (by omega) (by omega)
      have w3 : (48 + (u : Int)).toNat = 48 + u := by omega
      have e9' : ¬ ((9 : Int) < u) := by omega
      have hsz := ba_size l
      have hl : 1 + l.length ≤ 9223372036854775807 := by omega
      rw [dec_lt h9, List.singleton_append] at h1
      rw [← h1] at hs
      simp (config := {contextual := true}) [List.range, List.range.loop, ints, intss, int, bool, row, frac, fracs, ← List.map_take, ← List.map_drop, e9, e9', w1, w2, w3, sz1, hsz, hl, hs, ba1]
      done
    · have e9 : (9 : Int) < u := by omega
      have ed := tdiv_nat10 u
      have er := tmod_nat10 u
      have hd : u % 10 < 10 := by omega
      have hq : u / 10 + 2 ≤ u := by omega
      have hq2 : u / 10 < u := by omega
      rw [dec_ge (by omega), List.append_assoc, List.singleton_append] at h1
      generalize u / 10 = q at *
      generalize u % 10 = d at *
      have wq : IntKind.i64.wrap (q : Int) = (q : Int) := wrapI (by omega) (by omega)
      have w1 : IntKind.i64.wrap (48 + (d : Int)) = 48 + (d : Int) := wrapI (by omega) (by omega)
      have w2 : IntKind.u8.wrap (48 + (d : Int)) = 48 + (d : Int) := wrap8 (by omega) (by omega)
      have w3 : (48 + (d : Int)).toNat = 48 + d := by omega
      have hsz := ba_size l
      have hl : 1 + l.length ≤ 9223372036854775807 := by omega
      simp (config := {contextual := true}) [List.range, List.range.loop, ints, intss, int, bool, row, frac, fracs, ← List.map_take, ← List.map_drop, e9, ed, er, wq, w1, w2, w3, sz1, hsz, hl, ba1]
      exact ⟨⟨(q, UInt8.ofNat (48 + d) :: l), h1, by simp; omega⟩, by simp [sub, slotsLe, clean, keep, refsL, refs, once, place, renL, ren, List.replicate, int, bool], by simp; omega⟩

theorem specFI_all : ∀ k, FnOk Tryd.prog 35 (mItoaK k)
  | 0 => specFI_zero
  | k + 1 => specFI_succ (specFI_all k)
theorem specFormatInt_ok : FnOk Tryd.prog 35 mItoa := by
  refine mk_ok fun n hn => ?_
  have h1 := hn.1
  have h2 := hn.2
  have h3 : (9223372036854775808 : Nat) < 10 ^ 19 := by decide
  exact specFI_all 19 _ _ (mItoaK_at 19 n ⟨hn, by omega, by omega⟩)

end Go.Proofs.YtblnpjppckfmfaaDoor.Ax
