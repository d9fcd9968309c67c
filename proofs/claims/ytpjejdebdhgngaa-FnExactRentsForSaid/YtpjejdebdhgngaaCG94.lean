/-
  Contracts: FractionOf behind a divisor above 0 (the reference), RentsFor (both programs). No condition.
-/
import Derived.Test.YtpjejdebdhgngaaCG93
import Derived.Test.YtpjejdebdhgngaaCG37
namespace Go.Proofs.Ytpjejdebdhgngaa.Ax
open Go Go.RowKit
set_option linter.unusedSimpArgs false

noncomputable def mFOf : List AV → Option AV := mk (fun p => -1000000000000000000 ≤ p.1 ∧ p.1 ≤ 1000000000000000000 ∧ 1 ≤ p.2 ∧ p.2 ≤ 1000000000000000000) (fun (p : (Int) × (Int)) => [int p.1, int p.2]) (fun p => .tup [.agg [.v (.int .i64 (mkF p.1 p.2).1.1), .v (.int .i64 (mkF p.1 p.2).1.2)], .v (.bool (mkF p.1 p.2).2)])
theorem mFOf_at (t : Int) (b : Int) (hpre : -1000000000000000000 ≤ t ∧ t ≤ 1000000000000000000 ∧ 1 ≤ b ∧ b ≤ 1000000000000000000) : mFOf [.v (.int .i64 t), .v (.int .i64 b)] = some (.tup [.agg [.v (.int .i64 (mkF t b).1.1), .v (.int .i64 (mkF t b).1.2)], .v (.bool (mkF t b).2)]) :=
  mk_eq (enc := fun (p : (Int) × (Int)) => [int p.1, int p.2]) (x := (t, b)) (by rintro ⟨a0, a1⟩ ⟨b0, b1⟩ h; simp [ints, intss, int, bool, row, frac, fracs, map_int_inj, map_row_inj, frac_inj, map_frac_inj] at h; simp [h]) hpre
set_option maxHeartbeats 1000000 in
theorem fractionOf_ok : FnOk Try.prog 46 mFOf := by
  refine mk_ok fun ⟨t, b⟩ ⟨h1, h2, h3, h4⟩ => ?_
  simp only at h1 h2 h3 h4
  obtain ⟨g1, g2⟩ := gcd_bd (x := t) (show b ≠ 0 by omega)
  have hg := mGcd_at 0 (max t (-t)) b (by omega) (by omega) (by omega) (by omega)
  rw [gcd_abs] at hg
  have wn : IntKind.i64.wrap (-t) = -t := wrapI (by omega) (by omega)
  have i1 : inR (-1000000000000000000) 1000000000000000000 t = true := by simp [inR]; omega
  have i2 : inR (-1000000000000000000) 1000000000000000000 b = true := by simp [inR]; omega
  have i3 : ¬ b = 0 := by omega
  have i4 : ¬ b < 0 := by omega
  have hG : FnsOk Try.prog [(43, mWithin), (99, (mGcd 0)), (66, mFracOk)] := (.cons l01In_ok (.cons l02Gcd_ok (.cons specFractionOk_ok .nil)))
  refine callOk_awp (ctx_ok eqOk hG) mixed (live := [true, true, false, false, true, true, true, true, false, false, false, false, false, false, false, false, false, false, false, true, false, false, true, false, false, false, false, false, false, false, false, false, false, false, false, false, false, false, false, false, false, false, true]) (dt := [(7, ⟨[], [0, 0, 0, 0, 0, 0, 0, 1], []⟩)]) Try.func46 rfl (by kernel_rfl) (by kernel_rfl) fun w0 hlens => ?_
  unfold mkF
  have w1 : IntKind.i64.wrap (t.tdiv (Int.gcd t b)) = t.tdiv (Int.gcd t b) := by have := tdiv_bd (x := t) (y := Int.gcd t b) (m := 4611686018427387904) (by omega) (by omega); exact wrapI (by omega) (by omega)
  have w2 : IntKind.i64.wrap (b.tdiv (Int.gcd t b)) = b.tdiv (Int.gcd t b) := by have := tdiv_bd (x := b) (y := Int.gcd t b) (m := 4611686018427387904) (by omega) (by omega); exact wrapI (by omega) (by omega)
  generalize (Int.gcd t b : Int) = g at *
  have hne' : ¬ g = 0 := by omega
  generalize hp1 : t.tdiv g = p at *
  generalize hq1 : b.tdiv g = q at *
  cases hf : fracOk (p, q) <;> simp (config := {contextual := true}) [Try.f46, List.range, List.range.loop, ints, intss, int, bool, row, frac, fracs, ← List.map_take, ← List.map_drop, mWithin_in, i1, i2, i3, i4, hg, wn, hne', hp1, hq1, w1, w2, mFracOk_at, hf]

theorem sumW_bd {xs : List Int} {m : Int} (hm : 0 ≤ m ∧ m ≤ 1000000) (hl : xs.length ≤ 1000) (h : ∀ x ∈ xs, 0 ≤ x ∧ x ≤ m) : ∀ k, k ≤ xs.length → 0 ≤ sumW (xs.take k) ∧ sumW (xs.take k) ≤ m * k
  | 0, _ => by simp [sumW]
  | k + 1, hk => by
    obtain ⟨h1, h2⟩ := sumW_bd hm hl h k (by omega)
    have h3 := h xs[k] (List.getElem_mem _)
    have h4 : m * (k : Int) ≤ 1000000 * 1000 := Int.mul_le_mul hm.2 (by omega) (by omega) (by omega)
    rw [sumW_succ (by omega), wrapI (by omega) (by omega)]
    push_cast
    rw [Int.mul_add]
    omega

/-- The raises; a room's rent. -/
def raiL (xss : List (Bool × List Int)) : List Int := (lrF (vR xss) (oR (bR xss).1) xss.length).getD []
theorem rai_facts {xss : List (Bool × List Int)} (h : rentB xss = true) : lrF (vR xss) (oR (bR xss).1) xss.length = some (raiL xss) ∧ (raiL xss).length = xss.length ∧ ∀ x ∈ raiL xss, 0 ≤ x ∧ x ≤ 4000 := by
  obtain ⟨r, h1, h2, h3⟩ := lrF_some (rent_ex h)
  have e : raiL xss = r := by unfold raiL; rw [h1]; rfl
  rw [e]
  refine ⟨h1, h2, fun x hx => ?_⟩
  obtain ⟨i, hi, rfl⟩ := List.getElem_of_mem hx
  have := h3 i (by omega)
  rw [at0_eq hi] at this
  exact this
def rntF (xss : List (Bool × List Int)) (total x : Int) : Int × Int := (mkF (x * xss.length + total - sumW (raiL xss)) xss.length).1
def rentFB (xss : List (Bool × List Int)) (total : Int) : Bool := rentB xss && inR 0 10000 total
def rntTo (xss : List (Bool × List Int)) (total : Int) (k : Nat) : List (Int × Int) := ((raiL xss).take k).map (rntF xss total)
def rentFL (xss : List (Bool × List Int)) (total : Int) : List (Int × Int) := if rentFB xss total = true then rntTo xss total xss.length else []
theorem rntTo_len {xss : List (Bool × List Int)} (h : rentB xss = true) {total : Int} {k : Nat} (hk : k ≤ xss.length) : (rntTo xss total k).length = k := by
  have := (rai_facts h).2.1
  simp [rntTo]; omega
theorem rntTo_succ {xss : List (Bool × List Int)} {total : Int} {k : Nat} (hk : k < (raiL xss).length) : (rntTo xss total k).map frac ++ [.agg [.v (.int .i64 (rntF xss total (raiL xss)[k]).1), .v (.int .i64 (rntF xss total (raiL xss)[k]).2)]] = (rntTo xss total (k + 1)).map frac := by
  unfold rntTo
  rw [List.take_succ_eq_append_getElem hk]
  simp only [List.map_append, List.map_cons, List.map_nil]
  rfl
theorem rentFL_len {xss : List (Bool × List Int)} {total : Int} : (rentFL xss total).length ≤ 4 := by
  unfold rentFL
  split
  · rename_i h
    simp only [rentFB, Bool.and_eq_true] at h
    rw [rntTo_len h.1 (Nat.le_refl _)]
    exact (rent_facts h.1).2.1
  · simp

noncomputable def mRentsF : List AV → Option AV := mk (fun _ => True) (fun (p : (Bool) × (List (Bool × List Int)) × (Int)) => [intss p.1 p.2.1, int p.2.2]) (fun p => .tup [.sl (!rentFB p.2.1 p.2.2) 2 ((rentFL p.2.1 p.2.2).map frac), .v (.bool (rentFB p.2.1 p.2.2))])
theorem mRentsF_at (nl : Bool) (xss : List (Bool × List Int)) (total : Int) : mRentsF [.sl nl 1 (xss.map row), .v (.int .i64 total)] = some (.tup [.sl (!rentFB xss total) 2 ((rentFL xss total).map frac), .v (.bool (rentFB xss total))]) :=
  mk_eq (enc := fun (p : (Bool) × (List (Bool × List Int)) × (Int)) => [intss p.1 p.2.1, int p.2.2]) (x := (nl, xss, total)) (by rintro ⟨a0, a1, a2⟩ ⟨b0, b1, b2⟩ h; simp [ints, intss, int, bool, row, frac, fracs, map_int_inj, map_row_inj, frac_inj, map_frac_inj] at h; simp [h]) trivial

def fnP : Nat → AV
  | 0 => .sl true 1 []
  | k + 1 => .ref 1 [] 0 (k + 1)
def fnQ (l l' : List AV) : Nat → List Tok
  | 0 => [⟨true, .sl false 1 l⟩]
  | _ + 1 => [⟨true, .sl false 1 l⟩, ⟨true, .sl false 2 l'⟩]
def fsQ (l l' : List AV) : List Tok := [⟨true, .sl false 1 l⟩, ⟨true, .sl false 2 l'⟩]

set_option maxRecDepth 8000 in
set_option maxHeartbeats 4000000 in
theorem implRentsF_ok : FnOk Try.prog 13 mRentsF := by
  refine mk_ok fun ⟨nl, xss, total⟩ _ => ?_
  have hG : FnsOk Try.prog [(49, mRent), (50, mWithin), (52, mBestRooms), (51, mLR), (54, mSum), (53, mRed)] := (.cons implRentOk_ok (.cons within_ok (.cons implBestRooms_ok (.cons implLeast_ok (.cons sumOf_ok (.cons reduced_ok .nil))))))
  cases h1 : rentFB xss total with
  | false =>
    simp only [rentFL, h1, Bool.not_false, Bool.false_eq_true, if_false, List.map_nil]
    refine callOk_nil1 (a := 1) ?_
    refine callOk_awp (ctx_ok eqOk hG) mixed (live := [true, true, false, false, true, true, true, true, true, true, false, true, true, false, false, false, false, false, false, false, false, true, false, false, false, false, false, false, false, false, true, false, false, true, true, true, true]) (dt := []) Try.func13 rfl (by kernel_rfl) (by kernel_rfl) fun w0 hlens => ?_
    cases h2 : rentB xss with
    | false => simp (config := {contextual := true}) [Try.f13, List.range, List.range.loop, ints, intss, int, bool, row, frac, fracs, ← List.map_take, ← List.map_drop, mRent_at, h2]
    | true =>
      have h3 : inR 0 10000 total = false := by simpa [rentFB, h2] using h1
      simp (config := {contextual := true}) [Try.f13, List.range, List.range.loop, ints, intss, int, bool, row, frac, fracs, ← List.map_take, ← List.map_drop, mRent_at, mWithin_in, h2, h3]
  | true =>
    have h1' := h1
    simp only [rentFB, Bool.and_eq_true] at h1'
    obtain ⟨h2, h3⟩ := h1'
    have ht : 0 ≤ total ∧ total ≤ 10000 := by simpa [inR] using h3
    obtain ⟨n1, n4, _⟩ := rent_facts h2
    obtain ⟨q1, q2, q3⟩ := rai_facts h2
    have hfl : rentFL xss total = rntTo xss total xss.length := by unfold rentFL; rw [if_pos h1]
    obtain ⟨⟨r, hr, hb⟩, _⟩ := bR_max h2
    have hrk : rankB xss.length (bR xss).1 = true := by rw [hb]; exact ((best_facts h2).2.2 r hr).2
    have hlr := mLR_at nl xss false (bR xss).1 ⟨h2, hrk⟩
    rw [q1] at hlr
    have hbr := mBestRooms_at nl xss
    rw [h2] at hbr
    simp only [Bool.not_true] at hbr
    have hsb := sumW_bd (m := 4000) (by omega) (by omega) q3 (raiL xss).length (Nat.le_refl _)
    rw [List.take_length] at hsb
    have hsm := mSum_at false (raiL xss)
    simp only [hfl, h1, Bool.not_true]
    refine callOk_awp (ctx_ok eqOk hG) mixed (live := [true, true, false, false, true, true, true, true, true, true, false, true, true, false, false, false, false, false, false, false, false, true, false, false, false, false, false, false, false, false, true, false, false, true, true, true, true]) (dt := []) Try.func13 rfl (by kernel_rfl) (by kernel_rfl) fun w0 hlens => ?_
    clear hlens
    simp (config := {contextual := true}) [Try.f13, List.range, List.range.loop, ints, intss, int, bool, row, frac, fracs, ← List.map_take, ← List.map_drop, mRent_at, mWithin_in, h2, h3, hbr, hlr, lrA]
    refine awp_range (live := [true, true, false, false, true, true, true, true, true, true, false, true, true, false, false, false, false, false, false, false, false, true, false, false, false, false, false, false, false, false, true, false, false, true, true, true, true]) (ctx_ok eqOk hG) mixed [false, true, false, false, false, false, true, false, true, true, false, false, false, false, false, false, false, false, false, false, false, false, false, false, false, false, false, false, false, false, false, false, false, true, true, true] (xss.length) (fun k => True) (fun k => ⟨[.junk, int total, .junk, .junk, .junk, .junk, .ref 0 [] 0 xss.length, .junk, int xss.length, fnP k, .junk, .junk, .junk, .junk, .junk, .junk, .junk, .junk, .junk, .junk, .junk, .junk, .junk, .junk, .junk, .junk, .junk, .junk, .junk, .junk, .junk, .junk, .junk, .ref 0 [] 0 xss.length, int xss.length, int k, .junk, .junk, .junk, .junk, .junk, .junk, .junk, .junk, .junk, .junk, .junk, .junk, .junk, .junk, .junk, .junk, .junk, .junk, .junk, .junk, .junk, .junk], fnQ ((raiL xss).map int) ((rntTo xss total k).map frac) k⟩) ?_ (by simp [sub, slotsLe, clean, keep, refsL, refs, once, place, renL, ren, List.replicate, int, bool, q2, fnP, fnQ, fsQ, rntTo]) ?_ ?_ ?_
    · omega
    · trivial
    · intro k hk _ hwk
      have hkl : k < (raiL xss).length := by omega
      have hx := q3 _ (List.getElem_mem hkl)
      have hsucc := rntTo_succ (total := total) hkl
      have hlen := rntTo_len h2 (total := total) (k := k) (by omega)
      have htk : (raiL xss).take xss.length = raiL xss := List.take_of_length_le (by omega)
      have hef : rntF xss total (raiL xss)[k] = (mkF ((raiL xss)[k] * xss.length + total - sumW (raiL xss)) xss.length).1 := rfl
      rw [hef] at hsucc
      have hm1 : 0 ≤ (raiL xss)[k] * (xss.length : Int) ∧ (raiL xss)[k] * (xss.length : Int) ≤ 4000 * 4 := ⟨Int.mul_nonneg hx.1 (by omega), Int.mul_le_mul hx.2 (by omega) (by omega) (by omega)⟩
      have hcm : (xss.length : Int) * (raiL xss)[k] = (raiL xss)[k] * (xss.length : Int) := Int.mul_comm _ _
      have hss : sumW (raiL xss) ≤ 16000 := by have := hsb.2; rw [q2] at this; omega
      generalize hz : sumW (raiL xss) = sm at *
      generalize hy : (raiL xss)[k] * (xss.length : Int) = y at *
      have w1 : IntKind.i64.wrap y = y := wrapI (by omega) (by omega)
      have w2 : IntKind.i64.wrap (y + total) = y + total := wrapI (by omega) (by omega)
      have w3 : IntKind.i64.wrap (y + total - sm) = y + total - sm := wrapI (by omega) (by omega)
      have w4 : IntKind.i64.wrap (total - sm) = total - sm := wrapI (by omega) (by omega)
      have w5 : IntKind.i64.wrap (total - sm + y) = y + total - sm := by rw [wrapI (by omega) (by omega)]; omega
      have hr1 := mRed_at (y + total - sm) xss.length ⟨by omega, by omega, by omega, by omega, by omega⟩
      have hre : redF (y + total - sm) xss.length = mkF (y + total - sm) xss.length := by unfold redF; rw [if_neg (by omega)]
      rw [hre] at hr1
      have hr2 := mFOf_at (y + total - sm) xss.length ⟨by omega, by omega, by omega, by omega⟩
      have hb8 : (k + 1) * 16 ≤ 140737488355328 ∧ k + 1 ≤ 4611686018427387904 := by omega
      have hne : xss ≠ [] := fun e => by rw [e] at n1; simp at n1
      have hkn : ¬ xss.length ≤ k := by omega
      cases k with
      | zero =>
        have hz0 : rntTo xss total 0 = [] := by simp [rntTo]
        simp [hz0] at hsucc hwk
        simp (config := {contextual := true}) [List.range, List.range.loop, ints, intss, int, bool, row, frac, fracs, ← List.map_take, ← List.map_drop, fnP, fnQ, fsQ, q2, htk, hkl, hsm, hz, hy, hcm, w1, w2, w3, w4, w5, hr1, hr2, hwk, hb8, hz0, ← hsucc, hne, hk]
        done
      | succ k =>
        simp at hwk
        simp (config := {contextual := true}) [List.range, List.range.loop, ints, intss, int, bool, row, frac, fracs, ← List.map_take, ← List.map_drop, fnP, fnQ, fsQ, q2, htk, hkl, hsm, hz, hy, hcm, w1, w2, w3, w4, w5, hr1, hr2, hwk, hb8, hlen, hsucc, hk, hkn]
        done
    · intro _
      have hlen := rntTo_len h2 (total := total) (k := xss.length) (Nat.le_refl _)
      obtain ⟨m, hm⟩ : ∃ m, xss.length = m + 1 := ⟨xss.length - 1, by omega⟩
      rw [hm] at hlen ⊢
      simp (config := {contextual := true}) [List.range, List.range.loop, ints, intss, int, bool, row, frac, fracs, ← List.map_take, ← List.map_drop, fnP, fnQ, fsQ, hlen]
      done

set_option maxRecDepth 8000 in
set_option maxHeartbeats 4000000 in
theorem specRentsF_ok : FnOk Try.prog 11 mRentsF := by
  refine mk_ok fun ⟨nl, xss, total⟩ _ => ?_
  have hG : FnsOk Try.prog [(42, mRent), (43, mWithin), (45, mBestRooms), (44, mLR), (47, mSum), (46, mFOf)] := (.cons specRentOk_ok (.cons l01In_ok (.cons specBestRooms_ok (.cons specLeast_ok (.cons l13Sum_ok (.cons fractionOf_ok .nil))))))
  cases h1 : rentFB xss total with
  | false =>
    simp only [rentFL, h1, Bool.not_false, Bool.false_eq_true, if_false, List.map_nil]
    refine callOk_nil1 (a := 1) ?_
    refine callOk_awp (ctx_ok eqOk hG) mixed (live := [true, true, false, false, true, true, true, false, true, true, false, true, true, false, false, false, false, false, false, false, false, true, false, false, false, false, false, false, false, false, false, false, true, true, true, true]) (dt := []) Try.func11 rfl (by kernel_rfl) (by kernel_rfl) fun w0 hlens => ?_
    cases h2 : rentB xss with
    | false => simp (config := {contextual := true}) [Try.f11, List.range, List.range.loop, ints, intss, int, bool, row, frac, fracs, ← List.map_take, ← List.map_drop, mRent_at, h2]
    | true =>
      have h3 : inR 0 10000 total = false := by simpa [rentFB, h2] using h1
      simp (config := {contextual := true}) [Try.f11, List.range, List.range.loop, ints, intss, int, bool, row, frac, fracs, ← List.map_take, ← List.map_drop, mRent_at, mWithin_in, h2, h3]
  | true =>
    have h1' := h1
    simp only [rentFB, Bool.and_eq_true] at h1'
    obtain ⟨h2, h3⟩ := h1'
    have ht : 0 ≤ total ∧ total ≤ 10000 := by simpa [inR] using h3
    obtain ⟨n1, n4, _⟩ := rent_facts h2
    obtain ⟨q1, q2, q3⟩ := rai_facts h2
    have hfl : rentFL xss total = rntTo xss total xss.length := by unfold rentFL; rw [if_pos h1]
    obtain ⟨⟨r, hr, hb⟩, _⟩ := bR_max h2
    have hrk : rankB xss.length (bR xss).1 = true := by rw [hb]; exact ((best_facts h2).2.2 r hr).2
    have hlr := mLR_at nl xss false (bR xss).1 ⟨h2, hrk⟩
    rw [q1] at hlr
    have hbr := mBestRooms_at nl xss
    rw [h2] at hbr
    simp only [Bool.not_true] at hbr
    have hsb := sumW_bd (m := 4000) (by omega) (by omega) q3 (raiL xss).length (Nat.le_refl _)
    rw [List.take_length] at hsb
    have hsm := mSum_at false (raiL xss)
    simp only [hfl, h1, Bool.not_true]
    refine callOk_awp (ctx_ok eqOk hG) mixed (live := [true, true, false, false, true, true, true, false, true, true, false, true, true, false, false, false, false, false, false, false, false, true, false, false, false, false, false, false, false, false, false, false, true, true, true, true]) (dt := []) Try.func11 rfl (by kernel_rfl) (by kernel_rfl) fun w0 hlens => ?_
    clear hlens
    simp (config := {contextual := true}) [Try.f11, List.range, List.range.loop, ints, intss, int, bool, row, frac, fracs, ← List.map_take, ← List.map_drop, mRent_at, mWithin_in, h2, h3, hbr, hlr, lrA]
    refine awp_range (live := [true, true, false, false, true, true, true, false, true, true, false, true, true, false, false, false, false, false, false, false, false, true, false, false, false, false, false, false, false, false, false, false, true, true, true, true]) (ctx_ok eqOk hG) mixed [false, true, false, false, false, false, true, false, true, true, false, false, false, false, false, false, false, false, false, false, false, false, false, false, false, false, false, false, false, false, false, false, true, true, true] (xss.length) (fun k => True) (fun k => ⟨[.junk, int total, .junk, .junk, .junk, .junk, .ref 0 [] 0 xss.length, .junk, int xss.length, .ref 1 [] 0 k, .junk, .junk, .junk, .junk, .junk, .junk, .junk, .junk, .junk, .junk, .junk, .junk, .junk, .junk, .junk, .junk, .junk, .junk, .junk, .junk, .junk, .junk, .ref 0 [] 0 xss.length, int xss.length, int k, .junk, .junk, .junk, .junk, .junk, .junk, .junk, .junk, .junk, .junk, .junk, .junk, .junk, .junk, .junk, .junk, .junk, .junk, .junk, .junk, .junk, .junk], fsQ ((raiL xss).map int) ((rntTo xss total k).map frac)⟩) ?_ (by simp [sub, slotsLe, clean, keep, refsL, refs, once, place, renL, ren, List.replicate, int, bool, q2, fnP, fnQ, fsQ, rntTo]) ?_ ?_ ?_
    · omega
    · trivial
    · intro k hk _ hwk
      have hkl : k < (raiL xss).length := by omega
      have hx := q3 _ (List.getElem_mem hkl)
      have hsucc := rntTo_succ (total := total) hkl
      have hlen := rntTo_len h2 (total := total) (k := k) (by omega)
      have htk : (raiL xss).take xss.length = raiL xss := List.take_of_length_le (by omega)
      have hef : rntF xss total (raiL xss)[k] = (mkF ((raiL xss)[k] * xss.length + total - sumW (raiL xss)) xss.length).1 := rfl
      rw [hef] at hsucc
      have hm1 : 0 ≤ (raiL xss)[k] * (xss.length : Int) ∧ (raiL xss)[k] * (xss.length : Int) ≤ 4000 * 4 := ⟨Int.mul_nonneg hx.1 (by omega), Int.mul_le_mul hx.2 (by omega) (by omega) (by omega)⟩
      have hcm : (xss.length : Int) * (raiL xss)[k] = (raiL xss)[k] * (xss.length : Int) := Int.mul_comm _ _
      have hss : sumW (raiL xss) ≤ 16000 := by have := hsb.2; rw [q2] at this; omega
      generalize hz : sumW (raiL xss) = sm at *
      generalize hy : (raiL xss)[k] * (xss.length : Int) = y at *
      have w1 : IntKind.i64.wrap y = y := wrapI (by omega) (by omega)
      have w2 : IntKind.i64.wrap (y + total) = y + total := wrapI (by omega) (by omega)
      have w3 : IntKind.i64.wrap (y + total - sm) = y + total - sm := wrapI (by omega) (by omega)
      have w4 : IntKind.i64.wrap (total - sm) = total - sm := wrapI (by omega) (by omega)
      have w5 : IntKind.i64.wrap (total - sm + y) = y + total - sm := by rw [wrapI (by omega) (by omega)]; omega
      have hr1 := mRed_at (y + total - sm) xss.length ⟨by omega, by omega, by omega, by omega, by omega⟩
      have hre : redF (y + total - sm) xss.length = mkF (y + total - sm) xss.length := by unfold redF; rw [if_neg (by omega)]
      rw [hre] at hr1
      have hr2 := mFOf_at (y + total - sm) xss.length ⟨by omega, by omega, by omega, by omega⟩
      have hb8 : (k + 1) * 16 ≤ 140737488355328 ∧ k + 1 ≤ 4611686018427387904 := by omega
      have hne : xss ≠ [] := fun e => by rw [e] at n1; simp at n1
      have hkn : ¬ xss.length ≤ k := by omega
      cases k with
      | zero =>
        have hz0 : rntTo xss total 0 = [] := by simp [rntTo]
        simp [hz0] at hsucc hwk
        simp (config := {contextual := true}) [List.range, List.range.loop, ints, intss, int, bool, row, frac, fracs, ← List.map_take, ← List.map_drop, fnP, fnQ, fsQ, q2, htk, hkl, hsm, hz, hy, hcm, w1, w2, w3, w4, w5, hr1, hr2, hwk, hb8, hz0, ← hsucc, hne, hk]
        done
      | succ k =>
        simp at hwk
        simp (config := {contextual := true}) [List.range, List.range.loop, ints, intss, int, bool, row, frac, fracs, ← List.map_take, ← List.map_drop, fnP, fnQ, fsQ, q2, htk, hkl, hsm, hz, hy, hcm, w1, w2, w3, w4, w5, hr1, hr2, hwk, hb8, hlen, hsucc, hk, hkn]
        done
    · intro _
      have hlen := rntTo_len h2 (total := total) (k := xss.length) (Nat.le_refl _)
      obtain ⟨m, hm⟩ : ∃ m, xss.length = m + 1 := ⟨xss.length - 1, by omega⟩
      rw [hm] at hlen ⊢
      simp (config := {contextual := true}) [List.range, List.range.loop, ints, intss, int, bool, row, frac, fracs, ← List.map_take, ← List.map_drop, fnP, fnQ, fsQ, hlen]
      done

end Go.Proofs.Ytpjejdebdhgngaa.Ax
