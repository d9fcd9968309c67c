/-
  The heirs' law: the walk. No condition.
-/
import Derived.Test.YtakladjlnkojjaaCG9
namespace Go.Proofs.Ytakladjlnkojjaa.Ax
open Go Go.RowKit
set_option linter.unusedSimpArgs false

set_option maxRecDepth 16000 in
set_option maxHeartbeats 8000000 in
theorem fnHeirs_call {nl : Bool} {by' : List Int} : CallOk Try.prog 4 [byts nl by'] (.v (.bool true)) := by
  have hG : FnsOk Try.prog [(19, mMkPts), (20, mAdj), (21, mHeir), (22, mFirst), (23, mPoints), (24, mShares), (25, mEqualH), (26, mSplit), (27, mBestH), (28, mTOi)] := (.cons makePts_ok (.cons implAdj_ok (.cons implHeir_ok (.cons implFirst_ok (.cons implPointsOk_ok (.cons implSharesOk_ok (.cons implEqualH_ok (.cons implSplit_ok (.cons implBestH_ok (.cons implTransfer_ok .nil))))))))))
  refine callOk_awp (ctx_ok eqOk hG) mixed (live := [true, false, true, true, true, true, true, true, true, true, true, true, true, true, true, true, true, false, false, true, false, false, false, false, false, false, false, false, false, false, false, false, false, false, false, false, false, false, false, false, false, false, false, false, false, false, false, false, false, false, false, false, false, false, false, false, false, false, false, false, false, false, false, false, false, false, false, false, false, false, false, false, false, false, false, false, false, false, false, false, false, false, false, false, false, false, false, false, false, false, false, false, false, false, false, false, false, false, false, false, false, false, false, false, false, false, false, false, false, false, false, false, false, false, false, false, false, false, false, false, false, false, false, false, true, false, false, true, true, true, true, false, false, false, false, false, false, false, false, false, false, false, false, false, false, false, false, false, false, false, false, false, false, false, false, false, false, false, false, false, false, false, false, false, false, false, false, false, false, false, false, false, false, false, false, false, false, false, false, false, false, false, false, false, false, false, false, false, false, false, true]) (dt := [(16, ⟨[], [], []⟩), (19, ⟨[], [], []⟩)]) Try.func4 rfl (by kernel_rfl) (by kernel_rfl) fun w0 hlens => ?_
  by_cases hlen : by'.length ≤ 1048576
  · have m0 := mMkPts_at nl by' hlen
    have c1 : ¬ (1048576 : Int) < by'.length := by omega
    have c2 : ¬ 1048576 < by'.length := by omega
    have hpt := mkPts_ok by'
    obtain ⟨r0, r1, e0⟩ : ∃ r0 r1, mkPts by' = [(false, r0), (false, r1)] := ⟨_, _, rfl⟩
    rw [e0] at m0 hpt
    obtain ⟨R, F, O, p, q, x, y, H⟩ := heirs_facts hpt
    clear hlens
    have hlr := H.lr
    have hlf := H.lf
    have hl1 := H.l1
    have hn1 := H.n1
    have hn6 := H.n6
    have hq := H.q0
    have hp0 := H.p0
    have hhalf := H.half
    have hR1 : R.length ≤ 1000 := by omega
    have hF1 : F.length ≤ 1000 := by omega
    have w1 : IntKind.i64.wrap (50 * q) = 50 * q := wrapI (by omega) (by omega)
    have w2 : ¬ p < 50 * q := by omega
    have w3 : ¬ 1 < R.countP isSpl := by have := H.spa; omega
    have w4 : ¬ (1 : Int) < (R.countP isSpl : Nat) := by have := H.spa; omega
    have w5 : R.countP isSpl ≤ 1 := H.spa
    have w6 : (R.countP isSpl : Int) ≤ 1 := by omega
    have m1 : mAdj [.sl false 1 [.sl false 1 (r0.map int), .sl false 1 (r1.map int)]] = some (.sl false 2 (R.map frac)) := by
      have := mAdj_at false [(false, r0), (false, r1)]
      rw [H.pts, H.ea] at this; exact this
    have m2 : mHeir [.sl false 1 [.sl false 1 (r0.map int), .sl false 1 (r1.map int)], .sl false 2 (R.map frac), .v (.int .i64 0)] = some (.tup [.agg [.v (.int .i64 p), .v (.int .i64 q)], .v (.bool true)]) := by
      have := mHeir_at false [(false, r0), (false, r1)] false R 0
      rw [H.a0] at this; exact this
    have m3 : mHeir [.sl false 1 [.sl false 1 (r0.map int), .sl false 1 (r1.map int)], .sl false 2 (R.map frac), .v (.int .i64 1)] = some (.tup [.agg [.v (.int .i64 p), .v (.int .i64 q)], .v (.bool true)]) := by
      have := mHeir_at false [(false, r0), (false, r1)] false R 1
      rw [H.a1] at this; exact this
    have m4 : mFirst [.sl false 1 [.sl false 1 (r0.map int), .sl false 1 (r1.map int)]] = some (.sl false 2 (F.map frac)) := by
      have := mFirst_at false [(false, r0), (false, r1)]
      rw [H.pts, H.ef] at this; exact this
    have m5 : mHeir [.sl false 1 [.sl false 1 (r0.map int), .sl false 1 (r1.map int)], .sl false 2 (F.map frac), .v (.int .i64 0)] = some (.tup [.agg [.v (.int .i64 x), .v (.int .i64 1)], .v (.bool true)]) := by
      have := mHeir_at false [(false, r0), (false, r1)] false F 0
      rw [H.f0] at this; exact this
    have m6 : mHeir [.sl false 1 [.sl false 1 (r0.map int), .sl false 1 (r1.map int)], .sl false 2 (F.map frac), .v (.int .i64 1)] = some (.tup [.agg [.v (.int .i64 y), .v (.int .i64 1)], .v (.bool true)]) := by
      have := mHeir_at false [(false, r0), (false, r1)] false F 1
      rw [H.f1] at this; exact this
    have m7 : mPoints [.sl false 1 [.sl false 1 (r0.map int), .sl false 1 (r1.map int)]] = some (.v (.bool true)) := by
      have := mPoints_at false [(false, r0), (false, r1)]
      rw [H.pts] at this; exact this
    have m8 : mShares [.sl false 1 [.sl false 1 (r0.map int), .sl false 1 (r1.map int)], .sl false 2 (R.map frac)] = some (.v (.bool true)) := by
      have := mShares_at false [(false, r0), (false, r1)] false R
      rw [H.sh] at this; exact this
    have m9 : mEqualH [.sl false 1 [.sl false 1 (r0.map int), .sl false 1 (r1.map int)], .sl false 2 (R.map frac)] = some (.v (.bool true)) := by
      have := mEqualH_at false [(false, r0), (false, r1)] false R
      rw [H.eq] at this; exact this
    have m10 := mSplit_at false R hR1
    have m11 := mSplit_at false F hF1
    rw [H.spf] at m11
    have m12 : mBestH [.sl false 1 [.sl false 1 (r0.map int), .sl false 1 (r1.map int)], .sl false 2 (R.map frac)] = some (.v (.bool true)) := by
      have := mBestH_at false [(false, r0), (false, r1)] false R
      rw [H.ba] at this; exact this
    have m13 : mBestH [.sl false 1 [.sl false 1 (r0.map int), .sl false 1 (r1.map int)], .sl false 2 (F.map frac)] = some (.v (.bool true)) := by
      have := mBestH_at false [(false, r0), (false, r1)] false F
      rw [H.bf] at this; exact this
    have m14 : mTOi [.sl false 1 [.sl false 1 (r0.map int), .sl false 1 (r1.map int)], .v (.int .i64 0)] = some (.sl O.isEmpty 1 (O.map int)) := by
      have := mTOi_at false [(false, r0), (false, r1)] 0
      rw [H.eo] at this; exact this
    have tR : R.take r0.length = R := List.take_of_length_le (by omega)
    have tF : F.take r0.length = F := List.take_of_length_le (by omega)
    simp (config := {maxSteps := 1000000}) [Try.f4, List.range, List.range.loop, ints, intss, int, bool, row, frac, fracs, ← List.map_take, ← List.map_drop, byts, row, c1, c2, m0, m1, m2, m3, m4, m5, m6, m7, m8, m9, m10, m11, m12, m13, m14, hlr, hlf, tR, tF, w1, w2, w3, w4, w5, w6]
    refine awp_range (live := [true, false, true, true, true, true, true, true, true, true, true, true, true, true, true, true, true, false, false, true, false, false, false, false, false, false, false, false, false, false, false, false, false, false, false, false, false, false, false, false, false, false, false, false, false, false, false, false, false, false, false, false, false, false, false, false, false, false, false, false, false, false, false, false, false, false, false, false, false, false, false, false, false, false, false, false, false, false, false, false, false, false, false, false, false, false, false, false, false, false, false, false, false, false, false, false, false, false, false, false, false, false, false, false, false, false, false, false, false, false, false, false, false, false, false, false, false, false, false, false, false, false, false, false, true, false, false, true, true, true, true, false, false, false, false, false, false, false, false, false, false, false, false, false, false, false, false, false, false, false, false, false, false, false, false, false, false, false, false, false, false, false, false, false, false, false, false, false, false, false, false, false, false, false, false, false, false, false, false, false, false, false, false, false, false, false, false, false, false, false, true]) (ctx_ok eqOk hG) mixed [false, false, false, true, false, true, false, false, false, true, true, false, true, false, true, false, false, false, false, false, false, false, false, false, false, false, false, false, false, false, false, false, false, false, false, false, false, false, false, false, false, false, false, false, false, false, false, false, false, false, false, false, false, false, false, false, false, false, false, false, false, false, false, false, false, false, false, false, false, false, false, false, false, false, false, false, false, false, false, false, false, false, false, false, false, false, false, false, false, false, false, false, false, false, false, false, false, false, false, false, false, false, false, false, false, false, false, false, false, false, false, false, false, false, false, false, false, false, false, false, false, false, false, false, false, false, false, true, true, true] (O.length) (fun k => True) (fun k => ⟨[.junk, .junk, .junk, .ref 0 [] 0 2, .junk, .ptr 1 [] 0 0, .junk, .junk, .junk, .ref 2 [] 0 r0.length, .ptr 3 [] 0 0, .junk, .ptr 4 [] 0 0, .junk, .ref 5 [] 0 O.length, .junk, .junk, .junk, .junk, .junk, .junk, .junk, .junk, .junk, .junk, .junk, .junk, .junk, .junk, .junk, .junk, .junk, .junk, .junk, .junk, .junk, .junk, .junk, .junk, .junk, .junk, .junk, .junk, .junk, .junk, .junk, .junk, .junk, .junk, .junk, .junk, .junk, .junk, .junk, .junk, .junk, .junk, .junk, .junk, .junk, .junk, .junk, .junk, .junk, .junk, .junk, .junk, .junk, .junk, .junk, .junk, .junk, .junk, .junk, .junk, .junk, .junk, .junk, .junk, .junk, .junk, .junk, .junk, .junk, .junk, .junk, .junk, .junk, .junk, .junk, .junk, .junk, .junk, .junk, .junk, .junk, .junk, .junk, .junk, .junk, .junk, .junk, .junk, .junk, .junk, .junk, .junk, .junk, .junk, .junk, .junk, .junk, .junk, .junk, .junk, .junk, .junk, .junk, .junk, .junk, .junk, .junk, .junk, .junk, .junk, .junk, .junk, .ref 5 [] 0 O.length, int O.length, int k, .junk, .junk, .junk, .junk, .junk, .junk, .junk, .junk, .junk, .junk, .junk, .junk, .junk, .junk, .junk, .junk, .junk, .junk, .junk, .junk, .junk, .junk, .junk, .junk, .junk, .junk, .junk, .junk, .junk, .junk, .junk, .junk, .junk, .junk, .junk, .junk, .junk, .junk, .junk, .junk, .junk, .junk, .junk, .junk, .junk, .junk, .junk, .junk, .junk, .junk, .junk, .junk, .junk, .junk, .junk, .junk, .junk, .junk, .junk, .junk, .junk, .junk, .junk, .junk, .junk, .junk, .junk, .junk, .junk, .junk, .junk, .junk, .junk, .junk], [⟨true, .sl false 1 [row (false, r0), row (false, r1)]⟩, ⟨true, .sl false 2 [frac (p, q)]⟩, ⟨true, .sl false 2 (F.map frac)⟩, ⟨true, .sl false 2 [frac (x, 1)]⟩, ⟨true, .sl false 2 [frac (y, 1)]⟩, ⟨true, .sl O.isEmpty 1 (O.map int)⟩]⟩) ?_ (by simp [sub, slotsLe, clean, keep, refsL, refs, once, place, renL, ren, List.replicate, int, bool, row, frac, hlf]) ?_ ?_ ?_
    · have := H.on; omega
    · trivial
    · intro k hk _ hwk
      have hon := H.on
      obtain ⟨i, ho, hi, hFi, hprev⟩ := H.or' k hk
      have ho' : O[k]? = some (i : Int) := by rw [List.getElem?_eq_getElem hk, ho]
      have hiF : i < F.length := by omega
      have hFg : F[i] = (1, 1) := by rw [List.getD_eq_getElem?_getD, List.getElem?_eq_getElem hiF] at hFi; exact hFi
      have i1 : ¬ (r0.length : Int) ≤ (i : Int) := by omega
      have i2 : ¬ r0.length ≤ i := by omega
      cases k with
      | zero =>
        simp (config := {maxSteps := 1000000}) [List.range, List.range.loop, ints, intss, int, bool, row, frac, fracs, ← List.map_take, ← List.map_drop, row, hk, hwk, ho, ho', hi, hiF, hFg, hlf, i1, i2]
        exact wrapI (by omega) (by omega)
      | succ m =>
        have hm : m < O.length := by omega
        obtain ⟨j, hj, hjl, _, _⟩ := H.or' m hm
        have hj' : O[m]? = some (j : Int) := by rw [List.getElem?_eq_getElem hm, hj]
        have hle := hprev j (by omega) hj
        have hwm : IntKind.i64.wrap (m : Int) = m := wrapI (by omega) (by omega)
        have hm0 : (0 : Int) < (m : Int) + 1 := by omega
        have b0i := H.b0 i hi
        have b0j := H.b0 j hjl
        have b1i := H.b1 i hi
        have b1j := H.b1 j hjl
        have g1 := at0_get (xs := r0) hi
        have g2 := at0_get (xs := r0) hjl
        have g3 := at0_get (xs := r1) (i := i) (by omega)
        have g4 := at0_get (xs := r1) (i := j) (by omega)
        have q1 := at0_eq (xs := r0) hi
        have q2 := at0_eq (xs := r0) hjl
        have q3 := at0_eq (xs := r1) (i := i) (by omega)
        have q4 := at0_eq (xs := r1) (i := j) (by omega)
        have hi1 : i < r1.length := by omega
        have hj1 : j < r1.length := by omega
        have p1 := Int.mul_nonneg b0j.1 b1i.1
        have p2 := Int.le_trans (Int.mul_le_mul_of_nonneg_right b0j.2 b1i.1) (Int.mul_le_mul_of_nonneg_left b1i.2 (show (0 : Int) ≤ 100 by omega))
        have p3 := Int.mul_nonneg b0i.1 b1j.1
        have p4 := Int.le_trans (Int.mul_le_mul_of_nonneg_right b0i.2 b1j.1) (Int.mul_le_mul_of_nonneg_left b1j.2 (show (0 : Int) ≤ 100 by omega))
        have x1 : IntKind.i64.wrap (at0 r0 j * at0 r1 i) = at0 r0 j * at0 r1 i := wrapI (by omega) (by omega)
        have x2 : IntKind.i64.wrap (at0 r0 i * at0 r1 j) = at0 r0 i * at0 r1 j := wrapI (by omega) (by omega)
        have x3 : ¬ at0 r0 i * at0 r1 j < at0 r0 j * at0 r1 i := by omega
        simp (config := {maxSteps := 1000000}) [List.range, List.range.loop, ints, intss, int, bool, row, frac, fracs, ← List.map_take, ← List.map_drop, row, hk, hm, hwk, ho, ho', hj, hj', hi, hjl, hi1, hj1, hiF, hFg, hlf, i1, i2, hwm, hm0, g1, g2, g3, g4, ← q1, ← q2, ← q3, ← q4, x1, x2, x3]
        simpa using hwk
    · intro _
      have hq0 : ¬ q = 0 := by omega
      have hx := H.x0
      have hy := H.y0
      have hmost := H.most
      have t1 := Int.tdiv_nonneg hp0.1 (show 0 ≤ q by omega)
      have t2 : p.tdiv q ≤ p := Int.tdiv_le_self q hp0.1
      have x1 : IntKind.i64.wrap (x + y) = x + y := wrapI (by omega) (by omega)
      have x2 : IntKind.i64.wrap (p.tdiv q) = p.tdiv q := wrapI (by omega) (by omega)
      have x3 : IntKind.i64.wrap (p.tdiv q * 2) = p.tdiv q * 2 := wrapI (by omega) (by omega)
      simp (config := {maxSteps := 1000000}) [List.range, List.range.loop, ints, intss, int, bool, row, frac, fracs, ← List.map_take, ← List.map_drop, row, hq0, x1, x2, x3, hmost]
  · have c1 : (1048576 : Int) < by'.length := by omega
    have c2 : 1048576 < by'.length := by omega
    simp [Try.f4, List.range, List.range.loop, ints, intss, int, bool, row, frac, fracs, ← List.map_take, ← List.map_drop, byts, c1, c2]

end Go.Proofs.Ytakladjlnkojjaa.Ax
