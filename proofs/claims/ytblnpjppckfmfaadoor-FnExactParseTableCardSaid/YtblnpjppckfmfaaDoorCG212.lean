/-
  Contracts: ParseInt (the reference's). No condition.
-/
import Derived.Test.YtblnpjppckfmfaaDoorCG211
namespace Go.Proofs.YtblnpjppckfmfaaDoor.Ax
open Go Go.RowKit
set_option linter.unusedSimpArgs false

noncomputable def mPI : List AV → Option AV := mk (fun s => s.size ≤ 281474976710656) (fun (s : ByteArray) => [str s]) (fun s => .tup [.v (.int .i64 (pI s).1), .v (.bool (pI s).2)])
theorem mPI_at (s : ByteArray) (h : s.size ≤ 281474976710656) : mPI [.v (.string s)] = some (.tup [.v (.int .i64 (pI s).1), .v (.bool (pI s).2)]) :=
  mk_eq (enc := fun (s : ByteArray) => [str s]) (x := s) (fun a b h => by rw [str_inj h]) h

theorem pI_why {s : ByteArray} (h : ∀ n, inI n → NumF n → itoaS n = s → False) : pI s = (0, false) := pI_no fun n h1 h2 => h n h1 (numF h1) h2

/-- The sum so far and its next. -/
theorem pstep {v d : Nat} (hd : d ≤ 9) : ((-(v : Int)) < Int.tdiv (-9223372036854775808 + d) 10) ↔ 9223372036854775808 < 10 * v + d := by
  have e : (-9223372036854775808 + (d : Int)) = -((9223372036854775808 - d : Nat) : Int) := by omega
  rw [e, tdiv_neg10]
  omega

theorem tl_ne {a b : ByteArray} (h : ¬ a = b) : ¬ a.toList = b.toList := fun e => h (bl_inj (by rw [ByteArray.toList_eq, ByteArray.toList_eq] at e; exact e))

set_option maxHeartbeats 2000000 in
theorem specPI_ok : FnOk Tryd.prog 21 mPI := by
  refine mk_ok fun s hs => ?_
  have hG : FnsOk Tryd.prog [(34, mDig), (35, mItoa)] := (.cons specDig_ok (.cons specFormatInt_ok .nil))
  refine callOk_awp (ctx_ok eqOk hG) mixed (live := [true, false, true, true, true, true, true, true, true, false, false, false, false, false, false, false, false, false, true, false, false, false, false, false, false, false, false, false, true, false, false, false, true, false, false, false, false, false, false, false, false, false, false, false, true, false, false, false, false, false, true, false, true, false, false, false, false, false, true]) (dt := []) Tryd.func21 rfl (by kernel_rfl) (by kernel_rfl) fun w0 hlens => ?_
  clear hlens
  have ht : (tlS s).size ≤ s.size := by
    have := tlS_bl s
    rw [← bl_size, this]
    split
    · rw [List.length_drop, bl_size]; omega
    · rw [bl_size]; omega
  have hd := mDig_at (tlS s) (by omega)
  have hdg : digS (tlS s) = false → pI s = (0, false) := fun g => pI_why fun n _ F e => by subst e; rw [F.dig] at g; cases g
  have h19 : 19 < (tlS s).size → pI s = (0, false) := fun g => pI_why fun n _ F e => by subst e; have := F.len; omega
  have hbig : ∀ k, k ≤ (tlS s).size → 9223372036854775808 < dv (tlS s) k → pI s = (0, false) := fun k hk g => pI_why fun n hn F e => by
    subst e
    have := dv_mono hk (Nat.le_refl _)
    have := F.val
    have := hn.1
    have := hn.2
    omega
  have hby := fun k hk hdig => dig_by (t := tlS s) hdig (k := k) hk
  rcases Nat.eq_zero_or_pos s.size with h0 | h0
  · have hn : negS s = false := by simp [negS, h0]
    have e : tlS s = s := by simp [tlS, hn]
    have hdf : digS s = false := by simp [digS, h0]
    rw [e] at hd hdg
    have hr := hdg hdf
    simp [hdf] at hd
    simp [Tryd.f21, List.range, List.range.loop, ints, intss, int, bool, row, frac, fracs, ← List.map_take, ← List.map_drop, str, h0, hd, hr]
  obtain ⟨e1, e2⟩ := by1_at h0
  by_cases h45 : s[0].toNat = 45
  · have hn : negS s = true := by simp [negS, h0, e2, h45]
    have hfin : ∀ v, v = dv (tlS s) (tlS s).size → v ≤ 9223372036854775808 → (inI (-(v : Int)) → itoaS (-(v : Int)) = s → pI s = (-(v : Int), true)) ∧ (¬ (inI (-(v : Int)) ∧ itoaS (-(v : Int)) = s) → pI s = (0, false)) := fun v hv hv2 => by
      refine ⟨fun h1 h2 => by rw [← h2]; exact pI_of h1, fun h => pI_why fun n hi F e => ?_⟩
      subst e
      have f1 := F.neg
      have f2 := F.val
      rw [hn] at f1
      simp at f1
      obtain rfl : n = -(v : Int) := by omega
      exact h ⟨hi, rfl⟩
    have he : s.extract 1 s.size = tlS s := by simp [tlS, hn]
    have h0i : (0 : Int) < (s.size : Int) := by omega
    have h01 : 1 ≤ s.size := h0
    have hbe : ((s[0].toNat : Int) == 45) = true := by simp; omega
    have hbi : (s[0].toNat : Int) = 45 := by omega
    generalize tlS s = t at *
    cases hdig : digS t with
    | false =>
      have hr := hdg hdig
      simp only [hdig] at hd
      simp [Tryd.f21, List.range, List.range.loop, ints, intss, int, bool, row, frac, fracs, ← List.map_take, ← List.map_drop, str, h0i, h0, h01, e1, hbe, hbi, he, hd, hr]
    | true =>
    simp only [hdig] at hd
    by_cases g19 : 19 < t.size
    · have hr := h19 g19
      have g19i : (19 : Int) < (t.size : Int) := by omega
      have g19j : ¬ (t.size : Int) ≤ 19 := by omega
      simp [Tryd.f21, List.range, List.range.loop, ints, intss, int, bool, row, frac, fracs, ← List.map_take, ← List.map_drop, str, h0i, h0, h01, e1, hbe, hbi, he, hd, g19, g19i, g19j, hr]
    have g19i : ¬ (19 : Int) < (t.size : Int) := by omega
    have g19j : (t.size : Int) ≤ 19 := by omega
    simp [Tryd.f21, List.range, List.range.loop, ints, intss, int, bool, row, frac, fracs, ← List.map_take, ← List.map_drop, str, h0i, h0, h01, e1, hbe, hbi, he, hd, g19i, g19j]
    refine awp_range (live := [true, false, true, true, true, true, true, true, true, false, false, false, false, false, false, false, false, false, true, false, false, false, false, false, false, false, false, false, true, false, false, false, true, false, false, false, false, false, false, false, false, false, false, false, true, false, false, false, false, false, true, false, true, false, false, false, false, false, true]) (ctx_ok eqOk hG) mixed [true, false, false, false, true, true, true, true] (t.size) (fun k => dv t k ≤ 9223372036854775808) (fun k => ⟨[str s, .junk, .junk, .junk, bool true, str t, int (-(dv t k : Int)), int k, .junk, .junk, .junk, .junk, .junk, .junk, .junk, .junk, .junk, .junk, .junk, .junk, .junk, .junk, .junk, .junk, .junk, .junk, .junk, .junk, .junk, .junk, .junk, .junk, .junk, .junk, .junk, .junk, .junk, .junk, .junk, .junk, .junk, .junk, .junk, .junk, .junk, .junk, .junk, .junk, .junk, .junk, .junk, .junk, .junk, .junk, .junk, .junk, .junk, .junk, .junk, .junk], []⟩) ?_ (by simp [sub, slotsLe, clean, keep, refsL, refs, once, place, renL, ren, List.replicate, int, bool, str, dv_zero]) ?_ ?_ ?_
    · omega
    · simp [dv_zero]
    · intro k hk hp hwk
      obtain ⟨c1, c2⟩ := by1_at hk
      obtain ⟨c3, c4⟩ := hby k hk hdig
      obtain ⟨d, hd9, hc⟩ : ∃ d : Nat, d ≤ 9 ∧ t[k].toNat = 48 + d := ⟨t[k].toNat - 48, by omega, by omega⟩
      have hnx := dv_succ hk
      have hb := hbig (k + 1) (by omega)
      rw [c2, hc, Nat.add_sub_cancel_left] at hnx
      have hps := pstep (v := dv t k) hd9
      generalize dv t (k + 1) = V at *
      generalize dv t k = v at *
      have w1 : IntKind.i64.wrap (48 + (d : Int)) = 48 + (d : Int) := wrapI (by omega) (by omega)
      have w2 : IntKind.i64.wrap (48 + (d : Int) - 48) = (d : Int) := by rw [wrapI (by omega) (by omega)]; omega
      have w3 : IntKind.i64.wrap (-9223372036854775808 + (d : Int)) = -9223372036854775808 + (d : Int) := wrapI (by omega) (by omega)
      have w4 : IntKind.i64.wrap (Int.tdiv (-9223372036854775808 + (d : Int)) 10) = Int.tdiv (-9223372036854775808 + (d : Int)) 10 := by
        have e : (-9223372036854775808 + (d : Int)) = -((9223372036854775808 - d : Nat) : Int) := by omega
        rw [e, tdiv_neg10]
        exact wrapI (by omega) (by omega)
      by_cases hv : 9223372036854775808 < 10 * v + d
      · have hr := hb (by omega)
        have q1 := hps.2 hv
        have q2 : ¬ (Int.tdiv (-9223372036854775808 + (d : Int)) 10 ≤ -(v : Int)) := by omega
        simp [List.range, List.range.loop, ints, intss, int, bool, row, frac, fracs, ← List.map_take, ← List.map_drop, str, hk, hwk, c1, hc, w1, w2, w3, w4, q1, q2, hr]
      · have q1 : ¬ (-(v : Int) < Int.tdiv (-9223372036854775808 + (d : Int)) 10) := fun h => hv (hps.1 h)
        have q2 : Int.tdiv (-9223372036854775808 + (d : Int)) 10 ≤ -(v : Int) := by omega
        have w5 : IntKind.i64.wrap (-(v : Int) * 10) = -(v : Int) * 10 := wrapI (by omega) (by omega)
        have w6 : IntKind.i64.wrap (-(v : Int) * 10 - (d : Int)) = -(10 * (v : Int) + (d : Int)) := by
          rw [wrapI (by omega) (by omega)]; omega
        subst hnx
        have hv' : 10 * v + d ≤ 9223372036854775808 := by omega
        simp [List.range, List.range.loop, ints, intss, int, bool, row, frac, fracs, ← List.map_take, ← List.map_drop, str, hk, hwk, c1, hc, w1, w2, w3, w4, w5, w6, q1, q2, hv']
    · intro hp
      obtain ⟨k1, k2⟩ := hfin _ rfl hp
      generalize dv t t.size = v at *
      have hi : inI (-(v : Int)) := ⟨by omega, by omega⟩
      have m := mItoa_at _ hi
      by_cases hq : itoaS (-(v : Int)) = s
      · have hr := k1 hi hq
        rw [hq] at m
        simp [List.range, List.range.loop, ints, intss, int, bool, row, frac, fracs, ← List.map_take, ← List.map_drop, str, m, hr]
      · have hr := k2 (fun h => hq h.2)
        have hq2 := tl_ne hq
        simp [List.range, List.range.loop, ints, intss, int, bool, row, frac, fracs, ← List.map_take, ← List.map_drop, str, m, hq, hq2, hr]
  · have hn : negS s = false := by simp [negS, h0, e2, h45]
    have hfin : ∀ v, v = dv (tlS s) (tlS s).size → v ≤ 9223372036854775808 → (inI ((v : Int)) → itoaS ((v : Int)) = s → pI s = ((v : Int), true)) ∧ (¬ (inI ((v : Int)) ∧ itoaS ((v : Int)) = s) → pI s = (0, false)) := fun v hv hv2 => by
      refine ⟨fun h1 h2 => by rw [← h2]; exact pI_of h1, fun h => pI_why fun n hi F e => ?_⟩
      subst e
      have f1 := F.neg
      have f2 := F.val
      rw [hn] at f1
      simp at f1
      obtain rfl : n = (v : Int) := by omega
      exact h ⟨hi, rfl⟩
    have he : tlS s = s := by simp [tlS, hn]
    have h0i : (0 : Int) < (s.size : Int) := by omega
    have h01 : 1 ≤ s.size := h0
    have hbe : ((s[0].toNat : Int) == 45) = false := by simp; omega
    have hbi : ¬ (s[0].toNat : Int) = 45 := by omega
    rw [he] at hd hdg h19 hbig hby hfin
    cases hdig : digS s with
    | false =>
      have hr := hdg hdig
      simp only [hdig] at hd
      simp [Tryd.f21, List.range, List.range.loop, ints, intss, int, bool, row, frac, fracs, ← List.map_take, ← List.map_drop, str, h0i, h0, h01, e1, hbe, hbi, str, hd, hr]
    | true =>
    simp only [hdig] at hd
    by_cases g19 : 19 < s.size
    · have hr := h19 g19
      have g19i : (19 : Int) < (s.size : Int) := by omega
      have g19j : ¬ (s.size : Int) ≤ 19 := by omega
      simp [Tryd.f21, List.range, List.range.loop, ints, intss, int, bool, row, frac, fracs, ← List.map_take, ← List.map_drop, str, h0i, h0, h01, e1, hbe, hbi, str, hd, g19, g19i, g19j, hr]
    have g19i : ¬ (19 : Int) < (s.size : Int) := by omega
    have g19j : (s.size : Int) ≤ 19 := by omega
    simp [Tryd.f21, List.range, List.range.loop, ints, intss, int, bool, row, frac, fracs, ← List.map_take, ← List.map_drop, str, h0i, h0, h01, e1, hbe, hbi, str, hd, g19i, g19j]
    refine awp_range (live := [true, false, true, true, true, true, true, true, true, false, false, false, false, false, false, false, false, false, true, false, false, false, false, false, false, false, false, false, true, false, false, false, true, false, false, false, false, false, false, false, false, false, false, false, true, false, false, false, false, false, true, false, true, false, false, false, false, false, true]) (ctx_ok eqOk hG) mixed [true, false, false, false, true, true, true, true] (s.size) (fun k => dv s k ≤ 9223372036854775808) (fun k => ⟨[str s, .junk, .junk, .junk, bool false, str s, int (-(dv s k : Int)), int k, .junk, .junk, .junk, .junk, .junk, .junk, .junk, .junk, .junk, .junk, .junk, .junk, .junk, .junk, .junk, .junk, .junk, .junk, .junk, .junk, .junk, .junk, .junk, .junk, .junk, .junk, .junk, .junk, .junk, .junk, .junk, .junk, .junk, .junk, .junk, .junk, .junk, .junk, .junk, .junk, .junk, .junk, .junk, .junk, .junk, .junk, .junk, .junk, .junk, .junk, .junk, .junk], []⟩) ?_ (by simp [sub, slotsLe, clean, keep, refsL, refs, once, place, renL, ren, List.replicate, int, bool, str, dv_zero]) ?_ ?_ ?_
    · omega
    · simp [dv_zero]
    · intro k hk hp hwk
      obtain ⟨c1, c2⟩ := by1_at hk
      obtain ⟨c3, c4⟩ := hby k hk hdig
      obtain ⟨d, hd9, hc⟩ : ∃ d : Nat, d ≤ 9 ∧ s[k].toNat = 48 + d := ⟨s[k].toNat - 48, by omega, by omega⟩
      have hnx := dv_succ hk
      have hb := hbig (k + 1) (by omega)
      rw [c2, hc, Nat.add_sub_cancel_left] at hnx
      have hps := pstep (v := dv s k) hd9
      generalize dv s (k + 1) = V at *
      generalize dv s k = v at *
      have w1 : IntKind.i64.wrap (48 + (d : Int)) = 48 + (d : Int) := wrapI (by omega) (by omega)
      have w2 : IntKind.i64.wrap (48 + (d : Int) - 48) = (d : Int) := by rw [wrapI (by omega) (by omega)]; omega
      have w3 : IntKind.i64.wrap (-9223372036854775808 + (d : Int)) = -9223372036854775808 + (d : Int) := wrapI (by omega) (by omega)
      have w4 : IntKind.i64.wrap (Int.tdiv (-9223372036854775808 + (d : Int)) 10) = Int.tdiv (-9223372036854775808 + (d : Int)) 10 := by
        have e : (-9223372036854775808 + (d : Int)) = -((9223372036854775808 - d : Nat) : Int) := by omega
        rw [e, tdiv_neg10]
        exact wrapI (by omega) (by omega)
      by_cases hv : 9223372036854775808 < 10 * v + d
      · have hr := hb (by omega)
        have q1 := hps.2 hv
        have q2 : ¬ (Int.tdiv (-9223372036854775808 + (d : Int)) 10 ≤ -(v : Int)) := by omega
        simp [List.range, List.range.loop, ints, intss, int, bool, row, frac, fracs, ← List.map_take, ← List.map_drop, str, hk, hwk, c1, hc, w1, w2, w3, w4, q1, q2, hr]
      · have q1 : ¬ (-(v : Int) < Int.tdiv (-9223372036854775808 + (d : Int)) 10) := fun h => hv (hps.1 h)
        have q2 : Int.tdiv (-9223372036854775808 + (d : Int)) 10 ≤ -(v : Int) := by omega
        have w5 : IntKind.i64.wrap (-(v : Int) * 10) = -(v : Int) * 10 := wrapI (by omega) (by omega)
        have w6 : IntKind.i64.wrap (-(v : Int) * 10 - (d : Int)) = -(10 * (v : Int) + (d : Int)) := by
          rw [wrapI (by omega) (by omega)]; omega
        subst hnx
        have hv' : 10 * v + d ≤ 9223372036854775808 := by omega
        simp [List.range, List.range.loop, ints, intss, int, bool, row, frac, fracs, ← List.map_take, ← List.map_drop, str, hk, hwk, c1, hc, w1, w2, w3, w4, w5, w6, q1, q2, hv']
    · intro hp
      obtain ⟨k1, k2⟩ := hfin _ rfl hp
      generalize dv s s.size = v at *
      by_cases hm : v = 9223372036854775808
      · have hr := k2 (fun h => by have := h.1.2; omega)
        subst hm
        simp [List.range, List.range.loop, ints, intss, int, bool, row, frac, fracs, ← List.map_take, ← List.map_drop, str, hr]
      have hmi : ¬ (-(v : Int) = -9223372036854775808) := by omega
      have hmj : ¬ ((v : Int) = 9223372036854775808) := by omega
      have hi : inI (v : Int) := ⟨by omega, by omega⟩
      have m := mItoa_at _ hi
      have wn : IntKind.i64.wrap (v : Int) = v := wrapI (by omega) (by omega)
      by_cases hq : itoaS (v : Int) = s
      · have hr := k1 hi hq
        rw [hq] at m
        simp [List.range, List.range.loop, ints, intss, int, bool, row, frac, fracs, ← List.map_take, ← List.map_drop, str, m, hr, hmi, hmj, wn]
      · have hr := k2 (fun h => hq h.2)
        have hq2 := tl_ne hq
        simp [List.range, List.range.loop, ints, intss, int, bool, row, frac, fracs, ← List.map_take, ← List.map_drop, str, m, hq, hq2, hr, hmi, hmj, wn]

end Go.Proofs.YtblnpjppckfmfaaDoor.Ax
