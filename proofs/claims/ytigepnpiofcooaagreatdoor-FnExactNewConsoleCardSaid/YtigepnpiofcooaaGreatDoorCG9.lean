/-
  Contracts: ParseInt (the reference's). No condition.
-/
import Derived.Test.YtigepnpiofcooaaGreatDoorCG8
import Derived.Lib.AtoiAllCases
import Derived.Ground.NamesProg
import Derived.Shelf.Strings.Search3
namespace Go.Proofs.YtigepnpiofcooaaGreatDoor.Ax
open Go Go.RowKit
set_option linter.unusedSimpArgs false
noncomputable def mPI : List AV → Option AV := mk (fun s => s.size ≤ 281474976710656) (fun (s : ByteArray) => [str s]) (fun s => .tup [.v (.int .i64 (pI s).1), .v (.bool (pI s).2)])
theorem mPI_at (s : ByteArray) (h : s.size ≤ 281474976710656) : mPI [.v (.string s)] = some (.tup [.v (.int .i64 (pI s).1), .v (.bool (pI s).2)]) :=
  mk_eq (enc := fun (s : ByteArray) => [str s]) (x := s) (fun a b h => by rw [str_inj h]) h
theorem pI_why {s : ByteArray} (h : ∀ n, inI n → NumF n → itoaS n = s → False) : pI s = (0, false) := pI_no fun n h1 h2 => h n h1 (numF h1) h2
theorem pstep {v d : Nat} (hd : d ≤ 9) : ((-(v : Int)) < Int.tdiv (-9223372036854775808 + d) 10) ↔ 9223372036854775808 < 10 * v + d := by
  have e : (-9223372036854775808 + (d : Int)) = -((9223372036854775808 - d : Nat) : Int) := by omega
  rw [e, tdiv_neg10]
  omega
theorem tl_ne {a b : ByteArray} (h : ¬ a = b) : ¬ a.toList = b.toList := fun e => h (bl_inj (by rw [ByteArray.toList_eq, ByteArray.toList_eq] at e; exact e))
set_option maxHeartbeats 2000000 in
theorem specPI_ok : FnOk Tryz.prog 14 mPI := by
  refine mk_ok fun s hs => ?_
  have hG : FnsOk Tryz.prog [(28, mDig), (29, mItoa)] := (.cons specDig_ok (.cons specFormatInt_ok .nil))
  refine callOk_awp (ctx_ok eqOk hG) mixed (live := [true, false, true, true, true, true, true, true, true, false, false, false, false, false, false, false, false, false, true, false, false, false, false, false, false, false, false, false, true, false, false, false, true, false, false, false, false, false, false, false, false, false, false, false, true, false, false, false, false, false, true, false, true, false, false, false, false, false, true]) (dt := []) Tryz.func14 rfl (by kernel_rfl) (by kernel_rfl) fun w0 hlens => ?_
  clear hlens
  have ht : (tlS s).size ≤ s.size := by
    have := tlS_bl s
    rw [← bl_size, this]
    split
    · rw [List.length_drop, bl_size]; omega
    · rw [bl_size]; omega
  have hd := mDig_at (tlS s) (by omega)
  have hdg : digS (tlS s) = false → pI s = (0, false) := fun g => pI_why fun n _ F e => by subst e; rw [F.dig] at g; cases g
  have h19 : 19 < (tlS s).size → pI s = (0, false) := fun g => pI_why fun n _ F e => by subst e; have := F.len; omega
  have hbig : ∀ k, k ≤ (tlS s).size → 9223372036854775808 < dv (tlS s) k → pI s = (0, false) := fun k hk g => pI_why fun n hn F e => by
    subst e
    have := dv_mono hk (Nat.le_refl _)
    have := F.val
    have := hn.1
    have := hn.2
    omega
  have hby := fun k hk hdig => dig_by (t := tlS s) hdig (k := k) hk
  rcases Nat.eq_zero_or_pos s.size with h0 | h0
  · have hn : negS s = false := by simp [negS, h0]
    have e : tlS s = s := by simp [tlS, hn]
    have hdf : digS s = false := by simp [digS, h0]
    rw [e] at hd hdg
    have hr := hdg hdf
    simp [hdf] at hd
    simp [Tryz.f14, List.range, List.range.loop, ints, intss, int, bool, row, frac, fracs, ← List.map_take, ← List.map_drop, str, h0, hd, hr]
  obtain ⟨e1, e2⟩ := by1_at h0
  by_cases h45 : s[0].toNat = 45
  · have hn : negS s = true := by simp [negS, h0, e2, h45]
    have hfin : ∀ v, v = dv (tlS s) (tlS s).size → v ≤ 9223372036854775808 → (inI (-(v : Int)) → itoaS (-(v : Int)) = s → pI s = (-(v : Int), true)) ∧ (¬ (inI (-(v : Int)) ∧ itoaS (-(v : Int)) = s) → pI s = (0, false)) := fun v hv hv2 => by
      refine ⟨fun h1 h2 => by rw [← h2]; exact pI_of h1, fun h => pI_why fun n hi F e => ?_⟩
      subst e
      have f1 := F.neg
      have f2 := F.val
      rw [hn] at f1
      simp at f1
      obtain rfl : n = -(v : Int) := by omega
      exact h ⟨hi, rfl⟩
    have he : s.extract 1 s.size = tlS s := by simp [tlS, hn]
    have h0i : (0 : Int) < (s.size : Int) := by omega
    have h01 : 1 ≤ s.size := h0
    have hbe : ((s[0].toNat : Int) == 45) = true := by simp; omega
    have hbi : (s[0].toNat : Int) = 45 := by omega
    generalize tlS s = t at *
    cases hdig : digS t with
    | false =>
      have hr := hdg hdig
      simp only [hdig] at hd
      simp [Tryz.f14, List.range, List.range.loop, ints, intss, int, bool, row, frac, fracs, ← List.map_take, ← List.map_drop, str, h0i, h0, h01, e1, hbe, hbi, he, hd, hr]
    | true =>
    simp only [hdig] at hd
    by_cases g19 : 19 < t.size
    · have hr := h19 g19
      have g19i : (19 : Int) < (t.size : Int) := by omega
      have g19j : ¬ (t.size : Int) ≤ 19 := by omega
      simp [Tryz.f14, List.range, List.range.loop, ints, intss, int, bool, row, frac, fracs, ← List.map_take, ← List.map_drop, str, h0i, h0, h01, e1, hbe, hbi, he, hd, g19, g19i, g19j, hr]
    have g19i : ¬ (19 : Int) < (t.size : Int) := by omega
    have g19j : (t.size : Int) ≤ 19 := by omega
    simp [Tryz.f14, List.range, List.range.loop, ints, intss, int, bool, row, frac, fracs, ← List.map_take, ← List.map_drop, str, h0i, h0, h01, e1, hbe, hbi, he, hd, g19i, g19j]
    refine awp_range (live := [true, false, true, true, true, true, true, true, true, false, false, false, false, false, false, false, false, false, true, false, false, false, false, false, false, false, false, false, true, false, false, false, true, false, false, false, false, false, false, false, false, false, false, false, true, false, false, false, false, false, true, false, true, false, false, false, false, false, true]) (ctx_ok eqOk hG) mixed [true, false, false, false, true, true, true, true] (t.size) (fun k => dv t k ≤ 9223372036854775808) (fun k => ⟨[str s, .junk, .junk, .junk, bool true, str t, int (-(dv t k : Int)), int k, .junk, .junk, .junk, .junk, .junk, .junk, .junk, .junk, .junk, .junk, .junk, .junk, .junk, .junk, .junk, .junk, .junk, .junk, .junk, .junk, .junk, .junk, .junk, .junk, .junk, .junk, .junk, .junk, .junk, .junk, .junk, .junk, .junk, .junk, .junk, .junk, .junk, .junk, .junk, .junk, .junk, .junk, .junk, .junk, .junk, .junk, .junk, .junk, .junk, .junk, .junk, .junk], []⟩) ?_ (by simp [sub, slotsLe, clean, keep, refsL, refs, once, place, renL, ren, List.replicate, int, bool, str, dv_zero]) ?_ ?_ ?_
    · omega
    · simp [dv_zero]
    · intro k hk hp hwk
      obtain ⟨c1, c2⟩ := by1_at hk
      obtain ⟨c3, c4⟩ := hby k hk hdig
      obtain ⟨d, hd9, hc⟩ : ∃ d : Nat, d ≤ 9 ∧ t[k].toNat = 48 + d := ⟨t[k].toNat - 48, by omega, by omega⟩
      have hnx := dv_succ hk
      have hb := hbig (k + 1) (by omega)
      rw [c2, hc, Nat.add_sub_cancel_left] at hnx
      have hps := pstep (v := dv t k) hd9
      generalize dv t (k + 1) = V at *
      generalize dv t k = v at *
      have w1 : IntKind.i64.wrap (48 + (d : Int)) = 48 + (d : Int) := wrapI (by omega) (by omega)
      have w2 : IntKind.i64.wrap (48 + (d : Int) - 48) = (d : Int) := by rw [wrapI (by omega) (by omega)]; omega
      have w3 : IntKind.i64.wrap (-9223372036854775808 + (d : Int)) = -9223372036854775808 + (d : Int) := wrapI (by omega) (by omega)
      have w4 : IntKind.i64.wrap (Int.tdiv (-9223372036854775808 + (d : Int)) 10) = Int.tdiv (-9223372036854775808 + (d : Int)) 10 := by
        have e : (-9223372036854775808 + (d : Int)) = -((9223372036854775808 - d : Nat) : Int) := by omega
        rw [e, tdiv_neg10]
        exact wrapI (by omega) (by omega)
      by_cases hv : 9223372036854775808 < 10 * v + d
      · have hr := hb (by omega)
        have q1 := hps.2 hv
        have q2 : ¬ (Int.tdiv (-9223372036854775808 + (d : Int)) 10 ≤ -(v : Int)) := by omega
        simp [List.range, List.range.loop, ints, intss, int, bool, row, frac, fracs, ← List.map_take, ← List.map_drop, str, hk, hwk, c1, hc, w1, w2, w3, w4, q1, q2, hr]
      · have q1 : ¬ (-(v : Int) < Int.tdiv (-9223372036854775808 + (d : Int)) 10) := fun h => hv (hps.1 h)
        have q2 : Int.tdiv (-9223372036854775808 + (d : Int)) 10 ≤ -(v : Int) := by omega
        have w5 : IntKind.i64.wrap (-(v : Int) * 10) = -(v : Int) * 10 := wrapI (by omega) (by omega)
        have w6 : IntKind.i64.wrap (-(v : Int) * 10 - (d : Int)) = -(10 * (v : Int) + (d : Int)) := by
          rw [wrapI (by omega) (by omega)]; omega
        subst hnx
        have hv' : 10 * v + d ≤ 9223372036854775808 := by omega
        simp [List.range, List.range.loop, ints, intss, int, bool, row, frac, fracs, ← List.map_take, ← List.map_drop, str, hk, hwk, c1, hc, w1, w2, w3, w4, w5, w6, q1, q2, hv']
    · intro hp
      obtain ⟨k1, k2⟩ := hfin _ rfl hp
      generalize dv t t.size = v at *
      have hi : inI (-(v : Int)) := ⟨by omega, by omega⟩
      have m := mItoa_at _ hi
      by_cases hq : itoaS (-(v : Int)) = s
      · have hr := k1 hi hq
        rw [hq] at m
        simp [List.range, List.range.loop, ints, intss, int, bool, row, frac, fracs, ← List.map_take, ← List.map_drop, str, m, hr]
      · have hr := k2 (fun h => hq h.2)
        have hq2 := tl_ne hq
        simp [List.range, List.range.loop, ints, intss, int, bool, row, frac, fracs, ← List.map_take, ← List.map_drop, str, m, hq, hq2, hr]
  · have hn : negS s = false := by simp [negS, h0, e2, h45]
    have hfin : ∀ v, v = dv (tlS s) (tlS s).size → v ≤ 9223372036854775808 → (inI ((v : Int)) → itoaS ((v : Int)) = s → pI s = ((v : Int), true)) ∧ (¬ (inI ((v : Int)) ∧ itoaS ((v : Int)) = s) → pI s = (0, false)) := fun v hv hv2 => by
      refine ⟨fun h1 h2 => by rw [← h2]; exact pI_of h1, fun h => pI_why fun n hi F e => ?_⟩
      subst e
      have f1 := F.neg
      have f2 := F.val
      rw [hn] at f1
      simp at f1
      obtain rfl : n = (v : Int) := by omega
      exact h ⟨hi, rfl⟩
    have he : tlS s = s := by simp [tlS, hn]
    have h0i : (0 : Int) < (s.size : Int) := by omega
    have h01 : 1 ≤ s.size := h0
    have hbe : ((s[0].toNat : Int) == 45) = false := by simp; omega
    have hbi : ¬ (s[0].toNat : Int) = 45 := by omega
    rw [he] at hd hdg h19 hbig hby hfin
    cases hdig : digS s with
    | false =>
      have hr := hdg hdig
      simp only [hdig] at hd
      simp [Tryz.f14, List.range, List.range.loop, ints, intss, int, bool, row, frac, fracs, ← List.map_take, ← List.map_drop, str, h0i, h0, h01, e1, hbe, hbi, str, hd, hr]
    | true =>
    simp only [hdig] at hd
    by_cases g19 : 19 < s.size
    · have hr := h19 g19
      have g19i : (19 : Int) < (s.size : Int) := by omega
      have g19j : ¬ (s.size : Int) ≤ 19 := by omega
      simp [Tryz.f14, List.range, List.range.loop, ints, intss, int, bool, row, frac, fracs, ← List.map_take, ← List.map_drop, str, h0i, h0, h01, e1, hbe, hbi, str, hd, g19, g19i, g19j, hr]
    have g19i : ¬ (19 : Int) < (s.size : Int) := by omega
    have g19j : (s.size : Int) ≤ 19 := by omega
    simp [Tryz.f14, List.range, List.range.loop, ints, intss, int, bool, row, frac, fracs, ← List.map_take, ← List.map_drop, str, h0i, h0, h01, e1, hbe, hbi, str, hd, g19i, g19j]
    refine awp_range (live := [true, false, true, true, true, true, true, true, true, false, false, false, false, false, false, false, false, false, true, false, false, false, false, false, false, false, false, false, true, false, false, false, true, false, false, false, false, false, false, false, false, false, false, false, true, false, false, false, false, false, true, false, true, false, false, false, false, false, true]) (ctx_ok eqOk hG) mixed [true, false, false, false, true, true, true, true] (s.size) (fun k => dv s k ≤ 9223372036854775808) (fun k => ⟨[str s, .junk, .junk, .junk, bool false, str s, int (-(dv s k : Int)), int k, .junk, .junk, .junk, .junk, .junk, .junk, .junk, .junk, .junk, .junk, .junk, .junk, .junk, .junk, .junk, .junk, .junk, .junk, .junk, .junk, .junk, .junk, .junk, .junk, .junk, .junk, .junk, .junk, .junk, .junk, .junk, .junk, .junk, .junk, .junk, .junk, .junk, .junk, .junk, .junk, .junk, .junk, .junk, .junk, .junk, .junk, .junk, .junk, .junk, .junk, .junk, .junk], []⟩) ?_ (by simp [sub, slotsLe, clean, keep, refsL, refs, once, place, renL, ren, List.replicate, int, bool, str, dv_zero]) ?_ ?_ ?_
    · omega
    · simp [dv_zero]
    · intro k hk hp hwk
      obtain ⟨c1, c2⟩ := by1_at hk
      obtain ⟨c3, c4⟩ := hby k hk hdig
      obtain ⟨d, hd9, hc⟩ : ∃ d : Nat, d ≤ 9 ∧ s[k].toNat = 48 + d := ⟨s[k].toNat - 48, by omega, by omega⟩
      have hnx := dv_succ hk
      have hb := hbig (k + 1) (by omega)
      rw [c2, hc, Nat.add_sub_cancel_left] at hnx
      have hps := pstep (v := dv s k) hd9
      generalize dv s (k + 1) = V at *
      generalize dv s k = v at *
      have w1 : IntKind.i64.wrap (48 + (d : Int)) = 48 + (d : Int) := wrapI (by omega) (by omega)
      have w2 : IntKind.i64.wrap (48 + (d : Int) - 48) = (d : Int) := by rw [wrapI (by omega) (by omega)]; omega
      have w3 : IntKind.i64.wrap (-9223372036854775808 + (d : Int)) = -9223372036854775808 + (d : Int) := wrapI (by omega) (by omega)
      have w4 : IntKind.i64.wrap (Int.tdiv (-9223372036854775808 + (d : Int)) 10) = Int.tdiv (-9223372036854775808 + (d : Int)) 10 := by
        have e : (-9223372036854775808 + (d : Int)) = -((9223372036854775808 - d : Nat) : Int) := by omega
        rw [e, tdiv_neg10]
        exact wrapI (by omega) (by omega)
      by_cases hv : 9223372036854775808 < 10 * v + d
      · have hr := hb (by omega)
        have q1 := hps.2 hv
        have q2 : ¬ (Int.tdiv (-9223372036854775808 + (d : Int)) 10 ≤ -(v : Int)) := by omega
        simp [List.range, List.range.loop, ints, intss, int, bool, row, frac, fracs, ← List.map_take, ← List.map_drop, str, hk, hwk, c1, hc, w1, w2, w3, w4, q1, q2, hr]
      · have q1 : ¬ (-(v : Int) < Int.tdiv (-9223372036854775808 + (d : Int)) 10) := fun h => hv (hps.1 h)
        have q2 : Int.tdiv (-9223372036854775808 + (d : Int)) 10 ≤ -(v : Int) := by omega
        have w5 : IntKind.i64.wrap (-(v : Int) * 10) = -(v : Int) * 10 := wrapI (by omega) (by omega)
        have w6 : IntKind.i64.wrap (-(v : Int) * 10 - (d : Int)) = -(10 * (v : Int) + (d : Int)) := by
          rw [wrapI (by omega) (by omega)]; omega
        subst hnx
        have hv' : 10 * v + d ≤ 9223372036854775808 := by omega
        simp [List.range, List.range.loop, ints, intss, int, bool, row, frac, fracs, ← List.map_take, ← List.map_drop, str, hk, hwk, c1, hc, w1, w2, w3, w4, w5, w6, q1, q2, hv']
    · intro hp
      obtain ⟨k1, k2⟩ := hfin _ rfl hp
      generalize dv s s.size = v at *
      by_cases hm : v = 9223372036854775808
      · have hr := k2 (fun h => by have := h.1.2; omega)
        subst hm
        simp [List.range, List.range.loop, ints, intss, int, bool, row, frac, fracs, ← List.map_take, ← List.map_drop, str, hr]
      have hmi : ¬ (-(v : Int) = -9223372036854775808) := by omega
      have hmj : ¬ ((v : Int) = 9223372036854775808) := by omega
      have hi : inI (v : Int) := ⟨by omega, by omega⟩
      have m := mItoa_at _ hi
      have wn : IntKind.i64.wrap (v : Int) = v := wrapI (by omega) (by omega)
      by_cases hq : itoaS (v : Int) = s
      · have hr := k1 hi hq
        rw [hq] at m
        simp [List.range, List.range.loop, ints, intss, int, bool, row, frac, fracs, ← List.map_take, ← List.map_drop, str, m, hr, hmi, hmj, wn]
      · have hr := k2 (fun h => hq h.2)
        have hq2 := tl_ne hq
        simp [List.range, List.range.loop, ints, intss, int, bool, row, frac, fracs, ← List.map_take, ← List.map_drop, str, m, hq, hq2, hr, hmi, hmj, wn]
end Go.Proofs.YtigepnpiofcooaaGreatDoor.Ax
namespace Go.Proofs.YtigepnpiofcooaaGreatDoor.Ax
open Go Go.RowKit
set_option linter.unusedSimpArgs false
def swF (s : ByteArray) (c : UInt8) : Nat → Nat
  | 0 => 0
  | i + 1 => if by1 s i = c.toNat then i + 1 else swF s c i
def spL (s : ByteArray) (c : UInt8) : Nat → List ByteArray
  | 0 => []
  | i + 1 => if by1 s i = c.toNat then spL s c i ++ [s.extract (swF s c i) i] else spL s c i
theorem spF_le {s : ByteArray} {c : UInt8} : ∀ {i : Nat}, swF s c i ≤ i
  | 0 => Nat.le_refl _
  | i + 1 => by
    have := spF_le (s := s) (c := c) (i := i)
    unfold swF
    split <;> omega
theorem spL_len {s : ByteArray} {c : UInt8} : ∀ {i : Nat}, (spL s c i).length ≤ i
  | 0 => Nat.le_refl _
  | i + 1 => by
    have := spL_len (s := s) (c := c) (i := i)
    unfold spL
    split
    · rw [List.length_append, List.length_singleton]; omega
    · omega
def splitS (s : ByteArray) (c : UInt8) : List ByteArray := spL s c s.size ++ [s.extract (swF s c s.size) s.size]
noncomputable def mSpa : List AV → Option AV := mk (fun p => p.1.size ≤ 2097152) (fun (p : ByteArray × UInt8) => [str p.1, str ⟨#[p.2]⟩]) (fun p => .sl false 1 ((splitS p.1 p.2).map str))
theorem mSpa_at (s : ByteArray) (c : UInt8) (h : s.size ≤ 2097152) : mSpa [.v (.string s), .v (.string ⟨#[c]⟩)] = some (.sl false 1 ((splitS s c).map str)) :=
  mk_eq (enc := fun (p : ByteArray × UInt8) => [str p.1, str ⟨#[p.2]⟩]) (x := (s, c)) (by
    rintro ⟨a, b⟩ ⟨a', b'⟩ h
    simp [str] at h
    rw [h.1, h.2]) h
set_option maxHeartbeats 2000000 in
theorem specSpa_ok : FnOk Tryz.prog 15 mSpa := by
  refine mk_ok fun ⟨s, c⟩ hs => ?_
  simp only at hs
  have hG : FnsOk Tryz.prog [] := .nil
  refine callOk_awp (ctx_ok eqOk hG) mixed (live := [true, true, false, false, true, true, true, true, true, false, false, false, false, true, false, false, false, false, false, true, false, false, false, false, false, false, false, false, true]) (dt := [(9, ⟨[], [], []⟩)]) Tryz.func15 rfl (by kernel_rfl) (by kernel_rfl) fun w0 hlens => ?_
  clear hlens
  have zF : swF s c 0 = 0 := rfl
  have zL : spL s c 0 = [] := rfl
  have c0 : (⟨#[c]⟩ : ByteArray)[0]? = some c := rfl
  have c1 : (⟨#[c]⟩ : ByteArray).size = 1 := rfl
  have c2 : ∀ h, (⟨#[c]⟩ : ByteArray)[0]'h = c := fun _ => rfl
  have w1 : IntKind.i64.wrap 1 = 1 := by decide
  simp [Tryz.f15, List.range, List.range.loop, ints, intss, int, bool, row, frac, fracs, ← List.map_take, ← List.map_drop, str]
  refine awp_range (live := [true, true, false, false, true, true, true, true, true, false, false, false, false, true, false, false, false, false, false, true, false, false, false, false, false, false, false, false, true]) (ctx_ok eqOk hG) mixed [true, true, false, false, false, true, true, true] (s.size) (fun i => True) (fun i => ⟨[str s, str ⟨#[c]⟩, .junk, .junk, .junk, .ref 0 [] 0 (spL s c i).length, int (swF s c i), int i, .junk, .junk, .junk, .junk, .junk, .junk, .junk, .junk, .junk, .junk, .junk, .junk, .junk, .junk, .junk, .junk, .junk, .junk, .junk, .junk, .junk, .junk, .junk, .junk, .junk, .junk, .junk, .junk, .junk, .junk, .junk, .junk, .junk, .junk, .junk, .junk], [⟨true, .sl false 1 ((spL s c i).map str)⟩]⟩) ?_ (by simp [sub, slotsLe, clean, keep, refsL, refs, once, place, renL, ren, List.replicate, int, bool, str, zF, zL]) ?_ ?_ ?_
  · omega
  · trivial
  · intro i hi _ hwi
    obtain ⟨e1, e2⟩ := by1_at hi
    have lF := spF_le (s := s) (c := c) (i := i)
    have lL := spL_len (s := s) (c := c) (i := i)
    have sF : swF s c (i + 1) = if by1 s i = c.toNat then i + 1 else swF s c i := rfl
    have sL : spL s c (i + 1) = if by1 s i = c.toNat then spL s c i ++ [s.extract (swF s c i) i] else spL s c i := rfl
    rw [e2] at sF sL
    have hb : (spL s c i).length + 1 ≤ 4611686018427387904 ∧ ((spL s c i).length + 1) * 16 ≤ 140737488355328 := by omega
    have hii : i ≤ s.size := by omega
    by_cases hc : s[i].toNat = c.toNat
    · rw [if_pos hc] at sF sL
      have hci : (s[i].toNat : Int) = (c.toNat : Int) := by omega
      rw [sF, sL]
      generalize spL s c i = W at *
      generalize swF s c i = f at *
      simp [List.range, List.range.loop, ints, intss, int, bool, row, frac, fracs, ← List.map_take, ← List.map_drop, str, hi]
      refine awp_range (live := [true, true, false, false, true, true, true, true, true, false, false, false, false, true, false, false, false, false, false, true, false, false, false, false, false, false, false, false, true]) (ctx_ok eqOk hG) mixed [true, true, false, false, false, true, true, true, true] (1) (fun k => k = 0) (fun k => ⟨[str s, str ⟨#[c]⟩, .junk, .junk, .junk, .ref 0 [] 0 W.length, int f, int i, int k, .junk, .junk, .junk, .junk, .junk, .junk, .junk, .junk, .junk, .junk, .junk, .junk, .junk, .junk, .junk, .junk, .junk, .junk, .junk, .junk, .junk, .junk, .junk, .junk, .junk, .junk, .junk, .junk, .junk, .junk, .junk, .junk, .junk, .junk, .junk], [⟨true, .sl false 1 (W.map str)⟩]⟩) ?_ (by simp [sub, slotsLe, clean, keep, refsL, refs, once, place, renL, ren, List.replicate, int, bool, str]) ?_ ?_ ?_
      · omega
      · rfl
      · intro k hk hk0 hwk
        subst hk0
        simp [List.range, List.range.loop, ints, intss, int, bool, row, frac, fracs, ← List.map_take, ← List.map_drop, str, hi, hii, hwi, c0, c1, c2, w1, e1, hci, lF, hb]
      · intro h; omega
    · rw [if_neg hc] at sF sL
      have hci : ¬ (s[i].toNat : Int) = (c.toNat : Int) := by omega
      have hcb : ((s[i].toNat : Int) == (c.toNat : Int)) = false := by simp; omega
      rw [sF, sL]
      generalize spL s c i = W at *
      generalize swF s c i = f at *
      simp [List.range, List.range.loop, ints, intss, int, bool, row, frac, fracs, ← List.map_take, ← List.map_drop, str, hi]
      refine awp_range (live := [true, true, false, false, true, true, true, true, true, false, false, false, false, true, false, false, false, false, false, true, false, false, false, false, false, false, false, false, true]) (ctx_ok eqOk hG) mixed [true, true, false, false, false, true, true, true, true] (1) (fun k => True) (fun k => ⟨[str s, str ⟨#[c]⟩, .junk, .junk, .junk, .ref 0 [] 0 W.length, int f, int i, int k, .junk, .junk, .junk, .junk, .junk, .junk, .junk, .junk, .junk, .junk, .junk, .junk, .junk, .junk, .junk, .junk, .junk, .junk, .junk, .junk, .junk, .junk, .junk, .junk, .junk, .junk, .junk, .junk, .junk, .junk, .junk, .junk, .junk, .junk, .junk], [⟨true, .sl false 1 (W.map str)⟩]⟩) ?_ (by simp [sub, slotsLe, clean, keep, refsL, refs, once, place, renL, ren, List.replicate, int, bool, str]) ?_ ?_ ?_
      · omega
      · trivial
      · intro k hk _ hwk
        obtain rfl : k = 0 := by omega
        simp [List.range, List.range.loop, ints, intss, int, bool, row, frac, fracs, ← List.map_take, ← List.map_drop, str, hi, hii, hwi, hwk, c0, c1, c2, w1, e1, hci, hcb, lF, hb]
      · intro _
        simp [List.range, List.range.loop, ints, intss, int, bool, row, frac, fracs, ← List.map_take, ← List.map_drop, str, hi, hii, hwi, c0, c1]
  · intro _
    have lF := spF_le (s := s) (c := c) (i := s.size)
    have lL := spL_len (s := s) (c := c) (i := s.size)
    have hb : (spL s c s.size).length + 1 ≤ 4611686018427387904 ∧ ((spL s c s.size).length + 1) * 16 ≤ 140737488355328 := by omega
    unfold splitS
    generalize spL s c s.size = W at *
    generalize swF s c s.size = f at *
    simp [List.range, List.range.loop, ints, intss, int, bool, row, frac, fracs, ← List.map_take, ← List.map_drop, str, lF, hb]
end Go.Proofs.YtigepnpiofcooaaGreatDoor.Ax
namespace Go.Proofs.YtigepnpiofcooaaGreatDoor.Ax
open Go Go.RowKit
set_option linter.unusedSimpArgs false
end Go.Proofs.YtigepnpiofcooaaGreatDoor.Ax
namespace Go.Proofs.YtigepnpiofcooaaGreatDoor.Ax
open Go Go.RowKit
def dvA (a : Nat) (l : List UInt8) : Nat := l.foldl (fun a c => 10 * a + (c.toNat - 48)) a
theorem dvA_cons {a : Nat} {c : UInt8} {l : List UInt8} : dvA a (c :: l) = dvA (10 * a + (c.toNat - 48)) l := by simp [dvA]
theorem dvA_nil {a : Nat} : dvA a [] = a := by simp [dvA]
theorem dvA_ge (l : List UInt8) : ∀ a, a ≤ dvA a l := by
  induction l with
  | nil => intro a; rw [dvA_nil]; exact Nat.le_refl _
  | cons c l ih =>
    intro a
    rw [dvA_cons]
    exact Nat.le_trans (by omega) (ih (10 * a + (c.toNat - 48)))
theorem parse_digits (l : List UInt8) : ∀ a, (∀ c ∈ l, 48 ≤ c.toNat ∧ c.toNat ≤ 57) → dvA a l < 18446744073709551616 → Lib.parseUint10 a l = .ok (dvA a l) := by
  induction l with
  | nil => intro a _ _; rw [dvA_nil]; simp [Lib.parseUint10]
  | cons c l ih =>
    intro a hd h
    rw [dvA_cons] at h ⊢
    have hc := hd c (by simp)
    have hg := dvA_ge l (10 * a + (c.toNat - 48))
    simp only [Lib.parseUint10]
    rw [if_pos hc, if_neg (by omega), if_neg (by omega), Nat.mul_comm a 10]
    exact ih _ (fun x hx => hd x (by simp [hx])) h
theorem parse_dec {u : Nat} (h : u < 18446744073709551616) : Lib.parseMag (Lib.decDigits u) = .ok u := by
  obtain ⟨i1, i2, i3⟩ := dec_facts u
  have e : dvA 0 (Lib.decDigits u) = u := i1
  unfold Lib.parseMag
  rw [if_neg (by intro h; rw [h] at i3; simp at i3), parse_digits _ 0 i2 (by omega), e]
theorem atoi_itoa {n : Int} (h : inI n) : Lib.atoiAll (Lib.itoa n) = .ok n := by
  have h1 := h.1
  have h2 := h.2
  unfold Lib.itoa
  split
  · rw [Lib.atoiAll_minus, parse_dec (by omega)]
    unfold Lib.signed
    simp only
    rw [if_neg (by omega)]
    congr 1; omega
  · have hp := parse_dec (u := n.toNat) (by omega)
    obtain ⟨_, i2, i3⟩ := dec_facts n.toNat
    generalize Lib.decDigits n.toNat = l at *
    cases l with
    | nil => simp at i3
    | cons c r =>
      have := i2 c (by simp)
      rw [Lib.atoiAll_plain c r (by omega) (by omega), hp]
      unfold Lib.signless
      simp only
      rw [if_neg (by omega)]
      congr 1; omega
theorem pI_atoi {s : ByteArray} : (∃ v, Lib.atoiAll s.data.toList = .ok v ∧ inI v ∧ pI s = if itoaS v = s then (v, true) else (0, false)) ∨ ((Lib.atoiAll s.data.toList = .syntax ∨ Lib.atoiAll s.data.toList = .range) ∧ pI s = (0, false)) := by
  have key : ∀ n, inI n → itoaS n = s → Lib.atoiAll s.data.toList = .ok n := fun n hn e => by
    subst e
    exact (show Lib.atoiAll (Lib.itoa n) = .ok n from atoi_itoa hn)
  cases h : Lib.atoiAll s.data.toList with
  | ok v =>
    have hv := Lib.atoiAll_bounds h
    refine .inl ⟨v, rfl, hv, ?_⟩
    split
    · rename_i e; rw [← e]; exact pI_of hv
    · rename_i e
      refine pI_no fun n hn e' => e ?_
      have := key n hn e'
      rw [h] at this
      injection this with this
      rw [this]; exact e'
  | «syntax» => exact .inr ⟨.inl rfl, pI_no fun n hn e => by have := key n hn e; rw [h] at this; cases this⟩
  | range => exact .inr ⟨.inr rfl, pI_no fun n hn e => by have := key n hn e; rw [h] at this; cases this⟩
end Go.Proofs.YtigepnpiofcooaaGreatDoor.Ax
namespace Go.Proofs.YtigepnpiofcooaaGreatDoor.Ax
open Go Go.RowKit
set_option linter.unusedSimpArgs false
end Go.Proofs.YtigepnpiofcooaaGreatDoor.Ax
namespace Go.Proofs
open Go.Shelf
def Tryz.laysIndex_ren : Go.Shelf.Ren := ⟨fun | 143 => 57 | 219 => 58 | 217 => 69 | 225 => 70 | 224 => 71 | 267 => 72 | 266 => 81 | 314 => 82 | n => n, fun | 9 => 9 | 3 => 3 | 4 => 4 | 5 => 5 | 46 => 87 | 146 => 106 | 51 => 105 | n => n, fun | 1 => 0 | n => n⟩
theorem Tryz.laysIndex : Go.Proofs.Lays.n143 Tryz.prog Tryz.laysIndex_ren := {
  mixed := by kernel_rfl
  f143 := Tryz.func57.trans (congrArg some (by kernel_rfl))
  f217 := Tryz.func69.trans (congrArg some (by kernel_rfl))
  f219 := Tryz.func58.trans (congrArg some (by kernel_rfl))
  f224 := Tryz.func71.trans (congrArg some (by kernel_rfl))
  f225 := Tryz.func70.trans (congrArg some (by kernel_rfl))
  f266 := Tryz.func81.trans (congrArg some (by kernel_rfl))
  f267 := Tryz.func72.trans (congrArg some (by kernel_rfl))
  f314 := Tryz.func82.trans (congrArg some (by kernel_rfl))
  t3 := Tryz.underlying3
  a3 := Tryz.isAgg3
  z3 := Tryz.sizeOf3
  v3 := Tryz.zeroValue3
  t4 := Tryz.underlying4
  a4 := Tryz.isAgg4
  z4 := Tryz.sizeOf4
  v4 := Tryz.zeroValue4
  t5 := Tryz.underlying5
  a5 := Tryz.isAgg5
  z5 := Tryz.sizeOf5
  v5 := Tryz.zeroValue5
  t9 := Tryz.underlying9
  a9 := Tryz.isAgg9
  z9 := Tryz.sizeOf9
  v9 := Tryz.zeroValue9
  t46 := Tryz.underlying87
  a46 := Tryz.isAgg87
  z46 := Tryz.sizeOf87
  v46 := Tryz.zeroValue87
  t51 := Tryz.underlying105
  a51 := Tryz.isAgg105
  z51 := Tryz.sizeOf105
  v51 := Tryz.zeroValue105
  t146 := Tryz.underlying106
  a146 := Tryz.isAgg106
  z146 := Tryz.sizeOf106
  v146 := Tryz.zeroValue106
  g1 := by kernel_rfl }
end Go.Proofs
namespace Go.Proofs.YtigepnpiofcooaaGreatDoor.Ax
open Go Go.RowKit
set_option linter.unusedSimpArgs false
noncomputable def mIxb : List AV → Option AV := mk (fun _ => True) (fun (p : ByteArray × UInt8) => [str p.1, str ⟨#[p.2]⟩]) (fun p => int (Lib.indexByte (bl p.1) p.2))
theorem mIxb_at (s : ByteArray) (c : UInt8) : mIxb [.v (.string s), .v (.string ⟨#[c]⟩)] = some (.v (.int .i64 (Lib.indexByte (bl s) c))) :=
  mk_eq (enc := fun (p : ByteArray × UInt8) => [str p.1, str ⟨#[p.2]⟩]) (x := (s, c)) (by
    rintro ⟨a, b⟩ ⟨a', b'⟩ h
    simp [str] at h
    rw [h.1, h.2]) trivial
theorem index_ok : FnOk Tryz.prog 57 mIxb := by
  refine mk_ok fun ⟨s, c⟩ _ => ?_
  refine ⟨⟨_, Tryz.func57, by kernel_rfl, by kernel_rfl⟩, fun w F vals hF hv => ?_⟩
  simp only [RepL, Rep, str] at hv
  obtain ⟨v1, r1, e1, ⟨rfl, _⟩, v2, r2, rfl, ⟨rfl, _⟩, rfl⟩ := hv
  have hvals : vals = #[.string s, .string ⟨#[c]⟩] := by apply Array.ext'; rw [e1]
  subst hvals
  refine (Go.Proofs.Any.strings_Index_one Tryz.laysIndex s c w).mono fun e w' h => ?_
  obtain ⟨rfl, rfl⟩ := h
  exact ⟨_, fun _ => False, rfl, Frm.refl _ _, fun _ h => h.elim, by simp [Own, int, Value.oneCell', bl]⟩
theorem idx_facts {l : List UInt8} {c : UInt8} : (Lib.indexByte l c = -1 ∧ ∀ x ∈ l, x ≠ c) ∨ ∃ k : Nat, Lib.indexByte l c = k ∧ ∃ h : k < l.length, l[k] = c ∧ ∀ j (hj : j < k), l[j] ≠ c := by
  induction l with
  | nil => exact .inl ⟨rfl, fun x hx => by simp at hx⟩
  | cons b l ih =>
    by_cases hb : b = c
    · subst hb
      exact .inr ⟨0, by simp [Lib.indexByte], by simp, rfl, fun j hj => by omega⟩
    · have hbb : (b == c) = false := by simpa using hb
      rcases ih with ⟨h1, h2⟩ | ⟨k, h1, h2, h3, h4⟩
      · refine .inl ⟨by simp [Lib.indexByte, hbb, h1], fun x hx => ?_⟩
        rcases List.mem_cons.1 hx with rfl | hx
        · exact hb
        · exact h2 x hx
      · refine .inr ⟨k + 1, ?_, by simp; exact h2, by simpa using h3, fun j hj => ?_⟩
        · have : ¬ ((k : Int) = -1) := by omega
          simp [Lib.indexByte, hbb, h1, this]
        · cases j with
          | zero => simpa using hb
          | succ j => simpa using h4 j (by omega)
end Go.Proofs.YtigepnpiofcooaaGreatDoor.Ax
namespace Go.Proofs.YtigepnpiofcooaaGreatDoor.Ax
open Go Go.RowKit
theorem bl_ex {s : ByteArray} {a b : Nat} : bl (s.extract a b) = ((bl s).take b).drop a := by
  unfold bl
  rw [ByteArray.data_extract, Array.toList_extract, List.extract_eq_take_drop]
  rw [List.drop_take]
theorem sp_none {s : ByteArray} {c : UInt8} : ∀ {i : Nat}, (∀ j, j < i → by1 s j ≠ c.toNat) → spL s c i = [] ∧ swF s c i = 0
  | 0, _ => ⟨rfl, rfl⟩
  | i + 1, h => by
    obtain ⟨h1, h2⟩ := sp_none (s := s) (c := c) (i := i) fun j hj => h j (by omega)
    have := h i (by omega)
    unfold spL swF
    rw [if_neg this, if_neg this]
    exact ⟨h1, h2⟩
theorem ex_all {s : ByteArray} : s.extract 0 s.size = s := by
  apply bl_inj
  rw [bl_ex, List.drop_zero, List.take_of_length_le (by rw [bl_size]; exact Nat.le_refl _)]
theorem split_none {s : ByteArray} {c : UInt8} (h : ∀ j, j < s.size → by1 s j ≠ c.toNat) : splitS s c = [s] := by
  obtain ⟨h1, h2⟩ := sp_none (s := s) (c := c) (i := s.size) h
  unfold splitS
  rw [h1, h2, ex_all]; rfl
theorem sp_some {s : ByteArray} {c : UInt8} {j : Nat} (_hj : j < s.size) (hc : by1 s j = c.toNat) (h : ∀ i, i < j → by1 s i ≠ c.toNat) : ∀ {i : Nat}, j + 1 + i ≤ s.size →
    spL s c (j + 1 + i) = s.extract 0 j :: spL (s.extract (j + 1) s.size) c i ∧ swF s c (j + 1 + i) = j + 1 + swF (s.extract (j + 1) s.size) c i := by
  intro i
  induction i with
  | zero =>
    intro _
    obtain ⟨h1, h2⟩ := sp_none (s := s) (c := c) (i := j) h
    simp only [Nat.add_zero, spL, swF]
    rw [if_pos hc, if_pos hc, h1, h2]
    exact ⟨rfl, rfl⟩
  | succ i ih =>
    intro hi
    obtain ⟨h1, h2⟩ := ih (by omega)
    have hb : by1 (s.extract (j + 1) s.size) i = by1 s (j + 1 + i) := by
      rw [by1_bl, by1_bl, bl_ex, List.getElem?_drop, List.getElem?_take, if_pos (by omega)]
    have he : (s.extract (j + 1) s.size).extract (swF (s.extract (j + 1) s.size) c i) i = s.extract (j + 1 + swF (s.extract (j + 1) s.size) c i) (j + 1 + i) := by
      apply bl_inj
      rw [bl_ex, bl_ex, bl_ex]
      rw [List.take_of_length_le (l := bl s) (by rw [bl_size]; exact Nat.le_refl _), List.take_drop, List.drop_drop]
    rw [show j + 1 + (i + 1) = (j + 1 + i) + 1 by omega]
    simp only [spL, swF]
    rw [hb, h1, h2, he]
    split
    · exact ⟨rfl, by omega⟩
    · exact ⟨rfl, rfl⟩
theorem split_some {s : ByteArray} {c : UInt8} {j : Nat} (hj : j < s.size) (hc : by1 s j = c.toNat) (h : ∀ i, i < j → by1 s i ≠ c.toNat) : splitS s c = s.extract 0 j :: splitS (s.extract (j + 1) s.size) c := by
  have hsz : (s.extract (j + 1) s.size).size = s.size - (j + 1) := by rw [ByteArray.size_extract]; omega
  obtain ⟨h1, h2⟩ := sp_some hj hc h (i := s.size - (j + 1)) (by omega)
  rw [show j + 1 + (s.size - (j + 1)) = s.size by omega] at h1 h2
  have he : (s.extract (j + 1) s.size).extract (swF (s.extract (j + 1) s.size) c (s.size - (j + 1))) (s.size - (j + 1)) = s.extract (j + 1 + swF (s.extract (j + 1) s.size) c (s.size - (j + 1))) s.size := by
    apply bl_inj
    rw [bl_ex, bl_ex, bl_ex]
    rw [List.take_of_length_le (l := bl s) (by rw [bl_size]; exact Nat.le_refl _), List.take_drop, List.drop_drop, show j + 1 + (s.size - (j + 1)) = s.size by omega, List.take_of_length_le (l := bl s) (by rw [bl_size]; exact Nat.le_refl _)]
  unfold splitS
  rw [hsz, h1, h2, he]; rfl
theorem split_idx {s : ByteArray} {c : UInt8} : (Lib.indexByte (bl s) c = -1 ∧ splitS s c = [s]) ∨ ∃ j : Nat, Lib.indexByte (bl s) c = j ∧ j < s.size ∧ splitS s c = s.extract 0 j :: splitS (s.extract (j + 1) s.size) c := by
  rcases idx_facts (l := bl s) (c := c) with ⟨h1, h2⟩ | ⟨j, h1, h2, h3, h4⟩
  · refine .inl ⟨h1, split_none fun j hj e => ?_⟩
    have hj' : j < (bl s).length := by rw [bl_size]; exact hj
    rw [by1_bl, List.getElem?_eq_getElem hj'] at e
    exact h2 _ (List.getElem_mem hj') (UInt8.toNat_inj.1 e)
  · have hj : j < s.size := by rw [← bl_size]; exact h2
    refine .inr ⟨j, h1, hj, split_some hj ?_ fun i hi e => ?_⟩
    · rw [by1_bl, List.getElem?_eq_getElem h2, Option.getD_some, h3]
    · have hi' : i < (bl s).length := by omega
      rw [by1_bl, List.getElem?_eq_getElem hi'] at e
      exact h4 i hi (UInt8.toNat_inj.1 e)
end Go.Proofs.YtigepnpiofcooaaGreatDoor.Ax
