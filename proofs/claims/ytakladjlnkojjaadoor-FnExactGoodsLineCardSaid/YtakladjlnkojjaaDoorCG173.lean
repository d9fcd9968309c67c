/-
  Contracts: the number and the product of what the goods are worth to those who get them; the closures of MostProduct and CountEnvyFree. No condition.
-/
import Derived.Test.YtakladjlnkojjaaDoorCG172
namespace Go.Proofs.YtakladjlnkojjaaDoor.Ax
open Go Go.RowKit
set_option linter.unusedSimpArgs false

noncomputable def mProdS : List AV → Option AV := mk (fun p => rectB p.2.1 3 6 100 = true ∧ p.2.2.2.length ≤ wid p.2.1) (fun (p : (Bool) × (List (Bool × List Int)) × (Bool) × (List Int)) => [intss p.1 p.2.1, ints p.2.2.1 p.2.2.2]) (fun p => .tup [.v (.int .i64 (prA p.2.1 p.2.2.2).1), .v (.int .i64 (prA p.2.1 p.2.2.2).2)])
theorem mProdS_at (nl : Bool) (xss : List (Bool × List Int)) (nl' : Bool) (l : List Int) (hpre : rectB xss 3 6 100 = true ∧ l.length ≤ wid xss) : mProdS [.sl nl 1 (xss.map row), .sl nl' 1 (l.map int)] = some (.tup [.v (.int .i64 (prA xss l).1), .v (.int .i64 (prA xss l).2)]) :=
  mk_eq (enc := fun (p : (Bool) × (List (Bool × List Int)) × (Bool) × (List Int)) => [intss p.1 p.2.1, ints p.2.2.1 p.2.2.2]) (x := (nl, xss, nl', l)) (by rintro ⟨a0, a1, a2, a3⟩ ⟨b0, b1, b2, b3⟩ h; simp [ints, intss, int, bool, row, frac, fracs, map_int_inj, map_row_inj, frac_inj, map_frac_inj] at h; simp [h]) hpre

noncomputable def mProdC : List AV → Option AV := mk (fun p => rectB p.2.2.2 3 6 100 = true ∧ p.2.1.length ≤ wid p.2.2.2) (fun (p : Bool × List Int × Bool × List (Bool × List Int)) => [ints p.1 p.2.1, .fp (intss p.2.2.1 p.2.2.2) 0]) (fun p => ints false [(prA p.2.2.2 p.2.1).1, (prA p.2.2.2 p.2.1).2])
theorem mProdC_at (nl' : Bool) (l : List Int) (nl : Bool) (xss : List (Bool × List Int)) (h : rectB xss 3 6 100 = true ∧ l.length ≤ wid xss) : mProdC [.sl nl' 1 (l.map int), .fp (.sl nl 1 (xss.map row)) 0] = some (.sl false 1 [.v (.int .i64 (prA xss l).1), .v (.int .i64 (prA xss l).2)]) :=
  mk_eq (enc := fun (p : Bool × List Int × Bool × List (Bool × List Int)) => [ints p.1 p.2.1, .fp (intss p.2.2.1 p.2.2.2) 0]) (x := (nl', l, nl, xss)) (by rintro ⟨a, b, c, d⟩ ⟨e, f, g, i⟩ h; simp [ints, intss, map_int_inj, map_row_inj] at h; simp [h]) h

set_option maxHeartbeats 1000000 in
theorem l23Product_ok : FnOk Tryd.prog 57 mProdS := by
  refine mk_ok fun ⟨nl,xss,nl',l⟩ ⟨h1, h2⟩ => ?_
  simp only at h1 h2
  have hG : FnsOk Tryd.prog [(89, mWorth)] := (.cons l23Worth_ok .nil)
  refine callOk_awp (ctx_ok eqOk hG) mixed (live := [true, true, false, false, true, true, true, true, true, true, false, true, true, true, false, false, false, false, false, false, false, true]) (dt := []) Tryd.func57 rfl (by kernel_rfl) (by kernel_rfl) fun w0 hlens => ?_
  clear hlens
  have hlen := rect_len h1
  have hA : prA xss l = prT xss l xss.length := rfl
  rw [hA]
  simp [Tryd.f57, List.range, List.range.loop, ints, intss, int, bool, row, frac, fracs, ← List.map_take, ← List.map_drop]
  refine awp_range (live := [true, true, false, false, true, true, true, true, true, true, false, true, true, true, false, false, false, false, false, false, false, true]) (ctx_ok eqOk hG) mixed [true, true, false, false, false, false, true, true, false, false, false, true, true] (xss.length) (fun k => True) (fun k => ⟨[intss nl xss, ints nl' l, .junk, .junk, .junk, .junk, int (prT xss l k).1, int (prT xss l k).2, .junk, .junk, .junk, int xss.length, int k, .junk, .junk, .junk, .junk, .junk, .junk, .junk, .junk, .junk, .junk, .junk, .junk, .junk, .junk, .junk, .junk, .junk], []⟩) ?_ (by simp [sub, slotsLe, clean, keep, refsL, refs, once, place, renL, ren, List.replicate, int, bool, intss, ints, prT]) ?_ ?_ ?_
  · omega
  · trivial
  · intro k hk _ hwk
    have hw := mWorth_at nl xss nl' l k k (wo6_pre h1 h2 hk)
    have hb := wo6 h1 hk h2 (v := (k : Int))
    obtain ⟨b1, b2, b3, b4⟩ := prT_small h1 h2 (k := k) (by omega)
    obtain ⟨c1, c2, c3, c4⟩ := prT_small h1 h2 (k := k + 1) (by omega)
    by_cases hp : 0 < wo xss l k k
    · have e : prT xss l (k + 1) = ((prT xss l k).1 + 1, (prT xss l k).2 * wo xss l k k) := by rw [prT, if_pos hp]
      rw [e] at c1 c2 c3 c4
      have w1 : IntKind.i64.wrap ((prT xss l k).1 + 1) = (prT xss l k).1 + 1 := wrapI (by omega) (by omega)
      simp only at c3 c4
      have w2 : IntKind.i64.wrap ((prT xss l k).2 * wo xss l k k) = (prT xss l k).2 * wo xss l k k := wrapI (by omega) (by omega)
      simp [List.range, List.range.loop, ints, intss, int, bool, row, frac, fracs, ← List.map_take, ← List.map_drop, hk, hwk, hw, hp, w1, w2, e]
    · have e : prT xss l (k + 1) = prT xss l k := by rw [prT, if_neg hp]
      simp [List.range, List.range.loop, ints, intss, int, bool, row, frac, fracs, ← List.map_take, ← List.map_drop, hk, hwk, hw, hp, e]
  · intro _
    simp [List.range, List.range.loop, ints, intss, int, bool, row, frac, fracs, ← List.map_take, ← List.map_drop]

set_option maxHeartbeats 1000000 in
theorem mostProduct1_ok : FnOk Tryd.prog 64 mProdC := by
  refine mk_ok fun ⟨nl',l,nl,xss⟩ ⟨h1, h2⟩ => ?_
  simp only at h1 h2
  have hG : FnsOk Tryd.prog [(65, mWorth)] := (.cons worth_ok .nil)
  refine callOk_awp (ctx_ok eqOk hG) mixed (live := [true, true, false, true, true, true, true, true, false, true, true, true, false, false, false, false, false, false, false, true]) (dt := []) Tryd.func64 rfl (by kernel_rfl) (by kernel_rfl) fun w0 hlens => ?_
  clear hlens
  have hlen := rect_len h1
  have hA : prA xss l = prT xss l xss.length := rfl
  rw [hA]
  simp [Tryd.f64, List.range, List.range.loop, ints, intss, int, bool, row, frac, fracs, ← List.map_take, ← List.map_drop]
  refine awp_range (live := [true, true, false, true, true, true, true, true, false, true, true, true, false, false, false, false, false, false, false, true]) (ctx_ok eqOk hG) mixed [true, true, false, false, true, true, false, false, false, true, true] (xss.length) (fun k => True) (fun k => ⟨[ints nl' l, .fp (intss nl xss) 0, .junk, .junk, int (prT xss l k).1, int (prT xss l k).2, .junk, .junk, .junk, int xss.length, int k, .junk, .junk, .junk, .junk, .junk, .junk, .junk, .junk, .junk, .junk, .junk, .junk, .junk, .junk, .junk, .junk, .junk, .junk], []⟩) ?_ (by simp [sub, slotsLe, clean, keep, refsL, refs, once, place, renL, ren, List.replicate, int, bool, intss, ints, prT]) ?_ ?_ ?_
  · omega
  · trivial
  · intro k hk _ hwk
    have hw := mWorth_at nl xss nl' l k k (wo6_pre h1 h2 hk)
    have hb := wo6 h1 hk h2 (v := (k : Int))
    obtain ⟨b1, b2, b3, b4⟩ := prT_small h1 h2 (k := k) (by omega)
    obtain ⟨c1, c2, c3, c4⟩ := prT_small h1 h2 (k := k + 1) (by omega)
    by_cases hp : 0 < wo xss l k k
    · have e : prT xss l (k + 1) = ((prT xss l k).1 + 1, (prT xss l k).2 * wo xss l k k) := by rw [prT, if_pos hp]
      rw [e] at c1 c2 c3 c4
      have w1 : IntKind.i64.wrap ((prT xss l k).1 + 1) = (prT xss l k).1 + 1 := wrapI (by omega) (by omega)
      simp only at c3 c4
      have w2 : IntKind.i64.wrap ((prT xss l k).2 * wo xss l k k) = (prT xss l k).2 * wo xss l k k := wrapI (by omega) (by omega)
      simp [List.range, List.range.loop, ints, intss, int, bool, row, frac, fracs, ← List.map_take, ← List.map_drop, hk, hwk, hw, hp, w1, w2, e]
    · have e : prT xss l (k + 1) = prT xss l k := by rw [prT, if_neg hp]
      simp [List.range, List.range.loop, ints, intss, int, bool, row, frac, fracs, ← List.map_take, ← List.map_drop, hk, hwk, hw, hp, e]
  · intro _
    simp [List.range, List.range.loop, ints, intss, int, bool, row, frac, fracs, ← List.map_take, ← List.map_drop]

noncomputable def mFreeC : List AV → Option AV := mk (fun p => rectB p.2.2.2 3 6 100 = true ∧ p.2.1.length ≤ wid p.2.2.2) (fun (p : Bool × List Int × Bool × List (Bool × List Int)) => [ints p.1 p.2.1, .fp (intss p.2.2.1 p.2.2.2) 0]) (fun p => bool (frB p.2.2.2 p.2.1))
theorem mFreeC_at (nl' : Bool) (l : List Int) (nl : Bool) (xss : List (Bool × List Int)) (h : rectB xss 3 6 100 = true ∧ l.length ≤ wid xss) : mFreeC [.sl nl' 1 (l.map int), .fp (.sl nl 1 (xss.map row)) 0] = some (.v (.bool (frB xss l))) :=
  mk_eq (enc := fun (p : Bool × List Int × Bool × List (Bool × List Int)) => [ints p.1 p.2.1, .fp (intss p.2.2.1 p.2.2.2) 0]) (x := (nl', l, nl, xss)) (by rintro ⟨a, b, c, d⟩ ⟨e, f, g, i⟩ h; simp [ints, intss, map_int_inj, map_row_inj] at h; simp [h]) h
theorem countFree1_ok : FnOk Tryd.prog 69 mFreeC := by
  refine mk_ok fun ⟨nl', l, nl, xss⟩ h => ?_
  simp only at h
  have hG : FnsOk Tryd.prog [(70, mFree)] := (.cons isFree_ok .nil)
  refine callOk_awp (ctx_ok eqOk hG) mixed (live := [true, true, false, true]) (dt := []) Tryd.func69 rfl (by kernel_rfl) (by kernel_rfl) fun w0 hlens => ?_
  clear hlens
  have hf := mFree_at nl xss nl' l h
  simp [Tryd.f69, List.range, List.range.loop, ints, intss, int, bool, row, frac, fracs, ← List.map_take, ← List.map_drop, hf]

end Go.Proofs.YtakladjlnkojjaaDoor.Ax
