/-
  Contracts: LeastRaises (both programs), behind valid values and a choice of rooms. No condition.
-/
import Derived.Test.YtpjejdebdhgngaaCG92
namespace Go.Proofs.Ytpjejdebdhgngaa.Ax
open Go Go.RowKit
set_option linter.unusedSimpArgs false

def lrA : Option (List Int) → AV
  | some r => .tup [.sl false 1 (r.map int), .v (.bool true)]
  | none => .tup [.sl true 1 [], .v (.bool false)]
noncomputable def mLR : List AV → Option AV := mk (fun p => rentB p.2.1 = true ∧ rankB p.2.1.length p.2.2.2 = true) (fun (p : Bool × List (Bool × List Int) × Bool × List Int) => [intss p.1 p.2.1, ints p.2.2.1 p.2.2.2]) (fun p => lrA (lrF (vR p.2.1) (oR p.2.2.2) p.2.1.length))
theorem mLR_at (nl : Bool) (xss : List (Bool × List Int)) (nl1 : Bool) (l : List Int) (h : rentB xss = true ∧ rankB xss.length l = true) : mLR [.sl nl 1 (xss.map row), .sl nl1 1 (l.map int)] = some (lrA (lrF (vR xss) (oR l) xss.length)) :=
  mk_eq (enc := fun (p : Bool × List (Bool × List Int) × Bool × List Int) => [intss p.1 p.2.1, ints p.2.2.1 p.2.2.2]) (x := (nl, xss, nl1, l)) (by rintro ⟨a, b, c, d⟩ ⟨e, f, g, i⟩ h; simp [intss, ints, map_row_inj, map_int_inj] at h; simp [h]) h

set_option maxRecDepth 8000 in
set_option maxHeartbeats 4000000 in
theorem implLeast_ok : FnOk Try.prog 51 mLR := by
  refine mk_ok fun ⟨nl, xss, nl1, l⟩ hp => ?_
  obtain ⟨h, hk⟩ := hp
  simp only at h hk
  obtain ⟨h1, h4, hrow⟩ := rent_facts h
  have hll : l.length = xss.length := by have := rank_len hk; omega
  have hlo : ∀ i (hi : i < l.length), l[i] = (oR l i : Int) ∧ oR l i < xss.length := fun i hi => by
    have := rank_in hk hi
    have e : l.getD i 0 = l[i] := by simp [List.getD_eq_getElem?_getD, hi]
    unfold oR; rw [e]; omega
  have hb : 8 * xss.length ≤ 281474976710656 ∧ xss.length ≤ 4611686018427387904 ∧ xss.length ≤ 281474976710656 := by omega
  have hwn : IntKind.i64.wrap ((xss.length : Int) + 1) = (xss.length : Int) + 1 := wrapI (by omega) (by omega)
  have hrs0 : (rs (vR xss) (oR l) xss.length 0).map int = List.replicate xss.length (.v (.int .i64 0)) := by simp [rs, int]
  have hLat := fun k => lrF_at (V := vR xss) (O := oR l) (n := xss.length) (k := k)
  have hLno := lrF_none (V := vR xss) (O := oR l) (n := xss.length)
  simp only
  generalize lrF (vR xss) (oR l) xss.length = lr at hLat hLno ⊢
  have hG : FnsOk Try.prog [(49, mRent), (70, mRank)] := (.cons implRentOk_ok (.cons implRankingOk_ok .nil))
  refine callOk_awp (ctx_ok eqOk hG) mixed (live := [true, true, false, false, true, true, true, true, true, true, true, true, false, false, false, false, false, false, false, false, false, true, false, false, false, false, false, true, true, true, true, true, true, true, false, false, false, false, true, true, true, false, false, false, false, false, false, false, false, false, false, false, false, false, false, false, false, false, false, false, false, false, false, false, false, false, false, true, false, false, false, false, false, false, false, true]) (dt := [(13, ⟨[], [], []⟩)]) Try.func51 rfl (by kernel_rfl) (by kernel_rfl) fun w0 hlens => ?_
  clear hlens
  simp (config := {contextual := true}) [Try.f51, List.range, List.range.loop, ints, intss, int, bool, row, frac, fracs, ← List.map_take, ← List.map_drop, mRent_at, mRank_at, mL25Ok_at, h, hk, hb, hwn, hll]
  refine awp_range (live := [true, true, false, false, true, true, true, true, true, true, true, true, false, false, false, false, false, false, false, false, false, true, false, false, false, false, false, true, true, true, true, true, true, true, false, false, false, false, true, true, true, false, false, false, false, false, false, false, false, false, false, false, false, false, false, false, false, false, false, false, false, false, false, false, false, false, false, true, false, false, false, false, false, false, false, true]) (ctx_ok eqOk hG) mixed [true, true, false, false, false, false, true, false, false, false, false, false, false, false, false, false, false, false, false, false, false, false, false, false, false, false, false, true, true] (xss.length + 1) (fun k => ∀ j, j < k → quiet (vR xss) (oR l) xss.length j = false) (fun k => ⟨[intss nl xss, ints nl1 l, .junk, .junk, .junk, .junk, .ref 0 [] 0 xss.length, .junk, .junk, .junk, .junk, .junk, .junk, .junk, .junk, .junk, .junk, .junk, .junk, .junk, .junk, .junk, .junk, .junk, .junk, .junk, .junk, int ((xss.length : Int) + 1), int k, .junk, .junk, .junk, .junk, .junk, .junk, .junk, .junk, .junk, .junk, .junk, .junk, .junk, .junk, .junk, .junk, .junk, .junk, .junk, .junk, .junk, .junk, .junk, .junk, .junk, .junk, .junk, .junk, .junk, .junk, .junk, .junk, .junk, .junk, .junk, .junk, .junk, .junk, .junk, .junk, .junk, .junk, .junk, .junk, .junk, .junk, .junk, .junk, .junk], [⟨true, .sl false 1 ((rs (vR xss) (oR l) xss.length k).map int)⟩]⟩) ?_ (by simp [sub, slotsLe, clean, keep, refsL, refs, once, place, renL, ren, List.replicate, int, bool, hrs0, intss, ints]) ?_ ?_ ?_
  · omega
  · intro j hj; omega
  · intro k hkn hno hwk
    have hkn' : (k : Int) < (xss.length : Int) + 1 := by omega
    have hkn2 : (k : Int) ≤ (xss.length : Int) := by omega
    have hkn3 : k ≤ xss.length := by omega
    simp (config := {contextual := true}) [List.range, List.range.loop, ints, intss, int, bool, row, frac, fracs, ← List.map_take, ← List.map_drop, hkn', hkn2, hkn3, hll]
    refine awp_range (live := [true, true, false, false, true, true, true, true, true, true, true, true, false, false, false, false, false, false, false, false, false, true, false, false, false, false, false, true, true, true, true, true, true, true, false, false, false, false, true, true, true, false, false, false, false, false, false, false, false, false, false, false, false, false, false, false, false, false, false, false, false, false, false, false, false, false, false, true, false, false, false, false, false, false, false, true]) (ctx_ok eqOk hG) mixed [true, true, false, false, false, false, true, true, false, false, false, false, false, false, false, false, false, false, false, false, false, false, false, false, false, false, false, true, true, false, true, true, true] (xss.length) (fun i => True) (fun i => ⟨[intss nl xss, ints nl1 l, .junk, .junk, .junk, .junk, .ref 0 [] 0 xss.length, bool (rnd (vR xss) (oR l) xss.length (rs (vR xss) (oR l) xss.length k, false) i).2, .junk, .junk, .junk, .junk, .junk, .junk, .junk, .junk, .junk, .junk, .junk, .junk, .junk, .junk, .junk, .junk, .junk, .junk, .junk, int ((xss.length : Int) + 1), int k, .junk, ints nl1 l, int xss.length, int i, .junk, .junk, .junk, .junk, .junk, .junk, .junk, .junk, .junk, .junk, .junk, .junk, .junk, .junk, .junk, .junk, .junk, .junk, .junk, .junk, .junk, .junk, .junk, .junk, .junk, .junk, .junk, .junk, .junk, .junk, .junk, .junk, .junk, .junk, .junk, .junk, .junk, .junk, .junk, .junk, .junk, .junk, .junk, .junk, .junk], [⟨true, .sl false 1 ((rnd (vR xss) (oR l) xss.length (rs (vR xss) (oR l) xss.length k, false) i).1.map int)⟩]⟩) ?_ (by simp [sub, slotsLe, clean, keep, refsL, refs, once, place, renL, ren, List.replicate, int, bool, rnd, intss, ints]) ?_ ?_ ?_
    · omega
    · trivial
    · intro i hi _ hwi
      have hil : i < l.length := by omega
      obtain ⟨e1, e2⟩ := hlo i hil
      have hrl : (rnd (vR xss) (oR l) xss.length (rs (vR xss) (oR l) xss.length k, false) i).1.length = xss.length := by rw [rnd_len]; exact rs_len
      have hrn : rnd (vR xss) (oR l) xss.length (rs (vR xss) (oR l) xss.length k, false) (i + 1) = rlx (vR xss) (oR l i) i (rnd (vR xss) (oR l) xss.length (rs (vR xss) (oR l) xss.length k, false) i) xss.length := rfl
      rw [hrn]
      generalize rnd (vR xss) (oR l) xss.length (rs (vR xss) (oR l) xss.length k, false) i = s at hrl ⊢
      obtain ⟨hri, _⟩ := hrow i hi
      have v2 : xss[i].2[oR l i]'(by omega) = vR xss i (oR l i) := by unfold vR; simp [List.getD_eq_getElem?_getD, hi, hri, e2]
      simp (config := {contextual := true}) [List.range, List.range.loop, ints, intss, int, bool, row, frac, fracs, ← List.map_take, ← List.map_drop, hi, hil, e1, hll, hrl]
      refine awp_range (live := [true, true, false, false, true, true, true, true, true, true, true, true, false, false, false, false, false, false, false, false, false, true, false, false, false, false, false, true, true, true, true, true, true, true, false, false, false, false, true, true, true, false, false, false, false, false, false, false, false, false, false, false, false, false, false, false, false, false, false, false, false, false, false, false, false, false, false, true, false, false, false, false, false, false, false, true]) (ctx_ok eqOk hG) mixed [true, true, false, false, false, false, true, true, true, true, false, false, false, false, false, false, false, false, false, false, false, false, false, false, false, false, false, true, true, false, true, true, true, false, false, false, false, false, true, true] (xss.length) (fun x => True) (fun x => ⟨[intss nl xss, ints nl1 l, .junk, .junk, .junk, .junk, .ref 0 [] 0 xss.length, bool (rlx (vR xss) (oR l i) i s x).2, int i, int (oR l i), .junk, .junk, .junk, .junk, .junk, .junk, .junk, .junk, .junk, .junk, .junk, .junk, .junk, .junk, .junk, .junk, .junk, int ((xss.length : Int) + 1), int k, .junk, ints nl1 l, int xss.length, int i, .junk, .junk, .junk, .junk, .junk, int xss.length, int x, .junk, .junk, .junk, .junk, .junk, .junk, .junk, .junk, .junk, .junk, .junk, .junk, .junk, .junk, .junk, .junk, .junk, .junk, .junk, .junk, .junk, .junk, .junk, .junk, .junk, .junk, .junk, .junk, .junk, .junk, .junk, .junk, .junk, .junk, .junk, .junk, .junk, .junk], [⟨true, .sl false 1 ((rlx (vR xss) (oR l i) i s x).1.map int)⟩]⟩) ?_ (by simp [sub, slotsLe, clean, keep, refsL, refs, once, place, renL, ren, List.replicate, int, bool, rlx, intss, ints, hrl]) ?_ ?_ ?_
      · omega
      · trivial
      · intro x hx _ hwx
        have hl2 : (rlx (vR xss) (oR l i) i s x).1.length = xss.length := by rw [rlx_len]; exact hrl
        have hr2 : rlx (vR xss) (oR l i) i s (x + 1) = relax (vR xss) (oR l i) i x (rlx (vR xss) (oR l i) i s x) := rfl
        rw [hr2]
        generalize rlx (vR xss) (oR l i) i s x = s2 at hl2 ⊢
        have g1 : s2.1[oR l i]'(by omega) = at0 s2.1 (oR l i) := (at0_eq _).symm
        have g2 : s2.1[x]'(by omega) = at0 s2.1 x := (at0_eq _).symm
        have v1 : xss[i].2[x]'(by omega) = vR xss i x := by unfold vR; simp [List.getD_eq_getElem?_getD, hi, hri, hx]
        have hxr : x < xss[i].2.length := by omega
        have hor : oR l i < xss[i].2.length := by omega
        have hrv : rlv (vR xss) (oR l i) i x s2.1 = IntKind.i64.wrap (IntKind.i64.wrap (at0 s2.1 (oR l i) + vR xss i x) - vR xss i (oR l i)) := rfl
        by_cases hlt : at0 s2.1 x < rlv (vR xss) (oR l i) i x s2.1
        · have hre : relax (vR xss) (oR l i) i x s2 = (s2.1.set x (rlv (vR xss) (oR l i) i x s2.1), true) := by unfold relax; rw [if_pos hlt]
          rw [hre, hrv]
          rw [hrv] at hlt
          simp (config := {contextual := true}) [List.range, List.range.loop, ints, intss, int, bool, row, frac, fracs, ← List.map_take, ← List.map_drop, hx, hi, hl2, e2, g1, g2, v1, v2, hxr, hor, hlt, hwx]
          done
        · have hre : relax (vR xss) (oR l i) i x s2 = s2 := by unfold relax; rw [if_neg hlt]
          rw [hre]
          rw [hrv] at hlt
          simp (config := {contextual := true}) [List.range, List.range.loop, ints, intss, int, bool, row, frac, fracs, ← List.map_take, ← List.map_drop, hx, hi, hl2, e2, g1, g2, v1, v2, hxr, hor, hlt, hwx]
          done
      · intro _
        have hl2 : (rlx (vR xss) (oR l i) i s xss.length).1.length = xss.length := by rw [rlx_len]; exact hrl
        simp (config := {contextual := true}) [List.range, List.range.loop, ints, intss, int, bool, row, frac, fracs, ← List.map_take, ← List.map_drop, hl2, hwi]
        done
    · intro _
      have hrl : (rs (vR xss) (oR l) xss.length (k + 1)).length = xss.length := rs_len
      have hq : quiet (vR xss) (oR l) xss.length k = !(rnd (vR xss) (oR l) xss.length (rs (vR xss) (oR l) xss.length k, false) xss.length).2 := rfl
      have hrk : rs (vR xss) (oR l) xss.length (k + 1) = (rnd (vR xss) (oR l) xss.length (rs (vR xss) (oR l) xss.length k, false) xss.length).1 := rfl
      have hLk := hLat k (by omega) hno
      rw [← hrk]
      cases hc : (rnd (vR xss) (oR l) xss.length (rs (vR xss) (oR l) xss.length k, false) xss.length).2 with
      | false =>
        rw [hc] at hq
        have hLk := hLk hq
        simp (config := {contextual := true}) [List.range, List.range.loop, ints, intss, int, bool, row, frac, fracs, ← List.map_take, ← List.map_drop, hLk, hrl, lrA]
        done
      | true =>
        rw [hc] at hq
        simp (config := {contextual := true}) [List.range, List.range.loop, ints, intss, int, bool, row, frac, fracs, ← List.map_take, ← List.map_drop, hwk, hrl]
        exact fun j hj => by
          by_cases e : j = k
          · subst e; exact hq
          · exact hno j (by omega)
  · intro hno
    have hLn := hLno hno
    have hnn : ¬ ((xss.length : Int) + 1 ≤ (xss.length : Int)) := by omega
    simp (config := {contextual := true}) [List.range, List.range.loop, ints, intss, int, bool, row, frac, fracs, ← List.map_take, ← List.map_drop, hLn, hll, lrA, hnn]
    done

set_option maxRecDepth 8000 in
set_option maxHeartbeats 4000000 in
theorem specLeast_ok : FnOk Try.prog 44 mLR := by
  refine mk_ok fun ⟨nl, xss, nl1, l⟩ hp => ?_
  obtain ⟨h, hk⟩ := hp
  simp only at h hk
  obtain ⟨h1, h4, hrow⟩ := rent_facts h
  have hll : l.length = xss.length := by have := rank_len hk; omega
  have hlo : ∀ i (hi : i < l.length), l[i] = (oR l i : Int) ∧ oR l i < xss.length := fun i hi => by
    have := rank_in hk hi
    have e : l.getD i 0 = l[i] := by simp [List.getD_eq_getElem?_getD, hi]
    unfold oR; rw [e]; omega
  have hb : 8 * xss.length ≤ 281474976710656 ∧ xss.length ≤ 4611686018427387904 ∧ xss.length ≤ 281474976710656 := by omega
  have hwn : IntKind.i64.wrap ((xss.length : Int) + 1) = (xss.length : Int) + 1 := wrapI (by omega) (by omega)
  have hrs0 : (rs (vR xss) (oR l) xss.length 0).map int = List.replicate xss.length (.v (.int .i64 0)) := by simp [rs, int]
  have hLat := fun k => lrF_at (V := vR xss) (O := oR l) (n := xss.length) (k := k)
  have hLno := lrF_none (V := vR xss) (O := oR l) (n := xss.length)
  simp only
  generalize lrF (vR xss) (oR l) xss.length = lr at hLat hLno ⊢
  have hG : FnsOk Try.prog [(97, mL25Ok)] := (.cons l25Ok_ok .nil)
  refine callOk_awp (ctx_ok eqOk hG) mixed (live := [true, true, false, false, true, true, true, true, true, true, true, true, true, false, false, false, true, false, false, false, false, false, false, true, false, false, true, true, true, true, false, false, false, false, true, true, true, false, false, false, false, false, false, false, false, false, false, false, false, false, false, false, false, false, false, false, false, false, false, false, false, false, false, true, false, false, false, false, false, false, false, true]) (dt := [(14, ⟨[], [], []⟩)]) Try.func44 rfl (by kernel_rfl) (by kernel_rfl) fun w0 hlens => ?_
  clear hlens
  simp (config := {contextual := true}) [Try.f44, List.range, List.range.loop, ints, intss, int, bool, row, frac, fracs, ← List.map_take, ← List.map_drop, mRent_at, mRank_at, mL25Ok_at, h, hk, hb, hwn, hll]
  refine awp_range (live := [true, true, false, false, true, true, true, true, true, true, true, true, true, false, false, false, true, false, false, false, false, false, false, true, false, false, true, true, true, true, false, false, false, false, true, true, true, false, false, false, false, false, false, false, false, false, false, false, false, false, false, false, false, false, false, false, false, false, false, false, false, false, false, true, false, false, false, false, false, false, false, true]) (ctx_ok eqOk hG) mixed [true, true, false, false, false, false, true, true] (xss.length + 1) (fun k => ∀ j, j < k → quiet (vR xss) (oR l) xss.length j = false) (fun k => ⟨[intss nl xss, ints nl1 l, .junk, .junk, .junk, .junk, .ref 0 [] 0 xss.length, int k, .junk, .junk, .junk, .junk, .junk, .junk, .junk, .junk, .junk, .junk, .junk, .junk, .junk, .junk, .junk, .junk, .junk, .junk, .junk, .junk, .junk, .junk, .junk, .junk, .junk, .junk, .junk, .junk, .junk, .junk, .junk, .junk, .junk, .junk, .junk, .junk, .junk, .junk, .junk, .junk, .junk, .junk, .junk, .junk, .junk, .junk, .junk, .junk, .junk, .junk, .junk, .junk, .junk, .junk, .junk, .junk, .junk, .junk, .junk, .junk, .junk, .junk, .junk, .junk, .junk], [⟨true, .sl false 1 ((rs (vR xss) (oR l) xss.length k).map int)⟩]⟩) ?_ (by simp [sub, slotsLe, clean, keep, refsL, refs, once, place, renL, ren, List.replicate, int, bool, hrs0, intss, ints]) ?_ ?_ ?_
  · omega
  · intro j hj; omega
  · intro k hkn hno hwk
    have hkn' : (k : Int) < (xss.length : Int) + 1 := by omega
    have hkn2 : (k : Int) ≤ (xss.length : Int) := by omega
    have hkn3 : k ≤ xss.length := by omega
    simp (config := {contextual := true}) [List.range, List.range.loop, ints, intss, int, bool, row, frac, fracs, ← List.map_take, ← List.map_drop, hkn', hkn2, hkn3, hll]
    refine awp_range (live := [true, true, false, false, true, true, true, true, true, true, true, true, true, false, false, false, true, false, false, false, false, false, false, true, false, false, true, true, true, true, false, false, false, false, true, true, true, false, false, false, false, false, false, false, false, false, false, false, false, false, false, false, false, false, false, false, false, false, false, false, false, false, false, true, false, false, false, false, false, false, false, true]) (ctx_ok eqOk hG) mixed [true, true, false, false, false, false, true, true, true, false, false, false, false, false, false, false, false, false, false, false, false, false, false, false, false, false, true, true, true] (xss.length) (fun i => True) (fun i => ⟨[intss nl xss, ints nl1 l, .junk, .junk, .junk, .junk, .ref 0 [] 0 xss.length, int k, bool (rnd (vR xss) (oR l) xss.length (rs (vR xss) (oR l) xss.length k, false) i).2, .junk, .junk, .junk, .junk, .junk, .junk, .junk, .junk, .junk, .junk, .junk, .junk, .junk, .junk, .junk, .junk, .junk, ints nl1 l, int xss.length, int i, .junk, .junk, .junk, .junk, .junk, .junk, .junk, .junk, .junk, .junk, .junk, .junk, .junk, .junk, .junk, .junk, .junk, .junk, .junk, .junk, .junk, .junk, .junk, .junk, .junk, .junk, .junk, .junk, .junk, .junk, .junk, .junk, .junk, .junk, .junk, .junk, .junk, .junk, .junk, .junk, .junk, .junk, .junk, .junk], [⟨true, .sl false 1 ((rnd (vR xss) (oR l) xss.length (rs (vR xss) (oR l) xss.length k, false) i).1.map int)⟩]⟩) ?_ (by simp [sub, slotsLe, clean, keep, refsL, refs, once, place, renL, ren, List.replicate, int, bool, rnd, intss, ints]) ?_ ?_ ?_
    · omega
    · trivial
    · intro i hi _ hwi
      have hil : i < l.length := by omega
      obtain ⟨e1, e2⟩ := hlo i hil
      have hrl : (rnd (vR xss) (oR l) xss.length (rs (vR xss) (oR l) xss.length k, false) i).1.length = xss.length := by rw [rnd_len]; exact rs_len
      have hrn : rnd (vR xss) (oR l) xss.length (rs (vR xss) (oR l) xss.length k, false) (i + 1) = rlx (vR xss) (oR l i) i (rnd (vR xss) (oR l) xss.length (rs (vR xss) (oR l) xss.length k, false) i) xss.length := rfl
      rw [hrn]
      generalize rnd (vR xss) (oR l) xss.length (rs (vR xss) (oR l) xss.length k, false) i = s at hrl ⊢
      obtain ⟨hri, _⟩ := hrow i hi
      have v2 : xss[i].2[oR l i]'(by omega) = vR xss i (oR l i) := by unfold vR; simp [List.getD_eq_getElem?_getD, hi, hri, e2]
      simp (config := {contextual := true}) [List.range, List.range.loop, ints, intss, int, bool, row, frac, fracs, ← List.map_take, ← List.map_drop, hi, hil, e1, hll, hrl]
      refine awp_range (live := [true, true, false, false, true, true, true, true, true, true, true, true, true, false, false, false, true, false, false, false, false, false, false, true, false, false, true, true, true, true, false, false, false, false, true, true, true, false, false, false, false, false, false, false, false, false, false, false, false, false, false, false, false, false, false, false, false, false, false, false, false, false, false, true, false, false, false, false, false, false, false, true]) (ctx_ok eqOk hG) mixed [true, true, false, false, false, false, true, true, true, true, true, false, false, false, false, false, false, false, false, false, false, false, false, false, false, false, true, true, true, false, false, false, false, false, true, true] (xss.length) (fun x => True) (fun x => ⟨[intss nl xss, ints nl1 l, .junk, .junk, .junk, .junk, .ref 0 [] 0 xss.length, int k, bool (rlx (vR xss) (oR l i) i s x).2, int i, int (oR l i), .junk, .junk, .junk, .junk, .junk, .junk, .junk, .junk, .junk, .junk, .junk, .junk, .junk, .junk, .junk, ints nl1 l, int xss.length, int i, .junk, .junk, .junk, .junk, .junk, int xss.length, int x, .junk, .junk, .junk, .junk, .junk, .junk, .junk, .junk, .junk, .junk, .junk, .junk, .junk, .junk, .junk, .junk, .junk, .junk, .junk, .junk, .junk, .junk, .junk, .junk, .junk, .junk, .junk, .junk, .junk, .junk, .junk, .junk, .junk, .junk, .junk, .junk, .junk], [⟨true, .sl false 1 ((rlx (vR xss) (oR l i) i s x).1.map int)⟩]⟩) ?_ (by simp [sub, slotsLe, clean, keep, refsL, refs, once, place, renL, ren, List.replicate, int, bool, rlx, intss, ints, hrl]) ?_ ?_ ?_
      · omega
      · trivial
      · intro x hx _ hwx
        have hl2 : (rlx (vR xss) (oR l i) i s x).1.length = xss.length := by rw [rlx_len]; exact hrl
        have hr2 : rlx (vR xss) (oR l i) i s (x + 1) = relax (vR xss) (oR l i) i x (rlx (vR xss) (oR l i) i s x) := rfl
        rw [hr2]
        generalize rlx (vR xss) (oR l i) i s x = s2 at hl2 ⊢
        have g1 : s2.1[oR l i]'(by omega) = at0 s2.1 (oR l i) := (at0_eq _).symm
        have g2 : s2.1[x]'(by omega) = at0 s2.1 x := (at0_eq _).symm
        have v1 : xss[i].2[x]'(by omega) = vR xss i x := by unfold vR; simp [List.getD_eq_getElem?_getD, hi, hri, hx]
        have hxr : x < xss[i].2.length := by omega
        have hor : oR l i < xss[i].2.length := by omega
        have hrv : rlv (vR xss) (oR l i) i x s2.1 = IntKind.i64.wrap (IntKind.i64.wrap (at0 s2.1 (oR l i) + vR xss i x) - vR xss i (oR l i)) := rfl
        by_cases hlt : at0 s2.1 x < rlv (vR xss) (oR l i) i x s2.1
        · have hre : relax (vR xss) (oR l i) i x s2 = (s2.1.set x (rlv (vR xss) (oR l i) i x s2.1), true) := by unfold relax; rw [if_pos hlt]
          rw [hre, hrv]
          rw [hrv] at hlt
          simp (config := {contextual := true}) [List.range, List.range.loop, ints, intss, int, bool, row, frac, fracs, ← List.map_take, ← List.map_drop, hx, hi, hl2, e2, g1, g2, v1, v2, hxr, hor, hlt, hwx]
          done
        · have hre : relax (vR xss) (oR l i) i x s2 = s2 := by unfold relax; rw [if_neg hlt]
          rw [hre]
          rw [hrv] at hlt
          simp (config := {contextual := true}) [List.range, List.range.loop, ints, intss, int, bool, row, frac, fracs, ← List.map_take, ← List.map_drop, hx, hi, hl2, e2, g1, g2, v1, v2, hxr, hor, hlt, hwx]
          done
      · intro _
        have hl2 : (rlx (vR xss) (oR l i) i s xss.length).1.length = xss.length := by rw [rlx_len]; exact hrl
        simp (config := {contextual := true}) [List.range, List.range.loop, ints, intss, int, bool, row, frac, fracs, ← List.map_take, ← List.map_drop, hl2, hwi]
        done
    · intro _
      have hrl : (rs (vR xss) (oR l) xss.length (k + 1)).length = xss.length := rs_len
      have hq : quiet (vR xss) (oR l) xss.length k = !(rnd (vR xss) (oR l) xss.length (rs (vR xss) (oR l) xss.length k, false) xss.length).2 := rfl
      have hrk : rs (vR xss) (oR l) xss.length (k + 1) = (rnd (vR xss) (oR l) xss.length (rs (vR xss) (oR l) xss.length k, false) xss.length).1 := rfl
      have hLk := hLat k (by omega) hno
      rw [← hrk]
      cases hc : (rnd (vR xss) (oR l) xss.length (rs (vR xss) (oR l) xss.length k, false) xss.length).2 with
      | false =>
        rw [hc] at hq
        have hLk := hLk hq
        simp (config := {contextual := true}) [List.range, List.range.loop, ints, intss, int, bool, row, frac, fracs, ← List.map_take, ← List.map_drop, hLk, hrl, lrA]
        done
      | true =>
        rw [hc] at hq
        simp (config := {contextual := true}) [List.range, List.range.loop, ints, intss, int, bool, row, frac, fracs, ← List.map_take, ← List.map_drop, hwk, hrl]
        exact fun j hj => by
          by_cases e : j = k
          · subst e; exact hq
          · exact hno j (by omega)
  · intro hno
    have hLn := hLno hno
    have hnn : ¬ ((xss.length : Int) + 1 ≤ (xss.length : Int)) := by omega
    simp (config := {contextual := true}) [List.range, List.range.loop, ints, intss, int, bool, row, frac, fracs, ← List.map_take, ← List.map_drop, hLn, hll, lrA, hnn]
    done

end Go.Proofs.Ytpjejdebdhgngaa.Ax
