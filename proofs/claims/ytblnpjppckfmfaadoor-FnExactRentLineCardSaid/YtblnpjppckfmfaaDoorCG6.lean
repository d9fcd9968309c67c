/-
  Contracts: LeastRaises (both programs), behind valid values and a choice of rooms. No condition.
-/
import Derived.Test.YtblnpjppckfmfaaDoorCG5
import Derived.Test.YtblnpjppckfmfaaDoorCB2
namespace Go.Proofs.YtblnpjppckfmfaaDoor.Ax
open Go Go.RowKit
set_option linter.unusedSimpArgs false

def lrA : Option (List Int) → AV
  | some r => .tup [.sl false 1 (r.map int), .v (.bool true)]
  | none => .tup [.sl true 1 [], .v (.bool false)]
noncomputable def mLR : List AV → Option AV := mk (fun p => rentB p.2.1 = true ∧ rankB p.2.1.length p.2.2.2 = true) (fun (p : Bool × List (Bool × List Int) × Bool × List Int) => [intss p.1 p.2.1, ints p.2.2.1 p.2.2.2]) (fun p => lrA (lrF (vR p.2.1) (oR p.2.2.2) p.2.1.length))
theorem mLR_at (nl : Bool) (xss : List (Bool × List Int)) (nl1 : Bool) (l : List Int) (h : rentB xss = true ∧ rankB xss.length l = true) : mLR [.sl nl 1 (xss.map row), .sl nl1 1 (l.map int)] = some (lrA (lrF (vR xss) (oR l) xss.length)) :=
  mk_eq (enc := fun (p : Bool × List (Bool × List Int) × Bool × List Int) => [intss p.1 p.2.1, ints p.2.2.1 p.2.2.2]) (x := (nl, xss, nl1, l)) (by rintro ⟨a, b, c, d⟩ ⟨e, f, g, i⟩ h; simp [intss, ints, map_row_inj, map_int_inj] at h; simp [h]) h

set_option maxRecDepth 8000 in
set_option maxHeartbeats 4000000 in
theorem implLeast_ok : FnOk Tryd.prog 49 mLR := by
  refine mk_ok fun ⟨nl, xss, nl1, l⟩ hp => ?_
  obtain ⟨h, hk⟩ := hp
  simp only at h hk
  obtain ⟨h1, h4, hrow⟩ := rent_facts h
  have hll : l.length = xss.length := by have := rank_len hk; omega
  have hlo : ∀ i (hi : i < l.length), l[i] = (oR l i : Int) ∧ oR l i < xss.length := fun i hi => by
    have := rank_in hk hi
    have e : l.getD i 0 = l[i] := by simp [List.getD_eq_getElem?_getD, hi]
    unfold oR; rw [e]; omega
  have hb : 8 * xss.length ≤ 281474976710656 ∧ xss.length ≤ 4611686018427387904 ∧ xss.length ≤ 281474976710656 := by omega
  have hwn : IntKind.i64.wrap ((xss.length : Int) + 1) = (xss.length : Int) + 1 := wrapI (by omega) (by omega)
  have hrs0 : (rs (vR xss) (oR l) xss.length 0).map int = List.replicate xss.length (.v (.int .i64 0)) := by simp [rs, int]
  have hLat := fun k => lrF_at (V := vR xss) (O := oR l) (n := xss.length) (k := k)
  have hLno := lrF_none (V := vR xss) (O := oR l) (n := xss.length)
  simp only
  generalize lrF (vR xss) (oR l) xss.length = lr at hLat hLno ⊢
  have hG : FnsOk Tryd.prog [(47, mRent), (67, mRank)] := (.cons implRentOk_ok (.cons implRankingOk_ok .nil))
  refine callOk_awp (ctx_ok eqOk hG) mixed (live := [true, true, false, false, true, true, true, true, true, true, true, true, false, false, false, false, false, false, false, false, false, true, false, false, false, false, false, true, true, true, true, true, true, true, false, false, false, false, true, true, true, false, false, false, false, false, false, false, false, false, false, false, false, false, false, false, false, false, false, false, false, false, false, false, false, false, false, true, false, false, false, false, false, false, false, true]) (dt := [(13, ⟨[], [], []⟩)]) Tryd.func49 rfl (by kernel_rfl) (by kernel_rfl) fun w0 hlens => ?_
  clear hlens
  simp (config := {contextual := true}) [Tryd.f49, List.range, List.range.loop, ints, intss, int, bool, row, frac, fracs, ← List.map_take, ← List.map_drop, mRent_at, mRank_at, mL25Ok_at, h, hk, hb, hwn, hll]
  refine awp_range (live := [true, true, false, false, true, true, true, true, true, true, true, true, false, false, false, false, false, false, false, false, false, true, false, false, false, false, false, true, true, true, true, true, true, true, false, false, false, false, true, true, true, false, false, false, false, false, false, false, false, false, false, false, false, false, false, false, false, false, false, false, false, false, false, false, false, false, false, true, false, false, false, false, false, false, false, true]) (ctx_ok eqOk hG) mixed [true, true, false, false, false, false, true, false, false, false, false, false, false, false, false, false, false, false, false, false, false, false, false, false, false, false, false, true, true] (xss.length + 1) (fun k => ∀ j, j < k → quiet (vR xss) (oR l) xss.length j = false) (fun k => ⟨[intss nl xss, ints nl1 l, .junk, .junk, .junk, .junk, .ref 0 [] 0 xss.length, .junk, .junk, .junk, .junk, .junk, .junk, .junk, .junk, .junk, .junk, .junk, .junk, .junk, .junk, .junk, .junk, .junk, .junk, .junk, .junk, int ((xss.length : Int) + 1), int k, .junk, .junk, .junk, .junk, .junk, .junk, .junk, .junk, .junk, .junk, .junk, .junk, .junk, .junk, .junk, .junk, .junk, .junk, .junk, .junk, .junk, .junk, .junk, .junk, .junk, .junk, .junk, .junk, .junk, .junk, .junk, .junk, .junk, .junk, .junk, .junk, .junk, .junk, .junk, .junk, .junk, .junk, .junk, .junk, .junk, .junk, .junk, .junk, .junk], [⟨true, .sl false 1 ((rs (vR xss) (oR l) xss.length k).map int)⟩]⟩) ?_ (by simp [sub, slotsLe, clean, keep, refsL, refs, once, place, renL, ren, List.replicate, int, bool, hrs0, intss, ints]) ?_ ?_ ?_
  · omega
  · intro j hj; omega
  · intro k hkn hno hwk
    have hkn' : (k : Int) < (xss.length : Int) + 1 := by omega
    have hkn2 : (k : Int) ≤ (xss.length : Int) := by omega
    have hkn3 : k ≤ xss.length := by omega
    simp (config := {contextual := true}) [List.range, List.range.loop, ints, intss, int, bool, row, frac, fracs, ← List.map_take, ← List.map_drop, hkn', hkn2, hkn3, hll]
    refine awp_range (live := [true, true, false, false, true, true, true, true, true, true, true, true, false, false, false, false, false, false, false, false, false, true, false, false, false, false, false, true, true, true, true, true, true, true, false, false, false, false, true, true, true, false, false, false, false, false, false, false, false, false, false, false, false, false, false, false, false, false, false, false, false, false, false, false, false, false, false, true, false, false, false, false, false, false, false, true]) (ctx_ok eqOk hG) mixed [true, true, false, false, false, false, true, true, false, false, false, false, false, false, false, false, false, false, false, false, false, false, false, false, false, false, false, true, true, false, true, true, true] (xss.length) (fun i => True) (fun i => ⟨[intss nl xss, ints nl1 l, .junk, .junk, .junk, .junk, .ref 0 [] 0 xss.length, bool (rnd (vR xss) (oR l) xss.length (rs (vR xss) (oR l) xss.length k, false) i).2, .junk, .junk, .junk, .junk, .junk, .junk, .junk, .junk, .junk, .junk, .junk, .junk, .junk, .junk, .junk, .junk, .junk, .junk, .junk, int ((xss.length : Int) + 1), int k, .junk, ints nl1 l, int xss.length, int i, .junk, .junk, .junk, .junk, .junk, .junk, .junk, .junk, .junk, .junk, .junk, .junk, .junk, .junk, .junk, .junk, .junk, .junk, .junk, .junk, .junk, .junk, .junk, .junk, .junk, .junk, .junk, .junk, .junk, .junk, .junk, .junk, .junk, .junk, .junk, .junk, .junk, .junk, .junk, .junk, .junk, .junk, .junk, .junk, .junk], [⟨true, .sl false 1 ((rnd (vR xss) (oR l) xss.length (rs (vR xss) (oR l) xss.length k, false) i).1.map int)⟩]⟩) ?_ (by simp [sub, slotsLe, clean, keep, refsL, refs, once, place, renL, ren, List.replicate, int, bool, rnd, intss, ints]) ?_ ?_ ?_
    · omega
    · trivial
    · intro i hi _ hwi
      have hil : i < l.length := by omega
      obtain ⟨e1, e2⟩ := hlo i hil
      have hrl : (rnd (vR xss) (oR l) xss.length (rs (vR xss) (oR l) xss.length k, false) i).1.length = xss.length := by rw [rnd_len]; exact rs_len
      have hrn : rnd (vR xss) (oR l) xss.length (rs (vR xss) (oR l) xss.length k, false) (i + 1) = rlx (vR xss) (oR l i) i (rnd (vR xss) (oR l) xss.length (rs (vR xss) (oR l) xss.length k, false) i) xss.length := rfl
      rw [hrn]
      generalize rnd (vR xss) (oR l) xss.length (rs (vR xss) (oR l) xss.length k, false) i = s at hrl ⊢
      obtain ⟨hri, _⟩ := hrow i hi
      have v2 : xss[i].2[oR l i]'(by omega) = vR xss i (oR l i) := by unfold vR; simp [List.getD_eq_getElem?_getD, hi, hri, e2]
      simp (config := {contextual := true}) [List.range, List.range.loop, ints, intss, int, bool, row, frac, fracs, ← List.map_take, ← List.map_drop, hi, hil, e1, hll, hrl]
      refine awp_range (live := [true, true, false, false, true, true, true, true, true, true, true, true, false, false, false, false, false, false, false, false, false, true, false, false, false, false, false, true, true, true, true, true, true, true, false, false, false, false, true, true, true, false, false, false, false, false, false, false, false, false, false, false, false, false, false, false, false, false, false, false, false, false, false, false, false, false, false, true, false, false, false, false, false, false, false, true]) (ctx_ok eqOk hG) mixed [true, true, false, false, false, false, true, true, true, true, false, false, false, false, false, false, false, false, false, false, false, false, false, false, false, false, false, true, true, false, true, true, true, false, false, false, false, false, true, true] (xss.length) (fun x => True) (fun x => ⟨[intss nl xss, ints nl1 l, .junk, .junk, .junk, .junk, .ref 0 [] 0 xss.length, bool (rlx (vR xss) (oR l i) i s x).2, int i, int (oR l i), .junk, .junk, .junk, .junk, .junk, .junk, .junk, .junk, .junk, .junk, .junk, .junk, .junk, .junk, .junk, .junk, .junk, int ((xss.length : Int) + 1), int k, .junk, ints nl1 l, int xss.length, int i, .junk, .junk, .junk, .junk, .junk, int xss.length, int x, .junk, .junk, .junk, .junk, .junk, .junk, .junk, .junk, .junk, .junk, .junk, .junk, .junk, .junk, .junk, .junk, .junk, .junk, .junk, .junk, .junk, .junk, .junk, .junk, .junk, .junk, .junk, .junk, .junk, .junk, .junk, .junk, .junk, .junk, .junk, .junk, .junk, .junk], [⟨true, .sl false 1 ((rlx (vR xss) (oR l i) i s x).1.map int)⟩]⟩) ?_ (by simp [sub, slotsLe, clean, keep, refsL, refs, once, place, renL, ren, List.replicate, int, bool, rlx, intss, ints, hrl]) ?_ ?_ ?_
      · omega
      · trivial
      · intro x hx _ hwx
        have hl2 : (rlx (vR xss) (oR l i) i s x).1.length = xss.length := by rw [rlx_len]; exact hrl
        have hr2 : rlx (vR xss) (oR l i) i s (x + 1) = relax (vR xss) (oR l i) i x (rlx (vR xss) (oR l i) i s x) := rfl
        rw [hr2]
        generalize rlx (vR xss) (oR l i) i s x = s2 at hl2 ⊢
        have g1 : s2.1[oR l i]'(by omega) = at0 s2.1 (oR l i) := (at0_eq _).symm
        have g2 : s2.1[x]'(by omega) = at0 s2.1 x := (at0_eq _).symm
        have v1 : xss[i].2[x]'(by omega) = vR xss i x := by unfold vR; simp [List.getD_eq_getElem?_getD, hi, hri, hx]
        have hxr : x < xss[i].2.length := by omega
        have hor : oR l i < xss[i].2.length := by omega
        have hrv : rlv (vR xss) (oR l i) i x s2.1 = IntKind.i64.wrap (IntKind.i64.wrap (at0 s2.1 (oR l i) + vR xss i x) - vR xss i (oR l i)) := rfl
        by_cases hlt : at0 s2.1 x < rlv (vR xss) (oR l i) i x s2.1
        · have hre : relax (vR xss) (oR l i) i x s2 = (s2.1.set x (rlv (vR xss) (oR l i) i x s2.1), true) := by unfold relax; rw [if_pos hlt]
          rw [hre, hrv]
          rw [hrv] at hlt
          simp (config := {contextual := true}) [List.range, List.range.loop, ints, intss, int, bool, row, frac, fracs, ← List.map_take, ← List.map_drop, hx, hi, hl2, e2, g1, g2, v1, v2, hxr, hor, hlt, hwx]
          done
        · have hre : relax (vR xss) (oR l i) i x s2 = s2 := by unfold relax; rw [if_neg hlt]
          rw [hre]
          rw [hrv] at hlt
          simp (config := {contextual := true}) [List.range, List.range.loop, ints, intss, int, bool, row, frac, fracs, ← List.map_take, ← List.map_drop, hx, hi, hl2, e2, g1, g2, v1, v2, hxr, hor, hlt, hwx]
          done
      · intro _
        have hl2 : (rlx (vR xss) (oR l i) i s xss.length).1.length = xss.length := by rw [rlx_len]; exact hrl
        simp (config := {contextual := true}) [List.range, List.range.loop, ints, intss, int, bool, row, frac, fracs, ← List.map_take, ← List.map_drop, hl2, hwi]
        done
    · intro _
      have hrl : (rs (vR xss) (oR l) xss.length (k + 1)).length = xss.length := rs_len
      have hq : quiet (vR xss) (oR l) xss.length k = !(rnd (vR xss) (oR l) xss.length (rs (vR xss) (oR l) xss.length k, false) xss.length).2 := rfl
      have hrk : rs (vR xss) (oR l) xss.length (k + 1) = (rnd (vR xss) (oR l) xss.length (rs (vR xss) (oR l) xss.length k, false) xss.length).1 := rfl
      have hLk := hLat k (by omega) hno
      rw [← hrk]
      cases hc : (rnd (vR xss) (oR l) xss.length (rs (vR xss) (oR l) xss.length k, false) xss.length).2 with
      | false =>
        rw [hc] at hq
        have hLk := hLk hq
        simp (config := {contextual := true}) [List.range, List.range.loop, ints, intss, int, bool, row, frac, fracs, ← List.map_take, ← List.map_drop, hLk, hrl, lrA]
        done
      | true =>
        rw [hc] at hq
        simp (config := {contextual := true}) [List.range, List.range.loop, ints, intss, int, bool, row, frac, fracs, ← List.map_take, ← List.map_drop, hwk, hrl]
        exact fun j hj => by
          by_cases e : j = k
          · subst e; exact hq
          · exact hno j (by omega)
  · intro hno
    have hLn := hLno hno
    have hnn : ¬ ((xss.length : Int) + 1 ≤ (xss.length : Int)) := by omega
    simp (config := {contextual := true}) [List.range, List.range.loop, ints, intss, int, bool, row, frac, fracs, ← List.map_take, ← List.map_drop, hLn, hll, lrA, hnn]
    done

set_option maxRecDepth 8000 in
set_option maxHeartbeats 4000000 in
theorem specLeast_ok : FnOk Tryd.prog 41 mLR := by
  refine mk_ok fun ⟨nl, xss, nl1, l⟩ hp => ?_
  obtain ⟨h, hk⟩ := hp
  simp only at h hk
  obtain ⟨h1, h4, hrow⟩ := rent_facts h
  have hll : l.length = xss.length := by have := rank_len hk; omega
  have hlo : ∀ i (hi : i < l.length), l[i] = (oR l i : Int) ∧ oR l i < xss.length := fun i hi => by
    have := rank_in hk hi
    have e : l.getD i 0 = l[i] := by simp [List.getD_eq_getElem?_getD, hi]
    unfold oR; rw [e]; omega
  have hb : 8 * xss.length ≤ 281474976710656 ∧ xss.length ≤ 4611686018427387904 ∧ xss.length ≤ 281474976710656 := by omega
  have hwn : IntKind.i64.wrap ((xss.length : Int) + 1) = (xss.length : Int) + 1 := wrapI (by omega) (by omega)
  have hrs0 : (rs (vR xss) (oR l) xss.length 0).map int = List.replicate xss.length (.v (.int .i64 0)) := by simp [rs, int]
  have hLat := fun k => lrF_at (V := vR xss) (O := oR l) (n := xss.length) (k := k)
  have hLno := lrF_none (V := vR xss) (O := oR l) (n := xss.length)
  simp only
  generalize lrF (vR xss) (oR l) xss.length = lr at hLat hLno ⊢
  have hG : FnsOk Tryd.prog [(61, mL25Ok)] := (.cons l25Ok_ok .nil)
  refine callOk_awp (ctx_ok eqOk hG) mixed (live := [true, true, false, false, true, true, true, true, true, true, true, true, true, false, false, false, true, false, false, false, false, false, false, true, false, false, true, true, true, true, false, false, false, false, true, true, true, false, false, false, false, false, false, false, false, false, false, false, false, false, false, false, false, false, false, false, false, false, false, false, false, false, false, true, false, false, false, false, false, false, false, true]) (dt := [(14, ⟨[], [], []⟩)]) Tryd.func41 rfl (by kernel_rfl) (by kernel_rfl) fun w0 hlens => ?_
  clear hlens
  simp (config := {contextual := true}) [Tryd.f41, List.range, List.range.loop, ints, intss, int, bool, row, frac, fracs, ← List.map_take, ← List.map_drop, mRent_at, mRank_at, mL25Ok_at, h, hk, hb, hwn, hll]
  refine awp_range (live := [true, true, false, false, true, true, true, true, true, true, true, true, true, false, false, false, true, false, false, false, false, false, false, true, false, false, true, true, true, true, false, false, false, false, true, true, true, false, false, false, false, false, false, false, false, false, false, false, false, false, false, false, false, false, false, false, false, false, false, false, false, false, false, true, false, false, false, false, false, false, false, true]) (ctx_ok eqOk hG) mixed [true, true, false, false, false, false, true, true] (xss.length + 1) (fun k => ∀ j, j < k → quiet (vR xss) (oR l) xss.length j = false) (fun k => ⟨[intss nl xss, ints nl1 l, .junk, .junk, .junk, .junk, .ref 0 [] 0 xss.length, int k, .junk, .junk, .junk, .junk, .junk, .junk, .junk, .junk, .junk, .junk, .junk, .junk, .junk, .junk, .junk, .junk, .junk, .junk, .junk, .junk, .junk, .junk, .junk, .junk, .junk, .junk, .junk, .junk, .junk, .junk, .junk, .junk, .junk, .junk, .junk, .junk, .junk, .junk, .junk, .junk, .junk, .junk, .junk, .junk, .junk, .junk, .junk, .junk, .junk, .junk, .junk, .junk, .junk, .junk, .junk, .junk, .junk, .junk, .junk, .junk, .junk, .junk, .junk, .junk, .junk], [⟨true, .sl false 1 ((rs (vR xss) (oR l) xss.length k).map int)⟩]⟩) ?_ (by simp [sub, slotsLe, clean, keep, refsL, refs, once, place, renL, ren, List.replicate, int, bool, hrs0, intss, ints]) ?_ ?_ ?_
  · omega
  · intro j hj; omega
  · intro k hkn hno hwk
    have hkn' : (k : Int) < (xss.length : Int) + 1 := by omega
    have hkn2 : (k : Int) ≤ (xss.length : Int) := by omega
    have hkn3 : k ≤ xss.length := by omega
    simp (config := {contextual := true}) [List.range, List.range.loop, ints, intss, int, bool, row, frac, fracs, ← List.map_take, ← List.map_drop, hkn', hkn2, hkn3, hll]
    refine awp_range (live := [true, true, false, false, true, true, true, true, true, true, true, true, true, false, false, false, true, false, false, false, false, false, false, true, false, false, true, true, true, true, false, false, false, false, true, true, true, false, false, false, false, false, false, false, false, false, false, false, false, false, false, false, false, false, false, false, false, false, false, false, false, false, false, true, false, false, false, false, false, false, false, true]) (ctx_ok eqOk hG) mixed [true, true, false, false, false, false, true, true, true, false, false, false, false, false, false, false, false, false, false, false, false, false, false, false, false, false, true, true, true] (xss.length) (fun i => True) (fun i => ⟨[intss nl xss, ints nl1 l, .junk, .junk, .junk, .junk, .ref 0 [] 0 xss.length, int k, bool (rnd (vR xss) (oR l) xss.length (rs (vR xss) (oR l) xss.length k, false) i).2, .junk, .junk, .junk, .junk, .junk, .junk, .junk, .junk, .junk, .junk, .junk, .junk, .junk, .junk, .junk, .junk, .junk, ints nl1 l, int xss.length, int i, .junk, .junk, .junk, .junk, .junk, .junk, .junk, .junk, .junk, .junk, .junk, .junk, .junk, .junk, .junk, .junk, .junk, .junk, .junk, .junk, .junk, .junk, .junk, .junk, .junk, .junk, .junk, .junk, .junk, .junk, .junk, .junk, .junk, .junk, .junk, .junk, .junk, .junk, .junk, .junk, .junk, .junk, .junk, .junk], [⟨true, .sl false 1 ((rnd (vR xss) (oR l) xss.length (rs (vR xss) (oR l) xss.length k, false) i).1.map int)⟩]⟩) ?_ (by simp [sub, slotsLe, clean, keep, refsL, refs, once, place, renL, ren, List.replicate, int, bool, rnd, intss, ints]) ?_ ?_ ?_
    · omega
    · trivial
    · intro i hi _ hwi
      have hil : i < l.length := by omega
      obtain ⟨e1, e2⟩ := hlo i hil
      have hrl : (rnd (vR xss) (oR l) xss.length (rs (vR xss) (oR l) xss.length k, false) i).1.length = xss.length := by rw [rnd_len]; exact rs_len
      have hrn : rnd (vR xss) (oR l) xss.length (rs (vR xss) (oR l) xss.length k, false) (i + 1) = rlx (vR xss) (oR l i) i (rnd (vR xss) (oR l) xss.length (rs (vR xss) (oR l) xss.length k, false) i) xss.length := rfl
      rw [hrn]
      generalize rnd (vR xss) (oR l) xss.length (rs (vR xss) (oR l) xss.length k, false) i = s at hrl ⊢
      obtain ⟨hri, _⟩ := hrow i hi
      have v2 : xss[i].2[oR l i]'(by omega) = vR xss i (oR l i) := by unfold vR; simp [List.getD_eq_getElem?_getD, hi, hri, e2]
      simp (config := {contextual := true}) [List.range, List.range.loop, ints, intss, int, bool, row, frac, fracs, ← List.map_take, ← List.map_drop, hi, hil, e1, hll, hrl]
      refine awp_range (live := [true, true, false, false, true, true, true, true, true, true, true, true, true, false, false, false, true, false, false, false, false, false, false, true, false, false, true, true, true, true, false, false, false, false, true, true, true, false, false, false, false, false, false, false, false, false, false, false, false, false, false, false, false, false, false, false, false, false, false, false, false, false, false, true, false, false, false, false, false, false, false, true]) (ctx_ok eqOk hG) mixed [true, true, false, false, false, false, true, true, true, true, true, false, false, false, false, false, false, false, false, false, false, false, false, false, false, false, true, true, true, false, false, false, false, false, true, true] (xss.length) (fun x => True) (fun x => ⟨[intss nl xss, ints nl1 l, .junk, .junk, .junk, .junk, .ref 0 [] 0 xss.length, int k, bool (rlx (vR xss) (oR l i) i s x).2, int i, int (oR l i), .junk, .junk, .junk, .junk, .junk, .junk, .junk, .junk, .junk, .junk, .junk, .junk, .junk, .junk, .junk, ints nl1 l, int xss.length, int i, .junk, .junk, .junk, .junk, .junk, int xss.length, int x, .junk, .junk, .junk, .junk, .junk, .junk, .junk, .junk, .junk, .junk, .junk, .junk, .junk, .junk, .junk, .junk, .junk, .junk, .junk, .junk, .junk, .junk, .junk, .junk, .junk, .junk, .junk, .junk, .junk, .junk, .junk, .junk, .junk, .junk, .junk, .junk, .junk], [⟨true, .sl false 1 ((rlx (vR xss) (oR l i) i s x).1.map int)⟩]⟩) ?_ (by simp [sub, slotsLe, clean, keep, refsL, refs, once, place, renL, ren, List.replicate, int, bool, rlx, intss, ints, hrl]) ?_ ?_ ?_
      · omega
      · trivial
      · intro x hx _ hwx
        have hl2 : (rlx (vR xss) (oR l i) i s x).1.length = xss.length := by rw [rlx_len]; exact hrl
        have hr2 : rlx (vR xss) (oR l i) i s (x + 1) = relax (vR xss) (oR l i) i x (rlx (vR xss) (oR l i) i s x) := rfl
        rw [hr2]
        generalize rlx (vR xss) (oR l i) i s x = s2 at hl2 ⊢
        have g1 : s2.1[oR l i]'(by omega) = at0 s2.1 (oR l i) := (at0_eq _).symm
        have g2 : s2.1[x]'(by omega) = at0 s2.1 x := (at0_eq _).symm
        have v1 : xss[i].2[x]'(by omega) = vR xss i x := by unfold vR; simp [List.getD_eq_getElem?_getD, hi, hri, hx]
        have hxr : x < xss[i].2.length := by omega
        have hor : oR l i < xss[i].2.length := by omega
        have hrv : rlv (vR xss) (oR l i) i x s2.1 = IntKind.i64.wrap (IntKind.i64.wrap (at0 s2.1 (oR l i) + vR xss i x) - vR xss i (oR l i)) := rfl
        by_cases hlt : at0 s2.1 x < rlv (vR xss) (oR l i) i x s2.1
        · have hre : relax (vR xss) (oR l i) i x s2 = (s2.1.set x (rlv (vR xss) (oR l i) i x s2.1), true) := by unfold relax; rw [if_pos hlt]
          rw [hre, hrv]
          rw [hrv] at hlt
          simp (config := {contextual := true}) [List.range, List.range.loop, ints, intss, int, bool, row, frac, fracs, ← List.map_take, ← List.map_drop, hx, hi, hl2, e2, g1, g2, v1, v2, hxr, hor, hlt, hwx]
          done
        · have hre : relax (vR xss) (oR l i) i x s2 = s2 := by unfold relax; rw [if_neg hlt]
          rw [hre]
          rw [hrv] at hlt
          simp (config := {contextual := true}) [List.range, List.range.loop, ints, intss, int, bool, row, frac, fracs, ← List.map_take, ← List.map_drop, hx, hi, hl2, e2, g1, g2, v1, v2, hxr, hor, hlt, hwx]
          done
      · intro _
        have hl2 : (rlx (vR xss) (oR l i) i s xss.length).1.length = xss.length := by rw [rlx_len]; exact hrl
        simp (config := {contextual := true}) [List.range, List.range.loop, ints, intss, int, bool, row, frac, fracs, ← List.map_take, ← List.map_drop, hl2, hwi]
        done
    · intro _
      have hrl : (rs (vR xss) (oR l) xss.length (k + 1)).length = xss.length := rs_len
      have hq : quiet (vR xss) (oR l) xss.length k = !(rnd (vR xss) (oR l) xss.length (rs (vR xss) (oR l) xss.length k, false) xss.length).2 := rfl
      have hrk : rs (vR xss) (oR l) xss.length (k + 1) = (rnd (vR xss) (oR l) xss.length (rs (vR xss) (oR l) xss.length k, false) xss.length).1 := rfl
      have hLk := hLat k (by omega) hno
      rw [← hrk]
      cases hc : (rnd (vR xss) (oR l) xss.length (rs (vR xss) (oR l) xss.length k, false) xss.length).2 with
      | false =>
        rw [hc] at hq
        have hLk := hLk hq
        simp (config := {contextual := true}) [List.range, List.range.loop, ints, intss, int, bool, row, frac, fracs, ← List.map_take, ← List.map_drop, hLk, hrl, lrA]
        done
      | true =>
        rw [hc] at hq
        simp (config := {contextual := true}) [List.range, List.range.loop, ints, intss, int, bool, row, frac, fracs, ← List.map_take, ← List.map_drop, hwk, hrl]
        exact fun j hj => by
          by_cases e : j = k
          · subst e; exact hq
          · exact hno j (by omega)
  · intro hno
    have hLn := hLno hno
    have hnn : ¬ ((xss.length : Int) + 1 ≤ (xss.length : Int)) := by omega
    simp (config := {contextual := true}) [List.range, List.range.loop, ints, intss, int, bool, row, frac, fracs, ← List.map_take, ← List.map_drop, hLn, hll, lrA, hnn]
    done

end Go.Proofs.YtblnpjppckfmfaaDoor.Ax

/-
  Contracts: marks on lists of ints, and whether they stand. No condition.
-/
namespace Go.Proofs.YtblnpjppckfmfaaDoor.Ax
open Go Go.RowKit
set_option linter.unusedSimpArgs false

/-- The marks from k on, so many. -/
def mkd (k : Int) (n : Nat) : List Int := (List.range n).map fun (i : Nat) => k + i
theorem mkd_len {k : Int} {n : Nat} : (mkd k n).length = n := by simp [mkd]
theorem mkd_take {k : Int} {n : Nat} : (mkd k n).take n = mkd k n := List.take_of_length_le (by simp [mkd_len])
theorem mkd_at {k : Int} {n i : Nat} (h : i < (mkd k n).length) : (mkd k n)[i] = k + i := by simp [mkd]
/-- A list whose first i numbers are marked. -/
def mkTo (k : Int) (xs : List Int) (i : Nat) : List Int := mkd k i ++ xs.drop i
theorem mkTo_len {k : Int} {xs : List Int} {i : Nat} (h : i ≤ xs.length) : (mkTo k xs i).length = xs.length := by simp [mkTo, mkd_len]; omega
theorem mkTo_zero {k : Int} {xs : List Int} : mkTo k xs 0 = xs := by simp [mkTo, mkd]
theorem mkTo_all {k : Int} {xs : List Int} : mkTo k xs xs.length = mkd k xs.length := by simp [mkTo]
theorem mkTo_set {k : Int} {xs : List Int} {i : Nat} (h : i < xs.length) : ((mkTo k xs i).map int).set i (.v (.int .i64 (k + i))) = (mkTo k xs (i + 1)).map int := by
  have : (AV.v (.int .i64 (k + i))) = int (k + i) := rfl
  rw [this, ← List.map_set]
  congr 1
  unfold mkTo
  rw [List.set_append, if_neg (by simp [mkd_len]), mkd_len, Nat.sub_self, drop_get h, List.set_cons_zero]
  simp [mkd, List.range_succ]

noncomputable def mMarkI : List AV → Option (Nat × AV × AV) := mkM (fun (p : Bool × List Int × Int) => 0 ≤ p.2.2 ∧ p.2.2 + p.2.1.length ≤ 2 ^ 62) (fun p => [ints p.1 p.2.1, int p.2.2]) (fun p => (0, int (p.2.2 + p.2.1.length), ints p.1 (mkd p.2.2 p.2.1.length)))
theorem mMarkI_at (nl : Bool) (xs : List Int) (k : Int) (h : 0 ≤ k ∧ k + xs.length ≤ 2 ^ 62) : mMarkI [.sl nl 1 (xs.map int), .v (.int .i64 k)] = some (0, .v (.int .i64 (k + xs.length)), .sl nl 1 ((mkd k xs.length).map int)) :=
  mkM_eq (enc := fun (p : Bool × List Int × Int) => [ints p.1 p.2.1, int p.2.2]) (x := (nl, xs, k)) (by rintro ⟨a, b, c⟩ ⟨d, e, f⟩ h; simp [ints, int, map_int_inj] at h; simp [h]) h

set_option maxHeartbeats 1000000 in
theorem markIntS_ok : FnMut Tryd.prog 9 mMarkI := by
  refine mkM_ok fun ⟨nl, xs, k⟩ ⟨hk0, hk⟩ => ?_
  simp only at hk0 hk
  have hG : FnsOk Tryd.prog [] := .nil
  refine mutOk_awp (ctx_ok eqOk hG) mixed (live := [true, true, false, false, true, true, false, false, false, true]) (dt := []) (pos := 0) rfl Tryd.func9 rfl (by kernel_rfl) (by kernel_rfl) fun US Uv w0 hlens => ?_
  simp [Tryd.f9, List.range, List.range.loop, ints, intss, int, bool, row, frac, fracs, ← List.map_take, ← List.map_drop]
  refine awp_range (live := [true, true, false, false, true, true, false, false, false, true]) (ctx_ok eqOk hG) mixed [true, true, false, false, false, true] (xs.length) (fun i => True) (fun i => ⟨[.ref 0 [] 0 xs.length, int (k + i), .junk, .junk, .junk, int i, .junk, .junk, .junk, .junk, .junk, .junk, .junk, .junk, .junk, .junk, .junk, .junk, .junk], [⟨true, .sl nl 1 ((mkTo k xs i).map int)⟩]⟩) ?_ (by simp [sub, slotsLe, clean, keep, refsL, refs, once, place, renL, ren, List.replicate, int, bool, mkTo_zero]) ?_ ?_ ?_
  · omega
  · trivial
  · intro i h _ hw
    have hl := mkTo_len (k := k) (xs := xs) (i := i) (by omega)
    have hl' := mkTo_len (k := k) (xs := xs) (i := i + 1) (by omega)
    have hs := mkTo_set (k := k) h
    have hw2 : IntKind.i64.wrap (k + i + 1) = k + i + 1 := wrapI (by omega) (by omega)
    have e : (k + (i : Int) + 1) = k + ((i : Int) + 1) := by omega
    simp (config := {contextual := true}) [List.range, List.range.loop, ints, intss, int, bool, row, frac, fracs, ← List.map_take, ← List.map_drop, List.eraseIdx, h, hw, hl, hl', hs, hw2]
    exact e
  · intro _
    have hl := mkTo_len (k := k) (xs := xs) (i := xs.length) (by omega)
    simp (config := {contextual := true}) [List.range, List.range.loop, ints, intss, int, bool, row, frac, fracs, ← List.map_take, ← List.map_drop, List.eraseIdx, hl, mkTo_all, mkd_len]

noncomputable def mHeldI : List AV → Option AV := mk (fun (p : Bool × Nat × Int) => 0 ≤ p.2.2 ∧ p.2.2 + p.2.1 ≤ 2 ^ 62) (fun p => [ints p.1 (mkd p.2.2 p.2.1), int p.2.2]) (fun p => int (p.2.2 + p.2.1))
theorem mHeldI_at (nl : Bool) (n : Nat) (k : Int) (h : 0 ≤ k ∧ k + n ≤ 2 ^ 62) : mHeldI [.sl nl 1 ((mkd k n).map int), .v (.int .i64 k)] = some (.v (.int .i64 (k + n))) :=
  mk_eq (enc := fun (p : Bool × Nat × Int) => [ints p.1 (mkd p.2.2 p.2.1), int p.2.2]) (x := (nl, n, k)) (by
    rintro ⟨a, b, c⟩ ⟨d, e, f⟩ h
    simp [ints, int, map_int_inj] at h
    obtain ⟨⟨_, h1⟩, h2⟩ := h
    have := congrArg List.length h1
    simp [mkd_len] at this
    simp [h2, this]) h

set_option maxHeartbeats 1000000 in
theorem heldIntS_ok : FnOk Tryd.prog 10 mHeldI := by
  refine mk_ok fun ⟨nl, n, k⟩ ⟨hk0, hk⟩ => ?_
  simp only at hk0 hk
  have hG : FnsOk Tryd.prog [] := .nil
  refine callOk_awp (ctx_ok eqOk hG) mixed (live := [true, true, false, false, true, true, false, false, false, true, false, false, false, false, false, false, false, true]) (dt := []) Tryd.func10 rfl (by kernel_rfl) (by kernel_rfl) fun w0 hlens => ?_
  clear hlens
  simp [Tryd.f10, List.range, List.range.loop, ints, intss, int, bool, row, frac, fracs, ← List.map_take, ← List.map_drop]
  refine awp_range (live := [true, true, false, false, true, true, false, false, false, true, false, false, false, false, false, false, false, true]) (ctx_ok eqOk hG) mixed [true, true, false, false, false, true] (n) (fun i => True) (fun i => ⟨[ints nl (mkd k n), int (k + i), .junk, .junk, .junk, int i, .junk, .junk, .junk, .junk, .junk, .junk, .junk, .junk, .junk, .junk, .junk, .junk, .junk, .junk, .junk], []⟩) ?_ (by simp [sub, slotsLe, clean, keep, refsL, refs, once, place, renL, ren, List.replicate, int, bool, ints]) ?_ ?_ ?_
  · omega
  · trivial
  · intro i h _ hw
    have hl : i < (mkd k n).length := by rw [mkd_len]; exact h
    have hw2 : IntKind.i64.wrap (k + i + 1) = k + i + 1 := wrapI (by omega) (by omega)
    have e : (k + (i : Int) + 1) = k + ((i : Int) + 1) := by omega
    simp (config := {contextual := true}) [List.range, List.range.loop, ints, intss, int, bool, row, frac, fracs, ← List.map_take, ← List.map_drop, h, hw, hl, hw2, mkd_len, mkd_at]
    exact e
  · intro _
    simp (config := {contextual := true}) [List.range, List.range.loop, ints, intss, int, bool, row, frac, fracs, ← List.map_take, ← List.map_drop, mkd_len]

/-- Rows of which the first i are marked. -/
def mkRow (k : Int) (xss : List (Bool × List Int)) (j : Nat) : Bool × List Int := ((xss.getD j (true, [])).1, mkd (k + rowSum xss j) (xss.getD j (true, [])).2.length)
def mkRT (k : Int) (xss : List (Bool × List Int)) (i : Nat) : List (Bool × List Int) := (List.range xss.length).map fun j => if j < i then mkRow k xss j else xss.getD j (true, [])
def mkRS (k : Int) (xss : List (Bool × List Int)) : List (Bool × List Int) := (List.range xss.length).map (mkRow k xss)
theorem getDD {xss : List (Bool × List Int)} {i : Nat} (h : i < xss.length) : xss.getD i (true, []) = xss[i] := by simp [List.getD_eq_getElem?_getD, h]
theorem mkRT_len {k : Int} {xss : List (Bool × List Int)} {i : Nat} : (mkRT k xss i).length = xss.length := by simp [mkRT]
theorem mkRS_len {k : Int} {xss : List (Bool × List Int)} : (mkRS k xss).length = xss.length := by simp [mkRS]
theorem mkRS_take {k : Int} {xss : List (Bool × List Int)} : (mkRS k xss).take xss.length = mkRS k xss := List.take_of_length_le (by simp [mkRS_len])
theorem mkRT_zero {k : Int} {xss : List (Bool × List Int)} : mkRT k xss 0 = xss := by
  apply List.ext_getElem
  · simp [mkRT]
  · intro i h1 h2
    simp only [mkRT, List.getElem_map, List.getElem_range, Nat.not_lt_zero, if_false, getDD h2]
theorem mkRT_all {k : Int} {xss : List (Bool × List Int)} : mkRT k xss xss.length = mkRS k xss := by
  apply List.ext_getElem
  · simp [mkRT, mkRS]
  · intro i h1 h2
    have h3 : i < xss.length := by simpa [mkRS] using h2
    simp [mkRT, mkRS, h3]
theorem mkRT_at {k : Int} {xss : List (Bool × List Int)} {i : Nat} (h : i < xss.length) (h' : i < (mkRT k xss i).length) : (mkRT k xss i)[i] = xss[i] := by
  simp only [mkRT, List.getElem_map, List.getElem_range, Nat.lt_irrefl, if_false, getDD h]
theorem mkRS_at {k : Int} {xss : List (Bool × List Int)} {i : Nat} (h : i < xss.length) (h' : i < (mkRS k xss).length) : (mkRS k xss)[i] = (xss[i].1, mkd (k + rowSum xss i) xss[i].2.length) := by
  simp only [mkRS, List.getElem_map, List.getElem_range, mkRow, getDD h]
theorem mkRT_set {k : Int} {xss : List (Bool × List Int)} {i : Nat} (h : i < xss.length) : ((mkRT k xss i).map row).set i (.sl xss[i].1 1 ((mkd (k + rowSum xss i) xss[i].2.length).map int)) = (mkRT k xss (i + 1)).map row := by
  have : (AV.sl xss[i].1 1 ((mkd (k + rowSum xss i) xss[i].2.length).map int)) = row (mkRow k xss i) := by simp only [row, mkRow, getDD h]
  rw [this, ← List.map_set]
  congr 1
  apply List.ext_getElem
  · simp [mkRT]
  · intro j h1 h2
    rw [List.getElem_set]
    simp only [mkRT, List.getElem_map, List.getElem_range]
    by_cases e : i = j
    · subst e; simp
    · rw [if_neg e]
      by_cases h3 : j < i
      · rw [if_pos h3, if_pos (by omega)]
      · rw [if_neg h3, if_neg (by omega)]

theorem need_own {xss : List (Bool × List Int)} : need (own xss) = need xss := by
  unfold need rowSum own; simp [← List.map_take, Function.comp_def]

noncomputable def mMarkII : List AV → Option (Nat × AV × AV) := mkM (fun (p : Bool × List (Bool × List Int) × Int) => 0 ≤ p.2.2 ∧ p.2.2 + need p.2.1 ≤ 2 ^ 61) (fun p => [intss p.1 p.2.1, int p.2.2]) (fun p => (0, int (p.2.2 + rowSum p.2.1 p.2.1.length), intss p.1 (mkRS p.2.2 p.2.1)))
theorem mMarkII_at (nl : Bool) (xss : List (Bool × List Int)) (k : Int) (h : 0 ≤ k ∧ k + need xss ≤ 2 ^ 61) : mMarkII [.sl nl 1 (xss.map row), .v (.int .i64 k)] = some (0, .v (.int .i64 (k + rowSum xss xss.length)), .sl nl 1 ((mkRS k xss).map row)) :=
  mkM_eq (enc := fun (p : Bool × List (Bool × List Int) × Int) => [intss p.1 p.2.1, int p.2.2]) (x := (nl, xss, k)) (by rintro ⟨a, b, c⟩ ⟨d, e, f⟩ h; simp [intss, int, map_row_inj] at h; simp [h]) h

set_option maxHeartbeats 2000000 in
theorem markIntSS_ok : FnMut Tryd.prog 14 mMarkII := by
  refine mkM_ok fun ⟨nl, xss, k⟩ ⟨hk0, hk⟩ => ?_
  simp only at hk0 hk
  simp only [need] at hk
  have hG : FnsOk Tryd.prog [] := .nil
  have hM : FnsMut Tryd.prog [(9, mMarkI)] := (.cons markIntS_ok .nil)
  refine mutOk_awp (ctxM_ok eqOk hG hM) mixed (live := [true, true, false, false, true, true, false, false, false, true]) (dt := []) (pos := 0) rfl Tryd.func14 rfl (by kernel_rfl) (by kernel_rfl) fun US Uv w0 hlens => ?_
  simp [Tryd.f14, List.range, List.range.loop, ints, intss, int, bool, row, frac, fracs, ← List.map_take, ← List.map_drop, ctxM]
  refine awp_range (live := [true, true, false, false, true, true, false, false, false, true]) (ctxM_ok eqOk hG hM) mixed [true, true, false, false, false, true] (xss.length) (fun i => True) (fun i => ⟨[.ref 0 [] 0 xss.length, int (k + rowSum xss i), .junk, .junk, .junk, int i, .junk, .junk, .junk, .junk, .junk, .junk, .junk, .junk, .junk, .junk, .junk, .junk, .junk], [⟨true, .sl nl 1 ((mkRT k xss i).map row)⟩]⟩) ?_ (by simp [sub, slotsLe, clean, keep, refsL, refs, once, place, renL, ren, List.replicate, int, bool, mkRT_zero, rowSum_zero]) ?_ ?_ ?_
  · omega
  · trivial
  · intro i h _ hw
    have hs := mkRT_set (k := k) h
    have h1 := rowSum_succ h
    have h2 := rowSum_mono (xss := xss) (show i + 1 ≤ xss.length from h)
    have hz := mMarkI_at xss[i].1 xss[i].2 (k + rowSum xss i) ⟨by omega, by omega⟩
    have e : k + (rowSum xss i : Int) + (xss[i].2.length : Int) = k + (rowSum xss (i + 1) : Int) := by omega
    simp (config := {contextual := true}) [List.range, List.range.loop, ints, intss, int, bool, row, frac, fracs, ← List.map_take, ← List.map_drop, List.eraseIdx, h, hw, mkRT_len, mkRT_at, hz, mkd_len, hs, e]
  · intro _
    simp (config := {contextual := true}) [List.range, List.range.loop, ints, intss, int, bool, row, frac, fracs, ← List.map_take, ← List.map_drop, List.eraseIdx, mkRT_len, mkRT_all, mkRS_len]

noncomputable def mHeldII : List AV → Option AV := mk (fun (p : Bool × List (Bool × List Int) × Int) => 0 ≤ p.2.2 ∧ p.2.2 + need p.2.1 ≤ 2 ^ 61) (fun p => [intss p.1 (mkRS p.2.2 p.2.1), int p.2.2]) (fun p => int (p.2.2 + ((mkRS p.2.2 p.2.1).map (·.2.length)).sum))
theorem mkRS_sum {k : Int} {xss : List (Bool × List Int)} : ((mkRS k xss).map (·.2.length)).sum = rowSum xss xss.length := by
  have : (mkRS k xss).map (·.2.length) = xss.map (·.2.length) := by
    apply List.ext_getElem
    · simp [mkRS]
    · intro i h1 h2
      have h3 : i < xss.length := by simpa using h2
      rw [List.getElem_map, List.getElem_map, mkRS_at h3]; simp [mkd_len]
  rw [this]; simp [rowSum]
theorem mHeldII_at (nl : Bool) (xss : List (Bool × List Int)) (k : Int) (h : 0 ≤ k ∧ k + need xss ≤ 2 ^ 61) : mHeldII [.sl nl 1 ((mkRS k xss).map row), .v (.int .i64 k)] = some (.v (.int .i64 (k + rowSum xss xss.length))) := by
  refine (mk_eq (enc := fun p : Bool × List (Bool × List Int) × Int => [intss p.1 (mkRS p.2.2 p.2.1), int p.2.2]) (x := (nl, xss, k)) (by
    rintro ⟨a, b, c⟩ ⟨d, e, f⟩ h
    simp [intss, int, map_row_inj] at h
    obtain ⟨⟨_, h1⟩, rfl⟩ := h
    simp only [h1]) h).trans ?_
  simp only [int, mkRS_sum]

set_option maxHeartbeats 2000000 in
theorem heldIntSS_ok : FnOk Tryd.prog 15 mHeldII := by
  refine mk_ok fun ⟨nl, xss, k⟩ ⟨hk0, hk⟩ => ?_
  simp only at hk0 hk
  simp only [need] at hk
  simp only [mkRS_sum]
  have hG : FnsOk Tryd.prog [(10, mHeldI)] := (.cons heldIntS_ok .nil)
  refine callOk_awp (ctx_ok eqOk hG) mixed (live := [true, true, false, false, true, true, false, false, false, true, false, false, false, false, false, false, false, false, false, true]) (dt := []) Tryd.func15 rfl (by kernel_rfl) (by kernel_rfl) fun w0 hlens => ?_
  clear hlens
  simp [Tryd.f15, List.range, List.range.loop, ints, intss, int, bool, row, frac, fracs, ← List.map_take, ← List.map_drop]
  refine awp_range (live := [true, true, false, false, true, true, false, false, false, true, false, false, false, false, false, false, false, false, false, true]) (ctx_ok eqOk hG) mixed [true, true, false, false, false, true] (xss.length) (fun i => True) (fun i => ⟨[intss nl (mkRS k xss), int (k + rowSum xss i), .junk, .junk, .junk, int i, .junk, .junk, .junk, .junk, .junk, .junk, .junk, .junk, .junk, .junk, .junk, .junk, .junk, .junk, .junk], []⟩) ?_ (by simp [sub, slotsLe, clean, keep, refsL, refs, once, place, renL, ren, List.replicate, int, bool, intss, rowSum_zero]) ?_ ?_ ?_
  · omega
  · trivial
  · intro i h _ hw
    have h1 := rowSum_succ h
    have h2 := rowSum_mono (xss := xss) (show i + 1 ≤ xss.length from h)
    have hz := mHeldI_at xss[i].1 xss[i].2.length (k + rowSum xss i) ⟨by omega, by omega⟩
    have e : k + (rowSum xss i : Int) + (xss[i].2.length : Int) = k + (rowSum xss (i + 1) : Int) := by omega
    have hn : ¬ (k + (rowSum xss (i + 1) : Int) < 0) := by omega
    simp (config := {contextual := true}) [List.range, List.range.loop, ints, intss, int, bool, row, frac, fracs, ← List.map_take, ← List.map_drop, h, hw, mkRS_len, mkRS_at, hz, e, hn]
  · intro _
    simp (config := {contextual := true}) [List.range, List.range.loop, ints, intss, int, bool, row, frac, fracs, ← List.map_take, ← List.map_drop, mkRS_len]

end Go.Proofs.YtblnpjppckfmfaaDoor.Ax
