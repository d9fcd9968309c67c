/-
  Contracts: MovingKnife (the reference). No condition.
-/
import Derived.Test.YtlkgppincgpfjaaCG89
namespace Go.Proofs.Ytlkgppincgpfjaa.Ax
open Go Go.RowKit
set_option linter.unusedSimpArgs false

/-- What is given so far, and some pieces for x. -/
def kb (out : List Int) (x : Int) (fr j : Nat) : List Int := out ++ List.replicate (j - fr) x
theorem kb_len {out : List Int} {x : Int} {fr j : Nat} (h0 : out.length = fr) (h1 : fr ≤ j) : (kb out x fr j).length = j := by simp [kb, h0]; omega
theorem kb_app {out : List Int} {x : Int} {fr j : Nat} (h1 : fr ≤ j) : (kb out x fr j).map int ++ [.v (.int .i64 x)] = (kb out x fr (j + 1)).map int := by
  unfold kb
  rw [show j + 1 - fr = (j - fr) + 1 by omega, List.replicate_succ']
  simp [int]
theorem kb_start {out : List Int} {x : Int} {fr : Nat} : kb out x fr fr = out := by simp [kb]

theorem specKnife_no (nl : Bool) (xss : List (Bool × List Int)) (h : rectB xss 3 10 100 = false) : CallOk Try.prog 14 [intss nl xss] (.sl true 1 []) := by
  have hG : FnsOk Try.prog [(33, (mGrid 3 10 100)), (34, mTaker)] := (.cons specCakeOk_ok (.cons taker_ok .nil))
  refine callOk_awp (ctx_ok eqOk hG) mixed (live := [true, false, true, true, true, true, true, true, true, true, false, false, true, false, false, false, false, false, false, false, false, false, false, false, false, false, false, false, true, false, false, false, false, false, false, false, false, true, false, false, false, true, false, false, false, false, false, false, false, false, false, false, false, false, false, true, false, false, false, false, false, false, false, false, true]) (dt := []) Try.func14 rfl (by kernel_rfl) (by kernel_rfl) fun w0 hlens => ?_
  simp (config := {contextual := true}) [Try.f14, List.range, List.range.loop, ints, intss, int, bool, row, frac, fracs, ← List.map_take, ← List.map_drop, mGrid_at, h]

set_option maxRecDepth 8000 in
set_option maxHeartbeats 4000000 in
theorem specKnife_yes (nl : Bool) (xss : List (Bool × List Int)) (h : rectB xss 3 10 100 = true) : CallOk Try.prog 14 [intss nl xss] (.sl false 1 ((knL xss).map int)) := by
  have h0 := rect_pos h
  have hl := rect_len h
  have hr0 := (rect_row h h0).1
  have hG : FnsOk Try.prog [(33, (mGrid 3 10 100)), (34, mTaker)] := (.cons specCakeOk_ok (.cons taker_ok .nil))
  refine callOk_awp (ctx_ok eqOk hG) mixed (live := [true, false, true, true, true, true, true, true, true, true, false, false, true, false, false, false, false, false, false, false, false, false, false, false, false, false, false, false, true, false, false, false, false, false, false, false, false, true, false, false, false, true, false, false, false, false, false, false, false, false, false, false, false, false, false, true, false, false, false, false, false, false, false, false, true]) (dt := []) Try.func14 rfl (by kernel_rfl) (by kernel_rfl) fun w0 hlens => ?_
  clear hlens
  have hlf0 : (lf (List.replicate xss.length false)).length = xss.length := by
    rw [lf_count, List.count_replicate_self]
  have hb : 8 * xss.length ≤ 281474976710656 ∧ xss.length ≤ 281474976710656 ∧ xss.length ≤ 4611686018427387904 := by omega
  have hbm : (List.replicate xss.length false).map bool = List.replicate xss.length (.v (.bool false)) := by simp [bool]
  simp (config := {contextual := true}) [Try.f14, List.range, List.range.loop, ints, intss, int, bool, row, frac, fracs, ← List.map_take, ← List.map_drop, mGrid_at, h, h0, hr0, hb]
  refine awp_loop_of (live := [true, false, true, true, true, true, true, true, true, true, false, false, true, false, false, false, false, false, false, false, false, false, false, false, false, false, false, false, true, false, false, false, false, false, false, false, false, true, false, false, false, true, false, false, false, false, false, false, false, false, false, false, false, false, false, true, false, false, false, false, false, false, false, false, true]) (ctx_ok eqOk hG) mixed [true, false, false, true, true, true, true, true] (α := {k : Nat // k ≤ wid xss}) (fun k => ⟨[intss nl xss, .junk, .junk, .ref 0 [] 0 xss.length, int (lf (kSt xss k.1).dn).length, .ref 1 [] 0 (kSt xss k.1).fr, int (kSt xss k.1).fr, int ((k.1 : Int) + 1), .junk, .junk, .junk, .junk, .junk, .junk, .junk, .junk, .junk, .junk, .junk, .junk, .junk, .junk, .junk, .junk, .junk, .junk, .junk, .junk, .junk, .junk, .junk, .junk, .junk, .junk, .junk, .junk, .junk, .junk, .junk, .junk, .junk, .junk, .junk, .junk, .junk, .junk, .junk, .junk, .junk, .junk, .junk, .junk, .junk, .junk, .junk, .junk, .junk, .junk, .junk, .junk, .junk, .junk, .junk, .junk, .junk, .junk, .junk, .junk, .junk, .junk], [⟨true, .sl false 1 ((kSt xss k.1).dn.map bool)⟩, ⟨true, .sl false 1 ((kSt xss k.1).out.map int)⟩]⟩) (fun k => wid xss - k.1) ⟨0, Nat.zero_le _⟩ (by simp [sub, slotsLe, clean, keep, refsL, refs, once, place, renL, ren, List.replicate, int, bool, hlf0, kSt, hbm, intss]) ?_
  rintro ⟨k, hk⟩
  have hK := kSt_ok h0 k
  have hstay := kSt_stay (xss := xss) (k := k)
  have hnext : kSt xss (k + 1) = kStep xss (kSt xss k) (k + 1) := rfl
  obtain ⟨s, hend0⟩ : ∃ s, kSt xss k = s := ⟨_, rfl⟩
  have hknL := knL_yes h
  simp only
  rw [hend0] at hK hstay hnext ⊢
  obtain ⟨dn, fr, out⟩ := s
  obtain ⟨hdl, hfr, hol, h1L, _⟩ := hK
  simp only at hdl hfr hol h1L hstay hnext ⊢
  have hLl : (lf dn).length ≤ 3 := by have := lf_len (dn := dn); omega
  have hr0' : xss[0].2.length = wid xss := hr0
  have htd : dn.take xss.length = dn := List.take_of_length_le (by omega)
  by_cases hgo : k < wid xss ∧ 2 ≤ (lf dn).length
  · obtain ⟨hk1, hL2⟩ := hgo
    have hk1' : (k : Int) + 1 ≤ wid xss := by omega
    have hL2' : (1 : Int) < (lf dn).length := by omega
    have htm := mTaker_at nl xss dn fr (k + 1) ⟨h, hdl, by omega, by omega⟩
    push_cast at htm
    have hwk : IntKind.i64.wrap ((k : Int) + 1 + 1) = (k : Int) + 1 + 1 := wrapI (by omega) (by omega)
    by_cases htk : 0 ≤ tkAt xss dn fr (k + 1)
    · obtain ⟨a, ha, e1, e2⟩ := tkAt_get htk
      obtain ⟨i, hi, hid, _⟩ := lf_mem (List.getElem_mem ha)
      have hn : kSt xss (k + 1) = ⟨dn.set i true, k + 1, out ++ List.replicate (k + 1 - fr) (i : Int)⟩ := by rw [hnext, kStep, if_pos ⟨hL2, htk⟩, e2, hi]; rfl
      have hdel := lf_del ha
      rw [hi] at hdel
      simp only [Int.toNat_natCast] at hdel
      rw [e2, hi] at htm
      have hlen : ((lf (dn.set i true)).length : Int) = (lf dn).length - 1 := by rw [← hdel]; simp; omega
      have hwl : IntKind.i64.wrap (((lf dn).length : Int) - 1) = (lf dn).length - 1 := wrapI (by omega) (by omega)
      have hi0 : (0 : Int) ≤ (i : Int) := by omega
      have hmb : (dn.map bool).set i (.v (.bool true)) = (dn.set i true).map bool := by rw [List.map_set]; rfl
      simp (config := {contextual := true}) [List.range, List.range.loop, ints, intss, int, bool, row, frac, fracs, ← List.map_take, ← List.map_drop, h0, hr0', hk1', hL2', htm, hi0, hdl, htd]
      refine awp_loop_of (live := [true, false, true, true, true, true, true, true, true, true, false, false, true, false, false, false, false, false, false, false, false, false, false, false, false, false, false, false, true, false, false, false, false, false, false, false, false, true, false, false, false, true, false, false, false, false, false, false, false, false, false, false, false, false, false, true, false, false, false, false, false, false, false, false, true]) (ctx_ok eqOk hG) mixed [true, false, false, true, true, true, false, true, true] (α := {j : Nat // fr ≤ j ∧ j ≤ k + 1}) (fun j => ⟨[intss nl xss, .junk, .junk, .ref 0 [] 0 xss.length, int (lf dn).length, .ref 1 [] 0 j.1, .junk, int ((k : Int) + 1), int (i : Int), .junk, .junk, .junk, .junk, .junk, .junk, .junk, .junk, .junk, .junk, .junk, .junk, .junk, .junk, .junk, .junk, .junk, .junk, .junk, .junk, .junk, .junk, .junk, .junk, .junk, .junk, .junk, .junk, .junk, .junk, .junk, .junk, .junk, .junk, .junk, .junk, .junk, .junk, .junk, .junk, .junk, .junk, .junk, .junk, .junk, .junk, .junk, .junk, .junk, .junk, .junk, .junk, .junk, .junk, .junk, .junk, .junk, .junk, .junk, .junk, .junk], [⟨true, .sl false 1 (dn.map bool)⟩, ⟨true, .sl false 1 ((kb out (i : Int) fr j.1).map int)⟩]⟩) (fun j => k + 1 - j.1) ⟨fr, Nat.le_refl _, by omega⟩ (by simp [sub, slotsLe, clean, keep, refsL, refs, once, place, renL, ren, List.replicate, int, bool, kb_start, intss]) ?_
      rintro ⟨j, hj1, hj2⟩
      have hkl1 := kb_len (x := (i : Int)) hol hj1
      have hbj : (j + 1) * 8 ≤ 140737488355328 ∧ j + 1 ≤ 4611686018427387904 ∧ j ≤ 4611686018427387903 := by omega
      by_cases hjk : j < k + 1
      · have hjk' : (j : Int) < (k : Int) + 1 := by omega
        have hka := kb_app (out := out) (x := (i : Int)) hj1
        have hkl2 := kb_len (x := (i : Int)) (j := j + 1) hol (by omega)
        simp (config := {contextual := true}) [List.range, List.range.loop, ints, intss, int, bool, row, frac, fracs, ← List.map_take, ← List.map_drop, hjk', hkl1, hkl2, hka, hbj]
        exact ⟨⟨j + 1, by omega, by omega⟩, by simp [sub, slotsLe, clean, keep, refsL, refs, once, place, renL, ren, List.replicate, int, bool, intss], by simp; omega⟩
      · obtain rfl : j = k + 1 := by omega
        have hidn : i < xss.length := by omega
        simp (config := {contextual := true}) [List.range, List.range.loop, ints, intss, int, bool, row, frac, fracs, ← List.map_take, ← List.map_drop, hkl1, hdl, hidn, hwl, hwk]
        refine ⟨⟨k + 1, hk1⟩, ?_, by simp; omega⟩
        simp [sub, slotsLe, clean, keep, refsL, refs, once, place, renL, ren, List.replicate, int, bool, hn, intss, hlen, kb]
    · have htk' : tkr xss dn fr (k + 1) = -1 := by unfold tkr; rw [if_neg htk]
      rw [htk'] at htm
      have hn : kSt xss (k + 1) = ⟨dn, fr, out⟩ := by rw [hnext, kStep, if_neg (fun hc => htk hc.2)]
      simp (config := {contextual := true}) [List.range, List.range.loop, ints, intss, int, bool, row, frac, fracs, ← List.map_take, ← List.map_drop, h0, hr0', hk1', hL2', htm, hwk, hdl, htd]
      refine ⟨⟨k + 1, hk1⟩, ?_, by simp; omega⟩
      simp [sub, slotsLe, clean, keep, refsL, refs, once, place, renL, ren, List.replicate, int, bool, hn, intss]
  · have hend : kSt xss (wid xss) = ⟨dn, fr, out⟩ := by
      by_cases hkw : k = wid xss
      · rw [← hkw]; exact hend0
      · rw [hstay (fun hc => hgo ⟨by omega, hc⟩) (wid xss) hk]
    have hno : ¬ ((k : Int) + 1 ≤ wid xss ∧ (1 : Int) < (lf dn).length) := fun hc => hgo ⟨by omega, by omega⟩
    rw [hend] at hknL
    by_cases hc1 : (k : Int) + 1 ≤ wid xss
    · have hc2 : ¬ (1 : Int) < (lf dn).length := fun hc => hno ⟨hc1, hc⟩
      simp (config := {contextual := true}) [List.range, List.range.loop, ints, intss, int, bool, row, frac, fracs, ← List.map_take, ← List.map_drop, h0, hr0', hc1, hc2]
      refine awp_loop_of (live := [true, false, true, true, true, true, true, true, true, true, false, false, true, false, false, false, false, false, false, false, false, false, false, false, false, false, false, false, true, false, false, false, false, false, false, false, false, true, false, false, false, true, false, false, false, false, false, false, false, false, false, false, false, false, false, true, false, false, false, false, false, false, false, false, true]) (ctx_ok eqOk hG) mixed [true, false, false, true, false, true, false, false, false, true] (α := {r : Nat // r < xss.length ∧ ∀ j, j < r → dn.getD j true = true}) (fun r => ⟨[intss nl xss, .junk, .junk, .ref 0 [] 0 xss.length, .junk, .ref 1 [] 0 fr, .junk, .junk, .junk, int (r.1 : Int), .junk, .junk, .junk, .junk, .junk, .junk, .junk, .junk, .junk, .junk, .junk, .junk, .junk, .junk, .junk, .junk, .junk, .junk, .junk, .junk, .junk, .junk, .junk, .junk, .junk, .junk, .junk, .junk, .junk, .junk, .junk, .junk, .junk, .junk, .junk, .junk, .junk, .junk, .junk, .junk, .junk, .junk, .junk, .junk, .junk, .junk, .junk, .junk, .junk, .junk, .junk, .junk, .junk, .junk, .junk, .junk, .junk, .junk, .junk, .junk], [⟨true, .sl false 1 (dn.map bool)⟩, ⟨true, .sl false 1 (out.map int)⟩]⟩) (fun r => xss.length - r.1) ⟨0, h0, fun j hj => by omega⟩ (by simp [sub, slotsLe, clean, keep, refsL, refs, once, place, renL, ren, List.replicate, int, bool, intss]) ?_
      rintro ⟨r, hr, hrn⟩
      have hrd : r < dn.length := by omega
      have hdr : dn.getD r true = dn[r] := by simp [List.getD_eq_getElem?_getD, hrd]
      have hwr : IntKind.i64.wrap ((r : Int) + 1) = (r : Int) + 1 := wrapI (by omega) (by omega)
      cases hb1 : dn[r] with
      | true =>
        have hrl : r + 1 < xss.length := by
          rcases Nat.lt_or_ge (r + 1) xss.length with h | h
          · exact h
          · exfalso
            obtain ⟨i, _, h2, h3⟩ := lf_mem (List.getElem_mem (show 0 < (lf dn).length by omega))
            by_cases e : i = r
            · subst e; rw [hdr, hb1] at h3; simp at h3
            · rw [hrn i (by omega)] at h3; simp at h3
        simp (config := {contextual := true}) [List.range, List.range.loop, ints, intss, int, bool, row, frac, fracs, ← List.map_take, ← List.map_drop, hr, hdl, hb1, bool, hwr]
        refine ⟨⟨r + 1, hrl, fun j hj => ?_⟩, by simp [sub, slotsLe, clean, keep, refsL, refs, once, place, renL, ren, List.replicate, int, bool, intss], by simp; omega⟩
        by_cases e : j = r
        · subst e; rw [hdr, hb1]
        · exact hrn j (by omega)
      | false =>
        have hfs := first_sel (q := fun i => !dn.getD i true) (p := fun _ => true) (n := dn.length) (k := r) hrd (by simp only [hdr, hb1]; rfl) rfl (fun j hj hq => by simp only [hrn j hj] at hq; simp at hq)
        have hse : selTo (fun i => !dn.getD i true) r = [] := by
          apply List.eq_nil_iff_forall_not_mem.2
          intro x hx
          obtain ⟨j, _, h2, h3⟩ := selTo_mem hx
          simp only [hrn j h2] at h3; simp at h3
        have hg0 : (lf dn).getD 0 0 = (r : Int) := by
          have := hfs.2
          rw [hse] at this
          exact this
        simp only [hg0] at hknL
        simp (config := {contextual := true}) [List.range, List.range.loop, ints, intss, int, bool, row, frac, fracs, ← List.map_take, ← List.map_drop, hr, hdl, hb1, bool]
        refine awp_loop_of (live := [true, false, true, true, true, true, true, true, true, true, false, false, true, false, false, false, false, false, false, false, false, false, false, false, false, false, false, false, true, false, false, false, false, false, false, false, false, true, false, false, false, true, false, false, false, false, false, false, false, false, false, false, false, false, false, true, false, false, false, false, false, false, false, false, true]) (ctx_ok eqOk hG) mixed [true, false, false, false, false, true, false, false, false, true] (α := {j : Nat // fr ≤ j ∧ j ≤ wid xss}) (fun j => ⟨[intss nl xss, .junk, .junk, .junk, .junk, .ref 0 [] 0 j.1, .junk, .junk, .junk, int (r : Int), .junk, .junk, .junk, .junk, .junk, .junk, .junk, .junk, .junk, .junk, .junk, .junk, .junk, .junk, .junk, .junk, .junk, .junk, .junk, .junk, .junk, .junk, .junk, .junk, .junk, .junk, .junk, .junk, .junk, .junk, .junk, .junk, .junk, .junk, .junk, .junk, .junk, .junk, .junk, .junk, .junk, .junk, .junk, .junk, .junk, .junk, .junk, .junk, .junk, .junk, .junk, .junk, .junk, .junk, .junk, .junk, .junk, .junk, .junk, .junk], [⟨true, .sl false 1 ((kb out (r : Int) fr j.1).map int)⟩]⟩) (fun j => wid xss - j.1) ⟨fr, Nat.le_refl _, by omega⟩ (by simp [sub, slotsLe, clean, keep, refsL, refs, once, place, renL, ren, List.replicate, int, bool, kb_start, intss]) ?_
        rintro ⟨j, hj1, hj2⟩
        have hkl1 := kb_len (x := (r : Int)) hol hj1
        have hbj : (j + 1) * 8 ≤ 140737488355328 ∧ j + 1 ≤ 4611686018427387904 ∧ j ≤ 4611686018427387903 := by omega
        by_cases hjk : j < wid xss
        · have hka := kb_app (out := out) (x := (r : Int)) hj1
          have hkl2 := kb_len (x := (r : Int)) (j := j + 1) hol (by omega)
          simp (config := {contextual := true}) [List.range, List.range.loop, ints, intss, int, bool, row, frac, fracs, ← List.map_take, ← List.map_drop, h0, hr0', hjk, hkl1, hkl2, hka, hbj]
          exact ⟨⟨j + 1, by omega, by omega⟩, by simp [sub, slotsLe, clean, keep, refsL, refs, once, place, renL, ren, List.replicate, int, bool, intss], by simp; omega⟩
        · obtain rfl : j = wid xss := by omega
          have hkk : kb out (r : Int) fr (wid xss) = knL xss := by rw [hknL]; rfl
          rw [hkk] at hkl1
          simp (config := {contextual := true}) [List.range, List.range.loop, ints, intss, int, bool, row, frac, fracs, ← List.map_take, ← List.map_drop, h0, hr0', hkk, hkl1]
    · simp (config := {contextual := true}) [List.range, List.range.loop, ints, intss, int, bool, row, frac, fracs, ← List.map_take, ← List.map_drop, h0, hr0', hc1]
      refine awp_loop_of (live := [true, false, true, true, true, true, true, true, true, true, false, false, true, false, false, false, false, false, false, false, false, false, false, false, false, false, false, false, true, false, false, false, false, false, false, false, false, true, false, false, false, true, false, false, false, false, false, false, false, false, false, false, false, false, false, true, false, false, false, false, false, false, false, false, true]) (ctx_ok eqOk hG) mixed [true, false, false, true, false, true, false, false, false, true] (α := {r : Nat // r < xss.length ∧ ∀ j, j < r → dn.getD j true = true}) (fun r => ⟨[intss nl xss, .junk, .junk, .ref 0 [] 0 xss.length, .junk, .ref 1 [] 0 fr, .junk, .junk, .junk, int (r.1 : Int), .junk, .junk, .junk, .junk, .junk, .junk, .junk, .junk, .junk, .junk, .junk, .junk, .junk, .junk, .junk, .junk, .junk, .junk, .junk, .junk, .junk, .junk, .junk, .junk, .junk, .junk, .junk, .junk, .junk, .junk, .junk, .junk, .junk, .junk, .junk, .junk, .junk, .junk, .junk, .junk, .junk, .junk, .junk, .junk, .junk, .junk, .junk, .junk, .junk, .junk, .junk, .junk, .junk, .junk, .junk, .junk, .junk, .junk, .junk, .junk], [⟨true, .sl false 1 (dn.map bool)⟩, ⟨true, .sl false 1 (out.map int)⟩]⟩) (fun r => xss.length - r.1) ⟨0, h0, fun j hj => by omega⟩ (by simp [sub, slotsLe, clean, keep, refsL, refs, once, place, renL, ren, List.replicate, int, bool, intss]) ?_
      rintro ⟨r, hr, hrn⟩
      have hrd : r < dn.length := by omega
      have hdr : dn.getD r true = dn[r] := by simp [List.getD_eq_getElem?_getD, hrd]
      have hwr : IntKind.i64.wrap ((r : Int) + 1) = (r : Int) + 1 := wrapI (by omega) (by omega)
      cases hb1 : dn[r] with
      | true =>
        have hrl : r + 1 < xss.length := by
          rcases Nat.lt_or_ge (r + 1) xss.length with h | h
          · exact h
          · exfalso
            obtain ⟨i, _, h2, h3⟩ := lf_mem (List.getElem_mem (show 0 < (lf dn).length by omega))
            by_cases e : i = r
            · subst e; rw [hdr, hb1] at h3; simp at h3
            · rw [hrn i (by omega)] at h3; simp at h3
        simp (config := {contextual := true}) [List.range, List.range.loop, ints, intss, int, bool, row, frac, fracs, ← List.map_take, ← List.map_drop, hr, hdl, hb1, bool, hwr]
        refine ⟨⟨r + 1, hrl, fun j hj => ?_⟩, by simp [sub, slotsLe, clean, keep, refsL, refs, once, place, renL, ren, List.replicate, int, bool, intss], by simp; omega⟩
        by_cases e : j = r
        · subst e; rw [hdr, hb1]
        · exact hrn j (by omega)
      | false =>
        have hfs := first_sel (q := fun i => !dn.getD i true) (p := fun _ => true) (n := dn.length) (k := r) hrd (by simp only [hdr, hb1]; rfl) rfl (fun j hj hq => by simp only [hrn j hj] at hq; simp at hq)
        have hse : selTo (fun i => !dn.getD i true) r = [] := by
          apply List.eq_nil_iff_forall_not_mem.2
          intro x hx
          obtain ⟨j, _, h2, h3⟩ := selTo_mem hx
          simp only [hrn j h2] at h3; simp at h3
        have hg0 : (lf dn).getD 0 0 = (r : Int) := by
          have := hfs.2
          rw [hse] at this
          exact this
        simp only [hg0] at hknL
        simp (config := {contextual := true}) [List.range, List.range.loop, ints, intss, int, bool, row, frac, fracs, ← List.map_take, ← List.map_drop, hr, hdl, hb1, bool]
        refine awp_loop_of (live := [true, false, true, true, true, true, true, true, true, true, false, false, true, false, false, false, false, false, false, false, false, false, false, false, false, false, false, false, true, false, false, false, false, false, false, false, false, true, false, false, false, true, false, false, false, false, false, false, false, false, false, false, false, false, false, true, false, false, false, false, false, false, false, false, true]) (ctx_ok eqOk hG) mixed [true, false, false, false, false, true, false, false, false, true] (α := {j : Nat // fr ≤ j ∧ j ≤ wid xss}) (fun j => ⟨[intss nl xss, .junk, .junk, .junk, .junk, .ref 0 [] 0 j.1, .junk, .junk, .junk, int (r : Int), .junk, .junk, .junk, .junk, .junk, .junk, .junk, .junk, .junk, .junk, .junk, .junk, .junk, .junk, .junk, .junk, .junk, .junk, .junk, .junk, .junk, .junk, .junk, .junk, .junk, .junk, .junk, .junk, .junk, .junk, .junk, .junk, .junk, .junk, .junk, .junk, .junk, .junk, .junk, .junk, .junk, .junk, .junk, .junk, .junk, .junk, .junk, .junk, .junk, .junk, .junk, .junk, .junk, .junk, .junk, .junk, .junk, .junk, .junk, .junk], [⟨true, .sl false 1 ((kb out (r : Int) fr j.1).map int)⟩]⟩) (fun j => wid xss - j.1) ⟨fr, Nat.le_refl _, by omega⟩ (by simp [sub, slotsLe, clean, keep, refsL, refs, once, place, renL, ren, List.replicate, int, bool, kb_start, intss]) ?_
        rintro ⟨j, hj1, hj2⟩
        have hkl1 := kb_len (x := (r : Int)) hol hj1
        have hbj : (j + 1) * 8 ≤ 140737488355328 ∧ j + 1 ≤ 4611686018427387904 ∧ j ≤ 4611686018427387903 := by omega
        by_cases hjk : j < wid xss
        · have hka := kb_app (out := out) (x := (r : Int)) hj1
          have hkl2 := kb_len (x := (r : Int)) (j := j + 1) hol (by omega)
          simp (config := {contextual := true}) [List.range, List.range.loop, ints, intss, int, bool, row, frac, fracs, ← List.map_take, ← List.map_drop, h0, hr0', hjk, hkl1, hkl2, hka, hbj]
          exact ⟨⟨j + 1, by omega, by omega⟩, by simp [sub, slotsLe, clean, keep, refsL, refs, once, place, renL, ren, List.replicate, int, bool, intss], by simp; omega⟩
        · obtain rfl : j = wid xss := by omega
          have hkk : kb out (r : Int) fr (wid xss) = knL xss := by rw [hknL]; rfl
          rw [hkk] at hkl1
          simp (config := {contextual := true}) [List.range, List.range.loop, ints, intss, int, bool, row, frac, fracs, ← List.map_take, ← List.map_drop, h0, hr0', hkk, hkl1]

theorem specKnife_ok : FnOk Try.prog 14 mKnife := by
  refine mk_ok fun ⟨nl, xss⟩ _ => ?_
  cases h : rectB xss 3 10 100 with
  | false => simp only [knL_no h, h, Bool.not_false, List.map_nil]; exact specKnife_no nl xss h
  | true => simp only [h, Bool.not_true]; exact specKnife_yes nl xss h

end Go.Proofs.Ytlkgppincgpfjaa.Ax
