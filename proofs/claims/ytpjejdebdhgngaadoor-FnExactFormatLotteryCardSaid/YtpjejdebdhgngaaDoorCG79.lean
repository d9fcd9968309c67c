/-
  Contracts: FormatLottery (the reference). No condition.
-/
import Derived.Test.YtpjejdebdhgngaaDoorCG78
namespace Go.Proofs.YtpjejdebdhgngaaDoor.Ax
open Go Go.RowKit
set_option linter.unusedSimpArgs false

set_option maxHeartbeats 2000000 in
theorem specFormatLottery_ok : FnOk Tryd.prog 23 mFLot := by
  refine mk_ok fun ⟨nl, m⟩ _ => ?_
  have hG : FnsOk Tryd.prog [(38, mLot), (34, mFFrac), (30, mJoin)] := (.cons specLot_ok (.cons specFormatFraction_ok (.cons specJoin_ok .nil)))
  refine callOk_awp (ctx_ok eqOk hG) mixed (live := [true, false, true, true, false, true, true, false, true, false, false, true, false, true, true, true, true, false, false, false, true, true, true, true]) (dt := []) Tryd.func23 rfl (by kernel_rfl) (by kernel_rfl) fun w0 hlens => ?_
  clear hlens
  cases hL : lotB m with
  | false => simp (config := {contextual := true}) [Tryd.f23, List.range, List.range.loop, ints, intss, int, bool, row, frac, fracs, ← List.map_take, ← List.map_drop, fracss, mLot_at, hL, lotS]
  | true =>
  obtain ⟨h1, h4, hr⟩ := lot_rows hL
  have hj := lot_join hL
  have hnS : lotS m = lotT m := by unfold lotS; rw [if_pos hL]
  simp (config := {contextual := true}) [Tryd.f23, List.range, List.range.loop, ints, intss, int, bool, row, frac, fracs, ← List.map_take, ← List.map_drop, fracss, mLot_at, hL]
  refine awp_range (live := [true, false, true, true, false, true, true, false, true, false, false, true, false, true, true, true, true, false, false, false, true, true, true, true]) (ctx_ok eqOk hG) mixed [false, false, false, true, false, false, false, false, false, false, false, false, false, true, true, true] (m.length) (fun k => True) (fun k => ⟨[.junk, .junk, .junk, .ref 0 [] 0 k, .junk, .junk, .junk, .junk, .junk, .junk, .junk, .junk, .junk, fracss nl m, int m.length, int k, .junk, .junk, .junk, .junk, .junk, .junk, .junk, .junk, .junk, .junk, .junk, .junk, .junk, .junk, .junk, .junk, .junk, .junk, .junk, .junk, .junk, .junk, .junk, .junk], apV ((m.take k).map wl)⟩) ?_ (by simp [sub, slotsLe, clean, keep, refsL, refs, once, place, renL, ren, List.replicate, int, bool, fracss, apV]) ?_ ?_ ?_
  · omega
  · trivial
  · intro k hk _ hwk
    have hrl := hr _ (List.getElem_mem hk)
    have hfj := fr_join (fs := m[k].2) (by omega)
    have htrl := take_snoc (f := wl) hk
    have htl : (m.take k).length = k := by simp; omega
    simp (config := {contextual := true}) [List.range, List.range.loop, ints, intss, int, bool, row, frac, fracs, ← List.map_take, ← List.map_drop, fracss, frow, apV, hk]
    refine awp_range (live := [true, false, true, true, false, true, true, false, true, false, false, true, false, true, true, true, true, false, false, false, true, true, true, true]) (ctx_ok eqOk hG) mixed [false, false, false, true, false, false, true, false, false, false, false, false, false, true, true, true, false, false, false, false, true, true, true] (m[k].2.length) (fun j => True) (fun j => ⟨[.junk, .junk, .junk, .ref 0 [] 0 k, .junk, .junk, .ref 1 [] 0 j, .junk, .junk, .junk, .junk, .junk, .junk, fracss nl m, int m.length, int k, .junk, .junk, .junk, .junk, frow m[k], int m[k].2.length, int j, .junk, .junk, .junk, .junk, .junk, .junk, .junk, .junk, .junk, .junk, .junk, .junk, .junk, .junk, .junk, .junk, .junk], [⟨true, .sl false 1 ((m.take k).map wl)⟩, ⟨true, .sl false 1 ((m[k].2.take j).map wf)⟩]⟩) ?_ (by simp [sub, slotsLe, clean, keep, refsL, refs, once, place, renL, ren, List.replicate, int, bool, fracss, frow, apV]) ?_ ?_ ?_
    · omega
    · trivial
    · intro j hj' _ hwj
      have hit := mFFrac_at m[k].2[j].1 m[k].2[j].2
      have htr := take_snoc (f := wf) hj'
      simp only [wf] at htr
      have hb : j + 1 ≤ 4611686018427387904 ∧ (j + 1) * 16 ≤ 140737488355328 := by omega
      have hjl : (m[k].2.take j).length = j := by simp; omega
      simp (config := {contextual := true}) [List.range, List.range.loop, ints, intss, int, bool, row, frac, fracs, ← List.map_take, ← List.map_drop, fracss, frow, frac, apV, hj', hit, htr, hb, hwj, hjl]
      done
    · intro _
      have hb : k + 1 ≤ 4611686018427387904 ∧ (k + 1) * 16 ≤ 140737488355328 := by omega
      simp only [wl, lr] at htrl
      simp (config := {contextual := true}) [List.range, List.range.loop, ints, intss, int, bool, row, frac, fracs, ← List.map_take, ← List.map_drop, fracss, frow, apV, hfj, hwk, htrl, htl, hb]
      done
  · intro _
    simp (config := {contextual := true}) [List.range, List.range.loop, ints, intss, int, bool, row, frac, fracs, ← List.map_take, ← List.map_drop, fracss, apV, hj, hnS]
    done

end Go.Proofs.YtpjejdebdhgngaaDoor.Ax
