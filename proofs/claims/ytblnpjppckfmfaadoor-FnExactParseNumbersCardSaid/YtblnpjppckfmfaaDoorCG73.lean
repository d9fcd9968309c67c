/-
  Contracts: the reference's Join; FormatNumbers (both programs). No condition.
-/
import Derived.Test.YtblnpjppckfmfaaDoorCG71
import Derived.Test.YtblnpjppckfmfaaDoorCG72
namespace Go.Proofs.YtblnpjppckfmfaaDoor.Ax
open Go Go.RowKit
set_option linter.unusedSimpArgs false

/-- The first k words. -/
def jTo (ws : List ByteArray) (by' : ByteArray) (k : Nat) : ByteArray := joinS (ws.take k) by'
theorem ba_data (s : ByteArray) : s = ⟨(bl s).toArray⟩ := by apply ByteArray.ext; simp [bl]
theorem bl_mk (l : List UInt8) : bl ⟨l.toArray⟩ = l := by simp [bl]
theorem size_bl (s : ByteArray) : s.size = (bl s).length := by unfold bl; rw [Array.length_toList]; rfl
theorem jTo_zero {ws : List ByteArray} {by' : ByteArray} : jTo ws by' 0 = ⟨#[]⟩ := rfl
theorem jTo_one {ws : List ByteArray} {by' : ByteArray} (h : 0 < ws.length) : jTo ws by' 1 = ws[0] := by
  unfold jTo joinS
  rw [show ws.take 1 = [ws[0]] by cases ws with | nil => simp at h | cons x l => rfl]
  rw [List.map_cons, List.map_nil, Lib.join_one]
  exact (ba_data _).symm
theorem jTo_succ {ws : List ByteArray} {by' : ByteArray} {k : Nat} (h0 : 0 < k) (h : k < ws.length) : jTo ws by' k ++ by' ++ ws[k] = jTo ws by' (k + 1) := by
  unfold jTo joinS
  rw [List.take_succ_eq_append_getElem h, List.map_append, List.map_cons, List.map_nil, join_snoc (by intro e; rw [List.map_eq_nil_iff] at e; have := congrArg List.length e; rw [List.length_take, List.length_nil] at this; omega)]
  rw [← ba_app, ← ba_app, ← ba_data, ← ba_data]
theorem join_mono {ws : List ByteArray} {by' : ByteArray} : ∀ {j k : Nat}, j ≤ k → (jTo ws by' j).size ≤ (jTo ws by' k).size
  | j, 0, h => by rw [Nat.le_zero.1 h]; exact Nat.le_refl _
  | j, k + 1, h => by
    rcases Nat.lt_or_ge j (k + 1) with hlt | hge
    · refine Nat.le_trans (join_mono (show j ≤ k by omega)) ?_
      rcases Nat.lt_or_ge k ws.length with hk | hk
      · rcases Nat.eq_zero_or_pos k with rfl | h0
        · rw [jTo_zero]; exact Nat.zero_le _
        · rw [← jTo_succ h0 hk]; simp only [ByteArray.size_append]; omega
      · unfold jTo; rw [List.take_of_length_le hk, List.take_of_length_le (by omega)]; exact Nat.le_refl _
    · rw [show j = k + 1 by omega]; exact Nat.le_refl _
theorem jTo_all {ws : List ByteArray} {by' : ByteArray} : jTo ws by' ws.length = joinS ws by' := by unfold jTo; rw [List.take_length]
theorem joinS_size {ws : List ByteArray} {by' : ByteArray} : (joinS ws by').size = (Lib.join (ws.map bl) (bl by')).length := by unfold joinS; rw [ba_size]

set_option maxHeartbeats 1000000 in
theorem specJoin_ok : FnOk Tryd.prog 44 mJoin := by
  refine mk_ok fun ⟨nl, ws, by'⟩ ⟨hN, hL⟩ => ?_
  simp only at hN hL
  have hG : FnsOk Tryd.prog [] := .nil
  refine callOk_awp (ctx_ok eqOk hG) mixed (live := [true, true, false, false, true, true, true, true, true, true, true, true, false, false, false, false, true]) (dt := []) Tryd.func44 rfl (by kernel_rfl) (by kernel_rfl) fun w0 hlens => ?_
  clear hlens
  simp (config := {contextual := true}) [Tryd.f44, List.range, List.range.loop, ints, intss, int, bool, row, frac, fracs, ← List.map_take, ← List.map_drop, strs, str]
  refine awp_range (live := [true, true, false, false, true, true, true, true, true, true, true, true, false, false, false, false, true]) (ctx_ok eqOk hG) mixed [false, true, false, false, false, true, false, false, true, true, true] (ws.length) (fun k => True) (fun k => ⟨[.junk, str by', .junk, .junk, .junk, .v (.string (jTo ws by' k)), .junk, .junk, strs nl ws, int ws.length, int k, .junk, .junk, .junk, .junk, .junk, .junk, .junk, .junk, .junk, .junk, .junk, .junk, .junk, .junk], []⟩) ?_ (by simp [sub, slotsLe, clean, keep, refsL, refs, once, place, renL, ren, List.replicate, int, bool, strs, str, jTo_zero]) ?_ ?_ ?_
  · omega
  · trivial
  · intro k hk _ hwk
    have hm := join_mono (ws := ws) (by' := by') (show k + 1 ≤ ws.length by omega)
    rw [jTo_all, joinS_size] at hm
    rcases Nat.eq_zero_or_pos k with rfl | h0
    · have h1 := jTo_one (by' := by') hk
      have hz : ({ data := #[] } : ByteArray) ++ ws[0] = ws[0] := by rw [ba_data ws[0]]; exact ba_app [] _
      have hs : ({ data := #[] } : ByteArray).size + ws[0].size ≤ 9223372036854775807 := by
        have e0 : ({ data := #[] } : ByteArray).size = 0 := rfl
        have hm' : (jTo ws by' 1).size ≤ _ := hm
        rw [h1] at hm'
        omega
      have hwk' : IntKind.i64.wrap 1 = 1 := by decide
      simp (config := {contextual := true}) [List.range, List.range.loop, ints, intss, int, bool, row, frac, fracs, ← List.map_take, ← List.map_drop, hk, hwk', h1, hz, hs, jTo_zero, str, strs]
      done
    · have h1 := jTo_succ (by' := by') h0 hk
      have hs : (jTo ws by' k).size + by'.size + ws[k].size ≤ 9223372036854775807 := by rw [← ByteArray.size_append, ← ByteArray.size_append, h1]; omega
      have hs1 : (jTo ws by' k).size + by'.size ≤ 9223372036854775807 := by omega
      have hk0 : (0 : Int) < k := by omega
      simp (config := {contextual := true}) [List.range, List.range.loop, ints, intss, int, bool, row, frac, fracs, ← List.map_take, ← List.map_drop, hk, hwk, h0, hk0, h1, hs, hs1, str, strs]
      done
  · intro _
    simp (config := {contextual := true}) [List.range, List.range.loop, ints, intss, int, bool, row, frac, fracs, ← List.map_take, ← List.map_drop, jTo_all]
    done

end Go.Proofs.YtblnpjppckfmfaaDoor.Ax
