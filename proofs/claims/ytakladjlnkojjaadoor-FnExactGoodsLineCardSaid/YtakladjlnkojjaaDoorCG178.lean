/-
  Contracts: the product of what goods are worth, the best and the number of allocations (the reference). No condition.
-/
import Derived.Test.YtakladjlnkojjaaDoorCG177
namespace Go.Proofs.YtakladjlnkojjaaDoor.Ax
open Go Go.RowKit
set_option linter.unusedSimpArgs false

set_option maxHeartbeats 2000000 in
theorem specCntF_ok : FnOk Tryd.prog 32 mCntF := by
  refine mk_ok fun ⟨nl, xss⟩ h1 => ?_
  simp only at h1
  have hG : FnsOk Tryd.prog [(27, (mGrid 3 6 100)), (59, mFree)] := (.cons specValuesOk_ok (.cons l23Free_ok .nil))
  have hM : FnsMut Tryd.prog [] := .nil
  have hV : FnsMov Tryd.prog [] := .nil
  have hK : FnsFrz Tryd.prog [(56, false, mAll23)] := (.cons (FnOk.frz l23All_ok) .nil)
  refine callOk_awp (ctxH_ok eqOk hG hM hV hK) mixed (live := [true, false, true, true, false, true, false, false, true, false, true, true, true, true, false, false, false, false, true]) (dt := []) Tryd.func32 rfl (by kernel_rfl) (by kernel_rfl) fun w0 hlens => ?_
  clear hlens
  have hal := mAll23_at nl xss h1
  have h729 := allocs_all h1
  have hal2 := fun l (h : l ∈ allocs xss) => allocs_len h
  have hct := fun k (h : k < (allocs xss).length) => cntF_take (xss := xss) (L := allocs xss) h
  have hz : cntF xss ((allocs xss).take 0) = 0 := rfl
  have hall : (allocs xss).take (allocs xss).length = allocs xss := List.take_length
  generalize allocs xss = A at *
  simp [Tryd.f32, List.range, List.range.loop, ints, intss, int, bool, row, frac, fracs, ← List.map_take, ← List.map_drop, List.all, mGrid_at, h1, hal]
  refine awp_range (live := [true, false, true, true, false, true, false, false, true, false, true, true, true, true, false, false, false, false, true]) (ctxH_ok eqOk hG hM hV hK) mixed [true, false, false, true, false, false, false, false, false, false, true, true, true] (A.length) (fun k => True) (fun k => ⟨[intss nl xss, .junk, .junk, int (cntF xss (A.take k)), .junk, .junk, .junk, .junk, .junk, .junk, .sl false 1 (A.map lrow), int A.length, int k, .junk, .junk, .junk, .junk, .junk, .junk, .junk, .junk, .junk, .junk], []⟩) ?_ (by simp [sub, slotsLe, clean, keep, refsL, refs, once, place, renL, ren, List.replicate, int, bool, intss, cntF]) ?_ ?_ ?_
  · omega
  · trivial
  · intro k hk _ hwk
    have hf := mFree_at nl xss false A[k] ⟨h1, by rw [hal2 _ (List.getElem_mem hk)]; exact Nat.le_refl _⟩
    have hc := hct k hk
    have hle := cntF_le (xss := xss) (L := A.take k)
    rw [List.length_take] at hle
    have hwc : IntKind.i64.wrap ((cntF xss (A.take k) : Int) + 1) = (cntF xss (A.take k) : Int) + 1 := wrapI (by omega) (by omega)
    have hg : A[k]? = some A[k] := List.getElem?_eq_getElem hk
    cases hfr : frB xss A[k] with
    | true =>
      rw [hfr, if_pos rfl] at hc
      rw [hfr] at hf
      simp [List.range, List.range.loop, ints, intss, int, bool, row, frac, fracs, ← List.map_take, ← List.map_drop, List.all, lrow, hk, hg, hwk, hf, hc, hwc]
    | false =>
      rw [hfr, if_neg (by simp), Nat.add_zero] at hc
      rw [hfr] at hf
      simp [List.range, List.range.loop, ints, intss, int, bool, row, frac, fracs, ← List.map_take, ← List.map_drop, List.all, lrow, hk, hg, hwk, hf, hc]
  · intro _
    simp [List.range, List.range.loop, ints, intss, int, bool, row, frac, fracs, ← List.map_take, ← List.map_drop, List.all, hall]

/-- The best so far, or an empty list. -/
def bestZ (o : Option (List Int)) : AV := .sl false 1 ((o.getD []).map int)
set_option maxHeartbeats 2000000 in
theorem specMost_ok : FnFrz Tryd.prog 29 true mMost := by
  refine mk_frz fun ⟨nl, xss⟩ h1 => ?_
  simp only at h1
  have hG : FnsOk Tryd.prog [(27, (mGrid 3 6 100)), (57, mProdS)] := (.cons specValuesOk_ok (.cons l23Product_ok .nil))
  have hM : FnsMut Tryd.prog [] := .nil
  have hV : FnsMov Tryd.prog [] := .nil
  have hK : FnsFrz Tryd.prog [(56, false, mAll23)] := (.cons (FnOk.frz l23All_ok) .nil)
  refine frzOk_awp (ctxH_ok eqOk hG hM hV hK) mixed (live := [true, false, true, true, true, false, true, true, true, true, true, false, false, true, false, false, true, true, true, true, false, false, false, false, false, false, false, false, false, false, true, false, false, false, false, false, false, false, false, false, false, false, false, false, false, false, false, false, false, false, true]) (dt := []) Tryd.func29 rfl (by kernel_rfl) (by kernel_rfl) fun A w0 hlens => ?_
  clear hlens
  have hal := mAll23_at nl xss h1
  have h729 := allocs_all h1
  have hlen := rect_len h1
  have hal2 := fun l (h : l ∈ allocs xss) => allocs_len h
  have hbt := fun k (h : k < (allocs xss).length) => bestP_take (xss := xss) (L := allocs xss) h
  have hbm := fun k b hb => (bestP_mem (xss := xss) (L := (allocs xss).take k) (o := none) b hb).resolve_right (by simp)
  have hz : bestP xss [] = none := rfl
  have hall : (allocs xss).take (allocs xss).length = allocs xss := List.take_length
  have hne : allocs xss ≠ [] := by
    have : (allocs xss).length = xss.length ^ (wid xss) := allL_len _
    intro e
    rw [e] at this
    have := Nat.pow_pos (n := wid xss) (rect_pos h1)
    simp at *; omega
  obtain ⟨bb, hbb, hbb2⟩ := bestP_some (xss := xss) hne
  generalize allocs xss = A at *
  simp [Tryd.f29, List.range, List.range.loop, ints, intss, int, bool, row, frac, fracs, ← List.map_take, ← List.map_drop, List.all, mGrid_at, h1, hal]
  refine awp_rangeZ [0] (live := [true, false, true, true, true, false, true, true, true, true, true, false, false, true, false, false, true, true, true, true, false, false, false, false, false, false, false, false, false, false, true, false, false, false, false, false, false, false, false, false, false, false, false, false, false, false, false, false, false, false, true]) (ctxH_ok eqOk hG hM hV hK) mixed [true, false, false, false, true, false, false, false, false, false, false, false, false, false, false, false, true, true, true] (A.length) (fun k => True) (fun k => ⟨[intss nl xss, .junk, .junk, .junk, bestZ (bestP xss (A.take k)), .junk, .junk, .junk, .junk, .junk, .junk, .junk, .junk, .junk, .junk, .junk, .sl false 1 (A.map lrow), int A.length, int k, .junk, .junk, .junk, .junk, .junk, .junk, .junk, .junk, .junk, .junk, .junk, .junk, .junk, .junk, .junk, .junk, .junk, .junk, .junk, .junk, .junk, .junk, .junk, .junk, .junk, .junk, .junk, .junk, .junk, .junk, .junk, .junk, .junk, .junk, .junk], []⟩) ?_ (by simp [sub, slotsLe, clean, keep, refsL, refs, once, place, renL, ren, List.replicate, int, bool, intss, hz, bestZ, freeze, frzA, frzAL, res, getAt, sets, viewEs]) ?_ ?_ ?_
  · omega
  · trivial
  · intro k hk _ hwk
    have hll := hal2 _ (List.getElem_mem hk)
    have hp := mProdS_at nl xss false A[k] ⟨h1, by omega⟩
    have hc := hbt k hk
    have hg : A[k]? = some A[k] := List.getElem?_eq_getElem hk
    have hmm := fun b hb => hbm k b hb
    cases ho : bestP xss (A.take k) with
    | none =>
      rw [ho] at hc
      simp only [pickP] at hc
      simp [List.range, List.range.loop, ints, intss, int, bool, row, frac, fracs, ← List.map_take, ← List.map_drop, List.all, lrow, bestZ, hk, hg, hwk, hp, hc, ho]
    | some b =>
      rw [ho] at hc
      simp only [pickP] at hc
      have hbl := hal2 _ (List.mem_of_mem_take (hmm b ho))
      have hpb := mProdS_at nl xss false b ⟨h1, by omega⟩
      have hb0 : ¬ b.length = 0 := by omega
      have hb1 : ¬ b = [] := fun e => hb0 (by rw [e]; rfl)
      simp only [prGt] at hc
      by_cases q1 : (prA xss b).1 < (prA xss A[k]).1
      · simp [q1] at hc
        simp [List.range, List.range.loop, ints, intss, int, bool, row, frac, fracs, ← List.map_take, ← List.map_drop, List.all, lrow, bestZ, hk, hg, hwk, hp, hpb, hb0, hb1, hc, ho, q1]
      · by_cases q2 : (prA xss A[k]).1 = (prA xss b).1
        · by_cases q3 : (prA xss b).2 < (prA xss A[k]).2
          · simp [q1, q2, q3] at hc
            simp [List.range, List.range.loop, ints, intss, int, bool, row, frac, fracs, ← List.map_take, ← List.map_drop, List.all, lrow, bestZ, hk, hg, hwk, hp, hpb, hb0, hb1, hc, ho, q1, q2, q3]
          · simp [q1, q2, q3] at hc
            simp [List.range, List.range.loop, ints, intss, int, bool, row, frac, fracs, ← List.map_take, ← List.map_drop, List.all, lrow, bestZ, hk, hg, hwk, hp, hpb, hb0, hb1, hc, ho, q1, q2, q3]
        · simp [q1, q2] at hc
          have q4 : ((prA xss A[k]).1 == (prA xss b).1) = false := by simpa using q2
          simp [List.range, List.range.loop, ints, intss, int, bool, row, frac, fracs, ← List.map_take, ← List.map_drop, List.all, lrow, bestZ, hk, hg, hwk, hp, hpb, hb0, hb1, hc, ho, q1, q2, q4]
  · intro _
    simp [List.range, List.range.loop, ints, intss, int, bool, row, frac, fracs, ← List.map_take, ← List.map_drop, List.all, hall, hbb, bestZ, bestV]

end Go.Proofs.YtakladjlnkojjaaDoor.Ax
