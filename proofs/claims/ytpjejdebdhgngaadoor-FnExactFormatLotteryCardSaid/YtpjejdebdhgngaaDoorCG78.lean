/-
  Contracts: FormatLottery (the program). No condition.
-/
import Derived.Test.YtpjejdebdhgngaaDoorCG77
import Derived.Test.YtpjejdebdhgngaaDoorCG13
namespace Go.Proofs.YtpjejdebdhgngaaDoor.Ax
open Go Go.RowKit
set_option linter.unusedSimpArgs false

def lr (r : Bool × List (Int × Int)) : ByteArray := frT r.2
def wl (r : Bool × List (Int × Int)) : AV := .v (.string (lr r))
def lotT (m : List (Bool × List (Int × Int))) : ByteArray := joinS (m.map lr) ⟨#[32]⟩
def lotS (m : List (Bool × List (Int × Int))) : ByteArray := if lotB m = true then lotT m else ⟨#[]⟩
noncomputable def mFLot : List AV → Option AV := mk (fun _ => True) (fun (p : (Bool) × (List (Bool × List (Int × Int)))) => [fracss p.1 p.2]) (fun p => .v (.string (lotS p.2)))
theorem mFLot_at (nl : Bool) (m : List (Bool × List (Int × Int))) : mFLot [.sl nl 1 (m.map frow)] = some (.v (.string (lotS m))) :=
  mk_eq (enc := fun (p : (Bool) × (List (Bool × List (Int × Int)))) => [fracss p.1 p.2]) (x := (nl, m)) (by rintro ⟨a0, a1⟩ ⟨b0, b1⟩ h; simp [ints, intss, int, bool, row, frac, fracs, map_int_inj, map_row_inj, frac_inj, map_frac_inj, fracss, map_frow_inj] at h; simp [h]) trivial

theorem lot_rows {m : List (Bool × List (Int × Int))} (h : lotB m = true) : 1 ≤ m.length ∧ m.length ≤ 4 ∧ ∀ r ∈ m, r.2.length = m.length := by
  simp only [lotB, Bool.and_eq_true, inR, decide_eq_true_eq] at h
  refine ⟨by omega, by omega, fun r hr => ?_⟩
  obtain ⟨k, hk, rfl⟩ := List.getElem_of_mem hr
  have h2 := h.1.2
  unfold allR at h2
  rw [List.all_eq_true] at h2
  have := h2 k (by simpa using hk)
  simp only [partRow, getDF hk, Bool.and_eq_true, decide_eq_true_eq] at this
  exact this.1
theorem frT_len (fs : List (Int × Int)) : (bl (frT fs)).length ≤ 42 * fs.length := by
  unfold frT joinS
  rw [bl_mk]
  have hl := join_len (c := 41) (sep := bl ⟨#[44]⟩) (ws := (fs.map fracS).map bl) (by
    intro w hw
    simp only [List.map_map, List.mem_map, Function.comp_apply] at hw
    obtain ⟨f, hf, rfl⟩ := hw
    exact fracS_len f)
  have e1 : (bl ⟨#[44]⟩).length = 1 := rfl
  rw [List.length_map, List.length_map, e1] at hl
  omega
theorem lot_join {m : List (Bool × List (Int × Int))} (h : lotB m = true) : mJoin [.sl false 1 (m.map wl), .v (.string ⟨#[32]⟩)] = some (.v (.string (lotT m))) := by
  obtain ⟨h1, h4, hr⟩ := lot_rows h
  have hl := join_len (c := 168) (sep := bl ⟨#[32]⟩) (ws := (m.map lr).map bl) (by
    intro w hw
    simp only [List.map_map, List.mem_map, Function.comp_apply] at hw
    obtain ⟨r, hm, rfl⟩ := hw
    have := frT_len r.2
    have := hr r hm
    unfold lr
    omega)
  have e1 : (bl ⟨#[32]⟩).length = 1 := rfl
  rw [List.length_map, List.length_map, e1] at hl
  have := mJoin_at false (m.map lr) ⟨#[32]⟩ ⟨by rw [List.length_map]; omega, by omega⟩
  rw [List.map_map] at this
  exact this

set_option maxHeartbeats 1000000 in
theorem implFormatLottery_ok : FnOk Tryd.prog 25 mFLot := by
  refine mk_ok fun ⟨nl, m⟩ _ => ?_
  have hG : FnsOk Tryd.prog [(39, mLot), (36, mFTx), (32, mJoin)] := (.cons implLot_ok (.cons fractionTexts_ok (.cons implJoin_ok .nil)))
  refine callOk_awp (ctx_ok eqOk hG) mixed (live := [true, false, true, true, false, true, false, false, true, true, true, true, true]) (dt := []) Tryd.func25 rfl (by kernel_rfl) (by kernel_rfl) fun w0 hlens => ?_
  clear hlens
  cases hL : lotB m with
  | false => simp (config := {contextual := true}) [Tryd.f25, List.range, List.range.loop, ints, intss, int, bool, row, frac, fracs, ← List.map_take, ← List.map_drop, fracss, mLot_at, hL, lotS]
  | true =>
  obtain ⟨h1, h4, hr⟩ := lot_rows hL
  have hj := lot_join hL
  have hnS : lotS m = lotT m := by unfold lotS; rw [if_pos hL]
  have h0 : 0 < m.length := by omega
  simp (config := {contextual := true}) [Tryd.f25, List.range, List.range.loop, ints, intss, int, bool, row, frac, fracs, ← List.map_take, ← List.map_drop, fracss, mLot_at, hL]
  refine awp_range (live := [true, false, true, true, false, true, false, false, true, true, true, true, true]) (ctx_ok eqOk hG) mixed [false, false, false, true, false, false, false, false, false, true, true, true] (m.length) (fun k => True) (fun k => ⟨[.junk, .junk, .junk, apW k, .junk, .junk, .junk, .junk, .junk, fracss nl m, int m.length, int k, .junk, .junk, .junk, .junk, .junk, .junk, .junk, .junk, .junk, .junk, .junk], apWt ((m.take k).map wl) k⟩) ?_ (by simp [sub, slotsLe, clean, keep, refsL, refs, once, place, renL, ren, List.replicate, int, bool, fracss, apW, apWt, apV]) ?_ ?_ ?_
  · omega
  · trivial
  · intro k hk _ hwk
    have hne : m[k].2 ≠ [] := fun e => by have := hr _ (List.getElem_mem hk); rw [e] at this; simp at this; omega
    have hit := mFTx_at m[k].1 m[k].2 ⟨by have := hr _ (List.getElem_mem hk); omega, hne⟩
    have htr := take_snoc (f := wl) hk
    have hb : k + 1 ≤ 4611686018427387904 ∧ (k + 1) * 16 ≤ 140737488355328 := by omega
    have htl : (m.take k).length = k := by simp; omega
    cases k with
    | zero =>
      have hwk1 : IntKind.i64.wrap 1 = 1 := by decide
      simp only [List.take_zero, List.map_nil, List.nil_append, wl, lr] at htr
      rw [Nat.zero_add] at htr
      have ht1 := htr.symm
      simp (config := {contextual := true}) [List.range, List.range.loop, ints, intss, int, bool, row, frac, fracs, ← List.map_take, ← List.map_drop, fracss, frow, apW, apWt, apV, h0, hit, ht1, hb, hwk1]
    | succ k =>
      simp only [wl, lr] at htr
      simp (config := {contextual := true}) [List.range, List.range.loop, ints, intss, int, bool, row, frac, fracs, ← List.map_take, ← List.map_drop, fracss, frow, apW, apWt, apV, hk, hit, htr, hb, hwk, htl]
      exact wrapI (by omega) (by omega)
  · intro _
    obtain ⟨n, hm⟩ : ∃ n, m.length = n + 1 := ⟨m.length - 1, by omega⟩
    have ht : m.take (n + 1) = m := List.take_of_length_le (by omega)
    rw [hm]
    simp (config := {contextual := true}) [List.range, List.range.loop, ints, intss, int, bool, row, frac, fracs, ← List.map_take, ← List.map_drop, fracss, apW, apWt, apV, ht, hm, hj, hnS]
    done

end Go.Proofs.YtpjejdebdhgngaaDoor.Ax
