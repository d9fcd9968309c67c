/-
  Contracts: FormatFractions (both programs). No condition.
-/
import Derived.Test.YtpjejdebdhgngaaDoorCG76
namespace Go.Proofs.YtpjejdebdhgngaaDoor.Ax
open Go Go.RowKit
set_option linter.unusedSimpArgs false

def wf (f : Int × Int) : AV := .v (.string (fracS (f.1, f.2)))
def frT (fs : List (Int × Int)) : ByteArray := joinS (fs.map fracS) ⟨#[44]⟩
def frS (fs : List (Int × Int)) : ByteArray := if fs = [] then ⟨#[45]⟩ else frT fs
noncomputable def mFTx : List AV → Option AV := mk (fun p => p.2.length ≤ 1099511627776 ∧ p.2 ≠ []) (fun (p : (Bool) × (List (Int × Int))) => [fracs p.1 p.2]) (fun p => .v (.string (frT p.2)))
theorem mFTx_at (nl : Bool) (fs : List (Int × Int)) (hpre : fs.length ≤ 1099511627776 ∧ fs ≠ []) : mFTx [.sl nl 2 (fs.map frac)] = some (.v (.string (frT fs))) :=
  mk_eq (enc := fun (p : (Bool) × (List (Int × Int))) => [fracs p.1 p.2]) (x := (nl, fs)) (by rintro ⟨a0, a1⟩ ⟨b0, b1⟩ h; simp [ints, intss, int, bool, row, frac, fracs, map_int_inj, map_row_inj, frac_inj, map_frac_inj] at h; simp [h]) hpre
noncomputable def mFFs : List AV → Option AV := mk (fun p => p.2.length ≤ 1099511627776) (fun (p : (Bool) × (List (Int × Int))) => [fracs p.1 p.2]) (fun p => .v (.string (frS p.2)))
theorem mFFs_at (nl : Bool) (fs : List (Int × Int)) (hpre : fs.length ≤ 1099511627776) : mFFs [.sl nl 2 (fs.map frac)] = some (.v (.string (frS fs))) :=
  mk_eq (enc := fun (p : (Bool) × (List (Int × Int))) => [fracs p.1 p.2]) (x := (nl, fs)) (by rintro ⟨a0, a1⟩ ⟨b0, b1⟩ h; simp [ints, intss, int, bool, row, frac, fracs, map_int_inj, map_row_inj, frac_inj, map_frac_inj] at h; simp [h]) hpre

theorem fracS_len (f : Int × Int) : (bl (fracS f)).length ≤ 41 := by
  rw [← size_bl]
  unfold fracS
  split
  · rename_i h1
    have hr : inI f.1 ∧ inI f.2 := by
      simp only [fracOk, Bool.and_eq_true, decide_eq_true_eq] at h1
      exact ⟨⟨by omega, by omega⟩, by omega, by omega⟩
    have sa := itoaS_size20 hr.1
    have sb := itoaS_size20 hr.2
    split
    · omega
    · rw [ByteArray.size_append, ByteArray.size_append, sz1]; omega
  · exact Nat.zero_le _
theorem fr_join {fs : List (Int × Int)} (h : fs.length ≤ 1099511627776) : mJoin [.sl false 1 (fs.map wf), .v (.string ⟨#[44]⟩)] = some (.v (.string (frT fs))) := by
  have hl := join_len (c := 41) (sep := bl ⟨#[44]⟩) (ws := (fs.map fracS).map bl) (by
    intro w hw
    simp only [List.map_map, List.mem_map, Function.comp_apply] at hw
    obtain ⟨f, hf, rfl⟩ := hw
    exact fracS_len f)
  have e1 : (bl ⟨#[44]⟩).length = 1 := rfl
  rw [List.length_map, List.length_map, e1] at hl
  have := mJoin_at false (fs.map fracS) ⟨#[44]⟩ ⟨by rw [List.length_map]; omega, by omega⟩
  rw [List.map_map] at this
  exact this

set_option maxHeartbeats 1000000 in
theorem fractionTexts_ok : FnOk Tryd.prog 36 mFTx := by
  refine mk_ok fun ⟨nl, fs⟩ h => ?_
  simp only at h
  have hG : FnsOk Tryd.prog [(49, mFFrac), (32, mJoin)] := (.cons implFormatFraction_ok (.cons implJoin_ok .nil))
  refine callOk_awp (ctx_ok eqOk hG) mixed (live := [true, false, true, true, false, true, true, true, true, true]) (dt := []) Tryd.func36 rfl (by kernel_rfl) (by kernel_rfl) fun w0 hlens => ?_
  clear hlens
  have hN : fs.length ≤ 1099511627776 := by first | exact h | exact h.1
  have hj := fr_join hN
  rcases List.eq_nil_or_concat fs with rfl | ⟨l', x', hx⟩
  · first
    | exact absurd rfl h.2
    | (simp (config := {contextual := true}) [Tryd.f36, List.range, List.range.loop, ints, intss, int, bool, row, frac, fracs, ← List.map_take, ← List.map_drop, frS, frT]
       refine awp_range (live := [true, false, true, true, false, true, true, true, true, true]) (ctx_ok eqOk hG) mixed [false, false, false, true, false, false, true, true, true] (0) (fun k => True) (fun k => ⟨[.junk, .junk, .junk, .ref 0 [] 0 0, .junk, .junk, fracs nl [], int 0, int k, .junk, .junk, .junk, .junk, .junk, .junk, .junk, .junk, .junk, .junk, .junk], apV []⟩) ?_ (by simp [sub, slotsLe, clean, keep, refsL, refs, once, place, renL, ren, List.replicate, int, bool, fracs, apV]) ?_ ?_ ?_
       · omega
       · trivial
       · intro k hk; omega
       · intro _
         simp (config := {contextual := true}) [List.range, List.range.loop, ints, intss, int, bool, row, frac, fracs, ← List.map_take, ← List.map_drop, apV])
  have hne : fs ≠ [] := by rw [hx]; simp
  have h0 : 0 < fs.length := List.length_pos_iff.2 hne
  have hz : ¬ ((fs.length : Int) = 0) := by omega
  have hnS : frS fs = frT fs := by unfold frS; rw [if_neg hne]
  clear hx
  simp (config := {contextual := true}) [Tryd.f36, List.range, List.range.loop, ints, intss, int, bool, row, frac, fracs, ← List.map_take, ← List.map_drop, hz, hne]
  refine awp_range (live := [true, false, true, true, false, true, true, true, true, true]) (ctx_ok eqOk hG) mixed [false, false, false, true, false, false, true, true, true] (fs.length) (fun k => True) (fun k => ⟨[.junk, .junk, .junk, apW k, .junk, .junk, fracs nl fs, int fs.length, int k, .junk, .junk, .junk, .junk, .junk, .junk, .junk, .junk, .junk, .junk, .junk], apWt ((fs.take k).map wf) k⟩) ?_ (by simp [sub, slotsLe, clean, keep, refsL, refs, once, place, renL, ren, List.replicate, int, bool, fracs, apW, apWt, apV]) ?_ ?_ ?_
  · omega
  · trivial
  · intro k hk _ hwk
    have hit := mFFrac_at fs[k].1 fs[k].2
    have htr := take_snoc (f := wf) hk
    have hb : k + 1 ≤ 4611686018427387904 ∧ (k + 1) * 16 ≤ 140737488355328 := by omega
    have htl : (fs.take k).length = k := by simp; omega
    cases k with
    | zero =>
      have hwk1 : IntKind.i64.wrap 1 = 1 := by decide
      simp only [List.take_zero, List.map_nil, List.nil_append, wf] at htr
      rw [Nat.zero_add] at htr
      have ht1 := htr.symm
      simp (config := {contextual := true}) [List.range, List.range.loop, ints, intss, int, bool, row, frac, fracs, ← List.map_take, ← List.map_drop, frac, apW, apWt, apV, h0, hit, ht1, hb, hwk1]
    | succ k =>
      simp only [wf] at htr
      simp (config := {contextual := true}) [List.range, List.range.loop, ints, intss, int, bool, row, frac, fracs, ← List.map_take, ← List.map_drop, frac, apW, apWt, apV, hk, hit, htr, hb, hwk, htl]
      exact wrapI (by omega) (by omega)
  · intro _
    obtain ⟨m, hm⟩ : ∃ m, fs.length = m + 1 := ⟨fs.length - 1, by omega⟩
    have ht : fs.take (m + 1) = fs := List.take_of_length_le (by omega)
    rw [hm]
    simp (config := {contextual := true}) [List.range, List.range.loop, ints, intss, int, bool, row, frac, fracs, ← List.map_take, ← List.map_drop, apW, apWt, apV, ht, hm, hj, hnS]
    done

set_option maxHeartbeats 1000000 in
theorem specFormatFractions_ok : FnOk Tryd.prog 18 mFFs := by
  refine mk_ok fun ⟨nl, fs⟩ h => ?_
  simp only at h
  have hG : FnsOk Tryd.prog [(34, mFFrac), (30, mJoin)] := (.cons specFormatFraction_ok (.cons specJoin_ok .nil))
  refine callOk_awp (ctx_ok eqOk hG) mixed (live := [true, false, true, true, false, true, false, true, true, true, true, false, false, false, false, false, false, false, false, false, false, true]) (dt := []) Tryd.func18 rfl (by kernel_rfl) (by kernel_rfl) fun w0 hlens => ?_
  clear hlens
  have hN : fs.length ≤ 1099511627776 := by first | exact h | exact h.1
  have hj := fr_join hN
  rcases List.eq_nil_or_concat fs with rfl | ⟨l', x', hx⟩
  · first
    | exact absurd rfl h.2
    | (simp (config := {contextual := true}) [Tryd.f18, List.range, List.range.loop, ints, intss, int, bool, row, frac, fracs, ← List.map_take, ← List.map_drop, frS, frT]
       refine awp_range (live := [true, false, true, true, false, true, false, true, true, true, true, false, false, false, false, false, false, false, false, false, false, true]) (ctx_ok eqOk hG) mixed [false, false, false, true, false, false, false, true, true, true] (0) (fun k => True) (fun k => ⟨[.junk, .junk, .junk, .ref 0 [] 0 0, .junk, .junk, .junk, fracs nl [], int 0, int k, .junk, .junk, .junk, .junk, .junk, .junk, .junk, .junk, .junk, .junk, .junk, .junk, .junk, .junk], apV []⟩) ?_ (by simp [sub, slotsLe, clean, keep, refsL, refs, once, place, renL, ren, List.replicate, int, bool, fracs, apV]) ?_ ?_ ?_
       · omega
       · trivial
       · intro k hk; omega
       · intro _
         simp (config := {contextual := true}) [List.range, List.range.loop, ints, intss, int, bool, row, frac, fracs, ← List.map_take, ← List.map_drop, apV])
  have hne : fs ≠ [] := by rw [hx]; simp
  have h0 : 0 < fs.length := List.length_pos_iff.2 hne
  have hz : ¬ ((fs.length : Int) = 0) := by omega
  have hnS : frS fs = frT fs := by unfold frS; rw [if_neg hne]
  clear hx
  simp (config := {contextual := true}) [Tryd.f18, List.range, List.range.loop, ints, intss, int, bool, row, frac, fracs, ← List.map_take, ← List.map_drop, hz, hne]
  refine awp_range (live := [true, false, true, true, false, true, false, true, true, true, true, false, false, false, false, false, false, false, false, false, false, true]) (ctx_ok eqOk hG) mixed [false, false, false, true, false, false, false, true, true, true] (fs.length) (fun k => True) (fun k => ⟨[.junk, .junk, .junk, .ref 0 [] 0 k, .junk, .junk, .junk, fracs nl fs, int fs.length, int k, .junk, .junk, .junk, .junk, .junk, .junk, .junk, .junk, .junk, .junk, .junk, .junk, .junk, .junk], apV ((fs.take k).map wf)⟩) ?_ (by simp [sub, slotsLe, clean, keep, refsL, refs, once, place, renL, ren, List.replicate, int, bool, fracs, apW, apWt, apV]) ?_ ?_ ?_
  · omega
  · trivial
  · intro k hk _ hwk
    have hit := mFFrac_at fs[k].1 fs[k].2
    have htr := take_snoc (f := wf) hk
    have hb : k + 1 ≤ 4611686018427387904 ∧ (k + 1) * 16 ≤ 140737488355328 := by omega
    have htl : (fs.take k).length = k := by simp; omega
    cases k with
    | zero =>
      have hwk1 : IntKind.i64.wrap 1 = 1 := by decide
      simp only [List.take_zero, List.map_nil, List.nil_append, wf] at htr
      rw [Nat.zero_add] at htr
      have ht1 := htr.symm
      simp (config := {contextual := true}) [List.range, List.range.loop, ints, intss, int, bool, row, frac, fracs, ← List.map_take, ← List.map_drop, frac, apW, apWt, apV, h0, hit, ht1, hb, hwk1]
    | succ k =>
      simp only [wf] at htr
      simp (config := {contextual := true}) [List.range, List.range.loop, ints, intss, int, bool, row, frac, fracs, ← List.map_take, ← List.map_drop, frac, apW, apWt, apV, hk, hit, htr, hb, hwk, htl]
      exact wrapI (by omega) (by omega)
  · intro _
    obtain ⟨m, hm⟩ : ∃ m, fs.length = m + 1 := ⟨fs.length - 1, by omega⟩
    have ht : fs.take (m + 1) = fs := List.take_of_length_le (by omega)
    rw [hm]
    simp (config := {contextual := true}) [List.range, List.range.loop, ints, intss, int, bool, row, frac, fracs, ← List.map_take, ← List.map_drop, apW, apWt, apV, ht, hm, hj, hnS]
    done

theorem implFormatFractions_ok : FnOk Tryd.prog 20 mFFs := by
  refine mk_ok fun ⟨nl, fs⟩ h => ?_
  simp only at h
  have hG : FnsOk Tryd.prog [(36, mFTx)] := (.cons fractionTexts_ok .nil)
  refine callOk_awp (ctx_ok eqOk hG) mixed (live := [true, false, true, false, false, true]) (dt := []) Tryd.func20 rfl (by kernel_rfl) (by kernel_rfl) fun w0 hlens => ?_
  clear hlens
  by_cases hne : fs = []
  · subst hne
    simp (config := {contextual := true}) [Tryd.f20, List.range, List.range.loop, ints, intss, int, bool, row, frac, fracs, ← List.map_take, ← List.map_drop, frS]
  · have hm := mFTx_at nl fs ⟨h, hne⟩
    have hz : ¬ ((fs.length : Int) = 0) := by have := List.length_pos_iff.2 hne; omega
    simp (config := {contextual := true}) [Tryd.f20, List.range, List.range.loop, ints, intss, int, bool, row, frac, fracs, ← List.map_take, ← List.map_drop, frS, hne, hz, hm]

end Go.Proofs.YtpjejdebdhgngaaDoor.Ax
