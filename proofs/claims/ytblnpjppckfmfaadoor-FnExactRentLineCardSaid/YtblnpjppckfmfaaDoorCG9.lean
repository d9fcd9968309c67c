/-
  Contracts: FormatFraction, FormatFractions (both programs). No condition.
-/
import Derived.Test.YtblnpjppckfmfaaDoorCG8
import Derived.Test.YtblnpjppckfmfaaDoorCG7
namespace Go.Proofs.YtblnpjppckfmfaaDoor.Ax
open Go Go.RowKit
set_option linter.unusedSimpArgs false

def fracS (f : Int × Int) : ByteArray := if fracOk f = true then (if f.2 = 1 then itoaS f.1 else itoaS f.1 ++ ⟨#[47]⟩ ++ itoaS f.2) else ⟨#[]⟩
noncomputable def mFFrac : List AV → Option AV := mk (fun _ => True) (fun (p : (Int) × (Int)) => [frac (p.1, p.2)]) (fun p => .v (.string (fracS (p.1, p.2))))
theorem mFFrac_at (a : Int) (b : Int) : mFFrac [.agg [.v (.int .i64 a), .v (.int .i64 b)]] = some (.v (.string (fracS (a, b)))) :=
  mk_eq (enc := fun (p : (Int) × (Int)) => [frac (p.1, p.2)]) (x := (a, b)) (by rintro ⟨a0, a1⟩ ⟨b0, b1⟩ h; simp [ints, intss, int, bool, row, frac, fracs, map_int_inj, map_row_inj, frac_inj, map_frac_inj] at h; simp [h]) trivial

theorem itoaS_size20 {n : Int} (h : inI n) : (itoaS n).size ≤ 20 := by unfold itoaS; rw [ba_size]; exact itoa_len h

set_option maxHeartbeats 1000000 in
theorem implFormatFraction_ok : FnOk Tryd.prog 73 mFFrac := by
  refine mk_ok fun ⟨a, b⟩ _ => ?_
  have hG : FnsOk Tryd.prog [(69, mFracOk), (38, mItoa)] := (.cons implFractionOk_ok (.cons implFormatInt_ok .nil))
  refine callOk_awp (ctx_ok eqOk hG) mixed (live := [true, true, true, true, false, false, false, true]) (dt := [(5, ⟨[], [], []⟩)]) Tryd.func73 rfl (by kernel_rfl) (by kernel_rfl) fun w0 hlens => ?_
  clear hlens
  cases h1 : fracOk (a, b) with
  | false => simp (config := {contextual := true}) [Tryd.f73, List.range, List.range.loop, ints, intss, int, bool, row, frac, fracs, ← List.map_take, ← List.map_drop, mFracOk_at, h1, fracS]
  | true =>
  have hr : inI a ∧ inI b := by
    simp only [fracOk, Bool.and_eq_true, decide_eq_true_eq] at h1
    exact ⟨⟨by omega, by omega⟩, by omega, by omega⟩
  have ha := mItoa_at a hr.1
  have hb := mItoa_at b hr.2
  have sa := itoaS_size20 hr.1
  have sb := itoaS_size20 hr.2
  by_cases h2 : b = 1
  · subst h2
    simp (config := {contextual := true}) [Tryd.f73, List.range, List.range.loop, ints, intss, int, bool, row, frac, fracs, ← List.map_take, ← List.map_drop, mFracOk_at, h1, fracS, ha]
  · have s1 : (itoaS a).size + 1 ≤ 9223372036854775807 := by omega
    have s2 : (itoaS a).size + 1 + (itoaS b).size ≤ 9223372036854775807 := by omega
    have e1 : (b == 1) = false := by simpa using h2
    simp (config := {contextual := true}) [Tryd.f73, List.range, List.range.loop, ints, intss, int, bool, row, frac, fracs, ← List.map_take, ← List.map_drop, mFracOk_at, h1, fracS, ha, hb, h2, e1, sz1, s1, s2]

set_option maxHeartbeats 1000000 in
theorem specFormatFraction_ok : FnOk Tryd.prog 46 mFFrac := by
  refine mk_ok fun ⟨a, b⟩ _ => ?_
  have hG : FnsOk Tryd.prog [(63, mFracOk), (35, mItoa)] := (.cons specFractionOk_ok (.cons specFormatInt_ok .nil))
  refine callOk_awp (ctx_ok eqOk hG) mixed (live := [true, true, true, false, false, true, false, false, true]) (dt := [(5, ⟨[], [], []⟩)]) Tryd.func46 rfl (by kernel_rfl) (by kernel_rfl) fun w0 hlens => ?_
  clear hlens
  cases h1 : fracOk (a, b) with
  | false => simp (config := {contextual := true}) [Tryd.f46, List.range, List.range.loop, ints, intss, int, bool, row, frac, fracs, ← List.map_take, ← List.map_drop, mFracOk_at, h1, fracS]
  | true =>
  have hr : inI a ∧ inI b := by
    simp only [fracOk, Bool.and_eq_true, decide_eq_true_eq] at h1
    exact ⟨⟨by omega, by omega⟩, by omega, by omega⟩
  have ha := mItoa_at a hr.1
  have hb := mItoa_at b hr.2
  have sa := itoaS_size20 hr.1
  have sb := itoaS_size20 hr.2
  by_cases h2 : b = 1
  · subst h2
    simp (config := {contextual := true}) [Tryd.f46, List.range, List.range.loop, ints, intss, int, bool, row, frac, fracs, ← List.map_take, ← List.map_drop, mFracOk_at, h1, fracS, ha]
  · have s1 : (itoaS a).size + 1 ≤ 9223372036854775807 := by omega
    have s2 : (itoaS a).size + 1 + (itoaS b).size ≤ 9223372036854775807 := by omega
    have e1 : (b == 1) = false := by simpa using h2
    simp (config := {contextual := true}) [Tryd.f46, List.range, List.range.loop, ints, intss, int, bool, row, frac, fracs, ← List.map_take, ← List.map_drop, mFracOk_at, h1, fracS, ha, hb, h2, e1, sz1, s1, s2]

end Go.Proofs.YtblnpjppckfmfaaDoor.Ax

/-
  Contracts: FormatFractions (both programs). No condition.
-/
namespace Go.Proofs.YtblnpjppckfmfaaDoor.Ax
open Go Go.RowKit
set_option linter.unusedSimpArgs false

def wf (f : Int × Int) : AV := .v (.string (fracS (f.1, f.2)))
def frT (fs : List (Int × Int)) : ByteArray := joinS (fs.map fracS) ⟨#[44]⟩
def frS (fs : List (Int × Int)) : ByteArray := if fs = [] then ⟨#[45]⟩ else frT fs
noncomputable def mFTx : List AV → Option AV := mk (fun p => p.2.length ≤ 1099511627776 ∧ p.2 ≠ []) (fun (p : (Bool) × (List (Int × Int))) => [fracs p.1 p.2]) (fun p => .v (.string (frT p.2)))
theorem mFTx_at (nl : Bool) (fs : List (Int × Int)) (hpre : fs.length ≤ 1099511627776 ∧ fs ≠ []) : mFTx [.sl nl 2 (fs.map frac)] = some (.v (.string (frT fs))) :=
  mk_eq (enc := fun (p : (Bool) × (List (Int × Int))) => [fracs p.1 p.2]) (x := (nl, fs)) (by rintro ⟨a0, a1⟩ ⟨b0, b1⟩ h; simp [ints, intss, int, bool, row, frac, fracs, map_int_inj, map_row_inj, frac_inj, map_frac_inj] at h; simp [h]) hpre
noncomputable def mFFs : List AV → Option AV := mk (fun p => p.2.length ≤ 1099511627776) (fun (p : (Bool) × (List (Int × Int))) => [fracs p.1 p.2]) (fun p => .v (.string (frS p.2)))
theorem mFFs_at (nl : Bool) (fs : List (Int × Int)) (hpre : fs.length ≤ 1099511627776) : mFFs [.sl nl 2 (fs.map frac)] = some (.v (.string (frS fs))) :=
  mk_eq (enc := fun (p : (Bool) × (List (Int × Int))) => [fracs p.1 p.2]) (x := (nl, fs)) (by rintro ⟨a0, a1⟩ ⟨b0, b1⟩ h; simp [ints, intss, int, bool, row, frac, fracs, map_int_inj, map_row_inj, frac_inj, map_frac_inj] at h; simp [h]) hpre

theorem fracS_len (f : Int × Int) : (bl (fracS f)).length ≤ 41 := by
  rw [← size_bl]
  unfold fracS
  split
  · rename_i h1
    have hr : inI f.1 ∧ inI f.2 := by
      simp only [fracOk, Bool.and_eq_true, decide_eq_true_eq] at h1
      exact ⟨⟨by omega, by omega⟩, by omega, by omega⟩
    have sa := itoaS_size20 hr.1
    have sb := itoaS_size20 hr.2
    split
    · omega
    · rw [ByteArray.size_append, ByteArray.size_append, sz1]; omega
  · exact Nat.zero_le _
theorem fr_join {fs : List (Int × Int)} (h : fs.length ≤ 1099511627776) : mJoin [.sl false 1 (fs.map wf), .v (.string ⟨#[44]⟩)] = some (.v (.string (frT fs))) := by
  have hl := join_len (c := 41) (sep := bl ⟨#[44]⟩) (ws := (fs.map fracS).map bl) (by
    intro w hw
    simp only [List.map_map, List.mem_map, Function.comp_apply] at hw
    obtain ⟨f, hf, rfl⟩ := hw
    exact fracS_len f)
  have e1 : (bl ⟨#[44]⟩).length = 1 := rfl
  rw [List.length_map, List.length_map, e1] at hl
  have := mJoin_at false (fs.map fracS) ⟨#[44]⟩ ⟨by rw [List.length_map]; omega, by omega⟩
  rw [List.map_map] at this
  exact this

set_option maxHeartbeats 1000000 in
theorem fractionTexts_ok : FnOk Tryd.prog 54 mFTx := by
  refine mk_ok fun ⟨nl, fs⟩ h => ?_
  simp only at h
  have hG : FnsOk Tryd.prog [(73, mFFrac), (52, mJoin)] := (.cons implFormatFraction_ok (.cons implJoin_ok .nil))
  refine callOk_awp (ctx_ok eqOk hG) mixed (live := [true, false, true, true, false, true, true, true, true, true]) (dt := []) Tryd.func54 rfl (by kernel_rfl) (by kernel_rfl) fun w0 hlens => ?_
  clear hlens
  have hN : fs.length ≤ 1099511627776 := by first | exact h | exact h.1
  have hj := fr_join hN
  rcases List.eq_nil_or_concat fs with rfl | ⟨l', x', hx⟩
  · first
    | exact absurd rfl h.2
    | (simp (config := {contextual := true}) [Tryd.f54, List.range, List.range.loop, ints, intss, int, bool, row, frac, fracs, ← List.map_take, ← List.map_drop, frS, frT]
       refine awp_range (live := [true, false, true, true, false, true, true, true, true, true]) (ctx_ok eqOk hG) mixed [false, false, false, true, false, false, true, true, true] (0) (fun k => True) (fun k => ⟨[.junk, .junk, .junk, .ref 0 [] 0 0, .junk, .junk, fracs nl [], int 0, int k, .junk, .junk, .junk, .junk, .junk, .junk, .junk, .junk, .junk, .junk, .junk], apV []⟩) ?_ (by simp [sub, slotsLe, clean, keep, refsL, refs, once, place, renL, ren, List.replicate, int, bool, fracs, apV]) ?_ ?_ ?_
       · omega
       · trivial
       · intro k hk; omega
       · intro _
         simp (config := {contextual := true}) [List.range, List.range.loop, ints, intss, int, bool, row, frac, fracs, ← List.map_take, ← List.map_drop, apV])
  have hne : fs ≠ [] := by rw [hx]; simp
  have h0 : 0 < fs.length := List.length_pos_iff.2 hne
  have hz : ¬ ((fs.length : Int) = 0) := by omega
  have hnS : frS fs = frT fs := by unfold frS; rw [if_neg hne]
  clear hx
  simp (config := {contextual := true}) [Tryd.f54, List.range, List.range.loop, ints, intss, int, bool, row, frac, fracs, ← List.map_take, ← List.map_drop, hz, hne]
  refine awp_range (live := [true, false, true, true, false, true, true, true, true, true]) (ctx_ok eqOk hG) mixed [false, false, false, true, false, false, true, true, true] (fs.length) (fun k => True) (fun k => ⟨[.junk, .junk, .junk, apW k, .junk, .junk, fracs nl fs, int fs.length, int k, .junk, .junk, .junk, .junk, .junk, .junk, .junk, .junk, .junk, .junk, .junk], apWt ((fs.take k).map wf) k⟩) ?_ (by simp [sub, slotsLe, clean, keep, refsL, refs, once, place, renL, ren, List.replicate, int, bool, fracs, apW, apWt, apV]) ?_ ?_ ?_
  · omega
  · trivial
  · intro k hk _ hwk
    have hit := mFFrac_at fs[k].1 fs[k].2
    have htr := take_snoc (f := wf) hk
    have hb : k + 1 ≤ 4611686018427387904 ∧ (k + 1) * 16 ≤ 140737488355328 := by omega
    have htl : (fs.take k).length = k := by simp; omega
    cases k with
    | zero =>
      have hwk1 : IntKind.i64.wrap 1 = 1 := by decide
      simp only [List.take_zero, List.map_nil, List.nil_append, wf] at htr
      rw [Nat.zero_add] at htr
      have ht1 := htr.symm
      simp (config := {contextual := true}) [List.range, List.range.loop, ints, intss, int, bool, row, frac, fracs, ← List.map_take, ← List.map_drop, frac, apW, apWt, apV, h0, hit, ht1, hb, hwk1]
    | succ k =>
      simp only [wf] at htr
      simp (config := {contextual := true}) [List.range, List.range.loop, ints, intss, int, bool, row, frac, fracs, ← List.map_take, ← List.map_drop, frac, apW, apWt, apV, hk, hit, htr, hb, hwk, htl]
      exact wrapI (by omega) (by omega)
  · intro _
    obtain ⟨m, hm⟩ : ∃ m, fs.length = m + 1 := ⟨fs.length - 1, by omega⟩
    have ht : fs.take (m + 1) = fs := List.take_of_length_le (by omega)
    rw [hm]
    simp (config := {contextual := true}) [List.range, List.range.loop, ints, intss, int, bool, row, frac, fracs, ← List.map_take, ← List.map_drop, apW, apWt, apV, ht, hm, hj, hnS]
    done

set_option maxHeartbeats 1000000 in
theorem specFormatFractions_ok : FnOk Tryd.prog 28 mFFs := by
  refine mk_ok fun ⟨nl, fs⟩ h => ?_
  simp only at h
  have hG : FnsOk Tryd.prog [(46, mFFrac), (44, mJoin)] := (.cons specFormatFraction_ok (.cons specJoin_ok .nil))
  refine callOk_awp (ctx_ok eqOk hG) mixed (live := [true, false, true, true, false, true, false, true, true, true, true, false, false, false, false, false, false, false, false, false, false, true]) (dt := []) Tryd.func28 rfl (by kernel_rfl) (by kernel_rfl) fun w0 hlens => ?_
  clear hlens
  have hN : fs.length ≤ 1099511627776 := by first | exact h | exact h.1
  have hj := fr_join hN
  rcases List.eq_nil_or_concat fs with rfl | ⟨l', x', hx⟩
  · first
    | exact absurd rfl h.2
    | (simp (config := {contextual := true}) [Tryd.f28, List.range, List.range.loop, ints, intss, int, bool, row, frac, fracs, ← List.map_take, ← List.map_drop, frS, frT]
       refine awp_range (live := [true, false, true, true, false, true, false, true, true, true, true, false, false, false, false, false, false, false, false, false, false, true]) (ctx_ok eqOk hG) mixed [false, false, false, true, false, false, false, true, true, true] (0) (fun k => True) (fun k => ⟨[.junk, .junk, .junk, .ref 0 [] 0 0, .junk, .junk, .junk, fracs nl [], int 0, int k, .junk, .junk, .junk, .junk, .junk, .junk, .junk, .junk, .junk, .junk, .junk, .junk, .junk, .junk], apV []⟩) ?_ (by simp [sub, slotsLe, clean, keep, refsL, refs, once, place, renL, ren, List.replicate, int, bool, fracs, apV]) ?_ ?_ ?_
       · omega
       · trivial
       · intro k hk; omega
       · intro _
         simp (config := {contextual := true}) [List.range, List.range.loop, ints, intss, int, bool, row, frac, fracs, ← List.map_take, ← List.map_drop, apV])
  have hne : fs ≠ [] := by rw [hx]; simp
  have h0 : 0 < fs.length := List.length_pos_iff.2 hne
  have hz : ¬ ((fs.length : Int) = 0) := by omega
  have hnS : frS fs = frT fs := by unfold frS; rw [if_neg hne]
  clear hx
  simp (config := {contextual := true}) [Tryd.f28, List.range, List.range.loop, ints, intss, int, bool, row, frac, fracs, ← List.map_take, ← List.map_drop, hz, hne]
  refine awp_range (live := [true, false, true, true, false, true, false, true, true, true, true, false, false, false, false, false, false, false, false, false, false, true]) (ctx_ok eqOk hG) mixed [false, false, false, true, false, false, false, true, true, true] (fs.length) (fun k => True) (fun k => ⟨[.junk, .junk, .junk, .ref 0 [] 0 k, .junk, .junk, .junk, fracs nl fs, int fs.length, int k, .junk, .junk, .junk, .junk, .junk, .junk, .junk, .junk, .junk, .junk, .junk, .junk, .junk, .junk], apV ((fs.take k).map wf)⟩) ?_ (by simp [sub, slotsLe, clean, keep, refsL, refs, once, place, renL, ren, List.replicate, int, bool, fracs, apW, apWt, apV]) ?_ ?_ ?_
  · omega
  · trivial
  · intro k hk _ hwk
    have hit := mFFrac_at fs[k].1 fs[k].2
    have htr := take_snoc (f := wf) hk
    have hb : k + 1 ≤ 4611686018427387904 ∧ (k + 1) * 16 ≤ 140737488355328 := by omega
    have htl : (fs.take k).length = k := by simp; omega
    cases k with
    | zero =>
      have hwk1 : IntKind.i64.wrap 1 = 1 := by decide
      simp only [List.take_zero, List.map_nil, List.nil_append, wf] at htr
      rw [Nat.zero_add] at htr
      have ht1 := htr.symm
      simp (config := {contextual := true}) [List.range, List.range.loop, ints, intss, int, bool, row, frac, fracs, ← List.map_take, ← List.map_drop, frac, apW, apWt, apV, h0, hit, ht1, hb, hwk1]
    | succ k =>
      simp only [wf] at htr
      simp (config := {contextual := true}) [List.range, List.range.loop, ints, intss, int, bool, row, frac, fracs, ← List.map_take, ← List.map_drop, frac, apW, apWt, apV, hk, hit, htr, hb, hwk, htl]
      exact wrapI (by omega) (by omega)
  · intro _
    obtain ⟨m, hm⟩ : ∃ m, fs.length = m + 1 := ⟨fs.length - 1, by omega⟩
    have ht : fs.take (m + 1) = fs := List.take_of_length_le (by omega)
    rw [hm]
    simp (config := {contextual := true}) [List.range, List.range.loop, ints, intss, int, bool, row, frac, fracs, ← List.map_take, ← List.map_drop, apW, apWt, apV, ht, hm, hj, hnS]
    done

theorem implFormatFractions_ok : FnOk Tryd.prog 33 mFFs := by
  refine mk_ok fun ⟨nl, fs⟩ h => ?_
  simp only at h
  have hG : FnsOk Tryd.prog [(54, mFTx)] := (.cons fractionTexts_ok .nil)
  refine callOk_awp (ctx_ok eqOk hG) mixed (live := [true, false, true, false, false, true]) (dt := []) Tryd.func33 rfl (by kernel_rfl) (by kernel_rfl) fun w0 hlens => ?_
  clear hlens
  by_cases hne : fs = []
  · subst hne
    simp (config := {contextual := true}) [Tryd.f33, List.range, List.range.loop, ints, intss, int, bool, row, frac, fracs, ← List.map_take, ← List.map_drop, frS]
  · have hm := mFTx_at nl fs ⟨h, hne⟩
    have hz : ¬ ((fs.length : Int) = 0) := by have := List.length_pos_iff.2 hne; omega
    simp (config := {contextual := true}) [Tryd.f33, List.range, List.range.loop, ints, intss, int, bool, row, frac, fracs, ← List.map_take, ← List.map_drop, frS, hne, hz, hm]

end Go.Proofs.YtblnpjppckfmfaaDoor.Ax

/-
  Sizes of the texts of numbers; two texts with a blank between them. Plain Lean, no program in sight.
-/
namespace Go.Proofs.YtblnpjppckfmfaaDoor.Ax
open Go Go.RowKit
set_option linter.unusedSimpArgs false

theorem inI_small {x : Int} (h : -1000000 ≤ x ∧ x ≤ 1000000) : inI x := by unfold inI; omega

theorem numS_size {xs : List Int} (h : ∀ n ∈ xs, inI n) : (numS xs).size ≤ 21 * xs.length + 1 := by
  unfold numS
  split
  · have : (⟨#[45]⟩ : ByteArray).size = 1 := rfl
    omega
  · have hl := join_len (c := 20) (sep := bl ⟨#[44]⟩) (ws := (xs.map itoaS).map bl) (by
      intro w hw
      simp only [List.map_map, List.mem_map, Function.comp_apply] at hw
      obtain ⟨n, hn, rfl⟩ := hw
      unfold itoaS; rw [bl_mk]
      exact itoa_len (h n hn))
    have e1 : (bl ⟨#[44]⟩).length = 1 := rfl
    rw [List.length_map, List.length_map, e1] at hl
    have e2 : (joinS (xs.map itoaS) ⟨#[44]⟩).size = (bl (joinS (xs.map itoaS) ⟨#[44]⟩)).length := by unfold bl; rw [Array.length_toList]; rfl
    rw [e2]
    unfold joinS
    rw [bl_mk]
    omega

/-- Two texts with a blank between them. -/
def linkS (a b : ByteArray) : ByteArray := a ++ ⟨#[32]⟩ ++ b
theorem link_size {a : ByteArray} : (a ++ (⟨#[32]⟩ : ByteArray)).size = a.size + 1 := by rw [ByteArray.size_append]; rfl

end Go.Proofs.YtblnpjppckfmfaaDoor.Ax

/-
  Contracts: RentLine (both programs). No condition.
-/
namespace Go.Proofs.YtblnpjppckfmfaaDoor.Ax
open Go Go.RowKit
set_option linter.unusedSimpArgs false

theorem frT_size {fs : List (Int × Int)} (h : fs.length ≤ 4) : (frS fs).size ≤ 200 := by
  unfold frS
  split
  · exact (by decide : (⟨#[45]⟩ : ByteArray).size ≤ 200)
  · have hl := join_len (c := 41) (sep := bl ⟨#[44]⟩) (ws := (fs.map fracS).map bl) (by
      intro w hw
      simp only [List.map_map, List.mem_map, Function.comp_apply] at hw
      obtain ⟨f, hf, rfl⟩ := hw
      exact fracS_len f)
    have e1 : (bl ⟨#[44]⟩).length = 1 := rfl
    rw [List.length_map, List.length_map, e1] at hl
    have e2 : (joinS (fs.map fracS) ⟨#[44]⟩).size = (bl (joinS (fs.map fracS) ⟨#[44]⟩)).length := by unfold bl; rw [Array.length_toList]; rfl
    unfold frT
    rw [e2]
    unfold joinS
    rw [bl_mk]
    omega

theorem bR_in {xss : List (Bool × List Int)} (h : rentB xss = true) : ∀ n ∈ (bR xss).1, inI n := fun n hn => by
  obtain ⟨⟨r, hr, hb⟩, _⟩ := bR_max h
  have hk := ((best_facts h).2.2 r hr).2
  rw [hb] at hn
  obtain ⟨i, hi, rfl⟩ := List.getElem_of_mem hn
  have h1 := rank_in hk hi
  have h2 := (rent_facts h).2.1
  exact inI_small (by omega)

noncomputable def rlS (xss : List (Bool × List Int)) (total : Int) : ByteArray := if rentFB xss total = true then linkS (numS (bR xss).1) (frS (rentFL xss total)) else ⟨#[110, 111, 110, 101]⟩
noncomputable def mRLine : List AV → Option AV := mk (fun _ => True) (fun (p : (Bool) × (List (Bool × List Int)) × (Int)) => [intss p.1 p.2.1, int p.2.2]) (fun p => .v (.string (rlS p.2.1 p.2.2)))
theorem mRLine_at (nl : Bool) (xss : List (Bool × List Int)) (total : Int) : mRLine [.sl nl 1 (xss.map row), .v (.int .i64 total)] = some (.v (.string (rlS xss total))) :=
  mk_eq (enc := fun (p : (Bool) × (List (Bool × List Int)) × (Int)) => [intss p.1 p.2.1, int p.2.2]) (x := (nl, xss, total)) (by rintro ⟨a0, a1, a2⟩ ⟨b0, b1, b2⟩ h; simp [ints, intss, int, bool, row, frac, fracs, map_int_inj, map_row_inj, frac_inj, map_frac_inj] at h; simp [h]) trivial

set_option maxHeartbeats 1000000 in
theorem implRentLine_ok : FnOk Tryd.prog 19 mRLine := by
  refine mk_ok fun ⟨nl, xss, total⟩ _ => ?_
  have hG : FnsOk Tryd.prog [(30, mRentsF), (32, mBestRooms), (31, mFNum), (33, mFFs)] := (.cons implRentsF_ok (.cons implBestRooms_ok (.cons implFormatNumbers_ok (.cons implFormatFractions_ok .nil))))
  refine callOk_awp (ctx_ok eqOk hG) mixed (live := [true, true, false, false, true, true, true, false, false, false, false, false, false, false, true]) (dt := []) Tryd.func19 rfl (by kernel_rfl) (by kernel_rfl) fun w0 hlens => ?_
  clear hlens
  have hres := mRentsF_at nl xss total
  cases h : rentFB xss total with
  | false =>
    rw [h] at hres
    simp (config := {contextual := true}) [Tryd.f19, List.range, List.range.loop, ints, intss, int, bool, row, frac, fracs, ← List.map_take, ← List.map_drop, hres, h, rlS]
  | true =>
    rw [h] at hres
    simp only [Bool.not_true] at hres
    have h' := h
    simp only [rentFB, Bool.and_eq_true] at h'
    have hb := mBestRooms_at nl xss
    rw [h'.1] at hb
    simp only [Bool.not_true] at hb
    have hl1 := bR_len (xss := xss)
    have hl2 := rentFL_len (xss := xss) (total := total)
    have h1 := mFNum_at false (bR xss).1 ⟨by omega, bR_in h'.1⟩
    have h2 := mFFs_at false (rentFL xss total) (by omega)
    have s1 := numS_size (bR_in h'.1)
    have s2 := frT_size hl2
    have hS : rlS xss total = numS (bR xss).1 ++ ⟨#[32]⟩ ++ frS (rentFL xss total) := by unfold rlS; rw [if_pos h]; rfl
    rw [hS]
    have hls := link_size (a := numS (bR xss).1)
    have e1 : (⟨#[32]⟩ : ByteArray).size = 1 := rfl
    have c1 : (numS (bR xss).1).size + 1 ≤ 9223372036854775807 ∧ (numS (bR xss).1).size + 1 + (frS (rentFL xss total)).size ≤ 9223372036854775807 ∧ (numS (bR xss).1).size ≤ 9223372036854775806 := by omega
    simp (config := {contextual := true}) [Tryd.f19, List.range, List.range.loop, ints, intss, int, bool, row, frac, fracs, ← List.map_take, ← List.map_drop, hres, hb, h, h1, h2, hls, e1, c1]
    done

set_option maxHeartbeats 1000000 in
theorem specRentLine_ok : FnOk Tryd.prog 17 mRLine := by
  refine mk_ok fun ⟨nl, xss, total⟩ _ => ?_
  have hG : FnsOk Tryd.prog [(25, mRentsF), (27, mBestRooms), (26, mFNum), (28, mFFs)] := (.cons specRentsF_ok (.cons specBestRooms_ok (.cons specFormatNumbers_ok (.cons specFormatFractions_ok .nil))))
  refine callOk_awp (ctx_ok eqOk hG) mixed (live := [true, true, false, false, true, true, true, false, false, false, false, false, false, false, true]) (dt := []) Tryd.func17 rfl (by kernel_rfl) (by kernel_rfl) fun w0 hlens => ?_
  clear hlens
  have hres := mRentsF_at nl xss total
  cases h : rentFB xss total with
  | false =>
    rw [h] at hres
    simp (config := {contextual := true}) [Tryd.f17, List.range, List.range.loop, ints, intss, int, bool, row, frac, fracs, ← List.map_take, ← List.map_drop, hres, h, rlS]
  | true =>
    rw [h] at hres
    simp only [Bool.not_true] at hres
    have h' := h
    simp only [rentFB, Bool.and_eq_true] at h'
    have hb := mBestRooms_at nl xss
    rw [h'.1] at hb
    simp only [Bool.not_true] at hb
    have hl1 := bR_len (xss := xss)
    have hl2 := rentFL_len (xss := xss) (total := total)
    have h1 := mFNum_at false (bR xss).1 ⟨by omega, bR_in h'.1⟩
    have h2 := mFFs_at false (rentFL xss total) (by omega)
    have s1 := numS_size (bR_in h'.1)
    have s2 := frT_size hl2
    have hS : rlS xss total = numS (bR xss).1 ++ ⟨#[32]⟩ ++ frS (rentFL xss total) := by unfold rlS; rw [if_pos h]; rfl
    rw [hS]
    have hls := link_size (a := numS (bR xss).1)
    have e1 : (⟨#[32]⟩ : ByteArray).size = 1 := rfl
    have c1 : (numS (bR xss).1).size + 1 ≤ 9223372036854775807 ∧ (numS (bR xss).1).size + 1 + (frS (rentFL xss total)).size ≤ 9223372036854775807 ∧ (numS (bR xss).1).size ≤ 9223372036854775806 := by omega
    simp (config := {contextual := true}) [Tryd.f17, List.range, List.range.loop, ints, intss, int, bool, row, frac, fracs, ← List.map_take, ← List.map_drop, hres, hb, h, h1, h2, hls, e1, c1]
    done

end Go.Proofs.YtblnpjppckfmfaaDoor.Ax
