/-
  Contracts: FormatFraction, FormatFractions (both programs). No condition.
-/
import Derived.Test.YtpjejdebdhgngaaDoorCG75
namespace Go.Proofs.YtpjejdebdhgngaaDoor.Ax
open Go Go.RowKit
set_option linter.unusedSimpArgs false

def fracS (f : Int × Int) : ByteArray := if fracOk f = true then (if f.2 = 1 then itoaS f.1 else itoaS f.1 ++ ⟨#[47]⟩ ++ itoaS f.2) else ⟨#[]⟩
noncomputable def mFFrac : List AV → Option AV := mk (fun _ => True) (fun (p : (Int) × (Int)) => [frac (p.1, p.2)]) (fun p => .v (.string (fracS (p.1, p.2))))
theorem mFFrac_at (a : Int) (b : Int) : mFFrac [.agg [.v (.int .i64 a), .v (.int .i64 b)]] = some (.v (.string (fracS (a, b)))) :=
  mk_eq (enc := fun (p : (Int) × (Int)) => [frac (p.1, p.2)]) (x := (a, b)) (by rintro ⟨a0, a1⟩ ⟨b0, b1⟩ h; simp [ints, intss, int, bool, row, frac, fracs, map_int_inj, map_row_inj, frac_inj, map_frac_inj] at h; simp [h]) trivial

theorem itoaS_size20 {n : Int} (h : inI n) : (itoaS n).size ≤ 20 := by unfold itoaS; rw [ba_size]; exact itoa_len h

set_option maxHeartbeats 1000000 in
theorem implFormatFraction_ok : FnOk Tryd.prog 49 mFFrac := by
  refine mk_ok fun ⟨a, b⟩ _ => ?_
  have hG : FnsOk Tryd.prog [(69, mFracOk), (31, mItoa)] := (.cons implFractionOk_ok (.cons implFormatInt_ok .nil))
  refine callOk_awp (ctx_ok eqOk hG) mixed (live := [true, true, true, true, false, false, false, true]) (dt := [(5, ⟨[], [], []⟩)]) Tryd.func49 rfl (by kernel_rfl) (by kernel_rfl) fun w0 hlens => ?_
  clear hlens
  cases h1 : fracOk (a, b) with
  | false => simp (config := {contextual := true}) [Tryd.f49, List.range, List.range.loop, ints, intss, int, bool, row, frac, fracs, ← List.map_take, ← List.map_drop, mFracOk_at, h1, fracS]
  | true =>
  have hr : inI a ∧ inI b := by
    simp only [fracOk, Bool.and_eq_true, decide_eq_true_eq] at h1
    exact ⟨⟨by omega, by omega⟩, by omega, by omega⟩
  have ha := mItoa_at a hr.1
  have hb := mItoa_at b hr.2
  have sa := itoaS_size20 hr.1
  have sb := itoaS_size20 hr.2
  by_cases h2 : b = 1
  · subst h2
    simp (config := {contextual := true}) [Tryd.f49, List.range, List.range.loop, ints, intss, int, bool, row, frac, fracs, ← List.map_take, ← List.map_drop, mFracOk_at, h1, fracS, ha]
  · have s1 : (itoaS a).size + 1 ≤ 9223372036854775807 := by omega
    have s2 : (itoaS a).size + 1 + (itoaS b).size ≤ 9223372036854775807 := by omega
    have e1 : (b == 1) = false := by simpa using h2
    simp (config := {contextual := true}) [Tryd.f49, List.range, List.range.loop, ints, intss, int, bool, row, frac, fracs, ← List.map_take, ← List.map_drop, mFracOk_at, h1, fracS, ha, hb, h2, e1, sz1, s1, s2]

set_option maxHeartbeats 1000000 in
theorem specFormatFraction_ok : FnOk Tryd.prog 34 mFFrac := by
  refine mk_ok fun ⟨a, b⟩ _ => ?_
  have hG : FnsOk Tryd.prog [(48, mFracOk), (29, mItoa)] := (.cons specFractionOk_ok (.cons specFormatInt_ok .nil))
  refine callOk_awp (ctx_ok eqOk hG) mixed (live := [true, true, true, false, false, true, false, false, true]) (dt := [(5, ⟨[], [], []⟩)]) Tryd.func34 rfl (by kernel_rfl) (by kernel_rfl) fun w0 hlens => ?_
  clear hlens
  cases h1 : fracOk (a, b) with
  | false => simp (config := {contextual := true}) [Tryd.f34, List.range, List.range.loop, ints, intss, int, bool, row, frac, fracs, ← List.map_take, ← List.map_drop, mFracOk_at, h1, fracS]
  | true =>
  have hr : inI a ∧ inI b := by
    simp only [fracOk, Bool.and_eq_true, decide_eq_true_eq] at h1
    exact ⟨⟨by omega, by omega⟩, by omega, by omega⟩
  have ha := mItoa_at a hr.1
  have hb := mItoa_at b hr.2
  have sa := itoaS_size20 hr.1
  have sb := itoaS_size20 hr.2
  by_cases h2 : b = 1
  · subst h2
    simp (config := {contextual := true}) [Tryd.f34, List.range, List.range.loop, ints, intss, int, bool, row, frac, fracs, ← List.map_take, ← List.map_drop, mFracOk_at, h1, fracS, ha]
  · have s1 : (itoaS a).size + 1 ≤ 9223372036854775807 := by omega
    have s2 : (itoaS a).size + 1 + (itoaS b).size ≤ 9223372036854775807 := by omega
    have e1 : (b == 1) = false := by simpa using h2
    simp (config := {contextual := true}) [Tryd.f34, List.range, List.range.loop, ints, intss, int, bool, row, frac, fracs, ← List.map_take, ← List.map_drop, mFracOk_at, h1, fracS, ha, hb, h2, e1, sz1, s1, s2]

end Go.Proofs.YtpjejdebdhgngaaDoor.Ax
