/-
  Contracts: HouseLine (both programs). No condition.
-/
import Derived.Test.YtmeokgedldnohaaDoorCG165
import Derived.Test.YtmeokgedldnohaaDoorCG105
import Derived.Test.YtmeokgedldnohaaDoorCG75
namespace Go.Proofs.YtmeokgedldnohaaDoor.Ax
open Go Go.RowKit
set_option linter.unusedSimpArgs false

theorem tcR_ok {xss : List (Bool × List Int)} (h : H5 xss) : tabOk (tcR (tcA xss)) := by
  obtain ⟨h1, h2⟩ := tcA_ok h
  have h5 := h.n5
  refine ⟨by simp [tcR]; omega, fun r hr => ?_⟩
  obtain ⟨c, hc, rfl⟩ := List.mem_map.1 hr
  obtain ⟨h3, h4⟩ := h2 c hc
  refine ⟨by simp only; omega, fun x hx => ?_⟩
  obtain ⟨i, rfl, hi⟩ := h4 x hx
  exact inI_small (by omega)
theorem exL_ok {xss : List (Bool × List Int)} (h : H5 xss) : numOk (exL xss) := by
  have h5 := h.n5
  have hs := tcT_ok h (r := xss.length)
  refine ⟨by unfold exL; rw [exT_len]; omega, fun x hx => ?_⟩
  have := exT_in (n := xss.length) (cs := tcA xss) (fun c hc x hx => hs.rng c hc x hx) (Nat.le_refl _) x hx
  exact inI_small (by omega)
noncomputable def houS (xss : List (Bool × List Int)) : ByteArray := if housesB xss = true then linkS (numS (exL xss)) (tabS (tcR (tcA xss))) else ⟨#[110, 111, 110, 101]⟩
noncomputable def mHou : List AV → Option AV := mk (fun _ => True) (fun (p : (Bool) × (List (Bool × List Int))) => [intss p.1 p.2]) (fun p => .v (.string (houS p.2)))
theorem mHou_at (nl : Bool) (xss : List (Bool × List Int)) : mHou [.sl nl 1 (xss.map row)] = some (.v (.string (houS xss))) :=
  mk_eq (enc := fun (p : (Bool) × (List (Bool × List Int))) => [intss p.1 p.2]) (x := (nl, xss)) (by rintro ⟨a0, a1⟩ ⟨b0, b1⟩ h; simp [ints, intss, int, bool, row, frac, fracs, map_int_inj, map_row_inj, frac_inj, map_frac_inj] at h; simp [h]) trivial

theorem tabS_size {xss : List (Bool × List Int)} (h : tabOk xss) : (tabS xss).size ≤ 22020098 * xss.length + 1 := by
  have e : ∀ b : ByteArray, b.size = (bl b).length := fun b => by simp [bl]
  rw [e]
  unfold tabS
  split
  · exact Nat.le_add_left _ _
  · unfold joinS
    rw [bl_mk]
    have hl := join_len (c := 22020097) (sep := bl ⟨#[59]⟩) (ws := (xss.map rowS).map bl) (by
      intro w hw
      simp only [List.map_map, List.mem_map, Function.comp_apply] at hw
      obtain ⟨r, hr, rfl⟩ := hw
      have := numS_len (h.2 r hr).2
      have := (h.2 r hr).1
      unfold rowS
      omega)
    have e1 : (bl ⟨#[59]⟩).length = 1 := rfl
    rw [List.length_map, List.length_map, e1] at hl
    omega

set_option maxHeartbeats 1000000 in
theorem implHouse_ok : FnOk Tryd.prog 12 mHou := by
  refine mk_ok fun ⟨nl, xss⟩ _ => ?_
  have hG : FnsOk Tryd.prog [(39, mHouses), (41, mExB), (40, mFNum), (42, mFTab)] := (.cons implHouses_ok (.cons implExch_ok (.cons implFormatNumbers_ok (.cons implFormatTable_ok .nil))))
  have hM : FnsMut Tryd.prog [] := .nil
  have hV : FnsMov Tryd.prog [] := .nil
  have hK : FnsFrz Tryd.prog [(43, true, mTc)] := (.cons implTop_ok .nil)
  refine callOk_awp (ctxH_ok eqOk hG hM hV hK) mixed (live := [true, false, true, false, false, true]) (dt := []) Tryd.func12 rfl (by kernel_rfl) (by kernel_rfl) fun w0 hlens => ?_
  clear hlens
  cases h : housesB xss with
  | false => simp (config := {contextual := true}) [Tryd.f12, List.range, List.range.loop, ints, intss, int, bool, row, frac, fracs, ← List.map_take, ← List.map_drop, List.all, mHouses_at, h, houS]
  | true =>
    have h5 := h5_of h
    have hex := mExB_at nl xss h
    have htc := mTc_at nl xss h
    have ho := exL_ok h5
    have ht := tcR_ok h5
    have h1 := mFNum_at false (exL xss) ho
    have h2 := mFTab_at false (tcR (tcA xss)) ht
    have s1 := numS_size ho.2
    have s1' := ho.1
    have s2 := tabS_size ht
    have s2' := ht.1
    have hS : houS xss = numS (exL xss) ++ ⟨#[32]⟩ ++ tabS (tcR (tcA xss)) := by unfold houS; rw [if_pos h]; rfl
    rw [hS]
    have hls := link_size (a := numS (exL xss))
    have e1 : (⟨#[32]⟩ : ByteArray).size = 1 := rfl
    have c1 : (numS (exL xss)).size + 1 ≤ 9223372036854775807 ∧ (numS (exL xss)).size + 1 + (tabS (tcR (tcA xss))).size ≤ 9223372036854775807 ∧ (numS (exL xss)).size ≤ 9223372036854775806 := by omega
    generalize exL xss = E at *
    generalize tcR (tcA xss) = R at *
    simp (config := {contextual := true}) [Tryd.f12, List.range, List.range.loop, ints, intss, int, bool, row, frac, fracs, ← List.map_take, ← List.map_drop, List.all, mHouses_at, h, hex, htc, h1, h2, hls, e1, c1]
    done

set_option maxHeartbeats 1000000 in
theorem specHouse_ok : FnOk Tryd.prog 10 mHou := by
  refine mk_ok fun ⟨nl, xss⟩ _ => ?_
  have hG : FnsOk Tryd.prog [(34, mHouses), (36, mExB), (35, mFNum), (37, mFTab)] := (.cons specHouses_ok (.cons specExch_ok (.cons specFormatNumbers_ok (.cons specFormatTable_ok .nil))))
  have hM : FnsMut Tryd.prog [] := .nil
  have hV : FnsMov Tryd.prog [] := .nil
  have hK : FnsFrz Tryd.prog [(38, true, mTc)] := (.cons specTop_ok .nil)
  refine callOk_awp (ctxH_ok eqOk hG hM hV hK) mixed (live := [true, false, true, false, false, true]) (dt := []) Tryd.func10 rfl (by kernel_rfl) (by kernel_rfl) fun w0 hlens => ?_
  clear hlens
  cases h : housesB xss with
  | false => simp (config := {contextual := true}) [Tryd.f10, List.range, List.range.loop, ints, intss, int, bool, row, frac, fracs, ← List.map_take, ← List.map_drop, List.all, mHouses_at, h, houS]
  | true =>
    have h5 := h5_of h
    have hex := mExB_at nl xss h
    have htc := mTc_at nl xss h
    have ho := exL_ok h5
    have ht := tcR_ok h5
    have h1 := mFNum_at false (exL xss) ho
    have h2 := mFTab_at false (tcR (tcA xss)) ht
    have s1 := numS_size ho.2
    have s1' := ho.1
    have s2 := tabS_size ht
    have s2' := ht.1
    have hS : houS xss = numS (exL xss) ++ ⟨#[32]⟩ ++ tabS (tcR (tcA xss)) := by unfold houS; rw [if_pos h]; rfl
    rw [hS]
    have hls := link_size (a := numS (exL xss))
    have e1 : (⟨#[32]⟩ : ByteArray).size = 1 := rfl
    have c1 : (numS (exL xss)).size + 1 ≤ 9223372036854775807 ∧ (numS (exL xss)).size + 1 + (tabS (tcR (tcA xss))).size ≤ 9223372036854775807 ∧ (numS (exL xss)).size ≤ 9223372036854775806 := by omega
    generalize exL xss = E at *
    generalize tcR (tcA xss) = R at *
    simp (config := {contextual := true}) [Tryd.f10, List.range, List.range.loop, ints, intss, int, bool, row, frac, fracs, ← List.map_take, ← List.map_drop, List.all, mHouses_at, h, hex, htc, h1, h2, hls, e1, c1]
    done

end Go.Proofs.YtmeokgedldnohaaDoor.Ax
