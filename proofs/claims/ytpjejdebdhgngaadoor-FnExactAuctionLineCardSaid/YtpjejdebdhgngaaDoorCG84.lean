/-
  Contracts: AuctionLine (both programs). No condition.
-/
import Derived.Test.YtpjejdebdhgngaaDoorCG57
import Derived.Test.YtpjejdebdhgngaaDoorCG74
namespace Go.Proofs.YtpjejdebdhgngaaDoor.Ax
open Go Go.RowKit
set_option linter.unusedSimpArgs false

theorem inI_wrap (x : Int) : inI (IntKind.i64.wrap x) := by rw [IntKind.wrap_i64]; unfold inI; omega
theorem inI_small {x : Int} (h : -1000000 ≤ x ∧ x ≤ 1000000) : inI x := by unfold inI; omega

theorem numS_size {xs : List Int} (h : ∀ n ∈ xs, inI n) : (numS xs).size ≤ 21 * xs.length + 1 := by
  unfold numS
  split
  · have : (⟨#[45]⟩ : ByteArray).size = 1 := rfl
    omega
  · have hl := join_len (c := 20) (sep := bl ⟨#[44]⟩) (ws := (xs.map itoaS).map bl) (by
      intro w hw
      simp only [List.map_map, List.mem_map, Function.comp_apply] at hw
      obtain ⟨n, hn, rfl⟩ := hw
      unfold itoaS; rw [bl_mk]
      exact itoa_len (h n hn))
    have e1 : (bl ⟨#[44]⟩).length = 1 := rfl
    rw [List.length_map, List.length_map, e1] at hl
    have e2 : (joinS (xs.map itoaS) ⟨#[44]⟩).size = (bl (joinS (xs.map itoaS) ⟨#[44]⟩)).length := by unfold bl; rw [Array.length_toList]; rfl
    rw [e2]
    unfold joinS
    rw [bl_mk]
    omega

/-- Two texts with a blank between them. -/
def linkS (a b : ByteArray) : ByteArray := a ++ ⟨#[32]⟩ ++ b
theorem link_size {a : ByteArray} : (a ++ (⟨#[32]⟩ : ByteArray)).size = a.size + 1 := by rw [ByteArray.size_append]; rfl

theorem bA_in {xss : List (Bool × List Int)} : ∀ n ∈ bA xss, inI n := fun n hn => by
  cases h : rectB xss 4 4 1000 with
  | false => rw [bA_no h] at hn; simp at hn
  | true =>
    rw [bA_yes h] at hn
    have h1 := (bestA_mem h (by omega)).2.1 n hn
    have h2 := rect_len h
    exact inI_small (by omega)
theorem payA_in {xss : List (Bool × List Int)} : ∀ n ∈ payA xss, inI n := fun n hn => by
  cases h : rectB xss 4 4 1000 with
  | false => rw [payA_no h] at hn; simp at hn
  | true =>
    rw [payA_yes h] at hn
    simp only [payL, List.mem_map] at hn
    obtain ⟨i, _, rfl⟩ := hn
    exact inI_wrap _
noncomputable def aucS (xss : List (Bool × List Int)) : ByteArray := if rectB xss 4 4 1000 = true then linkS (numS (bA xss)) (numS (payA xss)) else ⟨#[110, 111, 110, 101]⟩
noncomputable def mAuc : List AV → Option AV := mk (fun _ => True) (fun (p : (Bool) × (List (Bool × List Int))) => [intss p.1 p.2]) (fun p => .v (.string (aucS p.2)))
theorem mAuc_at (nl : Bool) (xss : List (Bool × List Int)) : mAuc [.sl nl 1 (xss.map row)] = some (.v (.string (aucS xss))) :=
  mk_eq (enc := fun (p : (Bool) × (List (Bool × List Int))) => [intss p.1 p.2]) (x := (nl, xss)) (by rintro ⟨a0, a1⟩ ⟨b0, b1⟩ h; simp [ints, intss, int, bool, row, frac, fracs, map_int_inj, map_row_inj, frac_inj, map_frac_inj] at h; simp [h]) trivial

set_option maxHeartbeats 1000000 in
theorem implAuction_ok : FnOk Tryd.prog 28 mAuc := by
  refine mk_ok fun ⟨nl, xss⟩ _ => ?_
  have hG : FnsOk Tryd.prog [(43, (mGrid 4 4 1000)), (44, mBestAward), (10, mFNum), (45, mPayments)] := (.cons implBidsOk_ok (.cons implBestAward_ok (.cons implFormatNumbers_ok (.cons implPayments_ok .nil))))
  refine callOk_awp (ctx_ok eqOk hG) mixed (live := [true, false, true, false, false, true]) (dt := []) Tryd.func28 rfl (by kernel_rfl) (by kernel_rfl) fun w0 hlens => ?_
  clear hlens
  cases h : rectB xss 4 4 1000 with
  | false => simp (config := {contextual := true}) [Tryd.f28, List.range, List.range.loop, ints, intss, int, bool, row, frac, fracs, ← List.map_take, ← List.map_drop, mGrid_at, h, aucS]
  | true =>
    have hl1 := bA_len (xss := xss)
    have hl2 := payA_len (xss := xss)
    have h1 := mFNum_at false (bA xss) ⟨by omega, bA_in⟩
    have h2 := mFNum_at false (payA xss) ⟨by omega, payA_in⟩
    have s1 := numS_size (bA_in (xss := xss))
    have s2 := numS_size (payA_in (xss := xss))
    have hS : aucS xss = numS (bA xss) ++ ⟨#[32]⟩ ++ numS (payA xss) := by unfold aucS; rw [if_pos h]; rfl
    rw [hS]
    have hls := link_size (a := numS (bA xss))
    have e1 : (⟨#[32]⟩ : ByteArray).size = 1 := rfl
    have c1 : (numS (bA xss)).size + 1 ≤ 9223372036854775807 ∧ (numS (bA xss)).size + 1 + (numS (payA xss)).size ≤ 9223372036854775807 ∧ (numS (bA xss)).size ≤ 9223372036854775806 := by omega
    simp (config := {contextual := true}) [Tryd.f28, List.range, List.range.loop, ints, intss, int, bool, row, frac, fracs, ← List.map_take, ← List.map_drop, mGrid_at, mBestAward_at, mPayments_at, h, h1, h2, hls, e1, c1]
    done

set_option maxHeartbeats 1000000 in
theorem specAuction_ok : FnOk Tryd.prog 27 mAuc := by
  refine mk_ok fun ⟨nl, xss⟩ _ => ?_
  have hG : FnsOk Tryd.prog [(40, (mGrid 4 4 1000)), (41, mBestAward), (8, mFNum), (42, mPayments)] := (.cons specBidsOk_ok (.cons specBestAward_ok (.cons specFormatNumbers_ok (.cons specPayments_ok .nil))))
  refine callOk_awp (ctx_ok eqOk hG) mixed (live := [true, false, true, false, false, true]) (dt := []) Tryd.func27 rfl (by kernel_rfl) (by kernel_rfl) fun w0 hlens => ?_
  clear hlens
  cases h : rectB xss 4 4 1000 with
  | false => simp (config := {contextual := true}) [Tryd.f27, List.range, List.range.loop, ints, intss, int, bool, row, frac, fracs, ← List.map_take, ← List.map_drop, mGrid_at, h, aucS]
  | true =>
    have hl1 := bA_len (xss := xss)
    have hl2 := payA_len (xss := xss)
    have h1 := mFNum_at false (bA xss) ⟨by omega, bA_in⟩
    have h2 := mFNum_at false (payA xss) ⟨by omega, payA_in⟩
    have s1 := numS_size (bA_in (xss := xss))
    have s2 := numS_size (payA_in (xss := xss))
    have hS : aucS xss = numS (bA xss) ++ ⟨#[32]⟩ ++ numS (payA xss) := by unfold aucS; rw [if_pos h]; rfl
    rw [hS]
    have hls := link_size (a := numS (bA xss))
    have e1 : (⟨#[32]⟩ : ByteArray).size = 1 := rfl
    have c1 : (numS (bA xss)).size + 1 ≤ 9223372036854775807 ∧ (numS (bA xss)).size + 1 + (numS (payA xss)).size ≤ 9223372036854775807 ∧ (numS (bA xss)).size ≤ 9223372036854775806 := by omega
    simp (config := {contextual := true}) [Tryd.f27, List.range, List.range.loop, ints, intss, int, bool, row, frac, fracs, ← List.map_take, ← List.map_drop, mGrid_at, mBestAward_at, mPayments_at, h, h1, h2, hls, e1, c1]
    done

end Go.Proofs.YtpjejdebdhgngaaDoor.Ax
