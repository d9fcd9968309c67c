/-
  Contracts: HousesOk (both programs). No condition.
-/
import Derived.Test.YtkfmhpgnhkdebaaGreatDoorCG2
import Derived.Test.YtkfmhpgnhkdebaaGreatDoorCB2
import Derived.Test.YtkfmhpgnhkdebaaGreatDoorCK4
namespace Go.Proofs.YtkfmhpgnhkdebaaGreatDoor.Ax
open Go Go.RowKit
set_option linter.unusedSimpArgs false
def ranksB (m : Int) (xss : List (Bool × List Int)) : Bool := xss.all fun r => rankB m r.2
noncomputable def mAreR : List AV → Option AV := mk (fun _ => True) (fun (p : (Int) × (Bool) × (List (Bool × List Int))) => [int p.1, intss p.2.1 p.2.2]) (fun p => bool (ranksB p.1 p.2.2))
theorem mAreR_at (m : Int) (nl : Bool) (xss : List (Bool × List Int)) : mAreR [.v (.int .i64 m), .sl nl 1 (xss.map row)] = some (.v (.bool (ranksB m xss))) :=
  mk_eq (enc := fun (p : (Int) × (Bool) × (List (Bool × List Int))) => [int p.1, intss p.2.1 p.2.2]) (x := (m, nl, xss)) (by rintro ⟨a0, a1, a2⟩ ⟨b0, b1, b2⟩ h; simp [ints, intss, int, bool, row, frac, fracs, map_int_inj, map_row_inj, frac_inj, map_frac_inj] at h; simp [h]) trivial
noncomputable def mL17 : List AV → Option AV := mk (fun _ => True) (fun (p : (Bool) × (List (Bool × List Int)) × (Int)) => [intss p.1 p.2.1, int p.2.2]) (fun p => bool (decide ((p.2.1.length : Int) = p.2.2) && ranksB p.2.2 p.2.1))
theorem mL17_at (nl : Bool) (xss : List (Bool × List Int)) (m : Int) : mL17 [.sl nl 1 (xss.map row), .v (.int .i64 m)] = some (.v (.bool (decide ((xss.length : Int) = m) && ranksB m xss))) :=
  mk_eq (enc := fun (p : (Bool) × (List (Bool × List Int)) × (Int)) => [intss p.1 p.2.1, int p.2.2]) (x := (nl, xss, m)) (by rintro ⟨a0, a1, a2⟩ ⟨b0, b1, b2⟩ h; simp [ints, intss, int, bool, row, frac, fracs, map_int_inj, map_row_inj, frac_inj, map_frac_inj] at h; simp [h]) trivial
theorem areRankings1 (m : Int) (r : Bool × List Int) : CallOk Tryz.prog 226 [row r, .fp (int m) 0] (.v (.bool (!rankB m r.2))) := by
  have hG : FnsOk Tryz.prog [(110, mRank)] := (.cons implRankingOk_ok .nil)
  refine callOk_awp (ctx_ok eqOk hG) mixed (live := [true, true, false, true]) (dt := []) Tryz.func226 rfl (by kernel_rfl) (by kernel_rfl) fun w0 hlens => ?_
  simp (config := {contextual := true}) [Tryz.f226, List.range, List.range.loop, ints, intss, int, bool, row, frac, fracs, ← List.map_take, ← List.map_drop, mRank_at]
set_option maxHeartbeats 1000000 in
theorem areRankings_ok : FnOk Tryz.prog 164 mAreR := by
  refine mk_ok fun ⟨m, nl, xss⟩ _ => ?_
  obtain ⟨mm, hm, hma⟩ := as_model (containsIntss (g := 226) (pure_fp (a := int m) (j := 0) pure_nil) (fun r => !rankB m r.2) nl xss (fun x _ => areRankings1 m x))
  simp only [intss, int, bool] at hma
  have hnn := not_any_not (p := fun r : Bool × List Int => rankB m r.2) (xs := xss)
  have hs : ranksB m xss = !(xss.any fun r => !rankB m r.2) := by unfold ranksB; rw [← hnn]
  rw [hs]
  generalize xss.any (fun r => !rankB m r.2) = bb at hma hnn
  have hG : FnsOk Tryz.prog [(225, mm)] := (.cons hm .nil)
  refine callOk_awp (ctx_ok eqOk hG) mixed (live := [true, true, true, false, true]) (dt := []) Tryz.func164 rfl (by kernel_rfl) (by kernel_rfl) fun w0 hlens => ?_
  simp (config := {contextual := true}) [Tryz.f164, List.range, List.range.loop, ints, intss, int, bool, row, frac, fracs, ← List.map_take, ← List.map_drop, hma]
end Go.Proofs.YtkfmhpgnhkdebaaGreatDoor.Ax
namespace Go.Proofs.YtkfmhpgnhkdebaaGreatDoor.Ax
open Go Go.RowKit
end Go.Proofs.YtkfmhpgnhkdebaaGreatDoor.Ax
namespace Go.Proofs.YtkfmhpgnhkdebaaGreatDoor.Ax
open Go Go.RowKit
set_option linter.unusedSimpArgs false
end Go.Proofs.YtkfmhpgnhkdebaaGreatDoor.Ax
namespace Go.Proofs.YtkfmhpgnhkdebaaGreatDoor.Ax
open Go Go.RowKit
set_option linter.unusedSimpArgs false
set_option linter.unusedVariables false
end Go.Proofs.YtkfmhpgnhkdebaaGreatDoor.Ax
