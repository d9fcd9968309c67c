/-
  Contracts: BestAward, BestWorth, WorthWithout (both programs). No condition.
-/
import Derived.Test.YtkfmhpgnhkdebaaGreatDoorCG5
import Derived.Test.YtkfmhpgnhkdebaaGreatDoorCB2
import Derived.Test.YtkfmhpgnhkdebaaGreatDoorCG3
namespace Go.Proofs.YtkfmhpgnhkdebaaGreatDoor.Ax
open Go Go.RowKit
set_option linter.unusedSimpArgs false
end Go.Proofs.YtkfmhpgnhkdebaaGreatDoor.Ax
namespace Go.Proofs.YtkfmhpgnhkdebaaGreatDoor.Ax
open Go Go.RowKit
set_option linter.unusedSimpArgs false
end Go.Proofs.YtkfmhpgnhkdebaaGreatDoor.Ax
namespace Go.Proofs.YtkfmhpgnhkdebaaGreatDoor.Ax
open Go Go.RowKit
set_option linter.unusedSimpArgs false
end Go.Proofs.YtkfmhpgnhkdebaaGreatDoor.Ax
namespace Go.Proofs.YtkfmhpgnhkdebaaGreatDoor.Ax
open Go Go.RowKit
set_option linter.unusedSimpArgs false
end Go.Proofs.YtkfmhpgnhkdebaaGreatDoor.Ax
namespace Go.Proofs.YtkfmhpgnhkdebaaGreatDoor.Ax
open Go Go.RowKit
set_option linter.unusedSimpArgs false
theorem implPlace_ok : FnOk Tryz.prog 260 mPos := by
  refine mk_ok fun ⟨nl, xs, v⟩ _ => ?_
  have hG : FnsOk Tryz.prog [(234, mPos)] := (.cons slicesIndex_ok .nil)
  refine callOk_awp (ctx_ok eqOk hG) mixed (live := [true, true, false, false, true]) (dt := []) Tryz.func260 rfl (by kernel_rfl) (by kernel_rfl) fun w0 hlens => ?_
  simp [Tryz.f260, List.range, List.range.loop, ints, intss, int, bool, row, frac, fracs, ← List.map_take, ← List.map_drop, mPos_at]
noncomputable def mPref : List AV → Option AV := mk (fun _ => True) (fun (p : (Bool) × (List Int) × (Int) × (Int)) => [ints p.1 p.2.1, int p.2.2.1, int p.2.2.2]) (fun p => bool (pfB p.2.1 p.2.2.1 p.2.2.2))
theorem mPref_at (nl : Bool) (l : List Int) (a : Int) (b : Int) : mPref [.sl nl 1 (l.map int), .v (.int .i64 a), .v (.int .i64 b)] = some (.v (.bool (pfB l a b))) :=
  mk_eq (enc := fun (p : (Bool) × (List Int) × (Int) × (Int)) => [ints p.1 p.2.1, int p.2.2.1, int p.2.2.2]) (x := (nl, l, a, b)) (by rintro ⟨a0, a1, a2, a3⟩ ⟨b0, b1, b2, b3⟩ h; simp [ints, intss, int, bool, row, frac, fracs, map_int_inj, map_row_inj, frac_inj, map_frac_inj] at h; simp [h]) trivial
theorem implPref_ok : FnOk Tryz.prog 222 mPref := by
  refine mk_ok fun ⟨nl, l, a, b⟩ _ => ?_
  have hG : FnsOk Tryz.prog [(260, mPos)] := (.cons implPlace_ok .nil)
  refine callOk_awp (ctx_ok eqOk hG) mixed (live := [true, true, true, false, false, false, true, true, true]) (dt := []) Tryz.func222 rfl (by kernel_rfl) (by kernel_rfl) fun w0 hlens => ?_
  clear hlens
  by_cases h1 : 0 ≤ pos l a <;> by_cases h2 : 0 ≤ pos l b <;> by_cases h3 : pos l a < pos l b <;> simp [Tryz.f222, List.range, List.range.loop, ints, intss, int, bool, row, frac, fracs, ← List.map_take, ← List.map_drop, mPos_at, pfB, h1, h2, h3]
noncomputable def mIsRk : List AV → Option AV := mk (fun _ => True) (fun (p : (Bool) × (List Int)) => [ints p.1 p.2]) (fun p => bool (rankB p.2.length p.2))
theorem mIsRk_at (nl : Bool) (l : List Int) : mIsRk [.sl nl 1 (l.map int)] = some (.v (.bool (rankB l.length l))) :=
  mk_eq (enc := fun (p : (Bool) × (List Int)) => [ints p.1 p.2]) (x := (nl, l)) (by rintro ⟨a0, a1⟩ ⟨b0, b1⟩ h; simp [ints, intss, int, bool, row, frac, fracs, map_int_inj, map_row_inj, frac_inj, map_frac_inj] at h; simp [h]) trivial
theorem isRank_ok : FnOk Tryz.prog 84 mIsRk := by
  refine mk_ok fun ⟨nl, l⟩ _ => ?_
  have hG : FnsOk Tryz.prog [(110, mRank)] := (.cons implRankingOk_ok .nil)
  refine callOk_awp (ctx_ok eqOk hG) mixed (live := [true, false, true]) (dt := []) Tryz.func84 rfl (by kernel_rfl) (by kernel_rfl) fun w0 hlens => ?_
  clear hlens
  have h := mRank_at l.length nl l
  simp [Tryz.f84, List.range, List.range.loop, ints, intss, int, bool, row, frac, fracs, ← List.map_take, ← List.map_drop, h]
end Go.Proofs.YtkfmhpgnhkdebaaGreatDoor.Ax
