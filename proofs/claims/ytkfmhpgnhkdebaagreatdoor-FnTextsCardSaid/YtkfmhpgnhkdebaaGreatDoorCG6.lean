/-
  Contracts: BestAward, BestWorth, WorthWithout (both programs). No condition.
-/
import Derived.Test.YtkfmhpgnhkdebaaGreatDoorCG5
import Derived.Test.YtkfmhpgnhkdebaaGreatDoorCB2
import Derived.Test.YtkfmhpgnhkdebaaGreatDoorCG4
import Derived.Test.YtkfmhpgnhkdebaaGreatDoorCG3
namespace Go.Proofs.YtkfmhpgnhkdebaaGreatDoor.Ax
open Go Go.RowKit
set_option linter.unusedSimpArgs false
end Go.Proofs.YtkfmhpgnhkdebaaGreatDoor.Ax
namespace Go.Proofs.YtkfmhpgnhkdebaaGreatDoor.Ax
open Go Go.RowKit
set_option linter.unusedSimpArgs false
end Go.Proofs.YtkfmhpgnhkdebaaGreatDoor.Ax
namespace Go.Proofs.YtkfmhpgnhkdebaaGreatDoor.Ax
open Go Go.RowKit
set_option linter.unusedSimpArgs false
end Go.Proofs.YtkfmhpgnhkdebaaGreatDoor.Ax
namespace Go.Proofs.YtkfmhpgnhkdebaaGreatDoor.Ax
open Go Go.RowKit
set_option linter.unusedSimpArgs false
end Go.Proofs.YtkfmhpgnhkdebaaGreatDoor.Ax
namespace Go.Proofs.YtkfmhpgnhkdebaaGreatDoor.Ax
open Go Go.RowKit
set_option linter.unusedSimpArgs false
def mkt (b : Bool) (xs : List (Bool × List Int)) (c : Bool) (ys : List (Bool × List Int)) : AV := .agg [intss b xs, intss c ys]
def marB (xs ys : List (Bool × List Int)) : Bool := inR 1 5 xs.length && decide (ys.length = xs.length) && ranksB xs.length xs && ranksB xs.length ys
theorem mkt_inj {p q : Bool × List (Bool × List Int) × Bool × List (Bool × List Int)} (h : [mkt p.1 p.2.1 p.2.2.1 p.2.2.2] = [mkt q.1 q.2.1 q.2.2.1 q.2.2.2]) : p = q := by
  obtain ⟨a, b, c, d⟩ := p
  obtain ⟨e, f, g, i⟩ := q
  simp [mkt, intss, map_row_inj] at h
  simp [h]
noncomputable def mMar : List AV → Option AV := mk (fun _ => True) (fun (p : Bool × List (Bool × List Int) × Bool × List (Bool × List Int)) => [mkt p.1 p.2.1 p.2.2.1 p.2.2.2]) (fun p => bool (marB p.2.1 p.2.2.2))
theorem mMar_at (b : Bool) (xs : List (Bool × List Int)) (c : Bool) (ys : List (Bool × List Int)) : mMar [.agg [.sl b 1 (xs.map row), .sl c 1 (ys.map row)]] = some (.v (.bool (marB xs ys))) :=
  mk_eq (enc := fun (p : Bool × List (Bool × List Int) × Bool × List (Bool × List Int)) => [mkt p.1 p.2.1 p.2.2.1 p.2.2.2]) (x := (b, xs, c, ys)) (fun x y h => by rw [mkt_inj h]) trivial
set_option maxHeartbeats 1000000 in
theorem implMar_ok : FnOk Tryz.prog 124 mMar := by
  refine mk_ok fun ⟨b, xs, c, ys⟩ _ => ?_
  have hG : FnsOk Tryz.prog [(99, mWithin), (164, mAreR)] := (.cons within_ok (.cons areRankings_ok .nil))
  refine callOk_awp (ctx_ok eqOk hG) mixed (live := [true, true, true, true]) (dt := []) Tryz.func124 rfl (by kernel_rfl) (by kernel_rfl) fun w0 hlens => ?_
  clear hlens
  cases h1 : inR 1 5 xs.length with
  | false => simp [Tryz.f124, List.range, List.range.loop, ints, intss, int, bool, row, frac, fracs, ← List.map_take, ← List.map_drop, mkt, mWithin_in, h1, marB]
  | true =>
    by_cases h2 : ys.length = xs.length
    · have ht : ys.take xs.length = ys := List.take_of_length_le (by omega)
      cases h3 : ranksB xs.length xs <;> cases h4 : ranksB xs.length ys <;> simp [Tryz.f124, List.range, List.range.loop, ints, intss, int, bool, row, frac, fracs, ← List.map_take, ← List.map_drop, mkt, mWithin_in, mAreR_at, mL17_at, h1, h2, h3, h4, ht, marB]
    · have h2b : ((ys.length : Int) == xs.length) = false := by simp; omega
      have h2i : ¬ (ys.length : Int) = xs.length := by omega
      cases h3 : ranksB xs.length xs <;> simp [Tryz.f124, List.range, List.range.loop, ints, intss, int, bool, row, frac, fracs, ← List.map_take, ← List.map_drop, mkt, mWithin_in, mAreR_at, mL17_at, h1, h2, h2b, h2i, h3, marB]
noncomputable def mIsRk : List AV → Option AV := mk (fun _ => True) (fun (p : (Bool) × (List Int)) => [ints p.1 p.2]) (fun p => bool (rankB p.2.length p.2))
theorem mIsRk_at (nl : Bool) (l : List Int) : mIsRk [.sl nl 1 (l.map int)] = some (.v (.bool (rankB l.length l))) :=
  mk_eq (enc := fun (p : (Bool) × (List Int)) => [ints p.1 p.2]) (x := (nl, l)) (by rintro ⟨a0, a1⟩ ⟨b0, b1⟩ h; simp [ints, intss, int, bool, row, frac, fracs, map_int_inj, map_row_inj, frac_inj, map_frac_inj] at h; simp [h]) trivial
theorem isRank_ok : FnOk Tryz.prog 84 mIsRk := by
  refine mk_ok fun ⟨nl, l⟩ _ => ?_
  have hG : FnsOk Tryz.prog [(110, mRank)] := (.cons implRankingOk_ok .nil)
  refine callOk_awp (ctx_ok eqOk hG) mixed (live := [true, false, true]) (dt := []) Tryz.func84 rfl (by kernel_rfl) (by kernel_rfl) fun w0 hlens => ?_
  clear hlens
  have h := mRank_at l.length nl l
  simp [Tryz.f84, List.range, List.range.loop, ints, intss, int, bool, row, frac, fracs, ← List.map_take, ← List.map_drop, h]
end Go.Proofs.YtkfmhpgnhkdebaaGreatDoor.Ax
