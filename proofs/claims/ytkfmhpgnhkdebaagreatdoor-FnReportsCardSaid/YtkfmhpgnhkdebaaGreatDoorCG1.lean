/-
  Contracts of the laws' functions on profiles: size, copy, equality. No condition.
-/
import Derived.Test.YtkfmhpgnhkdebaaGreatDoorCB2
import Derived.Test.YtkfmhpgnhkdebaaGreatDoorCK4
namespace Go.Proofs.YtkfmhpgnhkdebaaGreatDoor.Ax
open Go Go.RowKit
set_option linter.unusedSimpArgs false
abbrev Vt := (Bool × List Int) × Int
def vote (v : Vt) : AV := .agg [.sl v.1.1 1 (v.1.2.map int), .v (.int .i64 v.2)]
def vts (nl : Bool) (vs : List Vt) : AV := .sl nl 2 (vs.map vote)
def prof (s : Int) (nl : Bool) (vs : List Vt) : AV := .agg [.v (.int .i64 s), .sl nl 2 (vs.map vote)]
theorem vote_inj {a b : Vt} (h : vote a = vote b) : a = b := by
  obtain ⟨⟨a1, a2⟩, a3⟩ := a
  obtain ⟨⟨b1, b2⟩, b3⟩ := b
  simp [vote, map_int_inj] at h
  simp [h]
theorem map_vote_inj {a b : List Vt} : a.map vote = b.map vote ↔ a = b := List.map_inj_right fun _ _ h => vote_inj h
end Go.Proofs.YtkfmhpgnhkdebaaGreatDoor.Ax
namespace Go.Proofs.YtkfmhpgnhkdebaaGreatDoor.Ax
open Go Go.RowKit
set_option linter.unusedSimpArgs false
end Go.Proofs.YtkfmhpgnhkdebaaGreatDoor.Ax
namespace Go.Proofs.YtkfmhpgnhkdebaaGreatDoor.Ax
open Go Go.RowKit
set_option linter.unusedSimpArgs false
end Go.Proofs.YtkfmhpgnhkdebaaGreatDoor.Ax
