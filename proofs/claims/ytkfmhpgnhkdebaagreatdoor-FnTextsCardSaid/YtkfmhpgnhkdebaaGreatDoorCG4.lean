/-
  The plain side of the proposals: who is whose, who is asked next; that all are married at the end. Plain Lean, no program in sight.
-/
import Derived.Test.YtkfmhpgnhkdebaaGreatDoorCG3
import Derived.Test.YtkfmhpgnhkdebaaGreatDoorCB2
import Derived.Test.YtkfmhpgnhkdebaaGreatDoorCK4
namespace Go.Proofs.YtkfmhpgnhkdebaaGreatDoor.Ax
open Go Go.RowKit
set_option linter.unusedSimpArgs false
set_option linter.unusedVariables false
end Go.Proofs.YtkfmhpgnhkdebaaGreatDoor.Ax
namespace Go.Proofs.YtkfmhpgnhkdebaaGreatDoor.Ax
open Go Go.RowKit
set_option linter.unusedSimpArgs false
set_option linter.unusedVariables false
theorem rank_of {l : List Int} (h1 : 1 ≤ l.length) (h5 : l.length ≤ 5) (hb : ∀ x ∈ l, 0 ≤ x ∧ x < l.length) (hn : l.Nodup) : rankB l.length l = true := by
  simp only [rankB, Bool.and_eq_true, decide_eq_true_eq, inR]
  refine ⟨⟨⟨by omega, by omega⟩, trivial⟩, ?_⟩
  unfold allR
  rw [List.all_eq_true]
  intro i hi
  have hi' : i < l.length := by simpa using hi
  rw [rankAt_at hi']
  have hx := hb l[i] (List.getElem_mem hi')
  have hno : ¬ 0 ≤ pos (l.take i) l[i] := by
    rw [pos_iff]
    intro hm
    obtain ⟨j, hj, e⟩ := List.getElem_of_mem hm
    rw [List.nodup_iff_pairwise_ne, List.pairwise_iff_getElem] at hn
    have hji : j < i := by simp at hj; omega
    rw [List.getElem_take] at e
    exact hn j i (by omega) hi' hji e
  simp only [Bool.and_eq_true, inR, decide_eq_true_eq, Bool.not_eq_true', decide_eq_false_iff_not]
  exact ⟨⟨hx.1, by omega⟩, hno⟩
end Go.Proofs.YtkfmhpgnhkdebaaGreatDoor.Ax
namespace Go.Proofs.YtkfmhpgnhkdebaaGreatDoor.Ax
open Go Go.RowKit
set_option linter.unusedSimpArgs false
abbrev Vt := (Bool × List Int) × Int
def vote (v : Vt) : AV := .agg [.sl v.1.1 1 (v.1.2.map int), .v (.int .i64 v.2)]
def vts (nl : Bool) (vs : List Vt) : AV := .sl nl 2 (vs.map vote)
def prof (s : Int) (nl : Bool) (vs : List Vt) : AV := .agg [.v (.int .i64 s), .sl nl 2 (vs.map vote)]
theorem vote_inj {a b : Vt} (h : vote a = vote b) : a = b := by
  obtain ⟨⟨a1, a2⟩, a3⟩ := a
  obtain ⟨⟨b1, b2⟩, b3⟩ := b
  simp [vote, map_int_inj] at h
  simp [h]
theorem map_vote_inj {a b : List Vt} : a.map vote = b.map vote ↔ a = b := List.map_inj_right fun _ _ h => vote_inj h
end Go.Proofs.YtkfmhpgnhkdebaaGreatDoor.Ax
