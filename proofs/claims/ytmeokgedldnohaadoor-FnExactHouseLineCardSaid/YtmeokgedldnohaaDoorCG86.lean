/-
  Contracts: slices.Delete over ints: the row is handed over, what is left comes back. No condition.
-/
import Derived.Test.YtmeokgedldnohaaDoorCG80
import Derived.Shelf.Lay
import Derived.Ground.SlgnProg
import Derived.Shelf.SlicesE.Delete
namespace Go.Proofs
end Go.Proofs
namespace Go.Proofs.YtmeokgedldnohaaDoor.Ax
open Go Go.RowKit Go.Sort
set_option linter.unusedSimpArgs false

theorem frozen_cells {w : World} {b : Nat} {cs : Array Value} {T : TypeId} (h : w.heap[b]? = some (.cells cs T (0, 0))) (o : Nat) : w.frozen? ⟨b, o, none⟩ = false := by
  simp [World.frozen?, h]

theorem ownRow_ints {w : World} {d : Bool} {F S : Nat → Prop} {b : Nat} : ∀ {xs : List Int} {o : Nat}, OwnRow w d F S b 1 o (xs.map int) → ∀ (j : Nat) (x : Int), xs[j]? = some x → w.cell? ⟨b, o + j, none⟩ = some (.int .i64 x)
  | xs, o, h, j, x, hj => by
    obtain ⟨y, h1, h2, _, h4⟩ := OwnRow.get h j (int x) (by rw [List.getElem?_map, hj]; rfl)
    simp only [Own, int] at h1
    obtain ⟨rfl, _⟩ := h1
    have := h4 0 (.int .i64 x) (by rfl)
    simpa using this

theorem ownRow_mk {w : World} {d : Bool} {F S : Nat → Prop} {b : Nat} : ∀ {xs : List Int} {o : Nat}, (∀ (j : Nat) (x : Int), xs[j]? = some x → w.cell? ⟨b, o + j, none⟩ = some (.int .i64 x)) → OwnRow w d F S b 1 o (xs.map int)
  | [], o, h => by simp [OwnRow]
  | x :: xs, o, h => by
    simp only [List.map_cons, OwnRow]
    refine ⟨.int .i64 x, fun _ => False, fun _ => False, fun _ h => h.elim, fun _ h => h.elim, fun _ h => h.elim, by simp [Own, int, Value.oneCell'], rfl, rfl, fun j y hj => ?_, ownRow_mk fun j y hj => ?_⟩
    · cases j with
      | zero => simp [Value.cells] at hj; subst hj; exact h 0 x rfl
      | succ j => simp [Value.cells] at hj
    · have := h (j + 1) y (by simpa using hj)
      rw [show o + (j + 1) = o + 1 + j by omega] at this; exact this

/-- A row of ints of the call's own, as the shelf speaks of it. -/
theorem holds_of {w : World} {F S : Nat → Prop} {b o : Nat} {cs : Array Value} {T : TypeId} {xs : List Int} (hh : w.heap[b]? = some (.cells cs T (0, 0))) (hrow : OwnRow w true F S b 1 o (xs.map int)) : Holds (Value.int .i64) w b o xs.toArray := fun j hj => by
  have hj' : j < xs.length := by simpa using hj
  refine ⟨?_, frozen_cells hh _⟩
  rw [ownRow_ints hrow j xs[j] (List.getElem?_eq_getElem hj')]
  rw [getElem!_pos _ j hj]
  simp

theorem putRow_heap {w : World} {q b o : Nat} {d : Array Int} {k : Nat} (h : k ≠ b) : (putRow (Value.int .i64) (Sort.ahead w q) b o d).heap[k]? = w.heap[k]? := by
  simp only [putRow, mapBlock, Sort.ahead, Array.getElem?_modify]
  rw [if_neg (fun e => h e.symm)]
theorem putRow_own {w : World} {q b o : Nat} {d : Array Int} {cs : Array Value} {T : TypeId} (h : w.heap[b]? = some (.cells cs T (0, 0))) : (putRow (Value.int .i64) (Sort.ahead w q) b o d).heap[b]? = some (.cells (Go.Sort.putCells (Value.int .i64) o d cs) T (0, 0)) := by
  simp only [putRow, mapBlock, Sort.ahead, Array.getElem?_modify, if_true, h, Option.map_some, onCells]

/-- A row of ints that a function of the shelf has put anew: it is the call's own as before. -/
theorem put_mov {w : World} {S : Nat → Prop} {b o cap q : Nat} {cs : Array Value} {T : TypeId} {xs ys zs : List Int} (hSb : S b) (hSl : ∀ b, S b → b < w.heap.size) (hh : w.heap[b]? = some (.cells cs T (0, 0))) (hfit : o + cap * 1 ≤ cs.size) (hH : Holds (Value.int .i64) w b o xs.toArray)
    (hl : ys.length + zs.length = xs.length) (hcap : xs.length ≤ cap) (hcm : cap ≤ maxLen) : ∃ (S' : Nat → Prop), Frm S w (putRow (Value.int .i64) (Sort.ahead w q) b o (ys ++ zs).toArray) ∧ (∀ c, S' c → (S c ∨ w.heap.size ≤ c) ∧ c < (putRow (Value.int .i64) (Sort.ahead w q) b o (ys ++ zs).toArray).heap.size) ∧
      Own (putRow (Value.int .i64) (Sort.ahead w q) b o (ys ++ zs).toArray) true (fun _ => False) S' (.sl false 1 (ys.map int)) (.slice (some ⟨b, o, none⟩) ys.length cap) := by
  have hsz : (putRow (Value.int .i64) (Sort.ahead w q) b o (ys ++ zs).toArray).heap.size = w.heap.size := by rw [size_putRow]; rfl
  have hH' : Holds (Value.int .i64) (Sort.ahead w q) b o xs.toArray := holds_ahead _ w q b o _ hH
  have hH2 := holds_putRow (Value.int .i64) (Sort.ahead w q) b o xs.toArray (ys ++ zs).toArray hH' (by simp; omega)
  refine ⟨S, ⟨rfl, rfl, rfl, by rw [hsz]; exact Nat.le_refl _, fun k _ hk => putRow_heap fun e => hk (e ▸ hSb)⟩, fun c hc => ⟨.inl hc, by rw [hsz]; exact hSl c hc⟩, ?_⟩
  refine Excl.own (S := S) ⟨_, _, cap, rfl, by simp, by omega, hcm, .inr ⟨b, o, _, T, rfl, rfl, hSb, putRow_own hh, by simp only [Go.Sort.putCells, Array.size_mapIdx]; exact hfit, ownRow_mk fun j x hj => ?_⟩⟩
  have hjl := (List.getElem?_eq_some_iff.1 hj).1
  have := (hH2 j (by simp; omega)).1
  rw [this, getElem!_pos _ j (by simp; omega)]
  simp only [List.getElem_toArray]
  rw [List.getElem_append_left hjl]
  rw [(List.getElem?_eq_some_iff.1 hj).2]

noncomputable def mDel : List AV → Option (List Nat × AV) := mkV (fun p => p.2.1 ≤ p.2.2 ∧ p.2.2 ≤ p.1.length) (fun (p : List Int × Nat × Nat) => [ints false p.1, int p.2.1, int p.2.2]) [0] (fun p => ints false (p.1.take p.2.1 ++ p.1.drop p.2.2))
theorem mDel_at (xs : List Int) (i j : Nat) (h : i ≤ j ∧ j ≤ xs.length) : mDel [.sl false 1 (xs.map int), .v (.int .i64 i), .v (.int .i64 j)] = some ([0], .sl false 1 ((xs.take i ++ xs.drop j).map int)) :=
  mkV_eq (enc := fun (p : List Int × Nat × Nat) => [ints false p.1, int p.2.1, int p.2.2]) (x := (xs, i, j)) (by rintro ⟨a, b, c⟩ ⟨d, e, f⟩ h; simp [ints, int, map_int_inj] at h; obtain ⟨rfl, h1, h2⟩ := h; simp only; rw [show b = e by omega, show c = f by omega]) h

end Go.Proofs.YtmeokgedldnohaaDoor.Ax
