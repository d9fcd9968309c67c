/-
 Contracts: a short list of ints is sorted by a function, stably (slices.SortStableFunc). No condition.
-/
import Derived.Test.YtompijgfpeibnaaGreatDoorCB7
import Derived.Test.YtompijgfpeibnaaGreatDoorCK4
import Derived.Ground.SlgnProg
import Derived.Shelf.SlicesE.Delete
import Derived.Ground.SlgfProg
import Derived.Shelf.SlicesE.DeleteFunc
namespace Go.Proofs
open Go.Shelf
def Tryz.laysDel_ren : Go.Shelf.Ren := ⟨fun | 45 => 172 | n => n, fun | 22 => 27 | 23 => 3 | 3 => 3 | 4 => 4 | 0 => 0 | n => n, fun | n => n⟩
theorem Tryz.laysDel : Go.Proofs.SlLaysE.n45 Tryz.prog Tryz.laysDel_ren := {
 mixed := by kernel_rfl
 f45 := ⟨Tryz.f172.name, by decide, Tryz.func172.trans (congrArg some (by kernel_rfl))⟩
 t0 := Tryz.underlying0
 a0 := Tryz.isAgg0
 z0 := Tryz.sizeOf0
 v0 := Tryz.zeroValue0
 t3 := Tryz.underlying3
 a3 := Tryz.isAgg3
 z3 := Tryz.sizeOf3
 v3 := Tryz.zeroValue3
 t4 := Tryz.underlying4
 a4 := Tryz.isAgg4
 z4 := Tryz.sizeOf4
 v4 := Tryz.zeroValue4
 t22 := Tryz.underlying27
 a22 := Tryz.isAgg27
 z22 := Tryz.sizeOf27
 v22 := Tryz.zeroValue27
 a23 := Tryz.isAgg3
 z23 := Tryz.sizeOf3 }
end Go.Proofs
namespace Go.Proofs.YtompijgfpeibnaaGreatDoor.Ax
open Go Go.RowKit Go.Sort
set_option linter.unusedSimpArgs false
theorem frozen_cells {w : World} {b : Nat} {cs : Array Value} {T : TypeId} (h : w.heap[b]? = some (.cells cs T (0, 0))) (o : Nat) : w.frozen? ⟨b, o, none⟩ = false := by
 simp [World.frozen?, h]
theorem ownRow_ints {w : World} {d : Bool} {F S : Nat → Prop} {b : Nat} : ∀ {xs : List Int} {o : Nat}, OwnRow w d F S b 1 o (xs.map int) → ∀ (j : Nat) (x : Int), xs[j]? = some x → w.cell? ⟨b, o + j, none⟩ = some (.int .i64 x)
 | xs, o, h, j, x, hj => by
  obtain ⟨y, h1, h2, _, h4⟩ := OwnRow.get h j (int x) (by rw [List.getElem?_map, hj]; rfl)
  simp only [Own, int] at h1
  obtain ⟨rfl, _⟩ := h1
  have := h4 0 (.int .i64 x) (by rfl)
  simpa using this
theorem ownRow_mk {w : World} {d : Bool} {F S : Nat → Prop} {b : Nat} : ∀ {xs : List Int} {o : Nat}, (∀ (j : Nat) (x : Int), xs[j]? = some x → w.cell? ⟨b, o + j, none⟩ = some (.int .i64 x)) → OwnRow w d F S b 1 o (xs.map int)
 | [], o, h => by simp [OwnRow]
 | x :: xs, o, h => by
  simp only [List.map_cons, OwnRow]
  refine ⟨.int .i64 x, fun _ => False, fun _ => False, fun _ h => h.elim, fun _ h => h.elim, fun _ h => h.elim, by simp [Own, int, Value.oneCell'], rfl, rfl, fun j y hj => ?_, ownRow_mk fun j y hj => ?_⟩
  ·cases j with
   | zero => simp [Value.cells] at hj; subst hj; exact h 0 x rfl
   | succ j => simp [Value.cells] at hj
  ·have := h (j + 1) y (by simpa using hj)
   rw [show o + (j + 1) = o + 1 + j by omega] at this; exact this
theorem holds_of {w : World} {F S : Nat → Prop} {b o : Nat} {cs : Array Value} {T : TypeId} {xs : List Int} (hh : w.heap[b]? = some (.cells cs T (0, 0))) (hrow : OwnRow w true F S b 1 o (xs.map int)) : Holds (Value.int .i64) w b o xs.toArray := fun j hj => by
 have hj' : j < xs.length := by simpa using hj
 refine ⟨?_, frozen_cells hh _⟩
 rw [ownRow_ints hrow j xs[j] (List.getElem?_eq_getElem hj')]
 rw [getElem!_pos _ j hj]
 simp
theorem putRow_heap {w : World} {q b o : Nat} {d : Array Int} {k : Nat} (h : k ≠ b) : (putRow (Value.int .i64) (Sort.ahead w q) b o d).heap[k]? = w.heap[k]? := by
 simp only [putRow, mapBlock, Sort.ahead, Array.getElem?_modify]
 rw [if_neg (fun e => h e.symm)]
theorem putRow_own {w : World} {q b o : Nat} {d : Array Int} {cs : Array Value} {T : TypeId} (h : w.heap[b]? = some (.cells cs T (0, 0))) : (putRow (Value.int .i64) (Sort.ahead w q) b o d).heap[b]? = some (.cells (Go.Sort.putCells (Value.int .i64) o d cs) T (0, 0)) := by
 simp only [putRow, mapBlock, Sort.ahead, Array.getElem?_modify, if_true, h, Option.map_some, onCells]
theorem put_mov {w : World} {S : Nat → Prop} {b o cap q : Nat} {cs : Array Value} {T : TypeId} {xs ys zs : List Int} (hSb : S b) (hSl : ∀ b, S b → b < w.heap.size) (hh : w.heap[b]? = some (.cells cs T (0, 0))) (hfit : o + cap * 1 ≤ cs.size) (hH : Holds (Value.int .i64) w b o xs.toArray)
  (hl : ys.length + zs.length = xs.length) (hcap : xs.length ≤ cap) (hcm : cap ≤ maxLen) : ∃ (S' : Nat → Prop), Frm S w (putRow (Value.int .i64) (Sort.ahead w q) b o (ys ++ zs).toArray) ∧ (∀ c, S' c → (S c ∨ w.heap.size ≤ c) ∧ c < (putRow (Value.int .i64) (Sort.ahead w q) b o (ys ++ zs).toArray).heap.size) ∧
   Own (putRow (Value.int .i64) (Sort.ahead w q) b o (ys ++ zs).toArray) true (fun _ => False) S' (.sl false 1 (ys.map int)) (.slice (some ⟨b, o, none⟩) ys.length cap) := by
 have hsz : (putRow (Value.int .i64) (Sort.ahead w q) b o (ys ++ zs).toArray).heap.size = w.heap.size := by rw [size_putRow]; rfl
 have hH' : Holds (Value.int .i64) (Sort.ahead w q) b o xs.toArray := holds_ahead _ w q b o _ hH
 have hH2 := holds_putRow (Value.int .i64) (Sort.ahead w q) b o xs.toArray (ys ++ zs).toArray hH' (by simp; omega)
 refine ⟨S, ⟨rfl, rfl, rfl, by rw [hsz]; exact Nat.le_refl _, fun k _ hk => putRow_heap fun e => hk (e ▸ hSb)⟩, fun c hc => ⟨.inl hc, by rw [hsz]; exact hSl c hc⟩, ?_⟩
 refine Excl.own (S := S) ⟨_, _, cap, rfl, by simp, by omega, hcm, .inr ⟨b, o, _, T, rfl, rfl, hSb, putRow_own hh, by simp only [Go.Sort.putCells, Array.size_mapIdx]; exact hfit, ownRow_mk fun j x hj => ?_⟩⟩
 have hjl := (List.getElem?_eq_some_iff.1 hj).1
 have := (hH2 j (by simp; omega)).1
 rw [this, getElem!_pos _ j (by simp; omega)]
 simp only [List.getElem_toArray]
 rw [List.getElem_append_left hjl]
 rw [(List.getElem?_eq_some_iff.1 hj).2]
noncomputable def mDel : List AV → Option (List Nat × AV) := mkV (fun p => p.2.1 ≤ p.2.2 ∧ p.2.2 ≤ p.1.length) (fun (p : List Int × Nat × Nat) => [ints false p.1, int p.2.1, int p.2.2]) [0] (fun p => ints false (p.1.take p.2.1 ++ p.1.drop p.2.2))
theorem mDel_at (xs : List Int) (i j : Nat) (h : i ≤ j ∧ j ≤ xs.length) : mDel [.sl false 1 (xs.map int), .v (.int .i64 i), .v (.int .i64 j)] = some ([0], .sl false 1 ((xs.take i ++ xs.drop j).map int)) :=
 mkV_eq (enc := fun (p : List Int × Nat × Nat) => [ints false p.1, int p.2.1, int p.2.2]) (x := (xs, i, j)) (by rintro ⟨a, b, c⟩ ⟨d, e, f⟩ h; simp [ints, int, map_int_inj] at h; obtain ⟨rfl, h1, h2⟩ := h; simp only; rw [show b = e by omega, show c = f by omega]) h
set_option maxHeartbeats 1000000 in
theorem delete_ok : FnMov Tryz.prog 172 mDel := by
 refine mkV_ok fun ⟨xs, i, j⟩ ⟨hij, hj⟩ => ?_
 simp only at hij hj
 refine ⟨⟨_, Tryz.func172, by kernel_rfl, by kernel_rfl⟩, fun w F S vals hF hS hlen hargs hown => ?_⟩
 have h1 := hargs 1 _ (by simp) rfl
 have h2 := hargs 2 _ (by simp) rfl
 obtain ⟨y1, e1, h1⟩ := h1
 obtain ⟨y2, e2, h2⟩ := h2
 simp only [Rep, int] at h1 h2
 obtain ⟨rfl, _⟩ := h1
 obtain ⟨rfl, _⟩ := h2
 simp only [List.map_cons, List.map_nil, OwnL, List.getD_cons_zero] at hown
 obtain ⟨y0, ys0, S1, S2, e0, hS1, _, _, hown, _⟩ := hown
 have e0' : vals.getD 0 undef = y0 := by
  have := congrArg (fun l : List Value => l.head?) e0
  simpa using this
 obtain ⟨ad, len, cap, hy, l1, l2, l3, l4⟩ := Excl.of_own hown
 rcases l4 with ⟨_, hnl, _⟩ | ⟨b, o, cs, T, rfl, _, hb, hh, hfit, hrow⟩
 ·simp at hnl
 have hlx : len = xs.length := by simpa using l1
 subst hlx
 have hvals : vals = #[.slice (some ⟨b, o, none⟩) xs.toArray.size cap, .int .i64 i, .int .i64 j] := by
  apply Array.ext'
  have hsz : vals.toList.length = 3 := by simpa using hlen
  match hv : vals.toList, hsz with
  | [a0, a1, a2], _ =>
   have g0 : vals[0]? = some a0 := by rw [← Array.getElem?_toList, hv]; rfl
   have g1 : vals[1]? = some a1 := by rw [← Array.getElem?_toList, hv]; rfl
   have g2 : vals[2]? = some a2 := by rw [← Array.getElem?_toList, hv]; rfl
   rw [g1] at e1; obtain rfl := Option.some.inj e1
   rw [g2] at e2; obtain rfl := Option.some.inj e2
   rw [Array.getD_eq_getD_getElem?, g0] at e0'
   simp only [Option.getD_some] at e0'
   rw [e0', hy]; simp
 subst hvals
 have hH := holds_of hh hrow
 refine (AnyE.slices_Delete Tryz.laysDel (Value.int .i64) (fun _ => rfl) 0 (fun w => by kernel_rfl) ((Tryz.prog.info? 3).get (by kernel_rfl)) (by kernel_rfl) (by kernel_rfl) b o cap i j xs.toArray w hH (by simpa using l2) (by simpa [maxLen] using l3) hij (by simpa using hj)).mono fun e w' h => ?_
 obtain ⟨rfl, q, rfl⟩ := h
 have hl : (xs.take i ++ xs.drop j).length = xs.toArray.size - (j - i) := by simp; omega
 have := put_mov (S := S) (q := q) (ys := xs.take i ++ xs.drop j) (zs := List.replicate (j - i) 0) (hS1 b hb) (fun c hc => (hS c hc).1) hh (by simpa using hfit) hH (by simp; omega) (by simpa using l2) l3
 obtain ⟨S', k1, k2, k3⟩ := this
 refine ⟨_, S', rfl, k1, k2, ?_⟩
 rw [hl] at k3
 exact k3
end Go.Proofs.YtompijgfpeibnaaGreatDoor.Ax
namespace Go.Proofs
open Go.Shelf
def Tryz.laysDelF_ren : Go.Shelf.Ren := ⟨fun | 10 => 216 | 6 => 242 | n => n, fun | 22 => 27 | 23 => 3 | 25 => 101 | 3 => 3 | 4 => 4 | 0 => 0 | n => n, fun | n => n⟩
theorem Tryz.laysDelF : Go.Proofs.SlLaysH.n10 Tryz.prog Tryz.laysDelF_ren := {
 mixed := by kernel_rfl
 f6 := ⟨Tryz.f242.name, by decide, Tryz.func242.trans (congrArg some (by kernel_rfl))⟩
 f10 := ⟨Tryz.f216.name, by decide, Tryz.func216.trans (congrArg some (by kernel_rfl))⟩
 t0 := Tryz.underlying0
 a0 := Tryz.isAgg0
 z0 := Tryz.sizeOf0
 v0 := Tryz.zeroValue0
 t3 := Tryz.underlying3
 a3 := Tryz.isAgg3
 z3 := Tryz.sizeOf3
 v3 := Tryz.zeroValue3
 t4 := Tryz.underlying4
 a4 := Tryz.isAgg4
 z4 := Tryz.sizeOf4
 v4 := Tryz.zeroValue4
 t22 := Tryz.underlying27
 a22 := Tryz.isAgg27
 z22 := Tryz.sizeOf27
 v22 := Tryz.zeroValue27
 a23 := Tryz.isAgg3
 z23 := Tryz.sizeOf3
 t25 := Tryz.underlying101
 a25 := Tryz.isAgg101
 z25 := Tryz.sizeOf101
 v25 := Tryz.zeroValue101 }
end Go.Proofs
namespace Go.Proofs.YtompijgfpeibnaaGreatDoor.Ax
open Go Go.RowKit Go.Sort
set_option linter.unusedSimpArgs false
def SaysOf (g : FuncId) (caps : List AV) (p : Int → Bool) : Prop :=
 ∀ (w : World) (F : Nat → Prop) (cv : Array Value) (x : Int), (∀ b, F b → b < w.heap.size) → RepL w F caps cv.toList → FnGives Tryz.prog g cv #[.int .i64 x] (.bool (p x)) w
theorem delF_ok {g : FuncId} {caps : List AV} (p : Int → Bool) (eg : ∀ args w, (callFunc g args).run Tryz.prog w = .ok (.enter g args) w) (hg : SaysOf g caps p) (xs : List Int) :
  MovOk Tryz.prog 216 [ints false xs, .fn g caps] [0] (ints false (xs.filter fun x => !p x)) := by
 refine ⟨⟨_, Tryz.func216, by kernel_rfl, by kernel_rfl⟩, fun w F S vals hF hS hlen hargs hown => ?_⟩
 have h1 := hargs 1 _ (by simp) rfl
 obtain ⟨y1, e1, h1⟩ := h1
 simp only [Rep] at h1
 obtain ⟨cv, rfl, hcv⟩ := h1
 simp only [List.map_cons, List.map_nil, OwnL, List.getD_cons_zero] at hown
 obtain ⟨y0, ys0, S1, S2, e0, hS1, _, _, hown, _⟩ := hown
 have e0' : vals.getD 0 undef = y0 := by
  have := congrArg (fun l : List Value => l.head?) e0
  simpa using this
 obtain ⟨ad, len, cap, hy, l1, l2, l3, l4⟩ := Excl.of_own hown
 rcases l4 with ⟨_, hnl, _⟩ | ⟨b, o, cs, T, rfl, _, hb, hh, hfit, hrow⟩
 ·simp at hnl
 have hlx : len = xs.length := by simpa using l1
 subst hlx
 have hvals : vals = #[.slice (some ⟨b, o, none⟩) xs.toArray.size cap, .func (.func g) #[] cv] := by
  apply Array.ext'
  have hsz : vals.toList.length = 2 := by simpa using hlen
  match hv : vals.toList, hsz with
  | [a0, a1], _ =>
   have g0 : vals[0]? = some a0 := by rw [← Array.getElem?_toList, hv]; rfl
   have g1 : vals[1]? = some a1 := by rw [← Array.getElem?_toList, hv]; rfl
   rw [g1] at e1; obtain rfl := Option.some.inj e1
   rw [Array.getD_eq_getD_getElem?, g0] at e0'
   simp only [Option.getD_some] at e0'
   rw [e0', hy]; simp
 subst hvals
 have hH := holds_of hh hrow
 have hSb := hS b (hS1 b hb)
 have hFl := hF.1
 have hp : PredAt Tryz.prog g cv (Value.int .i64) p w := fun W x hbl =>
  hg W F cv x (fun c hc => Nat.lt_of_lt_of_le (hFl c hc) hbl.size) (RepL.agree (fun _ h => h) (fun c hc => hbl.block c (hFl c hc)) _ _ hcv)
 have hpo : PredOver Tryz.prog g cv (Value.int .i64) p b o xs.toArray.size w := fun n os dk x _ =>
  hg _ F cv x (fun c hc => by
    have := hFl c hc
    have e : (putRow (Value.int .i64) (Sort.ahead w n) b o dk).heap.size = w.heap.size := by rw [size_putRow]; rfl
    show c < ((putRow (Value.int .i64) (Sort.ahead w n) b o dk).heap ++ os).size
    rw [Array.size_append]; omega)
   (RepL.agree (fun _ h => h) (fun c hc => by
    have e : (putRow (Value.int .i64) (Sort.ahead w n) b o dk).heap.size = w.heap.size := by rw [size_putRow]; rfl
    have hcb : c ≠ b := fun e => hSb.2 (e ▸ hc)
    rw [show (sortWorld (Value.int .i64) w b o n dk os).heap[c]? = (putRow (Value.int .i64) (Sort.ahead w n) b o dk).heap[c]? from heap_grow_old _ os (by rw [e]; exact hFl c hc)]
    exact putRow_heap hcb) _ _ hcv)
 refine (AnyE.slices_DeleteFunc Tryz.laysDelF (Value.int .i64) (fun _ => rfl) p g cv eg 0 (fun w => by kernel_rfl) b o cap xs.toArray w hp hpo hH (by have := Nat.le_trans l2 l3; simpa [maxLen] using this) (by simpa using l2)).mono fun e w' h => ?_
 obtain ⟨rfl, q, rfl⟩ := h
 have hl : (xs.filter fun x => !p x).length ≤ xs.length := List.length_filter_le _ _
 have := put_mov (S := S) (q := q) (ys := xs.filter fun x => !p x) (zs := List.replicate (xs.toArray.size - (xs.filter fun x => !p x).length) 0) (hS1 b hb) (fun c hc => (hS c hc).1) hh (by simpa using hfit) hH (by simp; omega) (by simpa using l2) l3
 obtain ⟨S', k1, k2, k3⟩ := this
 exact ⟨_, S', rfl, k1, k2, k3⟩
end Go.Proofs.YtompijgfpeibnaaGreatDoor.Ax
