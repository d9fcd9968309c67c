/-
  Contracts: a short list of ints is sorted by a function, stably (slices.SortStableFunc). No condition.
-/
import Derived.Test.YtlkgppincgpfjaaCB1
import Derived.Test.YtlkgppincgpfjaaCK4
import Derived.Ground.SlgnProg
import Derived.Shelf.SlicesE.Delete
import Derived.Ground.SlgfProg
import Derived.Shelf.SlicesE.DeleteFunc
import Derived.Test.YtlkgppincgpfjaaCB2
import Derived.Shelf.Bits.Mul64
namespace Go.Proofs.Ytlkgppincgpfjaa.Ax
open Go Go.RowKit
set_option linter.unusedSimpArgs false

theorem Pure.killN {caps : List AV} (hc : Pure caps) (k : Nat) : killNL k caps = caps := killNL_id' k caps (by rw [hc.refs]; simp)

/-- x steps to the left of the first k numbers as long as it is less than the next one there. -/
def insFrom (c : Int → Int → Int) (ys : List Int) (x : Int) : Nat → List Int
  | 0 => x :: ys
  | k + 1 => if c x (ys.getD k 0) < 0 then insFrom c ys x k else ys.take (k + 1) ++ x :: ys.drop (k + 1)
def ins (c : Int → Int → Int) (ys : List Int) (x : Int) : List Int := insFrom c ys x ys.length
def isort (c : Int → Int → Int) (xs : List Int) : List Int := xs.foldl (ins c) []
theorem insFrom_len {c : Int → Int → Int} {ys : List Int} {x : Int} : ∀ {k : Nat}, (insFrom c ys x k).length = ys.length + 1
  | 0 => rfl
  | k + 1 => by
    unfold insFrom
    split
    · exact insFrom_len
    · simp; omega
theorem mem_insFrom {c : Int → Int → Int} {ys : List Int} {x y : Int} : ∀ {k : Nat}, y ∈ insFrom c ys x k ↔ y = x ∨ y ∈ ys
  | 0 => by simp [insFrom]
  | k + 1 => by
    unfold insFrom
    split
    · exact mem_insFrom
    · rw [List.mem_append, List.mem_cons]
      conv => rhs; rw [← List.take_append_drop (k + 1) ys, List.mem_append]
      constructor
      · rintro (h | h | h)
        · exact .inr (.inl h)
        · exact .inl h
        · exact .inr (.inr h)
      · rintro (h | h | h)
        · exact .inr (.inl h)
        · exact .inl h
        · exact .inr (.inr h)
theorem isort_snoc {c : Int → Int → Int} {xs : List Int} {x : Int} : isort c (xs ++ [x]) = ins c (isort c xs) x := by simp [isort, List.foldl_append]
theorem isort_len {c : Int → Int → Int} (xs : List Int) : (isort c xs).length = xs.length := by
  unfold isort
  suffices h : ∀ (xs ys : List Int), (xs.foldl (ins c) ys).length = ys.length + xs.length by simpa using h xs []
  intro xs
  induction xs with
  | nil => intro ys; simp
  | cons x xs ih => intro ys; simp only [List.foldl_cons]; rw [ih]; simp [ins, insFrom_len]; omega
theorem isort_mem {c : Int → Int → Int} {xs : List Int} {y : Int} : y ∈ isort c xs ↔ y ∈ xs := by
  unfold isort
  suffices h : ∀ (xs ys : List Int), y ∈ xs.foldl (ins c) ys ↔ y ∈ ys ∨ y ∈ xs by simpa using h xs []
  intro xs
  induction xs with
  | nil => intro ys; simp
  | cons x xs ih =>
    intro ys
    simp only [List.foldl_cons]
    rw [ih]
    simp only [ins, mem_insFrom, List.mem_cons]
    constructor
    · rintro ((h | h) | h)
      · exact .inr (.inl h)
      · exact .inl h
      · exact .inr (.inr h)
    · rintro (h | h | h)
      · exact .inl (.inr h)
      · exact .inl (.inl h)
      · exact .inr h

/-- x stands behind the first j numbers of what is sorted already. -/
def midd (ys : List Int) (x : Int) (j : Nat) (rest : List Int) : List Int := ys.take j ++ x :: (ys.drop j ++ rest)
theorem midd_len {ys rest : List Int} {x : Int} {j : Nat} : (midd ys x j rest).length = ys.length + 1 + rest.length := by simp [midd]; omega
theorem midd_at {ys rest : List Int} {x : Int} {j : Nat} (h : j ≤ ys.length) : (midd ys x j rest)[j]? = some x := by
  unfold midd
  rw [List.getElem?_append_right (by simp; omega)]
  simp [Nat.min_eq_left h]
theorem midd_before {ys rest : List Int} {x : Int} {k : Nat} (h : k + 1 ≤ ys.length) : (midd ys x (k + 1) rest)[k]? = some (ys.getD k 0) := by
  unfold midd
  rw [List.getElem?_append_left (by simp; omega), List.getElem?_take, if_pos (by omega), List.getElem?_eq_getElem (by omega), List.getD_eq_getElem?_getD, List.getElem?_eq_getElem (by omega)]
  rfl
theorem midd_swap {ys rest : List Int} {x : Int} {k : Nat} (h : k + 1 ≤ ys.length) :
    (((midd ys x (k + 1) rest).map int).set (k + 1) (.v (.int .i64 (ys.getD k 0)))).set k (.v (.int .i64 x)) = (midd ys x k rest).map int := by
  have e1 : AV.v (.int .i64 (ys.getD k 0)) = int (ys.getD k 0) := rfl
  have e2 : AV.v (.int .i64 x) = int x := rfl
  rw [e1, e2, ← List.map_set, ← List.map_set]
  congr 1
  obtain ⟨az, y, bz, rfl, rfl⟩ : ∃ az y bz, ys = az ++ y :: bz ∧ k = az.length := by
    refine ⟨ys.take k, ys[k], ys.drop (k + 1), ?_, by simp; omega⟩
    rw [List.getElem_cons_drop, List.take_append_drop]
  have t1 : az.take (az.length + 1) = az := List.take_of_length_le (by omega)
  have t2 : az.drop (az.length + 1) = [] := List.drop_of_length_le (by omega)
  simp [midd, List.take_append, List.drop_append, t1, t2]
theorem midd_all {ys : List Int} {x : Int} {rest : List Int} : midd ys x ys.length rest = ys ++ x :: rest := by simp [midd]

/-- The list whose first i numbers are sorted. -/
def srtTo (c : Int → Int → Int) (xs : List Int) (i : Nat) : List Int := isort c (xs.take i) ++ xs.drop i
theorem srtTo_len {c : Int → Int → Int} {xs : List Int} {i : Nat} : (srtTo c xs i).length = xs.length := by
  unfold srtTo
  rw [List.length_append, isort_len, ← List.length_append, List.take_append_drop]
theorem srtTo_one {c : Int → Int → Int} {xs : List Int} : srtTo c xs 1 = xs := by
  cases xs with
  | nil => rfl
  | cons x xs => simp [srtTo, isort, ins, insFrom]
theorem srtTo_all {c : Int → Int → Int} {xs : List Int} {i : Nat} (h : xs.length ≤ i) : srtTo c xs i = isort c xs := by
  simp [srtTo, List.take_of_length_le h, List.drop_of_length_le h]
theorem srtTo_mid {c : Int → Int → Int} {xs : List Int} {i : Nat} (h : i < xs.length) : srtTo c xs i = midd (isort c (xs.take i)) xs[i] (isort c (xs.take i)).length (xs.drop (i + 1)) := by
  rw [midd_all, srtTo, List.getElem_cons_drop]
theorem srtTo_done {c : Int → Int → Int} {xs : List Int} {i j : Nat} (h : i < xs.length) (hi : insFrom c (isort c (xs.take i)) xs[i] j = ins c (isort c (xs.take i)) xs[i])
    (hj : j = 0 ∨ ∃ k, j = k + 1 ∧ ¬ c xs[i] ((isort c (xs.take i)).getD k 0) < 0) : midd (isort c (xs.take i)) xs[i] j (xs.drop (i + 1)) = srtTo c xs (i + 1) := by
  unfold srtTo
  rw [List.take_succ_eq_append_getElem h, isort_snoc, ← hi]
  rcases hj with rfl | ⟨k, rfl, hk⟩
  · simp [midd, insFrom]
  · rw [insFrom, if_neg hk]
    simp [midd]

end Go.Proofs.Ytlkgppincgpfjaa.Ax

/-
  Contracts: slices.Delete over ints: the row is handed over, what is left comes back. No condition.
-/
namespace Go.Proofs
open Go.Shelf
def Try.laysDel_ren : Go.Shelf.Ren := ⟨fun | 45 => 40 | n => n, fun | 22 => 32 | 23 => 3 | 3 => 3 | 4 => 4 | 0 => 0 | n => n, fun | n => n⟩
theorem Try.laysDel : Go.Proofs.SlLaysE.n45 Try.prog Try.laysDel_ren := {
  mixed := by kernel_rfl
  f45 := ⟨Try.f40.name, by decide, Try.func40.trans (congrArg some (by kernel_rfl))⟩
  t0 := Try.underlying0
  a0 := Try.isAgg0
  z0 := Try.sizeOf0
  v0 := Try.zeroValue0
  t3 := Try.underlying3
  a3 := Try.isAgg3
  z3 := Try.sizeOf3
  v3 := Try.zeroValue3
  t4 := Try.underlying4
  a4 := Try.isAgg4
  z4 := Try.sizeOf4
  v4 := Try.zeroValue4
  t22 := Try.underlying32
  a22 := Try.isAgg32
  z22 := Try.sizeOf32
  v22 := Try.zeroValue32
  a23 := Try.isAgg3
  z23 := Try.sizeOf3 }
end Go.Proofs
namespace Go.Proofs.Ytlkgppincgpfjaa.Ax
open Go Go.RowKit Go.Sort
set_option linter.unusedSimpArgs false

theorem frozen_cells {w : World} {b : Nat} {cs : Array Value} {T : TypeId} (h : w.heap[b]? = some (.cells cs T (0, 0))) (o : Nat) : w.frozen? ⟨b, o, none⟩ = false := by
  simp [World.frozen?, h]

theorem ownRow_ints {w : World} {d : Bool} {F S : Nat → Prop} {b : Nat} : ∀ {xs : List Int} {o : Nat}, OwnRow w d F S b 1 o (xs.map int) → ∀ (j : Nat) (x : Int), xs[j]? = some x → w.cell? ⟨b, o + j, none⟩ = some (.int .i64 x)
  | xs, o, h, j, x, hj => by
    obtain ⟨y, h1, h2, _, h4⟩ := OwnRow.get h j (int x) (by rw [List.getElem?_map, hj]; rfl)
    simp only [Own, int] at h1
    obtain ⟨rfl, _⟩ := h1
    have := h4 0 (.int .i64 x) (by rfl)
    simpa using this

theorem ownRow_mk {w : World} {d : Bool} {F S : Nat → Prop} {b : Nat} : ∀ {xs : List Int} {o : Nat}, (∀ (j : Nat) (x : Int), xs[j]? = some x → w.cell? ⟨b, o + j, none⟩ = some (.int .i64 x)) → OwnRow w d F S b 1 o (xs.map int)
  | [], o, h => by simp [OwnRow]
  | x :: xs, o, h => by
    simp only [List.map_cons, OwnRow]
    refine ⟨.int .i64 x, fun _ => False, fun _ => False, fun _ h => h.elim, fun _ h => h.elim, fun _ h => h.elim, by simp [Own, int, Value.oneCell'], rfl, rfl, fun j y hj => ?_, ownRow_mk fun j y hj => ?_⟩
    · cases j with
      | zero => simp [Value.cells] at hj; subst hj; exact h 0 x rfl
      | succ j => simp [Value.cells] at hj
    · have := h (j + 1) y (by simpa using hj)
      rw [show o + (j + 1) = o + 1 + j by omega] at this; exact this

/-- A row of ints of the call's own, as the shelf speaks of it. -/
theorem holds_of {w : World} {F S : Nat → Prop} {b o : Nat} {cs : Array Value} {T : TypeId} {xs : List Int} (hh : w.heap[b]? = some (.cells cs T (0, 0))) (hrow : OwnRow w true F S b 1 o (xs.map int)) : Holds (Value.int .i64) w b o xs.toArray := fun j hj => by
  have hj' : j < xs.length := by simpa using hj
  refine ⟨?_, frozen_cells hh _⟩
  rw [ownRow_ints hrow j xs[j] (List.getElem?_eq_getElem hj')]
  rw [getElem!_pos _ j hj]
  simp

theorem putRow_heap {w : World} {q b o : Nat} {d : Array Int} {k : Nat} (h : k ≠ b) : (putRow (Value.int .i64) (Sort.ahead w q) b o d).heap[k]? = w.heap[k]? := by
  simp only [putRow, mapBlock, Sort.ahead, Array.getElem?_modify]
  rw [if_neg (fun e => h e.symm)]
theorem putRow_own {w : World} {q b o : Nat} {d : Array Int} {cs : Array Value} {T : TypeId} (h : w.heap[b]? = some (.cells cs T (0, 0))) : (putRow (Value.int .i64) (Sort.ahead w q) b o d).heap[b]? = some (.cells (Go.Sort.putCells (Value.int .i64) o d cs) T (0, 0)) := by
  simp only [putRow, mapBlock, Sort.ahead, Array.getElem?_modify, if_true, h, Option.map_some, onCells]

/-- A row of ints that a function of the shelf has put anew: it is the call's own as before. -/
theorem put_mov {w : World} {S : Nat → Prop} {b o cap q : Nat} {cs : Array Value} {T : TypeId} {xs ys zs : List Int} (hSb : S b) (hSl : ∀ b, S b → b < w.heap.size) (hh : w.heap[b]? = some (.cells cs T (0, 0))) (hfit : o + cap * 1 ≤ cs.size) (hH : Holds (Value.int .i64) w b o xs.toArray)
    (hl : ys.length + zs.length = xs.length) (hcap : xs.length ≤ cap) (hcm : cap ≤ maxLen) : ∃ (S' : Nat → Prop), Frm S w (putRow (Value.int .i64) (Sort.ahead w q) b o (ys ++ zs).toArray) ∧ (∀ c, S' c → (S c ∨ w.heap.size ≤ c) ∧ c < (putRow (Value.int .i64) (Sort.ahead w q) b o (ys ++ zs).toArray).heap.size) ∧
      Own (putRow (Value.int .i64) (Sort.ahead w q) b o (ys ++ zs).toArray) true (fun _ => False) S' (.sl false 1 (ys.map int)) (.slice (some ⟨b, o, none⟩) ys.length cap) := by
  have hsz : (putRow (Value.int .i64) (Sort.ahead w q) b o (ys ++ zs).toArray).heap.size = w.heap.size := by rw [size_putRow]; rfl
  have hH' : Holds (Value.int .i64) (Sort.ahead w q) b o xs.toArray := holds_ahead _ w q b o _ hH
  have hH2 := holds_putRow (Value.int .i64) (Sort.ahead w q) b o xs.toArray (ys ++ zs).toArray hH' (by simp; omega)
  refine ⟨S, ⟨rfl, rfl, rfl, by rw [hsz]; exact Nat.le_refl _, fun k _ hk => putRow_heap fun e => hk (e ▸ hSb)⟩, fun c hc => ⟨.inl hc, by rw [hsz]; exact hSl c hc⟩, ?_⟩
  refine Excl.own (S := S) ⟨_, _, cap, rfl, by simp, by omega, hcm, .inr ⟨b, o, _, T, rfl, rfl, hSb, putRow_own hh, by simp only [Go.Sort.putCells, Array.size_mapIdx]; exact hfit, ownRow_mk fun j x hj => ?_⟩⟩
  have hjl := (List.getElem?_eq_some_iff.1 hj).1
  have := (hH2 j (by simp; omega)).1
  rw [this, getElem!_pos _ j (by simp; omega)]
  simp only [List.getElem_toArray]
  rw [List.getElem_append_left hjl]
  rw [(List.getElem?_eq_some_iff.1 hj).2]

noncomputable def mDel : List AV → Option (List Nat × AV) := mkV (fun p => p.2.1 ≤ p.2.2 ∧ p.2.2 ≤ p.1.length) (fun (p : List Int × Nat × Nat) => [ints false p.1, int p.2.1, int p.2.2]) [0] (fun p => ints false (p.1.take p.2.1 ++ p.1.drop p.2.2))
theorem mDel_at (xs : List Int) (i j : Nat) (h : i ≤ j ∧ j ≤ xs.length) : mDel [.sl false 1 (xs.map int), .v (.int .i64 i), .v (.int .i64 j)] = some ([0], .sl false 1 ((xs.take i ++ xs.drop j).map int)) :=
  mkV_eq (enc := fun (p : List Int × Nat × Nat) => [ints false p.1, int p.2.1, int p.2.2]) (x := (xs, i, j)) (by rintro ⟨a, b, c⟩ ⟨d, e, f⟩ h; simp [ints, int, map_int_inj] at h; obtain ⟨rfl, h1, h2⟩ := h; simp only; rw [show b = e by omega, show c = f by omega]) h

set_option maxHeartbeats 1000000 in
theorem delete_ok : FnMov Try.prog 40 mDel := by
  refine mkV_ok fun ⟨xs, i, j⟩ ⟨hij, hj⟩ => ?_
  simp only at hij hj
  refine ⟨⟨_, Try.func40, by kernel_rfl, by kernel_rfl⟩, fun w F S vals hF hS hlen hargs hown => ?_⟩
  have h1 := hargs 1 _ (by simp) rfl
  have h2 := hargs 2 _ (by simp) rfl
  obtain ⟨y1, e1, h1⟩ := h1
  obtain ⟨y2, e2, h2⟩ := h2
  simp only [Rep, int] at h1 h2
  obtain ⟨rfl, _⟩ := h1
  obtain ⟨rfl, _⟩ := h2
  simp only [List.map_cons, List.map_nil, OwnL, List.getD_cons_zero] at hown
  obtain ⟨y0, ys0, S1, S2, e0, hS1, _, _, hown, _⟩ := hown
  have e0' : vals.getD 0 undef = y0 := by
    have := congrArg (fun l : List Value => l.head?) e0
    simpa using this
  obtain ⟨ad, len, cap, hy, l1, l2, l3, l4⟩ := Excl.of_own hown
  rcases l4 with ⟨_, hnl, _⟩ | ⟨b, o, cs, T, rfl, _, hb, hh, hfit, hrow⟩
  · simp at hnl
  have hlx : len = xs.length := by simpa using l1
  subst hlx
  have hvals : vals = #[.slice (some ⟨b, o, none⟩) xs.toArray.size cap, .int .i64 i, .int .i64 j] := by
    apply Array.ext'
    have hsz : vals.toList.length = 3 := by simpa using hlen
    match hv : vals.toList, hsz with
    | [a0, a1, a2], _ =>
      have g0 : vals[0]? = some a0 := by rw [← Array.getElem?_toList, hv]; rfl
      have g1 : vals[1]? = some a1 := by rw [← Array.getElem?_toList, hv]; rfl
      have g2 : vals[2]? = some a2 := by rw [← Array.getElem?_toList, hv]; rfl
      rw [g1] at e1; obtain rfl := Option.some.inj e1
      rw [g2] at e2; obtain rfl := Option.some.inj e2
      rw [Array.getD_eq_getD_getElem?, g0] at e0'
      simp only [Option.getD_some] at e0'
      rw [e0', hy]; simp
  subst hvals
  have hH := holds_of hh hrow
  refine (AnyE.slices_Delete Try.laysDel (Value.int .i64) (fun _ => rfl) 0 (fun w => by kernel_rfl) ((Try.prog.info? 3).get (by kernel_rfl)) (by kernel_rfl) (by kernel_rfl) b o cap i j xs.toArray w hH (by simpa using l2) (by simpa [maxLen] using l3) hij (by simpa using hj)).mono fun e w' h => ?_
  obtain ⟨rfl, q, rfl⟩ := h
  have hl : (xs.take i ++ xs.drop j).length = xs.toArray.size - (j - i) := by simp; omega
  have := put_mov (S := S) (q := q) (ys := xs.take i ++ xs.drop j) (zs := List.replicate (j - i) 0) (hS1 b hb) (fun c hc => (hS c hc).1) hh (by simpa using hfit) hH (by simp; omega) (by simpa using l2) l3
  obtain ⟨S', k1, k2, k3⟩ := this
  refine ⟨_, S', rfl, k1, k2, ?_⟩
  rw [hl] at k3
  exact k3

end Go.Proofs.Ytlkgppincgpfjaa.Ax

/-
  Contracts: slices.DeleteFunc over ints: the row is handed over, what is kept comes back. No condition.
-/
namespace Go.Proofs
open Go.Shelf
def Try.laysDelF_ren : Go.Shelf.Ren := ⟨fun | 10 => 57 | 6 => 37 | n => n, fun | 22 => 32 | 23 => 3 | 25 => 55 | 3 => 3 | 4 => 4 | 0 => 0 | n => n, fun | n => n⟩
theorem Try.laysDelF : Go.Proofs.SlLaysH.n10 Try.prog Try.laysDelF_ren := {
  mixed := by kernel_rfl
  f6 := ⟨Try.f37.name, by decide, Try.func37.trans (congrArg some (by kernel_rfl))⟩
  f10 := ⟨Try.f57.name, by decide, Try.func57.trans (congrArg some (by kernel_rfl))⟩
  t0 := Try.underlying0
  a0 := Try.isAgg0
  z0 := Try.sizeOf0
  v0 := Try.zeroValue0
  t3 := Try.underlying3
  a3 := Try.isAgg3
  z3 := Try.sizeOf3
  v3 := Try.zeroValue3
  t4 := Try.underlying4
  a4 := Try.isAgg4
  z4 := Try.sizeOf4
  v4 := Try.zeroValue4
  t22 := Try.underlying32
  a22 := Try.isAgg32
  z22 := Try.sizeOf32
  v22 := Try.zeroValue32
  a23 := Try.isAgg3
  z23 := Try.sizeOf3
  t25 := Try.underlying55
  a25 := Try.isAgg55
  z25 := Try.sizeOf55
  v25 := Try.zeroValue55 }
end Go.Proofs
namespace Go.Proofs.Ytlkgppincgpfjaa.Ax
open Go Go.RowKit Go.Sort
set_option linter.unusedSimpArgs false

/-- What a closure is asked: it says p x wherever its captured values read so. -/
def SaysOf (g : FuncId) (caps : List AV) (p : Int → Bool) : Prop :=
  ∀ (w : World) (F : Nat → Prop) (cv : Array Value) (x : Int), (∀ b, F b → b < w.heap.size) → RepL w F caps cv.toList → FnGives Try.prog g cv #[.int .i64 x] (.bool (p x)) w

theorem delF_ok {g : FuncId} {caps : List AV} (p : Int → Bool) (eg : ∀ args w, (callFunc g args).run Try.prog w = .ok (.enter g args) w) (hg : SaysOf g caps p) (xs : List Int) :
    MovOk Try.prog 57 [ints false xs, .fn g caps] [0] (ints false (xs.filter fun x => !p x)) := by
  refine ⟨⟨_, Try.func57, by kernel_rfl, by kernel_rfl⟩, fun w F S vals hF hS hlen hargs hown => ?_⟩
  have h1 := hargs 1 _ (by simp) rfl
  obtain ⟨y1, e1, h1⟩ := h1
  simp only [Rep] at h1
  obtain ⟨cv, rfl, hcv⟩ := h1
  simp only [List.map_cons, List.map_nil, OwnL, List.getD_cons_zero] at hown
  obtain ⟨y0, ys0, S1, S2, e0, hS1, _, _, hown, _⟩ := hown
  have e0' : vals.getD 0 undef = y0 := by
    have := congrArg (fun l : List Value => l.head?) e0
    simpa using this
  obtain ⟨ad, len, cap, hy, l1, l2, l3, l4⟩ := Excl.of_own hown
  rcases l4 with ⟨_, hnl, _⟩ | ⟨b, o, cs, T, rfl, _, hb, hh, hfit, hrow⟩
  · simp at hnl
  have hlx : len = xs.length := by simpa using l1
  subst hlx
  have hvals : vals = #[.slice (some ⟨b, o, none⟩) xs.toArray.size cap, .func (.func g) #[] cv] := by
    apply Array.ext'
    have hsz : vals.toList.length = 2 := by simpa using hlen
    match hv : vals.toList, hsz with
    | [a0, a1], _ =>
      have g0 : vals[0]? = some a0 := by rw [← Array.getElem?_toList, hv]; rfl
      have g1 : vals[1]? = some a1 := by rw [← Array.getElem?_toList, hv]; rfl
      rw [g1] at e1; obtain rfl := Option.some.inj e1
      rw [Array.getD_eq_getD_getElem?, g0] at e0'
      simp only [Option.getD_some] at e0'
      rw [e0', hy]; simp
  subst hvals
  have hH := holds_of hh hrow
  have hSb := hS b (hS1 b hb)
  have hFl := hF.1
  have hp : PredAt Try.prog g cv (Value.int .i64) p w := fun W x hbl =>
    hg W F cv x (fun c hc => Nat.lt_of_lt_of_le (hFl c hc) hbl.size) (RepL.agree (fun _ h => h) (fun c hc => hbl.block c (hFl c hc)) _ _ hcv)
  have hpo : PredOver Try.prog g cv (Value.int .i64) p b o xs.toArray.size w := fun n os dk x _ =>
    hg _ F cv x (fun c hc => by
        have := hFl c hc
        have e : (putRow (Value.int .i64) (Sort.ahead w n) b o dk).heap.size = w.heap.size := by rw [size_putRow]; rfl
        show c < ((putRow (Value.int .i64) (Sort.ahead w n) b o dk).heap ++ os).size
        rw [Array.size_append]; omega)
      (RepL.agree (fun _ h => h) (fun c hc => by
        have e : (putRow (Value.int .i64) (Sort.ahead w n) b o dk).heap.size = w.heap.size := by rw [size_putRow]; rfl
        have hcb : c ≠ b := fun e => hSb.2 (e ▸ hc)
        rw [show (sortWorld (Value.int .i64) w b o n dk os).heap[c]? = (putRow (Value.int .i64) (Sort.ahead w n) b o dk).heap[c]? from heap_grow_old _ os (by rw [e]; exact hFl c hc)]
        exact putRow_heap hcb) _ _ hcv)
  refine (AnyE.slices_DeleteFunc Try.laysDelF (Value.int .i64) (fun _ => rfl) p g cv eg 0 (fun w => by kernel_rfl) b o cap xs.toArray w hp hpo hH (by have := Nat.le_trans l2 l3; simpa [maxLen] using this) (by simpa using l2)).mono fun e w' h => ?_
  obtain ⟨rfl, q, rfl⟩ := h
  have hl : (xs.filter fun x => !p x).length ≤ xs.length := List.length_filter_le _ _
  have := put_mov (S := S) (q := q) (ys := xs.filter fun x => !p x) (zs := List.replicate (xs.toArray.size - (xs.filter fun x => !p x).length) 0) (hS1 b hb) (fun c hc => (hS c hc).1) hh (by simpa using hfit) hH (by simp; omega) (by simpa using l2) l3
  obtain ⟨S', k1, k2, k3⟩ := this
  exact ⟨_, S', rfl, k1, k2, k3⟩

end Go.Proofs.Ytlkgppincgpfjaa.Ax

/-
  Contracts: SharesOk (both programs). No condition.
-/
namespace Go.Proofs.Ytlkgppincgpfjaa.Ax
open Go Go.RowKit
set_option linter.unusedSimpArgs false

theorem points_facts {xss : List (Bool × List Int)} (h : pointsB xss = true) : xss.length = 2 ∧ rectB xss 2 6 100 = true := by
  by_cases hl : xss.length = 2
  · refine ⟨hl, ?_⟩
    rw [pointsB_rect hl] at h
    simp only [Bool.and_eq_true] at h
    exact h.1
  · rw [pointsB_ne hl] at h; simp at h

/-- A valid fraction from 0 to 1. -/
def partB (f : Int × Int) : Bool := fracOk f && inR 0 f.2 f.1
noncomputable def mPart : List AV → Option AV := mk (fun _ => True) (fun (p : (Int) × (Int)) => [frac (p.1, p.2)]) (fun p => bool (partB (p.1, p.2)))
theorem mPart_at (t : Int) (b : Int) : mPart [.agg [.v (.int .i64 t), .v (.int .i64 b)]] = some (.v (.bool (partB (t, b)))) :=
  mk_eq (enc := fun (p : (Int) × (Int)) => [frac (p.1, p.2)]) (x := (t, b)) (by rintro ⟨a0, a1⟩ ⟨b0, b1⟩ h; simp [ints, intss, int, bool, row, frac, fracs, map_int_inj, map_row_inj, frac_inj, map_frac_inj] at h; simp [h]) trivial

set_option maxHeartbeats 1000000 in
theorem isPart_ok : FnOk Try.prog 78 mPart := by
  refine mk_ok fun ⟨t, b⟩ _ => ?_
  have hG : FnsOk Try.prog [(54, mFracOk), (50, mWithin)] := (.cons implFractionOk_ok (.cons within_ok .nil))
  refine callOk_awp (ctx_ok eqOk hG) mixed (live := [true, true, true]) (dt := []) Try.func78 rfl (by kernel_rfl) (by kernel_rfl) fun w0 hlens => ?_
  simp (config := {contextual := true}) [Try.f78, List.range, List.range.loop, ints, intss, int, bool, row, frac, fracs, ← List.map_take, ← List.map_drop, mFracOk_at, mWithin_in, partB]

def sharesB (xss : List (Bool × List Int)) (fs : List (Int × Int)) : Bool := pointsB xss && decide (fs.length = wid xss) && fs.all partB

noncomputable def mShares : List AV → Option AV := mk (fun _ => True) (fun (p : (Bool) × (List (Bool × List Int)) × (Bool) × (List (Int × Int))) => [intss p.1 p.2.1, fracs p.2.2.1 p.2.2.2]) (fun p => bool (sharesB p.2.1 p.2.2.2))
theorem mShares_at (nl : Bool) (xss : List (Bool × List Int)) (nl' : Bool) (fs : List (Int × Int)) : mShares [.sl nl 1 (xss.map row), .sl nl' 2 (fs.map frac)] = some (.v (.bool (sharesB xss fs))) :=
  mk_eq (enc := fun (p : (Bool) × (List (Bool × List Int)) × (Bool) × (List (Int × Int))) => [intss p.1 p.2.1, fracs p.2.2.1 p.2.2.2]) (x := (nl, xss, nl', fs)) (by rintro ⟨a0, a1, a2, a3⟩ ⟨b0, b1, b2, b3⟩ h; simp [ints, intss, int, bool, row, frac, fracs, map_int_inj, map_row_inj, frac_inj, map_frac_inj] at h; simp [h]) trivial

theorem all_allF {fs : List (Int × Int)} {p : Int × Int → Bool} : fs.all p = allR fs.length fun i => p (fs.getD i (0, 0)) := by
  unfold allR
  rw [Bool.eq_iff_iff]; simp only [List.all_eq_true, List.mem_range]
  constructor
  · intro h i hi
    have : fs.getD i (0, 0) = fs[i] := by simp [List.getD_eq_getElem?_getD, hi]
    rw [this]; exact h _ (List.getElem_mem _)
  · intro h x hx
    obtain ⟨i, hi, rfl⟩ := List.getElem_of_mem hx
    have := h i hi
    have e : fs.getD i (0, 0) = fs[i] := by simp [List.getD_eq_getElem?_getD, hi]
    rwa [e] at this

end Go.Proofs.Ytlkgppincgpfjaa.Ax

/-
  Contracts: math/bits.Mul, slices.Repeat of ints. No condition.
-/
namespace Go.Proofs.Ytlkgppincgpfjaa.Ax
open Go Go.RowKit
set_option linter.unusedSimpArgs false

noncomputable def mMul64 : List AV → Option AV := mk (fun p => p.1 < 18446744073709551616 ∧ p.2 < 18446744073709551616) (fun (p : Nat × Nat) => [.v (.int .u64 (p.1 : Int)), .v (.int .u64 (p.2 : Int))])
  (fun p => .tup [.v (.int .u64 ((p.1 * p.2 / 18446744073709551616 : Nat) : Int)), .v (.int .u64 ((p.1 * p.2 % 18446744073709551616 : Nat) : Int))])
theorem mMul64_at (x y : Nat) (h : x < 18446744073709551616 ∧ y < 18446744073709551616) : mMul64 [.v (.int .u64 (x : Int)), .v (.int .u64 (y : Int))] = some (.tup [.v (.int .u64 ((x * y / 18446744073709551616 : Nat) : Int)), .v (.int .u64 ((x * y % 18446744073709551616 : Nat) : Int))]) :=
  mk_eq (enc := fun (p : Nat × Nat) => [.v (.int .u64 (p.1 : Int)), .v (.int .u64 (p.2 : Int))]) (x := (x, y)) (by rintro ⟨a, b⟩ ⟨c, d⟩ h; simp at h; simp [h]) h

noncomputable def mMul : List AV → Option AV := mMul64
theorem mMul_at (x y : Nat) (h : x < 18446744073709551616 ∧ y < 18446744073709551616) : mMul [.v (.int .u64 (x : Int)), .v (.int .u64 (y : Int))] = some (.tup [.v (.int .u64 ((x * y / 18446744073709551616 : Nat) : Int)), .v (.int .u64 ((x * y % 18446744073709551616 : Nat) : Int))]) := mMul64_at x y h

/-- x so far, zeros behind. -/
def repTo (x : Int) (n m : Nat) : List AV := List.replicate m (int x) ++ List.replicate (n - m) (int 0)
theorem repTo_len {x : Int} {n m : Nat} (h : m ≤ n) : (repTo x n m).length = n := by simp [repTo]; omega
theorem repTo_scal {x : Int} {n m : Nat} : allS (repTo x n m) = true := by
  rw [allS, List.all_eq_true]
  intro e he
  simp only [repTo, List.mem_append, List.mem_replicate] at he
  rcases he with ⟨_, rfl⟩ | ⟨_, rfl⟩ <;> rfl
theorem repTo_step {x : Int} {n m k : Nat} (_h : m + k ≤ n) (hk : k ≤ m) : (repTo x n m).take m ++ (viewEs (repTo x n m) 0 m).take k ++ (repTo x n m).drop (m + k) = repTo x n (m + k) := by
  have e1 : (repTo x n m).take m = List.replicate m (int x) := by simp [repTo]
  have e2 : viewEs (repTo x n m) 0 m = List.replicate m (int x) := by simp [viewEs, e1]
  have e3 : (repTo x n m).drop (m + k) = List.replicate (n - (m + k)) (int 0) := by
    simp [repTo, List.drop_append]; omega
  rw [e1, e2, e3, List.take_replicate, Nat.min_eq_left hk]
  simp [repTo, List.replicate_append_replicate]

theorem rep1 {a : AV} {n : Nat} : List.replicate (min 1 n) a = List.take (min 1 n) [a] := by
  rcases Nat.eq_zero_or_pos n with rfl | h
  · simp
  · rw [Nat.min_eq_left h]; simp

noncomputable def mRepeatI : List AV → Option AV := mk (fun p => p.2.2 ≤ 1000) (fun (p : Bool × Int × Nat) => [ints p.1 [p.2.1], int (p.2.2 : Int)]) (fun p => ints false (List.replicate p.2.2 p.2.1))
theorem mRepeatI_at (nl : Bool) (x : Int) (n : Nat) (h : n ≤ 1000) : mRepeatI [.sl nl 1 [.v (.int .i64 x)], .v (.int .i64 (n : Int))] = some (.sl false 1 ((List.replicate n x).map int)) :=
  mk_eq (enc := fun (p : Bool × Int × Nat) => [ints p.1 [p.2.1], int (p.2.2 : Int)]) (x := (nl, x, n)) (by rintro ⟨a, b, c⟩ ⟨d, e, f⟩ h; simp [ints, int] at h; obtain ⟨⟨rfl, rfl⟩, h⟩ := h; exact (by omega : c = f) ▸ rfl) h

end Go.Proofs.Ytlkgppincgpfjaa.Ax
