/-
  Contracts: the reference's draws of a ranking and of a profile. No condition.
-/
import Derived.Test.YtkfmhpgnhkdebaaGreatDoorCG9
import Derived.Test.YtkfmhpgnhkdebaaGreatDoorCK4
import Derived.Test.YtkfmhpgnhkdebaaGreatDoorCG7
import Derived.Shelf.Lay
import Derived.Ground.SlgnProg
import Derived.Shelf.SlicesE.Delete
import Derived.Ground.SlgfProg
import Derived.Shelf.SlicesE.DeleteFunc
namespace Go.Proofs.YtkfmhpgnhkdebaaGreatDoor.Ax
open Go Go.RowKit
set_option linter.unusedSimpArgs false
theorem idx_snoc {m : Nat} : (idx m).map int ++ [int (m : Int)] = (idx (m + 1)).map int := by simp [idx, List.range_succ]
set_option maxRecDepth 8000 in
set_option maxHeartbeats 2000000 in
theorem l03Draw_cur {nl : Bool} {by' : List Int} {s : Int × Int} (hs : CrOk by' s) {m : Nat} (h1 : 1 ≤ m) (h5 : m ≤ 5) : CurOk Tryz.prog 71 (byts nl by') 179 [int m] s (crN by' s (m - 1)) (.sl false 1 ((rkD by' s m (m - 1)).map int)) := by
  have hcur := fun (n k : Nat) (h0 : 0 < n) (hm : n ≤ 256) => l01Below_cur (nl := nl) (crN_ok hs k) h0 hm
  have hG : FnsOk Tryz.prog [] := .nil
  refine curOk_of_ty (dt := []) (ctx_ok eqOk hG) Tryz.func71 rfl (by kernel_rfl) (by kernel_rfl) fun w F0 code b hbytes hF0 hbF => ?_
  refine ty_seq (ty_awp (ctx_ok eqOk hG) mixed curJ_stable (live := [true, true, false, false, true, true, true, true, true, true, false, false, false, true, false, false, false, false, false, false, false, false, false, true]) fun X A w1 => ?_)
  simp [Tryz.f71, List.range, List.range.loop, ints, intss, int, bool, row, frac, fracs, ← List.map_take, ← List.map_drop, thenY_normal]
  refine ty_seq (ty_awp (ctx_ok eqOk hG) mixed curJ_stable (live := [true, true, false, false, true, true, true, true, true, true, false, false, false, true, false, false, false, false, false, false, false, false, false, true]) fun X A w1 => ?_)
  simp [List.range, List.range.loop, ints, intss, int, bool, row, frac, fracs, ← List.map_take, ← List.map_drop, thenY_normal]
  refine ty_seq (ty_seq (ty_awp (ctx_ok eqOk hG) mixed curJ_stable (live := [true, true, false, false, true, true, true, true, true, true, false, false, false, true, false, false, false, false, false, false, false, false, false, true]) fun X A w1 => ?_))
  simp [List.range, List.range.loop, ints, intss, int, bool, row, frac, fracs, ← List.map_take, ← List.map_drop, thenY_normal]
  have z0 : idx 0 = [] := rfl
  refine ty_block (ty_loop (α := {i : Nat // i ≤ m}) (fun i => ⟨[.v (ptrV b), int m, .junk, .junk, .junk, .ref 0 [] 0 i.1, int i.1, .junk, .junk, .junk, .junk, .junk, .junk, .junk, .junk, .junk, .junk, .junk, .junk, .junk, .junk, .junk, .junk, .junk, .junk, .junk, .junk, .junk, .junk, .junk, .junk, .junk, .junk, .junk, .junk, .junk, .junk, .junk, .junk, .junk, .junk, .junk, .junk, .junk, .junk, .junk], [⟨true, .sl false 1 ((idx i.1).map int)⟩]⟩) (fun _ => s) (fun i => m - i.1) ⟨0, Nat.zero_le _⟩ ⟨?_, rfl⟩ ?_)
  · simp [sub, slotsLe, clean, keep, refsL, refs, once, place, renL, ren, List.replicate, int, bool, z0]
  rintro ⟨i, hi⟩
  have hil : (idx i).length = i := idx_len
  by_cases hin : i < m
  · have hini : (i : Int) < m := by omega
    have hbb : i + 1 ≤ 4611686018427387904 ∧ (i + 1) * 8 ≤ 140737488355328 := by omega
    have hst : (idx i).map int ++ [.v (.int .i64 (i : Int))] = (idx (i + 1)).map int := idx_snoc
    have hwk : IntKind.i64.wrap ((i : Int) + 1) = (i : Int) + 1 := wrapI (by omega) (by omega)
    refine ty_awp (ctx_ok eqOk hG) mixed curJ_stable (live := [true, true, false, false, true, true, true, true, true, true, false, false, false, true, false, false, false, false, false, false, false, false, false, true]) fun X A w1 => ?_
    simp [List.range, List.range.loop, ints, intss, int, bool, row, frac, fracs, ← List.map_take, ← List.map_drop, thenY_normal, hin, hini, hil, hbb, hst, hwk]
    exact ⟨⟨i + 1, hin⟩, by simp [sub, slotsLe, clean, keep, refsL, refs, once, place, renL, ren, List.replicate, int, bool], rfl, by simp; omega⟩
  obtain rfl : i = m := by omega
  refine ty_seq (ty_awp (ctx_ok eqOk hG) mixed curJ_stable (live := [true, true, false, false, true, true, true, true, true, true, false, false, false, true, false, false, false, false, false, false, false, false, false, true]) fun X A w1 => ?_)
  simp [List.range, List.range.loop, ints, intss, int, bool, row, frac, fracs, ← List.map_take, ← List.map_drop, thenY_normal, thenY_exit, inBY_exit]
  refine ty_seq (ty_seq (ty_awp (ctx_ok eqOk hG) mixed curJ_stable (live := [true, true, false, false, true, true, true, true, true, true, false, false, false, true, false, false, false, false, false, false, false, false, false, true]) fun X A w1 => ?_))
  have w1 : IntKind.i64.wrap ((i : Int) - 1) = (i : Int) - 1 := wrapI (by omega) (by omega)
  have z1 : rkD by' s i 0 = idx i := rfl
  simp [List.range, List.range.loop, ints, intss, int, bool, row, frac, fracs, ← List.map_take, ← List.map_drop, thenY_normal, w1]
  refine ty_block (ty_loop (α := {t : Nat // t ≤ i - 1}) (fun t => ⟨[.v (ptrV b), .junk, .junk, .junk, .junk, .ref 0 [] 0 i, .junk, int ((i : Int) - 1 - t.1), .junk, .junk, .junk, .junk, .junk, .junk, .junk, .junk, .junk, .junk, .junk, .junk, .junk, .junk, .junk, .junk, .junk, .junk, .junk, .junk, .junk, .junk, .junk, .junk, .junk, .junk, .junk, .junk, .junk, .junk, .junk, .junk, .junk, .junk, .junk, .junk, .junk, .junk], [⟨true, .sl false 1 ((rkD by' s i t.1).map int)⟩]⟩) (fun t => crN by' s t.1) (fun t => i - t.1) ⟨0, Nat.zero_le _⟩ ⟨?_, rfl⟩ ?_)
  · simp [sub, slotsLe, clean, keep, refsL, refs, once, place, renL, ren, List.replicate, int, bool, z1]
  rintro ⟨t, ht⟩
  obtain ⟨r1, _, _⟩ := rkD_ok (by' := by') (s := s) (m := i) (t := t) (by omega)
  by_cases htn : t < i - 1
  rotate_left
  · obtain rfl : t = i - 1 := by omega
    have hz : ¬ ((i - 1 : Nat) : Int) < (i : Int) - 1 := by omega
    refine ty_seq (ty_awp (ctx_ok eqOk hG) mixed curJ_stable (live := [true, true, false, false, true, true, true, true, true, true, false, false, false, true, false, false, false, false, false, false, false, false, false, true]) fun X A w1 => ?_)
    simp [List.range, List.range.loop, ints, intss, int, bool, row, frac, fracs, ← List.map_take, ← List.map_drop, thenY_normal, thenY_exit, inBY_exit, hz]
    refine ty_awp (ctx_ok eqOk hG) mixed curJ_stable (live := [true, true, false, false, true, true, true, true, true, true, false, false, false, true, false, false, false, false, false, false, false, false, false, true]) fun X A w1 => ?_
    simp [List.range, List.range.loop, ints, intss, int, bool, row, frac, fracs, ← List.map_take, ← List.map_drop, thenY_ret, r1]
  have hcall := hcur (i - t) t (by omega) (by omega)
  have hb := bw_bd (by' := by') (s := crN by' s t) (n := i - t) (by omega)
  have hst : rkD by' s i (t + 1) = swp (rkD by' s i t) (i - 1 - t) (bw by' (crN by' s t) (i - t)).toNat := rfl
  have hn : ((i - t : Nat) : Int) = (i : Int) - 1 - t + 1 := by omega
  rw [hn] at hcall
  obtain ⟨k, hk⟩ : ∃ k : Nat, bw by' (crN by' s t) (i - t) = k := ⟨(bw by' (crN by' s t) (i - t)).toNat, by omega⟩
  rw [hk] at hcall hst hb
  simp only [Int.toNat_natCast] at hst
  have hkl : k < i := by omega
  obtain ⟨q, hq⟩ : ∃ q : Nat, q = i - 1 - t := ⟨_, rfl⟩
  have hqI : (i : Int) - 1 - t = (q : Int) := by omega
  rw [← hq] at hst
  rw [hqI] at hcall ⊢
  have hql : q < i := by omega
  have hq0 : 0 < q := by omega
  have hq0I : (0 : Int) < (q : Int) := by omega
  have w2 : IntKind.i64.wrap ((q : Int) + 1) = (q : Int) + 1 := wrapI (by omega) (by omega)
  generalize rkD by' s i t = L0 at *
  refine ty_seq (ty_awp (ctx_ok eqOk hG) mixed curJ_stable (live := [true, true, false, false, true, true, true, true, true, true, false, false, false, true, false, false, false, false, false, false, false, false, false, true]) fun X A w1 => ?_)
  simp [List.range, List.range.loop, ints, intss, int, bool, row, frac, fracs, ← List.map_take, ← List.map_drop, thenY_normal, hq0, hq0I]
  refine ty_seq (ty_block (ty_seq (ty_reg (tyo_ops 3 (ctx_ok eqOk hG) curJ_stable (by simp) ?_))))
  simp [List.range, List.range.loop, ints, intss, int, bool, row, frac, fracs, ← List.map_take, ← List.map_drop, w2]
  refine tyo_cur hbytes hF0 hbF hcall rfl rfl rfl (by rfl) (by rfl) (by rfl) ?_
  simp [List.range, List.range.loop, ints, intss, int, bool, row, frac, fracs, ← List.map_take, ← List.map_drop]
  refine tyo_ops 1 (ctx_ok eqOk hG) curJ_stable (by simp) ?_
  simp [List.range, List.range.loop, ints, intss, int, bool, row, frac, fracs, ← List.map_take, ← List.map_drop]
  refine tyo_end (by simp) ?_
  simp only [thenY_normal]
  have g1 : L0[q]? = some (at0 L0 q) := by rw [List.getElem?_eq_getElem (by omega), at0_eq]
  have g2 : L0[k]? = some (at0 L0 k) := by rw [List.getElem?_eq_getElem (by omega), at0_eq]
  have g3 : swp L0 q k = (L0.set q (at0 L0 k)).set k (at0 L0 q) := rfl
  have e1 : L0[q]'(by omega) = at0 L0 q := (at0_eq _).symm
  have e2 : L0[k]'(by omega) = at0 L0 k := (at0_eq _).symm
  have e3 : ∀ (j : Nat) (x : Int), (L0.set j x).length = i := fun j x => by simp [r1]
  refine ty_seq (ty_awp (ctx_ok eqOk hG) mixed curJ_stable (live := [true, true, false, false, true, true, true, true, true, true, false, false, false, true, false, false, false, false, false, false, false, false, false, true]) fun X A w1 => ?_)
  simp [List.range, List.range.loop, ints, intss, int, bool, row, frac, fracs, ← List.map_take, ← List.map_drop, thenY_normal, r1, hql, hkl, g1, g2, e1, e2]
  refine ty_seq (ty_awp (ctx_ok eqOk hG) mixed curJ_stable (live := [true, true, false, false, true, true, true, true, true, true, false, false, false, true, false, false, false, false, false, false, false, false, false, true]) fun X A w1 => ?_)
  simp [List.range, List.range.loop, ints, intss, int, bool, row, frac, fracs, ← List.map_take, ← List.map_drop, thenY_normal, r1, hql, hkl, g1, g2, e1, e2]
  refine ty_awp (ctx_ok eqOk hG) mixed curJ_stable (live := [true, true, false, false, true, true, true, true, true, true, false, false, false, true, false, false, false, false, false, false, false, false, false, true]) fun X A w1 => ?_
  simp [List.range, List.range.loop, ints, intss, int, bool, row, frac, fracs, ← List.map_take, ← List.map_drop, thenY_normal, inBY_normal, r1, hql, hkl, g1, g2, e1, e2, e3]
  refine ty_awp (ctx_ok eqOk hG) mixed curJ_stable (live := [true, true, false, false, true, true, true, true, true, true, false, false, false, true, false, false, false, false, false, false, false, false, false, true]) fun X A w1 => ?_
  have w3 : IntKind.i64.wrap ((q : Int) - 1) = (q : Int) - 1 := wrapI (by omega) (by omega)
  simp [List.range, List.range.loop, ints, intss, int, bool, row, frac, fracs, ← List.map_take, ← List.map_drop, thenY_normal, w3]
  refine ⟨⟨t + 1, by omega⟩, ?_, rfl, by simp; omega⟩
  simp [sub, slotsLe, clean, keep, refsL, refs, once, place, renL, ren, List.replicate, int, bool, hst, g3, w3]
  refine ⟨?_, by omega⟩
  by_cases hqk : q = k
  · simp [hqk, int]
  · simp [hqk, int]
end Go.Proofs.YtkfmhpgnhkdebaaGreatDoor.Ax
namespace Go.Proofs
end Go.Proofs
namespace Go.Proofs.YtkfmhpgnhkdebaaGreatDoor.Ax
open Go Go.RowKit Go.Sort
set_option linter.unusedSimpArgs false
theorem frozen_cells {w : World} {b : Nat} {cs : Array Value} {T : TypeId} (h : w.heap[b]? = some (.cells cs T (0, 0))) (o : Nat) : w.frozen? ⟨b, o, none⟩ = false := by
  simp [World.frozen?, h]
theorem ownRow_ints {w : World} {d : Bool} {F S : Nat → Prop} {b : Nat} : ∀ {xs : List Int} {o : Nat}, OwnRow w d F S b 1 o (xs.map int) → ∀ (j : Nat) (x : Int), xs[j]? = some x → w.cell? ⟨b, o + j, none⟩ = some (.int .i64 x)
  | xs, o, h, j, x, hj => by
    obtain ⟨y, h1, h2, _, h4⟩ := OwnRow.get h j (int x) (by rw [List.getElem?_map, hj]; rfl)
    simp only [Own, int] at h1
    obtain ⟨rfl, _⟩ := h1
    have := h4 0 (.int .i64 x) (by rfl)
    simpa using this
theorem ownRow_mk {w : World} {d : Bool} {F S : Nat → Prop} {b : Nat} : ∀ {xs : List Int} {o : Nat}, (∀ (j : Nat) (x : Int), xs[j]? = some x → w.cell? ⟨b, o + j, none⟩ = some (.int .i64 x)) → OwnRow w d F S b 1 o (xs.map int)
  | [], o, h => by simp [OwnRow]
  | x :: xs, o, h => by
    simp only [List.map_cons, OwnRow]
    refine ⟨.int .i64 x, fun _ => False, fun _ => False, fun _ h => h.elim, fun _ h => h.elim, fun _ h => h.elim, by simp [Own, int, Value.oneCell'], rfl, rfl, fun j y hj => ?_, ownRow_mk fun j y hj => ?_⟩
    · cases j with
      | zero => simp [Value.cells] at hj; subst hj; exact h 0 x rfl
      | succ j => simp [Value.cells] at hj
    · have := h (j + 1) y (by simpa using hj)
      rw [show o + (j + 1) = o + 1 + j by omega] at this; exact this
theorem holds_of {w : World} {F S : Nat → Prop} {b o : Nat} {cs : Array Value} {T : TypeId} {xs : List Int} (hh : w.heap[b]? = some (.cells cs T (0, 0))) (hrow : OwnRow w true F S b 1 o (xs.map int)) : Holds (Value.int .i64) w b o xs.toArray := fun j hj => by
  have hj' : j < xs.length := by simpa using hj
  refine ⟨?_, frozen_cells hh _⟩
  rw [ownRow_ints hrow j xs[j] (List.getElem?_eq_getElem hj')]
  rw [getElem!_pos _ j hj]
  simp
theorem putRow_heap {w : World} {q b o : Nat} {d : Array Int} {k : Nat} (h : k ≠ b) : (putRow (Value.int .i64) (Sort.ahead w q) b o d).heap[k]? = w.heap[k]? := by
  simp only [putRow, mapBlock, Sort.ahead, Array.getElem?_modify]
  rw [if_neg (fun e => h e.symm)]
theorem putRow_own {w : World} {q b o : Nat} {d : Array Int} {cs : Array Value} {T : TypeId} (h : w.heap[b]? = some (.cells cs T (0, 0))) : (putRow (Value.int .i64) (Sort.ahead w q) b o d).heap[b]? = some (.cells (Go.Sort.putCells (Value.int .i64) o d cs) T (0, 0)) := by
  simp only [putRow, mapBlock, Sort.ahead, Array.getElem?_modify, if_true, h, Option.map_some, onCells]
theorem put_mov {w : World} {S : Nat → Prop} {b o cap q : Nat} {cs : Array Value} {T : TypeId} {xs ys zs : List Int} (hSb : S b) (hSl : ∀ b, S b → b < w.heap.size) (hh : w.heap[b]? = some (.cells cs T (0, 0))) (hfit : o + cap * 1 ≤ cs.size) (hH : Holds (Value.int .i64) w b o xs.toArray)
    (hl : ys.length + zs.length = xs.length) (hcap : xs.length ≤ cap) (hcm : cap ≤ maxLen) : ∃ (S' : Nat → Prop), Frm S w (putRow (Value.int .i64) (Sort.ahead w q) b o (ys ++ zs).toArray) ∧ (∀ c, S' c → (S c ∨ w.heap.size ≤ c) ∧ c < (putRow (Value.int .i64) (Sort.ahead w q) b o (ys ++ zs).toArray).heap.size) ∧
      Own (putRow (Value.int .i64) (Sort.ahead w q) b o (ys ++ zs).toArray) true (fun _ => False) S' (.sl false 1 (ys.map int)) (.slice (some ⟨b, o, none⟩) ys.length cap) := by
  have hsz : (putRow (Value.int .i64) (Sort.ahead w q) b o (ys ++ zs).toArray).heap.size = w.heap.size := by rw [size_putRow]; rfl
  have hH' : Holds (Value.int .i64) (Sort.ahead w q) b o xs.toArray := holds_ahead _ w q b o _ hH
  have hH2 := holds_putRow (Value.int .i64) (Sort.ahead w q) b o xs.toArray (ys ++ zs).toArray hH' (by simp; omega)
  refine ⟨S, ⟨rfl, rfl, rfl, by rw [hsz]; exact Nat.le_refl _, fun k _ hk => putRow_heap fun e => hk (e ▸ hSb)⟩, fun c hc => ⟨.inl hc, by rw [hsz]; exact hSl c hc⟩, ?_⟩
  refine Excl.own (S := S) ⟨_, _, cap, rfl, by simp, by omega, hcm, .inr ⟨b, o, _, T, rfl, rfl, hSb, putRow_own hh, by simp only [Go.Sort.putCells, Array.size_mapIdx]; exact hfit, ownRow_mk fun j x hj => ?_⟩⟩
  have hjl := (List.getElem?_eq_some_iff.1 hj).1
  have := (hH2 j (by simp; omega)).1
  rw [this, getElem!_pos _ j (by simp; omega)]
  simp only [List.getElem_toArray]
  rw [List.getElem_append_left hjl]
  rw [(List.getElem?_eq_some_iff.1 hj).2]
end Go.Proofs.YtkfmhpgnhkdebaaGreatDoor.Ax
namespace Go.Proofs
open Go.Shelf
def Tryz.laysDelF_ren : Go.Shelf.Ren := ⟨fun | 10 => 169 | 6 => 228 | n => n, fun | 22 => 35 | 23 => 3 | 25 => 106 | 3 => 3 | 4 => 4 | 0 => 0 | n => n, fun | n => n⟩
theorem Tryz.laysDelF : Go.Proofs.SlLaysH.n10 Tryz.prog Tryz.laysDelF_ren := {
  mixed := by kernel_rfl
  f6 := ⟨Tryz.f228.name, by decide, Tryz.func228.trans (congrArg some (by kernel_rfl))⟩
  f10 := ⟨Tryz.f169.name, by decide, Tryz.func169.trans (congrArg some (by kernel_rfl))⟩
  t0 := Tryz.underlying0
  a0 := Tryz.isAgg0
  z0 := Tryz.sizeOf0
  v0 := Tryz.zeroValue0
  t3 := Tryz.underlying3
  a3 := Tryz.isAgg3
  z3 := Tryz.sizeOf3
  v3 := Tryz.zeroValue3
  t4 := Tryz.underlying4
  a4 := Tryz.isAgg4
  z4 := Tryz.sizeOf4
  v4 := Tryz.zeroValue4
  t22 := Tryz.underlying35
  a22 := Tryz.isAgg35
  z22 := Tryz.sizeOf35
  v22 := Tryz.zeroValue35
  a23 := Tryz.isAgg3
  z23 := Tryz.sizeOf3
  t25 := Tryz.underlying106
  a25 := Tryz.isAgg106
  z25 := Tryz.sizeOf106
  v25 := Tryz.zeroValue106 }
end Go.Proofs
namespace Go.Proofs.YtkfmhpgnhkdebaaGreatDoor.Ax
open Go Go.RowKit Go.Sort
set_option linter.unusedSimpArgs false
def SaysOf (g : FuncId) (caps : List AV) (p : Int → Bool) : Prop :=
  ∀ (w : World) (F : Nat → Prop) (cv : Array Value) (x : Int), (∀ b, F b → b < w.heap.size) → RepL w F caps cv.toList → FnGives Tryz.prog g cv #[.int .i64 x] (.bool (p x)) w
theorem delF_ok {g : FuncId} {caps : List AV} (p : Int → Bool) (eg : ∀ args w, (callFunc g args).run Tryz.prog w = .ok (.enter g args) w) (hg : SaysOf g caps p) (xs : List Int) :
    MovOk Tryz.prog 169 [ints false xs, .fn g caps] [0] (ints false (xs.filter fun x => !p x)) := by
  refine ⟨⟨_, Tryz.func169, by kernel_rfl, by kernel_rfl⟩, fun w F S vals hF hS hlen hargs hown => ?_⟩
  have h1 := hargs 1 _ (by simp) rfl
  obtain ⟨y1, e1, h1⟩ := h1
  simp only [Rep] at h1
  obtain ⟨cv, rfl, hcv⟩ := h1
  simp only [List.map_cons, List.map_nil, OwnL, List.getD_cons_zero] at hown
  obtain ⟨y0, ys0, S1, S2, e0, hS1, _, _, hown, _⟩ := hown
  have e0' : vals.getD 0 undef = y0 := by
    have := congrArg (fun l : List Value => l.head?) e0
    simpa using this
  obtain ⟨ad, len, cap, hy, l1, l2, l3, l4⟩ := Excl.of_own hown
  rcases l4 with ⟨_, hnl, _⟩ | ⟨b, o, cs, T, rfl, _, hb, hh, hfit, hrow⟩
  · simp at hnl
  have hlx : len = xs.length := by simpa using l1
  subst hlx
  have hvals : vals = #[.slice (some ⟨b, o, none⟩) xs.toArray.size cap, .func (.func g) #[] cv] := by
    apply Array.ext'
    have hsz : vals.toList.length = 2 := by simpa using hlen
    match hv : vals.toList, hsz with
    | [a0, a1], _ =>
      have g0 : vals[0]? = some a0 := by rw [← Array.getElem?_toList, hv]; rfl
      have g1 : vals[1]? = some a1 := by rw [← Array.getElem?_toList, hv]; rfl
      rw [g1] at e1; obtain rfl := Option.some.inj e1
      rw [Array.getD_eq_getD_getElem?, g0] at e0'
      simp only [Option.getD_some] at e0'
      rw [e0', hy]; simp
  subst hvals
  have hH := holds_of hh hrow
  have hSb := hS b (hS1 b hb)
  have hFl := hF.1
  have hp : PredAt Tryz.prog g cv (Value.int .i64) p w := fun W x hbl =>
    hg W F cv x (fun c hc => Nat.lt_of_lt_of_le (hFl c hc) hbl.size) (RepL.agree (fun _ h => h) (fun c hc => hbl.block c (hFl c hc)) _ _ hcv)
  have hpo : PredOver Tryz.prog g cv (Value.int .i64) p b o xs.toArray.size w := fun n os dk x _ =>
    hg _ F cv x (fun c hc => by
        have := hFl c hc
        have e : (putRow (Value.int .i64) (Sort.ahead w n) b o dk).heap.size = w.heap.size := by rw [size_putRow]; rfl
        show c < ((putRow (Value.int .i64) (Sort.ahead w n) b o dk).heap ++ os).size
        rw [Array.size_append]; omega)
      (RepL.agree (fun _ h => h) (fun c hc => by
        have e : (putRow (Value.int .i64) (Sort.ahead w n) b o dk).heap.size = w.heap.size := by rw [size_putRow]; rfl
        have hcb : c ≠ b := fun e => hSb.2 (e ▸ hc)
        rw [show (sortWorld (Value.int .i64) w b o n dk os).heap[c]? = (putRow (Value.int .i64) (Sort.ahead w n) b o dk).heap[c]? from heap_grow_old _ os (by rw [e]; exact hFl c hc)]
        exact putRow_heap hcb) _ _ hcv)
  refine (AnyE.slices_DeleteFunc Tryz.laysDelF (Value.int .i64) (fun _ => rfl) p g cv eg 0 (fun w => by kernel_rfl) b o cap xs.toArray w hp hpo hH (by have := Nat.le_trans l2 l3; simpa [maxLen] using this) (by simpa using l2)).mono fun e w' h => ?_
  obtain ⟨rfl, q, rfl⟩ := h
  have hl : (xs.filter fun x => !p x).length ≤ xs.length := List.length_filter_le _ _
  have := put_mov (S := S) (q := q) (ys := xs.filter fun x => !p x) (zs := List.replicate (xs.toArray.size - (xs.filter fun x => !p x).length) 0) (hS1 b hb) (fun c hc => (hS c hc).1) hh (by simpa using hfit) hH (by simp; omega) (by simpa using l2) l3
  obtain ⟨S', k1, k2, k3⟩ := this
  exact ⟨_, S', rfl, k1, k2, k3⟩
end Go.Proofs.YtkfmhpgnhkdebaaGreatDoor.Ax
