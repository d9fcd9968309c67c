/-
  Contract: the reference's draw of a cake. No condition.
-/
import Derived.Test.YtakladjlnkojjaaCG1
import Derived.Test.YtakladjlnkojjaaCB1
import Derived.Test.YtakladjlnkojjaaCK4
import Derived.Test.YtakladjlnkojjaaCB2
namespace Go.Proofs.Ytakladjlnkojjaa.Ax
open Go Go.RowKit
set_option linter.unusedSimpArgs false

set_option maxRecDepth 8000 in
set_option maxHeartbeats 2000000 in
theorem l26Draw_cur {nl : Bool} {by' : List Int} {s : Int × Int} (hs : CrOk by' s) : CurOk Try.prog 71 (byts nl by') 87 [int 7] s (crN by' s (2 + drN by' s 3 * drG by' s 7)) (.sl false 1 ((drA by' s 3 7 9).map row)) := by
  have hcur := fun (m k : Nat) (h0 : 0 < m) (hm : m ≤ 256) => l01Below_cur (nl := nl) (crN_ok hs k) h0 hm
  obtain ⟨n1, n2, n3⟩ := drN_bd (by' := by') (s := s) (a := 3) (by omega)
  obtain ⟨g1, g2, g3⟩ := drG_bd (by' := by') (s := s) (b := 7) (by omega)
  have hA : drA by' s 3 7 9 = drT by' s 9 (drG by' s 7) (drN by' s 3) := rfl
  rw [hA]
  generalize drN by' s 3 = n at *
  generalize drG by' s 7 = g at *
  have hG : FnsOk Try.prog [] := .nil
  refine curOk_of_ty (dt := []) (ctx_ok eqOk hG) Try.func71 rfl (by kernel_rfl) (by kernel_rfl) fun w F0 code b hbytes hF0 hbF => ?_
  refine ty_seq (ty_awp (ctx_ok eqOk hG) mixed curJ_stable (live := [true, true, false, false, true, true, true, true, true, true, true, false, false, false, false, false, false, false, false, false, false, true, false, false, false, false, false, true]) fun X A w1 => ?_)
  simp [Try.f71, List.range, List.range.loop, ints, intss, int, bool, row, frac, fracs, ← List.map_take, ← List.map_drop, thenY_normal]
  refine ty_seq (ty_reg (tyo_ops 1 (ctx_ok eqOk hG) curJ_stable (by simp) ?_))
  simp [List.range, List.range.loop, ints, intss, int, bool, row, frac, fracs, ← List.map_take, ← List.map_drop]
  refine tyo_cur hbytes hF0 hbF (hcur 3 0 (by omega) (by omega)) rfl rfl rfl (by rfl) (by rfl) (by rfl) ?_
  simp [List.range, List.range.loop, ints, intss, int, bool, row, frac, fracs, ← List.map_take, ← List.map_drop]
  refine tyo_ops 2 (ctx_ok eqOk hG) curJ_stable (by simp) ?_
  have n3' : IntKind.i64.wrap (1 + bk by' s 3 0) = (n : Int) := by rw [n3]; exact wrapI (by omega) (by omega)
  have e0 : bw by' (crN by' s 0) 3 = bk by' s 3 0 := rfl
  simp [List.range, List.range.loop, ints, intss, int, bool, row, frac, fracs, ← List.map_take, ← List.map_drop, e0, n3']
  refine tyo_end (by simp) ?_
  simp only [thenY_normal]
  refine ty_seq (ty_reg (tyo_ops 2 (ctx_ok eqOk hG) curJ_stable (by simp) ?_))
  simp [List.range, List.range.loop, ints, intss, int, bool, row, frac, fracs, ← List.map_take, ← List.map_drop]
  refine tyo_cur hbytes hF0 hbF (hcur 7 1 (by omega) (by omega)) rfl rfl rfl (by rfl) (by rfl) (by rfl) ?_
  simp [List.range, List.range.loop, ints, intss, int, bool, row, frac, fracs, ← List.map_take, ← List.map_drop]
  refine tyo_ops 2 (ctx_ok eqOk hG) curJ_stable (by simp) ?_
  have g3' : IntKind.i64.wrap (1 + bk by' s 7 1) = (g : Int) := by rw [g3]; exact wrapI (by omega) (by omega)
  have e1 : bw by' (crN by' s 1) 7 = bk by' s 7 1 := rfl
  simp [List.range, List.range.loop, ints, intss, int, bool, row, frac, fracs, ← List.map_take, ← List.map_drop, e1, g3']
  refine tyo_end (by simp) ?_
  simp only [thenY_normal]
  refine ty_seq (ty_awp (ctx_ok eqOk hG) mixed curJ_stable (live := [true, true, false, false, true, true, true, true, true, true, true, false, false, false, false, false, false, false, false, false, false, true, false, false, false, false, false, true]) fun X A w1 => ?_)
  simp [List.range, List.range.loop, ints, intss, int, bool, row, frac, fracs, ← List.map_take, ← List.map_drop, thenY_normal]
  refine ty_seq (ty_seq (ty_awp (ctx_ok eqOk hG) mixed curJ_stable (live := [true, true, false, false, true, true, true, true, true, true, true, false, false, false, false, false, false, false, false, false, false, true, false, false, false, false, false, true]) fun X A w1 => ?_))
  simp [List.range, List.range.loop, ints, intss, int, bool, row, frac, fracs, ← List.map_take, ← List.map_drop, thenY_normal]
  refine ty_block (ty_loop (α := {i : Nat // i ≤ n}) (fun i => ⟨[.v (ptrV b), .junk, .junk, .junk, .junk, int n, int g, .ref 0 [] 0 i.1, int i.1, .junk, .junk, .junk, .junk, .junk, .junk, .junk, .junk, .junk, .junk, .junk, .junk, .junk, .junk, .junk, .junk, .junk, .junk, .junk, .junk, .junk, .junk, .junk, .junk, .junk, .junk, .junk, .junk, .junk, .junk, .junk], [⟨true, .sl false 1 ((drT by' s 9 g i.1).map row)⟩]⟩) (fun i => crN by' s (2 + i.1 * g)) (fun i => n - i.1) ⟨0, Nat.zero_le _⟩ ⟨?_, ?_⟩ ?_)
  · simp [sub, slotsLe, clean, keep, refsL, refs, once, place, renL, ren, List.replicate, int, bool, drT]
  · simp [crN]
  rintro ⟨i, hi⟩
  by_cases hin : i < n
  rotate_left
  · obtain rfl : i = n := by omega
    have hl := drT_len (by' := by') (s := s) (m := 9) (g := g) (n := i)
    refine ty_seq (ty_awp (ctx_ok eqOk hG) mixed curJ_stable (live := [true, true, false, false, true, true, true, true, true, true, true, false, false, false, false, false, false, false, false, false, false, true, false, false, false, false, false, true]) fun X A w1 => ?_)
    simp [List.range, List.range.loop, ints, intss, int, bool, row, frac, fracs, ← List.map_take, ← List.map_drop, thenY_normal, thenY_exit, inBY_exit]
    refine ty_awp (ctx_ok eqOk hG) mixed curJ_stable (live := [true, true, false, false, true, true, true, true, true, true, true, false, false, false, false, false, false, false, false, false, false, true, false, false, false, false, false, true]) fun X A w1 => ?_
    simp [List.range, List.range.loop, ints, intss, int, bool, row, frac, fracs, ← List.map_take, ← List.map_drop, thenY_ret, hl]
  refine ty_seq (ty_awp (ctx_ok eqOk hG) mixed curJ_stable (live := [true, true, false, false, true, true, true, true, true, true, true, false, false, false, false, false, false, false, false, false, false, true, false, false, false, false, false, true]) fun X A w1 => ?_)
  simp [List.range, List.range.loop, ints, intss, int, bool, row, frac, fracs, ← List.map_take, ← List.map_drop, thenY_normal, hin]
  refine ty_seq (ty_block (ty_seq (ty_awp (ctx_ok eqOk hG) mixed curJ_stable (live := [true, true, false, false, true, true, true, true, true, true, true, false, false, false, false, false, false, false, false, false, false, true, false, false, false, false, false, true]) fun X A w1 => ?_)))
  simp [List.range, List.range.loop, ints, intss, int, bool, row, frac, fracs, ← List.map_take, ← List.map_drop, thenY_normal]
  refine ty_seq (ty_seq (ty_awp (ctx_ok eqOk hG) mixed curJ_stable (live := [true, true, false, false, true, true, true, true, true, true, true, false, false, false, false, false, false, false, false, false, false, true, false, false, false, false, false, true]) fun X A w1 => ?_))
  simp [List.range, List.range.loop, ints, intss, int, bool, row, frac, fracs, ← List.map_take, ← List.map_drop, thenY_normal]
  refine ty_block (ty_loop (α := {k : Nat // k ≤ g}) (fun k => ⟨[.v (ptrV b), .junk, .junk, .junk, .junk, int n, int g, .ref 0 [] 0 i, int i, .ref 1 [] 0 k.1, int k.1, .junk, .junk, .junk, .junk, .junk, .junk, .junk, .junk, .junk, .junk, .junk, .junk, .junk, .junk, .junk, .junk, .junk, .junk, .junk, .junk, .junk, .junk, .junk, .junk, .junk, .junk, .junk, .junk, .junk], [⟨true, .sl false 1 ((drT by' s 9 g i).map row)⟩, ⟨true, .sl false 1 ((drR by' s 9 (2 + i * g) k.1).map int)⟩]⟩) (fun k => crN by' s (2 + i * g + k.1)) (fun k => g - k.1) ⟨0, Nat.zero_le _⟩ ⟨?_, ?_⟩ ?_)
  · simp [sub, slotsLe, clean, keep, refsL, refs, once, place, renL, ren, List.replicate, int, bool, drR]
  · simp
  rintro ⟨k, hk⟩
  by_cases hkg : k < g
  · refine ty_seq (ty_awp (ctx_ok eqOk hG) mixed curJ_stable (live := [true, true, false, false, true, true, true, true, true, true, true, false, false, false, false, false, false, false, false, false, false, true, false, false, false, false, false, true]) fun X A w1 => ?_)
    simp [List.range, List.range.loop, ints, intss, int, bool, row, frac, fracs, ← List.map_take, ← List.map_drop, thenY_normal, hkg]
    refine ty_seq (ty_block (ty_reg (tyo_ops 2 (ctx_ok eqOk hG) curJ_stable (by simp) ?_)))
    simp [List.range, List.range.loop, ints, intss, int, bool, row, frac, fracs, ← List.map_take, ← List.map_drop]
    refine tyo_cur hbytes hF0 hbF (hcur 9 (2 + i * g + k) (by omega) (by omega)) rfl rfl rfl (by rfl) (by rfl) (by rfl) ?_
    simp [List.range, List.range.loop, ints, intss, int, bool, row, frac, fracs, ← List.map_take, ← List.map_drop]
    have hrl := drR_len (by' := by') (s := s) (m := 9) (k := 2 + i * g) (g := k)
    have hbb : k + 1 ≤ 4611686018427387904 ∧ (k + 1) * 8 ≤ 140737488355328 := by omega
    have hrs : (drR by' s 9 (2 + i * g) k).map int ++ [.v (.int .i64 (bw by' (crN by' s (2 + i * g + k)) 9))] = (drR by' s 9 (2 + i * g) (k + 1)).map int := by rw [drR_succ, List.map_append]; rfl
    refine tyo_ops 3 (ctx_ok eqOk hG) curJ_stable (by simp) ?_
    simp [List.range, List.range.loop, ints, intss, int, bool, row, frac, fracs, ← List.map_take, ← List.map_drop, hrl, hbb, hrs]
    refine tyo_end (by simp) ?_
    simp only [thenY_normal, inBY_normal]
    refine ty_awp (ctx_ok eqOk hG) mixed curJ_stable (live := [true, true, false, false, true, true, true, true, true, true, true, false, false, false, false, false, false, false, false, false, false, true, false, false, false, false, false, true]) fun X A w1 => ?_
    have hwk : IntKind.i64.wrap ((k : Int) + 1) = (k : Int) + 1 := wrapI (by omega) (by omega)
    simp [List.range, List.range.loop, ints, intss, int, bool, row, frac, fracs, ← List.map_take, ← List.map_drop, thenY_normal, hwk]
    exact ⟨⟨k + 1, hkg⟩, by simp [sub, slotsLe, clean, keep, refsL, refs, once, place, renL, ren, List.replicate, int, bool], rfl, by simp; omega⟩
  · obtain rfl : k = g := by omega
    have hrl := drR_len (by' := by') (s := s) (m := 9) (k := 2 + i * k) (g := k)
    have htl := drT_len (by' := by') (s := s) (m := 9) (g := k) (n := i)
    have hbb : i + 1 ≤ 4611686018427387904 ∧ (i + 1) * 24 ≤ 140737488355328 := by omega
    have hrs : (drT by' s 9 k i).map row ++ [.sl false 1 ((drR by' s 9 (2 + i * k) k).map int)] = (drT by' s 9 k (i + 1)).map row := by rw [drT_succ, List.map_append]; rfl
    refine ty_seq (ty_awp (ctx_ok eqOk hG) mixed curJ_stable (live := [true, true, false, false, true, true, true, true, true, true, true, false, false, false, false, false, false, false, false, false, false, true, false, false, false, false, false, true]) fun X A w1 => ?_)
    simp [List.range, List.range.loop, ints, intss, int, bool, row, frac, fracs, ← List.map_take, ← List.map_drop, thenY_normal, thenY_exit, inBY_exit]
    refine ty_awp (ctx_ok eqOk hG) mixed curJ_stable (live := [true, true, false, false, true, true, true, true, true, true, true, false, false, false, false, false, false, false, false, false, false, true, false, false, false, false, false, true]) fun X A w1 => ?_
    simp [List.range, List.range.loop, ints, intss, int, bool, row, frac, fracs, ← List.map_take, ← List.map_drop, thenY_normal, inBY_normal, hrl, htl, hbb, hrs]
    refine ty_awp (ctx_ok eqOk hG) mixed curJ_stable (live := [true, true, false, false, true, true, true, true, true, true, true, false, false, false, false, false, false, false, false, false, false, true, false, false, false, false, false, true]) fun X A w1 => ?_
    have hwk : IntKind.i64.wrap ((i : Int) + 1) = (i : Int) + 1 := wrapI (by omega) (by omega)
    simp [List.range, List.range.loop, ints, intss, int, bool, row, frac, fracs, ← List.map_take, ← List.map_drop, thenY_normal, hwk]
    exact ⟨⟨i + 1, hin⟩, by simp [sub, slotsLe, clean, keep, refsL, refs, once, place, renL, ren, List.replicate, int, bool], by congr 1; rw [Nat.add_mul]; omega, by simp; omega⟩

end Go.Proofs.Ytakladjlnkojjaa.Ax

/-
  Contract: the cake of a code (the reference's draw). No condition.
-/
namespace Go.Proofs.Ytakladjlnkojjaa.Ax
open Go Go.RowKit
set_option linter.unusedSimpArgs false

/-- The cake of a code. -/
def mkCake (by' : List Int) : List (Bool × List Int) := drA by' (cr0 by') 3 7 9
theorem makeCake_call {nl : Bool} {by' : List Int} (hlen : by'.length ≤ 1048576) : CallOk Try.prog 29 [byts nl by', int 0] (.sl false 1 ((mkCake by').map row)) := by
  have hnew := l32New_new (nl := nl) hlen 0 (by omega)
  have hcur := l26Draw_cur (nl := nl) (cr0_ok hlen)
  have hG : FnsOk Try.prog [] := .nil
  refine callOk_of_new (s1 := crN by' (cr0 by') (2 + drN by' (cr0 by') 3 * drG by' (cr0 by') 7)) Try.func29 rfl (by kernel_rfl) (new_fn (dt := []) (ctx_ok eqOk hG) Try.func29 rfl (by kernel_rfl) rfl (by rfl) (pre := [_, _]) rfl rfl rfl (by rfl) (by rfl) (by rfl) (by rfl) hnew fun w F0 code b hbytes hF0 hbF => ?_)
  simp [Try.f29, List.range, List.range.loop, ints, intss, int, bool, row, frac, fracs, ← List.map_take, ← List.map_drop, byts]
  refine tyo_cur hbytes hF0 hbF hcur rfl rfl rfl (by rfl) (by rfl) (by rfl) ?_
  simp [List.range, List.range.loop, ints, intss, int, bool, row, frac, fracs, ← List.map_take, ← List.map_drop]
  refine tyo_ops 1 (ctx_ok eqOk hG) curJ_stable (by simp) ?_
  simp [List.range, List.range.loop, ints, intss, int, bool, row, frac, fracs, ← List.map_take, ← List.map_drop]
  refine tyo_end (by simp) ?_
  simp only [thenY_normal]
  refine ty_awp (ctx_ok eqOk hG) mixed curJ_stable (live := [true, true, false, false, true]) fun X A w1 => ?_
  simp [List.range, List.range.loop, ints, intss, int, bool, row, frac, fracs, ← List.map_take, ← List.map_drop, thenY_ret, mkCake]

noncomputable def mMkCake : List AV → Option AV := mk (fun p => p.2.length ≤ 1048576) (fun (p : Bool × List Int) => [byts p.1 p.2, int 0]) (fun p => .sl false 1 ((mkCake p.2).map row))
theorem mMkCake_at (nl : Bool) (by' : List Int) (h : by'.length ≤ 1048576) : mMkCake [.sl nl 1 (by'.map bAV), .v (.int .i64 0)] = some (.sl false 1 ((mkCake by').map row)) :=
  mk_eq (enc := fun (p : Bool × List Int) => [byts p.1 p.2, int 0]) (x := (nl, by')) (by rintro ⟨a, b⟩ ⟨c, d⟩ h; simp [byts, map_bAV_inj] at h; simp [h]) h
theorem makeCake_ok : FnOk Try.prog 29 mMkCake := by
  refine mk_ok fun ⟨nl, by'⟩ h => ?_
  exact makeCake_call h
/-- What the cake is. -/
theorem mkCake_rect (by' : List Int) : rectB (mkCake by') 3 10 100 = true ∧ wid (mkCake by') ≤ 7 := by
  obtain ⟨n1, n2, _⟩ := drN_bd (by' := by') (s := cr0 by') (a := 3) (by omega)
  obtain ⟨g1, g2, _⟩ := drG_bd (by' := by') (s := cr0 by') (b := 7) (by omega)
  obtain ⟨h1, h2⟩ := drT_rect (by' := by') (s := cr0 by') (m := 9) (g := drG by' (cr0 by') 7) (n := drN by' (cr0 by') 3) (a := 3) (b := 10) (c := 100) (by omega) n1 (by omega) g1 (by omega) (by omega)
  refine ⟨h1, ?_⟩
  show wid (drT by' (cr0 by') 9 _ _) ≤ 7
  rw [h2]; exact g2

end Go.Proofs.Ytakladjlnkojjaa.Ax

/-
  Contracts: a short list of ints is sorted by a function, stably (slices.SortStableFunc). No condition.
-/
namespace Go.Proofs.Ytakladjlnkojjaa.Ax
open Go Go.RowKit
set_option linter.unusedSimpArgs false

theorem Pure.killN {caps : List AV} (hc : Pure caps) (k : Nat) : killNL k caps = caps := killNL_id' k caps (by rw [hc.refs]; simp)

/-- x steps to the left of the first k numbers as long as it is less than the next one there. -/
def insFrom (c : Int → Int → Int) (ys : List Int) (x : Int) : Nat → List Int
  | 0 => x :: ys
  | k + 1 => if c x (ys.getD k 0) < 0 then insFrom c ys x k else ys.take (k + 1) ++ x :: ys.drop (k + 1)
def ins (c : Int → Int → Int) (ys : List Int) (x : Int) : List Int := insFrom c ys x ys.length
def isort (c : Int → Int → Int) (xs : List Int) : List Int := xs.foldl (ins c) []
theorem insFrom_len {c : Int → Int → Int} {ys : List Int} {x : Int} : ∀ {k : Nat}, (insFrom c ys x k).length = ys.length + 1
  | 0 => rfl
  | k + 1 => by
    unfold insFrom
    split
    · exact insFrom_len
    · simp; omega
theorem mem_insFrom {c : Int → Int → Int} {ys : List Int} {x y : Int} : ∀ {k : Nat}, y ∈ insFrom c ys x k ↔ y = x ∨ y ∈ ys
  | 0 => by simp [insFrom]
  | k + 1 => by
    unfold insFrom
    split
    · exact mem_insFrom
    · rw [List.mem_append, List.mem_cons]
      conv => rhs; rw [← List.take_append_drop (k + 1) ys, List.mem_append]
      constructor
      · rintro (h | h | h)
        · exact .inr (.inl h)
        · exact .inl h
        · exact .inr (.inr h)
      · rintro (h | h | h)
        · exact .inr (.inl h)
        · exact .inl h
        · exact .inr (.inr h)
theorem isort_snoc {c : Int → Int → Int} {xs : List Int} {x : Int} : isort c (xs ++ [x]) = ins c (isort c xs) x := by simp [isort, List.foldl_append]
theorem isort_len {c : Int → Int → Int} (xs : List Int) : (isort c xs).length = xs.length := by
  unfold isort
  suffices h : ∀ (xs ys : List Int), (xs.foldl (ins c) ys).length = ys.length + xs.length by simpa using h xs []
  intro xs
  induction xs with
  | nil => intro ys; simp
  | cons x xs ih => intro ys; simp only [List.foldl_cons]; rw [ih]; simp [ins, insFrom_len]; omega
theorem isort_mem {c : Int → Int → Int} {xs : List Int} {y : Int} : y ∈ isort c xs ↔ y ∈ xs := by
  unfold isort
  suffices h : ∀ (xs ys : List Int), y ∈ xs.foldl (ins c) ys ↔ y ∈ ys ∨ y ∈ xs by simpa using h xs []
  intro xs
  induction xs with
  | nil => intro ys; simp
  | cons x xs ih =>
    intro ys
    simp only [List.foldl_cons]
    rw [ih]
    simp only [ins, mem_insFrom, List.mem_cons]
    constructor
    · rintro ((h | h) | h)
      · exact .inr (.inl h)
      · exact .inl h
      · exact .inr (.inr h)
    · rintro (h | h | h)
      · exact .inl (.inr h)
      · exact .inl (.inl h)
      · exact .inr h

/-- x stands behind the first j numbers of what is sorted already. -/
def midd (ys : List Int) (x : Int) (j : Nat) (rest : List Int) : List Int := ys.take j ++ x :: (ys.drop j ++ rest)
theorem midd_len {ys rest : List Int} {x : Int} {j : Nat} : (midd ys x j rest).length = ys.length + 1 + rest.length := by simp [midd]; omega
theorem midd_at {ys rest : List Int} {x : Int} {j : Nat} (h : j ≤ ys.length) : (midd ys x j rest)[j]? = some x := by
  unfold midd
  rw [List.getElem?_append_right (by simp; omega)]
  simp [Nat.min_eq_left h]
theorem midd_before {ys rest : List Int} {x : Int} {k : Nat} (h : k + 1 ≤ ys.length) : (midd ys x (k + 1) rest)[k]? = some (ys.getD k 0) := by
  unfold midd
  rw [List.getElem?_append_left (by simp; omega), List.getElem?_take, if_pos (by omega), List.getElem?_eq_getElem (by omega), List.getD_eq_getElem?_getD, List.getElem?_eq_getElem (by omega)]
  rfl
theorem midd_swap {ys rest : List Int} {x : Int} {k : Nat} (h : k + 1 ≤ ys.length) :
    (((midd ys x (k + 1) rest).map int).set (k + 1) (.v (.int .i64 (ys.getD k 0)))).set k (.v (.int .i64 x)) = (midd ys x k rest).map int := by
  have e1 : AV.v (.int .i64 (ys.getD k 0)) = int (ys.getD k 0) := rfl
  have e2 : AV.v (.int .i64 x) = int x := rfl
  rw [e1, e2, ← List.map_set, ← List.map_set]
  congr 1
  obtain ⟨az, y, bz, rfl, rfl⟩ : ∃ az y bz, ys = az ++ y :: bz ∧ k = az.length := by
    refine ⟨ys.take k, ys[k], ys.drop (k + 1), ?_, by simp; omega⟩
    rw [List.getElem_cons_drop, List.take_append_drop]
  have t1 : az.take (az.length + 1) = az := List.take_of_length_le (by omega)
  have t2 : az.drop (az.length + 1) = [] := List.drop_of_length_le (by omega)
  simp [midd, List.take_append, List.drop_append, t1, t2]
theorem midd_all {ys : List Int} {x : Int} {rest : List Int} : midd ys x ys.length rest = ys ++ x :: rest := by simp [midd]

/-- The list whose first i numbers are sorted. -/
def srtTo (c : Int → Int → Int) (xs : List Int) (i : Nat) : List Int := isort c (xs.take i) ++ xs.drop i
theorem srtTo_len {c : Int → Int → Int} {xs : List Int} {i : Nat} : (srtTo c xs i).length = xs.length := by
  unfold srtTo
  rw [List.length_append, isort_len, ← List.length_append, List.take_append_drop]
theorem srtTo_one {c : Int → Int → Int} {xs : List Int} : srtTo c xs 1 = xs := by
  cases xs with
  | nil => rfl
  | cons x xs => simp [srtTo, isort, ins, insFrom]
theorem srtTo_all {c : Int → Int → Int} {xs : List Int} {i : Nat} (h : xs.length ≤ i) : srtTo c xs i = isort c xs := by
  simp [srtTo, List.take_of_length_le h, List.drop_of_length_le h]
theorem srtTo_mid {c : Int → Int → Int} {xs : List Int} {i : Nat} (h : i < xs.length) : srtTo c xs i = midd (isort c (xs.take i)) xs[i] (isort c (xs.take i)).length (xs.drop (i + 1)) := by
  rw [midd_all, srtTo, List.getElem_cons_drop]
theorem srtTo_done {c : Int → Int → Int} {xs : List Int} {i j : Nat} (h : i < xs.length) (hi : insFrom c (isort c (xs.take i)) xs[i] j = ins c (isort c (xs.take i)) xs[i])
    (hj : j = 0 ∨ ∃ k, j = k + 1 ∧ ¬ c xs[i] ((isort c (xs.take i)).getD k 0) < 0) : midd (isort c (xs.take i)) xs[i] j (xs.drop (i + 1)) = srtTo c xs (i + 1) := by
  unfold srtTo
  rw [List.take_succ_eq_append_getElem h, isort_snoc, ← hi]
  rcases hj with rfl | ⟨k, rfl, hk⟩
  · simp [midd, insFrom]
  · rw [insFrom, if_neg hk]
    simp [midd]

set_option maxHeartbeats 2000000 in
theorem insertion_ok {g : FuncId} {caps : List AV} (hc : Pure caps) (c : Int → Int → Int) (nl : Bool) (xs : List Int) (hn : xs.length ≤ 1000)
    (hg : ∀ x ∈ xs, ∀ y ∈ xs, CallOk Try.prog g (.v (.int .i64 x) :: .v (.int .i64 y) :: caps) (.v (.int .i64 (c x y)))) :
    MutOk Try.prog 97 [ints nl xs, int 0, int xs.length, .fn g caps] 0 (.tup []) (ints nl (isort c xs)) := by
  have hG : FnsOk Try.prog [(g, mk (fun p : Int × Int => p.1 ∈ xs ∧ p.2 ∈ xs) (fun p : Int × Int => .v (.int .i64 p.1) :: .v (.int .i64 p.2) :: caps) (fun p => .v (.int .i64 (c p.1 p.2))))] := .cons (mk_ok fun p hp => hg p.1 hp.1 p.2 hp.2) .nil
  have hat : ∀ x y, x ∈ xs → y ∈ xs → mk (fun p : Int × Int => p.1 ∈ xs ∧ p.2 ∈ xs) (fun p : Int × Int => (.v (.int .i64 p.1) : AV) :: .v (.int .i64 p.2) :: caps) (fun p => AV.v (.int .i64 (c p.1 p.2))) (.v (.int .i64 x) :: .v (.int .i64 y) :: caps) = some (.v (.int .i64 (c x y))) := fun x y hx hy =>
    mk_eq (enc := fun p : Int × Int => (.v (.int .i64 p.1) : AV) :: .v (.int .i64 p.2) :: caps) (x := (x, y)) (by rintro ⟨a, b⟩ ⟨d, e⟩ h; simp at h; simp [h]) ⟨hx, hy⟩
  generalize mk (fun p : Int × Int => p.1 ∈ xs ∧ p.2 ∈ xs) (fun p : Int × Int => (.v (.int .i64 p.1) : AV) :: .v (.int .i64 p.2) :: caps) (fun p => AV.v (.int .i64 (c p.1 p.2))) = m at hG hat
  refine mutOk_awp (ctx_ok eqOk hG) mixed (live := [true, true, true, true, false, false, false, false, true, true, false, false, false, false, true, false, false, false, false, false, false, false, false, false, false, false, false, false, false, false, false, false, false, false, true]) (dt := [(4, ⟨[], [], []⟩), (6, ⟨[(4, 15)], [], []⟩)]) (pos := 0) rfl Try.func97 rfl (by kernel_rfl) (by kernel_rfl) fun US Uv w0 hlens => ?_
  have w1 : IntKind.i64.wrap 1 = 1 := by decide
  have hs1 := srtTo_one (c := c) (xs := xs)
  simp [Try.f97, List.range, List.range.loop, ints, intss, int, bool, row, frac, fracs, ← List.map_take, ← List.map_drop, hc.res, hc.refs, hc.ren, hc.killN]
  refine awp_range (live := [true, true, true, true, false, false, false, false, true, true, false, false, false, false, true, false, false, false, false, false, false, false, false, false, false, false, false, false, false, false, false, false, false, false, true]) (ctx_ok eqOk hG) mixed [true, true, true, true, false, false, false, false, true] (xs.length - 1) (fun k => True) (fun k => ⟨[.ref 0 [] 0 xs.length, int 0, int xs.length, .fn g caps, .junk, .junk, .junk, .junk, int ((k : Int) + 1), .junk, .junk, .junk, .junk, .junk, .junk, .junk, .junk, .junk, .junk, .junk, .junk, .junk, .junk, .junk, .junk, .junk, .junk, .junk, .junk, .junk, .junk, .junk, .junk, .junk, .junk, .junk, .junk, .junk, .junk, .junk, .junk, .junk, .junk, .junk, .junk, .junk, .junk, .junk, .junk, .junk, .junk, .junk, .junk], [⟨true, .sl nl 1 ((srtTo c xs (k + 1)).map int)⟩]⟩) ?_ (by simp [sub, slotsLe, clean, keep, refsL, refs, once, place, renL, ren, List.replicate, int, bool, hs1, w1, hc.refs, hc.ren, hc.killN]) ?_ ?_ ?_
  · omega
  · trivial
  · intro k hk _ hwk
    have hk1 : k + 1 < xs.length := by omega
    have hlt : ((k : Int) + 1 < (xs.length : Int)) := by omega
    have hw2 : IntKind.i64.wrap ((k : Int) + 1 + 1) = (k : Int) + 1 + 1 := wrapI (by omega) (by omega)
    have hmid := srtTo_mid (c := c) hk1
    have hyl : (isort c (xs.take (k + 1))).length = k + 1 := by rw [isort_len]; simp; omega
    have hys : ∀ y ∈ isort c (xs.take (k + 1)), y ∈ xs := fun y hy => List.mem_of_mem_take (isort_mem.1 hy)
    have hdone := fun j => srtTo_done (c := c) (j := j) hk1
    have hx : xs[k + 1] ∈ xs := List.getElem_mem hk1
    rw [hmid, hyl]
    generalize isort c (xs.take (k + 1)) = ys at hyl hys hdone
    generalize xs[k + 1] = x at hx hdone
    simp (config := {contextual := true}) [List.range, List.range.loop, ints, intss, int, bool, row, frac, fracs, ← List.map_take, ← List.map_drop, hc.res, hc.refs, hc.ren, hc.killN, hlt]
    refine awp_loop_of (live := [true, true, true, true, false, false, false, false, true, true, false, false, false, false, true, false, false, false, false, false, false, false, false, false, false, false, false, false, false, false, false, false, false, false, true]) (ctx_ok eqOk hG) mixed [true, true, true, true, false, false, false, false, true, true] (α := {j : Nat // j ≤ k + 1 ∧ insFrom c ys x j = ins c ys x}) (fun j => ⟨[.ref 0 [] 0 xs.length, int 0, int xs.length, .fn g caps, .junk, .junk, .junk, .junk, int ((k : Int) + 1), int (j.1 : Int), .junk, .junk, .junk, .junk, .junk, .junk, .junk, .junk, .junk, .junk, .junk, .junk, .junk, .junk, .junk, .junk, .junk, .junk, .junk, .junk, .junk, .junk, .junk, .junk, .junk, .junk, .junk, .junk, .junk, .junk, .junk, .junk, .junk, .junk, .junk, .junk, .junk, .junk, .junk, .junk, .junk, .junk, .junk], [⟨true, .sl nl 1 ((midd ys x j.1 (xs.drop (k + 1 + 1))).map int)⟩]⟩) (fun j => j.1) ⟨k + 1, Nat.le_refl _, by rw [ins, hyl]⟩ (by simp [sub, slotsLe, clean, keep, refsL, refs, once, place, renL, ren, List.replicate, int, bool, hc.refs, hc.ren, hc.killN]) ?_
    rintro ⟨j, hj, hji⟩
    have hml := midd_len (ys := ys) (x := x) (j := j) (rest := xs.drop (k + 1 + 1))
    have hml2 : (midd ys x j (xs.drop (k + 1 + 1))).length = xs.length := by rw [hml, hyl]; simp; omega
    cases j with
    | zero =>
      have hd := hdone 0 hji (.inl rfl)
      simp (config := {contextual := true}) [List.range, List.range.loop, ints, intss, int, bool, row, frac, fracs, ← List.map_take, ← List.map_drop, hc.res, hc.refs, hc.ren, hc.killN, hd, hw2, hml2, List.eraseIdx]
      done
    | succ j =>
      have hjl : j + 1 < xs.length := by omega
      have hjl2 : j < xs.length := by omega
      have hgt : (0 < (j : Int) + 1) := by omega
      have hwj : IntKind.i64.wrap (j : Int) = j := wrapI (by omega) (by omega)
      obtain ⟨_, a1⟩ := List.getElem?_eq_some_iff.1 (midd_at (ys := ys) (x := x) (j := j + 1) (rest := xs.drop (k + 1 + 1)) (by omega))
      obtain ⟨_, a2⟩ := List.getElem?_eq_some_iff.1 (midd_before (ys := ys) (x := x) (k := j) (rest := xs.drop (k + 1 + 1)) (by omega))
      have a3 := midd_swap (ys := ys) (x := x) (k := j) (rest := xs.drop (k + 1 + 1)) (by omega)
      have hyj : ys.getD j 0 ∈ xs := hys _ (by rw [List.getD_eq_getElem?_getD, List.getElem?_eq_getElem (by omega)]; exact List.getElem_mem _)
      have hc1 := hat x (ys.getD j 0) hx hyj
      have hd := fun h => hdone (j + 1) hji (.inr ⟨j, rfl, h⟩)
      have hml3 : (midd ys x j (xs.drop (k + 1 + 1))).length = xs.length := by rw [midd_len, hyl]; simp; omega
      rw [insFrom] at hji
      generalize ys.getD j 0 = y at *
      by_cases hcc : c x y < 0
      · rw [if_pos hcc] at hji
        simp (config := {contextual := true}) [List.range, List.range.loop, ints, intss, int, bool, row, frac, fracs, ← List.map_take, ← List.map_drop, hc.res, hc.refs, hc.ren, hc.killN, hml2, hml3, hjl, hjl2, hgt, hwj, a1, a2, a3, hc1, hcc, List.eraseIdx]
        exact ⟨⟨j, by omega, hji⟩, by simp [sub, slotsLe, clean, keep, refsL, refs, once, place, renL, ren, List.replicate, int, bool, hc.refs, hc.ren, hc.killN], by simp⟩
      · have hd := hd hcc
        simp (config := {contextual := true}) [List.range, List.range.loop, ints, intss, int, bool, row, frac, fracs, ← List.map_take, ← List.map_drop, hc.res, hc.refs, hc.ren, hc.killN, hml2, hml3, hjl, hjl2, hgt, hwj, a1, a2, hc1, hcc, hw2, List.eraseIdx]
        rw [hd]
  · intro _
    have hlt : ¬ (((xs.length - 1 : Nat) : Int) + 1 < (xs.length : Int)) := by omega
    have ha := srtTo_all (c := c) (xs := xs) (i := xs.length - 1 + 1) (by omega)
    have hil := isort_len (c := c) xs
    simp (config := {contextual := true}) [List.range, List.range.loop, ints, intss, int, bool, row, frac, fracs, ← List.map_take, ← List.map_drop, hc.res, hc.refs, hc.ren, hc.killN, hlt, ha, hil, List.eraseIdx]
    done

set_option maxHeartbeats 2000000 in
theorem stable_ok {g : FuncId} {caps : List AV} (hc : Pure caps) (c : Int → Int → Int) (nl : Bool) (xs : List Int) (hn : xs.length < 20)
    (hg : ∀ x ∈ xs, ∀ y ∈ xs, CallOk Try.prog g (.v (.int .i64 x) :: .v (.int .i64 y) :: caps) (.v (.int .i64 (c x y)))) :
    MutOk Try.prog 92 [ints nl xs, int xs.length, .fn g caps] 0 (.tup []) (ints nl (isort c xs)) := by
  have hi : FnMut Try.prog 97 (mkM (fun _ : Unit => True) (fun _ => [ints nl xs, int 0, int xs.length, .fn g caps]) (fun _ => (0, .tup [], ints nl (isort c xs)))) := mkM_ok fun _ _ => insertion_ok hc c nl xs (by omega) hg
  have hat : mkM (fun _ : Unit => True) (fun _ => [ints nl xs, int 0, int xs.length, .fn g caps]) (fun _ => (0, .tup [], ints nl (isort c xs))) [.sl nl 1 (xs.map int), .v (.int .i64 0), .v (.int .i64 xs.length), .fn g caps] = some (0, .tup [], .sl nl 1 ((isort c xs).map int)) := mkM_eq (enc := fun _ : Unit => [ints nl xs, int 0, int xs.length, .fn g caps]) (x := ()) (fun _ _ _ => rfl) trivial
  generalize mkM (fun _ : Unit => True) (fun _ => [ints nl xs, int 0, int xs.length, .fn g caps]) (fun _ => (0, AV.tup [], ints nl (isort c xs))) = m at hi hat
  have hG : FnsOk Try.prog [] := .nil
  have hM : FnsMut Try.prog [(97, m)] := .cons hi .nil
  have hl := isort_len (c := c) xs
  have h20 : ¬ (20 : Int) ≤ xs.length := by omega
  have h20' : ¬ (20 : Int) < xs.length := by omega
  refine mutOk_awp (ctxM_ok eqOk hG hM) mixed (live := [true, true, true, false, false, false, true, true, true, true, false, false, false, true, false, false, false, false, false, false, false, false, false, false, false, false, false, false, false, false, true, false, false, false, false, true, false, false, false, false, false, false, false, false, false, false, false, false, false, false, false, false, false, false, true]) (dt := []) (pos := 0) rfl Try.func92 rfl (by kernel_rfl) (by kernel_rfl) fun US Uv w0 hlens => ?_
  simp [Try.f92, List.range, List.range.loop, ints, intss, int, bool, row, frac, fracs, ← List.map_take, ← List.map_drop, hc.res, hc.refs, hc.ren, hc.killN]
  refine awp_loop_of (live := [true, true, true, false, false, false, true, true, true, true, false, false, false, true, false, false, false, false, false, false, false, false, false, false, false, false, false, false, false, false, true, false, false, false, false, true, false, false, false, false, false, false, false, false, false, false, false, false, false, false, false, false, false, false, true]) (ctxM_ok eqOk hG hM) mixed [true, true, true, false, false, false, true, true, true] (α := Unit) (fun u => ⟨[.ref 0 [] 0 xs.length, int xs.length, .fn g caps, .junk, .junk, .junk, int 20, int 0, int 20, .junk, .junk, .junk, .junk, .junk, .junk, .junk, .junk, .junk, .junk, .junk, .junk, .junk, .junk, .junk, .junk, .junk, .junk, .junk, .junk, .junk, .junk, .junk, .junk, .junk, .junk, .junk, .junk, .junk, .junk, .junk, .junk, .junk, .junk, .junk, .junk, .junk, .junk, .junk, .junk, .junk, .junk, .junk, .junk, .junk, .junk, .junk, .junk, .junk, .junk, .junk, .junk, .junk, .junk], [⟨true, .sl nl 1 (xs.map int)⟩]⟩) (fun u => 0) () (by simp [sub, slotsLe, clean, keep, refsL, refs, once, place, renL, ren, List.replicate, int, bool, hc.refs, hc.ren, hc.killN]) ?_
  rintro ⟨⟩
  simp [List.range, List.range.loop, ints, intss, int, bool, row, frac, fracs, ← List.map_take, ← List.map_drop, List.eraseIdx, hc.res, hc.refs, hc.ren, hc.killN, h20, hat, hl]
  refine awp_loop_of (live := [true, true, true, false, false, false, true, true, true, true, false, false, false, true, false, false, false, false, false, false, false, false, false, false, false, false, false, false, false, false, true, false, false, false, false, true, false, false, false, false, false, false, false, false, false, false, false, false, false, false, false, false, false, false, true]) (ctxM_ok eqOk hG hM) mixed [true, true, true, false, false, false, true] (α := Unit) (fun u => ⟨[.ref 0 [] 0 xs.length, int xs.length, .fn g caps, .junk, .junk, .junk, int 20, .junk, .junk, .junk, .junk, .junk, .junk, .junk, .junk, .junk, .junk, .junk, .junk, .junk, .junk, .junk, .junk, .junk, .junk, .junk, .junk, .junk, .junk, .junk, .junk, .junk, .junk, .junk, .junk, .junk, .junk, .junk, .junk, .junk, .junk, .junk, .junk, .junk, .junk, .junk, .junk, .junk, .junk, .junk, .junk, .junk, .junk, .junk, .junk, .junk, .junk, .junk, .junk, .junk, .junk, .junk, .junk], [⟨true, .sl nl 1 ((isort c xs).map int)⟩]⟩) (fun u => 0) () (by simp [sub, slotsLe, clean, keep, refsL, refs, once, place, renL, ren, List.replicate, int, bool, hc.refs, hc.ren, hc.killN]) ?_
  rintro ⟨⟩
  simp [List.range, List.range.loop, ints, intss, int, bool, row, frac, fracs, ← List.map_take, ← List.map_drop, List.eraseIdx, hc.res, hc.refs, hc.ren, hc.killN, h20', hl]

/-- slices.SortStableFunc of fewer than twenty ints. -/
theorem sort_ok {g : FuncId} {caps : List AV} (hc : Pure caps) (c : Int → Int → Int) (nl : Bool) (xs : List Int) (hn : xs.length < 20)
    (hg : ∀ x ∈ xs, ∀ y ∈ xs, CallOk Try.prog g (.v (.int .i64 x) :: .v (.int .i64 y) :: caps) (.v (.int .i64 (c x y)))) :
    MutOk Try.prog 68 [ints nl xs, .fn g caps] 0 (.tup []) (ints nl (isort c xs)) := by
  have hi : FnMut Try.prog 92 (mkM (fun _ : Unit => True) (fun _ => [ints nl xs, int xs.length, .fn g caps]) (fun _ => (0, .tup [], ints nl (isort c xs)))) := mkM_ok fun _ _ => stable_ok hc c nl xs hn hg
  have hat : mkM (fun _ : Unit => True) (fun _ => [ints nl xs, int xs.length, .fn g caps]) (fun _ => (0, .tup [], ints nl (isort c xs))) [.sl nl 1 (xs.map int), .v (.int .i64 xs.length), .fn g caps] = some (0, .tup [], .sl nl 1 ((isort c xs).map int)) := mkM_eq (enc := fun _ : Unit => [ints nl xs, int xs.length, .fn g caps]) (x := ()) (fun _ _ _ => rfl) trivial
  generalize mkM (fun _ : Unit => True) (fun _ => [ints nl xs, int xs.length, .fn g caps]) (fun _ => (0, AV.tup [], ints nl (isort c xs))) = m at hi hat
  have hG : FnsOk Try.prog [] := .nil
  have hM : FnsMut Try.prog [(92, m)] := .cons hi .nil
  have hl := isort_len (c := c) xs
  refine mutOk_awp (ctxM_ok eqOk hG hM) mixed (live := [true, true]) (dt := []) (pos := 0) rfl Try.func68 rfl (by kernel_rfl) (by kernel_rfl) fun US Uv w0 hlens => ?_
  simp [Try.f68, List.range, List.range.loop, ints, intss, int, bool, row, frac, fracs, ← List.map_take, ← List.map_drop, List.eraseIdx, hc.res, hc.refs, hc.ren, hc.killN, hat, hl]

end Go.Proofs.Ytakladjlnkojjaa.Ax

/-
  Contracts: marks on lists of ints, and whether they stand. No condition.
-/
namespace Go.Proofs.Ytakladjlnkojjaa.Ax
open Go Go.RowKit
set_option linter.unusedSimpArgs false

/-- The marks from k on, so many. -/
def mkd (k : Int) (n : Nat) : List Int := (List.range n).map fun (i : Nat) => k + i
theorem mkd_len {k : Int} {n : Nat} : (mkd k n).length = n := by simp [mkd]
theorem mkd_take {k : Int} {n : Nat} : (mkd k n).take n = mkd k n := List.take_of_length_le (by simp [mkd_len])
theorem mkd_at {k : Int} {n i : Nat} (h : i < (mkd k n).length) : (mkd k n)[i] = k + i := by simp [mkd]
/-- A list whose first i numbers are marked. -/
def mkTo (k : Int) (xs : List Int) (i : Nat) : List Int := mkd k i ++ xs.drop i
theorem mkTo_len {k : Int} {xs : List Int} {i : Nat} (h : i ≤ xs.length) : (mkTo k xs i).length = xs.length := by simp [mkTo, mkd_len]; omega
theorem mkTo_zero {k : Int} {xs : List Int} : mkTo k xs 0 = xs := by simp [mkTo, mkd]
theorem mkTo_all {k : Int} {xs : List Int} : mkTo k xs xs.length = mkd k xs.length := by simp [mkTo]
theorem mkTo_set {k : Int} {xs : List Int} {i : Nat} (h : i < xs.length) : ((mkTo k xs i).map int).set i (.v (.int .i64 (k + i))) = (mkTo k xs (i + 1)).map int := by
  have : (AV.v (.int .i64 (k + i))) = int (k + i) := rfl
  rw [this, ← List.map_set]
  congr 1
  unfold mkTo
  rw [List.set_append, if_neg (by simp [mkd_len]), mkd_len, Nat.sub_self, drop_get h, List.set_cons_zero]
  simp [mkd, List.range_succ]

noncomputable def mMarkI : List AV → Option (Nat × AV × AV) := mkM (fun (p : Bool × List Int × Int) => 0 ≤ p.2.2 ∧ p.2.2 + p.2.1.length ≤ 2 ^ 62) (fun p => [ints p.1 p.2.1, int p.2.2]) (fun p => (0, int (p.2.2 + p.2.1.length), ints p.1 (mkd p.2.2 p.2.1.length)))
theorem mMarkI_at (nl : Bool) (xs : List Int) (k : Int) (h : 0 ≤ k ∧ k + xs.length ≤ 2 ^ 62) : mMarkI [.sl nl 1 (xs.map int), .v (.int .i64 k)] = some (0, .v (.int .i64 (k + xs.length)), .sl nl 1 ((mkd k xs.length).map int)) :=
  mkM_eq (enc := fun (p : Bool × List Int × Int) => [ints p.1 p.2.1, int p.2.2]) (x := (nl, xs, k)) (by rintro ⟨a, b, c⟩ ⟨d, e, f⟩ h; simp [ints, int, map_int_inj] at h; simp [h]) h

noncomputable def mHeldI : List AV → Option AV := mk (fun (p : Bool × Nat × Int) => 0 ≤ p.2.2 ∧ p.2.2 + p.2.1 ≤ 2 ^ 62) (fun p => [ints p.1 (mkd p.2.2 p.2.1), int p.2.2]) (fun p => int (p.2.2 + p.2.1))
theorem mHeldI_at (nl : Bool) (n : Nat) (k : Int) (h : 0 ≤ k ∧ k + n ≤ 2 ^ 62) : mHeldI [.sl nl 1 ((mkd k n).map int), .v (.int .i64 k)] = some (.v (.int .i64 (k + n))) :=
  mk_eq (enc := fun (p : Bool × Nat × Int) => [ints p.1 (mkd p.2.2 p.2.1), int p.2.2]) (x := (nl, n, k)) (by
    rintro ⟨a, b, c⟩ ⟨d, e, f⟩ h
    simp [ints, int, map_int_inj] at h
    obtain ⟨⟨_, h1⟩, h2⟩ := h
    have := congrArg List.length h1
    simp [mkd_len] at this
    simp [h2, this]) h

/-- Rows of which the first i are marked. -/
def mkRow (k : Int) (xss : List (Bool × List Int)) (j : Nat) : Bool × List Int := ((xss.getD j (true, [])).1, mkd (k + rowSum xss j) (xss.getD j (true, [])).2.length)
def mkRT (k : Int) (xss : List (Bool × List Int)) (i : Nat) : List (Bool × List Int) := (List.range xss.length).map fun j => if j < i then mkRow k xss j else xss.getD j (true, [])
def mkRS (k : Int) (xss : List (Bool × List Int)) : List (Bool × List Int) := (List.range xss.length).map (mkRow k xss)
theorem getDD {xss : List (Bool × List Int)} {i : Nat} (h : i < xss.length) : xss.getD i (true, []) = xss[i] := by simp [List.getD_eq_getElem?_getD, h]
theorem mkRT_len {k : Int} {xss : List (Bool × List Int)} {i : Nat} : (mkRT k xss i).length = xss.length := by simp [mkRT]
theorem mkRS_len {k : Int} {xss : List (Bool × List Int)} : (mkRS k xss).length = xss.length := by simp [mkRS]
theorem mkRS_take {k : Int} {xss : List (Bool × List Int)} : (mkRS k xss).take xss.length = mkRS k xss := List.take_of_length_le (by simp [mkRS_len])
theorem mkRT_zero {k : Int} {xss : List (Bool × List Int)} : mkRT k xss 0 = xss := by
  apply List.ext_getElem
  · simp [mkRT]
  · intro i h1 h2
    simp only [mkRT, List.getElem_map, List.getElem_range, Nat.not_lt_zero, if_false, getDD h2]
theorem mkRT_all {k : Int} {xss : List (Bool × List Int)} : mkRT k xss xss.length = mkRS k xss := by
  apply List.ext_getElem
  · simp [mkRT, mkRS]
  · intro i h1 h2
    have h3 : i < xss.length := by simpa [mkRS] using h2
    simp [mkRT, mkRS, h3]
theorem mkRT_at {k : Int} {xss : List (Bool × List Int)} {i : Nat} (h : i < xss.length) (h' : i < (mkRT k xss i).length) : (mkRT k xss i)[i] = xss[i] := by
  simp only [mkRT, List.getElem_map, List.getElem_range, Nat.lt_irrefl, if_false, getDD h]
theorem mkRS_at {k : Int} {xss : List (Bool × List Int)} {i : Nat} (h : i < xss.length) (h' : i < (mkRS k xss).length) : (mkRS k xss)[i] = (xss[i].1, mkd (k + rowSum xss i) xss[i].2.length) := by
  simp only [mkRS, List.getElem_map, List.getElem_range, mkRow, getDD h]
theorem mkRT_set {k : Int} {xss : List (Bool × List Int)} {i : Nat} (h : i < xss.length) : ((mkRT k xss i).map row).set i (.sl xss[i].1 1 ((mkd (k + rowSum xss i) xss[i].2.length).map int)) = (mkRT k xss (i + 1)).map row := by
  have : (AV.sl xss[i].1 1 ((mkd (k + rowSum xss i) xss[i].2.length).map int)) = row (mkRow k xss i) := by simp only [row, mkRow, getDD h]
  rw [this, ← List.map_set]
  congr 1
  apply List.ext_getElem
  · simp [mkRT]
  · intro j h1 h2
    rw [List.getElem_set]
    simp only [mkRT, List.getElem_map, List.getElem_range]
    by_cases e : i = j
    · subst e; simp
    · rw [if_neg e]
      by_cases h3 : j < i
      · rw [if_pos h3, if_pos (by omega)]
      · rw [if_neg h3, if_neg (by omega)]

theorem need_own {xss : List (Bool × List Int)} : need (own xss) = need xss := by
  unfold need rowSum own; simp [← List.map_take, Function.comp_def]

noncomputable def mMarkII : List AV → Option (Nat × AV × AV) := mkM (fun (p : Bool × List (Bool × List Int) × Int) => 0 ≤ p.2.2 ∧ p.2.2 + need p.2.1 ≤ 2 ^ 61) (fun p => [intss p.1 p.2.1, int p.2.2]) (fun p => (0, int (p.2.2 + rowSum p.2.1 p.2.1.length), intss p.1 (mkRS p.2.2 p.2.1)))
theorem mMarkII_at (nl : Bool) (xss : List (Bool × List Int)) (k : Int) (h : 0 ≤ k ∧ k + need xss ≤ 2 ^ 61) : mMarkII [.sl nl 1 (xss.map row), .v (.int .i64 k)] = some (0, .v (.int .i64 (k + rowSum xss xss.length)), .sl nl 1 ((mkRS k xss).map row)) :=
  mkM_eq (enc := fun (p : Bool × List (Bool × List Int) × Int) => [intss p.1 p.2.1, int p.2.2]) (x := (nl, xss, k)) (by rintro ⟨a, b, c⟩ ⟨d, e, f⟩ h; simp [intss, int, map_row_inj] at h; simp [h]) h

noncomputable def mHeldII : List AV → Option AV := mk (fun (p : Bool × List (Bool × List Int) × Int) => 0 ≤ p.2.2 ∧ p.2.2 + need p.2.1 ≤ 2 ^ 61) (fun p => [intss p.1 (mkRS p.2.2 p.2.1), int p.2.2]) (fun p => int (p.2.2 + ((mkRS p.2.2 p.2.1).map (·.2.length)).sum))
theorem mkRS_sum {k : Int} {xss : List (Bool × List Int)} : ((mkRS k xss).map (·.2.length)).sum = rowSum xss xss.length := by
  have : (mkRS k xss).map (·.2.length) = xss.map (·.2.length) := by
    apply List.ext_getElem
    · simp [mkRS]
    · intro i h1 h2
      have h3 : i < xss.length := by simpa using h2
      rw [List.getElem_map, List.getElem_map, mkRS_at h3]; simp [mkd_len]
  rw [this]; simp [rowSum]
theorem mHeldII_at (nl : Bool) (xss : List (Bool × List Int)) (k : Int) (h : 0 ≤ k ∧ k + need xss ≤ 2 ^ 61) : mHeldII [.sl nl 1 ((mkRS k xss).map row), .v (.int .i64 k)] = some (.v (.int .i64 (k + rowSum xss xss.length))) := by
  refine (mk_eq (enc := fun p : Bool × List (Bool × List Int) × Int => [intss p.1 (mkRS p.2.2 p.2.1), int p.2.2]) (x := (nl, xss, k)) (by
    rintro ⟨a, b, c⟩ ⟨d, e, f⟩ h
    simp [intss, int, map_row_inj] at h
    obtain ⟨⟨_, h1⟩, rfl⟩ := h
    simp only [h1]) h).trans ?_
  simp only [int, mkRS_sum]

end Go.Proofs.Ytakladjlnkojjaa.Ax
