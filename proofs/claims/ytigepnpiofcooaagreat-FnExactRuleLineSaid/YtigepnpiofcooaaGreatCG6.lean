/-
  Contracts: a short list of ints is sorted by a function, stably (slices.SortStableFunc). No condition.
-/
import Derived.Test.YtigepnpiofcooaaGreatCB1
import Derived.Test.YtigepnpiofcooaaGreatCK4
import Derived.Test.YtigepnpiofcooaaGreatCG5
import Derived.Test.YtigepnpiofcooaaGreatCG1
import Derived.Test.YtigepnpiofcooaaGreatCG2
namespace Go.Proofs.YtigepnpiofcooaaGreat.Ax
open Go Go.RowKit
set_option linter.unusedSimpArgs false
theorem Pure.killN {caps : List AV} (hc : Pure caps) (k : Nat) : killNL k caps = caps := killNL_id' k caps (by rw [hc.refs]; simp)
def insFrom (c : Int → Int → Int) (ys : List Int) (x : Int) : Nat → List Int
  | 0 => x :: ys
  | k + 1 => if c x (ys.getD k 0) < 0 then insFrom c ys x k else ys.take (k + 1) ++ x :: ys.drop (k + 1)
def ins (c : Int → Int → Int) (ys : List Int) (x : Int) : List Int := insFrom c ys x ys.length
def isort (c : Int → Int → Int) (xs : List Int) : List Int := xs.foldl (ins c) []
theorem insFrom_len {c : Int → Int → Int} {ys : List Int} {x : Int} : ∀ {k : Nat}, (insFrom c ys x k).length = ys.length + 1
  | 0 => rfl
  | k + 1 => by
    unfold insFrom
    split
    · exact insFrom_len
    · simp; omega
theorem mem_insFrom {c : Int → Int → Int} {ys : List Int} {x y : Int} : ∀ {k : Nat}, y ∈ insFrom c ys x k ↔ y = x ∨ y ∈ ys
  | 0 => by simp [insFrom]
  | k + 1 => by
    unfold insFrom
    split
    · exact mem_insFrom
    · rw [List.mem_append, List.mem_cons]
      conv => rhs; rw [← List.take_append_drop (k + 1) ys, List.mem_append]
      constructor
      · rintro (h | h | h)
        · exact .inr (.inl h)
        · exact .inl h
        · exact .inr (.inr h)
      · rintro (h | h | h)
        · exact .inr (.inl h)
        · exact .inl h
        · exact .inr (.inr h)
theorem isort_snoc {c : Int → Int → Int} {xs : List Int} {x : Int} : isort c (xs ++ [x]) = ins c (isort c xs) x := by simp [isort, List.foldl_append]
theorem isort_len {c : Int → Int → Int} (xs : List Int) : (isort c xs).length = xs.length := by
  unfold isort
  suffices h : ∀ (xs ys : List Int), (xs.foldl (ins c) ys).length = ys.length + xs.length by simpa using h xs []
  intro xs
  induction xs with
  | nil => intro ys; simp
  | cons x xs ih => intro ys; simp only [List.foldl_cons]; rw [ih]; simp [ins, insFrom_len]; omega
theorem isort_mem {c : Int → Int → Int} {xs : List Int} {y : Int} : y ∈ isort c xs ↔ y ∈ xs := by
  unfold isort
  suffices h : ∀ (xs ys : List Int), y ∈ xs.foldl (ins c) ys ↔ y ∈ ys ∨ y ∈ xs by simpa using h xs []
  intro xs
  induction xs with
  | nil => intro ys; simp
  | cons x xs ih =>
    intro ys
    simp only [List.foldl_cons]
    rw [ih]
    simp only [ins, mem_insFrom, List.mem_cons]
    constructor
    · rintro ((h | h) | h)
      · exact .inr (.inl h)
      · exact .inl h
      · exact .inr (.inr h)
    · rintro (h | h | h)
      · exact .inl (.inr h)
      · exact .inl (.inl h)
      · exact .inr h
def midd (ys : List Int) (x : Int) (j : Nat) (rest : List Int) : List Int := ys.take j ++ x :: (ys.drop j ++ rest)
theorem midd_len {ys rest : List Int} {x : Int} {j : Nat} : (midd ys x j rest).length = ys.length + 1 + rest.length := by simp [midd]; omega
theorem midd_at {ys rest : List Int} {x : Int} {j : Nat} (h : j ≤ ys.length) : (midd ys x j rest)[j]? = some x := by
  unfold midd
  rw [List.getElem?_append_right (by simp; omega)]
  simp [Nat.min_eq_left h]
theorem midd_before {ys rest : List Int} {x : Int} {k : Nat} (h : k + 1 ≤ ys.length) : (midd ys x (k + 1) rest)[k]? = some (ys.getD k 0) := by
  unfold midd
  rw [List.getElem?_append_left (by simp; omega), List.getElem?_take, if_pos (by omega), List.getElem?_eq_getElem (by omega), List.getD_eq_getElem?_getD, List.getElem?_eq_getElem (by omega)]
  rfl
theorem midd_swap {ys rest : List Int} {x : Int} {k : Nat} (h : k + 1 ≤ ys.length) :
    (((midd ys x (k + 1) rest).map int).set (k + 1) (.v (.int .i64 (ys.getD k 0)))).set k (.v (.int .i64 x)) = (midd ys x k rest).map int := by
  have e1 : AV.v (.int .i64 (ys.getD k 0)) = int (ys.getD k 0) := rfl
  have e2 : AV.v (.int .i64 x) = int x := rfl
  rw [e1, e2, ← List.map_set, ← List.map_set]
  congr 1
  obtain ⟨az, y, bz, rfl, rfl⟩ : ∃ az y bz, ys = az ++ y :: bz ∧ k = az.length := by
    refine ⟨ys.take k, ys[k], ys.drop (k + 1), ?_, by simp; omega⟩
    rw [List.getElem_cons_drop, List.take_append_drop]
  have t1 : az.take (az.length + 1) = az := List.take_of_length_le (by omega)
  have t2 : az.drop (az.length + 1) = [] := List.drop_of_length_le (by omega)
  simp [midd, List.take_append, List.drop_append, t1, t2]
theorem midd_all {ys : List Int} {x : Int} {rest : List Int} : midd ys x ys.length rest = ys ++ x :: rest := by simp [midd]
def srtTo (c : Int → Int → Int) (xs : List Int) (i : Nat) : List Int := isort c (xs.take i) ++ xs.drop i
theorem srtTo_one {c : Int → Int → Int} {xs : List Int} : srtTo c xs 1 = xs := by
  cases xs with
  | nil => rfl
  | cons x xs => simp [srtTo, isort, ins, insFrom]
theorem srtTo_all {c : Int → Int → Int} {xs : List Int} {i : Nat} (h : xs.length ≤ i) : srtTo c xs i = isort c xs := by
  simp [srtTo, List.take_of_length_le h, List.drop_of_length_le h]
theorem srtTo_mid {c : Int → Int → Int} {xs : List Int} {i : Nat} (h : i < xs.length) : srtTo c xs i = midd (isort c (xs.take i)) xs[i] (isort c (xs.take i)).length (xs.drop (i + 1)) := by
  rw [midd_all, srtTo, List.getElem_cons_drop]
theorem srtTo_done {c : Int → Int → Int} {xs : List Int} {i j : Nat} (h : i < xs.length) (hi : insFrom c (isort c (xs.take i)) xs[i] j = ins c (isort c (xs.take i)) xs[i])
    (hj : j = 0 ∨ ∃ k, j = k + 1 ∧ ¬ c xs[i] ((isort c (xs.take i)).getD k 0) < 0) : midd (isort c (xs.take i)) xs[i] j (xs.drop (i + 1)) = srtTo c xs (i + 1) := by
  unfold srtTo
  rw [List.take_succ_eq_append_getElem h, isort_snoc, ← hi]
  rcases hj with rfl | ⟨k, rfl, hk⟩
  · simp [midd, insFrom]
  · rw [insFrom, if_neg hk]
    simp [midd]
set_option maxHeartbeats 2000000 in
theorem insertion_ok {g : FuncId} {caps : List AV} (hc : Pure caps) (c : Int → Int → Int) (nl : Bool) (xs : List Int) (hn : xs.length ≤ 1000)
    (hg : ∀ x ∈ xs, ∀ y ∈ xs, CallOk Tryz.prog g (.v (.int .i64 x) :: .v (.int .i64 y) :: caps) (.v (.int .i64 (c x y)))) :
    MutOk Tryz.prog 160 [ints nl xs, int 0, int xs.length, .fn g caps] 0 (.tup []) (ints nl (isort c xs)) := by
  have hG : FnsOk Tryz.prog [(g, mk (fun p : Int × Int => p.1 ∈ xs ∧ p.2 ∈ xs) (fun p : Int × Int => .v (.int .i64 p.1) :: .v (.int .i64 p.2) :: caps) (fun p => .v (.int .i64 (c p.1 p.2))))] := .cons (mk_ok fun p hp => hg p.1 hp.1 p.2 hp.2) .nil
  have hat : ∀ x y, x ∈ xs → y ∈ xs → mk (fun p : Int × Int => p.1 ∈ xs ∧ p.2 ∈ xs) (fun p : Int × Int => (.v (.int .i64 p.1) : AV) :: .v (.int .i64 p.2) :: caps) (fun p => AV.v (.int .i64 (c p.1 p.2))) (.v (.int .i64 x) :: .v (.int .i64 y) :: caps) = some (.v (.int .i64 (c x y))) := fun x y hx hy =>
    mk_eq (enc := fun p : Int × Int => (.v (.int .i64 p.1) : AV) :: .v (.int .i64 p.2) :: caps) (x := (x, y)) (by rintro ⟨a, b⟩ ⟨d, e⟩ h; simp at h; simp [h]) ⟨hx, hy⟩
  generalize mk (fun p : Int × Int => p.1 ∈ xs ∧ p.2 ∈ xs) (fun p : Int × Int => (.v (.int .i64 p.1) : AV) :: .v (.int .i64 p.2) :: caps) (fun p => AV.v (.int .i64 (c p.1 p.2))) = m at hG hat
  refine mutOk_awp (ctx_ok eqOk hG) mixed (live := [true, true, true, true, false, false, false, false, true, true, false, false, false, false, true, false, false, false, false, false, false, false, false, false, false, false, false, false, false, false, false, false, false, false, true]) (dt := [(4, ⟨[], [], []⟩), (6, ⟨[(4, 15)], [], []⟩)]) (pos := 0) rfl Tryz.func160 rfl (by kernel_rfl) (by kernel_rfl) fun US Uv w0 hlens => ?_
  have w1 : IntKind.i64.wrap 1 = 1 := by decide
  have hs1 := srtTo_one (c := c) (xs := xs)
  simp [Tryz.f160, List.range, List.range.loop, ints, intss, int, bool, row, frac, fracs, ← List.map_take, ← List.map_drop, hc.res, hc.refs, hc.ren, hc.killN]
  refine awp_range (live := [true, true, true, true, false, false, false, false, true, true, false, false, false, false, true, false, false, false, false, false, false, false, false, false, false, false, false, false, false, false, false, false, false, false, true]) (ctx_ok eqOk hG) mixed [true, true, true, true, false, false, false, false, true] (xs.length - 1) (fun k => True) (fun k => ⟨[.ref 0 [] 0 xs.length, int 0, int xs.length, .fn g caps, .junk, .junk, .junk, .junk, int ((k : Int) + 1), .junk, .junk, .junk, .junk, .junk, .junk, .junk, .junk, .junk, .junk, .junk, .junk, .junk, .junk, .junk, .junk, .junk, .junk, .junk, .junk, .junk, .junk, .junk, .junk, .junk, .junk, .junk, .junk, .junk, .junk, .junk, .junk, .junk, .junk, .junk, .junk, .junk, .junk, .junk, .junk, .junk, .junk, .junk, .junk], [⟨true, .sl nl 1 ((srtTo c xs (k + 1)).map int)⟩]⟩) ?_ (by simp [sub, slotsLe, clean, keep, refsL, refs, once, place, renL, ren, List.replicate, int, bool, hs1, w1, hc.refs, hc.ren, hc.killN]) ?_ ?_ ?_
  · omega
  · trivial
  · intro k hk _ hwk
    have hk1 : k + 1 < xs.length := by omega
    have hlt : ((k : Int) + 1 < (xs.length : Int)) := by omega
    have hw2 : IntKind.i64.wrap ((k : Int) + 1 + 1) = (k : Int) + 1 + 1 := wrapI (by omega) (by omega)
    have hmid := srtTo_mid (c := c) hk1
    have hyl : (isort c (xs.take (k + 1))).length = k + 1 := by rw [isort_len]; simp; omega
    have hys : ∀ y ∈ isort c (xs.take (k + 1)), y ∈ xs := fun y hy => List.mem_of_mem_take (isort_mem.1 hy)
    have hdone := fun j => srtTo_done (c := c) (j := j) hk1
    have hx : xs[k + 1] ∈ xs := List.getElem_mem hk1
    rw [hmid, hyl]
    generalize isort c (xs.take (k + 1)) = ys at hyl hys hdone
    generalize xs[k + 1] = x at hx hdone
    simp (config := {contextual := true}) [List.range, List.range.loop, ints, intss, int, bool, row, frac, fracs, ← List.map_take, ← List.map_drop, hc.res, hc.refs, hc.ren, hc.killN, hlt]
    refine awp_loop_of (live := [true, true, true, true, false, false, false, false, true, true, false, false, false, false, true, false, false, false, false, false, false, false, false, false, false, false, false, false, false, false, false, false, false, false, true]) (ctx_ok eqOk hG) mixed [true, true, true, true, false, false, false, false, true, true] (α := {j : Nat // j ≤ k + 1 ∧ insFrom c ys x j = ins c ys x}) (fun j => ⟨[.ref 0 [] 0 xs.length, int 0, int xs.length, .fn g caps, .junk, .junk, .junk, .junk, int ((k : Int) + 1), int (j.1 : Int), .junk, .junk, .junk, .junk, .junk, .junk, .junk, .junk, .junk, .junk, .junk, .junk, .junk, .junk, .junk, .junk, .junk, .junk, .junk, .junk, .junk, .junk, .junk, .junk, .junk, .junk, .junk, .junk, .junk, .junk, .junk, .junk, .junk, .junk, .junk, .junk, .junk, .junk, .junk, .junk, .junk, .junk, .junk], [⟨true, .sl nl 1 ((midd ys x j.1 (xs.drop (k + 1 + 1))).map int)⟩]⟩) (fun j => j.1) ⟨k + 1, Nat.le_refl _, by rw [ins, hyl]⟩ (by simp [sub, slotsLe, clean, keep, refsL, refs, once, place, renL, ren, List.replicate, int, bool, hc.refs, hc.ren, hc.killN]) ?_
    rintro ⟨j, hj, hji⟩
    have hml := midd_len (ys := ys) (x := x) (j := j) (rest := xs.drop (k + 1 + 1))
    have hml2 : (midd ys x j (xs.drop (k + 1 + 1))).length = xs.length := by rw [hml, hyl]; simp; omega
    cases j with
    | zero =>
      have hd := hdone 0 hji (.inl rfl)
      simp (config := {contextual := true}) [List.range, List.range.loop, ints, intss, int, bool, row, frac, fracs, ← List.map_take, ← List.map_drop, hc.res, hc.refs, hc.ren, hc.killN, hd, hw2, hml2, List.eraseIdx]
      done
    | succ j =>
      have hjl : j + 1 < xs.length := by omega
      have hjl2 : j < xs.length := by omega
      have hgt : (0 < (j : Int) + 1) := by omega
      have hwj : IntKind.i64.wrap (j : Int) = j := wrapI (by omega) (by omega)
      obtain ⟨_, a1⟩ := List.getElem?_eq_some_iff.1 (midd_at (ys := ys) (x := x) (j := j + 1) (rest := xs.drop (k + 1 + 1)) (by omega))
      obtain ⟨_, a2⟩ := List.getElem?_eq_some_iff.1 (midd_before (ys := ys) (x := x) (k := j) (rest := xs.drop (k + 1 + 1)) (by omega))
      have a3 := midd_swap (ys := ys) (x := x) (k := j) (rest := xs.drop (k + 1 + 1)) (by omega)
      have hyj : ys.getD j 0 ∈ xs := hys _ (by rw [List.getD_eq_getElem?_getD, List.getElem?_eq_getElem (by omega)]; exact List.getElem_mem _)
      have hc1 := hat x (ys.getD j 0) hx hyj
      have hd := fun h => hdone (j + 1) hji (.inr ⟨j, rfl, h⟩)
      have hml3 : (midd ys x j (xs.drop (k + 1 + 1))).length = xs.length := by rw [midd_len, hyl]; simp; omega
      rw [insFrom] at hji
      generalize ys.getD j 0 = y at *
      by_cases hcc : c x y < 0
      · rw [if_pos hcc] at hji
        simp (config := {contextual := true}) [List.range, List.range.loop, ints, intss, int, bool, row, frac, fracs, ← List.map_take, ← List.map_drop, hc.res, hc.refs, hc.ren, hc.killN, hml2, hml3, hjl, hjl2, hgt, hwj, a1, a2, a3, hc1, hcc, List.eraseIdx]
        exact ⟨⟨j, by omega, hji⟩, by simp [sub, slotsLe, clean, keep, refsL, refs, once, place, renL, ren, List.replicate, int, bool, hc.refs, hc.ren, hc.killN], by simp⟩
      · have hd := hd hcc
        simp (config := {contextual := true}) [List.range, List.range.loop, ints, intss, int, bool, row, frac, fracs, ← List.map_take, ← List.map_drop, hc.res, hc.refs, hc.ren, hc.killN, hml2, hml3, hjl, hjl2, hgt, hwj, a1, a2, hc1, hcc, hw2, List.eraseIdx]
        rw [hd]
  · intro _
    have hlt : ¬ (((xs.length - 1 : Nat) : Int) + 1 < (xs.length : Int)) := by omega
    have ha := srtTo_all (c := c) (xs := xs) (i := xs.length - 1 + 1) (by omega)
    have hil := isort_len (c := c) xs
    simp (config := {contextual := true}) [List.range, List.range.loop, ints, intss, int, bool, row, frac, fracs, ← List.map_take, ← List.map_drop, hc.res, hc.refs, hc.ren, hc.killN, hlt, ha, hil, List.eraseIdx]
    done
set_option maxHeartbeats 2000000 in
theorem stable_ok {g : FuncId} {caps : List AV} (hc : Pure caps) (c : Int → Int → Int) (nl : Bool) (xs : List Int) (hn : xs.length < 20)
    (hg : ∀ x ∈ xs, ∀ y ∈ xs, CallOk Tryz.prog g (.v (.int .i64 x) :: .v (.int .i64 y) :: caps) (.v (.int .i64 (c x y)))) :
    MutOk Tryz.prog 149 [ints nl xs, int xs.length, .fn g caps] 0 (.tup []) (ints nl (isort c xs)) := by
  have hi : FnMut Tryz.prog 160 (mkM (fun _ : Unit => True) (fun _ => [ints nl xs, int 0, int xs.length, .fn g caps]) (fun _ => (0, .tup [], ints nl (isort c xs)))) := mkM_ok fun _ _ => insertion_ok hc c nl xs (by omega) hg
  have hat : mkM (fun _ : Unit => True) (fun _ => [ints nl xs, int 0, int xs.length, .fn g caps]) (fun _ => (0, .tup [], ints nl (isort c xs))) [.sl nl 1 (xs.map int), .v (.int .i64 0), .v (.int .i64 xs.length), .fn g caps] = some (0, .tup [], .sl nl 1 ((isort c xs).map int)) := mkM_eq (enc := fun _ : Unit => [ints nl xs, int 0, int xs.length, .fn g caps]) (x := ()) (fun _ _ _ => rfl) trivial
  generalize mkM (fun _ : Unit => True) (fun _ => [ints nl xs, int 0, int xs.length, .fn g caps]) (fun _ => (0, AV.tup [], ints nl (isort c xs))) = m at hi hat
  have hG : FnsOk Tryz.prog [] := .nil
  have hM : FnsMut Tryz.prog [(160, m)] := .cons hi .nil
  have hl := isort_len (c := c) xs
  have h20 : ¬ (20 : Int) ≤ xs.length := by omega
  have h20' : ¬ (20 : Int) < xs.length := by omega
  refine mutOk_awp (ctxM_ok eqOk hG hM) mixed (live := [true, true, true, false, false, false, true, true, true, true, false, false, false, true, false, false, false, false, false, false, false, false, false, false, false, false, false, false, false, false, true, false, false, false, false, true, false, false, false, false, false, false, false, false, false, false, false, false, false, false, false, false, false, false, true]) (dt := []) (pos := 0) rfl Tryz.func149 rfl (by kernel_rfl) (by kernel_rfl) fun US Uv w0 hlens => ?_
  simp [Tryz.f149, List.range, List.range.loop, ints, intss, int, bool, row, frac, fracs, ← List.map_take, ← List.map_drop, hc.res, hc.refs, hc.ren, hc.killN]
  refine awp_loop_of (live := [true, true, true, false, false, false, true, true, true, true, false, false, false, true, false, false, false, false, false, false, false, false, false, false, false, false, false, false, false, false, true, false, false, false, false, true, false, false, false, false, false, false, false, false, false, false, false, false, false, false, false, false, false, false, true]) (ctxM_ok eqOk hG hM) mixed [true, true, true, false, false, false, true, true, true] (α := Unit) (fun u => ⟨[.ref 0 [] 0 xs.length, int xs.length, .fn g caps, .junk, .junk, .junk, int 20, int 0, int 20, .junk, .junk, .junk, .junk, .junk, .junk, .junk, .junk, .junk, .junk, .junk, .junk, .junk, .junk, .junk, .junk, .junk, .junk, .junk, .junk, .junk, .junk, .junk, .junk, .junk, .junk, .junk, .junk, .junk, .junk, .junk, .junk, .junk, .junk, .junk, .junk, .junk, .junk, .junk, .junk, .junk, .junk, .junk, .junk, .junk, .junk, .junk, .junk, .junk, .junk, .junk, .junk, .junk, .junk], [⟨true, .sl nl 1 (xs.map int)⟩]⟩) (fun u => 0) () (by simp [sub, slotsLe, clean, keep, refsL, refs, once, place, renL, ren, List.replicate, int, bool, hc.refs, hc.ren, hc.killN]) ?_
  rintro ⟨⟩
  simp [List.range, List.range.loop, ints, intss, int, bool, row, frac, fracs, ← List.map_take, ← List.map_drop, List.eraseIdx, hc.res, hc.refs, hc.ren, hc.killN, h20, hat, hl]
  refine awp_loop_of (live := [true, true, true, false, false, false, true, true, true, true, false, false, false, true, false, false, false, false, false, false, false, false, false, false, false, false, false, false, false, false, true, false, false, false, false, true, false, false, false, false, false, false, false, false, false, false, false, false, false, false, false, false, false, false, true]) (ctxM_ok eqOk hG hM) mixed [true, true, true, false, false, false, true] (α := Unit) (fun u => ⟨[.ref 0 [] 0 xs.length, int xs.length, .fn g caps, .junk, .junk, .junk, int 20, .junk, .junk, .junk, .junk, .junk, .junk, .junk, .junk, .junk, .junk, .junk, .junk, .junk, .junk, .junk, .junk, .junk, .junk, .junk, .junk, .junk, .junk, .junk, .junk, .junk, .junk, .junk, .junk, .junk, .junk, .junk, .junk, .junk, .junk, .junk, .junk, .junk, .junk, .junk, .junk, .junk, .junk, .junk, .junk, .junk, .junk, .junk, .junk, .junk, .junk, .junk, .junk, .junk, .junk, .junk, .junk], [⟨true, .sl nl 1 ((isort c xs).map int)⟩]⟩) (fun u => 0) () (by simp [sub, slotsLe, clean, keep, refsL, refs, once, place, renL, ren, List.replicate, int, bool, hc.refs, hc.ren, hc.killN]) ?_
  rintro ⟨⟩
  simp [List.range, List.range.loop, ints, intss, int, bool, row, frac, fracs, ← List.map_take, ← List.map_drop, List.eraseIdx, hc.res, hc.refs, hc.ren, hc.killN, h20', hl]
theorem sort_ok {g : FuncId} {caps : List AV} (hc : Pure caps) (c : Int → Int → Int) (nl : Bool) (xs : List Int) (hn : xs.length < 20)
    (hg : ∀ x ∈ xs, ∀ y ∈ xs, CallOk Tryz.prog g (.v (.int .i64 x) :: .v (.int .i64 y) :: caps) (.v (.int .i64 (c x y)))) :
    MutOk Tryz.prog 119 [ints nl xs, .fn g caps] 0 (.tup []) (ints nl (isort c xs)) := by
  have hi : FnMut Tryz.prog 149 (mkM (fun _ : Unit => True) (fun _ => [ints nl xs, int xs.length, .fn g caps]) (fun _ => (0, .tup [], ints nl (isort c xs)))) := mkM_ok fun _ _ => stable_ok hc c nl xs hn hg
  have hat : mkM (fun _ : Unit => True) (fun _ => [ints nl xs, int xs.length, .fn g caps]) (fun _ => (0, .tup [], ints nl (isort c xs))) [.sl nl 1 (xs.map int), .v (.int .i64 xs.length), .fn g caps] = some (0, .tup [], .sl nl 1 ((isort c xs).map int)) := mkM_eq (enc := fun _ : Unit => [ints nl xs, int xs.length, .fn g caps]) (x := ()) (fun _ _ _ => rfl) trivial
  generalize mkM (fun _ : Unit => True) (fun _ => [ints nl xs, int xs.length, .fn g caps]) (fun _ => (0, AV.tup [], ints nl (isort c xs))) = m at hi hat
  have hG : FnsOk Tryz.prog [] := .nil
  have hM : FnsMut Tryz.prog [(149, m)] := .cons hi .nil
  have hl := isort_len (c := c) xs
  refine mutOk_awp (ctxM_ok eqOk hG hM) mixed (live := [true, true]) (dt := []) (pos := 0) rfl Tryz.func119 rfl (by kernel_rfl) (by kernel_rfl) fun US Uv w0 hlens => ?_
  simp [Tryz.f119, List.range, List.range.loop, ints, intss, int, bool, row, frac, fracs, ← List.map_take, ← List.map_drop, List.eraseIdx, hc.res, hc.refs, hc.ren, hc.killN, hat, hl]
end Go.Proofs.YtigepnpiofcooaaGreat.Ax
namespace Go.Proofs.YtigepnpiofcooaaGreat.Ax
open Go Go.RowKit
set_option linter.unusedSimpArgs false
end Go.Proofs.YtigepnpiofcooaaGreat.Ax
namespace Go.Proofs.YtigepnpiofcooaaGreat.Ax
open Go Go.RowKit
set_option linter.unusedSimpArgs false
section
variable {c : Int → Int → Int} {le : Int → Int → Prop} {D : Int → Prop}
theorem ins_split (hc : ∀ x y, D x → D y → (c x y < 0 ↔ ¬ le y x)) (htr : ∀ x y z, D x → D y → D z → le x y → le y z → le x z) {ys : List Int} {x : Int} {k : Nat} (hD : ∀ y ∈ ys, D y) (hx : D x) (hs : ys.Pairwise le) (hk : k ≤ ys.length)
    (h1 : ∀ i (h : i < ys.length), i < k → le ys[i] x) (h2 : k = ys.length ∨ ∃ h : k < ys.length, ¬ le ys[k] x) : ins c ys x = ys.take k ++ x :: ys.drop k := by
  have key : ∀ m, k ≤ m → m ≤ ys.length → insFrom c ys x m = ys.take k ++ x :: ys.drop k := by
    intro m
    induction m with
    | zero => intro hkm _; obtain rfl : k = 0 := by omega
              simp [insFrom]
    | succ m ih =>
      intro hkm hml
      have hml' : m < ys.length := by omega
      have hg : ys.getD m 0 = ys[m] := by simp [List.getD_eq_getElem?_getD, hml']
      have hDm : D ys[m] := hD _ (List.getElem_mem _)
      by_cases e : k = m + 1
      · subst e
        have hle := h1 m hml' (by omega)
        rw [insFrom, hg, if_neg (fun h => ((hc x ys[m] hx hDm).1 h) hle)]
      · rw [insFrom, hg, if_pos, ih (by omega) (by omega)]
        refine (hc x ys[m] hx hDm).2 fun hle => ?_
        rcases h2 with h2 | ⟨hkl, h2⟩
        · omega
        · by_cases e2 : k = m
          · subst e2; exact h2 hle
          · exact h2 (htr _ _ _ (hD _ (List.getElem_mem _)) hDm hx (List.pairwise_iff_getElem.1 hs k m hkl hml' (by omega)) hle)
  exact key ys.length hk (Nat.le_refl _)
theorem split_at (le : Int → Int → Prop) (x : Int) : ∀ ys : List Int, ∃ k, k ≤ ys.length ∧ (∀ i (h : i < ys.length), i < k → le ys[i] x) ∧ (k = ys.length ∨ ∃ h : k < ys.length, ¬ le ys[k] x)
  | [] => ⟨0, by simp, fun i h => by simp at h, .inl rfl⟩
  | y :: ys => by
    by_cases hy : le y x
    · obtain ⟨k, h1, h2, h3⟩ := split_at le x ys
      refine ⟨k + 1, by simpa using h1, fun i h hi => ?_, ?_⟩
      · cases i with
        | zero => exact hy
        | succ i => exact h2 i (by simpa using h) (by omega)
      · rcases h3 with h3 | ⟨h3, h4⟩
        · left; simp [h3]
        · right; exact ⟨by simpa using h3, h4⟩
    · exact ⟨0, by simp, fun i _ hi => by omega, .inr ⟨by simp, hy⟩⟩
theorem ins_sorted (hc : ∀ x y, D x → D y → (c x y < 0 ↔ ¬ le y x)) (htr : ∀ x y z, D x → D y → D z → le x y → le y z → le x z) (hto : ∀ x y, D x → D y → ¬ le y x → le x y) {ys : List Int} {x : Int} (hD : ∀ y ∈ ys, D y) (hx : D x) (hs : ys.Pairwise le) : (ins c ys x).Pairwise le := by
  obtain ⟨k, h1, h2, h3⟩ := split_at le x ys
  rw [ins_split hc htr hD hx hs h1 h2 h3]
  have hkey : ∀ j (h : j < ys.length), k ≤ j → le x ys[j] := fun j hj hkj => by
    rcases h3 with h3 | ⟨hkl, h3⟩
    · omega
    · have hxk := hto _ _ hx (hD _ (List.getElem_mem hkl)) h3
      by_cases e : k = j
      · subst e; exact hxk
      · exact htr _ _ _ hx (hD _ (List.getElem_mem hkl)) (hD _ (List.getElem_mem hj)) hxk (List.pairwise_iff_getElem.1 hs k j hkl hj (by omega))
  rw [List.pairwise_append, List.pairwise_cons]
  refine ⟨hs.take, ⟨fun y hy => ?_, hs.drop⟩, fun a ha b hb => ?_⟩
  · obtain ⟨i, hi, rfl⟩ := List.getElem_of_mem hy
    rw [List.getElem_drop]
    exact hkey _ _ (by omega)
  · obtain ⟨i, hi, rfl⟩ := List.getElem_of_mem ha
    rw [List.getElem_take]
    have hik : i < k := by simp at hi; omega
    have hil : i < ys.length := by omega
    rcases List.mem_cons.1 hb with rfl | hb
    · exact h2 i hil hik
    · obtain ⟨j, hj, rfl⟩ := List.getElem_of_mem hb
      rw [List.getElem_drop]
      exact List.pairwise_iff_getElem.1 hs i (k + j) hil (by simp at hj; omega) (by omega)
theorem isort_sorted (hc : ∀ x y, D x → D y → (c x y < 0 ↔ ¬ le y x)) (htr : ∀ x y z, D x → D y → D z → le x y → le y z → le x z) (hto : ∀ x y, D x → D y → ¬ le y x → le x y) (xs : List Int) (hD : ∀ y ∈ xs, D y) : (isort c xs).Pairwise le := by
  unfold isort
  suffices h : ∀ (xs ys : List Int), (∀ y ∈ xs, D y) → (∀ y ∈ ys, D y) → ys.Pairwise le → (xs.foldl (ins c) ys).Pairwise le from h xs [] hD (by simp) .nil
  intro xs
  induction xs with
  | nil => intro ys _ _ h; exact h
  | cons x xs ih =>
    intro ys h1 h2 h3
    refine ih _ (fun y hy => h1 y (by simp [hy])) (fun y hy => ?_) (ins_sorted hc htr hto h2 (h1 x (by simp)) h3)
    rcases mem_insFrom.1 hy with rfl | hy
    · exact h1 _ (by simp)
    · exact h2 y hy
end
def leR (u v : List Int) (x y : Int) : Prop := at0 u x.toNat * at0 v y.toNat ≤ at0 u y.toNat * at0 v x.toNat
instance {u v : List Int} {x y : Int} : Decidable (leR u v x y) := by unfold leR; infer_instance
def selTo (p : Nat → Bool) (k : Nat) : List Int := ((List.range k).filter p).map fun (i : Nat) => (i : Int)
theorem selTo_zero {p : Nat → Bool} : selTo p 0 = [] := rfl
theorem selTo_yes {p : Nat → Bool} {k : Nat} (h : p k = true) : selTo p (k + 1) = selTo p k ++ [(k : Int)] := by simp [selTo, List.range_succ, List.filter_append, h]
theorem selTo_no {p : Nat → Bool} {k : Nat} (h : p k = false) : selTo p (k + 1) = selTo p k := by simp [selTo, List.range_succ, List.filter_append, h]
theorem selTo_len {p : Nat → Bool} {k : Nat} : (selTo p k).length ≤ k := by
  unfold selTo
  rw [List.length_map]
  exact Nat.le_trans (List.length_filter_le _ _) (by simp)
theorem selTo_mem {p : Nat → Bool} {k : Nat} {x : Int} (h : x ∈ selTo p k) : ∃ i : Nat, x = i ∧ i < k ∧ p i = true := by
  simp only [selTo, List.mem_map, List.mem_filter, List.mem_range] at h
  obtain ⟨i, ⟨h1, h2⟩, rfl⟩ := h
  exact ⟨i, rfl, h1, h2⟩
end Go.Proofs.YtigepnpiofcooaaGreat.Ax
namespace Go.Proofs.YtigepnpiofcooaaGreat.Ax
open Go Go.RowKit
set_option linter.unusedSimpArgs false
def idx (n : Nat) : List Int := (List.range n).map fun (i : Nat) => (i : Int)
def idxTo (n k : Nat) : List Int := idx k ++ List.replicate (n - k) 0
theorem idx_len {n : Nat} : (idx n).length = n := by simp [idx]
theorem idxTo_len {n k : Nat} (h : k ≤ n) : (idxTo n k).length = n := by simp [idxTo, idx_len]; omega
theorem idxTo_set {n k : Nat} (h : k < n) : (idxTo n k).set k (k : Int) = idxTo n (k + 1) := by
  unfold idxTo
  rw [List.set_append_right _ _ (by simp [idx_len]), idx_len, Nat.sub_self, show n - k = (n - (k + 1)) + 1 by omega, List.replicate_succ, List.set_cons_zero]
  simp [idx, List.range_succ]
theorem idxTo_all {n : Nat} : idxTo n n = idx n := by simp [idxTo]
noncomputable def mIdx : List AV → Option AV := mk (fun p => p ≤ 1000) (fun (p : Nat) => [int (p : Int)]) (fun p => ints false (idx p))
theorem mIdx_at (n : Nat) (h : n ≤ 1000) : mIdx [.v (.int .i64 (n : Int))] = some (.sl false 1 ((idx n).map int)) :=
  mk_eq (enc := fun (p : Nat) => [int (p : Int)]) (x := n) (by intro a b h; simp [int] at h; exact (by omega : a = b) ▸ rfl) h
set_option maxHeartbeats 1000000 in
theorem indices_ok : FnOk Tryz.prog 86 mIdx := by
  refine mk_ok fun n hn => ?_
  have hG : FnsOk Tryz.prog [] := .nil
  refine callOk_awp (ctx_ok eqOk hG) mixed (live := [true, false, true, true, true, false, false, false, true, true, true]) (dt := []) Tryz.func86 rfl (by kernel_rfl) (by kernel_rfl) fun w0 hlens => ?_
  clear hlens
  have h1 : 8 * n ≤ 281474976710656 := by omega
  have h2 : n ≤ 4611686018427387904 := by omega
  simp (config := {contextual := true}) [Tryz.f86, List.range, List.range.loop, ints, intss, int, bool, row, frac, fracs, ← List.map_take, ← List.map_drop, h1, h2]
  refine awp_range (live := [true, false, true, true, true, false, false, false, true, true, true]) (ctx_ok eqOk hG) mixed [false, false, false, true, false, false, false, false, true, true] (n) (fun k => True) (fun k => ⟨[.junk, .junk, .junk, .ref 0 [] 0 n, .junk, .junk, .junk, .junk, int n, int k, .junk, .junk, .junk, .junk, .junk, .junk, .junk, .junk], [⟨true, .sl false 1 ((idxTo n k).map int)⟩]⟩) ?_ (by simp [sub, slotsLe, clean, keep, refsL, refs, once, place, renL, ren, List.replicate, int, bool, idxTo, idx]) ?_ ?_ ?_
  · omega
  · trivial
  · intro k hk _ hwk
    have hl := idxTo_len (n := n) (k := k) (by omega)
    have hs := idxTo_set hk
    have hl2 := idxTo_len (n := n) (k := k + 1) (by omega)
    have hs' : ((idxTo n k).map int).set k (.v (.int .i64 (k : Int))) = (idxTo n (k + 1)).map int := by rw [← hs, List.map_set]; rfl
    simp (config := {contextual := true}) [List.range, List.range.loop, ints, intss, int, bool, row, frac, fracs, ← List.map_take, ← List.map_drop, hk, hwk, hl, hl2, hs', -List.map_set]
    done
  · intro _
    have hl := idxTo_len (n := n) (k := n) (by omega)
    rw [idxTo_all] at hl
    simp (config := {contextual := true}) [List.range, List.range.loop, ints, intss, int, bool, row, frac, fracs, ← List.map_take, ← List.map_drop, hl, idxTo_all]
    done
end Go.Proofs.YtigepnpiofcooaaGreat.Ax
