/-
  Contracts: a short list of ints is sorted by a function, stably (slices.SortStableFunc). No condition.
-/
import Derived.Test.YtmeokgedldnohaaDoorCB2
import Derived.Test.YtmeokgedldnohaaDoorCK4
namespace Go.Proofs.YtmeokgedldnohaaDoor.Ax
open Go Go.RowKit
set_option linter.unusedSimpArgs false

theorem Pure.killN {caps : List AV} (hc : Pure caps) (k : Nat) : killNL k caps = caps := killNL_id' k caps (by rw [hc.refs]; simp)

/-- x steps to the left of the first k numbers as long as it is less than the next one there. -/
def insFrom (c : Int → Int → Int) (ys : List Int) (x : Int) : Nat → List Int
  | 0 => x :: ys
  | k + 1 => if c x (ys.getD k 0) < 0 then insFrom c ys x k else ys.take (k + 1) ++ x :: ys.drop (k + 1)
def ins (c : Int → Int → Int) (ys : List Int) (x : Int) : List Int := insFrom c ys x ys.length
def isort (c : Int → Int → Int) (xs : List Int) : List Int := xs.foldl (ins c) []
theorem insFrom_len {c : Int → Int → Int} {ys : List Int} {x : Int} : ∀ {k : Nat}, (insFrom c ys x k).length = ys.length + 1
  | 0 => rfl
  | k + 1 => by
    unfold insFrom
    split
    · exact insFrom_len
    · simp; omega
theorem mem_insFrom {c : Int → Int → Int} {ys : List Int} {x y : Int} : ∀ {k : Nat}, y ∈ insFrom c ys x k ↔ y = x ∨ y ∈ ys
  | 0 => by simp [insFrom]
  | k + 1 => by
    unfold insFrom
    split
    · exact mem_insFrom
    · rw [List.mem_append, List.mem_cons]
      conv => rhs; rw [← List.take_append_drop (k + 1) ys, List.mem_append]
      constructor
      · rintro (h | h | h)
        · exact .inr (.inl h)
        · exact .inl h
        · exact .inr (.inr h)
      · rintro (h | h | h)
        · exact .inr (.inl h)
        · exact .inl h
        · exact .inr (.inr h)
theorem isort_snoc {c : Int → Int → Int} {xs : List Int} {x : Int} : isort c (xs ++ [x]) = ins c (isort c xs) x := by simp [isort, List.foldl_append]
theorem isort_len {c : Int → Int → Int} (xs : List Int) : (isort c xs).length = xs.length := by
  unfold isort
  suffices h : ∀ (xs ys : List Int), (xs.foldl (ins c) ys).length = ys.length + xs.length by simpa using h xs []
  intro xs
  induction xs with
  | nil => intro ys; simp
  | cons x xs ih => intro ys; simp only [List.foldl_cons]; rw [ih]; simp [ins, insFrom_len]; omega
theorem isort_mem {c : Int → Int → Int} {xs : List Int} {y : Int} : y ∈ isort c xs ↔ y ∈ xs := by
  unfold isort
  suffices h : ∀ (xs ys : List Int), y ∈ xs.foldl (ins c) ys ↔ y ∈ ys ∨ y ∈ xs by simpa using h xs []
  intro xs
  induction xs with
  | nil => intro ys; simp
  | cons x xs ih =>
    intro ys
    simp only [List.foldl_cons]
    rw [ih]
    simp only [ins, mem_insFrom, List.mem_cons]
    constructor
    · rintro ((h | h) | h)
      · exact .inr (.inl h)
      · exact .inl h
      · exact .inr (.inr h)
    · rintro (h | h | h)
      · exact .inl (.inr h)
      · exact .inl (.inl h)
      · exact .inr h

/-- x stands behind the first j numbers of what is sorted already. -/
def midd (ys : List Int) (x : Int) (j : Nat) (rest : List Int) : List Int := ys.take j ++ x :: (ys.drop j ++ rest)
theorem midd_len {ys rest : List Int} {x : Int} {j : Nat} : (midd ys x j rest).length = ys.length + 1 + rest.length := by simp [midd]; omega
theorem midd_at {ys rest : List Int} {x : Int} {j : Nat} (h : j ≤ ys.length) : (midd ys x j rest)[j]? = some x := by
  unfold midd
  rw [List.getElem?_append_right (by simp; omega)]
  simp [Nat.min_eq_left h]
theorem midd_before {ys rest : List Int} {x : Int} {k : Nat} (h : k + 1 ≤ ys.length) : (midd ys x (k + 1) rest)[k]? = some (ys.getD k 0) := by
  unfold midd
  rw [List.getElem?_append_left (by simp; omega), List.getElem?_take, if_pos (by omega), List.getElem?_eq_getElem (by omega), List.getD_eq_getElem?_getD, List.getElem?_eq_getElem (by omega)]
  rfl
theorem midd_swap {ys rest : List Int} {x : Int} {k : Nat} (h : k + 1 ≤ ys.length) :
    (((midd ys x (k + 1) rest).map int).set (k + 1) (.v (.int .i64 (ys.getD k 0)))).set k (.v (.int .i64 x)) = (midd ys x k rest).map int := by
  have e1 : AV.v (.int .i64 (ys.getD k 0)) = int (ys.getD k 0) := rfl
  have e2 : AV.v (.int .i64 x) = int x := rfl
  rw [e1, e2, ← List.map_set, ← List.map_set]
  congr 1
  obtain ⟨az, y, bz, rfl, rfl⟩ : ∃ az y bz, ys = az ++ y :: bz ∧ k = az.length := by
    refine ⟨ys.take k, ys[k], ys.drop (k + 1), ?_, by simp; omega⟩
    rw [List.getElem_cons_drop, List.take_append_drop]
  have t1 : az.take (az.length + 1) = az := List.take_of_length_le (by omega)
  have t2 : az.drop (az.length + 1) = [] := List.drop_of_length_le (by omega)
  simp [midd, List.take_append, List.drop_append, t1, t2]
theorem midd_all {ys : List Int} {x : Int} {rest : List Int} : midd ys x ys.length rest = ys ++ x :: rest := by simp [midd]

/-- The list whose first i numbers are sorted. -/
def srtTo (c : Int → Int → Int) (xs : List Int) (i : Nat) : List Int := isort c (xs.take i) ++ xs.drop i
theorem srtTo_len {c : Int → Int → Int} {xs : List Int} {i : Nat} : (srtTo c xs i).length = xs.length := by
  unfold srtTo
  rw [List.length_append, isort_len, ← List.length_append, List.take_append_drop]
theorem srtTo_one {c : Int → Int → Int} {xs : List Int} : srtTo c xs 1 = xs := by
  cases xs with
  | nil => rfl
  | cons x xs => simp [srtTo, isort, ins, insFrom]
theorem srtTo_all {c : Int → Int → Int} {xs : List Int} {i : Nat} (h : xs.length ≤ i) : srtTo c xs i = isort c xs := by
  simp [srtTo, List.take_of_length_le h, List.drop_of_length_le h]
theorem srtTo_mid {c : Int → Int → Int} {xs : List Int} {i : Nat} (h : i < xs.length) : srtTo c xs i = midd (isort c (xs.take i)) xs[i] (isort c (xs.take i)).length (xs.drop (i + 1)) := by
  rw [midd_all, srtTo, List.getElem_cons_drop]
theorem srtTo_done {c : Int → Int → Int} {xs : List Int} {i j : Nat} (h : i < xs.length) (hi : insFrom c (isort c (xs.take i)) xs[i] j = ins c (isort c (xs.take i)) xs[i])
    (hj : j = 0 ∨ ∃ k, j = k + 1 ∧ ¬ c xs[i] ((isort c (xs.take i)).getD k 0) < 0) : midd (isort c (xs.take i)) xs[i] j (xs.drop (i + 1)) = srtTo c xs (i + 1) := by
  unfold srtTo
  rw [List.take_succ_eq_append_getElem h, isort_snoc, ← hi]
  rcases hj with rfl | ⟨k, rfl, hk⟩
  · simp [midd, insFrom]
  · rw [insFrom, if_neg hk]
    simp [midd]

set_option maxHeartbeats 2000000 in
theorem insertion_ok {g : FuncId} {caps : List AV} (hc : Pure caps) (c : Int → Int → Int) (nl : Bool) (xs : List Int) (hn : xs.length ≤ 1000)
    (hg : ∀ x ∈ xs, ∀ y ∈ xs, CallOk Tryd.prog g (.v (.int .i64 x) :: .v (.int .i64 y) :: caps) (.v (.int .i64 (c x y)))) :
    MutOk Tryd.prog 221 [ints nl xs, int 0, int xs.length, .fn g caps] 0 (.tup []) (ints nl (isort c xs)) := by
  have hG : FnsOk Tryd.prog [(g, mk (fun p : Int × Int => p.1 ∈ xs ∧ p.2 ∈ xs) (fun p : Int × Int => .v (.int .i64 p.1) :: .v (.int .i64 p.2) :: caps) (fun p => .v (.int .i64 (c p.1 p.2))))] := .cons (mk_ok fun p hp => hg p.1 hp.1 p.2 hp.2) .nil
  have hat : ∀ x y, x ∈ xs → y ∈ xs → mk (fun p : Int × Int => p.1 ∈ xs ∧ p.2 ∈ xs) (fun p : Int × Int => (.v (.int .i64 p.1) : AV) :: .v (.int .i64 p.2) :: caps) (fun p => AV.v (.int .i64 (c p.1 p.2))) (.v (.int .i64 x) :: .v (.int .i64 y) :: caps) = some (.v (.int .i64 (c x y))) := fun x y hx hy =>
    mk_eq (enc := fun p : Int × Int => (.v (.int .i64 p.1) : AV) :: .v (.int .i64 p.2) :: caps) (x := (x, y)) (by rintro ⟨a, b⟩ ⟨d, e⟩ h; simp at h; simp [h]) ⟨hx, hy⟩
  generalize mk (fun p : Int × Int => p.1 ∈ xs ∧ p.2 ∈ xs) (fun p : Int × Int => (.v (.int .i64 p.1) : AV) :: .v (.int .i64 p.2) :: caps) (fun p => AV.v (.int .i64 (c p.1 p.2))) = m at hG hat
  refine mutOk_awp (ctx_ok eqOk hG) mixed (live := [true, true, true, true, false, false, false, false, true, true, false, false, false, false, true, false, false, false, false, false, false, false, false, false, false, false, false, false, false, false, false, false, false, false, true]) (dt := [(4, ⟨[], [], []⟩), (6, ⟨[(4, 15)], [], []⟩)]) (pos := 0) rfl Tryd.func221 rfl (by kernel_rfl) (by kernel_rfl) fun US Uv w0 hlens => ?_
  have w1 : IntKind.i64.wrap 1 = 1 := by decide
  have hs1 := srtTo_one (c := c) (xs := xs)
  simp [Tryd.f221, List.range, List.range.loop, ints, intss, int, bool, row, frac, fracs, ← List.map_take, ← List.map_drop, hc.res, hc.refs, hc.ren, hc.killN]
  refine awp_range (live := [true, true, true, true, false, false, false, false, true, true, false, false, false, false, true, false, false, false, false, false, false, false, false, false, false, false, false, false, false, false, false, false, false, false, true]) (ctx_ok eqOk hG) mixed [true, true, true, true, false, false, false, false, true] (xs.length - 1) (fun k => True) (fun k => ⟨[.ref 0 [] 0 xs.length, int 0, int xs.length, .fn g caps, .junk, .junk, .junk, .junk, int ((k : Int) + 1), .junk, .junk, .junk, .junk, .junk, .junk, .junk, .junk, .junk, .junk, .junk, .junk, .junk, .junk, .junk, .junk, .junk, .junk, .junk, .junk, .junk, .junk, .junk, .junk, .junk, .junk, .junk, .junk, .junk, .junk, .junk, .junk, .junk, .junk, .junk, .junk, .junk, .junk, .junk, .junk, .junk, .junk, .junk, .junk], [⟨true, .sl nl 1 ((srtTo c xs (k + 1)).map int)⟩]⟩) ?_ (by simp [sub, slotsLe, clean, keep, refsL, refs, once, place, renL, ren, List.replicate, int, bool, hs1, w1, hc.refs, hc.ren, hc.killN]) ?_ ?_ ?_
  · omega
  · trivial
  · intro k hk _ hwk
    have hk1 : k + 1 < xs.length := by omega
    have hlt : ((k : Int) + 1 < (xs.length : Int)) := by omega
    have hw2 : IntKind.i64.wrap ((k : Int) + 1 + 1) = (k : Int) + 1 + 1 := wrapI (by omega) (by omega)
    have hmid := srtTo_mid (c := c) hk1
    have hyl : (isort c (xs.take (k + 1))).length = k + 1 := by rw [isort_len]; simp; omega
    have hys : ∀ y ∈ isort c (xs.take (k + 1)), y ∈ xs := fun y hy => List.mem_of_mem_take (isort_mem.1 hy)
    have hdone := fun j => srtTo_done (c := c) (j := j) hk1
    have hx : xs[k + 1] ∈ xs := List.getElem_mem hk1
    rw [hmid, hyl]
    generalize isort c (xs.take (k + 1)) = ys at hyl hys hdone
    generalize xs[k + 1] = x at hx hdone
    simp (config := {contextual := true}) [List.range, List.range.loop, ints, intss, int, bool, row, frac, fracs, ← List.map_take, ← List.map_drop, hc.res, hc.refs, hc.ren, hc.killN, hlt]
    refine awp_loop_of (live := [true, true, true, true, false, false, false, false, true, true, false, false, false, false, true, false, false, false, false, false, false, false, false, false, false, false, false, false, false, false, false, false, false, false, true]) (ctx_ok eqOk hG) mixed [true, true, true, true, false, false, false, false, true, true] (α := {j : Nat // j ≤ k + 1 ∧ insFrom c ys x j = ins c ys x}) (fun j => ⟨[.ref 0 [] 0 xs.length, int 0, int xs.length, .fn g caps, .junk, .junk, .junk, .junk, int ((k : Int) + 1), int (j.1 : Int), .junk, .junk, .junk, .junk, .junk, .junk, .junk, .junk, .junk, .junk, .junk, .junk, .junk, .junk, .junk, .junk, .junk, .junk, .junk, .junk, .junk, .junk, .junk, .junk, .junk, .junk, .junk, .junk, .junk, .junk, .junk, .junk, .junk, .junk, .junk, .junk, .junk, .junk, .junk, .junk, .junk, .junk, .junk], [⟨true, .sl nl 1 ((midd ys x j.1 (xs.drop (k + 1 + 1))).map int)⟩]⟩) (fun j => j.1) ⟨k + 1, Nat.le_refl _, by rw [ins, hyl]⟩ (by simp [sub, slotsLe, clean, keep, refsL, refs, once, place, renL, ren, List.replicate, int, bool, hc.refs, hc.ren, hc.killN]) ?_
    rintro ⟨j, hj, hji⟩
    have hml := midd_len (ys := ys) (x := x) (j := j) (rest := xs.drop (k + 1 + 1))
    have hml2 : (midd ys x j (xs.drop (k + 1 + 1))).length = xs.length := by rw [hml, hyl]; simp; omega
    cases j with
    | zero =>
      have hd := hdone 0 hji (.inl rfl)
      simp (config := {contextual := true}) [List.range, List.range.loop, ints, intss, int, bool, row, frac, fracs, ← List.map_take, ← List.map_drop, hc.res, hc.refs, hc.ren, hc.killN, hd, hw2, hml2, List.eraseIdx]
      done
    | succ j =>
      have hjl : j + 1 < xs.length := by omega
      have hjl2 : j < xs.length := by omega
      have hgt : (0 < (j : Int) + 1) := by omega
      have hwj : IntKind.i64.wrap (j : Int) = j := wrapI (by omega) (by omega)
      obtain ⟨_, a1⟩ := List.getElem?_eq_some_iff.1 (midd_at (ys := ys) (x := x) (j := j + 1) (rest := xs.drop (k + 1 + 1)) (by omega))
      obtain ⟨_, a2⟩ := List.getElem?_eq_some_iff.1 (midd_before (ys := ys) (x := x) (k := j) (rest := xs.drop (k + 1 + 1)) (by omega))
      have a3 := midd_swap (ys := ys) (x := x) (k := j) (rest := xs.drop (k + 1 + 1)) (by omega)
      have hyj : ys.getD j 0 ∈ xs := hys _ (by rw [List.getD_eq_getElem?_getD, List.getElem?_eq_getElem (by omega)]; exact List.getElem_mem _)
      have hc1 := hat x (ys.getD j 0) hx hyj
      have hd := fun h => hdone (j + 1) hji (.inr ⟨j, rfl, h⟩)
      have hml3 : (midd ys x j (xs.drop (k + 1 + 1))).length = xs.length := by rw [midd_len, hyl]; simp; omega
      rw [insFrom] at hji
      generalize ys.getD j 0 = y at *
      by_cases hcc : c x y < 0
      · rw [if_pos hcc] at hji
        simp (config := {contextual := true}) [List.range, List.range.loop, ints, intss, int, bool, row, frac, fracs, ← List.map_take, ← List.map_drop, hc.res, hc.refs, hc.ren, hc.killN, hml2, hml3, hjl, hjl2, hgt, hwj, a1, a2, a3, hc1, hcc, List.eraseIdx]
        exact ⟨⟨j, by omega, hji⟩, by simp [sub, slotsLe, clean, keep, refsL, refs, once, place, renL, ren, List.replicate, int, bool, hc.refs, hc.ren, hc.killN], by simp⟩
      · have hd := hd hcc
        simp (config := {contextual := true}) [List.range, List.range.loop, ints, intss, int, bool, row, frac, fracs, ← List.map_take, ← List.map_drop, hc.res, hc.refs, hc.ren, hc.killN, hml2, hml3, hjl, hjl2, hgt, hwj, a1, a2, hc1, hcc, hw2, List.eraseIdx]
        rw [hd]
  · intro _
    have hlt : ¬ (((xs.length - 1 : Nat) : Int) + 1 < (xs.length : Int)) := by omega
    have ha := srtTo_all (c := c) (xs := xs) (i := xs.length - 1 + 1) (by omega)
    have hil := isort_len (c := c) xs
    simp (config := {contextual := true}) [List.range, List.range.loop, ints, intss, int, bool, row, frac, fracs, ← List.map_take, ← List.map_drop, hc.res, hc.refs, hc.ren, hc.killN, hlt, ha, hil, List.eraseIdx]
    done

set_option maxHeartbeats 2000000 in
theorem stable_ok {g : FuncId} {caps : List AV} (hc : Pure caps) (c : Int → Int → Int) (nl : Bool) (xs : List Int) (hn : xs.length < 20)
    (hg : ∀ x ∈ xs, ∀ y ∈ xs, CallOk Tryd.prog g (.v (.int .i64 x) :: .v (.int .i64 y) :: caps) (.v (.int .i64 (c x y)))) :
    MutOk Tryd.prog 210 [ints nl xs, int xs.length, .fn g caps] 0 (.tup []) (ints nl (isort c xs)) := by
  have hi : FnMut Tryd.prog 221 (mkM (fun _ : Unit => True) (fun _ => [ints nl xs, int 0, int xs.length, .fn g caps]) (fun _ => (0, .tup [], ints nl (isort c xs)))) := mkM_ok fun _ _ => insertion_ok hc c nl xs (by omega) hg
  have hat : mkM (fun _ : Unit => True) (fun _ => [ints nl xs, int 0, int xs.length, .fn g caps]) (fun _ => (0, .tup [], ints nl (isort c xs))) [.sl nl 1 (xs.map int), .v (.int .i64 0), .v (.int .i64 xs.length), .fn g caps] = some (0, .tup [], .sl nl 1 ((isort c xs).map int)) := mkM_eq (enc := fun _ : Unit => [ints nl xs, int 0, int xs.length, .fn g caps]) (x := ()) (fun _ _ _ => rfl) trivial
  generalize mkM (fun _ : Unit => True) (fun _ => [ints nl xs, int 0, int xs.length, .fn g caps]) (fun _ => (0, AV.tup [], ints nl (isort c xs))) = m at hi hat
  have hG : FnsOk Tryd.prog [] := .nil
  have hM : FnsMut Tryd.prog [(221, m)] := .cons hi .nil
  have hl := isort_len (c := c) xs
  have h20 : ¬ (20 : Int) ≤ xs.length := by omega
  have h20' : ¬ (20 : Int) < xs.length := by omega
  refine mutOk_awp (ctxM_ok eqOk hG hM) mixed (live := [true, true, true, false, false, false, true, true, true, true, false, false, false, true, false, false, false, false, false, false, false, false, false, false, false, false, false, false, false, false, true, false, false, false, false, true, false, false, false, false, false, false, false, false, false, false, false, false, false, false, false, false, false, false, true]) (dt := []) (pos := 0) rfl Tryd.func210 rfl (by kernel_rfl) (by kernel_rfl) fun US Uv w0 hlens => ?_
  simp [Tryd.f210, List.range, List.range.loop, ints, intss, int, bool, row, frac, fracs, ← List.map_take, ← List.map_drop, hc.res, hc.refs, hc.ren, hc.killN]
  refine awp_loop_of (live := [true, true, true, false, false, false, true, true, true, true, false, false, false, true, false, false, false, false, false, false, false, false, false, false, false, false, false, false, false, false, true, false, false, false, false, true, false, false, false, false, false, false, false, false, false, false, false, false, false, false, false, false, false, false, true]) (ctxM_ok eqOk hG hM) mixed [true, true, true, false, false, false, true, true, true] (α := Unit) (fun u => ⟨[.ref 0 [] 0 xs.length, int xs.length, .fn g caps, .junk, .junk, .junk, int 20, int 0, int 20, .junk, .junk, .junk, .junk, .junk, .junk, .junk, .junk, .junk, .junk, .junk, .junk, .junk, .junk, .junk, .junk, .junk, .junk, .junk, .junk, .junk, .junk, .junk, .junk, .junk, .junk, .junk, .junk, .junk, .junk, .junk, .junk, .junk, .junk, .junk, .junk, .junk, .junk, .junk, .junk, .junk, .junk, .junk, .junk, .junk, .junk, .junk, .junk, .junk, .junk, .junk, .junk, .junk, .junk], [⟨true, .sl nl 1 (xs.map int)⟩]⟩) (fun u => 0) () (by simp [sub, slotsLe, clean, keep, refsL, refs, once, place, renL, ren, List.replicate, int, bool, hc.refs, hc.ren, hc.killN]) ?_
  rintro ⟨⟩
  simp [List.range, List.range.loop, ints, intss, int, bool, row, frac, fracs, ← List.map_take, ← List.map_drop, List.eraseIdx, hc.res, hc.refs, hc.ren, hc.killN, h20, hat, hl]
  refine awp_loop_of (live := [true, true, true, false, false, false, true, true, true, true, false, false, false, true, false, false, false, false, false, false, false, false, false, false, false, false, false, false, false, false, true, false, false, false, false, true, false, false, false, false, false, false, false, false, false, false, false, false, false, false, false, false, false, false, true]) (ctxM_ok eqOk hG hM) mixed [true, true, true, false, false, false, true] (α := Unit) (fun u => ⟨[.ref 0 [] 0 xs.length, int xs.length, .fn g caps, .junk, .junk, .junk, int 20, .junk, .junk, .junk, .junk, .junk, .junk, .junk, .junk, .junk, .junk, .junk, .junk, .junk, .junk, .junk, .junk, .junk, .junk, .junk, .junk, .junk, .junk, .junk, .junk, .junk, .junk, .junk, .junk, .junk, .junk, .junk, .junk, .junk, .junk, .junk, .junk, .junk, .junk, .junk, .junk, .junk, .junk, .junk, .junk, .junk, .junk, .junk, .junk, .junk, .junk, .junk, .junk, .junk, .junk, .junk, .junk], [⟨true, .sl nl 1 ((isort c xs).map int)⟩]⟩) (fun u => 0) () (by simp [sub, slotsLe, clean, keep, refsL, refs, once, place, renL, ren, List.replicate, int, bool, hc.refs, hc.ren, hc.killN]) ?_
  rintro ⟨⟩
  simp [List.range, List.range.loop, ints, intss, int, bool, row, frac, fracs, ← List.map_take, ← List.map_drop, List.eraseIdx, hc.res, hc.refs, hc.ren, hc.killN, h20', hl]

/-- slices.SortStableFunc of fewer than twenty ints. -/
theorem sort_ok {g : FuncId} {caps : List AV} (hc : Pure caps) (c : Int → Int → Int) (nl : Bool) (xs : List Int) (hn : xs.length < 20)
    (hg : ∀ x ∈ xs, ∀ y ∈ xs, CallOk Tryd.prog g (.v (.int .i64 x) :: .v (.int .i64 y) :: caps) (.v (.int .i64 (c x y)))) :
    MutOk Tryd.prog 189 [ints nl xs, .fn g caps] 0 (.tup []) (ints nl (isort c xs)) := by
  have hi : FnMut Tryd.prog 210 (mkM (fun _ : Unit => True) (fun _ => [ints nl xs, int xs.length, .fn g caps]) (fun _ => (0, .tup [], ints nl (isort c xs)))) := mkM_ok fun _ _ => stable_ok hc c nl xs hn hg
  have hat : mkM (fun _ : Unit => True) (fun _ => [ints nl xs, int xs.length, .fn g caps]) (fun _ => (0, .tup [], ints nl (isort c xs))) [.sl nl 1 (xs.map int), .v (.int .i64 xs.length), .fn g caps] = some (0, .tup [], .sl nl 1 ((isort c xs).map int)) := mkM_eq (enc := fun _ : Unit => [ints nl xs, int xs.length, .fn g caps]) (x := ()) (fun _ _ _ => rfl) trivial
  generalize mkM (fun _ : Unit => True) (fun _ => [ints nl xs, int xs.length, .fn g caps]) (fun _ => (0, AV.tup [], ints nl (isort c xs))) = m at hi hat
  have hG : FnsOk Tryd.prog [] := .nil
  have hM : FnsMut Tryd.prog [(210, m)] := .cons hi .nil
  have hl := isort_len (c := c) xs
  refine mutOk_awp (ctxM_ok eqOk hG hM) mixed (live := [true, true]) (dt := []) (pos := 0) rfl Tryd.func189 rfl (by kernel_rfl) (by kernel_rfl) fun US Uv w0 hlens => ?_
  simp [Tryd.f189, List.range, List.range.loop, ints, intss, int, bool, row, frac, fracs, ← List.map_take, ← List.map_drop, List.eraseIdx, hc.res, hc.refs, hc.ren, hc.killN, hat, hl]

end Go.Proofs.YtmeokgedldnohaaDoor.Ax
