/-
 Contracts of allWithin and rectangle. No condition.
-/
import Derived.Test.YtompijgfpeibnaaGreatDoorCB7
import Derived.Test.YtompijgfpeibnaaGreatDoorCK4
namespace Go.Proofs.YtompijgfpeibnaaGreatDoor.Ax
open Go Go.RowKit
set_option linter.unusedSimpArgs false
def inR (lo hi x : Int) : Bool := decide (lo ≤ x) && decide (x ≤ hi)
theorem allWithin1 (x lo hi : Int) : CallOk Tryz.prog 363 [.v (.int .i64 x), .fp (.v (.int .i64 lo)) 0, .fp (.v (.int .i64 hi)) 0] (.v (.bool (!inR lo hi x))) := by
 have hG : FnsOk Tryz.prog [(153, mWithin)] := .cons within_ok .nil
 refine callOk_of_awp (ctx_ok eqOk hG) mixed (live := [true, true, true, false, true]) (dt := []) Tryz.func363 rfl (by kernel_rfl) (by kernel_rfl) fun w0 => ?_
 simp [Tryz.f363, List.range, List.range.loop, mWithin, inR]
noncomputable def mAllIn : List AV → Option AV := mk (fun _ => True) (fun (p : Bool × List Int × Int × Int) => [ints p.1 p.2.1, int p.2.2.1, int p.2.2.2]) (fun p => bool (p.2.1.all (inR p.2.2.1 p.2.2.2)))
theorem mAllIn_at (nl : Bool) (xs : List Int) (lo hi : Int) : mAllIn [.sl nl 1 (xs.map int), .v (.int .i64 lo), .v (.int .i64 hi)] = some (.v (.bool (xs.all (inR lo hi)))) :=
 mk_eq (enc := fun (p : Bool × List Int × Int × Int) => [ints p.1 p.2.1, int p.2.2.1, int p.2.2.2]) (x := (nl, xs, lo, hi)) (by rintro ⟨x, x', a, b⟩ ⟨y, y', c, d⟩ h; simp [ints, int_inj, map_int_inj] at h; simp [h]) trivial
theorem not_any_not {α : Type} {p : α → Bool} {xs : List α} : (!xs.any fun x => !p x) = xs.all p := by
 induction xs with
 | nil => rfl
 | cons x xs ih => simp only [List.any_cons, List.all_cons, Bool.not_or, Bool.not_not, ih]
theorem pure_fp {a : AV} {j : Nat} {l : List AV} (h : Pure l) : Pure (.fp a j :: l) := ⟨fun t => by simp [resL, res, h.res], by simp [refsL, refs, h.refs], fun f => by simp [renL, ren, h.ren]⟩
theorem pure_nil : Pure [] := ⟨fun t => by simp [resL], by simp [refsL], fun f => by simp [renL]⟩
theorem allWithin_ok : FnOk Tryz.prog 305 mAllIn := by
 refine mk_ok fun ⟨nl, xs, lo, hi⟩ _ => ?_
 have hc := containsInts (g := 363) (pure_fp (a := .v (.int .i64 lo)) (j := 0) (pure_fp (a := .v (.int .i64 hi)) (j := 0) pure_nil)) (fun x => !inR lo hi x) nl xs (fun x _ => allWithin1 x lo hi)
 have hG : FnsOk Tryz.prog [(341, only _ _)] := .cons (only_ok hc) .nil
 refine callOk_of_awp (ctx_ok eqOk hG) mixed (live := [true, true, true, false, true, true, true]) (dt := []) Tryz.func305 rfl (by kernel_rfl) (by kernel_rfl) fun w0 => ?_
 have ha := only_at (a := [ints nl xs, .fn 363 [.fp (.v (.int .i64 lo)) 0, .fp (.v (.int .i64 hi)) 0]]) (r := bool (xs.any fun x => !inR lo hi x))
 simp only [ints, bool] at ha
 simp [Tryz.f305, List.range, List.range.loop, ints, int, bool, ha, not_any_not]
def rowIs (n : Nat) (most : Int) (r : Bool × List Int) : Bool := decide (r.2.length = n) && r.2.all (inR 0 most)
theorem rectangle1 (r : Bool × List Int) (nl : Bool) (r0 : Bool × List Int) (rs : List (Bool × List Int)) (most : Int) :
  CallOk Tryz.prog 304 [row r, .fp (intss nl (r0 :: rs)) 0, .fp (int most) 0] (.v (.bool (!rowIs r0.2.length most r))) := by
 have hG : FnsOk Tryz.prog [(305, mAllIn)] := .cons allWithin_ok .nil
 refine callOk_of_awp (ctx_ok eqOk hG) mixed (live := [true, true, true, false, true]) (dt := []) Tryz.func304 rfl (by kernel_rfl) (by kernel_rfl) fun w0 => ?_
 have hz := mAllIn_at r.1 r.2 0 most
 by_cases h : r.2.length = r0.2.length
 ·simp [Tryz.f304, List.range, List.range.loop, row, intss, int, h, hz, rowIs]
 ·have h' : ((r.2.length : Int) != r0.2.length) = true := by simp; omega
  simp [Tryz.f304, List.range, List.range.loop, row, intss, int, h, h', hz, rowIs]
def rectB (xss : List (Bool × List Int)) (high wide most : Int) : Bool := match xss with
 | [] => false
 | r0 :: _ => inR 1 high xss.length && inR 1 wide r0.2.length && xss.all (rowIs r0.2.length most)
noncomputable def mRect : List AV → Option AV := mk (fun _ => True) (fun (p : Bool × List (Bool × List Int) × Int × Int × Int) => [intss p.1 p.2.1, int p.2.2.1, int p.2.2.2.1, int p.2.2.2.2]) (fun p => bool (rectB p.2.1 p.2.2.1 p.2.2.2.1 p.2.2.2.2))
theorem mRect_at (nl : Bool) (xs : List (Bool × List Int)) (a b c : Int) : mRect [.sl nl 1 (xs.map row), .v (.int .i64 a), .v (.int .i64 b), .v (.int .i64 c)] = some (.v (.bool (rectB xs a b c))) :=
 mk_eq (enc := fun (p : Bool × List (Bool × List Int) × Int × Int × Int) => [intss p.1 p.2.1, int p.2.2.1, int p.2.2.2.1, int p.2.2.2.2]) (x := (nl, xs, a, b, c)) (by rintro ⟨x, x', a, b, c⟩ ⟨y, y', d, e, f⟩ h; simp [intss, int_inj, map_row_inj] at h; simp [h]) trivial
set_option maxHeartbeats 1000000 in
theorem rectangle_ok : FnOk Tryz.prog 219 mRect := by
 refine mk_ok fun ⟨nl, xss, high, wide, most⟩ _ => ?_
 cases xss with
 | nil =>
  have hG : FnsOk Tryz.prog [(153, mWithin)] := .cons within_ok .nil
  refine callOk_of_awp (ctx_ok eqOk hG) mixed (live := [true, true, true, true, true, false, false, true, true, false, false, false, false, false, false, false, false, false, false, false, false, false, true]) (dt := []) Tryz.func219 rfl (by kernel_rfl) (by kernel_rfl) fun w0 => ?_
  simp [Tryz.f219, List.range, List.range.loop, intss, int, bool, mWithin, rectB]
 | cons r0 rs =>
  obtain ⟨m, hm, ha⟩ := as_model (containsIntss (g := 304) (pure_fp (a := intss nl (r0 :: rs)) (j := 0) (pure_fp (a := int most) (j := 0) pure_nil)) (fun r => !rowIs r0.2.length most r) nl (r0 :: rs) (fun x _ => rectangle1 x nl r0 rs most))
  have hG : FnsOk Tryz.prog [(153, mWithin), (260, m)] := .cons within_ok (.cons hm .nil)
  refine callOk_of_awp (ctx_ok eqOk hG) mixed (live := [true, true, true, true, true, false, false, true, true, false, false, false, false, false, false, false, false, false, false, false, false, false, true]) (dt := []) Tryz.func219 rfl (by kernel_rfl) (by kernel_rfl) fun w0 => ?_
  have hnn := not_any_not (p := rowIs r0.2.length most) (xs := r0 :: rs)
  generalize hb : ((r0 :: rs).any fun r => !rowIs r0.2.length most r) = bb at ha hnn
  simp only [intss, int, bool, List.map_cons, row] at ha
  by_cases h1 : inR 1 high (rs.length + 1) = true
  ·by_cases h2 : inR 1 wide r0.2.length = true
   ·have h1' := h1
    have h2' := h2
    simp only [inR, Bool.and_eq_true, decide_eq_true_eq] at h1' h2'
    have hr : rectB (r0 :: rs) high wide most = (r0 :: rs).all (rowIs r0.2.length most) := by simp [rectB, h1, h2]
    rw [hr, ← hnn]
    simp [Tryz.f219, List.range, List.range.loop, intss, row, int, bool, mWithin, h1', h2', ha]
   ·have h1' := h1
    simp only [inR, Bool.and_eq_true, decide_eq_true_eq] at h1'
    have h2' : (decide (1 ≤ (r0.2.length : Int)) && decide ((r0.2.length : Int) ≤ wide)) = false := by simpa [inR] using h2
    simp [Tryz.f219, List.range, List.range.loop, intss, row, int, bool, mWithin, h1', h2', ha, rectB, h2]
  ·have h1' : (decide (1 ≤ (rs.length : Int) + 1) && decide ((rs.length : Int) + 1 ≤ high)) = false := by simpa [inR] using h1
   simp [Tryz.f219, List.range, List.range.loop, intss, row, int, bool, mWithin, h1', ha, rectB, h1]
open Go Go.RowKit
set_option linter.unusedSimpArgs false
noncomputable def mGrid (a b c : Int) : List AV → Option AV := mk (fun _ => True) (fun (p : Bool × List (Bool × List Int)) => [intss p.1 p.2]) (fun p => bool (rectB p.2 a b c))
theorem mGrid_at {a b c : Int} (nl : Bool) (xs : List (Bool × List Int)) : mGrid a b c [.sl nl 1 (xs.map row)] = some (.v (.bool (rectB xs a b c))) :=
 mk_eq (enc := fun (p : Bool × List (Bool × List Int)) => [intss p.1 p.2]) (x := (nl, xs)) (by rintro ⟨x, x'⟩ ⟨y, y'⟩ h; simp [intss, map_row_inj] at h; simp [h]) trivial
theorem implBidsOk_ok : FnOk Tryz.prog 133 (mGrid 4 4 1000) := by
 refine mk_ok fun ⟨nl, xss⟩ _ => ?_
 have hG : FnsOk Tryz.prog [(219, mRect)] := .cons rectangle_ok .nil
 refine callOk_of_awp (ctx_ok eqOk hG) mixed (live := [true, false, true]) (dt := []) Tryz.func133 rfl (by kernel_rfl) (by kernel_rfl) fun w0 => ?_
 simp [Tryz.f133, List.range, List.range.loop, intss, bool, mRect_at nl xss _ _ _]
open Go Go.RowKit
set_option linter.unusedSimpArgs false
def posFrom (v : Int) : List Int → Nat → Int
 | [], _ => -1
 | x :: xs, k => if x = v then k else posFrom v xs (k + 1)
def pos (xs : List Int) (v : Int) : Int := posFrom v xs 0
theorem drop_get {α : Type} {xs : List α} {k : Nat} (h : k < xs.length) : xs.drop k = xs[k] :: xs.drop (k + 1) := List.drop_eq_getElem_cons h
noncomputable def mPos : List AV → Option AV := mk (fun _ => True) (fun (p : (Bool) × (List Int) × (Int)) => [ints p.1 p.2.1, int p.2.2]) (fun p => int (pos p.2.1 p.2.2))
theorem mPos_at (nl : Bool) (xs : List Int) (v : Int) : mPos [.sl nl 1 (xs.map int), .v (.int .i64 v)] = some (.v (.int .i64 (pos xs v))) :=
 mk_eq (enc := fun (p : (Bool) × (List Int) × (Int)) => [ints p.1 p.2.1, int p.2.2]) (x := (nl, xs, v)) (by rintro ⟨a0, a1, a2⟩ ⟨b0, b1, b2⟩ h; simp [ints, intss, int, bool, row, frac, fracs, map_int_inj, map_row_inj, frac_inj, map_frac_inj] at h; simp [h]) trivial
set_option maxHeartbeats 1000000 in
theorem slicesIndex_ok : FnOk Tryz.prog 166 mPos := by
 refine mk_ok fun ⟨nl, xs, v⟩ _ => ?_
 have hG : FnsOk Tryz.prog [] := .nil
 refine callOk_awp (ctx_ok eqOk hG) mixed (live := [true, true, false, false, true, true, false, true, true, true, false, false, false, false, false, false, true]) (dt := []) Tryz.func166 rfl (by kernel_rfl) (by kernel_rfl) fun w0 hlens => ?_
 simp only [lensL, lens, ints, int, List.length_map] at hlens
 generalize hr : pos xs v = r
 simp [Tryz.f166, List.range, List.range.loop, ints, intss, int, bool, row, frac, fracs, ← List.map_take, ← List.map_drop, ints]
 refine awp_range (live := [true, true, false, false, true, true, false, true, true, true, false, false, false, false, false, false, true]) (ctx_ok eqOk hG) mixed [true, true, false, false, false, false, false, true, true] (xs.length) (fun k => posFrom v (xs.drop k) k = r) (fun k => ⟨[ints nl xs, int v, .junk, .junk, .junk, .junk, .junk, int xs.length, int k, .junk, .junk, .junk, .junk, .junk, .junk, .junk, .junk, .junk, .junk], []⟩) ?_ (by simp [sub, slotsLe, clean, keep, refsL, refs, once, place, renL, ren, List.replicate, int, bool, ints]) ?_ ?_ ?_
 ·exact hlens.1.1.1
 ·simpa [pos] using hr
 ·intro k h hp hw
  rw [drop_get h, posFrom] at hp
  by_cases e : xs[k] = v
  ·rw [if_pos e] at hp; subst hp
   simp [List.range, List.range.loop, ints, intss, int, bool, row, frac, fracs, ← List.map_take, ← List.map_drop, h, e]
  ·rw [if_neg e] at hp
   have e' : ¬ v = xs[k] := fun h => e h.symm
   simp [List.range, List.range.loop, ints, intss, int, bool, row, frac, fracs, ← List.map_take, ← List.map_drop, h, hw, hp, e']
 ·intro hp
  simp [posFrom] at hp; subst hp
  simp [List.range, List.range.loop, ints, intss, int, bool, row, frac, fracs, ← List.map_take, ← List.map_drop]
open Go Go.RowKit
set_option linter.unusedSimpArgs false
def allR (n : Nat) (f : Nat → Bool) : Bool := (List.range n).all f
theorem allR_no {n k : Nat} {f : Nat → Bool} (h : k < n) (hf : f k = false) : allR n f = false := by
 unfold allR; rw [List.all_eq_false]; exact ⟨k, by simpa using h, by simp [hf]⟩
def upto (f : Nat → Bool) (k : Nat) : Prop := ∀ j, j < k → f j = true
theorem upto_zero {f : Nat → Bool} : upto f 0 := fun _ h => by omega
theorem upto_succ {k : Nat} {f : Nat → Bool} (h : upto f k) (hk : f k = true) : upto f (k + 1) := fun j hj => by
 by_cases e : j = k
 ·subst e; exact hk
 ·exact h j (by omega)
theorem allR_yes {n : Nat} {f : Nat → Bool} (h : upto f n) : allR n f = true := by
 unfold allR; rw [List.all_eq_true]; intro x hx; exact h x (by simpa using hx)
theorem getD_at {xs : List Int} {k : Nat} (h : k < xs.length) : xs.getD k 0 = xs[k] := by simp [List.getD_eq_getElem?_getD, h]
noncomputable def mHas : List AV → Option AV := mk (fun _ => True) (fun (p : (Bool) × (List Int) × (Int)) => [ints p.1 p.2.1, int p.2.2]) (fun p => bool (decide (0 ≤ pos p.2.1 p.2.2)))
theorem mHas_at (nl : Bool) (xs : List Int) (v : Int) : mHas [.sl nl 1 (xs.map int), .v (.int .i64 v)] = some (.v (.bool (decide (0 ≤ pos xs v)))) :=
 mk_eq (enc := fun (p : (Bool) × (List Int) × (Int)) => [ints p.1 p.2.1, int p.2.2]) (x := (nl, xs, v)) (by rintro ⟨a0, a1, a2⟩ ⟨b0, b1, b2⟩ h; simp [ints, intss, int, bool, row, frac, fracs, map_int_inj, map_row_inj, frac_inj, map_frac_inj] at h; simp [h]) trivial
theorem slicesContains_ok : FnOk Tryz.prog 218 mHas := by
 refine mk_ok fun ⟨nl, xs, v⟩ _ => ?_
 have hG : FnsOk Tryz.prog [(166, mPos)] := (.cons slicesIndex_ok .nil)
 refine callOk_awp (ctx_ok eqOk hG) mixed (live := [true, true, false, false, true]) (dt := []) Tryz.func218 rfl (by kernel_rfl) (by kernel_rfl) fun w0 hlens => ?_
 simp [Tryz.f218, List.range, List.range.loop, ints, intss, int, bool, row, frac, fracs, ← List.map_take, ← List.map_drop, mPos_at, ge_zero]
theorem mWithin_in {n lo hi : Int} : mWithin [.v (.int .i64 n), .v (.int .i64 lo), .v (.int .i64 hi)] = some (.v (.bool (inR lo hi n))) := rfl
def allIn (lo hi : Int) (xs : List Int) : Bool := xs.all (inR lo hi)
theorem allIn_mem {lo hi : Int} {xs : List Int} (h : allIn lo hi xs = true) {x : Int} (hx : x ∈ xs) : lo ≤ x ∧ x ≤ hi := by
 have := List.all_eq_true.1 h x hx
 simpa [inR] using this
theorem allIn_at {lo hi : Int} {xs : List Int} (h : allIn lo hi xs = true) {i : Nat} (hi' : i < xs.length) : lo ≤ xs[i] ∧ xs[i] ≤ hi := allIn_mem h (List.getElem_mem hi')
def awAt (xs : List Int) (i : Nat) : Bool := !(decide (0 ≤ xs.getD i 0) && decide (0 ≤ pos (xs.take i) (xs.getD i 0)))
def isAwd (xs : List Int) : Bool := allR xs.length (awAt xs)
noncomputable def mIsAwd : List AV → Option AV := mk (fun _ => True) (fun (p : (Bool) × (List Int)) => [ints p.1 p.2]) (fun p => bool (isAwd p.2))
theorem mIsAwd_at (nl : Bool) (xs : List Int) : mIsAwd [.sl nl 1 (xs.map int)] = some (.v (.bool (isAwd xs))) :=
 mk_eq (enc := fun (p : (Bool) × (List Int)) => [ints p.1 p.2]) (x := (nl, xs)) (by rintro ⟨a0, a1⟩ ⟨b0, b1⟩ h; simp [ints, intss, int, bool, row, frac, fracs, map_int_inj, map_row_inj, frac_inj, map_frac_inj] at h; simp [h]) trivial
set_option maxHeartbeats 1000000 in
theorem isAward_ok : FnOk Tryz.prog 309 mIsAwd := by
 refine mk_ok fun ⟨nl, xs⟩ _ => ?_
 have hG : FnsOk Tryz.prog [(218, mHas)] := (.cons slicesContains_ok .nil)
 refine callOk_awp (ctx_ok eqOk hG) mixed (live := [true, false, true, true, true, true, true, true, true, false, false, false, false, false, false, false, false, false, false, false, true]) (dt := []) Tryz.func309 rfl (by kernel_rfl) (by kernel_rfl) fun w0 hlens => ?_
 simp only [lensL, lens, ints, int, List.length_map] at hlens
 generalize hr : isAwd xs = r
 simp (config := {contextual := true}) [Tryz.f309, List.range, List.range.loop, ints, intss, int, bool, row, frac, fracs, ← List.map_take, ← List.map_drop, mHas_at]
 refine awp_range (live := [true, false, true, true, true, true, true, true, true, false, false, false, false, false, false, false, false, false, false, false, true]) (ctx_ok eqOk hG) mixed [true, false, false, false, false, true, true, true] (xs.length) (fun k => upto (awAt xs) k) (fun k => ⟨[ints nl xs, .junk, .junk, .junk, .junk, ints nl xs, int xs.length, int k, .junk, .junk, .junk, .junk, .junk, .junk, .junk, .junk, .junk, .junk, .junk, .junk, .junk, .junk], []⟩) ?_ (by simp [sub, slotsLe, clean, keep, refsL, refs, once, place, renL, ren, List.replicate, int, bool, ints]) ?_ ?_ ?_
 ·exact hlens.1.1.1
 ·exact upto_zero
 ·intro k h hp hw
  have hf : awAt xs k = false → r = false := fun hf => by rw [← hr]; exact allR_no h hf
  have ht := upto_succ hp
  clear hp
  have e : awAt xs k = !(decide (0 ≤ xs[k]) && decide (0 ≤ pos (xs.take k) xs[k])) := by unfold awAt; rw [getD_at h]
  rw [e] at hf ht
  simp at hf ht
  simp (config := {contextual := true}) [List.range, List.range.loop, ints, intss, int, bool, row, frac, fracs, ← List.map_take, ← List.map_drop, mHas_at, h, hw, Nat.le_of_lt h]
  grind
 ·intro hp
  have := allR_yes hp
  rw [← hr]
  simp [List.range, List.range.loop, ints, intss, int, bool, row, frac, fracs, ← List.map_take, ← List.map_drop, isAwd, this]
open Go Go.RowKit
set_option linter.unusedSimpArgs false
def wid (xss : List (Bool × List Int)) : Nat := (xss.headD (true, [])).2.length
theorem wid_eq {xss : List (Bool × List Int)} (h : 0 < xss.length) : xss[0].2.length = wid xss := by
 cases xss with
 | nil => simp at h
 | cons x l => rfl
theorem rect_pos {xss : List (Bool × List Int)} {a b c : Int} (h : rectB xss a b c = true) : 0 < xss.length := by
 cases xss with
 | nil => simp [rectB] at h
 | cons x l => simp
theorem rect_len {xss : List (Bool × List Int)} {a b c : Int} (h : rectB xss a b c = true) : (xss.length : Int) ≤ a ∧ (wid xss : Int) ≤ b ∧ 1 ≤ wid xss := by
 cases xss with
 | nil => simp [rectB] at h
 | cons x l => simp [rectB, inR, wid] at h ⊢; omega
theorem rect_row {xss : List (Bool × List Int)} {a b c : Int} (h : rectB xss a b c = true) {i : Nat} (hi : i < xss.length) : xss[i].2.length = wid xss ∧ ∀ x ∈ xss[i].2, 0 ≤ x ∧ x ≤ c := by
 cases xss with
 | nil => simp at hi
 | cons r l =>
  simp only [rectB, Bool.and_eq_true, List.all_eq_true] at h
  have := h.2 _ (List.getElem_mem hi)
  simp only [rowIs, Bool.and_eq_true, decide_eq_true_eq, List.all_eq_true, inR] at this
  exact this
def ent (xss : List (Bool × List Int)) (i : Nat) (k : Int) : Int := (xss.getD i (true, [])).2.getD k.toNat 0
theorem ent_at {xss : List (Bool × List Int)} {i : Nat} (hi : i < xss.length) {k : Nat} (hk : k < xss[i].2.length) : ent xss i k = xss[i].2[k] := by
 unfold ent; simp [List.getD_eq_getElem?_getD, hi, hk]
theorem ent_bd {xss : List (Bool × List Int)} {a b c : Int} (h : rectB xss a b c = true) {i : Nat} (hi : i < xss.length) {k : Nat} (hk : k < wid xss) : 0 ≤ ent xss i k ∧ ent xss i k ≤ c := by
 have := rect_row h hi
 rw [ent_at hi (by omega)]
 exact this.2 _ (List.getElem_mem _)
def awardB (xss : List (Bool × List Int)) (aw : List Int) : Bool := rectB xss 4 4 1000 && decide (aw.length = xss.length) && allIn (-1) (wid xss - 1) aw && isAwd aw
end Go.Proofs.YtompijgfpeibnaaGreatDoor.Ax
