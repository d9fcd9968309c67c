/-
  Contracts of the library's searches over a list by a function. No condition.
-/
import Derived.Test.YtkfmhpgnhkdebaaGreatDoorCB1
import Derived.Test.YtkfmhpgnhkdebaaGreatDoorCK4
namespace Go.Proofs.YtkfmhpgnhkdebaaGreatDoor.Ax
open Go Go.RowKit
set_option linter.unusedSimpArgs false
structure Pure (caps : List AV) : Prop where
  res : ∀ toks, resL toks caps = caps
  refs : refsL caps = []
  ren : ∀ f, renL f caps = caps
noncomputable def only (a : List AV) (r : AV) : List AV → Option AV := mk (fun _ : Unit => True) (fun _ => a) (fun _ => r)
theorem only_at {a : List AV} {r : AV} : only a r a = some r := mk_eq (enc := fun _ : Unit => a) (x := ()) (fun _ _ _ => rfl) trivial
theorem only_ok {P : Program} {f : FuncId} {a : List AV} {r : AV} (h : CallOk P f a r) : FnOk P f (only a r) := mk_ok fun _ _ => h
theorem as_model {P : Program} {f : FuncId} {a : List AV} {r : AV} (h : CallOk P f a r) : ∃ m, FnOk P f m ∧ m a = some r := ⟨only a r, only_ok h, only_at⟩
def idxOf {α : Type} (p : α → Bool) (xs : List α) : Int := (xs.findIdx? p).elim (-1) fun i => (i : Int)
theorem idxOf_found {α : Type} {p : α → Bool} {xs : List α} {k : Nat} (hk : k < xs.length) (h : ∀ j (hj : j < xs.length), j < k → p xs[j] = false) (hp : p xs[k] = true) : idxOf p xs = k := by
  have : xs.findIdx? p = some k := List.findIdx?_eq_some_iff_getElem.2 ⟨hk, hp, fun j hj => by rw [h j (by omega) hj]; simp⟩
  simp [idxOf, this]
theorem idxOf_none {α : Type} {p : α → Bool} {xs : List α} (h : ∀ j (hj : j < xs.length), j < xs.length → p xs[j] = false) : idxOf p xs = -1 := by
  have : xs.findIdx? p = none := List.findIdx?_eq_none_iff.2 fun x hx => by
    obtain ⟨i, hi, rfl⟩ := List.getElem_of_mem hx
    exact h i hi hi
  simp [idxOf, this]
theorem idxOf_nonneg {α : Type} {p : α → Bool} {xs : List α} : decide (0 ≤ idxOf p xs) = xs.any p := by
  unfold idxOf
  cases h : xs.findIdx? p with
  | none =>
    have := List.findIdx?_eq_none_iff.1 h
    simp
    exact this
  | some i =>
    obtain ⟨hi, hp, _⟩ := List.findIdx?_eq_some_iff_getElem.1 h
    simp
    exact ⟨_, List.getElem_mem hi, hp⟩
theorem ge_zero {x : Int} : decide (x ≥ 0) = decide (0 ≤ x) := rfl
set_option maxHeartbeats 1000000 in
theorem indexIntss {g : FuncId} {caps : List AV} (hc : Pure caps) (p : Bool × List Int → Bool) (nl : Bool) (xs : List (Bool × List Int)) (hg : ∀ x ∈ xs, CallOk Tryz.prog g (row x :: caps) (.v (.bool (p x)))) :
    CallOk Tryz.prog 106 [intss nl xs, .fn g caps] (int (idxOf p xs)) := by
  have hG : FnsOk Tryz.prog [(g, mk (fun x => x ∈ xs) (fun x : Bool × List Int => row x :: caps) (fun x => .v (.bool (p x))))] := .cons (mk_ok fun x hx => hg x hx) .nil
  have hat : ∀ k (h : k < xs.length), mk (fun x => x ∈ xs) (fun x : Bool × List Int => (row x : AV) :: caps) (fun x => AV.v (.bool (p x))) (row xs[k] :: caps) = some (.v (.bool (p xs[k]))) := fun k h =>
    mk_eq (enc := fun x : Bool × List Int => (row x : AV) :: caps) (x := xs[k]) (by intro x y h; simp [row_inj] at h; simp [h]) (List.getElem_mem h)
  generalize hm : mk (fun x => x ∈ xs) (fun x : Bool × List Int => (row x : AV) :: caps) (fun x => AV.v (.bool (p x))) = m at hG hat
  try simp only [intss, row] at hat
  refine callOk_awp (ctx_ok eqOk hG) mixed (live := [true, true, false, false, true, true, false, true, true, true, false, false, false, false, false, false, true]) (dt := []) Tryz.func106 rfl (by kernel_rfl) (by kernel_rfl) fun w0 hlens => ?_
  have hlen : xs.length ≤ 9223372036854775807 := (lens_intss.1 hlens.1).1.1
  simp [Tryz.f106, List.range, List.range.loop, intss, row, hc.res, hc.refs, hc.ren]
  refine awp_loop_of (ctx_ok eqOk hG) mixed (live := [true, true, false, false, true, true, false, true, true, true, false, false, false, false, false, false, true]) [true, true, false, false, false, false, false, true, true] (α := {k : Nat // k ≤ xs.length ∧ ∀ j (hj : j < xs.length), j < k → p xs[j] = false})
    (fun k => ⟨[intss nl xs, .fn g caps, .junk, .junk, .junk, .junk, .junk, int xs.length, int k.1] ++ List.replicate 10 .junk, []⟩) (fun k => xs.length - k.1) ⟨0, by omega, by omega⟩
    (by simp [sub, slotsLe, clean, keep, refsL, refs, once, place, renL, ren, List.replicate, int, bool, intss, row, hc.refs, hc.ren]) ?_
  rintro ⟨k, hk, hno⟩
  by_cases h : k < xs.length
  · have hz := hat k h
    cases hp : p xs[k] with
    | true =>
      rw [hp] at hz
      simp [List.range, List.range.loop, intss, row, int, h, List.replicate, hc.res, hc.refs, hc.ren, hz, idxOf_found h hno hp]
    | false =>
      rw [hp] at hz
      simp [List.range, List.range.loop, intss, row, int, h, List.replicate, hc.res, hc.refs, hc.ren, hz]
      refine ⟨⟨k + 1, h, fun j hj hjk => ?_⟩, ?_, by simp; omega⟩
      · by_cases e : j = k
        · subst e; exact hp
        · exact hno j hj (by omega)
      simp [sub, slotsLe, clean, keep, refsL, refs, once, place, renL, ren, List.replicate, int, bool, intss, row, hc.refs, hc.ren]
      exact wrapI (by omega) (by omega)
  · have hk' : k = xs.length := by omega
    subst hk'
    simp [List.range, List.range.loop, intss, row, int, h, List.replicate, hc.res, hc.refs, hc.ren, idxOf_none hno]
set_option maxHeartbeats 1000000 in
theorem containsIntss {g : FuncId} {caps : List AV} (hc : Pure caps) (p : Bool × List Int → Bool) (nl : Bool) (xs : List (Bool × List Int)) (hg : ∀ x ∈ xs, CallOk Tryz.prog g (row x :: caps) (.v (.bool (p x)))) :
    CallOk Tryz.prog 225 [intss nl xs, .fn g caps] (bool (xs.any p)) := by
  have hG : FnsOk Tryz.prog [(106, only [.sl nl 1 (xs.map row), .fn g caps] (.v (.int .i64 (idxOf p xs))))] := .cons (only_ok (indexIntss hc p nl xs hg)) .nil
  refine callOk_awp (ctx_ok eqOk hG) mixed (live := [true, true, false, false, true]) (dt := []) Tryz.func225 rfl (by kernel_rfl) (by kernel_rfl) fun w0 hlens => ?_
  simp [Tryz.f225, List.range, List.range.loop, intss, row, bool, hc.res, hc.refs, hc.ren, ge_zero, only_at, idxOf_nonneg]
end Go.Proofs.YtkfmhpgnhkdebaaGreatDoor.Ax
namespace Go.Proofs.YtkfmhpgnhkdebaaGreatDoor.Ax
open Go Go.RowKit
set_option linter.unusedSimpArgs false
def inR (lo hi x : Int) : Bool := decide (lo ≤ x) && decide (x ≤ hi)
theorem not_any_not {α : Type} {p : α → Bool} {xs : List α} : (!xs.any fun x => !p x) = xs.all p := by
  induction xs with
  | nil => rfl
  | cons x xs ih => simp only [List.any_cons, List.all_cons, Bool.not_or, Bool.not_not, ih]
theorem pure_fp {a : AV} {j : Nat} {l : List AV} (h : Pure l) : Pure (.fp a j :: l) := ⟨fun t => by simp [resL, res, h.res], by simp [refsL, refs, h.refs], fun f => by simp [renL, ren, h.ren]⟩
theorem pure_nil : Pure [] := ⟨fun t => by simp [resL], by simp [refsL], fun f => by simp [renL]⟩
def rowIs (n : Nat) (most : Int) (r : Bool × List Int) : Bool := decide (r.2.length = n) && r.2.all (inR 0 most)
def rectB (xss : List (Bool × List Int)) (high wide most : Int) : Bool := match xss with
  | [] => false
  | r0 :: _ => inR 1 high xss.length && inR 1 wide r0.2.length && xss.all (rowIs r0.2.length most)
end Go.Proofs.YtkfmhpgnhkdebaaGreatDoor.Ax
namespace Go.Proofs.YtkfmhpgnhkdebaaGreatDoor.Ax
open Go Go.RowKit
set_option linter.unusedSimpArgs false
end Go.Proofs.YtkfmhpgnhkdebaaGreatDoor.Ax
namespace Go.Proofs.YtkfmhpgnhkdebaaGreatDoor.Ax
open Go Go.RowKit
set_option linter.unusedSimpArgs false
end Go.Proofs.YtkfmhpgnhkdebaaGreatDoor.Ax
namespace Go.Proofs.YtkfmhpgnhkdebaaGreatDoor.Ax
open Go Go.RowKit
set_option linter.unusedSimpArgs false
def posFrom (v : Int) : List Int → Nat → Int
  | [], _ => -1
  | x :: xs, k => if x = v then k else posFrom v xs (k + 1)
def pos (xs : List Int) (v : Int) : Int := posFrom v xs 0
theorem drop_get {α : Type} {xs : List α} {k : Nat} (h : k < xs.length) : xs.drop k = xs[k] :: xs.drop (k + 1) := List.drop_eq_getElem_cons h
noncomputable def mPos : List AV → Option AV := mk (fun _ => True) (fun (p : (Bool) × (List Int) × (Int)) => [ints p.1 p.2.1, int p.2.2]) (fun p => int (pos p.2.1 p.2.2))
theorem mPos_at (nl : Bool) (xs : List Int) (v : Int) : mPos [.sl nl 1 (xs.map int), .v (.int .i64 v)] = some (.v (.int .i64 (pos xs v))) :=
  mk_eq (enc := fun (p : (Bool) × (List Int) × (Int)) => [ints p.1 p.2.1, int p.2.2]) (x := (nl, xs, v)) (by rintro ⟨a0, a1, a2⟩ ⟨b0, b1, b2⟩ h; simp [ints, intss, int, bool, row, frac, fracs, map_int_inj, map_row_inj, frac_inj, map_frac_inj] at h; simp [h]) trivial
set_option maxHeartbeats 1000000 in
theorem slicesIndex_ok : FnOk Tryz.prog 234 mPos := by
  refine mk_ok fun ⟨nl, xs, v⟩ _ => ?_
  have hG : FnsOk Tryz.prog [] := .nil
  refine callOk_awp (ctx_ok eqOk hG) mixed (live := [true, true, false, false, true, true, false, true, true, true, false, false, false, false, false, false, true]) (dt := []) Tryz.func234 rfl (by kernel_rfl) (by kernel_rfl) fun w0 hlens => ?_
  simp only [lensL, lens, ints, int, List.length_map] at hlens
  generalize hr : pos xs v = r
  simp [Tryz.f234, List.range, List.range.loop, ints, intss, int, bool, row, frac, fracs, ← List.map_take, ← List.map_drop, ints]
  refine awp_range (live := [true, true, false, false, true, true, false, true, true, true, false, false, false, false, false, false, true]) (ctx_ok eqOk hG) mixed [true, true, false, false, false, false, false, true, true] (xs.length) (fun k => posFrom v (xs.drop k) k = r) (fun k => ⟨[ints nl xs, int v, .junk, .junk, .junk, .junk, .junk, int xs.length, int k, .junk, .junk, .junk, .junk, .junk, .junk, .junk, .junk, .junk, .junk], []⟩) ?_ (by simp [sub, slotsLe, clean, keep, refsL, refs, once, place, renL, ren, List.replicate, int, bool, ints]) ?_ ?_ ?_
  · exact hlens.1.1.1
  · simpa [pos] using hr
  · intro k h hp hw
    rw [drop_get h, posFrom] at hp
    by_cases e : xs[k] = v
    · rw [if_pos e] at hp; subst hp
      simp [List.range, List.range.loop, ints, intss, int, bool, row, frac, fracs, ← List.map_take, ← List.map_drop, h, e]
    · rw [if_neg e] at hp
      have e' : ¬ v = xs[k] := fun h => e h.symm
      simp [List.range, List.range.loop, ints, intss, int, bool, row, frac, fracs, ← List.map_take, ← List.map_drop, h, hw, hp, e']
  · intro hp
    simp [posFrom] at hp; subst hp
    simp [List.range, List.range.loop, ints, intss, int, bool, row, frac, fracs, ← List.map_take, ← List.map_drop]
end Go.Proofs.YtkfmhpgnhkdebaaGreatDoor.Ax
namespace Go.Proofs.YtkfmhpgnhkdebaaGreatDoor.Ax
open Go Go.RowKit
set_option linter.unusedSimpArgs false
end Go.Proofs.YtkfmhpgnhkdebaaGreatDoor.Ax
namespace Go.Proofs.YtkfmhpgnhkdebaaGreatDoor.Ax
open Go Go.RowKit
set_option linter.unusedSimpArgs false
end Go.Proofs.YtkfmhpgnhkdebaaGreatDoor.Ax
namespace Go.Proofs.YtkfmhpgnhkdebaaGreatDoor.Ax
open Go Go.RowKit
set_option linter.unusedSimpArgs false
def allR (n : Nat) (f : Nat → Bool) : Bool := (List.range n).all f
theorem allR_no {n k : Nat} {f : Nat → Bool} (h : k < n) (hf : f k = false) : allR n f = false := by
  unfold allR; rw [List.all_eq_false]; exact ⟨k, by simpa using h, by simp [hf]⟩
def upto (f : Nat → Bool) (k : Nat) : Prop := ∀ j, j < k → f j = true
theorem upto_zero {f : Nat → Bool} : upto f 0 := fun _ h => by omega
theorem upto_succ {k : Nat} {f : Nat → Bool} (h : upto f k) (hk : f k = true) : upto f (k + 1) := fun j hj => by
  by_cases e : j = k
  · subst e; exact hk
  · exact h j (by omega)
theorem allR_yes {n : Nat} {f : Nat → Bool} (h : upto f n) : allR n f = true := by
  unfold allR; rw [List.all_eq_true]; intro x hx; exact h x (by simpa using hx)
theorem getD_at {xs : List Int} {k : Nat} (h : k < xs.length) : xs.getD k 0 = xs[k] := by simp [List.getD_eq_getElem?_getD, h]
noncomputable def mHas : List AV → Option AV := mk (fun _ => True) (fun (p : (Bool) × (List Int) × (Int)) => [ints p.1 p.2.1, int p.2.2]) (fun p => bool (decide (0 ≤ pos p.2.1 p.2.2)))
theorem mHas_at (nl : Bool) (xs : List Int) (v : Int) : mHas [.sl nl 1 (xs.map int), .v (.int .i64 v)] = some (.v (.bool (decide (0 ≤ pos xs v)))) :=
  mk_eq (enc := fun (p : (Bool) × (List Int) × (Int)) => [ints p.1 p.2.1, int p.2.2]) (x := (nl, xs, v)) (by rintro ⟨a0, a1, a2⟩ ⟨b0, b1, b2⟩ h; simp [ints, intss, int, bool, row, frac, fracs, map_int_inj, map_row_inj, frac_inj, map_frac_inj] at h; simp [h]) trivial
theorem slicesContains_ok : FnOk Tryz.prog 181 mHas := by
  refine mk_ok fun ⟨nl, xs, v⟩ _ => ?_
  have hG : FnsOk Tryz.prog [(234, mPos)] := (.cons slicesIndex_ok .nil)
  refine callOk_awp (ctx_ok eqOk hG) mixed (live := [true, true, false, false, true]) (dt := []) Tryz.func181 rfl (by kernel_rfl) (by kernel_rfl) fun w0 hlens => ?_
  simp [Tryz.f181, List.range, List.range.loop, ints, intss, int, bool, row, frac, fracs, ← List.map_take, ← List.map_drop, mPos_at, ge_zero]
theorem mWithin_in {n lo hi : Int} : mWithin [.v (.int .i64 n), .v (.int .i64 lo), .v (.int .i64 hi)] = some (.v (.bool (inR lo hi n))) := rfl
def awAt (xs : List Int) (i : Nat) : Bool := !(decide (0 ≤ xs.getD i 0) && decide (0 ≤ pos (xs.take i) (xs.getD i 0)))
def isAwd (xs : List Int) : Bool := allR xs.length (awAt xs)
end Go.Proofs.YtkfmhpgnhkdebaaGreatDoor.Ax
namespace Go.Proofs.YtkfmhpgnhkdebaaGreatDoor.Ax
open Go Go.RowKit
set_option linter.unusedSimpArgs false
def at0 (xs : List Int) (i : Nat) : Int := xs.getD i 0
theorem at0_eq {xs : List Int} {i : Nat} (h : i < xs.length) : at0 xs i = xs[i] := getD_at h
def wid (xss : List (Bool × List Int)) : Nat := (xss.headD (true, [])).2.length
def ent (xss : List (Bool × List Int)) (i : Nat) (k : Int) : Int := (xss.getD i (true, [])).2.getD k.toNat 0
end Go.Proofs.YtkfmhpgnhkdebaaGreatDoor.Ax
namespace Go.Proofs.YtkfmhpgnhkdebaaGreatDoor.Ax
open Go Go.RowKit
set_option linter.unusedSimpArgs false
def mxTo (xs : List Int) (k : Nat) : Int := (xs.take k).foldl max (xs.headD 0)
theorem mxTo_one {xs : List Int} (h : 0 < xs.length) : mxTo xs 1 = xs[0] := by
  cases xs with
  | nil => simp at h
  | cons x xs => simp [mxTo]
theorem mxTo_succ {xs : List Int} {k : Nat} (h : k < xs.length) : mxTo xs (k + 1) = max (mxTo xs k) xs[k] := by
  unfold mxTo; rw [List.take_succ_eq_append_getElem h, List.foldl_append]; rfl
def mx (xs : List Int) : Int := mxTo xs xs.length
noncomputable def mMax : List AV → Option AV := mk (fun p => 0 < p.2.length ∧ p.2.length ≤ 2 ^ 40) (fun (p : Bool × List Int) => [ints p.1 p.2]) (fun p => int (mx p.2))
theorem mMax_at (nl : Bool) (xs : List Int) (h : 0 < xs.length) (h' : xs.length ≤ 2 ^ 40) : mMax [.sl nl 1 (xs.map int)] = some (.v (.int .i64 (mx xs))) :=
  mk_eq (enc := fun (p : Bool × List Int) => [ints p.1 p.2]) (x := (nl, xs)) (by rintro ⟨x, x'⟩ ⟨y, y'⟩ h; simp [ints, map_int_inj] at h; simp [h]) ⟨h, h'⟩
set_option maxHeartbeats 1000000 in
theorem max_ok : FnOk Tryz.prog 191 mMax := by
  refine mk_ok fun ⟨nl, xs⟩ ⟨h0, hp⟩ => ?_
  simp only at h0 hp
  refine callOk_of_awp (ctx_ok eqOk .nil) mixed (live := [true, false, true, true, true, false, false, true, false, false, false, false, false, false, false, true]) (dt := []) Tryz.func191 rfl (by kernel_rfl) (by kernel_rfl) fun w0 => ?_
  have hlt : ¬ (xs.length : Int) < 1 := by omega
  simp [Tryz.f191, List.range, List.range.loop, ints, int, hlt, h0]
  refine awp_loop_of (ctx_ok eqOk .nil) mixed (live := [true, false, true, true, true, false, false, true, false, false, false, false, false, false, false, true]) [true, false, false, true, true] (α := {k : Nat // k ≤ xs.length ∧ 1 ≤ k})
    (fun k => ⟨[ints nl xs, .junk, .junk, int (mxTo xs k.1), int k.1, .junk, .junk, .junk, .junk, .junk, .junk, .junk, .junk, .junk, .junk, .junk, .junk, .junk, .junk, .junk, .junk, .junk, .junk, .junk, .junk], []⟩) (fun k => xs.length - k.1) ⟨1, by omega, by omega⟩
    (by simp [sub, slotsLe, clean, keep, refsL, refs, once, place, renL, ren, List.replicate, int, bool, ints, mxTo_one h0]) ?_
  rintro ⟨k, hk, hk1⟩
  by_cases h : k < xs.length
  · simp [List.range, List.range.loop, ints, int, h]
    refine ⟨⟨k + 1, h, by omega⟩, ?_, by simp; omega⟩
    simp [sub, slotsLe, clean, keep, refsL, refs, once, place, renL, ren, List.replicate, int, bool, ints, mxTo_succ h]
    exact wrapI (by omega) (by omega)
  · have hk' : k = xs.length := by omega
    subst hk'
    simp [List.range, List.range.loop, ints, int, h, mx]
end Go.Proofs.YtkfmhpgnhkdebaaGreatDoor.Ax
