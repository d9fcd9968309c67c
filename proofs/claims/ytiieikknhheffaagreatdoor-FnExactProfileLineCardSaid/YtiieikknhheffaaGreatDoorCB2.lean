/-
  Contracts of the library's searches over a list by a function. No condition.
-/
import Derived.Test.YtiieikknhheffaaGreatDoorCB1
import Derived.Test.YtiieikknhheffaaGreatDoorCK4
namespace Go.Proofs.YtiieikknhheffaaGreatDoor.Ax
open Go Go.RowKit
set_option linter.unusedSimpArgs false

/-- What a closure holds leads into no row of the caller's. -/
structure Pure (caps : List AV) : Prop where
  res : ∀ toks, resL toks caps = caps
  refs : refsL caps = []
  ren : ∀ f, renL f caps = caps

/-- The model that speaks of one call alone. -/
noncomputable def only (a : List AV) (r : AV) : List AV → Option AV := mk (fun _ : Unit => True) (fun _ => a) (fun _ => r)
theorem only_at {a : List AV} {r : AV} : only a r a = some r := mk_eq (enc := fun _ : Unit => a) (x := ()) (fun _ _ _ => rfl) trivial
theorem only_ok {P : Program} {f : FuncId} {a : List AV} {r : AV} (h : CallOk P f a r) : FnOk P f (only a r) := mk_ok fun _ _ => h

theorem as_model {P : Program} {f : FuncId} {a : List AV} {r : AV} (h : CallOk P f a r) : ∃ m, FnOk P f m ∧ m a = some r := ⟨only a r, only_ok h, only_at⟩

def idxOf {α : Type} (p : α → Bool) (xs : List α) : Int := (xs.findIdx? p).elim (-1) fun i => (i : Int)
theorem idxOf_found {α : Type} {p : α → Bool} {xs : List α} {k : Nat} (hk : k < xs.length) (h : ∀ j (hj : j < xs.length), j < k → p xs[j] = false) (hp : p xs[k] = true) : idxOf p xs = k := by
  have : xs.findIdx? p = some k := List.findIdx?_eq_some_iff_getElem.2 ⟨hk, hp, fun j hj => by rw [h j (by omega) hj]; simp⟩
  simp [idxOf, this]
theorem idxOf_none {α : Type} {p : α → Bool} {xs : List α} (h : ∀ j (hj : j < xs.length), j < xs.length → p xs[j] = false) : idxOf p xs = -1 := by
  have : xs.findIdx? p = none := List.findIdx?_eq_none_iff.2 fun x hx => by
    obtain ⟨i, hi, rfl⟩ := List.getElem_of_mem hx
    exact h i hi hi
  simp [idxOf, this]
theorem idxOf_nonneg {α : Type} {p : α → Bool} {xs : List α} : decide (0 ≤ idxOf p xs) = xs.any p := by
  unfold idxOf
  cases h : xs.findIdx? p with
  | none =>
    have := List.findIdx?_eq_none_iff.1 h
    simp
    exact this
  | some i =>
    obtain ⟨hi, hp, _⟩ := List.findIdx?_eq_some_iff_getElem.1 h
    simp
    exact ⟨_, List.getElem_mem hi, hp⟩
theorem ge_zero {x : Int} : decide (x ≥ 0) = decide (0 ≤ x) := rfl


set_option maxHeartbeats 1000000 in
theorem indexInts {g : FuncId} {caps : List AV} (hc : Pure caps) (p : Int → Bool) (nl : Bool) (xs : List (Int)) (hg : ∀ x ∈ xs, CallOk Tryz.prog g (.v (.int .i64 x) :: caps) (.v (.bool (p x)))) :
    CallOk Tryz.prog 172 [ints nl xs, .fn g caps] (int (idxOf p xs)) := by
  have hG : FnsOk Tryz.prog [(g, mk (fun x => x ∈ xs) (fun x : Int => .v (.int .i64 x) :: caps) (fun x => .v (.bool (p x))))] := .cons (mk_ok fun x hx => hg x hx) .nil
  have hat : ∀ k (h : k < xs.length), mk (fun x => x ∈ xs) (fun x : Int => (.v (.int .i64 x) : AV) :: caps) (fun x => AV.v (.bool (p x))) (.v (.int .i64 xs[k]) :: caps) = some (.v (.bool (p xs[k]))) := fun k h =>
    mk_eq (enc := fun x : Int => (.v (.int .i64 x) : AV) :: caps) (x := xs[k]) (by intro x y h; simp at h; simp [h]) (List.getElem_mem h)
  generalize hm : mk (fun x => x ∈ xs) (fun x : Int => (.v (.int .i64 x) : AV) :: caps) (fun x => AV.v (.bool (p x))) = m at hG hat
  try simp only [ints, int] at hat
  refine callOk_awp (ctx_ok eqOk hG) mixed (live := [true, true, false, false, true, true, false, true, true, true, false, false, false, false, false, false, true]) (dt := []) Tryz.func172 rfl (by kernel_rfl) (by kernel_rfl) fun w0 hlens => ?_
  have hlen : xs.length ≤ 9223372036854775807 := (lens_ints.1 hlens.1).1
  simp [Tryz.f172, List.range, List.range.loop, ints, int, hc.res, hc.refs, hc.ren]
  refine awp_loop_of (ctx_ok eqOk hG) mixed (live := [true, true, false, false, true, true, false, true, true, true, false, false, false, false, false, false, true]) [true, true, false, false, false, false, false, true, true] (α := {k : Nat // k ≤ xs.length ∧ ∀ j (hj : j < xs.length), j < k → p xs[j] = false})
    (fun k => ⟨[ints nl xs, .fn g caps, .junk, .junk, .junk, .junk, .junk, int xs.length, int k.1] ++ List.replicate 10 .junk, []⟩) (fun k => xs.length - k.1) ⟨0, by omega, by omega⟩
    (by simp [sub, slotsLe, clean, keep, refsL, refs, once, place, renL, ren, List.replicate, int, bool, ints, int, hc.refs, hc.ren]) ?_
  rintro ⟨k, hk, hno⟩
  by_cases h : k < xs.length
  · have hz := hat k h
    cases hp : p xs[k] with
    | true =>
      rw [hp] at hz
      simp [List.range, List.range.loop, ints, int, int, h, List.replicate, hc.res, hc.refs, hc.ren, hz, idxOf_found h hno hp]
    | false =>
      rw [hp] at hz
      simp [List.range, List.range.loop, ints, int, int, h, List.replicate, hc.res, hc.refs, hc.ren, hz]
      refine ⟨⟨k + 1, h, fun j hj hjk => ?_⟩, ?_, by simp; omega⟩
      · by_cases e : j = k
        · subst e; exact hp
        · exact hno j hj (by omega)
      simp [sub, slotsLe, clean, keep, refsL, refs, once, place, renL, ren, List.replicate, int, bool, ints, int, hc.refs, hc.ren]
      exact wrapI (by omega) (by omega)
  · have hk' : k = xs.length := by omega
    subst hk'
    simp [List.range, List.range.loop, ints, int, int, h, List.replicate, hc.res, hc.refs, hc.ren, idxOf_none hno]

set_option maxHeartbeats 1000000 in
theorem containsInts {g : FuncId} {caps : List AV} (hc : Pure caps) (p : Int → Bool) (nl : Bool) (xs : List (Int)) (hg : ∀ x ∈ xs, CallOk Tryz.prog g (.v (.int .i64 x) :: caps) (.v (.bool (p x)))) :
    CallOk Tryz.prog 194 [ints nl xs, .fn g caps] (bool (xs.any p)) := by
  have hG : FnsOk Tryz.prog [(172, only [.sl nl 1 (xs.map int), .fn g caps] (.v (.int .i64 (idxOf p xs))))] := .cons (only_ok (indexInts hc p nl xs hg)) .nil
  refine callOk_awp (ctx_ok eqOk hG) mixed (live := [true, true, false, false, true]) (dt := []) Tryz.func194 rfl (by kernel_rfl) (by kernel_rfl) fun w0 hlens => ?_
  simp [Tryz.f194, List.range, List.range.loop, ints, int, bool, hc.res, hc.refs, hc.ren, ge_zero, only_at, idxOf_nonneg]

set_option maxHeartbeats 1000000 in
theorem indexIntss {g : FuncId} {caps : List AV} (hc : Pure caps) (p : Bool × List Int → Bool) (nl : Bool) (xs : List (Bool × List Int)) (hg : ∀ x ∈ xs, CallOk Tryz.prog g (row x :: caps) (.v (.bool (p x)))) :
    CallOk Tryz.prog 85 [intss nl xs, .fn g caps] (int (idxOf p xs)) := by
  have hG : FnsOk Tryz.prog [(g, mk (fun x => x ∈ xs) (fun x : Bool × List Int => row x :: caps) (fun x => .v (.bool (p x))))] := .cons (mk_ok fun x hx => hg x hx) .nil
  have hat : ∀ k (h : k < xs.length), mk (fun x => x ∈ xs) (fun x : Bool × List Int => (row x : AV) :: caps) (fun x => AV.v (.bool (p x))) (row xs[k] :: caps) = some (.v (.bool (p xs[k]))) := fun k h =>
    mk_eq (enc := fun x : Bool × List Int => (row x : AV) :: caps) (x := xs[k]) (by intro x y h; simp [row_inj] at h; simp [h]) (List.getElem_mem h)
  generalize hm : mk (fun x => x ∈ xs) (fun x : Bool × List Int => (row x : AV) :: caps) (fun x => AV.v (.bool (p x))) = m at hG hat
  try simp only [intss, row] at hat
  refine callOk_awp (ctx_ok eqOk hG) mixed (live := [true, true, false, false, true, true, false, true, true, true, false, false, false, false, false, false, true]) (dt := []) Tryz.func85 rfl (by kernel_rfl) (by kernel_rfl) fun w0 hlens => ?_
  have hlen : xs.length ≤ 9223372036854775807 := (lens_intss.1 hlens.1).1.1
  simp [Tryz.f85, List.range, List.range.loop, intss, row, hc.res, hc.refs, hc.ren]
  refine awp_loop_of (ctx_ok eqOk hG) mixed (live := [true, true, false, false, true, true, false, true, true, true, false, false, false, false, false, false, true]) [true, true, false, false, false, false, false, true, true] (α := {k : Nat // k ≤ xs.length ∧ ∀ j (hj : j < xs.length), j < k → p xs[j] = false})
    (fun k => ⟨[intss nl xs, .fn g caps, .junk, .junk, .junk, .junk, .junk, int xs.length, int k.1] ++ List.replicate 10 .junk, []⟩) (fun k => xs.length - k.1) ⟨0, by omega, by omega⟩
    (by simp [sub, slotsLe, clean, keep, refsL, refs, once, place, renL, ren, List.replicate, int, bool, intss, row, hc.refs, hc.ren]) ?_
  rintro ⟨k, hk, hno⟩
  by_cases h : k < xs.length
  · have hz := hat k h
    cases hp : p xs[k] with
    | true =>
      rw [hp] at hz
      simp [List.range, List.range.loop, intss, row, int, h, List.replicate, hc.res, hc.refs, hc.ren, hz, idxOf_found h hno hp]
    | false =>
      rw [hp] at hz
      simp [List.range, List.range.loop, intss, row, int, h, List.replicate, hc.res, hc.refs, hc.ren, hz]
      refine ⟨⟨k + 1, h, fun j hj hjk => ?_⟩, ?_, by simp; omega⟩
      · by_cases e : j = k
        · subst e; exact hp
        · exact hno j hj (by omega)
      simp [sub, slotsLe, clean, keep, refsL, refs, once, place, renL, ren, List.replicate, int, bool, intss, row, hc.refs, hc.ren]
      exact wrapI (by omega) (by omega)
  · have hk' : k = xs.length := by omega
    subst hk'
    simp [List.range, List.range.loop, intss, row, int, h, List.replicate, hc.res, hc.refs, hc.ren, idxOf_none hno]

set_option maxHeartbeats 1000000 in
theorem containsIntss {g : FuncId} {caps : List AV} (hc : Pure caps) (p : Bool × List Int → Bool) (nl : Bool) (xs : List (Bool × List Int)) (hg : ∀ x ∈ xs, CallOk Tryz.prog g (row x :: caps) (.v (.bool (p x)))) :
    CallOk Tryz.prog 169 [intss nl xs, .fn g caps] (bool (xs.any p)) := by
  have hG : FnsOk Tryz.prog [(85, only [.sl nl 1 (xs.map row), .fn g caps] (.v (.int .i64 (idxOf p xs))))] := .cons (only_ok (indexIntss hc p nl xs hg)) .nil
  refine callOk_awp (ctx_ok eqOk hG) mixed (live := [true, true, false, false, true]) (dt := []) Tryz.func169 rfl (by kernel_rfl) (by kernel_rfl) fun w0 hlens => ?_
  simp [Tryz.f169, List.range, List.range.loop, intss, row, bool, hc.res, hc.refs, hc.ren, ge_zero, only_at, idxOf_nonneg]

end Go.Proofs.YtiieikknhheffaaGreatDoor.Ax

/-
  Contracts of allWithin and rectangle. No condition.
-/
namespace Go.Proofs.YtiieikknhheffaaGreatDoor.Ax
open Go Go.RowKit
set_option linter.unusedSimpArgs false

def inR (lo hi x : Int) : Bool := decide (lo ≤ x) && decide (x ≤ hi)

theorem allWithin1 (x lo hi : Int) : CallOk Tryz.prog 195 [.v (.int .i64 x), .fp (.v (.int .i64 lo)) 0, .fp (.v (.int .i64 hi)) 0] (.v (.bool (!inR lo hi x))) := by
  have hG : FnsOk Tryz.prog [(78, mWithin)] := .cons within_ok .nil
  refine callOk_of_awp (ctx_ok eqOk hG) mixed (live := [true, true, true, false, true]) (dt := []) Tryz.func195 rfl (by kernel_rfl) (by kernel_rfl) fun w0 => ?_
  simp [Tryz.f195, List.range, List.range.loop, mWithin, inR]

noncomputable def mAllIn : List AV → Option AV := mk (fun _ => True) (fun (p : Bool × List Int × Int × Int) => [ints p.1 p.2.1, int p.2.2.1, int p.2.2.2]) (fun p => bool (p.2.1.all (inR p.2.2.1 p.2.2.2)))
theorem mAllIn_at (nl : Bool) (xs : List Int) (lo hi : Int) : mAllIn [.sl nl 1 (xs.map int), .v (.int .i64 lo), .v (.int .i64 hi)] = some (.v (.bool (xs.all (inR lo hi)))) :=
  mk_eq (enc := fun (p : Bool × List Int × Int × Int) => [ints p.1 p.2.1, int p.2.2.1, int p.2.2.2]) (x := (nl, xs, lo, hi)) (by rintro ⟨x, x', a, b⟩ ⟨y, y', c, d⟩ h; simp [ints, int_inj, map_int_inj] at h; simp [h]) trivial

theorem not_any_not {α : Type} {p : α → Bool} {xs : List α} : (!xs.any fun x => !p x) = xs.all p := by
  induction xs with
  | nil => rfl
  | cons x xs ih => simp only [List.any_cons, List.all_cons, Bool.not_or, Bool.not_not, ih]

theorem pure_fp {a : AV} {j : Nat} {l : List AV} (h : Pure l) : Pure (.fp a j :: l) := ⟨fun t => by simp [resL, res, h.res], by simp [refsL, refs, h.refs], fun f => by simp [renL, ren, h.ren]⟩
theorem pure_nil : Pure [] := ⟨fun t => by simp [resL], by simp [refsL], fun f => by simp [renL]⟩

theorem allWithin_ok : FnOk Tryz.prog 167 mAllIn := by
  refine mk_ok fun ⟨nl, xs, lo, hi⟩ _ => ?_
  have hc := containsInts (g := 195) (pure_fp (a := .v (.int .i64 lo)) (j := 0) (pure_fp (a := .v (.int .i64 hi)) (j := 0) pure_nil)) (fun x => !inR lo hi x) nl xs (fun x _ => allWithin1 x lo hi)
  have hG : FnsOk Tryz.prog [(194, only _ _)] := .cons (only_ok hc) .nil
  refine callOk_of_awp (ctx_ok eqOk hG) mixed (live := [true, true, true, false, true, true, true]) (dt := []) Tryz.func167 rfl (by kernel_rfl) (by kernel_rfl) fun w0 => ?_
  have ha := only_at (a := [ints nl xs, .fn 195 [.fp (.v (.int .i64 lo)) 0, .fp (.v (.int .i64 hi)) 0]]) (r := bool (xs.any fun x => !inR lo hi x))
  simp only [ints, bool] at ha
  simp [Tryz.f167, List.range, List.range.loop, ints, int, bool, ha, not_any_not]

/-- Is it a row of n numbers, each from 0 to most? -/
def rowIs (n : Nat) (most : Int) (r : Bool × List Int) : Bool := decide (r.2.length = n) && r.2.all (inR 0 most)

def rectB (xss : List (Bool × List Int)) (high wide most : Int) : Bool := match xss with
  | [] => false
  | r0 :: _ => inR 1 high xss.length && inR 1 wide r0.2.length && xss.all (rowIs r0.2.length most)

noncomputable def mRect : List AV → Option AV := mk (fun _ => True) (fun (p : Bool × List (Bool × List Int) × Int × Int × Int) => [intss p.1 p.2.1, int p.2.2.1, int p.2.2.2.1, int p.2.2.2.2]) (fun p => bool (rectB p.2.1 p.2.2.1 p.2.2.2.1 p.2.2.2.2))
theorem mRect_at (nl : Bool) (xs : List (Bool × List Int)) (a b c : Int) : mRect [.sl nl 1 (xs.map row), .v (.int .i64 a), .v (.int .i64 b), .v (.int .i64 c)] = some (.v (.bool (rectB xs a b c))) :=
  mk_eq (enc := fun (p : Bool × List (Bool × List Int) × Int × Int × Int) => [intss p.1 p.2.1, int p.2.2.1, int p.2.2.2.1, int p.2.2.2.2]) (x := (nl, xs, a, b, c)) (by rintro ⟨x, x', a, b, c⟩ ⟨y, y', d, e, f⟩ h; simp [intss, int_inj, map_row_inj] at h; simp [h]) trivial

end Go.Proofs.YtiieikknhheffaaGreatDoor.Ax

/-
  Contracts of BidsOk and CakeOk. No condition.
-/
namespace Go.Proofs.YtiieikknhheffaaGreatDoor.Ax
open Go Go.RowKit
set_option linter.unusedSimpArgs false

noncomputable def mGrid (a b c : Int) : List AV → Option AV := mk (fun _ => True) (fun (p : Bool × List (Bool × List Int)) => [intss p.1 p.2]) (fun p => bool (rectB p.2 a b c))
theorem mGrid_at {a b c : Int} (nl : Bool) (xs : List (Bool × List Int)) : mGrid a b c [.sl nl 1 (xs.map row)] = some (.v (.bool (rectB xs a b c))) :=
  mk_eq (enc := fun (p : Bool × List (Bool × List Int)) => [intss p.1 p.2]) (x := (nl, xs)) (by rintro ⟨x, x'⟩ ⟨y, y'⟩ h; simp [intss, map_row_inj] at h; simp [h]) trivial

theorem rectB_eq {xss : List (Bool × List Int)} {a b c : Int} (h : 0 < xss.length) : rectB xss a b c = (inR 1 a xss.length && inR 1 b xss[0].2.length && xss.all (rowIs xss[0].2.length c)) := by
  cases xss with
  | nil => simp at h
  | cons x xs => rfl
theorem rectB_nil {xss : List (Bool × List Int)} {a b c : Int} (h : ¬ 0 < xss.length) : rectB xss a b c = false := by
  cases xss with
  | nil => rfl
  | cons x xs => simp at h

theorem all_of {α : Type} {p : α → Bool} {xs : List α} (h : ∀ j (hj : j < xs.length), j < xs.length → p xs[j] = true) : xs.all p = true := by
  rw [List.all_eq_true]
  intro x hx
  obtain ⟨i, hi, rfl⟩ := List.getElem_of_mem hx
  exact h i hi hi
theorem all_not {α : Type} {p : α → Bool} {xs : List α} {k : Nat} (hk : k < xs.length) (h : p xs[k] = false) : xs.all p = false := by
  rw [List.all_eq_false]
  exact ⟨xs[k], List.getElem_mem hk, by simp [h]⟩

theorem need_small {xss : List (Bool × List Int)} (h : need xss ≤ 1048576) : small xss := by
  simp only [need] at h
  refine ⟨by omega, fun x hx => ?_⟩
  obtain ⟨i, hi, rfl⟩ := List.getElem_of_mem hx
  have h1 := rowSum_succ hi
  have h2 := rowSum_mono (xss := xss) (show i + 1 ≤ xss.length from hi)
  omega
theorem own_small {xss : List (Bool × List Int)} (h : small xss) : small (own xss) := by
  refine ⟨by rw [own_len]; exact h.1, fun x hx => ?_⟩
  simp only [own, List.mem_map] at hx
  obtain ⟨y, hy, rfl⟩ := hx
  exact h.2 y hy

end Go.Proofs.YtiieikknhheffaaGreatDoor.Ax

/-
  Contracts of the reference's BidsOk and CakeOk. No condition.
-/
namespace Go.Proofs.YtiieikknhheffaaGreatDoor.Ax
open Go Go.RowKit
set_option linter.unusedSimpArgs false

end Go.Proofs.YtiieikknhheffaaGreatDoor.Ax

/-
  Contracts of the two PointsOk. No condition.
-/
namespace Go.Proofs.YtiieikknhheffaaGreatDoor.Ax
open Go Go.RowKit
set_option linter.unusedSimpArgs false

set_option maxHeartbeats 400000 in
theorem l13Sum_ok : FnOk Tryz.prog 111 mSum := by
  refine mk_ok fun ⟨nl, xs⟩ _ => ?_
  refine callOk_awp (ctx_ok eqOk .nil) mixed (live := [true, false, true, true, false, true, true, true, true, true]) (dt := []) Tryz.func111 rfl (by kernel_rfl) (by kernel_rfl) fun w0 hlens => ?_
  have hpre : xs.length ≤ 9223372036854775807 := (lens_ints.1 hlens.1).1
  simp [Tryz.f111, List.range, List.range.loop, ints]
  refine awp_loop_of (ctx_ok eqOk .nil) mixed (live := [true, false, true, true, false, true, true, true, true, true]) [false, false, false, true, false, false, true, true, true] (α := {k : Nat // k ≤ xs.length})
    (fun k => ⟨[.junk, .junk, .junk, int (sumW (xs.take k.1)), .junk, .junk, ints nl xs, int xs.length, int k.1, .junk, .junk, .junk, .junk, .junk, .junk, .junk, .junk], []⟩) (fun k => xs.length - k.1) ⟨0, by omega⟩ (by simp [sub, slotsLe, clean, keep, refsL, refs, once, place, renL, ren, List.replicate, int, bool, ints, sumW]) ?_
  rintro ⟨k, hk⟩
  by_cases h : k < xs.length
  · simp [List.range, List.range.loop, ints, int, h]
    refine ⟨⟨k + 1, h⟩, ?_, by simp; omega⟩
    simp [sub, slotsLe, clean, keep, refsL, refs, once, place, renL, ren, List.replicate, int, bool, ints, sumW_succ h]
    rw [wrapI (by omega) (by omega)]
  · simp [List.range, List.range.loop, ints, int, h]
    rw [List.take_of_length_le (by omega)]

/-- A row of n numbers from 0 to 100 that come to 100. -/
def rowP (n : Nat) (r : Bool × List Int) : Bool := rowIs n 100 r && decide (sumW r.2 = 100)
def pointsB (xss : List (Bool × List Int)) : Bool := match xss with
  | [a, b] => inR 1 6 a.2.length && (rowP a.2.length a && rowP a.2.length b)
  | _ => false
theorem pointsB_eq {xss : List (Bool × List Int)} (h : xss.length = 2) : pointsB xss = (inR 1 6 (xss[0]'(by omega)).2.length && xss.all (rowP (xss[0]'(by omega)).2.length)) := by
  match xss, h with
  | [a, b], _ => simp [pointsB]
theorem pointsB_ne {xss : List (Bool × List Int)} (h : ¬ xss.length = 2) : pointsB xss = false := by
  match xss, h with
  | [], _ => rfl
  | [a], _ => rfl
  | [a, b], h => simp at h
  | a :: b :: c :: l, _ => rfl
theorem pointsB_rect {xss : List (Bool × List Int)} (h : xss.length = 2) : pointsB xss = (rectB xss 2 6 100 && (decide (sumW (xss[0]'(by omega)).2 = 100) && decide (sumW (xss[1]'(by omega)).2 = 100))) := by
  match xss, h with
  | [a, b], _ =>
    simp only [pointsB, rectB, rowP, List.all_cons, List.all_nil, List.getElem_cons_zero, List.getElem_cons_succ, List.length_cons, List.length_nil]
    rw [show inR 1 2 ((0 + 1 + 1 : Nat) : Int) = true from rfl]
    generalize inR 1 6 _ = p
    generalize rowIs _ _ a = q
    generalize rowIs _ _ b = r
    generalize decide (sumW a.2 = 100) = s
    generalize decide (sumW b.2 = 100) = t
    cases p <;> cases q <;> cases r <;> cases s <;> cases t <;> rfl

noncomputable def mPoints : List AV → Option AV := mk (fun _ => True) (fun (p : Bool × List (Bool × List Int)) => [intss p.1 p.2]) (fun p => bool (pointsB p.2))
theorem mPoints_at (nl : Bool) (xs : List (Bool × List Int)) : mPoints [.sl nl 1 (xs.map row)] = some (.v (.bool (pointsB xs))) :=
  mk_eq (enc := fun (p : Bool × List (Bool × List Int)) => [intss p.1 p.2]) (x := (nl, xs)) (by rintro ⟨x, x'⟩ ⟨y, y'⟩ h; simp [intss, map_row_inj] at h; simp [h]) trivial

end Go.Proofs.YtiieikknhheffaaGreatDoor.Ax

/-
  Contracts of the library's searches over a list by a function. No condition.
-/
namespace Go.Proofs.YtiieikknhheffaaGreatDoor.Ax
open Go Go.RowKit
set_option linter.unusedSimpArgs false

theorem lens_fracs {nl : Bool} {xs : List (Int × Int)} : lens (.sl nl 2 (xs.map frac)) ↔ xs.length ≤ 9223372036854775807 ∧ (nl = true → xs = []) := by
  simp [lens, lensL_map, lensL, frac]

set_option maxHeartbeats 1000000 in
theorem indexFracs {g : FuncId} {caps : List AV} (hc : Pure caps) (p : Int × Int → Bool) (nl : Bool) (xs : List (Int × Int)) (hg : ∀ x ∈ xs, CallOk Tryz.prog g (frac x :: caps) (.v (.bool (p x)))) :
    CallOk Tryz.prog 139 [fracs nl xs, .fn g caps] (int (idxOf p xs)) := by
  have hG : FnsOk Tryz.prog [(g, mk (fun x => x ∈ xs) (fun x : Int × Int => frac x :: caps) (fun x => .v (.bool (p x))))] := .cons (mk_ok fun x hx => hg x hx) .nil
  have hat : ∀ k (h : k < xs.length), mk (fun x => x ∈ xs) (fun x : Int × Int => (frac x : AV) :: caps) (fun x => AV.v (.bool (p x))) (frac xs[k] :: caps) = some (.v (.bool (p xs[k]))) := fun k h =>
    mk_eq (enc := fun x : Int × Int => (frac x : AV) :: caps) (x := xs[k]) (by intro x y h; simp [frac_inj] at h; simp [h]) (List.getElem_mem h)
  generalize hm : mk (fun x => x ∈ xs) (fun x : Int × Int => (frac x : AV) :: caps) (fun x => AV.v (.bool (p x))) = m at hG hat
  try simp only [fracs, frac] at hat
  refine callOk_awp (ctx_ok eqOk hG) mixed (live := [true, true, false, false, true, true, false, true, true, true, false, false, false, false, false, false, true]) (dt := []) Tryz.func139 rfl (by kernel_rfl) (by kernel_rfl) fun w0 hlens => ?_
  have hlen : xs.length ≤ 9223372036854775807 := (lens_fracs.1 hlens.1).1
  simp [Tryz.f139, List.range, List.range.loop, fracs, frac, hc.res, hc.refs, hc.ren]
  refine awp_loop_of (ctx_ok eqOk hG) mixed (live := [true, true, false, false, true, true, false, true, true, true, false, false, false, false, false, false, true]) [true, true, false, false, false, false, false, true, true] (α := {k : Nat // k ≤ xs.length ∧ ∀ j (hj : j < xs.length), j < k → p xs[j] = false})
    (fun k => ⟨[fracs nl xs, .fn g caps, .junk, .junk, .junk, .junk, .junk, int xs.length, int k.1] ++ List.replicate 10 .junk, []⟩) (fun k => xs.length - k.1) ⟨0, by omega, by omega⟩
    (by simp [sub, slotsLe, clean, keep, refsL, refs, once, place, renL, ren, List.replicate, int, bool, fracs, frac, hc.refs, hc.ren]) ?_
  rintro ⟨k, hk, hno⟩
  by_cases h : k < xs.length
  · have hz := hat k h
    cases hp : p xs[k] with
    | true =>
      rw [hp] at hz
      simp [List.range, List.range.loop, fracs, frac, int, h, List.replicate, hc.res, hc.refs, hc.ren, hz, idxOf_found h hno hp]
    | false =>
      rw [hp] at hz
      simp [List.range, List.range.loop, fracs, frac, int, h, List.replicate, hc.res, hc.refs, hc.ren, hz]
      refine ⟨⟨k + 1, h, fun j hj hjk => ?_⟩, ?_, by simp; omega⟩
      · by_cases e : j = k
        · subst e; exact hp
        · exact hno j hj (by omega)
      simp [sub, slotsLe, clean, keep, refsL, refs, once, place, renL, ren, List.replicate, int, bool, fracs, frac, hc.refs, hc.ren]
      exact wrapI (by omega) (by omega)
  · have hk' : k = xs.length := by omega
    subst hk'
    simp [List.range, List.range.loop, fracs, frac, int, h, List.replicate, hc.res, hc.refs, hc.ren, idxOf_none hno]

set_option maxHeartbeats 1000000 in
theorem containsFracs {g : FuncId} {caps : List AV} (hc : Pure caps) (p : Int × Int → Bool) (nl : Bool) (xs : List (Int × Int)) (hg : ∀ x ∈ xs, CallOk Tryz.prog g (frac x :: caps) (.v (.bool (p x)))) :
    CallOk Tryz.prog 79 [fracs nl xs, .fn g caps] (bool (xs.any p)) := by
  have hG : FnsOk Tryz.prog [(139, only [.sl nl 2 (xs.map frac), .fn g caps] (.v (.int .i64 (idxOf p xs))))] := .cons (only_ok (indexFracs hc p nl xs hg)) .nil
  refine callOk_awp (ctx_ok eqOk hG) mixed (live := [true, true, false, false, true]) (dt := []) Tryz.func79 rfl (by kernel_rfl) (by kernel_rfl) fun w0 hlens => ?_
  simp [Tryz.f79, List.range, List.range.loop, fracs, frac, bool, hc.res, hc.refs, hc.ren, ge_zero, only_at, idxOf_nonneg]

end Go.Proofs.YtiieikknhheffaaGreatDoor.Ax

/-
  Contracts: where a number stands in a list (both programs, the library). No condition.
-/
namespace Go.Proofs.YtiieikknhheffaaGreatDoor.Ax
open Go Go.RowKit
set_option linter.unusedSimpArgs false

/-- The place of v among xs from place i on (k: the place of the head), or -1. -/
def posFrom (v : Int) : List Int → Nat → Int
  | [], _ => -1
  | x :: xs, k => if x = v then k else posFrom v xs (k + 1)
def pos (xs : List Int) (v : Int) : Int := posFrom v xs 0

theorem drop_get {α : Type} {xs : List α} {k : Nat} (h : k < xs.length) : xs.drop k = xs[k] :: xs.drop (k + 1) := List.drop_eq_getElem_cons h

noncomputable def mPos : List AV → Option AV := mk (fun _ => True) (fun (p : (Bool) × (List Int) × (Int)) => [ints p.1 p.2.1, int p.2.2]) (fun p => int (pos p.2.1 p.2.2))
theorem mPos_at (nl : Bool) (xs : List Int) (v : Int) : mPos [.sl nl 1 (xs.map int), .v (.int .i64 v)] = some (.v (.int .i64 (pos xs v))) :=
  mk_eq (enc := fun (p : (Bool) × (List Int) × (Int)) => [ints p.1 p.2.1, int p.2.2]) (x := (nl, xs, v)) (by rintro ⟨a0, a1, a2⟩ ⟨b0, b1, b2⟩ h; simp [ints, intss, int, bool, row, frac, fracs, map_int_inj, map_row_inj, frac_inj, map_frac_inj] at h; simp [h]) trivial

set_option maxHeartbeats 1000000 in
theorem slicesIndex_ok : FnOk Tryz.prog 178 mPos := by
  refine mk_ok fun ⟨nl, xs, v⟩ _ => ?_
  have hG : FnsOk Tryz.prog [] := .nil
  refine callOk_awp (ctx_ok eqOk hG) mixed (live := [true, true, false, false, true, true, false, true, true, true, false, false, false, false, false, false, true]) (dt := []) Tryz.func178 rfl (by kernel_rfl) (by kernel_rfl) fun w0 hlens => ?_
  simp only [lensL, lens, ints, int, List.length_map] at hlens
  generalize hr : pos xs v = r
  simp [Tryz.f178, List.range, List.range.loop, ints, intss, int, bool, row, frac, fracs, ← List.map_take, ← List.map_drop, ints]
  refine awp_range (live := [true, true, false, false, true, true, false, true, true, true, false, false, false, false, false, false, true]) (ctx_ok eqOk hG) mixed [true, true, false, false, false, false, false, true, true] (xs.length) (fun k => posFrom v (xs.drop k) k = r) (fun k => ⟨[ints nl xs, int v, .junk, .junk, .junk, .junk, .junk, int xs.length, int k, .junk, .junk, .junk, .junk, .junk, .junk, .junk, .junk, .junk, .junk], []⟩) ?_ (by simp [sub, slotsLe, clean, keep, refsL, refs, once, place, renL, ren, List.replicate, int, bool, ints]) ?_ ?_ ?_
  · exact hlens.1.1.1
  · simpa [pos] using hr
  · intro k h hp hw
    rw [drop_get h, posFrom] at hp
    by_cases e : xs[k] = v
    · rw [if_pos e] at hp; subst hp
      simp [List.range, List.range.loop, ints, intss, int, bool, row, frac, fracs, ← List.map_take, ← List.map_drop, h, e]
    · rw [if_neg e] at hp
      have e' : ¬ v = xs[k] := fun h => e h.symm
      simp [List.range, List.range.loop, ints, intss, int, bool, row, frac, fracs, ← List.map_take, ← List.map_drop, h, hw, hp, e']
  · intro hp
    simp [posFrom] at hp; subst hp
    simp [List.range, List.range.loop, ints, intss, int, bool, row, frac, fracs, ← List.map_take, ← List.map_drop]

end Go.Proofs.YtiieikknhheffaaGreatDoor.Ax

/-
  Contracts: PlaceOf, Contains, awards (both programs). No condition.
-/
namespace Go.Proofs.YtiieikknhheffaaGreatDoor.Ax
open Go Go.RowKit
set_option linter.unusedSimpArgs false

/-- All numbers below n answer yes. -/
def allR (n : Nat) (f : Nat → Bool) : Bool := (List.range n).all f
theorem allR_no {n k : Nat} {f : Nat → Bool} (h : k < n) (hf : f k = false) : allR n f = false := by
  unfold allR; rw [List.all_eq_false]; exact ⟨k, by simpa using h, by simp [hf]⟩
/-- All numbers below k answer yes. -/
def upto (f : Nat → Bool) (k : Nat) : Prop := ∀ j, j < k → f j = true
theorem upto_zero {f : Nat → Bool} : upto f 0 := fun _ h => by omega
theorem upto_succ {k : Nat} {f : Nat → Bool} (h : upto f k) (hk : f k = true) : upto f (k + 1) := fun j hj => by
  by_cases e : j = k
  · subst e; exact hk
  · exact h j (by omega)
theorem allR_yes {n : Nat} {f : Nat → Bool} (h : upto f n) : allR n f = true := by
  unfold allR; rw [List.all_eq_true]; intro x hx; exact h x (by simpa using hx)
theorem allR_and {n : Nat} {f g : Nat → Bool} : allR n (fun i => f i && g i) = (allR n f && allR n g) := by
  unfold allR
  rw [Bool.eq_iff_iff]; simp [List.all_eq_true]
  exact ⟨fun h => ⟨fun x hx => (h x hx).1, fun x hx => (h x hx).2⟩, fun h x hx => ⟨h.1 x hx, h.2 x hx⟩⟩
theorem getD_at {xs : List Int} {k : Nat} (h : k < xs.length) : xs.getD k 0 = xs[k] := by simp [List.getD_eq_getElem?_getD, h]
theorem all_allR {xs : List Int} {p : Int → Bool} : xs.all p = allR xs.length fun i => p (xs.getD i 0) := by
  unfold allR
  rw [Bool.eq_iff_iff]; simp only [List.all_eq_true, List.mem_range]
  constructor
  · intro h i hi; rw [getD_at hi]; exact h _ (List.getElem_mem _)
  · intro h x hx
    obtain ⟨i, hi, rfl⟩ := List.getElem_of_mem hx
    have := h i hi; rwa [getD_at hi] at this

set_option maxHeartbeats 1000000 in
theorem placeOf_ok : FnOk Tryz.prog 200 mPos := by
  refine mk_ok fun ⟨nl, xs, v⟩ _ => ?_
  have hG : FnsOk Tryz.prog [] := .nil
  refine callOk_awp (ctx_ok eqOk hG) mixed (live := [true, true, false, false, true, true, true, true, true, true, true, false, false, false, false, false, true]) (dt := []) Tryz.func200 rfl (by kernel_rfl) (by kernel_rfl) fun w0 hlens => ?_
  simp only [lensL, lens, ints, int, List.length_map] at hlens
  generalize hr : pos xs v = r
  simp [Tryz.f200, List.range, List.range.loop, ints, intss, int, bool, row, frac, fracs, ← List.map_take, ← List.map_drop]
  refine awp_range (live := [true, true, false, false, true, true, true, true, true, true, true, false, false, false, false, false, true]) (ctx_ok eqOk hG) mixed [false, true, false, false, false, false, false, true, true, true] (xs.length) (fun k => posFrom v (xs.drop k) k = r) (fun k => ⟨[.junk, int v, .junk, .junk, .junk, .junk, .junk, ints nl xs, int xs.length, int k, .junk, .junk, .junk, .junk, .junk, .junk, .junk, .junk, .junk], []⟩) ?_ (by simp [sub, slotsLe, clean, keep, refsL, refs, once, place, renL, ren, List.replicate, int, bool, ints]) ?_ ?_ ?_
  · exact hlens.1.1.1
  · simpa [pos] using hr
  · intro k h hp hw
    rw [drop_get h, posFrom] at hp
    by_cases e : xs[k] = v
    · rw [if_pos e] at hp; subst hp
      simp [List.range, List.range.loop, ints, intss, int, bool, row, frac, fracs, ← List.map_take, ← List.map_drop, h, e]
    · rw [if_neg e] at hp
      simp [List.range, List.range.loop, ints, intss, int, bool, row, frac, fracs, ← List.map_take, ← List.map_drop, h, hw, hp, e]
  · intro hp
    simp [posFrom] at hp; subst hp
    simp [List.range, List.range.loop, ints, intss, int, bool, row, frac, fracs, ← List.map_take, ← List.map_drop]

noncomputable def mHas : List AV → Option AV := mk (fun _ => True) (fun (p : (Bool) × (List Int) × (Int)) => [ints p.1 p.2.1, int p.2.2]) (fun p => bool (decide (0 ≤ pos p.2.1 p.2.2)))
theorem mHas_at (nl : Bool) (xs : List Int) (v : Int) : mHas [.sl nl 1 (xs.map int), .v (.int .i64 v)] = some (.v (.bool (decide (0 ≤ pos xs v)))) :=
  mk_eq (enc := fun (p : (Bool) × (List Int) × (Int)) => [ints p.1 p.2.1, int p.2.2]) (x := (nl, xs, v)) (by rintro ⟨a0, a1, a2⟩ ⟨b0, b1, b2⟩ h; simp [ints, intss, int, bool, row, frac, fracs, map_int_inj, map_row_inj, frac_inj, map_frac_inj] at h; simp [h]) trivial

theorem slicesContains_ok : FnOk Tryz.prog 143 mHas := by
  refine mk_ok fun ⟨nl, xs, v⟩ _ => ?_
  have hG : FnsOk Tryz.prog [(178, mPos)] := (.cons slicesIndex_ok .nil)
  refine callOk_awp (ctx_ok eqOk hG) mixed (live := [true, true, false, false, true]) (dt := []) Tryz.func143 rfl (by kernel_rfl) (by kernel_rfl) fun w0 hlens => ?_
  simp [Tryz.f143, List.range, List.range.loop, ints, intss, int, bool, row, frac, fracs, ← List.map_take, ← List.map_drop, mPos_at, ge_zero]

theorem mWithin_in {n lo hi : Int} : mWithin [.v (.int .i64 n), .v (.int .i64 lo), .v (.int .i64 hi)] = some (.v (.bool (inR lo hi n))) := rfl

/-- All numbers of a list are in a range. -/
def allIn (lo hi : Int) (xs : List Int) : Bool := xs.all (inR lo hi)
theorem mAllIn_in {nl : Bool} {xs : List Int} {lo hi : Int} : mAllIn [.sl nl 1 (xs.map int), .v (.int .i64 lo), .v (.int .i64 hi)] = some (.v (.bool (allIn lo hi xs))) := mAllIn_at nl xs lo hi
theorem allIn_eq {lo hi : Int} {xs : List Int} : allIn lo hi xs = allR xs.length fun i => inR lo hi (xs.getD i 0) := all_allR
theorem allIn_mem {lo hi : Int} {xs : List Int} (h : allIn lo hi xs = true) {x : Int} (hx : x ∈ xs) : lo ≤ x ∧ x ≤ hi := by
  have := List.all_eq_true.1 h x hx
  simpa [inR] using this
theorem allIn_at {lo hi : Int} {xs : List Int} (h : allIn lo hi xs = true) {i : Nat} (hi' : i < xs.length) : lo ≤ xs[i] ∧ xs[i] ≤ hi := allIn_mem h (List.getElem_mem hi')

/-- No number of at least 0 twice. -/
def awAt (xs : List Int) (i : Nat) : Bool := !(decide (0 ≤ xs.getD i 0) && decide (0 ≤ pos (xs.take i) (xs.getD i 0)))
def isAwd (xs : List Int) : Bool := allR xs.length (awAt xs)

noncomputable def mIsAwd : List AV → Option AV := mk (fun _ => True) (fun (p : (Bool) × (List Int)) => [ints p.1 p.2]) (fun p => bool (isAwd p.2))
theorem mIsAwd_at (nl : Bool) (xs : List Int) : mIsAwd [.sl nl 1 (xs.map int)] = some (.v (.bool (isAwd xs))) :=
  mk_eq (enc := fun (p : (Bool) × (List Int)) => [ints p.1 p.2]) (x := (nl, xs)) (by rintro ⟨a0, a1⟩ ⟨b0, b1⟩ h; simp [ints, intss, int, bool, row, frac, fracs, map_int_inj, map_row_inj, frac_inj, map_frac_inj] at h; simp [h]) trivial

end Go.Proofs.YtiieikknhheffaaGreatDoor.Ax

/-
  Contracts: AwardOk, AwardWorth (both programs). No condition.
-/
namespace Go.Proofs.YtiieikknhheffaaGreatDoor.Ax
open Go Go.RowKit
set_option linter.unusedSimpArgs false

/-- Number i of a list, or 0. -/
def at0 (xs : List Int) (i : Nat) : Int := xs.getD i 0
theorem at0_get {xs : List Int} {i : Nat} (h : i < xs.length) : xs[i]? = some (at0 xs i) := by unfold at0; simp [List.getD_eq_getElem?_getD, h]
theorem at0_eq {xs : List Int} {i : Nat} (h : i < xs.length) : at0 xs i = xs[i] := getD_at h

/-- How wide the table is. -/
def wid (xss : List (Bool × List Int)) : Nat := (xss.headD (true, [])).2.length
theorem wid_eq {xss : List (Bool × List Int)} (h : 0 < xss.length) : xss[0].2.length = wid xss := by
  cases xss with
  | nil => simp at h
  | cons x l => rfl
theorem rect_pos {xss : List (Bool × List Int)} {a b c : Int} (h : rectB xss a b c = true) : 0 < xss.length := by
  cases xss with
  | nil => simp [rectB] at h
  | cons x l => simp
theorem rect_len {xss : List (Bool × List Int)} {a b c : Int} (h : rectB xss a b c = true) : (xss.length : Int) ≤ a ∧ (wid xss : Int) ≤ b ∧ 1 ≤ wid xss := by
  cases xss with
  | nil => simp [rectB] at h
  | cons x l => simp [rectB, inR, wid] at h ⊢; omega
theorem rect_row {xss : List (Bool × List Int)} {a b c : Int} (h : rectB xss a b c = true) {i : Nat} (hi : i < xss.length) : xss[i].2.length = wid xss ∧ ∀ x ∈ xss[i].2, 0 ≤ x ∧ x ≤ c := by
  cases xss with
  | nil => simp at hi
  | cons r l =>
    simp only [rectB, Bool.and_eq_true, List.all_eq_true] at h
    have := h.2 _ (List.getElem_mem hi)
    simp only [rowIs, Bool.and_eq_true, decide_eq_true_eq, List.all_eq_true, inR] at this
    exact this

/-- Entry k of row i. -/
def ent (xss : List (Bool × List Int)) (i : Nat) (k : Int) : Int := (xss.getD i (true, [])).2.getD k.toNat 0
theorem ent_at {xss : List (Bool × List Int)} {i : Nat} (hi : i < xss.length) {k : Nat} (hk : k < xss[i].2.length) : ent xss i k = xss[i].2[k] := by
  unfold ent; simp [List.getD_eq_getElem?_getD, hi, hk]
theorem ent_bd {xss : List (Bool × List Int)} {a b c : Int} (h : rectB xss a b c = true) {i : Nat} (hi : i < xss.length) {k : Nat} (hk : k < wid xss) : 0 ≤ ent xss i k ∧ ent xss i k ≤ c := by
  have := rect_row h hi
  rw [ent_at hi (by omega)]
  exact this.2 _ (List.getElem_mem _)

def awardB (xss : List (Bool × List Int)) (aw : List Int) : Bool := rectB xss 4 4 1000 && decide (aw.length = xss.length) && allIn (-1) (wid xss - 1) aw && isAwd aw

def awOkAt (xss : List (Bool × List Int)) (aw : List Int) (i : Nat) : Bool := inR (-1) (wid xss - 1) (aw.getD i 0) && awAt aw i
theorem awOkAt_def {xss : List (Bool × List Int)} {aw : List Int} : awOkAt xss aw = fun i => inR (-1) (wid xss - 1) (aw.getD i 0) && awAt aw i := rfl

noncomputable def mAwardOk : List AV → Option AV := mk (fun _ => True) (fun (p : (Bool) × (List (Bool × List Int)) × (Bool) × (List Int)) => [intss p.1 p.2.1, ints p.2.2.1 p.2.2.2]) (fun p => bool (awardB p.2.1 p.2.2.2))
theorem mAwardOk_at (nl : Bool) (xss : List (Bool × List Int)) (nl' : Bool) (aw : List Int) : mAwardOk [.sl nl 1 (xss.map row), .sl nl' 1 (aw.map int)] = some (.v (.bool (awardB xss aw))) :=
  mk_eq (enc := fun (p : (Bool) × (List (Bool × List Int)) × (Bool) × (List Int)) => [intss p.1 p.2.1, ints p.2.2.1 p.2.2.2]) (x := (nl, xss, nl', aw)) (by rintro ⟨a0, a1, a2, a3⟩ ⟨b0, b1, b2, b3⟩ h; simp [ints, intss, int, bool, row, frac, fracs, map_int_inj, map_row_inj, frac_inj, map_frac_inj] at h; simp [h]) trivial

end Go.Proofs.YtiieikknhheffaaGreatDoor.Ax
