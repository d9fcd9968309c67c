/-
  Contracts of the functions on lists of lists of ints. No condition.
-/
import Derived.Test.YtlkgppincgpfjaaDoorCB1
import Derived.Test.YtlkgppincgpfjaaDoorRows
import Derived.Test.YtlkgppincgpfjaaDoorCK4
namespace Go.Proofs.YtlkgppincgpfjaaDoor.Ax
open Go Go.RowKit
set_option linter.unusedSimpArgs false

/-- A row: is it nil, its numbers. -/
def row (p : Bool × List Int) : AV := .sl p.1 1 (p.2.map int)
def intss (nl : Bool) (xss : List (Bool × List Int)) : AV := .sl nl 1 (xss.map row)
theorem row_inj {p q : Bool × List Int} : row p = row q ↔ p = q := by
  obtain ⟨a, b⟩ := p; obtain ⟨c, d⟩ := q
  simp [row, map_int_inj]
theorem map_row_inj {a b : List (Bool × List Int)} : a.map row = b.map row ↔ a = b :=
  ⟨fun h => (List.map_inj_right (fun x y => row_inj.1)).1 h, fun h => by rw [h]⟩

theorem lens_row {r : Bool × List Int} : lens (.sl r.1 1 (r.2.map int)) ↔ r.2.length ≤ 9223372036854775807 ∧ (r.1 = true → r.2 = []) := lens_ints
theorem lens_intss {nl : Bool} {xss : List (Bool × List Int)} : lens (.sl nl 1 (xss.map row)) ↔ (xss.length ≤ 9223372036854775807 ∧ (nl = true → xss = [])) ∧ ∀ x ∈ xss, x.2.length ≤ 9223372036854775807 ∧ (x.1 = true → x.2 = []) := by
  simp only [lens, lensL_map, row, List.length_map, List.map_eq_nil_iff, lens_ints]

/-- How many numbers the first k rows hold. -/
def rowSum (xss : List (Bool × List Int)) (k : Nat) : Nat := ((xss.take k).map (·.2.length)).sum
theorem rowSum_zero {xss : List (Bool × List Int)} : rowSum xss 0 = 0 := by simp [rowSum]
theorem rowSum_succ {xss : List (Bool × List Int)} {k : Nat} (h : k < xss.length) : rowSum xss (k + 1) = rowSum xss k + xss[k].2.length := by
  unfold rowSum; rw [List.take_succ_eq_append_getElem h]; simp only [List.map_append, List.sum_append, List.map_cons, List.map_nil, List.sum_cons, List.sum_nil, Nat.add_zero]
theorem rowSum_mono {xss : List (Bool × List Int)} {k n : Nat} (h : k ≤ n) : rowSum xss k ≤ rowSum xss n := by
  induction n with
  | zero => obtain rfl : k = 0 := by omega
            exact Nat.le_refl _
  | succ n ih =>
    by_cases e : k = n + 1
    · rw [e]; exact Nat.le_refl _
    · refine Nat.le_trans (ih (by omega)) ?_
      by_cases hn : n < xss.length
      · rw [rowSum_succ hn]; omega
      · simp only [rowSum]; rw [List.take_of_length_le (by omega), List.take_of_length_le (by omega)]; exact Nat.le_refl _
def need (xss : List (Bool × List Int)) : Nat := xss.length + rowSum xss xss.length

noncomputable def mSzIss : List AV → Option AV := mk (fun p => p.2.1.length < 2 ^ 63 ∧ (∀ x ∈ p.2.1, x.2.length < 2 ^ 63) ∧ 0 ≤ p.2.2 ∧ p.2.2 ≤ 2 ^ 62) (fun (p : Bool × List (Bool × List Int) × Int) => [intss p.1 p.2.1, int p.2.2]) (fun p => int (if p.2.2 < need p.2.1 then -1 else p.2.2 - need p.2.1))
theorem mSzIss_at (nl : Bool) (xss : List (Bool × List Int)) (l : Int) (h : xss.length < 2 ^ 63) (h' : ∀ x ∈ xss, x.2.length < 2 ^ 63) (h1 : 0 ≤ l) (h2 : l ≤ 2 ^ 62) : mSzIss [.sl nl 1 (xss.map row), .v (.int .i64 l)] = some (.v (.int .i64 (if l < need xss then -1 else l - need xss))) :=
  mk_eq (enc := fun (p : Bool × List (Bool × List Int) × Int) => [intss p.1 p.2.1, int p.2.2]) (x := (nl, xss, l)) (by rintro ⟨x, x', x''⟩ ⟨y, y', y''⟩ h; simp [intss, int_inj, map_row_inj] at h; simp [h]) ⟨h, h', h1, h2⟩

set_option maxHeartbeats 1000000 in
theorem szIntSS_ok : FnOk Tryd.prog 10 mSzIss := by
  refine mk_ok fun ⟨nl, xss, l⟩ ⟨h1, h1', h2, h3⟩ => ?_
  simp only at h1 h1' h2 h3
  have hG : FnsOk Tryd.prog [(35, mSzI)] := .cons szIntS_ok .nil
  refine callOk_of_awp (ctx_ok eqOk hG) mixed (live := [true, true, false, false, true, true, false, false, false, false, false, true, false, false, false, true, false, false, false, false, false, false, false, false, false, true]) (dt := []) Tryd.func10 rfl (by kernel_rfl) (by kernel_rfl) fun w0 => ?_
  have hw : IntKind.i64.wrap (l - xss.length) = l - xss.length := wrapI (by omega) (by omega)
  by_cases h : l < xss.length
  · have h' : l - xss.length < 0 := by omega
    have hn : l < need xss := by simp only [need]; omega
    simp [Tryd.f10, List.range, List.range.loop, intss, int, hw, hn, h']
  · have h' : ¬ l - xss.length < 0 := by omega
    simp [Tryd.f10, List.range, List.range.loop, intss, int, hw, h, h']
    refine awp_loop_of (ctx_ok eqOk hG) mixed (live := [true, true, false, false, true, true, false, false, false, false, false, true, false, false, false, true, false, false, false, false, false, false, false, false, false, true]) [true, true, false, false, true, true] (α := {k : Nat // k ≤ xss.length ∧ (xss.length : Int) + rowSum xss k ≤ l})
      (fun k => ⟨[intss nl xss, int (l - xss.length - rowSum xss k.1), .junk, .junk, int 0, int k.1] ++ List.replicate 21 .junk, []⟩) (fun k => xss.length - k.1) ⟨0, by omega, by rw [rowSum_zero]; omega⟩
      (by simp [sub, slotsLe, clean, keep, refsL, refs, once, place, renL, ren, List.replicate, int, bool, intss, rowSum_zero]) ?_
    rintro ⟨k, hk, hl⟩
    by_cases hkn : k < xss.length
    · have hx := h1' xss[k] (List.getElem_mem _)
      have hs := rowSum_succ hkn
      have hz := mSzI_at xss[k].1 xss[k].2 (l - xss.length - rowSum xss k) hx (by omega) (by omega)
      by_cases hc : l - xss.length - rowSum xss k < xss[k].2.length
      · simp [hc] at hz
        have hn : l < need xss := by
          have := rowSum_mono (xss := xss) (show k + 1 ≤ xss.length from hkn)
          simp only [need]; omega
        simp [List.range, List.range.loop, intss, row, int, List.replicate, hkn, hz, hn]
      · simp [hc] at hz
        have hc' : ¬ l - xss.length - rowSum xss k - xss[k].2.length < 0 := by omega
        simp [List.range, List.range.loop, intss, row, int, List.replicate, hkn, hz, hc']
        refine ⟨⟨k + 1, hkn, by omega⟩, ?_, by simp; omega⟩
        simp [sub, slotsLe, clean, keep, refsL, refs, once, place, renL, ren, List.replicate, int, bool, intss, hs]
        exact ⟨by omega, wrapI (by omega) (by omega)⟩
    · have hk' : k = xss.length := by omega
      subst hk'
      have hn : ¬ l < need xss := by simp only [need]; omega
      simp [List.range, List.range.loop, intss, int, hkn, List.replicate, hn]
      simp only [need]; omega

/-- A row of the call's own. -/
def orow (p : Bool × List Int) : AV := .sl false 1 (p.2.map int)
def own (xss : List (Bool × List Int)) : List (Bool × List Int) := xss.map fun p => (false, p.2)
theorem own_len {xss : List (Bool × List Int)} : (own xss).length = xss.length := by simp [own]
theorem map_orow {xss : List (Bool × List Int)} : xss.map orow = (own xss).map row := by simp [own, orow, row]
def small (xss : List (Bool × List Int)) : Prop := xss.length ≤ 2 ^ 40 ∧ ∀ x ∈ xss, x.2.length ≤ 2 ^ 40

noncomputable def mToIss : List AV → Option AV := mk (fun p => small p.2) (fun (p : Bool × List (Bool × List Int)) => [intss p.1 p.2]) (fun p => intss false (own p.2))
theorem mToIss_at (nl : Bool) (xss : List (Bool × List Int)) (h : small xss) : mToIss [.sl nl 1 (xss.map row)] = some (.sl false 1 ((own xss).map row)) :=
  mk_eq (enc := fun (p : Bool × List (Bool × List Int)) => [intss p.1 p.2]) (x := (nl, xss)) (by rintro ⟨x, x'⟩ ⟨y, y'⟩ h; simp [intss, map_row_inj] at h; simp [h]) h

set_option maxHeartbeats 1000000 in
theorem toIntSS_ok : FnOk Tryd.prog 12 mToIss := by
  refine mk_ok fun ⟨nl, xss⟩ ⟨hpre, hpr⟩ => ?_
  simp only at hpre hpr
  have hG : FnsOk Tryd.prog [(30, mToIs)] := .cons toIntS_ok .nil
  refine callOk_of_awp (ctx_ok eqOk hG) mixed (live := [true, false, true, true, true, false, false, false, false, false, false, true]) (dt := []) Tryd.func12 rfl (by kernel_rfl) (by kernel_rfl) fun w0 => ?_
  have hb : 24 * xss.length ≤ 281474976710656 := by omega
  have hn : xss.length ≤ 4611686018427387904 := by omega
  simp [Tryd.f12, List.range, List.range.loop, intss, hb, hn]
  refine awp_loop_of (ctx_ok eqOk hG) mixed (live := [true, false, true, true, true, false, false, false, false, false, false, true]) [true, false, true, true, true] (α := {k : Nat // k ≤ xss.length})
    (fun k => ⟨[intss nl xss, .junk, .sl true 1 [], .ref 0 [] 0 xss.length, int k.1] ++ List.replicate 18 .junk, [⟨true, .sl false 1 (filled orow (.sl true 1 []) xss k.1)⟩]⟩) (fun k => xss.length - k.1) ⟨0, by omega⟩
    (by simp [sub, slotsLe, clean, keep, refsL, refs, once, place, renL, ren, List.replicate, int, bool, intss, filled_zero]) ?_
  rintro ⟨k, hk⟩
  by_cases h : k < xss.length
  · have hl := filled_len (f := orow) (z := AV.sl true 1 []) hk
    have hg := filled_get (f := orow) (z := AV.sl true 1 []) h
    have hg' := filled_get' (f := orow) (z := AV.sl true 1 []) h
    have hz := mToIs_at xss[k].1 xss[k].2 (hpr _ (List.getElem_mem _))
    simp [List.range, List.range.loop, intss, row, int, h, List.replicate, hl, hg, hg', hz]
    refine ⟨⟨k + 1, h⟩, ?_, by simp; omega⟩
    have hset := filled_set (f := orow) (z := AV.sl true 1 []) h
    simp only [orow] at hset
    simp [sub, slotsLe, clean, keep, refsL, refs, once, place, renL, ren, List.replicate, int, bool, intss, hset, hl]
    exact wrapI (by omega) (by omega)
  · have hk' : k = xss.length := by omega
    subst hk'
    simp [List.range, List.range.loop, intss, int, h, List.replicate, filled_all, map_orow, own_len]

theorem take_eq_nums {xss yss : List (Bool × List Int)} {k : Nat} (h1 : k < xss.length) (h2 : k < yss.length) : (xss.take (k + 1)).map (·.2) = (yss.take (k + 1)).map (·.2) ↔ (xss.take k).map (·.2) = (yss.take k).map (·.2) ∧ xss[k].2 = yss[k].2 := by
  rw [List.take_succ_eq_append_getElem h1, List.take_succ_eq_append_getElem h2, List.map_append, List.map_append]
  constructor
  · intro h
    have := List.append_inj h (by simp; omega)
    simpa using this
  · rintro ⟨h, h'⟩; rw [h]; simp [h']

noncomputable def mEqIss : List AV → Option AV := mk (fun p => small p.1.2 ∧ small p.2.2) (fun (p : (Bool × List (Bool × List Int)) × (Bool × List (Bool × List Int))) => [intss p.1.1 p.1.2, intss p.2.1 p.2.2]) (fun p => bool (decide (p.1.2.map (·.2) = p.2.2.map (·.2))))
theorem mEqIss_at (nl nl' : Bool) (xs ys : List (Bool × List Int)) (h : small xs) (h' : small ys) : mEqIss [.sl nl 1 (xs.map row), .sl nl' 1 (ys.map row)] = some (.v (.bool (decide (xs.map (·.2) = ys.map (·.2))))) :=
  mk_eq (enc := fun (p : (Bool × List (Bool × List Int)) × (Bool × List (Bool × List Int))) => [intss p.1.1 p.1.2, intss p.2.1 p.2.2]) (x := ((nl, xs), (nl', ys))) (by rintro ⟨⟨x, x'⟩, ⟨x'', x3⟩⟩ ⟨⟨y, y'⟩, ⟨y'', y3⟩⟩ h; simp [intss, map_row_inj] at h; simp [h]) ⟨h, h'⟩

set_option maxHeartbeats 1000000 in
theorem eqIntSS_ok : FnOk Tryd.prog 14 mEqIss := by
  refine mk_ok fun ⟨⟨nl, xs⟩, ⟨nl', ys⟩⟩ ⟨⟨hp, hpr⟩, ⟨hp', hpr'⟩⟩ => ?_
  simp only at hp hp' hpr hpr'
  have hG : FnsOk Tryd.prog [(32, mEqIs)] := .cons eqIntS_ok .nil
  refine callOk_of_awp (ctx_ok eqOk hG) mixed (live := [true, true, false, false, true, true, false, false, false, false, true, false, false, false, true, false, false, false, false, false, false, false, false, false, false, false, true]) (dt := [(6, ⟨[], [], []⟩)]) Tryd.func14 rfl (by kernel_rfl) (by kernel_rfl) fun w0 => ?_
  by_cases hl : xs.length = ys.length
  · simp [Tryd.f14, List.range, List.range.loop, intss, hl]
    refine awp_loop_of (ctx_ok eqOk hG) mixed (live := [true, true, false, false, true, true, false, false, false, false, true, false, false, false, true, false, false, false, false, false, false, false, false, false, false, false, true]) [true, true, false, false, true, true] (α := {k : Nat // k ≤ ys.length ∧ (xs.take k).map (·.2) = (ys.take k).map (·.2)})
      (fun k => ⟨[intss nl xs, intss nl' ys, .junk, .junk, bool false, int k.1] ++ List.replicate 21 .junk, []⟩) (fun k => ys.length - k.1) ⟨0, by omega, by simp⟩
      (by simp [sub, slotsLe, clean, keep, refsL, refs, once, place, renL, ren, List.replicate, int, bool, intss]) ?_
    rintro ⟨k, hk, he⟩
    by_cases h : k < ys.length
    · have h' : k < xs.length := by omega
      have hz := mEqIs_at xs[k].1 ys[k].1 xs[k].2 ys[k].2 (hpr _ (List.getElem_mem _)) (hpr' _ (List.getElem_mem _))
      by_cases hx : xs[k].2 = ys[k].2
      · simp [hx] at hz
        simp [List.range, List.range.loop, intss, row, int, bool, h, h', hl, List.replicate, hx, hz]
        refine ⟨⟨k + 1, h, (take_eq_nums h' h).2 ⟨he, hx⟩⟩, ?_, by simp; omega⟩
        simp [sub, slotsLe, clean, keep, refsL, refs, once, place, renL, ren, List.replicate, int, bool, intss]
        exact wrapI (by omega) (by omega)
      · have hx' : ¬ xs.map (·.2) = ys.map (·.2) := fun e => hx (by
          have e2 := congrArg (fun l => l[k]?) e
          simpa [h, h'] using e2)
        simp [hx] at hz
        simp [List.range, List.range.loop, intss, row, int, bool, h, h', hl, List.replicate, hz, hx']
    · have hk' : k = ys.length := by omega
      subst hk'
      simp [List.range, List.range.loop, intss, int, bool, h, hl, List.replicate]
      rw [List.take_of_length_le (by omega), List.take_of_length_le (by omega)] at he
      exact he
  · have hl' : ((xs.length : Int) != ys.length) = true := by simp; omega
    have hx' : ¬ xs.map (·.2) = ys.map (·.2) := fun e => hl (by have := congrArg List.length e; simpa using this)
    simp [Tryd.f14, List.range, List.range.loop, intss, hl, hl', bool, hx']

end Go.Proofs.YtlkgppincgpfjaaDoor.Ax

/-
  What this seat's laws are handed: lists of lists of ints; facts on the program. No condition.
-/
namespace Go.Proofs.YtlkgppincgpfjaaDoor.Ax
open Go Go.RowKit

theorem ownP : ownKnob Tryd.prog.godebug = none := by kernel_rfl
theorem laidOutP : laidOutB Tryd.prog = true := by kernel_rfl

theorem datIntss {a : AV} (h : DatE Tryd.prog 22 a) : ∃ nl xss, a = intss nl xss ∧ xss.length ≤ maxLen ∧ ∀ x ∈ xss, x.2.length ≤ maxLen ∧ ∀ n ∈ x.2, (Lit.int .i64 n).wf = true := by
  obtain ⟨nl, es, rfl, hl, hes⟩ := h.slice Tryd.underlying22
  obtain ⟨xs, rfl, hx⟩ := list_of (f := row) (Q := fun x => x.2.length ≤ maxLen ∧ ∀ n ∈ x.2, (Lit.int .i64 n).wf = true) (fun x hx => by
    obtain ⟨nl, xs, rfl, h1, h2⟩ := datInts (hes x hx)
    exact ⟨(nl, xs), rfl, h1, h2⟩)
  exact ⟨nl, xs, by rw [show Tryd.prog.cellsOf 44 = 1 from by kernel_rfl]; rfl, by simpa using hl, hx⟩

end Go.Proofs.YtlkgppincgpfjaaDoor.Ax

/-
  Contracts of the library's searches over a list by a function. No condition.
-/
namespace Go.Proofs.YtlkgppincgpfjaaDoor.Ax
open Go Go.RowKit
set_option linter.unusedSimpArgs false

/-- What a closure holds leads into no row of the caller's. -/
structure Pure (caps : List AV) : Prop where
  res : ∀ toks, resL toks caps = caps
  refs : refsL caps = []
  ren : ∀ f, renL f caps = caps

/-- The model that speaks of one call alone. -/
noncomputable def only (a : List AV) (r : AV) : List AV → Option AV := mk (fun _ : Unit => True) (fun _ => a) (fun _ => r)
theorem only_at {a : List AV} {r : AV} : only a r a = some r := mk_eq (enc := fun _ : Unit => a) (x := ()) (fun _ _ _ => rfl) trivial
theorem only_ok {P : Program} {f : FuncId} {a : List AV} {r : AV} (h : CallOk P f a r) : FnOk P f (only a r) := mk_ok fun _ _ => h

theorem as_model {P : Program} {f : FuncId} {a : List AV} {r : AV} (h : CallOk P f a r) : ∃ m, FnOk P f m ∧ m a = some r := ⟨only a r, only_ok h, only_at⟩

def idxOf {α : Type} (p : α → Bool) (xs : List α) : Int := (xs.findIdx? p).elim (-1) fun i => (i : Int)
theorem idxOf_found {α : Type} {p : α → Bool} {xs : List α} {k : Nat} (hk : k < xs.length) (h : ∀ j (hj : j < xs.length), j < k → p xs[j] = false) (hp : p xs[k] = true) : idxOf p xs = k := by
  have : xs.findIdx? p = some k := List.findIdx?_eq_some_iff_getElem.2 ⟨hk, hp, fun j hj => by rw [h j (by omega) hj]; simp⟩
  simp [idxOf, this]
theorem idxOf_none {α : Type} {p : α → Bool} {xs : List α} (h : ∀ j (hj : j < xs.length), j < xs.length → p xs[j] = false) : idxOf p xs = -1 := by
  have : xs.findIdx? p = none := List.findIdx?_eq_none_iff.2 fun x hx => by
    obtain ⟨i, hi, rfl⟩ := List.getElem_of_mem hx
    exact h i hi hi
  simp [idxOf, this]
theorem idxOf_nonneg {α : Type} {p : α → Bool} {xs : List α} : decide (0 ≤ idxOf p xs) = xs.any p := by
  unfold idxOf
  cases h : xs.findIdx? p with
  | none =>
    have := List.findIdx?_eq_none_iff.1 h
    simp
    exact this
  | some i =>
    obtain ⟨hi, hp, _⟩ := List.findIdx?_eq_some_iff_getElem.1 h
    simp
    exact ⟨_, List.getElem_mem hi, hp⟩
theorem ge_zero {x : Int} : decide (x ≥ 0) = decide (0 ≤ x) := rfl


set_option maxHeartbeats 1000000 in
theorem indexInts {g : FuncId} {caps : List AV} (hc : Pure caps) (p : Int → Bool) (nl : Bool) (xs : List (Int)) (hg : ∀ x ∈ xs, CallOk Tryd.prog g (.v (.int .i64 x) :: caps) (.v (.bool (p x)))) :
    CallOk Tryd.prog 114 [ints nl xs, .fn g caps] (int (idxOf p xs)) := by
  have hG : FnsOk Tryd.prog [(g, mk (fun x => x ∈ xs) (fun x : Int => .v (.int .i64 x) :: caps) (fun x => .v (.bool (p x))))] := .cons (mk_ok fun x hx => hg x hx) .nil
  have hat : ∀ k (h : k < xs.length), mk (fun x => x ∈ xs) (fun x : Int => (.v (.int .i64 x) : AV) :: caps) (fun x => AV.v (.bool (p x))) (.v (.int .i64 xs[k]) :: caps) = some (.v (.bool (p xs[k]))) := fun k h =>
    mk_eq (enc := fun x : Int => (.v (.int .i64 x) : AV) :: caps) (x := xs[k]) (by intro x y h; simp at h; simp [h]) (List.getElem_mem h)
  generalize hm : mk (fun x => x ∈ xs) (fun x : Int => (.v (.int .i64 x) : AV) :: caps) (fun x => AV.v (.bool (p x))) = m at hG hat
  try simp only [ints, int] at hat
  refine callOk_awp (ctx_ok eqOk hG) mixed (live := [true, true, false, false, true, true, false, true, true, true, false, false, false, false, false, false, true]) (dt := []) Tryd.func114 rfl (by kernel_rfl) (by kernel_rfl) fun w0 hlens => ?_
  have hlen : xs.length ≤ 9223372036854775807 := (lens_ints.1 hlens.1).1
  simp [Tryd.f114, List.range, List.range.loop, ints, int, hc.res, hc.refs, hc.ren]
  refine awp_loop_of (ctx_ok eqOk hG) mixed (live := [true, true, false, false, true, true, false, true, true, true, false, false, false, false, false, false, true]) [true, true, false, false, false, false, false, true, true] (α := {k : Nat // k ≤ xs.length ∧ ∀ j (hj : j < xs.length), j < k → p xs[j] = false})
    (fun k => ⟨[ints nl xs, .fn g caps, .junk, .junk, .junk, .junk, .junk, int xs.length, int k.1] ++ List.replicate 10 .junk, []⟩) (fun k => xs.length - k.1) ⟨0, by omega, by omega⟩
    (by simp [sub, slotsLe, clean, keep, refsL, refs, once, place, renL, ren, List.replicate, int, bool, ints, int, hc.refs, hc.ren]) ?_
  rintro ⟨k, hk, hno⟩
  by_cases h : k < xs.length
  · have hz := hat k h
    cases hp : p xs[k] with
    | true =>
      rw [hp] at hz
      simp [List.range, List.range.loop, ints, int, int, h, List.replicate, hc.res, hc.refs, hc.ren, hz, idxOf_found h hno hp]
    | false =>
      rw [hp] at hz
      simp [List.range, List.range.loop, ints, int, int, h, List.replicate, hc.res, hc.refs, hc.ren, hz]
      refine ⟨⟨k + 1, h, fun j hj hjk => ?_⟩, ?_, by simp; omega⟩
      · by_cases e : j = k
        · subst e; exact hp
        · exact hno j hj (by omega)
      simp [sub, slotsLe, clean, keep, refsL, refs, once, place, renL, ren, List.replicate, int, bool, ints, int, hc.refs, hc.ren]
      exact wrapI (by omega) (by omega)
  · have hk' : k = xs.length := by omega
    subst hk'
    simp [List.range, List.range.loop, ints, int, int, h, List.replicate, hc.res, hc.refs, hc.ren, idxOf_none hno]

set_option maxHeartbeats 1000000 in
theorem containsInts {g : FuncId} {caps : List AV} (hc : Pure caps) (p : Int → Bool) (nl : Bool) (xs : List (Int)) (hg : ∀ x ∈ xs, CallOk Tryd.prog g (.v (.int .i64 x) :: caps) (.v (.bool (p x)))) :
    CallOk Tryd.prog 133 [ints nl xs, .fn g caps] (bool (xs.any p)) := by
  have hG : FnsOk Tryd.prog [(114, only [.sl nl 1 (xs.map int), .fn g caps] (.v (.int .i64 (idxOf p xs))))] := .cons (only_ok (indexInts hc p nl xs hg)) .nil
  refine callOk_awp (ctx_ok eqOk hG) mixed (live := [true, true, false, false, true]) (dt := []) Tryd.func133 rfl (by kernel_rfl) (by kernel_rfl) fun w0 hlens => ?_
  simp [Tryd.f133, List.range, List.range.loop, ints, int, bool, hc.res, hc.refs, hc.ren, ge_zero, only_at, idxOf_nonneg]

set_option maxHeartbeats 1000000 in
theorem indexIntss {g : FuncId} {caps : List AV} (hc : Pure caps) (p : Bool × List Int → Bool) (nl : Bool) (xs : List (Bool × List Int)) (hg : ∀ x ∈ xs, CallOk Tryd.prog g (row x :: caps) (.v (.bool (p x)))) :
    CallOk Tryd.prog 131 [intss nl xs, .fn g caps] (int (idxOf p xs)) := by
  have hG : FnsOk Tryd.prog [(g, mk (fun x => x ∈ xs) (fun x : Bool × List Int => row x :: caps) (fun x => .v (.bool (p x))))] := .cons (mk_ok fun x hx => hg x hx) .nil
  have hat : ∀ k (h : k < xs.length), mk (fun x => x ∈ xs) (fun x : Bool × List Int => (row x : AV) :: caps) (fun x => AV.v (.bool (p x))) (row xs[k] :: caps) = some (.v (.bool (p xs[k]))) := fun k h =>
    mk_eq (enc := fun x : Bool × List Int => (row x : AV) :: caps) (x := xs[k]) (by intro x y h; simp [row_inj] at h; simp [h]) (List.getElem_mem h)
  generalize hm : mk (fun x => x ∈ xs) (fun x : Bool × List Int => (row x : AV) :: caps) (fun x => AV.v (.bool (p x))) = m at hG hat
  try simp only [intss, row] at hat
  refine callOk_awp (ctx_ok eqOk hG) mixed (live := [true, true, false, false, true, true, false, true, true, true, false, false, false, false, false, false, true]) (dt := []) Tryd.func131 rfl (by kernel_rfl) (by kernel_rfl) fun w0 hlens => ?_
  have hlen : xs.length ≤ 9223372036854775807 := (lens_intss.1 hlens.1).1.1
  simp [Tryd.f131, List.range, List.range.loop, intss, row, hc.res, hc.refs, hc.ren]
  refine awp_loop_of (ctx_ok eqOk hG) mixed (live := [true, true, false, false, true, true, false, true, true, true, false, false, false, false, false, false, true]) [true, true, false, false, false, false, false, true, true] (α := {k : Nat // k ≤ xs.length ∧ ∀ j (hj : j < xs.length), j < k → p xs[j] = false})
    (fun k => ⟨[intss nl xs, .fn g caps, .junk, .junk, .junk, .junk, .junk, int xs.length, int k.1] ++ List.replicate 10 .junk, []⟩) (fun k => xs.length - k.1) ⟨0, by omega, by omega⟩
    (by simp [sub, slotsLe, clean, keep, refsL, refs, once, place, renL, ren, List.replicate, int, bool, intss, row, hc.refs, hc.ren]) ?_
  rintro ⟨k, hk, hno⟩
  by_cases h : k < xs.length
  · have hz := hat k h
    cases hp : p xs[k] with
    | true =>
      rw [hp] at hz
      simp [List.range, List.range.loop, intss, row, int, h, List.replicate, hc.res, hc.refs, hc.ren, hz, idxOf_found h hno hp]
    | false =>
      rw [hp] at hz
      simp [List.range, List.range.loop, intss, row, int, h, List.replicate, hc.res, hc.refs, hc.ren, hz]
      refine ⟨⟨k + 1, h, fun j hj hjk => ?_⟩, ?_, by simp; omega⟩
      · by_cases e : j = k
        · subst e; exact hp
        · exact hno j hj (by omega)
      simp [sub, slotsLe, clean, keep, refsL, refs, once, place, renL, ren, List.replicate, int, bool, intss, row, hc.refs, hc.ren]
      exact wrapI (by omega) (by omega)
  · have hk' : k = xs.length := by omega
    subst hk'
    simp [List.range, List.range.loop, intss, row, int, h, List.replicate, hc.res, hc.refs, hc.ren, idxOf_none hno]

set_option maxHeartbeats 1000000 in
theorem containsIntss {g : FuncId} {caps : List AV} (hc : Pure caps) (p : Bool × List Int → Bool) (nl : Bool) (xs : List (Bool × List Int)) (hg : ∀ x ∈ xs, CallOk Tryd.prog g (row x :: caps) (.v (.bool (p x)))) :
    CallOk Tryd.prog 111 [intss nl xs, .fn g caps] (bool (xs.any p)) := by
  have hG : FnsOk Tryd.prog [(131, only [.sl nl 1 (xs.map row), .fn g caps] (.v (.int .i64 (idxOf p xs))))] := .cons (only_ok (indexIntss hc p nl xs hg)) .nil
  refine callOk_awp (ctx_ok eqOk hG) mixed (live := [true, true, false, false, true]) (dt := []) Tryd.func111 rfl (by kernel_rfl) (by kernel_rfl) fun w0 hlens => ?_
  simp [Tryd.f111, List.range, List.range.loop, intss, row, bool, hc.res, hc.refs, hc.ren, ge_zero, only_at, idxOf_nonneg]

end Go.Proofs.YtlkgppincgpfjaaDoor.Ax

/-
  Contracts of allWithin and rectangle. No condition.
-/
namespace Go.Proofs.YtlkgppincgpfjaaDoor.Ax
open Go Go.RowKit
set_option linter.unusedSimpArgs false

def inR (lo hi x : Int) : Bool := decide (lo ≤ x) && decide (x ≤ hi)

theorem allWithin1 (x lo hi : Int) : CallOk Tryd.prog 134 [.v (.int .i64 x), .fp (.v (.int .i64 lo)) 0, .fp (.v (.int .i64 hi)) 0] (.v (.bool (!inR lo hi x))) := by
  have hG : FnsOk Tryd.prog [(69, mWithin)] := .cons within_ok .nil
  refine callOk_of_awp (ctx_ok eqOk hG) mixed (live := [true, true, true, false, true]) (dt := []) Tryd.func134 rfl (by kernel_rfl) (by kernel_rfl) fun w0 => ?_
  simp [Tryd.f134, List.range, List.range.loop, mWithin, inR]

noncomputable def mAllIn : List AV → Option AV := mk (fun _ => True) (fun (p : Bool × List Int × Int × Int) => [ints p.1 p.2.1, int p.2.2.1, int p.2.2.2]) (fun p => bool (p.2.1.all (inR p.2.2.1 p.2.2.2)))
theorem mAllIn_at (nl : Bool) (xs : List Int) (lo hi : Int) : mAllIn [.sl nl 1 (xs.map int), .v (.int .i64 lo), .v (.int .i64 hi)] = some (.v (.bool (xs.all (inR lo hi)))) :=
  mk_eq (enc := fun (p : Bool × List Int × Int × Int) => [ints p.1 p.2.1, int p.2.2.1, int p.2.2.2]) (x := (nl, xs, lo, hi)) (by rintro ⟨x, x', a, b⟩ ⟨y, y', c, d⟩ h; simp [ints, int_inj, map_int_inj] at h; simp [h]) trivial

theorem not_any_not {α : Type} {p : α → Bool} {xs : List α} : (!xs.any fun x => !p x) = xs.all p := by
  induction xs with
  | nil => rfl
  | cons x xs ih => simp only [List.any_cons, List.all_cons, Bool.not_or, Bool.not_not, ih]

theorem pure_fp {a : AV} {j : Nat} {l : List AV} (h : Pure l) : Pure (.fp a j :: l) := ⟨fun t => by simp [resL, res, h.res], by simp [refsL, refs, h.refs], fun f => by simp [renL, ren, h.ren]⟩
theorem pure_nil : Pure [] := ⟨fun t => by simp [resL], by simp [refsL], fun f => by simp [renL]⟩

theorem allWithin_ok : FnOk Tryd.prog 117 mAllIn := by
  refine mk_ok fun ⟨nl, xs, lo, hi⟩ _ => ?_
  have hc := containsInts (g := 134) (pure_fp (a := .v (.int .i64 lo)) (j := 0) (pure_fp (a := .v (.int .i64 hi)) (j := 0) pure_nil)) (fun x => !inR lo hi x) nl xs (fun x _ => allWithin1 x lo hi)
  have hG : FnsOk Tryd.prog [(133, only _ _)] := .cons (only_ok hc) .nil
  refine callOk_of_awp (ctx_ok eqOk hG) mixed (live := [true, true, true, false, true, true, true]) (dt := []) Tryd.func117 rfl (by kernel_rfl) (by kernel_rfl) fun w0 => ?_
  have ha := only_at (a := [ints nl xs, .fn 134 [.fp (.v (.int .i64 lo)) 0, .fp (.v (.int .i64 hi)) 0]]) (r := bool (xs.any fun x => !inR lo hi x))
  simp only [ints, bool] at ha
  simp [Tryd.f117, List.range, List.range.loop, ints, int, bool, ha, not_any_not]

/-- Is it a row of n numbers, each from 0 to most? -/
def rowIs (n : Nat) (most : Int) (r : Bool × List Int) : Bool := decide (r.2.length = n) && r.2.all (inR 0 most)

theorem rectangle1 (r : Bool × List Int) (nl : Bool) (r0 : Bool × List Int) (rs : List (Bool × List Int)) (most : Int) :
    CallOk Tryd.prog 116 [row r, .fp (intss nl (r0 :: rs)) 0, .fp (int most) 0] (.v (.bool (!rowIs r0.2.length most r))) := by
  have hG : FnsOk Tryd.prog [(117, mAllIn)] := .cons allWithin_ok .nil
  refine callOk_of_awp (ctx_ok eqOk hG) mixed (live := [true, true, true, false, true]) (dt := []) Tryd.func116 rfl (by kernel_rfl) (by kernel_rfl) fun w0 => ?_
  have hz := mAllIn_at r.1 r.2 0 most
  by_cases h : r.2.length = r0.2.length
  · simp [Tryd.f116, List.range, List.range.loop, row, intss, int, h, hz, rowIs]
  · have h' : ((r.2.length : Int) != r0.2.length) = true := by simp; omega
    simp [Tryd.f116, List.range, List.range.loop, row, intss, int, h, h', hz, rowIs]

def rectB (xss : List (Bool × List Int)) (high wide most : Int) : Bool := match xss with
  | [] => false
  | r0 :: _ => inR 1 high xss.length && inR 1 wide r0.2.length && xss.all (rowIs r0.2.length most)

noncomputable def mRect : List AV → Option AV := mk (fun _ => True) (fun (p : Bool × List (Bool × List Int) × Int × Int × Int) => [intss p.1 p.2.1, int p.2.2.1, int p.2.2.2.1, int p.2.2.2.2]) (fun p => bool (rectB p.2.1 p.2.2.1 p.2.2.2.1 p.2.2.2.2))
theorem mRect_at (nl : Bool) (xs : List (Bool × List Int)) (a b c : Int) : mRect [.sl nl 1 (xs.map row), .v (.int .i64 a), .v (.int .i64 b), .v (.int .i64 c)] = some (.v (.bool (rectB xs a b c))) :=
  mk_eq (enc := fun (p : Bool × List (Bool × List Int) × Int × Int × Int) => [intss p.1 p.2.1, int p.2.2.1, int p.2.2.2.1, int p.2.2.2.2]) (x := (nl, xs, a, b, c)) (by rintro ⟨x, x', a, b, c⟩ ⟨y, y', d, e, f⟩ h; simp [intss, int_inj, map_row_inj] at h; simp [h]) trivial

set_option maxHeartbeats 1000000 in
theorem rectangle_ok : FnOk Tryd.prog 86 mRect := by
  refine mk_ok fun ⟨nl, xss, high, wide, most⟩ _ => ?_
  cases xss with
  | nil =>
    have hG : FnsOk Tryd.prog [(69, mWithin)] := .cons within_ok .nil
    refine callOk_of_awp (ctx_ok eqOk hG) mixed (live := [true, true, true, true, true, false, false, true, true, false, false, false, false, false, false, false, false, false, false, false, false, false, true]) (dt := []) Tryd.func86 rfl (by kernel_rfl) (by kernel_rfl) fun w0 => ?_
    simp [Tryd.f86, List.range, List.range.loop, intss, int, bool, mWithin, rectB]
  | cons r0 rs =>
    obtain ⟨m, hm, ha⟩ := as_model (containsIntss (g := 116) (pure_fp (a := intss nl (r0 :: rs)) (j := 0) (pure_fp (a := int most) (j := 0) pure_nil)) (fun r => !rowIs r0.2.length most r) nl (r0 :: rs) (fun x _ => rectangle1 x nl r0 rs most))
    have hG : FnsOk Tryd.prog [(69, mWithin), (111, m)] := .cons within_ok (.cons hm .nil)
    refine callOk_of_awp (ctx_ok eqOk hG) mixed (live := [true, true, true, true, true, false, false, true, true, false, false, false, false, false, false, false, false, false, false, false, false, false, true]) (dt := []) Tryd.func86 rfl (by kernel_rfl) (by kernel_rfl) fun w0 => ?_
    have hnn := not_any_not (p := rowIs r0.2.length most) (xs := r0 :: rs)
    generalize hb : ((r0 :: rs).any fun r => !rowIs r0.2.length most r) = bb at ha hnn
    simp only [intss, int, bool, List.map_cons, row] at ha
    by_cases h1 : inR 1 high (rs.length + 1) = true
    · by_cases h2 : inR 1 wide r0.2.length = true
      · have h1' := h1
        have h2' := h2
        simp only [inR, Bool.and_eq_true, decide_eq_true_eq] at h1' h2'
        have hr : rectB (r0 :: rs) high wide most = (r0 :: rs).all (rowIs r0.2.length most) := by simp [rectB, h1, h2]
        rw [hr, ← hnn]
        simp [Tryd.f86, List.range, List.range.loop, intss, row, int, bool, mWithin, h1', h2', ha]
      · have h1' := h1
        simp only [inR, Bool.and_eq_true, decide_eq_true_eq] at h1'
        have h2' : (decide (1 ≤ (r0.2.length : Int)) && decide ((r0.2.length : Int) ≤ wide)) = false := by simpa [inR] using h2
        simp [Tryd.f86, List.range, List.range.loop, intss, row, int, bool, mWithin, h1', h2', ha, rectB, h2]
    · have h1' : (decide (1 ≤ (rs.length : Int) + 1) && decide ((rs.length : Int) + 1 ≤ high)) = false := by simpa [inR] using h1
      simp [Tryd.f86, List.range, List.range.loop, intss, row, int, bool, mWithin, h1', ha, rectB, h1]

end Go.Proofs.YtlkgppincgpfjaaDoor.Ax

/-
  Contracts of BidsOk and CakeOk. No condition.
-/
namespace Go.Proofs.YtlkgppincgpfjaaDoor.Ax
open Go Go.RowKit
set_option linter.unusedSimpArgs false

noncomputable def mGrid (a b c : Int) : List AV → Option AV := mk (fun _ => True) (fun (p : Bool × List (Bool × List Int)) => [intss p.1 p.2]) (fun p => bool (rectB p.2 a b c))
theorem mGrid_at {a b c : Int} (nl : Bool) (xs : List (Bool × List Int)) : mGrid a b c [.sl nl 1 (xs.map row)] = some (.v (.bool (rectB xs a b c))) :=
  mk_eq (enc := fun (p : Bool × List (Bool × List Int)) => [intss p.1 p.2]) (x := (nl, xs)) (by rintro ⟨x, x'⟩ ⟨y, y'⟩ h; simp [intss, map_row_inj] at h; simp [h]) trivial

theorem rectB_eq {xss : List (Bool × List Int)} {a b c : Int} (h : 0 < xss.length) : rectB xss a b c = (inR 1 a xss.length && inR 1 b xss[0].2.length && xss.all (rowIs xss[0].2.length c)) := by
  cases xss with
  | nil => simp at h
  | cons x xs => rfl
theorem rectB_nil {xss : List (Bool × List Int)} {a b c : Int} (h : ¬ 0 < xss.length) : rectB xss a b c = false := by
  cases xss with
  | nil => rfl
  | cons x xs => simp at h

theorem all_of {α : Type} {p : α → Bool} {xs : List α} (h : ∀ j (hj : j < xs.length), j < xs.length → p xs[j] = true) : xs.all p = true := by
  rw [List.all_eq_true]
  intro x hx
  obtain ⟨i, hi, rfl⟩ := List.getElem_of_mem hx
  exact h i hi hi
theorem all_not {α : Type} {p : α → Bool} {xs : List α} {k : Nat} (hk : k < xs.length) (h : p xs[k] = false) : xs.all p = false := by
  rw [List.all_eq_false]
  exact ⟨xs[k], List.getElem_mem hk, by simp [h]⟩

theorem implBidsOk_ok : FnOk Tryd.prog 49 (mGrid 4 4 1000) := by
  refine mk_ok fun ⟨nl, xss⟩ _ => ?_
  have hG : FnsOk Tryd.prog [(86, mRect)] := .cons rectangle_ok .nil
  refine callOk_of_awp (ctx_ok eqOk hG) mixed (live := [true, false, true]) (dt := []) Tryd.func49 rfl (by kernel_rfl) (by kernel_rfl) fun w0 => ?_
  simp [Tryd.f49, List.range, List.range.loop, intss, bool, mRect_at nl xss _ _ _]

theorem need_small {xss : List (Bool × List Int)} (h : need xss ≤ 1048576) : small xss := by
  simp only [need] at h
  refine ⟨by omega, fun x hx => ?_⟩
  obtain ⟨i, hi, rfl⟩ := List.getElem_of_mem hx
  have h1 := rowSum_succ hi
  have h2 := rowSum_mono (xss := xss) (show i + 1 ≤ xss.length from hi)
  omega
theorem own_small {xss : List (Bool × List Int)} (h : small xss) : small (own xss) := by
  refine ⟨by rw [own_len]; exact h.1, fun x hx => ?_⟩
  simp only [own, List.mem_map] at hx
  obtain ⟨y, hy, rfl⟩ := hx
  exact h.2 y hy

end Go.Proofs.YtlkgppincgpfjaaDoor.Ax

/-
  Contracts of the reference's BidsOk and CakeOk. No condition.
-/
namespace Go.Proofs.YtlkgppincgpfjaaDoor.Ax
open Go Go.RowKit
set_option linter.unusedSimpArgs false

set_option maxHeartbeats 2000000 in
theorem specBidsOk_ok : FnOk Tryd.prog 46 (mGrid 4 4 1000) := by
  refine mk_ok fun ⟨nl, xss⟩ _ => ?_
  have hG : FnsOk Tryd.prog [(63, mWithin)] := .cons l01In_ok .nil
  refine callOk_awp (ctx_ok eqOk hG) mixed (live := [true, false, true, false, true, false, true, false, false, false, false, false, false, false, false, false, false, false, true, true, true, true, true, false, false, false, false, false, false, false, false, true, true, true, true, true, false, false, false, false, true]) (dt := []) Tryd.func46 rfl (by kernel_rfl) (by kernel_rfl) fun w0 hlens => ?_
  have hpr : ∀ x ∈ xss, x.2.length ≤ 9223372036854775807 ∧ (x.1 = true → x.2 = []) := (lens_intss.1 hlens.1).2
  have hp : xss.length ≤ 9223372036854775807 := (lens_intss.1 hlens.1).1.1
  by_cases h1 : inR 1 4 xss.length = true
  rotate_left
  · have h1' : (decide (1 ≤ (xss.length : Int)) && decide ((xss.length : Int) ≤ 4)) = false := by simpa [inR] using h1
    have hr : rectB xss 4 4 1000 = false := by
      by_cases h0 : 0 < xss.length
      · rw [rectB_eq h0]; simp [h1]
      · exact rectB_nil h0
    simp [Tryd.f46, List.range, List.range.loop, intss, int, bool, mWithin, h1', hr]
  have h0 : 0 < xss.length := by simp [inR] at h1; omega
  have hre := rectB_eq (a := 4) (b := 4) (c := 1000) h0
  have h1' : (1 : Int) ≤ (xss.length : Int) ∧ (xss.length : Int) ≤ 4 := by simpa [inR] using h1
  by_cases h2 : inR 1 4 xss[0].2.length = true
  rotate_left
  · have h2' : (decide (1 ≤ (xss[0].2.length : Int)) && decide ((xss[0].2.length : Int) ≤ 4)) = false := by simpa [inR] using h2
    simp [h1, h2] at hre
    simp [Tryd.f46, List.range, List.range.loop, intss, row, int, bool, mWithin, h1', h2', hre, h0]
    intro a b
    exfalso
    simp [inR] at h2
    omega
  have h2' : (1 : Int) ≤ (xss[0].2.length : Int) ∧ (xss[0].2.length : Int) ≤ 4 := by simpa [inR] using h2
  rw [h1, h2] at hre
  simp only [Bool.true_and] at hre
  generalize hrb : rectB xss 4 4 1000 = rb at hre ⊢
  simp [Tryd.f46, List.range, List.range.loop, intss, row, int, bool, mWithin, h1', h2', h0]
  refine awp_loop_of (ctx_ok eqOk hG) mixed (live := [true, false, true, false, true, false, true, false, false, false, false, false, false, false, false, false, false, false, true, true, true, true, true, false, false, false, false, false, false, false, false, true, true, true, true, true, false, false, false, false, true]) [true, false, false, false, false, false, false, false, false, false, false, false, false, false, false, false, false, false, false, true, true, true] (α := {k : Nat // k ≤ xss.length ∧ ∀ j (hj : j < xss.length), j < k → rowIs xss[0].2.length 1000 xss[j] = true})
    (fun k => ⟨[intss nl xss, .junk, .junk, .junk, .junk, .junk, .junk, .junk, .junk, .junk, .junk, .junk, .junk, .junk, .junk, .junk, .junk, .junk, .junk, intss nl xss, int xss.length, int k.1, .junk, .junk, .junk, .junk, .junk, .junk, .junk, .junk, .junk, .junk, .junk, .junk, .junk, .junk, .junk, .junk, .junk, .junk, .junk, .junk, .junk], []⟩) (fun k => xss.length - k.1) ⟨0, by omega, by omega⟩
    (by simp [sub, slotsLe, clean, keep, refsL, refs, once, place, renL, ren, List.replicate, int, bool, intss]) ?_
  rintro ⟨k, hk, hno⟩
  by_cases h : k < xss.length
  · by_cases hl : xss[k].2.length = xss[0].2.length
    · simp [List.range, List.range.loop, intss, row, int, bool, mWithin, h, h0, hl]
      refine awp_loop_of (ctx_ok eqOk hG) mixed (live := [true, false, true, false, true, false, true, false, false, false, false, false, false, false, false, false, false, false, true, true, true, true, true, false, false, false, false, false, false, false, false, true, true, true, true, true, false, false, false, false, true]) [true, false, false, false, false, false, false, false, false, false, false, false, false, false, false, false, false, false, false, true, true, true, false, false, false, false, false, false, false, false, false, false, true, true, true] (α := {m : Nat // m ≤ xss[k].2.length ∧ ∀ j (hj : j < xss[k].2.length), j < m → inR 0 1000 xss[k].2[j] = true})
        (fun m => ⟨[intss nl xss, .junk, .junk, .junk, .junk, .junk, .junk, .junk, .junk, .junk, .junk, .junk, .junk, .junk, .junk, .junk, .junk, .junk, .junk, intss nl xss, int xss.length, int k, .junk, .junk, .junk, .junk, .junk, .junk, .junk, .junk, .junk, .junk, row xss[k], int xss[k].2.length, int m.1, .junk, .junk, .junk, .junk, .junk, .junk, .junk, .junk], []⟩) (fun m => xss[k].2.length - m.1) ⟨0, by omega, by omega⟩
        (by simp [sub, slotsLe, clean, keep, refsL, refs, once, place, renL, ren, List.replicate, int, bool, intss, row, hl]) ?_
      rintro ⟨m, hm, hmo⟩
      by_cases hx : m < xss[k].2.length
      · cases hv : inR 0 1000 xss[k].2[m] with
        | true =>
          have hv' : (0 : Int) ≤ xss[k].2[m] ∧ xss[k].2[m] ≤ 1000 := by simpa [inR] using hv
          simp [List.range, List.range.loop, intss, row, int, bool, mWithin, h, h0, hx, hv']
          refine ⟨⟨m + 1, hx, fun j hj hjm => ?_⟩, ?_, by simp; omega⟩
          · by_cases e : j = m
            · subst e; exact hv
            · exact hmo j hj (by omega)
          simp [sub, slotsLe, clean, keep, refsL, refs, once, place, renL, ren, List.replicate, int, bool, intss, row]
          exact wrapI (by omega) (by have := hpr xss[k] (List.getElem_mem _); omega)
        | false =>
          have hv' : (decide ((0 : Int) ≤ xss[k].2[m]) && decide (xss[k].2[m] ≤ 1000)) = false := by simpa [inR] using hv
          have hf : rowIs xss[0].2.length 1000 xss[k] = false := by simp only [rowIs, Bool.and_eq_false_iff]; exact .inr (all_not hx hv)
          rw [all_not h hf] at hre
          simp [List.range, List.range.loop, intss, row, int, bool, mWithin, h, h0, hx, hv', hre]
      · have hm' : m = xss[k].2.length := by omega
        subst hm'
        simp [List.range, List.range.loop, intss, row, int, bool, mWithin, h, h0]
        refine ⟨⟨k + 1, h, fun j hj hjk => ?_⟩, ?_, by simp; omega⟩
        · by_cases e : j = k
          · subst e; simp only [rowIs, Bool.and_eq_true, decide_eq_true_eq]; exact ⟨hl, all_of hmo⟩
          · exact hno j hj (by omega)
        simp [sub, slotsLe, clean, keep, refsL, refs, once, place, renL, ren, List.replicate, int, bool, intss]
        exact wrapI (by omega) (by omega)
    · have hl' : ((xss[k].2.length : Int) != xss[0].2.length) = true := by simp; omega
      have hf : rowIs xss[0].2.length 1000 xss[k] = false := by simp [rowIs, hl]
      rw [all_not h hf] at hre
      simp [List.range, List.range.loop, intss, row, int, bool, mWithin, h, h0, hl, hl', hre]
  · have hk' : k = xss.length := by omega
    subst hk'
    rw [all_of hno] at hre
    simp [List.range, List.range.loop, intss, int, bool, hre]

end Go.Proofs.YtlkgppincgpfjaaDoor.Ax

/-
  Contracts of the two PointsOk. No condition.
-/
namespace Go.Proofs.YtlkgppincgpfjaaDoor.Ax
open Go Go.RowKit
set_option linter.unusedSimpArgs false

set_option maxHeartbeats 400000 in
theorem l13Sum_ok : FnOk Tryd.prog 66 mSum := by
  refine mk_ok fun ⟨nl, xs⟩ _ => ?_
  refine callOk_awp (ctx_ok eqOk .nil) mixed (live := [true, false, true, true, false, true, true, true, true, true]) (dt := []) Tryd.func66 rfl (by kernel_rfl) (by kernel_rfl) fun w0 hlens => ?_
  have hpre : xs.length ≤ 9223372036854775807 := (lens_ints.1 hlens.1).1
  simp [Tryd.f66, List.range, List.range.loop, ints]
  refine awp_loop_of (ctx_ok eqOk .nil) mixed (live := [true, false, true, true, false, true, true, true, true, true]) [false, false, false, true, false, false, true, true, true] (α := {k : Nat // k ≤ xs.length})
    (fun k => ⟨[.junk, .junk, .junk, int (sumW (xs.take k.1)), .junk, .junk, ints nl xs, int xs.length, int k.1, .junk, .junk, .junk, .junk, .junk, .junk, .junk, .junk], []⟩) (fun k => xs.length - k.1) ⟨0, by omega⟩ (by simp [sub, slotsLe, clean, keep, refsL, refs, once, place, renL, ren, List.replicate, int, bool, ints, sumW]) ?_
  rintro ⟨k, hk⟩
  by_cases h : k < xs.length
  · simp [List.range, List.range.loop, ints, int, h]
    refine ⟨⟨k + 1, h⟩, ?_, by simp; omega⟩
    simp [sub, slotsLe, clean, keep, refsL, refs, once, place, renL, ren, List.replicate, int, bool, ints, sumW_succ h]
    rw [wrapI (by omega) (by omega)]
  · simp [List.range, List.range.loop, ints, int, h]
    rw [List.take_of_length_le (by omega)]

/-- A row of n numbers from 0 to 100 that come to 100. -/
def rowP (n : Nat) (r : Bool × List Int) : Bool := rowIs n 100 r && decide (sumW r.2 = 100)
def pointsB (xss : List (Bool × List Int)) : Bool := match xss with
  | [a, b] => inR 1 6 a.2.length && (rowP a.2.length a && rowP a.2.length b)
  | _ => false
theorem pointsB_eq {xss : List (Bool × List Int)} (h : xss.length = 2) : pointsB xss = (inR 1 6 (xss[0]'(by omega)).2.length && xss.all (rowP (xss[0]'(by omega)).2.length)) := by
  match xss, h with
  | [a, b], _ => simp [pointsB]
theorem pointsB_ne {xss : List (Bool × List Int)} (h : ¬ xss.length = 2) : pointsB xss = false := by
  match xss, h with
  | [], _ => rfl
  | [a], _ => rfl
  | [a, b], h => simp at h
  | a :: b :: c :: l, _ => rfl
theorem pointsB_rect {xss : List (Bool × List Int)} (h : xss.length = 2) : pointsB xss = (rectB xss 2 6 100 && (decide (sumW (xss[0]'(by omega)).2 = 100) && decide (sumW (xss[1]'(by omega)).2 = 100))) := by
  match xss, h with
  | [a, b], _ =>
    simp only [pointsB, rectB, rowP, List.all_cons, List.all_nil, List.getElem_cons_zero, List.getElem_cons_succ, List.length_cons, List.length_nil]
    rw [show inR 1 2 ((0 + 1 + 1 : Nat) : Int) = true from rfl]
    generalize inR 1 6 _ = p
    generalize rowIs _ _ a = q
    generalize rowIs _ _ b = r
    generalize decide (sumW a.2 = 100) = s
    generalize decide (sumW b.2 = 100) = t
    cases p <;> cases q <;> cases r <;> cases s <;> cases t <;> rfl

noncomputable def mPoints : List AV → Option AV := mk (fun _ => True) (fun (p : Bool × List (Bool × List Int)) => [intss p.1 p.2]) (fun p => bool (pointsB p.2))
theorem mPoints_at (nl : Bool) (xs : List (Bool × List Int)) : mPoints [.sl nl 1 (xs.map row)] = some (.v (.bool (pointsB xs))) :=
  mk_eq (enc := fun (p : Bool × List (Bool × List Int)) => [intss p.1 p.2]) (x := (nl, xs)) (by rintro ⟨x, x'⟩ ⟨y, y'⟩ h; simp [intss, map_row_inj] at h; simp [h]) trivial

end Go.Proofs.YtlkgppincgpfjaaDoor.Ax

/-
  Contracts of the library's searches over a list by a function. No condition.
-/
namespace Go.Proofs.YtlkgppincgpfjaaDoor.Ax
open Go Go.RowKit
set_option linter.unusedSimpArgs false

theorem lens_fracs {nl : Bool} {xs : List (Int × Int)} : lens (.sl nl 2 (xs.map frac)) ↔ xs.length ≤ 9223372036854775807 ∧ (nl = true → xs = []) := by
  simp [lens, lensL_map, lensL, frac]

set_option maxHeartbeats 1000000 in
theorem indexFracs {g : FuncId} {caps : List AV} (hc : Pure caps) (p : Int × Int → Bool) (nl : Bool) (xs : List (Int × Int)) (hg : ∀ x ∈ xs, CallOk Tryd.prog g (frac x :: caps) (.v (.bool (p x)))) :
    CallOk Tryd.prog 122 [fracs nl xs, .fn g caps] (int (idxOf p xs)) := by
  have hG : FnsOk Tryd.prog [(g, mk (fun x => x ∈ xs) (fun x : Int × Int => frac x :: caps) (fun x => .v (.bool (p x))))] := .cons (mk_ok fun x hx => hg x hx) .nil
  have hat : ∀ k (h : k < xs.length), mk (fun x => x ∈ xs) (fun x : Int × Int => (frac x : AV) :: caps) (fun x => AV.v (.bool (p x))) (frac xs[k] :: caps) = some (.v (.bool (p xs[k]))) := fun k h =>
    mk_eq (enc := fun x : Int × Int => (frac x : AV) :: caps) (x := xs[k]) (by intro x y h; simp [frac_inj] at h; simp [h]) (List.getElem_mem h)
  generalize hm : mk (fun x => x ∈ xs) (fun x : Int × Int => (frac x : AV) :: caps) (fun x => AV.v (.bool (p x))) = m at hG hat
  try simp only [fracs, frac] at hat
  refine callOk_awp (ctx_ok eqOk hG) mixed (live := [true, true, false, false, true, true, false, true, true, true, false, false, false, false, false, false, true]) (dt := []) Tryd.func122 rfl (by kernel_rfl) (by kernel_rfl) fun w0 hlens => ?_
  have hlen : xs.length ≤ 9223372036854775807 := (lens_fracs.1 hlens.1).1
  simp [Tryd.f122, List.range, List.range.loop, fracs, frac, hc.res, hc.refs, hc.ren]
  refine awp_loop_of (ctx_ok eqOk hG) mixed (live := [true, true, false, false, true, true, false, true, true, true, false, false, false, false, false, false, true]) [true, true, false, false, false, false, false, true, true] (α := {k : Nat // k ≤ xs.length ∧ ∀ j (hj : j < xs.length), j < k → p xs[j] = false})
    (fun k => ⟨[fracs nl xs, .fn g caps, .junk, .junk, .junk, .junk, .junk, int xs.length, int k.1] ++ List.replicate 10 .junk, []⟩) (fun k => xs.length - k.1) ⟨0, by omega, by omega⟩
    (by simp [sub, slotsLe, clean, keep, refsL, refs, once, place, renL, ren, List.replicate, int, bool, fracs, frac, hc.refs, hc.ren]) ?_
  rintro ⟨k, hk, hno⟩
  by_cases h : k < xs.length
  · have hz := hat k h
    cases hp : p xs[k] with
    | true =>
      rw [hp] at hz
      simp [List.range, List.range.loop, fracs, frac, int, h, List.replicate, hc.res, hc.refs, hc.ren, hz, idxOf_found h hno hp]
    | false =>
      rw [hp] at hz
      simp [List.range, List.range.loop, fracs, frac, int, h, List.replicate, hc.res, hc.refs, hc.ren, hz]
      refine ⟨⟨k + 1, h, fun j hj hjk => ?_⟩, ?_, by simp; omega⟩
      · by_cases e : j = k
        · subst e; exact hp
        · exact hno j hj (by omega)
      simp [sub, slotsLe, clean, keep, refsL, refs, once, place, renL, ren, List.replicate, int, bool, fracs, frac, hc.refs, hc.ren]
      exact wrapI (by omega) (by omega)
  · have hk' : k = xs.length := by omega
    subst hk'
    simp [List.range, List.range.loop, fracs, frac, int, h, List.replicate, hc.res, hc.refs, hc.ren, idxOf_none hno]

set_option maxHeartbeats 1000000 in
theorem containsFracs {g : FuncId} {caps : List AV} (hc : Pure caps) (p : Int × Int → Bool) (nl : Bool) (xs : List (Int × Int)) (hg : ∀ x ∈ xs, CallOk Tryd.prog g (frac x :: caps) (.v (.bool (p x)))) :
    CallOk Tryd.prog 93 [fracs nl xs, .fn g caps] (bool (xs.any p)) := by
  have hG : FnsOk Tryd.prog [(122, only [.sl nl 2 (xs.map frac), .fn g caps] (.v (.int .i64 (idxOf p xs))))] := .cons (only_ok (indexFracs hc p nl xs hg)) .nil
  refine callOk_awp (ctx_ok eqOk hG) mixed (live := [true, true, false, false, true]) (dt := []) Tryd.func93 rfl (by kernel_rfl) (by kernel_rfl) fun w0 hlens => ?_
  simp [Tryd.f93, List.range, List.range.loop, fracs, frac, bool, hc.res, hc.refs, hc.ren, ge_zero, only_at, idxOf_nonneg]

end Go.Proofs.YtlkgppincgpfjaaDoor.Ax

/-
  Contracts: where a number stands in a list (both programs, the library). No condition.
-/
namespace Go.Proofs.YtlkgppincgpfjaaDoor.Ax
open Go Go.RowKit
set_option linter.unusedSimpArgs false

/-- The place of v among xs from place i on (k: the place of the head), or -1. -/
def posFrom (v : Int) : List Int → Nat → Int
  | [], _ => -1
  | x :: xs, k => if x = v then k else posFrom v xs (k + 1)
def pos (xs : List Int) (v : Int) : Int := posFrom v xs 0

theorem drop_get {α : Type} {xs : List α} {k : Nat} (h : k < xs.length) : xs.drop k = xs[k] :: xs.drop (k + 1) := List.drop_eq_getElem_cons h

noncomputable def mPos : List AV → Option AV := mk (fun _ => True) (fun (p : (Bool) × (List Int) × (Int)) => [ints p.1 p.2.1, int p.2.2]) (fun p => int (pos p.2.1 p.2.2))
theorem mPos_at (nl : Bool) (xs : List Int) (v : Int) : mPos [.sl nl 1 (xs.map int), .v (.int .i64 v)] = some (.v (.int .i64 (pos xs v))) :=
  mk_eq (enc := fun (p : (Bool) × (List Int) × (Int)) => [ints p.1 p.2.1, int p.2.2]) (x := (nl, xs, v)) (by rintro ⟨a0, a1, a2⟩ ⟨b0, b1, b2⟩ h; simp [ints, intss, int, bool, row, frac, fracs, map_int_inj, map_row_inj, frac_inj, map_frac_inj] at h; simp [h]) trivial

set_option maxHeartbeats 1000000 in
theorem slicesIndex_ok : FnOk Tryd.prog 115 mPos := by
  refine mk_ok fun ⟨nl, xs, v⟩ _ => ?_
  have hG : FnsOk Tryd.prog [] := .nil
  refine callOk_awp (ctx_ok eqOk hG) mixed (live := [true, true, false, false, true, true, false, true, true, true, false, false, false, false, false, false, true]) (dt := []) Tryd.func115 rfl (by kernel_rfl) (by kernel_rfl) fun w0 hlens => ?_
  simp only [lensL, lens, ints, int, List.length_map] at hlens
  generalize hr : pos xs v = r
  simp [Tryd.f115, List.range, List.range.loop, ints, intss, int, bool, row, frac, fracs, ← List.map_take, ← List.map_drop, ints]
  refine awp_range (live := [true, true, false, false, true, true, false, true, true, true, false, false, false, false, false, false, true]) (ctx_ok eqOk hG) mixed [true, true, false, false, false, false, false, true, true] (xs.length) (fun k => posFrom v (xs.drop k) k = r) (fun k => ⟨[ints nl xs, int v, .junk, .junk, .junk, .junk, .junk, int xs.length, int k, .junk, .junk, .junk, .junk, .junk, .junk, .junk, .junk, .junk, .junk], []⟩) ?_ (by simp [sub, slotsLe, clean, keep, refsL, refs, once, place, renL, ren, List.replicate, int, bool, ints]) ?_ ?_ ?_
  · exact hlens.1.1.1
  · simpa [pos] using hr
  · intro k h hp hw
    rw [drop_get h, posFrom] at hp
    by_cases e : xs[k] = v
    · rw [if_pos e] at hp; subst hp
      simp [List.range, List.range.loop, ints, intss, int, bool, row, frac, fracs, ← List.map_take, ← List.map_drop, h, e]
    · rw [if_neg e] at hp
      have e' : ¬ v = xs[k] := fun h => e h.symm
      simp [List.range, List.range.loop, ints, intss, int, bool, row, frac, fracs, ← List.map_take, ← List.map_drop, h, hw, hp, e']
  · intro hp
    simp [posFrom] at hp; subst hp
    simp [List.range, List.range.loop, ints, intss, int, bool, row, frac, fracs, ← List.map_take, ← List.map_drop]

end Go.Proofs.YtlkgppincgpfjaaDoor.Ax
