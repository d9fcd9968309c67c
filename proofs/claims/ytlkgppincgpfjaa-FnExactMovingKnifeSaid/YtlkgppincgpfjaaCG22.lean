/-
  Contracts: marks on lists of fractions, FirstShares (both programs). No condition.
-/
import Derived.Test.YtlkgppincgpfjaaCG20
import Derived.Test.YtlkgppincgpfjaaCG8
import Derived.Test.YtlkgppincgpfjaaCG21
namespace Go.Proofs.Ytlkgppincgpfjaa.Ax
open Go Go.RowKit
set_option linter.unusedSimpArgs false

/-- The marks from k on, for so many fractions. -/
def mkdF (k : Int) (n : Nat) : List (Int × Int) := (List.range n).map fun (i : Nat) => (k + 2 * (i : Int), k + 2 * (i : Int) + 1)
theorem mkdF_len {k : Int} {n : Nat} : (mkdF k n).length = n := by simp [mkdF]
theorem mkdF_take {k : Int} {n : Nat} : (mkdF k n).take n = mkdF k n := List.take_of_length_le (by simp [mkdF_len])
theorem mkdF_at {k : Int} {n i : Nat} (h : i < (mkdF k n).length) : (mkdF k n)[i] = (k + 2 * (i : Int), k + 2 * (i : Int) + 1) := by simp [mkdF]
def mkFTo (k : Int) (xs : List (Int × Int)) (i : Nat) : List (Int × Int) := mkdF k i ++ xs.drop i
theorem mkFTo_len {k : Int} {xs : List (Int × Int)} {i : Nat} (h : i ≤ xs.length) : (mkFTo k xs i).length = xs.length := by simp [mkFTo, mkdF_len]; omega
theorem mkFTo_zero {k : Int} {xs : List (Int × Int)} : mkFTo k xs 0 = xs := by simp [mkFTo, mkdF]
theorem mkFTo_all {k : Int} {xs : List (Int × Int)} : mkFTo k xs xs.length = mkdF k xs.length := by simp [mkFTo]
theorem mkFTo_set {k : Int} {xs : List (Int × Int)} {i : Nat} (h : i < xs.length) : ((mkFTo k xs i).map frac).set i (.agg [.v (.int .i64 (k + 2 * (i : Int))), .v (.int .i64 (k + 2 * (i : Int) + 1))]) = (mkFTo k xs (i + 1)).map frac := by
  have : (AV.agg [.v (.int .i64 (k + 2 * (i : Int))), .v (.int .i64 (k + 2 * (i : Int) + 1))]) = frac (k + 2 * (i : Int), k + 2 * (i : Int) + 1) := rfl
  rw [this, ← List.map_set]
  congr 1
  unfold mkFTo
  rw [List.set_append, if_neg (by simp [mkdF_len]), mkdF_len, Nat.sub_self, drop_get h, List.set_cons_zero]
  simp [mkdF, List.range_succ]

noncomputable def mMarkF : List AV → Option (Nat × AV × AV) := mkM (fun (p : Bool × List (Int × Int) × Int) => 0 ≤ p.2.2 ∧ p.2.2 + 2 * p.2.1.length ≤ 2 ^ 62) (fun p => [fracs p.1 p.2.1, int p.2.2]) (fun p => (0, int (p.2.2 + 2 * p.2.1.length), fracs p.1 (mkdF p.2.2 p.2.1.length)))
theorem mMarkF_at (nl : Bool) (xs : List (Int × Int)) (k : Int) (h : 0 ≤ k ∧ k + 2 * xs.length ≤ 2 ^ 62) : mMarkF [.sl nl 2 (xs.map frac), .v (.int .i64 k)] = some (0, .v (.int .i64 (k + 2 * xs.length)), .sl nl 2 ((mkdF k xs.length).map frac)) :=
  mkM_eq (enc := fun (p : Bool × List (Int × Int) × Int) => [fracs p.1 p.2.1, int p.2.2]) (x := (nl, xs, k)) (by rintro ⟨a, b, c⟩ ⟨d, e, f⟩ h; simp [fracs, int, map_frac_inj] at h; simp [h]) h

set_option maxHeartbeats 1000000 in
theorem markFractionS_ok : FnMut Try.prog 31 mMarkF := by
  refine mkM_ok fun ⟨nl, xs, k⟩ ⟨hk0, hk⟩ => ?_
  simp only at hk0 hk
  have hG : FnsOk Try.prog [] := .nil
  refine mutOk_awp (ctx_ok eqOk hG) mixed (live := [true, true, false, false, true, true, false, false, false, true]) (dt := []) (pos := 0) rfl Try.func31 rfl (by kernel_rfl) (by kernel_rfl) fun US Uv w0 hlens => ?_
  simp [Try.f31, List.range, List.range.loop, ints, intss, int, bool, row, frac, fracs, ← List.map_take, ← List.map_drop]
  refine awp_range (live := [true, true, false, false, true, true, false, false, false, true]) (ctx_ok eqOk hG) mixed [true, true, false, false, false, true] (xs.length) (fun i => True) (fun i => ⟨[.ref 0 [] 0 xs.length, int (k + 2 * (i : Int)), .junk, .junk, .junk, int i, .junk, .junk, .junk, .junk, .junk, .junk, .junk, .junk, .junk, .junk, .junk, .junk, .junk, .junk, .junk, .junk, .junk, .junk, .junk, .junk, .junk], [⟨true, .sl nl 2 ((mkFTo k xs i).map frac)⟩]⟩) ?_ (by simp [sub, slotsLe, clean, keep, refsL, refs, once, place, renL, ren, List.replicate, int, bool, mkFTo_zero]) ?_ ?_ ?_
  · omega
  · trivial
  · intro i h _ hw
    have hl := mkFTo_len (k := k) (xs := xs) (i := i) (by omega)
    have hl' := mkFTo_len (k := k) (xs := xs) (i := i + 1) (by omega)
    have hs := mkFTo_set (k := k) h
    have hw2 : IntKind.i64.wrap (k + 2 * (i : Int) + 1) = k + 2 * (i : Int) + 1 := wrapI (by omega) (by omega)
    have hw3 : IntKind.i64.wrap (k + 2 * (i : Int) + 1 + 1) = k + 2 * ((i : Int) + 1) := by rw [wrapI (by omega) (by omega)]; omega
    simp (config := {contextual := true}) [List.range, List.range.loop, ints, intss, int, bool, row, frac, fracs, ← List.map_take, ← List.map_drop, List.eraseIdx, h, hw, hl, hl', hs, hw2, hw3]
  · intro _
    have hl := mkFTo_len (k := k) (xs := xs) (i := xs.length) (by omega)
    simp (config := {contextual := true}) [List.range, List.range.loop, ints, intss, int, bool, row, frac, fracs, ← List.map_take, ← List.map_drop, List.eraseIdx, hl, mkFTo_all, mkdF_len]

noncomputable def mHeldF : List AV → Option AV := mk (fun (p : Bool × Nat × Int) => 0 ≤ p.2.2 ∧ p.2.2 + 2 * p.2.1 ≤ 2 ^ 62) (fun p => [fracs p.1 (mkdF p.2.2 p.2.1), int p.2.2]) (fun p => int (p.2.2 + 2 * p.2.1))
theorem mHeldF_at (nl : Bool) (n : Nat) (k : Int) (h : 0 ≤ k ∧ k + 2 * n ≤ 2 ^ 62) : mHeldF [.sl nl 2 ((mkdF k n).map frac), .v (.int .i64 k)] = some (.v (.int .i64 (k + 2 * n))) :=
  mk_eq (enc := fun (p : Bool × Nat × Int) => [fracs p.1 (mkdF p.2.2 p.2.1), int p.2.2]) (x := (nl, n, k)) (by
    rintro ⟨a, b, c⟩ ⟨d, e, f⟩ h
    simp [fracs, int, map_frac_inj] at h
    obtain ⟨⟨_, h1⟩, h2⟩ := h
    have := congrArg List.length h1
    simp [mkdF_len] at this
    simp [h2, this]) h

set_option maxHeartbeats 1000000 in
theorem heldFractionS_ok : FnOk Try.prog 32 mHeldF := by
  refine mk_ok fun ⟨nl, n, k⟩ ⟨hk0, hk⟩ => ?_
  simp only at hk0 hk
  have hG : FnsOk Try.prog [] := .nil
  refine callOk_awp (ctx_ok eqOk hG) mixed (live := [true, true, false, false, true, true, false, false, false, true, false, false, false, false, false, false, false, false, true, false, false, false, false, false, false, false, false, true]) (dt := []) Try.func32 rfl (by kernel_rfl) (by kernel_rfl) fun w0 hlens => ?_
  clear hlens
  simp [Try.f32, List.range, List.range.loop, ints, intss, int, bool, row, frac, fracs, ← List.map_take, ← List.map_drop]
  refine awp_range (live := [true, true, false, false, true, true, false, false, false, true, false, false, false, false, false, false, false, false, true, false, false, false, false, false, false, false, false, true]) (ctx_ok eqOk hG) mixed [true, true, false, false, false, true] (n) (fun i => True) (fun i => ⟨[fracs nl (mkdF k n), int (k + 2 * (i : Int)), .junk, .junk, .junk, int i, .junk, .junk, .junk, .junk, .junk, .junk, .junk, .junk, .junk, .junk, .junk, .junk, .junk, .junk, .junk, .junk, .junk, .junk, .junk, .junk, .junk, .junk, .junk, .junk, .junk], []⟩) ?_ (by simp [sub, slotsLe, clean, keep, refsL, refs, once, place, renL, ren, List.replicate, int, bool, fracs]) ?_ ?_ ?_
  · omega
  · trivial
  · intro i h _ hw
    have hl : i < (mkdF k n).length := by rw [mkdF_len]; exact h
    have hw2 : IntKind.i64.wrap (k + 2 * (i : Int) + 1) = k + 2 * (i : Int) + 1 := wrapI (by omega) (by omega)
    have hw3 : IntKind.i64.wrap (k + 2 * (i : Int) + 1 + 1) = k + 2 * ((i : Int) + 1) := by rw [wrapI (by omega) (by omega)]; omega
    simp (config := {contextual := true}) [List.range, List.range.loop, ints, intss, int, bool, row, frac, fracs, ← List.map_take, ← List.map_drop, h, hw, hl, hw2, hw3, mkdF_len, mkdF_at]
  · intro _
    simp (config := {contextual := true}) [List.range, List.range.loop, ints, intss, int, bool, row, frac, fracs, ← List.map_take, ← List.map_drop, mkdF_len]




/-- A list that is nil until something is put into it. -/
def apA : Nat → AV
  | 0 => .sl true 1 []
  | k + 1 => .ref 0 [] 0 (k + 1)
def apT (sz : Nat) (l : List AV) : Nat → List Tok
  | 0 => []
  | _ + 1 => [⟨true, .sl false sz l⟩]

/-- Heir 0's first share of thing x. -/
def fshare (r0 r1 : List Int) (x : Nat) : Int × Int := (if at0 r1 x ≤ at0 r0 x then 1 else 0, 1)
def fsA (r0 r1 : List Int) (k : Nat) : List (Int × Int) := (List.range k).map (fshare r0 r1)
theorem fsA_len {r0 r1 : List Int} {k : Nat} : (fsA r0 r1 k).length = k := by simp [fsA]
theorem fsA_zero {r0 r1 : List Int} : fsA r0 r1 0 = [] := by simp [fsA]
theorem fsA_succ {r0 r1 : List Int} {k : Nat} : (fsA r0 r1 k).map frac ++ [.agg [.v (.int .i64 (if at0 r1 k ≤ at0 r0 k then 1 else 0)), .v (.int .i64 1)]] = (fsA r0 r1 (k + 1)).map frac := by simp [fsA, List.range_succ, frac, fshare]
def firstL (xss : List (Bool × List Int)) : List (Int × Int) := match xss with
  | [r0, r1] => if pointsB xss = true then fsA r0.2 r1.2 r0.2.length else []
  | _ => []
theorem firstL_len {xss : List (Bool × List Int)} : (firstL xss).length ≤ 2 ^ 40 := by
  unfold firstL
  split
  · split
    · rename_i h
      have := rect_len (points_facts h).2
      simp [wid, fsA_len] at this ⊢; omega
    · simp
  · simp
theorem firstL_no {xss : List (Bool × List Int)} (h : pointsB xss = false) : firstL xss = [] := by
  unfold firstL; split <;> simp [h]

noncomputable def mFirst : List AV → Option AV := mk (fun _ => True) (fun (p : (Bool) × (List (Bool × List Int))) => [intss p.1 p.2]) (fun p => .sl (!pointsB p.2) 2 ((firstL p.2).map frac))
theorem mFirst_at (nl : Bool) (xss : List (Bool × List Int)) : mFirst [.sl nl 1 (xss.map row)] = some (.sl (!pointsB xss) 2 ((firstL xss).map frac)) :=
  mk_eq (enc := fun (p : (Bool) × (List (Bool × List Int))) => [intss p.1 p.2]) (x := (nl, xss)) (by rintro ⟨a0, a1⟩ ⟨b0, b1⟩ h; simp [ints, intss, int, bool, row, frac, fracs, map_int_inj, map_row_inj, frac_inj, map_frac_inj] at h; simp [h]) trivial

/-- A nil slice is a nil slice of whatever. -/
theorem callOk_nil {P : Program} {f : FuncId} {args : List AV} {a b : Nat} (h : CallOk P f args (.sl true a [])) : CallOk P f args (.sl true b []) := by
  refine ⟨h.1, fun w F vals hF hv => (h.2 w F vals hF hv).mono fun e w' he => ?_⟩
  obtain ⟨y, S, h1, h2, h3, h4⟩ := he
  refine ⟨y, S, h1, h2, h3, ?_⟩
  obtain ⟨a1, l, c, hy, k1, k2, k3, k4⟩ := Excl.of_own h4
  refine Excl.own (S := S) ⟨a1, l, c, hy, k1, k2, k3, ?_⟩
  rcases k4 with k4 | ⟨_, _, _, _, _, k4, _⟩
  · exact .inl k4
  · simp at k4

noncomputable def mL28 : List AV → Option AV := mk (fun (p : Bool × (Bool × List Int) × (Bool × List Int) × Nat) => p.2.2.2 < p.2.1.2.length ∧ p.2.2.2 < p.2.2.1.2.length) (fun p => [intss p.1 [p.2.1, p.2.2.1], int p.2.2.2]) (fun p => bool (decide (at0 p.2.2.1.2 p.2.2.2 ≤ at0 p.2.1.2 p.2.2.2)))
theorem mL28_at (nl : Bool) (r0 r1 : Bool × List Int) (k : Nat) (h : k < r0.2.length ∧ k < r1.2.length) : mL28 [.sl nl 1 [.sl r0.1 1 (r0.2.map int), .sl r1.1 1 (r1.2.map int)], .v (.int .i64 k)] = some (.v (.bool (decide (at0 r1.2 k ≤ at0 r0.2 k)))) :=
  mk_eq (enc := fun (p : Bool × (Bool × List Int) × (Bool × List Int) × Nat) => [intss p.1 [p.2.1, p.2.2.1], int p.2.2.2]) (x := (nl, r0, r1, k)) (by
    rintro ⟨a, b, c, d⟩ ⟨a', b', c', d'⟩ h
    simp [intss, int, row_inj] at h
    have : d = d' := by omega
    simp [h, this]) h
end Go.Proofs.Ytlkgppincgpfjaa.Ax
