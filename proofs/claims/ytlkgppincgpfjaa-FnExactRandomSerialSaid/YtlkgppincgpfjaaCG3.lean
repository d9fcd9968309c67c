/-
  Contracts: marks on lists of fractions, FirstShares (both programs). No condition.
-/
import Derived.Test.YtlkgppincgpfjaaCG2
import Derived.Test.YtlkgppincgpfjaaCG1
import Derived.Test.YtlkgppincgpfjaaCB2
namespace Go.Proofs.Ytlkgppincgpfjaa.Ax
open Go Go.RowKit
set_option linter.unusedSimpArgs false

/-- The marks from k on, for so many fractions. -/
def mkdF (k : Int) (n : Nat) : List (Int × Int) := (List.range n).map fun (i : Nat) => (k + 2 * (i : Int), k + 2 * (i : Int) + 1)
theorem mkdF_len {k : Int} {n : Nat} : (mkdF k n).length = n := by simp [mkdF]
theorem mkdF_take {k : Int} {n : Nat} : (mkdF k n).take n = mkdF k n := List.take_of_length_le (by simp [mkdF_len])
theorem mkdF_at {k : Int} {n i : Nat} (h : i < (mkdF k n).length) : (mkdF k n)[i] = (k + 2 * (i : Int), k + 2 * (i : Int) + 1) := by simp [mkdF]
def mkFTo (k : Int) (xs : List (Int × Int)) (i : Nat) : List (Int × Int) := mkdF k i ++ xs.drop i
theorem mkFTo_len {k : Int} {xs : List (Int × Int)} {i : Nat} (h : i ≤ xs.length) : (mkFTo k xs i).length = xs.length := by simp [mkFTo, mkdF_len]; omega
theorem mkFTo_zero {k : Int} {xs : List (Int × Int)} : mkFTo k xs 0 = xs := by simp [mkFTo, mkdF]
theorem mkFTo_all {k : Int} {xs : List (Int × Int)} : mkFTo k xs xs.length = mkdF k xs.length := by simp [mkFTo]
theorem mkFTo_set {k : Int} {xs : List (Int × Int)} {i : Nat} (h : i < xs.length) : ((mkFTo k xs i).map frac).set i (.agg [.v (.int .i64 (k + 2 * (i : Int))), .v (.int .i64 (k + 2 * (i : Int) + 1))]) = (mkFTo k xs (i + 1)).map frac := by
  have : (AV.agg [.v (.int .i64 (k + 2 * (i : Int))), .v (.int .i64 (k + 2 * (i : Int) + 1))]) = frac (k + 2 * (i : Int), k + 2 * (i : Int) + 1) := rfl
  rw [this, ← List.map_set]
  congr 1
  unfold mkFTo
  rw [List.set_append, if_neg (by simp [mkdF_len]), mkdF_len, Nat.sub_self, drop_get h, List.set_cons_zero]
  simp [mkdF, List.range_succ]

noncomputable def mMarkF : List AV → Option (Nat × AV × AV) := mkM (fun (p : Bool × List (Int × Int) × Int) => 0 ≤ p.2.2 ∧ p.2.2 + 2 * p.2.1.length ≤ 2 ^ 62) (fun p => [fracs p.1 p.2.1, int p.2.2]) (fun p => (0, int (p.2.2 + 2 * p.2.1.length), fracs p.1 (mkdF p.2.2 p.2.1.length)))
theorem mMarkF_at (nl : Bool) (xs : List (Int × Int)) (k : Int) (h : 0 ≤ k ∧ k + 2 * xs.length ≤ 2 ^ 62) : mMarkF [.sl nl 2 (xs.map frac), .v (.int .i64 k)] = some (0, .v (.int .i64 (k + 2 * xs.length)), .sl nl 2 ((mkdF k xs.length).map frac)) :=
  mkM_eq (enc := fun (p : Bool × List (Int × Int) × Int) => [fracs p.1 p.2.1, int p.2.2]) (x := (nl, xs, k)) (by rintro ⟨a, b, c⟩ ⟨d, e, f⟩ h; simp [fracs, int, map_frac_inj] at h; simp [h]) h

set_option maxHeartbeats 1000000 in
theorem markFractionS_ok : FnMut Try.prog 31 mMarkF := by
  refine mkM_ok fun ⟨nl, xs, k⟩ ⟨hk0, hk⟩ => ?_
  simp only at hk0 hk
  have hG : FnsOk Try.prog [] := .nil
  refine mutOk_awp (ctx_ok eqOk hG) mixed (live := [true, true, false, false, true, true, false, false, false, true]) (dt := []) (pos := 0) rfl Try.func31 rfl (by kernel_rfl) (by kernel_rfl) fun US Uv w0 hlens => ?_
  simp [Try.f31, List.range, List.range.loop, ints, intss, int, bool, row, frac, fracs, ← List.map_take, ← List.map_drop]
  refine awp_range (live := [true, true, false, false, true, true, false, false, false, true]) (ctx_ok eqOk hG) mixed [true, true, false, false, false, true] (xs.length) (fun i => True) (fun i => ⟨[.ref 0 [] 0 xs.length, int (k + 2 * (i : Int)), .junk, .junk, .junk, int i, .junk, .junk, .junk, .junk, .junk, .junk, .junk, .junk, .junk, .junk, .junk, .junk, .junk, .junk, .junk, .junk, .junk, .junk, .junk, .junk, .junk], [⟨true, .sl nl 2 ((mkFTo k xs i).map frac)⟩]⟩) ?_ (by simp [sub, slotsLe, clean, keep, refsL, refs, once, place, renL, ren, List.replicate, int, bool, mkFTo_zero]) ?_ ?_ ?_
  · omega
  · trivial
  · intro i h _ hw
    have hl := mkFTo_len (k := k) (xs := xs) (i := i) (by omega)
    have hl' := mkFTo_len (k := k) (xs := xs) (i := i + 1) (by omega)
    have hs := mkFTo_set (k := k) h
    have hw2 : IntKind.i64.wrap (k + 2 * (i : Int) + 1) = k + 2 * (i : Int) + 1 := wrapI (by omega) (by omega)
    have hw3 : IntKind.i64.wrap (k + 2 * (i : Int) + 1 + 1) = k + 2 * ((i : Int) + 1) := by rw [wrapI (by omega) (by omega)]; omega
    simp (config := {contextual := true}) [List.range, List.range.loop, ints, intss, int, bool, row, frac, fracs, ← List.map_take, ← List.map_drop, List.eraseIdx, h, hw, hl, hl', hs, hw2, hw3]
  · intro _
    have hl := mkFTo_len (k := k) (xs := xs) (i := xs.length) (by omega)
    simp (config := {contextual := true}) [List.range, List.range.loop, ints, intss, int, bool, row, frac, fracs, ← List.map_take, ← List.map_drop, List.eraseIdx, hl, mkFTo_all, mkdF_len]

noncomputable def mHeldF : List AV → Option AV := mk (fun (p : Bool × Nat × Int) => 0 ≤ p.2.2 ∧ p.2.2 + 2 * p.2.1 ≤ 2 ^ 62) (fun p => [fracs p.1 (mkdF p.2.2 p.2.1), int p.2.2]) (fun p => int (p.2.2 + 2 * p.2.1))
theorem mHeldF_at (nl : Bool) (n : Nat) (k : Int) (h : 0 ≤ k ∧ k + 2 * n ≤ 2 ^ 62) : mHeldF [.sl nl 2 ((mkdF k n).map frac), .v (.int .i64 k)] = some (.v (.int .i64 (k + 2 * n))) :=
  mk_eq (enc := fun (p : Bool × Nat × Int) => [fracs p.1 (mkdF p.2.2 p.2.1), int p.2.2]) (x := (nl, n, k)) (by
    rintro ⟨a, b, c⟩ ⟨d, e, f⟩ h
    simp [fracs, int, map_frac_inj] at h
    obtain ⟨⟨_, h1⟩, h2⟩ := h
    have := congrArg List.length h1
    simp [mkdF_len] at this
    simp [h2, this]) h

set_option maxHeartbeats 1000000 in
theorem heldFractionS_ok : FnOk Try.prog 32 mHeldF := by
  refine mk_ok fun ⟨nl, n, k⟩ ⟨hk0, hk⟩ => ?_
  simp only at hk0 hk
  have hG : FnsOk Try.prog [] := .nil
  refine callOk_awp (ctx_ok eqOk hG) mixed (live := [true, true, false, false, true, true, false, false, false, true, false, false, false, false, false, false, false, false, true, false, false, false, false, false, false, false, false, true]) (dt := []) Try.func32 rfl (by kernel_rfl) (by kernel_rfl) fun w0 hlens => ?_
  clear hlens
  simp [Try.f32, List.range, List.range.loop, ints, intss, int, bool, row, frac, fracs, ← List.map_take, ← List.map_drop]
  refine awp_range (live := [true, true, false, false, true, true, false, false, false, true, false, false, false, false, false, false, false, false, true, false, false, false, false, false, false, false, false, true]) (ctx_ok eqOk hG) mixed [true, true, false, false, false, true] (n) (fun i => True) (fun i => ⟨[fracs nl (mkdF k n), int (k + 2 * (i : Int)), .junk, .junk, .junk, int i, .junk, .junk, .junk, .junk, .junk, .junk, .junk, .junk, .junk, .junk, .junk, .junk, .junk, .junk, .junk, .junk, .junk, .junk, .junk, .junk, .junk, .junk, .junk, .junk, .junk], []⟩) ?_ (by simp [sub, slotsLe, clean, keep, refsL, refs, once, place, renL, ren, List.replicate, int, bool, fracs]) ?_ ?_ ?_
  · omega
  · trivial
  · intro i h _ hw
    have hl : i < (mkdF k n).length := by rw [mkdF_len]; exact h
    have hw2 : IntKind.i64.wrap (k + 2 * (i : Int) + 1) = k + 2 * (i : Int) + 1 := wrapI (by omega) (by omega)
    have hw3 : IntKind.i64.wrap (k + 2 * (i : Int) + 1 + 1) = k + 2 * ((i : Int) + 1) := by rw [wrapI (by omega) (by omega)]; omega
    simp (config := {contextual := true}) [List.range, List.range.loop, ints, intss, int, bool, row, frac, fracs, ← List.map_take, ← List.map_drop, h, hw, hl, hw2, hw3, mkdF_len, mkdF_at]
  · intro _
    simp (config := {contextual := true}) [List.range, List.range.loop, ints, intss, int, bool, row, frac, fracs, ← List.map_take, ← List.map_drop, mkdF_len]




/-- A list that is nil until something is put into it. -/
def apA : Nat → AV
  | 0 => .sl true 1 []
  | k + 1 => .ref 0 [] 0 (k + 1)
def apT (sz : Nat) (l : List AV) : Nat → List Tok
  | 0 => []
  | _ + 1 => [⟨true, .sl false sz l⟩]

/-- Heir 0's first share of thing x. -/
def fshare (r0 r1 : List Int) (x : Nat) : Int × Int := (if at0 r1 x ≤ at0 r0 x then 1 else 0, 1)
def fsA (r0 r1 : List Int) (k : Nat) : List (Int × Int) := (List.range k).map (fshare r0 r1)
theorem fsA_len {r0 r1 : List Int} {k : Nat} : (fsA r0 r1 k).length = k := by simp [fsA]
theorem fsA_zero {r0 r1 : List Int} : fsA r0 r1 0 = [] := by simp [fsA]
theorem fsA_succ {r0 r1 : List Int} {k : Nat} : (fsA r0 r1 k).map frac ++ [.agg [.v (.int .i64 (if at0 r1 k ≤ at0 r0 k then 1 else 0)), .v (.int .i64 1)]] = (fsA r0 r1 (k + 1)).map frac := by simp [fsA, List.range_succ, frac, fshare]
def firstL (xss : List (Bool × List Int)) : List (Int × Int) := match xss with
  | [r0, r1] => if pointsB xss = true then fsA r0.2 r1.2 r0.2.length else []
  | _ => []
theorem firstL_len {xss : List (Bool × List Int)} : (firstL xss).length ≤ 2 ^ 40 := by
  unfold firstL
  split
  · split
    · rename_i h
      have := rect_len (points_facts h).2
      simp [wid, fsA_len] at this ⊢; omega
    · simp
  · simp
theorem firstL_no {xss : List (Bool × List Int)} (h : pointsB xss = false) : firstL xss = [] := by
  unfold firstL; split <;> simp [h]

noncomputable def mFirst : List AV → Option AV := mk (fun _ => True) (fun (p : (Bool) × (List (Bool × List Int))) => [intss p.1 p.2]) (fun p => .sl (!pointsB p.2) 2 ((firstL p.2).map frac))
theorem mFirst_at (nl : Bool) (xss : List (Bool × List Int)) : mFirst [.sl nl 1 (xss.map row)] = some (.sl (!pointsB xss) 2 ((firstL xss).map frac)) :=
  mk_eq (enc := fun (p : (Bool) × (List (Bool × List Int))) => [intss p.1 p.2]) (x := (nl, xss)) (by rintro ⟨a0, a1⟩ ⟨b0, b1⟩ h; simp [ints, intss, int, bool, row, frac, fracs, map_int_inj, map_row_inj, frac_inj, map_frac_inj] at h; simp [h]) trivial

/-- A nil slice is a nil slice of whatever. -/
theorem callOk_nil {P : Program} {f : FuncId} {args : List AV} {a b : Nat} (h : CallOk P f args (.sl true a [])) : CallOk P f args (.sl true b []) := by
  refine ⟨h.1, fun w F vals hF hv => (h.2 w F vals hF hv).mono fun e w' he => ?_⟩
  obtain ⟨y, S, h1, h2, h3, h4⟩ := he
  refine ⟨y, S, h1, h2, h3, ?_⟩
  obtain ⟨a1, l, c, hy, k1, k2, k3, k4⟩ := Excl.of_own h4
  refine Excl.own (S := S) ⟨a1, l, c, hy, k1, k2, k3, ?_⟩
  rcases k4 with k4 | ⟨_, _, _, _, _, k4, _⟩
  · exact .inl k4
  · simp at k4

noncomputable def mL28 : List AV → Option AV := mk (fun (p : Bool × (Bool × List Int) × (Bool × List Int) × Nat) => p.2.2.2 < p.2.1.2.length ∧ p.2.2.2 < p.2.2.1.2.length) (fun p => [intss p.1 [p.2.1, p.2.2.1], int p.2.2.2]) (fun p => bool (decide (at0 p.2.2.1.2 p.2.2.2 ≤ at0 p.2.1.2 p.2.2.2)))
theorem mL28_at (nl : Bool) (r0 r1 : Bool × List Int) (k : Nat) (h : k < r0.2.length ∧ k < r1.2.length) : mL28 [.sl nl 1 [.sl r0.1 1 (r0.2.map int), .sl r1.1 1 (r1.2.map int)], .v (.int .i64 k)] = some (.v (.bool (decide (at0 r1.2 k ≤ at0 r0.2 k)))) :=
  mk_eq (enc := fun (p : Bool × (Bool × List Int) × (Bool × List Int) × Nat) => [intss p.1 [p.2.1, p.2.2.1], int p.2.2.2]) (x := (nl, r0, r1, k)) (by
    rintro ⟨a, b, c, d⟩ ⟨a', b', c', d'⟩ h
    simp [intss, int, row_inj] at h
    have : d = d' := by omega
    simp [h, this]) h
end Go.Proofs.Ytlkgppincgpfjaa.Ax

/-
  Contracts: LotteryOk (both programs). No condition.
-/
namespace Go.Proofs.Ytlkgppincgpfjaa.Ax
open Go Go.RowKit
set_option linter.unusedSimpArgs false

/-- Fractions come to 1. -/
def wholeB (fs : List (Int × Int)) : Bool := (sumF fs).2 && decide ([(sumF fs).1.1, (sumF fs).1.2] = [1, 1])
noncomputable def mWholeB : List AV → Option AV := mk (fun _ => True) (fun (p : (Bool) × (List (Int × Int))) => [fracs p.1 p.2]) (fun p => bool (wholeB p.2))
theorem mWholeB_at (nl : Bool) (fs : List (Int × Int)) : mWholeB [.sl nl 2 (fs.map frac)] = some (.v (.bool (wholeB fs))) :=
  mk_eq (enc := fun (p : (Bool) × (List (Int × Int))) => [fracs p.1 p.2]) (x := (nl, fs)) (by rintro ⟨a0, a1⟩ ⟨b0, b1⟩ h; simp [ints, intss, int, bool, row, frac, fracs, map_int_inj, map_row_inj, frac_inj, map_frac_inj] at h; simp [h]) trivial

set_option maxHeartbeats 1000000 in
theorem isWhole_ok : FnOk Try.prog 79 mWholeB := by
  refine mk_ok fun ⟨nl, fs⟩ _ => ?_
  have hG : FnsOk Try.prog [(59, mSumF), (74, mWhole)] := (.cons implSumF_ok (.cons whole_ok .nil))
  refine callOk_awp (ctx_ok eqOk hG) mixed (live := [true, false, true, true, true]) (dt := [(2, ⟨[], [], []⟩)]) Try.func79 rfl (by kernel_rfl) (by kernel_rfl) fun w0 hlens => ?_
  cases h : (sumF fs).2 <;> simp (config := {contextual := true}) [Try.f79, List.range, List.range.loop, ints, intss, int, bool, row, frac, fracs, ← List.map_take, ← List.map_drop, fracss, frow, mSumF_at, mWhole_at, wholeB, h]

theorem lottery1 (f : Int × Int) : CallOk Try.prog 77 [frac f] (.v (.bool (!partB f))) := by
  obtain ⟨t, b⟩ := f
  have hG : FnsOk Try.prog [(78, mPart)] := (.cons isPart_ok .nil)
  refine callOk_awp (ctx_ok eqOk hG) mixed (live := [true, true, true]) (dt := []) Try.func77 rfl (by kernel_rfl) (by kernel_rfl) fun w0 hlens => ?_
  simp (config := {contextual := true}) [Try.f77, List.range, List.range.loop, ints, intss, int, bool, row, frac, fracs, ← List.map_take, ← List.map_drop, mPart_at]

/-- Column k of the first j rows. -/
def colTo (m : List (Bool × List (Int × Int))) (k j : Nat) : List (Int × Int) := (m.take j).map fun r => r.2.getD k (0, 0)
theorem colTo_zero {m : List (Bool × List (Int × Int))} {k : Nat} : colTo m k 0 = [] := by simp [colTo]
theorem colTo_len {m : List (Bool × List (Int × Int))} {k j : Nat} (h : j ≤ m.length) : (colTo m k j).length = j := by simp [colTo]; omega
theorem colTo_succ {m : List (Bool × List (Int × Int))} {k j : Nat} (h : j < m.length) (hk : k < m[j].2.length) : (colTo m k j).map frac ++ [.agg [.v (.int .i64 m[j].2[k].1), .v (.int .i64 m[j].2[k].2)]] = (colTo m k (j + 1)).map frac := by
  unfold colTo
  rw [List.take_succ_eq_append_getElem h]
  simp only [List.map_append, List.map_cons, List.map_nil]
  congr 1
  simp [frac, List.getD_eq_getElem?_getD, hk]
def partRow (m : List (Bool × List (Int × Int))) (i : Nat) : Bool := decide ((m.getD i (true, [])).2.length = m.length) && (m.getD i (true, [])).2.all partB
def sumRow (m : List (Bool × List (Int × Int))) (k : Nat) : Bool := wholeB (m.getD k (true, [])).2 && wholeB (colTo m k m.length)
def lotB (m : List (Bool × List (Int × Int))) : Bool := inR 1 4 m.length && allR m.length (partRow m) && allR m.length (sumRow m)
theorem getDF {m : List (Bool × List (Int × Int))} {i : Nat} (h : i < m.length) : m.getD i (true, []) = m[i] := by simp [List.getD_eq_getElem?_getD, h]

noncomputable def mLot : List AV → Option AV := mk (fun _ => True) (fun (p : Bool × List (Bool × List (Int × Int))) => [fracss p.1 p.2]) (fun p => bool (lotB p.2))
theorem mLot_at (nl : Bool) (m : List (Bool × List (Int × Int))) : mLot [.sl nl 1 (m.map frow)] = some (.v (.bool (lotB m))) :=
  mk_eq (enc := fun (p : Bool × List (Bool × List (Int × Int))) => [fracss p.1 p.2]) (x := (nl, m)) (by rintro ⟨a, b⟩ ⟨c, d⟩ h; simp [fracss, map_frow_inj] at h; simp [h]) trivial

set_option maxHeartbeats 4000000 in
theorem implLot_ok : FnOk Try.prog 60 mLot := by
  refine mk_ok fun ⟨nl, m⟩ _ => ?_
  have hct : ∀ (nl : Bool) (fs : List (Int × Int)), CallOk Try.prog 76 [fracs nl fs, .fn 77 []] (bool (!fs.all partB)) := fun nl fs => by
    have := containsFracs pure_nil (g := 77) (fun f => !partB f) nl fs (fun x _ => lottery1 x)
    have hnn := not_any_not (p := partB) (xs := fs)
    have e : (!fs.all partB) = fs.any (fun f => !partB f) := by rw [← hnn]; simp
    rw [e]; exact this
  have hmm : FnOk Try.prog 76 (mk (fun _ => True) (fun (p : Bool × List (Int × Int)) => [fracs p.1 p.2, .fn 77 []]) (fun p => bool (!p.2.all partB))) := mk_ok fun p _ => hct p.1 p.2
  have hma : ∀ (nl : Bool) (fs : List (Int × Int)), mk (fun _ => True) (fun (p : Bool × List (Int × Int)) => [fracs p.1 p.2, .fn 77 []]) (fun p => bool (!p.2.all partB)) [.sl nl 2 (fs.map frac), .fn 77 []] = some (.v (.bool (!fs.all partB))) := fun nl fs =>
    mk_eq (enc := fun (p : Bool × List (Int × Int)) => [fracs p.1 p.2, .fn 77 []]) (x := (nl, fs)) (by rintro ⟨a, b⟩ ⟨c, d⟩ h; simp [fracs, map_frac_inj] at h; simp [h]) trivial
  generalize mk (fun _ => True) (fun (p : Bool × List (Int × Int)) => [fracs p.1 p.2, .fn 77 []]) (fun p => bool (!p.2.all partB)) = mc at hmm hma
  have hG : FnsOk Try.prog [(50, mWithin), (76, mc), (79, mWholeB)] := (.cons within_ok (.cons hmm (.cons isWhole_ok .nil)))
  refine callOk_awp (ctx_ok eqOk hG) mixed (live := [true, false, true, false, true, true, true, false, true, false, false, false, true, true, true, true, true, false, false, false, false, false, false, false, false, false, false, true, false, false, true, true, true, false, true, true, true, true, false, false, false, false, false, false, false, false, false, false, false, false, false, false, false, false, false, false, false, false, true]) (dt := []) Try.func60 rfl (by kernel_rfl) (by kernel_rfl) fun w0 hlens => ?_
  clear hlens
  cases h1 : inR 1 4 m.length with
  | false => simp (config := {contextual := true}) [Try.f60, List.range, List.range.loop, ints, intss, int, bool, row, frac, fracs, ← List.map_take, ← List.map_drop, fracss, frow, mWithin_in, h1, lotB]
  | true =>
  have hn := h1
  simp only [inR, Bool.and_eq_true, decide_eq_true_eq] at hn
  have hm : lotB m = (allR m.length (partRow m) && allR m.length (sumRow m)) := by simp [lotB, h1]
  generalize hres : lotB m = r at hm
  simp (config := {contextual := true}) [Try.f60, List.range, List.range.loop, ints, intss, int, bool, row, frac, fracs, ← List.map_take, ← List.map_drop, fracss, frow, mWithin_in, h1]
  refine awp_range (live := [true, false, true, false, true, true, true, false, true, false, false, false, true, true, true, true, true, false, false, false, false, false, false, false, false, false, false, true, false, false, true, true, true, false, true, true, true, true, false, false, false, false, false, false, false, false, false, false, false, false, false, false, false, false, false, false, false, false, true]) (ctx_ok eqOk hG) mixed [true, false, false, false, false, false, false, false, false, false, false, false, false, true, true, true] (m.length) (fun i => upto (partRow m) i) (fun i => ⟨[fracss nl m, .junk, .junk, .junk, .junk, .junk, .junk, .junk, .junk, .junk, .junk, .junk, .junk, fracss nl m, int m.length, int i, .junk, .junk, .junk, .junk, .junk, .junk, .junk, .junk, .junk, .junk, .junk, .junk, .junk, .junk, .junk, .junk, .junk, .junk, .junk, .junk, .junk, .junk, .junk, .junk, .junk, .junk, .junk, .junk, .junk, .junk, .junk, .junk, .junk, .junk, .junk, .junk, .junk, .junk, .junk, .junk, .junk, .junk, .junk, .junk], []⟩) ?_ (by simp [sub, slotsLe, clean, keep, refsL, refs, once, place, renL, ren, List.replicate, int, bool, fracss]) ?_ ?_ ?_
  · omega
  · exact upto_zero
  · intro i hi hp hw
    have hf : partRow m i = false → r = false := fun hf => by rw [hm, allR_no hi hf]; rfl
    have ht := upto_succ hp
    have e : partRow m i = (decide (m[i].2.length = m.length) && m[i].2.all partB) := by unfold partRow; rw [getDF hi]
    by_cases hl : m[i].2.length = m.length
    · generalize hall : m[i].2.all partB = al at e
      have hz := hma m[i].1 m[i].2
      rw [hall] at hz
      cases al with
      | true => simp (config := {contextual := true}) [List.range, List.range.loop, ints, intss, int, bool, row, frac, fracs, ← List.map_take, ← List.map_drop, fracss, frow, hi, hw, hl, hz, ht (by rw [e]; simp [hl])]
      | false =>
        have hr0 := hf (by rw [e]; simp)
        subst hr0
        simp (config := {contextual := true}) [List.range, List.range.loop, ints, intss, int, bool, row, frac, fracs, ← List.map_take, ← List.map_drop, fracss, frow, hi, hw, hl, hz]
    · have hl' : ((m[i].2.length : Int) != (m.length : Int)) = true := by simp; omega
      have hr0 := hf (by rw [e]; simp [hl])
      subst hr0
      simp (config := {contextual := true}) [List.range, List.range.loop, ints, intss, int, bool, row, frac, fracs, ← List.map_take, ← List.map_drop, fracss, frow, hi, hw, hl, hl']
  · intro hp
    have hlen : ∀ j (hj : j < m.length), m[j].2.length = m.length := fun j hj => by
      have := hp j hj
      unfold partRow at this
      rw [getDF hj] at this
      simp only [Bool.and_eq_true, decide_eq_true_eq] at this
      exact this.1
    rw [allR_yes hp, Bool.true_and] at hm
    simp (config := {contextual := true}) [List.range, List.range.loop, ints, intss, int, bool, row, frac, fracs, ← List.map_take, ← List.map_drop, fracss, frow]
    refine awp_range (live := [true, false, true, false, true, true, true, false, true, false, false, false, true, true, true, true, true, false, false, false, false, false, false, false, false, false, false, true, false, false, true, true, true, false, true, true, true, true, false, false, false, false, false, false, false, false, false, false, false, false, false, false, false, false, false, false, false, false, true]) (ctx_ok eqOk hG) mixed [true, false, false, false, false, false, false, false, false, false, false, false, false, false, false, false, false, false, false, false, false, false, false, false, false, false, false, false, false, false, true, true] (m.length) (fun k => upto (sumRow m) k) (fun k => ⟨[fracss nl m, .junk, .junk, .junk, .junk, .junk, .junk, .junk, .junk, .junk, .junk, .junk, .junk, .junk, .junk, .junk, .junk, .junk, .junk, .junk, .junk, .junk, .junk, .junk, .junk, .junk, .junk, .junk, .junk, .junk, int m.length, int k, .junk, .junk, .junk, .junk, .junk, .junk, .junk, .junk, .junk, .junk, .junk, .junk, .junk, .junk, .junk, .junk, .junk, .junk, .junk, .junk, .junk, .junk, .junk, .junk, .junk, .junk, .junk, .junk], []⟩) ?_ (by simp [sub, slotsLe, clean, keep, refsL, refs, once, place, renL, ren, List.replicate, int, bool, fracss]) ?_ ?_ ?_
    · omega
    · exact upto_zero
    · intro k hk hpk hwk
      have hf : sumRow m k = false → r = false := fun hf => by rw [hm]; exact allR_no hk hf
      have ht := upto_succ hpk
      have e : sumRow m k = (wholeB m[k].2 && wholeB (colTo m k m.length)) := by unfold sumRow; rw [getDF hk]
      simp (config := {contextual := true}) [List.range, List.range.loop, ints, intss, int, bool, row, frac, fracs, ← List.map_take, ← List.map_drop, fracss, frow, hk, hwk]
      refine awp_range (live := [true, false, true, false, true, true, true, false, true, false, false, false, true, true, true, true, true, false, false, false, false, false, false, false, false, false, false, true, false, false, true, true, true, false, true, true, true, true, false, false, false, false, false, false, false, false, false, false, false, false, false, false, false, false, false, false, false, false, true]) (ctx_ok eqOk hG) mixed [true, false, false, false, false, true, true, false, false, false, false, false, false, false, false, false, false, false, false, false, false, false, false, false, false, false, false, false, false, false, true, true, false, false, true, true, true] (m.length) (fun j => True) (fun j => ⟨[fracss nl m, .junk, .junk, .junk, .junk, int k, apA j, .junk, .junk, .junk, .junk, .junk, .junk, .junk, .junk, .junk, .junk, .junk, .junk, .junk, .junk, .junk, .junk, .junk, .junk, .junk, .junk, .junk, .junk, .junk, int m.length, int k, .junk, .junk, fracss nl m, int m.length, int j, .junk, .junk, .junk, .junk, .junk, .junk, .junk, .junk, .junk, .junk, .junk, .junk, .junk, .junk, .junk, .junk, .junk, .junk, .junk, .junk, .junk, .junk, .junk], apT 2 ((colTo m k j).map frac) j⟩) ?_ (by simp [sub, slotsLe, clean, keep, refsL, refs, once, place, renL, ren, List.replicate, int, bool, fracss, apA, apT]) ?_ ?_ ?_
      · omega
      · trivial
      · intro j hj _ hwj
        have hkj : k < m[j].2.length := by rw [hlen j hj]; exact hk
        have c3 := colTo_succ hj hkj
        have c1 := colTo_len (m := m) (k := k) (j := j) (by omega)
        have q1 : (j + 1) * 16 ≤ 140737488355328 := by omega
        have q2 : j + 1 ≤ 4611686018427387904 := by omega
        cases j with
        | zero =>
          simp [colTo_zero] at c3 hwj
          simp (config := {contextual := true}) [List.range, List.range.loop, ints, intss, int, bool, row, frac, fracs, ← List.map_take, ← List.map_drop, fracss, frow, hj, hwj, hkj, apA, apT, ← c3]
        | succ j =>
          simp at hwj
          simp (config := {contextual := true}) [List.range, List.range.loop, ints, intss, int, bool, row, frac, fracs, ← List.map_take, ← List.map_drop, fracss, frow, hj, hwj, hkj, apA, apT, c1, c3, q1, q2]
      · intro _
        have c1 := colTo_len (m := m) (k := k) (j := m.length) (by omega)
        obtain ⟨n', hn'⟩ : ∃ n', m.length = n' + 1 := ⟨m.length - 1, by omega⟩
        have z1 := mWholeB_at m[k].1 m[k].2
        have z2 := mWholeB_at false (colTo m k m.length)
        generalize hw1 : wholeB m[k].2 = b1 at e z1
        generalize hw2 : wholeB (colTo m k m.length) = b2 at e z2
        generalize colTo m k m.length = cc at *
        rw [hn'] at c1 hk ⊢
        have tk : List.take (n' + 1) cc = cc := List.take_of_length_le (by omega)
        rw [e] at hf ht
        cases b1 with
        | false =>
          have hr0 := hf rfl
          subst hr0
          simp (config := {contextual := true}) [List.range, List.range.loop, ints, intss, int, bool, row, frac, fracs, ← List.map_take, ← List.map_drop, fracss, frow, hn', hk, hwk, apA, apT, z1]
        | true =>
          cases b2 with
          | false =>
            have hr0 := hf rfl
            subst hr0
            simp (config := {contextual := true}) [List.range, List.range.loop, ints, intss, int, bool, row, frac, fracs, ← List.map_take, ← List.map_drop, fracss, frow, hn', hk, hwk, apA, apT, z1, z2, c1, tk]
          | true =>
            have ht' := ht rfl
            simp (config := {contextual := true}) [List.range, List.range.loop, ints, intss, int, bool, row, frac, fracs, ← List.map_take, ← List.map_drop, fracss, frow, hn', hk, hwk, apA, apT, z1, z2, c1, tk, ht']
    · intro hpk
      rw [allR_yes hpk] at hm
      subst hm
      simp (config := {contextual := true}) [List.range, List.range.loop, ints, intss, int, bool, row, frac, fracs, ← List.map_take, ← List.map_drop, fracss, frow]

end Go.Proofs.Ytlkgppincgpfjaa.Ax
