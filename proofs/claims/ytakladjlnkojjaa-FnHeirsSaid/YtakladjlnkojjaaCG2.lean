/-
  Contracts: CutAndChoose (both programs). No condition.
-/
import Derived.Test.YtakladjlnkojjaaCG1
import Derived.Test.YtakladjlnkojjaaCB2
namespace Go.Proofs.Ytakladjlnkojjaa.Ax
open Go Go.RowKit
set_option linter.unusedSimpArgs false

def mBoolInt : List AV → Option AV
  | [.v (.bool b)] => some (.v (.int .i64 (if b then 1 else 0)))
  | _ => none
theorem mBoolInt_at {b : Bool} : mBoolInt [.v (.bool b)] = some (.v (.int .i64 (if b then 1 else 0))) := rfl
theorem boolInt_ok : FnOk Try.prog 56 mBoolInt := by
  intro args r h
  unfold mBoolInt at h
  split at h
  · rename_i b
    simp only [Option.some.injEq] at h; subst h
    have hG : FnsOk Try.prog [] := .nil
    refine callOk_awp (ctx_ok eqOk hG) mixed (live := [true, false, true, true]) (dt := []) Try.func56 rfl (by kernel_rfl) (by kernel_rfl) fun w0 hlens => ?_
    cases b <;> simp (config := {contextual := true}) [Try.f56, List.range, List.range.loop, ints, intss, int, bool, row, frac, fracs, ← List.map_take, ← List.map_drop]
  · simp at h

theorem tkd {l : List Int} {c : Nat} : List.take (l.length - c) (List.drop c l) = List.drop c l := List.take_of_length_le (by simp)

/-- The lesser of the two parts at a cut. -/
def lessr (r : List Int) (c : Nat) : Int := min (sumW (r.take c)) (sumW (r.drop c))
/-- The first best cut among the first m. -/
def bestTo (r : List Int) : Nat → Nat
  | 0 => 0
  | m + 1 => if lessr r (bestTo r m) < lessr r m then m else bestTo r m
theorem bestTo_le {r : List Int} : ∀ {m : Nat}, bestTo r (m + 1) ≤ m
  | 0 => by simp [bestTo]
  | m + 1 => by rw [bestTo]; split; exact Nat.le_refl _; exact Nat.le_trans bestTo_le (Nat.le_succ m)
def cutP (r0 r1 : List Int) (i : Nat) : Int :=
  let c := bestTo r0 (r0.length + 1)
  let f : Int := if sumW (r1.drop c) < sumW (r1.take c) then 1 else 0
  if i < c then f else 1 - f
def cutList (r0 r1 : List Int) : List Int := (List.range r0.length).map (cutP r0 r1)
theorem cutList_len {r0 r1 : List Int} : (cutList r0 r1).length = r0.length := by simp [cutList]
def cutL (xss : List (Bool × List Int)) : Bool × List Int := match xss with
  | [r0, r1] => if rectB xss 3 10 100 = true then (false, cutList r0.2 r1.2) else (true, [])
  | _ => (true, [])
theorem cutL_len {xss : List (Bool × List Int)} : (cutL xss).2.length ≤ 2 ^ 40 := by
  unfold cutL
  split
  · split
    · rename_i h
      have := rect_len h
      simp [wid, cutList] at this ⊢; omega
    · simp
  · simp

noncomputable def mCut : List AV → Option AV := mk (fun _ => True) (fun (p : (Bool) × (List (Bool × List Int))) => [intss p.1 p.2]) (fun p => .sl (cutL p.2).1 1 ((cutL p.2).2.map int))
theorem mCut_at (nl : Bool) (xss : List (Bool × List Int)) : mCut [.sl nl 1 (xss.map row)] = some (.sl (cutL xss).1 1 ((cutL xss).2.map int)) :=
  mk_eq (enc := fun (p : (Bool) × (List (Bool × List Int))) => [intss p.1 p.2]) (x := (nl, xss)) (by rintro ⟨a0, a1⟩ ⟨b0, b1⟩ h; simp [ints, intss, int, bool, row, frac, fracs, map_int_inj, map_row_inj, frac_inj, map_frac_inj] at h; simp [h]) trivial

noncomputable def mLess : List AV → Option AV := mk (fun (p : Nat × Bool × List (Bool × List Int)) => ∃ r rs, p.2.2 = r :: rs ∧ p.1 ≤ r.2.length) (fun p => [int p.1, .fp (intss p.2.1 p.2.2) 0]) (fun p => int (lessr (p.2.2.headD (true, [])).2 p.1))
theorem mLess_at (c : Nat) (nl : Bool) (r : Bool × List Int) (rs : List (Bool × List Int)) (h : c ≤ r.2.length) : mLess [.v (.int .i64 c), .fp (.sl nl 1 (row r :: rs.map row)) 0] = some (.v (.int .i64 (lessr r.2 c))) :=
  mk_eq (enc := fun (p : Nat × Bool × List (Bool × List Int)) => [int p.1, .fp (intss p.2.1 p.2.2) 0]) (x := (c, nl, r :: rs)) (by
    rintro ⟨a, b, e⟩ ⟨a', b', e'⟩ h
    simp [int, intss, map_row_inj] at h
    obtain ⟨h1, _, h2⟩ := h
    have : a = a' := by omega
    simp [this, h2]) ⟨r, rs, rfl, h⟩

theorem cut1_ok : FnOk Try.prog 78 mLess := by
  refine mk_ok fun ⟨c, nl, xss⟩ ⟨r, rs, hx, hc⟩ => ?_
  simp only at hx hc
  subst hx
  have hG : FnsOk Try.prog [(63, mSum)] := (.cons sumOf_ok .nil)
  refine callOk_awp (ctx_ok eqOk hG) mixed (live := [true, true, false, true]) (dt := [(1, ⟨[], [], []⟩)]) Try.func78 rfl (by kernel_rfl) (by kernel_rfl) fun w0 hlens => ?_
  simp (config := {contextual := true}) [Try.f78, List.range, List.range.loop, ints, intss, int, bool, row, frac, fracs, ← List.map_take, ← List.map_drop, mSum_at, hc, lessr, tkd]

/-- The list whose first k pieces are given. -/
def cutF (r0 r1 : List Int) (k : Nat) : List AV := filled (fun i => int (cutP r0 r1 i)) (int 0) (List.range r0.length) k
theorem cutF_len {r0 r1 : List Int} {k : Nat} (h : k ≤ r0.length) : (cutF r0 r1 k).length = r0.length := by unfold cutF; rw [filled_len (by simpa using h)]; simp
theorem cutF_zero {r0 r1 : List Int} : cutF r0 r1 0 = List.replicate r0.length (.v (.int .i64 0)) := by simp [cutF, filled_zero, int]
theorem cutF_all {r0 r1 : List Int} : cutF r0 r1 r0.length = (cutList r0 r1).map int := by
  have := filled_all (f := fun i => int (cutP r0 r1 i)) (z := int 0) (xs := List.range r0.length)
  rw [List.length_range] at this
  rw [cutF, this]; simp [cutList]
theorem cutF_at {r0 r1 : List Int} {k : Nat} (h : k < r0.length) (hh : k < (cutF r0 r1 k).length) : (cutF r0 r1 k)[k] = .v (.int .i64 0) := filled_get' (by simpa using h) hh
theorem cutF_set {r0 r1 : List Int} {k : Nat} (h : k < r0.length) : (cutF r0 r1 k).set k (.v (.int .i64 (cutP r0 r1 k))) = cutF r0 r1 (k + 1) := by
  have := filled_set (f := fun i => int (cutP r0 r1 i)) (z := int 0) (xs := List.range r0.length) (k := k) (by simpa using h)
  simpa [cutF, int] using this

theorem cutL_no {xss : List (Bool × List Int)} (h : rectB xss 3 10 100 = false ∨ ¬ xss.length = 2) : cutL xss = (true, []) := by
  match xss, h with
  | [], _ => rfl
  | [a], _ => rfl
  | [a, b], h => simp at h; simp [cutL, h]
  | a :: b :: c :: l, _ => rfl

set_option maxHeartbeats 4000000 in
theorem implCut_ok : FnOk Try.prog 32 mCut := by
  refine mk_ok fun ⟨nl, xss⟩ _ => ?_
  have hG : FnsOk Try.prog [(72, (mGrid 3 10 100)), (63, mSum), (56, mBoolInt), (78, mLess)] := (.cons implCakeOk_ok (.cons sumOf_ok (.cons boolInt_ok (.cons cut1_ok .nil))))
  refine callOk_awp (ctx_ok eqOk hG) mixed (live := [true, true, true, true, true, true, true, true, true, true, false, false, false, false, false, false, false, true, false, false, false, false, false, false, true, true, true, false, false, false, false, false, false, false, true, false, false, false, false, false, false, false, false, false, false, false, false, false, false, false, false, false, false, false, true, true, true, false, false, false, false, false, false, false, true]) (dt := [(13, ⟨[], [], []⟩)]) Try.func32 rfl (by kernel_rfl) (by kernel_rfl) fun w0 hlens => ?_
  clear hlens
  by_cases h2 : xss.length = 2
  rotate_left
  · have hc := cutL_no (xss := xss) (.inr h2)
    have h2' : ((xss.length : Int) != 2) = true := by simp; omega
    cases h1 : rectB xss 3 10 100 with
    | false => simp (config := {contextual := true}) [Try.f32, List.range, List.range.loop, ints, intss, int, bool, row, frac, fracs, ← List.map_take, ← List.map_drop, mGrid_at, mSum_at, mBoolInt_at, h1, hc]
    | true => simp (config := {contextual := true}) [Try.f32, List.range, List.range.loop, ints, intss, int, bool, row, frac, fracs, ← List.map_take, ← List.map_drop, mGrid_at, h1, hc, h2, h2']
  obtain ⟨r0, r1, rfl⟩ : ∃ r0 r1, xss = [r0, r1] := by
    match xss, h2 with
    | [a, b], _ => exact ⟨a, b, rfl⟩
  have hg := mGrid_at (a := 3) (b := 10) (c := 100) nl [r0, r1]
  simp only [List.map_cons, List.map_nil, row] at hg
  cases h1 : rectB [r0, r1] 3 10 100 with
  | false =>
    have hc := cutL_no (xss := [r0, r1]) (.inl h1)
    rw [h1] at hg
    simp (config := {contextual := true}) [Try.f32, List.range, List.range.loop, ints, intss, int, bool, row, frac, fracs, ← List.map_take, ← List.map_drop, hg, hc]
  | true =>
  have hl := rect_len h1
  have hr1 := (rect_row h1 (i := 1) (by simp)).1
  simp only [wid, List.headD_cons] at hl hr1
  simp only [List.getElem_cons_succ, List.getElem_cons_zero] at hr1
  have hc : cutL [r0, r1] = (false, cutList r0.2 r1.2) := by simp [cutL, h1]
  rw [hc]
  have hw : IntKind.i64.wrap ((r0.2.length : Int) + 1) = (r0.2.length : Int) + 1 := wrapI (by omega) (by omega)
  rw [h1] at hg
  simp (config := {contextual := true}) [Try.f32, List.range, List.range.loop, ints, intss, int, bool, row, frac, fracs, ← List.map_take, ← List.map_drop, hg, hw]
  refine awp_range (live := [true, true, true, true, true, true, true, true, true, true, false, false, false, false, false, false, false, true, false, false, false, false, false, false, true, true, true, false, false, false, false, false, false, false, true, false, false, false, false, false, false, false, false, false, false, false, false, false, false, false, false, false, false, false, true, true, true, false, false, false, false, false, false, false, true]) (ctx_ok eqOk hG) mixed [false, true, false, true, true, true, false, false, false, false, false, false, false, false, false, false, false, false, false, false, false, false, false, false, true, true] (r0.2.length + 1) (fun m => True) (fun m => ⟨[.junk, .ptr 0 [] 0 0, .junk, int r0.2.length, .fn 78 [.ptr 0 [] 0 0], int (bestTo r0.2 m), .junk, .junk, .junk, .junk, .junk, .junk, .junk, .junk, .junk, .junk, .junk, .junk, .junk, .junk, .junk, .junk, .junk, .junk, int (r0.2.length + 1), int m, .junk, .junk, .junk, .junk, .junk, .junk, .junk, .junk, .junk, .junk, .junk, .junk, .junk, .junk, .junk, .junk, .junk, .junk, .junk, .junk, .junk, .junk, .junk, .junk, .junk, .junk, .junk, .junk, .junk, .junk, .junk, .junk, .junk, .junk, .junk, .junk, .junk, .junk, .junk, .junk, .junk, .junk, .junk, .junk, .junk, .junk], [⟨false, .sl false 1 [intss nl [r0, r1]]⟩]⟩) ?_ (by simp [sub, slotsLe, clean, keep, refsL, refs, once, place, renL, ren, List.replicate, int, bool, intss, row, bestTo]) ?_ ?_ ?_
  · omega
  · trivial
  · intro m h _ hwm
    have hb : bestTo r0.2 m ≤ r0.2.length := by
      cases m with
      | zero => simp [bestTo]
      | succ m => exact Nat.le_trans bestTo_le (by omega)
    have z1 := mLess_at m nl r0 [r1] (by omega)
    have z2 := mLess_at (bestTo r0.2 m) nl r0 [r1] hb
    simp only [List.map_cons, List.map_nil, row] at z1 z2
    have hlt : (m : Int) < (r0.2.length : Int) + 1 := by omega
    by_cases e : lessr r0.2 (bestTo r0.2 m) < lessr r0.2 m
    · simp (config := {contextual := true}) [List.range, List.range.loop, ints, intss, int, bool, row, frac, fracs, ← List.map_take, ← List.map_drop, hlt, hwm, z1, z2, e, bestTo]
    · simp (config := {contextual := true}) [List.range, List.range.loop, ints, intss, int, bool, row, frac, fracs, ← List.map_take, ← List.map_drop, hlt, hwm, z1, z2, e, bestTo]
  · intro _
    have hb : bestTo r0.2 (r0.2.length + 1) ≤ r0.2.length := bestTo_le
    generalize hcc : bestTo r0.2 (r0.2.length + 1) = cc at hb
    have hm1 : r0.2.length ≤ 281474976710656 := by omega
    have hm2 : r0.2.length ≤ 4611686018427387904 := by omega
    have hm3 : 8 * r0.2.length ≤ 281474976710656 := by omega
    have hb1 : cc ≤ r1.2.length := by omega
    have hF : ∀ i, cutP r0.2 r1.2 i = if i < cc then (if sumW (r1.2.drop cc) < sumW (r1.2.take cc) then 1 else 0) else 1 - (if sumW (r1.2.drop cc) < sumW (r1.2.take cc) then 1 else 0) := fun i => by simp only [cutP, hcc]
    have htk : List.take (r0.2.length - cc) (List.drop cc r1.2) = List.drop cc r1.2 := by rw [← hr1]; exact tkd
    simp (config := {contextual := true}) [List.range, List.range.loop, ints, intss, int, bool, row, frac, fracs, ← List.map_take, ← List.map_drop, mBoolInt_at, mSum_at, hb, hb1, hm1, hm2, hm3, hr1, htk]
    have hsub : decide (sumW (r1.2.drop cc) < sumW (r1.2.take cc)) = true ∨ decide (sumW (r1.2.drop cc) < sumW (r1.2.take cc)) = false := by cases decide (sumW (r1.2.drop cc) < sumW (r1.2.take cc)) <;> simp
    generalize hFe : (if sumW (r1.2.drop cc) < sumW (r1.2.take cc) then (1 : Int) else 0) = F at hF ⊢
    have hF01 : F = 0 ∨ F = 1 := by rw [← hFe]; split <;> simp
    have hwF : IntKind.i64.wrap (1 - F) = 1 - F := wrapI (by omega) (by omega)
    refine awp_range (live := [true, true, true, true, true, true, true, true, true, true, false, false, false, false, false, false, false, true, false, false, false, false, false, false, true, true, true, false, false, false, false, false, false, false, true, false, false, false, false, false, false, false, false, false, false, false, false, false, false, false, false, false, false, false, true, true, true, false, false, false, false, false, false, false, true]) (ctx_ok eqOk hG) mixed [false, false, false, false, false, true, false, true, true, false, false, false, false, false, false, false, false, false, false, false, false, false, false, false, false, false, false, false, false, false, false, false, false, false, false, false, false, false, false, false, false, false, false, false, false, false, false, false, false, false, false, false, false, false, true, true] (r0.2.length) (fun k => True) (fun k => ⟨[.junk, .junk, .junk, .junk, .junk, int cc, .junk, .ref 0 [] 0 r0.2.length, int F, .junk, .junk, .junk, .junk, .junk, .junk, .junk, .junk, .junk, .junk, .junk, .junk, .junk, .junk, .junk, .junk, .junk, .junk, .junk, .junk, .junk, .junk, .junk, .junk, .junk, .junk, .junk, .junk, .junk, .junk, .junk, .junk, .junk, .junk, .junk, .junk, .junk, .junk, .junk, .junk, .junk, .junk, .junk, .junk, .junk, int r0.2.length, int k, .junk, .junk, .junk, .junk, .junk, .junk, .junk, .junk, .junk, .junk, .junk, .junk, .junk, .junk, .junk, .junk], [⟨true, .sl false 1 (cutF r0.2 r1.2 k)⟩]⟩) ?_ (by simp [sub, slotsLe, clean, keep, refsL, refs, once, place, renL, ren, List.replicate, int, bool, cutF_zero]) ?_ ?_ ?_
    · omega
    · trivial
    · intro k h _ hwk
      have c1 := cutF_len (r0 := r0.2) (r1 := r1.2) (k := k) (by omega)
      have c2 := cutF_at (r0 := r0.2) (r1 := r1.2) h
      have c3 := cutF_set (r0 := r0.2) (r1 := r1.2) h
      by_cases hkc : k < cc
      · rw [hF, if_pos hkc] at c3
        have hkc' : ¬ cc ≤ k := by omega
        simp (config := {contextual := true}) [List.range, List.range.loop, ints, intss, int, bool, row, frac, fracs, ← List.map_take, ← List.map_drop, h, hwk, c1, c2, c3, hkc, hkc']
      · rw [hF, if_neg hkc] at c3
        have hkc' : cc ≤ k := by omega
        simp (config := {contextual := true}) [List.range, List.range.loop, ints, intss, int, bool, row, frac, fracs, ← List.map_take, ← List.map_drop, h, hwk, c1, c2, c3, hkc', hwF]
    · intro _
      simp (config := {contextual := true}) [List.range, List.range.loop, ints, intss, int, bool, row, frac, fracs, ← List.map_take, ← List.map_drop, cutF_all, cutList_len]

/-- The first k pieces, given. -/
def cutA (r0 r1 : List Int) (k : Nat) : List Int := (List.range k).map (cutP r0 r1)
theorem cutA_len {r0 r1 : List Int} {k : Nat} : (cutA r0 r1 k).length = k := by simp [cutA]
theorem cutA_zero {r0 r1 : List Int} : cutA r0 r1 0 = [] := by simp [cutA]
theorem cutA_succ {r0 r1 : List Int} {k : Nat} : (cutA r0 r1 k).map int ++ [.v (.int .i64 (cutP r0 r1 k))] = (cutA r0 r1 (k + 1)).map int := by simp [cutA, List.range_succ, int]
theorem cutA_all {r0 r1 : List Int} : cutA r0 r1 r0.length = cutList r0 r1 := rfl

end Go.Proofs.Ytakladjlnkojjaa.Ax

/-
  Contracts: marks on lists of fractions, FirstShares (both programs). No condition.
-/
namespace Go.Proofs.Ytakladjlnkojjaa.Ax
open Go Go.RowKit
set_option linter.unusedSimpArgs false

/-- The marks from k on, for so many fractions. -/
def mkdF (k : Int) (n : Nat) : List (Int × Int) := (List.range n).map fun (i : Nat) => (k + 2 * (i : Int), k + 2 * (i : Int) + 1)
theorem mkdF_len {k : Int} {n : Nat} : (mkdF k n).length = n := by simp [mkdF]
theorem mkdF_take {k : Int} {n : Nat} : (mkdF k n).take n = mkdF k n := List.take_of_length_le (by simp [mkdF_len])
theorem mkdF_at {k : Int} {n i : Nat} (h : i < (mkdF k n).length) : (mkdF k n)[i] = (k + 2 * (i : Int), k + 2 * (i : Int) + 1) := by simp [mkdF]
def mkFTo (k : Int) (xs : List (Int × Int)) (i : Nat) : List (Int × Int) := mkdF k i ++ xs.drop i
theorem mkFTo_len {k : Int} {xs : List (Int × Int)} {i : Nat} (h : i ≤ xs.length) : (mkFTo k xs i).length = xs.length := by simp [mkFTo, mkdF_len]; omega
theorem mkFTo_zero {k : Int} {xs : List (Int × Int)} : mkFTo k xs 0 = xs := by simp [mkFTo, mkdF]
theorem mkFTo_all {k : Int} {xs : List (Int × Int)} : mkFTo k xs xs.length = mkdF k xs.length := by simp [mkFTo]
theorem mkFTo_set {k : Int} {xs : List (Int × Int)} {i : Nat} (h : i < xs.length) : ((mkFTo k xs i).map frac).set i (.agg [.v (.int .i64 (k + 2 * (i : Int))), .v (.int .i64 (k + 2 * (i : Int) + 1))]) = (mkFTo k xs (i + 1)).map frac := by
  have : (AV.agg [.v (.int .i64 (k + 2 * (i : Int))), .v (.int .i64 (k + 2 * (i : Int) + 1))]) = frac (k + 2 * (i : Int), k + 2 * (i : Int) + 1) := rfl
  rw [this, ← List.map_set]
  congr 1
  unfold mkFTo
  rw [List.set_append, if_neg (by simp [mkdF_len]), mkdF_len, Nat.sub_self, drop_get h, List.set_cons_zero]
  simp [mkdF, List.range_succ]

noncomputable def mMarkF : List AV → Option (Nat × AV × AV) := mkM (fun (p : Bool × List (Int × Int) × Int) => 0 ≤ p.2.2 ∧ p.2.2 + 2 * p.2.1.length ≤ 2 ^ 62) (fun p => [fracs p.1 p.2.1, int p.2.2]) (fun p => (0, int (p.2.2 + 2 * p.2.1.length), fracs p.1 (mkdF p.2.2 p.2.1.length)))
theorem mMarkF_at (nl : Bool) (xs : List (Int × Int)) (k : Int) (h : 0 ≤ k ∧ k + 2 * xs.length ≤ 2 ^ 62) : mMarkF [.sl nl 2 (xs.map frac), .v (.int .i64 k)] = some (0, .v (.int .i64 (k + 2 * xs.length)), .sl nl 2 ((mkdF k xs.length).map frac)) :=
  mkM_eq (enc := fun (p : Bool × List (Int × Int) × Int) => [fracs p.1 p.2.1, int p.2.2]) (x := (nl, xs, k)) (by rintro ⟨a, b, c⟩ ⟨d, e, f⟩ h; simp [fracs, int, map_frac_inj] at h; simp [h]) h

noncomputable def mHeldF : List AV → Option AV := mk (fun (p : Bool × Nat × Int) => 0 ≤ p.2.2 ∧ p.2.2 + 2 * p.2.1 ≤ 2 ^ 62) (fun p => [fracs p.1 (mkdF p.2.2 p.2.1), int p.2.2]) (fun p => int (p.2.2 + 2 * p.2.1))
theorem mHeldF_at (nl : Bool) (n : Nat) (k : Int) (h : 0 ≤ k ∧ k + 2 * n ≤ 2 ^ 62) : mHeldF [.sl nl 2 ((mkdF k n).map frac), .v (.int .i64 k)] = some (.v (.int .i64 (k + 2 * n))) :=
  mk_eq (enc := fun (p : Bool × Nat × Int) => [fracs p.1 (mkdF p.2.2 p.2.1), int p.2.2]) (x := (nl, n, k)) (by
    rintro ⟨a, b, c⟩ ⟨d, e, f⟩ h
    simp [fracs, int, map_frac_inj] at h
    obtain ⟨⟨_, h1⟩, h2⟩ := h
    have := congrArg List.length h1
    simp [mkdF_len] at this
    simp [h2, this]) h

/-- A list that is nil until something is put into it. -/
def apA : Nat → AV
  | 0 => .sl true 1 []
  | k + 1 => .ref 0 [] 0 (k + 1)
def apT (sz : Nat) (l : List AV) : Nat → List Tok
  | 0 => []
  | _ + 1 => [⟨true, .sl false sz l⟩]

/-- Heir 0's first share of thing x. -/
def fshare (r0 r1 : List Int) (x : Nat) : Int × Int := (if at0 r1 x ≤ at0 r0 x then 1 else 0, 1)
def fsA (r0 r1 : List Int) (k : Nat) : List (Int × Int) := (List.range k).map (fshare r0 r1)
theorem fsA_len {r0 r1 : List Int} {k : Nat} : (fsA r0 r1 k).length = k := by simp [fsA]
theorem fsA_zero {r0 r1 : List Int} : fsA r0 r1 0 = [] := by simp [fsA]
theorem fsA_succ {r0 r1 : List Int} {k : Nat} : (fsA r0 r1 k).map frac ++ [.agg [.v (.int .i64 (if at0 r1 k ≤ at0 r0 k then 1 else 0)), .v (.int .i64 1)]] = (fsA r0 r1 (k + 1)).map frac := by simp [fsA, List.range_succ, frac, fshare]
def firstL (xss : List (Bool × List Int)) : List (Int × Int) := match xss with
  | [r0, r1] => if pointsB xss = true then fsA r0.2 r1.2 r0.2.length else []
  | _ => []
theorem firstL_len {xss : List (Bool × List Int)} : (firstL xss).length ≤ 2 ^ 40 := by
  unfold firstL
  split
  · split
    · rename_i h
      have := rect_len (points_facts h).2
      simp [wid, fsA_len] at this ⊢; omega
    · simp
  · simp
theorem firstL_no {xss : List (Bool × List Int)} (h : pointsB xss = false) : firstL xss = [] := by
  unfold firstL; split <;> simp [h]

noncomputable def mFirst : List AV → Option AV := mk (fun _ => True) (fun (p : (Bool) × (List (Bool × List Int))) => [intss p.1 p.2]) (fun p => .sl (!pointsB p.2) 2 ((firstL p.2).map frac))
theorem mFirst_at (nl : Bool) (xss : List (Bool × List Int)) : mFirst [.sl nl 1 (xss.map row)] = some (.sl (!pointsB xss) 2 ((firstL xss).map frac)) :=
  mk_eq (enc := fun (p : (Bool) × (List (Bool × List Int))) => [intss p.1 p.2]) (x := (nl, xss)) (by rintro ⟨a0, a1⟩ ⟨b0, b1⟩ h; simp [ints, intss, int, bool, row, frac, fracs, map_int_inj, map_row_inj, frac_inj, map_frac_inj] at h; simp [h]) trivial

/-- A nil slice is a nil slice of whatever. -/
theorem callOk_nil {P : Program} {f : FuncId} {args : List AV} {a b : Nat} (h : CallOk P f args (.sl true a [])) : CallOk P f args (.sl true b []) := by
  refine ⟨h.1, fun w F vals hF hv => (h.2 w F vals hF hv).mono fun e w' he => ?_⟩
  obtain ⟨y, S, h1, h2, h3, h4⟩ := he
  refine ⟨y, S, h1, h2, h3, ?_⟩
  obtain ⟨a1, l, c, hy, k1, k2, k3, k4⟩ := Excl.of_own h4
  refine Excl.own (S := S) ⟨a1, l, c, hy, k1, k2, k3, ?_⟩
  rcases k4 with k4 | ⟨_, _, _, _, _, k4, _⟩
  · exact .inl k4
  · simp at k4

set_option maxHeartbeats 2000000 in
theorem implFirst_ok : FnOk Try.prog 22 mFirst := by
  refine mk_ok fun ⟨nl, xss⟩ _ => ?_
  have hG : FnsOk Try.prog [(23, mPoints), (56, mBoolInt), (57, mWhole)] := (.cons implPointsOk_ok (.cons boolInt_ok (.cons whole_ok .nil)))
  cases h1 : pointsB xss with
  | false =>
    simp only [firstL_no h1, List.map_nil, Bool.not_false]
    refine callOk_nil (a := 1) ?_
    refine callOk_awp (ctx_ok eqOk hG) mixed (live := [true, false, true, true, true, false, false, true, false, false, false, true, true, true]) (dt := [(7, ⟨[], [0, 0, 0, 0, 0, 0, 0, 0, 0, 0, 0, 0, 0, 0, 0, 0, 1, 1], []⟩)]) Try.func22 rfl (by kernel_rfl) (by kernel_rfl) fun w0 hlens => ?_
    simp (config := {contextual := true}) [Try.f22, List.range, List.range.loop, ints, intss, int, bool, row, frac, fracs, ← List.map_take, ← List.map_drop, mPoints_at, mBoolInt_at, mWhole_at, h1]
  | true =>
  refine callOk_awp (ctx_ok eqOk hG) mixed (live := [true, false, true, true, true, false, false, true, false, false, false, true, true, true]) (dt := [(7, ⟨[], [0, 0, 0, 0, 0, 0, 0, 0, 0, 0, 0, 0, 0, 0, 0, 0, 1, 1], []⟩)]) Try.func22 rfl (by kernel_rfl) (by kernel_rfl) fun w0 hlens => ?_
  clear hlens
  obtain ⟨h2, hr⟩ := points_facts h1
  obtain ⟨r0, r1, rfl⟩ : ∃ r0 r1, xss = [r0, r1] := by
    match xss, h2 with
    | [a, b], _ => exact ⟨a, b, rfl⟩
  have hl := rect_len hr
  have hr1 := (rect_row hr (i := 1) (by simp)).1
  simp only [wid, List.headD_cons] at hl hr1
  simp only [List.getElem_cons_succ, List.getElem_cons_zero] at hr1
  have hg := mPoints_at nl [r0, r1]
  rw [h1] at hg
  simp only [List.map_cons, List.map_nil, row] at hg
  have hf : firstL [r0, r1] = fsA r0.2 r1.2 r0.2.length := by simp [firstL, h1]
  rw [hf]
  simp only [h1, Bool.not_true]
  simp (config := {contextual := true}) [Try.f22, List.range, List.range.loop, ints, intss, int, bool, row, frac, fracs, ← List.map_take, ← List.map_drop, hg]
  refine awp_range (live := [true, false, true, true, true, false, false, true, false, false, false, true, true, true]) (ctx_ok eqOk hG) mixed [true, false, false, true, false, false, false, false, false, false, false, true, true] (r0.2.length) (fun k => True) (fun k => ⟨[intss nl [r0, r1], .junk, .junk, apA k, .junk, .junk, .junk, .junk, .junk, .junk, .junk, int r0.2.length, int k, .junk, .junk, .junk, .junk, .junk, .junk, .junk, .junk, .junk, .junk, .junk, .junk, .junk, .junk, .junk, .junk, .junk, .junk, .junk, .junk, .junk, .junk], apT 2 ((fsA r0.2 r1.2 k).map frac) k⟩) ?_ (by simp [sub, slotsLe, clean, keep, refsL, refs, once, place, renL, ren, List.replicate, int, bool, intss, row, apA, apT]) ?_ ?_ ?_
  · omega
  · trivial
  · intro k h _ hwk
    have g0 : r0.2[k]? = some (at0 r0.2 k) := at0_get h
    have g1 : r1.2[k]? = some (at0 r1.2 k) := at0_get (by omega)
    have g0' : r0.2[k] = at0 r0.2 k := (at0_eq h).symm
    have g1' : r1.2[k]'(by omega) = at0 r1.2 k := (at0_eq (by omega)).symm
    have hk1 : k < r1.2.length := by omega
    have c3 := fsA_succ (r0 := r0.2) (r1 := r1.2) (k := k)
    have q1 : (k + 1) * 16 ≤ 140737488355328 := by omega
    have q2 : k + 1 ≤ 4611686018427387904 := by omega
    cases k with
    | zero =>
      simp [fsA_zero] at c3 hwk
      simp (config := {contextual := true}) [List.range, List.range.loop, ints, intss, int, bool, row, frac, fracs, ← List.map_take, ← List.map_drop, mBoolInt_at, mWhole_at, h, hwk, hk1, g0', g1', apA, apT, ← c3]
    | succ k =>
      simp at hwk
      simp (config := {contextual := true}) [List.range, List.range.loop, ints, intss, int, bool, row, frac, fracs, ← List.map_take, ← List.map_drop, mBoolInt_at, mWhole_at, h, hwk, hk1, g0', g1', apA, apT, fsA_len, c3, q1, q2]
  · intro _
    obtain ⟨m, hm⟩ : ∃ m, r0.2.length = m + 1 := ⟨r0.2.length - 1, by omega⟩
    simp (config := {contextual := true}) [List.range, List.range.loop, ints, intss, int, bool, row, frac, fracs, ← List.map_take, ← List.map_drop, hm, apA, apT, fsA_len]

noncomputable def mL28 : List AV → Option AV := mk (fun (p : Bool × (Bool × List Int) × (Bool × List Int) × Nat) => p.2.2.2 < p.2.1.2.length ∧ p.2.2.2 < p.2.2.1.2.length) (fun p => [intss p.1 [p.2.1, p.2.2.1], int p.2.2.2]) (fun p => bool (decide (at0 p.2.2.1.2 p.2.2.2 ≤ at0 p.2.1.2 p.2.2.2)))
theorem mL28_at (nl : Bool) (r0 r1 : Bool × List Int) (k : Nat) (h : k < r0.2.length ∧ k < r1.2.length) : mL28 [.sl nl 1 [.sl r0.1 1 (r0.2.map int), .sl r1.1 1 (r1.2.map int)], .v (.int .i64 k)] = some (.v (.bool (decide (at0 r1.2 k ≤ at0 r0.2 k)))) :=
  mk_eq (enc := fun (p : Bool × (Bool × List Int) × (Bool × List Int) × Nat) => [intss p.1 [p.2.1, p.2.2.1], int p.2.2.2]) (x := (nl, r0, r1, k)) (by
    rintro ⟨a, b, c, d⟩ ⟨a', b', c', d'⟩ h
    simp [intss, int, row_inj] at h
    have : d = d' := by omega
    simp [h, this]) h
end Go.Proofs.Ytakladjlnkojjaa.Ax

/-
  Contracts: sums of fractions (both programs). No condition.
-/
namespace Go.Proofs.Ytakladjlnkojjaa.Ax
open Go Go.RowKit
set_option linter.unusedSimpArgs false

/-- A quotient in lowest terms, if it is valid (b: more than 0). -/
def mkF (t b : Int) : (Int × Int) × Bool := if fracOk (t.tdiv (Int.gcd t b), b.tdiv (Int.gcd t b)) = true then ((t.tdiv (Int.gcd t b), b.tdiv (Int.gcd t b)), true) else ((0, 0), false)
def redF (t b : Int) : (Int × Int) × Bool := if b < 0 then mkF (-t) (-b) else mkF t b

theorem tdiv_bd {x y m : Int} (h1 : -m ≤ x) (h2 : x ≤ m) : -m ≤ x.tdiv y ∧ x.tdiv y ≤ m := by
  have : (x.tdiv y).natAbs ≤ x.natAbs := by rw [Int.natAbs_tdiv]; exact Nat.div_le_self _ _
  omega
theorem gcd_bd {x y : Int} (h : y ≠ 0) : 0 < (Int.gcd x y : Int) ∧ (Int.gcd x y : Int) ≤ y.natAbs := by
  have h1 : 0 < Int.gcd x y := Int.gcd_pos_of_ne_zero_right _ h
  have h2 : Int.gcd x y ∣ y.natAbs := Nat.gcd_dvd_right _ _
  have := Nat.le_of_dvd (by omega) h2
  omega


noncomputable def mRed : List AV → Option AV := mk (fun p => -4611686018427387904 ≤ p.1 ∧ p.1 ≤ 4611686018427387904 ∧ -4611686018427387904 ≤ p.2 ∧ p.2 ≤ 4611686018427387904 ∧ p.2 ≠ 0) (fun (p : (Int) × (Int)) => [int p.1, int p.2]) (fun p => .tup [.agg [.v (.int .i64 (redF p.1 p.2).1.1), .v (.int .i64 (redF p.1 p.2).1.2)], .v (.bool (redF p.1 p.2).2)])
theorem mRed_at (t : Int) (b : Int) (hpre : -4611686018427387904 ≤ t ∧ t ≤ 4611686018427387904 ∧ -4611686018427387904 ≤ b ∧ b ≤ 4611686018427387904 ∧ b ≠ 0) : mRed [.v (.int .i64 t), .v (.int .i64 b)] = some (.tup [.agg [.v (.int .i64 (redF t b).1.1), .v (.int .i64 (redF t b).1.2)], .v (.bool (redF t b).2)]) :=
  mk_eq (enc := fun (p : (Int) × (Int)) => [int p.1, int p.2]) (x := (t, b)) (by rintro ⟨a0, a1⟩ ⟨b0, b1⟩ h; simp [ints, intss, int, bool, row, frac, fracs, map_int_inj, map_row_inj, frac_inj, map_frac_inj] at h; simp [h]) hpre

noncomputable def mMk : List AV → Option AV := mk (fun p => -4611686018427387904 ≤ p.1 ∧ p.1 ≤ 4611686018427387904 ∧ 0 < p.2 ∧ p.2 ≤ 4611686018427387904) (fun (p : (Int) × (Int)) => [int p.1, int p.2]) (fun p => .tup [.agg [.v (.int .i64 (mkF p.1 p.2).1.1), .v (.int .i64 (mkF p.1 p.2).1.2)], .v (.bool (mkF p.1 p.2).2)])
theorem mMk_at (t : Int) (b : Int) (hpre : -4611686018427387904 ≤ t ∧ t ≤ 4611686018427387904 ∧ 0 < b ∧ b ≤ 4611686018427387904) : mMk [.v (.int .i64 t), .v (.int .i64 b)] = some (.tup [.agg [.v (.int .i64 (mkF t b).1.1), .v (.int .i64 (mkF t b).1.2)], .v (.bool (mkF t b).2)]) :=
  mk_eq (enc := fun (p : (Int) × (Int)) => [int p.1, int p.2]) (x := (t, b)) (by rintro ⟨a0, a1⟩ ⟨b0, b1⟩ h; simp [ints, intss, int, bool, row, frac, fracs, map_int_inj, map_row_inj, frac_inj, map_frac_inj] at h; simp [h]) hpre

set_option maxHeartbeats 1000000 in
theorem reduced_ok : FnOk Try.prog 58 mRed := by
  refine mk_ok fun ⟨t, b⟩ ⟨h1, h2, h3, h4, h5⟩ => ?_
  simp only at h1 h2 h3 h4 h5
  obtain ⟨g1, g2⟩ := gcd_bd (x := t) h5
  have hg := mGcd_at (-4611686018427387904) t b h1 h2 h3 h4
  have hG : FnsOk Try.prog [(88, (mGcd (-4611686018427387904))), (67, mFracOk)] := (.cons gcd_ok (.cons implFractionOk_ok .nil))
  refine callOk_awp (ctx_ok eqOk hG) mixed (live := [true, true, false, false, true, true, true, true, false, false, false, false, true, false, false, false, false, false, false, false, false, false, false, false, true]) (dt := [(4, ⟨[], [0, 0, 0, 0, 0, 0, 0, 1], []⟩)]) Try.func58 rfl (by kernel_rfl) (by kernel_rfl) fun w0 hlens => ?_
  by_cases hb : b < 0
  · have hr : redF t b = mkF (-t) (-b) := by simp [redF, hb]
    have e1 : t.tdiv (-(Int.gcd t b : Int)) = (-t).tdiv (Int.gcd t b) := by rw [Int.tdiv_neg, Int.neg_tdiv]
    have e2 : b.tdiv (-(Int.gcd t b : Int)) = (-b).tdiv (Int.gcd t b) := by rw [Int.tdiv_neg, Int.neg_tdiv]
    have eg : Int.gcd (-t) (-b) = Int.gcd t b := by simp [Int.gcd]
    rw [hr]; unfold mkF; rw [eg]
    have w0 : IntKind.i64.wrap (-(Int.gcd t b : Int)) = -(Int.gcd t b : Int) := wrapI (by omega) (by omega)
    have w1 : IntKind.i64.wrap ((-t).tdiv (Int.gcd t b)) = (-t).tdiv (Int.gcd t b) := by have := tdiv_bd (x := -t) (y := Int.gcd t b) (m := 4611686018427387904) (by omega) (by omega); exact wrapI (by omega) (by omega)
    have w2 : IntKind.i64.wrap ((-b).tdiv (Int.gcd t b)) = (-b).tdiv (Int.gcd t b) := by have := tdiv_bd (x := -b) (y := Int.gcd t b) (m := 4611686018427387904) (by omega) (by omega); exact wrapI (by omega) (by omega)
    generalize (Int.gcd t b : Int) = g at *
    have hne : ¬ -g = 0 := by omega
    have hne' : ¬ g = 0 := by omega
    generalize (-t).tdiv g = p at *
    generalize (-b).tdiv g = q at *
    cases hf : fracOk (p, q) <;> simp (config := {contextual := true}) [Try.f58, List.range, List.range.loop, ints, intss, int, bool, row, frac, fracs, ← List.map_take, ← List.map_drop, hg, hb, w0, hne, hne', e1, e2, w1, w2, mFracOk_at, hf]
  · have hr : redF t b = mkF t b := by simp [redF, hb]
    rw [hr]; unfold mkF
    have w1 : IntKind.i64.wrap (t.tdiv (Int.gcd t b)) = t.tdiv (Int.gcd t b) := by have := tdiv_bd (x := t) (y := Int.gcd t b) (m := 4611686018427387904) (by omega) (by omega); exact wrapI (by omega) (by omega)
    have w2 : IntKind.i64.wrap (b.tdiv (Int.gcd t b)) = b.tdiv (Int.gcd t b) := by have := tdiv_bd (x := b) (y := Int.gcd t b) (m := 4611686018427387904) (by omega) (by omega); exact wrapI (by omega) (by omega)
    generalize (Int.gcd t b : Int) = g at *
    have hne' : ¬ g = 0 := by omega
    generalize hp1 : t.tdiv g = p at *
    generalize hq1 : b.tdiv g = q at *
    cases hf : fracOk (p, q) <;> simp (config := {contextual := true}) [Try.f58, List.range, List.range.loop, ints, intss, int, bool, row, frac, fracs, ← List.map_take, ← List.map_drop, hg, hb, hne', hp1, hq1, w1, w2, mFracOk_at, hf]

noncomputable def mTwo : List AV → Option AV := mk (fun _ => True) (fun (p : (Int) × (Int) × (Int) × (Int)) => [frac (p.1, p.2.1), frac (p.2.2.1, p.2.2.2)]) (fun p => bool (fracOk (p.1, p.2.1) && fracOk (p.2.2.1, p.2.2.2)))
theorem mTwo_at (a : Int) (b : Int) (c : Int) (d : Int) : mTwo [.agg [.v (.int .i64 a), .v (.int .i64 b)], .agg [.v (.int .i64 c), .v (.int .i64 d)]] = some (.v (.bool (fracOk (a, b) && fracOk (c, d)))) :=
  mk_eq (enc := fun (p : (Int) × (Int) × (Int) × (Int)) => [frac (p.1, p.2.1), frac (p.2.2.1, p.2.2.2)]) (x := (a, b, c, d)) (by rintro ⟨a0, a1, a2, a3⟩ ⟨b0, b1, b2, b3⟩ h; simp [ints, intss, int, bool, row, frac, fracs, map_int_inj, map_row_inj, frac_inj, map_frac_inj] at h; simp [h]) trivial
/-- The sum of two fractions, and whether it is valid. -/
def addF (x y : Int × Int) : (Int × Int) × Bool := if fracOk x && fracOk y then mkF (x.1 * y.2 + y.1 * x.2) (x.2 * y.2) else ((0, 0), false)
noncomputable def mAdd : List AV → Option AV := mk (fun _ => True) (fun (p : (Int) × (Int) × (Int) × (Int)) => [frac (p.1, p.2.1), frac (p.2.2.1, p.2.2.2)]) (fun p => .tup [.agg [.v (.int .i64 (addF (p.1, p.2.1) (p.2.2.1, p.2.2.2)).1.1), .v (.int .i64 (addF (p.1, p.2.1) (p.2.2.1, p.2.2.2)).1.2)], .v (.bool (addF (p.1, p.2.1) (p.2.2.1, p.2.2.2)).2)])
theorem mAdd_at (a : Int) (b : Int) (c : Int) (d : Int) : mAdd [.agg [.v (.int .i64 a), .v (.int .i64 b)], .agg [.v (.int .i64 c), .v (.int .i64 d)]] = some (.tup [.agg [.v (.int .i64 (addF (a, b) (c, d)).1.1), .v (.int .i64 (addF (a, b) (c, d)).1.2)], .v (.bool (addF (a, b) (c, d)).2)]) :=
  mk_eq (enc := fun (p : (Int) × (Int) × (Int) × (Int)) => [frac (p.1, p.2.1), frac (p.2.2.1, p.2.2.2)]) (x := (a, b, c, d)) (by rintro ⟨a0, a1, a2, a3⟩ ⟨b0, b1, b2, b3⟩ h; simp [ints, intss, int, bool, row, frac, fracs, map_int_inj, map_row_inj, frac_inj, map_frac_inj] at h; simp [h]) trivial

theorem fracOk_bd {x : Int × Int} (h : fracOk x = true) : -1000000000 ≤ x.1 ∧ x.1 ≤ 1000000000 ∧ 1 ≤ x.2 ∧ x.2 ≤ 1000000000 := by
  simp only [fracOk, Bool.and_eq_true, decide_eq_true_eq] at h; omega
theorem mul_bd {x y m n : Int} (h1 : -m ≤ x) (h2 : x ≤ m) (h3 : -n ≤ y) (h4 : y ≤ n) : -(m * n) ≤ x * y ∧ x * y ≤ m * n := by
  have hx : (x.natAbs : Int) ≤ m := by omega
  have hy : (y.natAbs : Int) ≤ n := by omega
  have : (x * y).natAbs = x.natAbs * y.natAbs := Int.natAbs_mul _ _
  have h5 : (x.natAbs : Int) * y.natAbs ≤ m * n := Int.mul_le_mul hx hy (by omega) (by omega)
  have h6 : ((x * y).natAbs : Int) = (x.natAbs : Int) * y.natAbs := by rw [this]; simp
  omega
theorem mul_pos1 {x y : Int} (h1 : 1 ≤ x) (h2 : 1 ≤ y) : 0 < x * y := Int.mul_pos (by omega) (by omega)

set_option maxHeartbeats 2000000 in
theorem implAdd_ok : FnOk Try.prog 61 mAdd := by
  refine mk_ok fun ⟨a, b, c, d⟩ _ => ?_
  have hG : FnsOk Try.prog [(67, mFracOk), (58, mRed)] := (.cons implFractionOk_ok (.cons reduced_ok .nil))
  refine callOk_awp (ctx_ok eqOk hG) mixed (live := [true, true, true, true, true, true, false, false, false, false, false, false, false, true]) (dt := []) Try.func61 rfl (by kernel_rfl) (by kernel_rfl) fun w0 hlens => ?_
  cases h1 : fracOk (a, b) with
  | false => simp (config := {contextual := true}) [Try.f61, List.range, List.range.loop, ints, intss, int, bool, row, frac, fracs, ← List.map_take, ← List.map_drop, mFracOk_at, mTwo_at, h1, addF]
  | true =>
  cases h2 : fracOk (c, d) with
  | false => simp (config := {contextual := true}) [Try.f61, List.range, List.range.loop, ints, intss, int, bool, row, frac, fracs, ← List.map_take, ← List.map_drop, mFracOk_at, mTwo_at, h1, h2, addF]
  | true =>
  have b1 := fracOk_bd h1
  have b2 := fracOk_bd h2
  simp only at b1 b2
  have m1 := mul_bd (x := a) (y := d) (m := 1000000000) (n := 1000000000) (by omega) (by omega) (by omega) (by omega)
  have m2 := mul_bd (x := c) (y := b) (m := 1000000000) (n := 1000000000) (by omega) (by omega) (by omega) (by omega)
  have m3 := mul_bd (x := b) (y := d) (m := 1000000000) (n := 1000000000) (by omega) (by omega) (by omega) (by omega)
  have p3 := mul_pos1 (x := b) (y := d) (by omega) (by omega)
  have ha : addF (a, b) (c, d) = mkF (a * d + c * b) (b * d) := by simp [addF, h1, h2]
  rw [ha]
  have w1 : IntKind.i64.wrap (a * d) = a * d := wrapI (by omega) (by omega)
  have w2 : IntKind.i64.wrap (c * b) = c * b := wrapI (by omega) (by omega)
  have w3 : IntKind.i64.wrap (b * d) = b * d := wrapI (by omega) (by omega)
  have w4 : IntKind.i64.wrap (a * d + c * b) = a * d + c * b := wrapI (by omega) (by omega)
  have hz := mMk_at (a * d + c * b) (b * d) ⟨by omega, by omega, by omega, by omega⟩
  have hz2 := mRed_at (a * d + c * b) (b * d) ⟨by omega, by omega, by omega, by omega, by omega⟩
  have hrr : redF (a * d + c * b) (b * d) = mkF (a * d + c * b) (b * d) := by unfold redF; rw [if_neg (by omega)]
  rw [hrr] at hz2
  simp (config := {contextual := true}) [Try.f61, List.range, List.range.loop, ints, intss, int, bool, row, frac, fracs, ← List.map_take, ← List.map_drop, mFracOk_at, mTwo_at, h1, h2, w1, w2, w3, w4, hz, hz2]

theorem addF_ok {x y : Int × Int} (h : (addF x y).2 = false) : addF x y = ((0, 0), false) := by
  unfold addF mkF at h ⊢
  split
  · rename_i h1
    rw [if_pos h1] at h
    split
    · rename_i h2; rw [if_pos h2] at h; simp at h
    · rfl
  · rfl

/-- The sum of the first k fractions, and whether all sums up to there are valid. -/
def sumTo (fs : List (Int × Int)) : Nat → (Int × Int) × Bool
  | 0 => ((0, 1), true)
  | k + 1 => if (sumTo fs k).2 = true then addF (sumTo fs k).1 (fs.getD k (0, 0)) else ((0, 0), false)
def sumF (fs : List (Int × Int)) : (Int × Int) × Bool := if 100 < fs.length then ((0, 0), false) else sumTo fs fs.length
theorem sumTo_false {fs : List (Int × Int)} {k : Nat} (h : (sumTo fs k).2 = false) : ∀ n, k ≤ n → (sumTo fs n) = ((0, 0), false) ∨ (n = k ∧ (sumTo fs n).2 = false)
  | 0, hn => by
    have : k = 0 := by omega
    subst this; exact .inr ⟨rfl, h⟩
  | n + 1, hn => by
    by_cases e : k = n + 1
    · subst e; exact .inr ⟨rfl, h⟩
    · rcases sumTo_false h n (by omega) with h1 | ⟨_, h1⟩
      · left; rw [sumTo, h1]; simp
      · left; rw [sumTo, h1]; simp
theorem sumTo_bad {fs : List (Int × Int)} {k n : Nat} (hk : 0 < k) (h : (sumTo fs k).2 = false) (hn : k ≤ n) : sumTo fs n = ((0, 0), false) := by
  rcases sumTo_false h n hn with h1 | ⟨rfl, _⟩
  · exact h1
  · obtain ⟨m, rfl⟩ : ∃ m, n = m + 1 := ⟨n - 1, by omega⟩
    rw [sumTo] at h ⊢
    split
    · rename_i h1; rw [if_pos h1] at h; exact addF_ok h
    · rfl

noncomputable def mSumF : List AV → Option AV := mk (fun _ => True) (fun (p : (Bool) × (List (Int × Int))) => [fracs p.1 p.2]) (fun p => .tup [.agg [.v (.int .i64 (sumF p.2).1.1), .v (.int .i64 (sumF p.2).1.2)], .v (.bool (sumF p.2).2)])
theorem mSumF_at (nl : Bool) (fs : List (Int × Int)) : mSumF [.sl nl 2 (fs.map frac)] = some (.tup [.agg [.v (.int .i64 (sumF fs).1.1), .v (.int .i64 (sumF fs).1.2)], .v (.bool (sumF fs).2)]) :=
  mk_eq (enc := fun (p : (Bool) × (List (Int × Int))) => [fracs p.1 p.2]) (x := (nl, fs)) (by rintro ⟨a0, a1⟩ ⟨b0, b1⟩ h; simp [ints, intss, int, bool, row, frac, fracs, map_int_inj, map_row_inj, frac_inj, map_frac_inj] at h; simp [h]) trivial

end Go.Proofs.Ytakladjlnkojjaa.Ax
