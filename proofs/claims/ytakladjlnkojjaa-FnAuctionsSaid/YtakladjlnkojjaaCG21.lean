/-
  Contracts: CutAndChoose (both programs). No condition.
-/
import Derived.Test.YtakladjlnkojjaaCG20
import Derived.Test.YtakladjlnkojjaaCB2
namespace Go.Proofs.Ytakladjlnkojjaa.Ax
open Go Go.RowKit
set_option linter.unusedSimpArgs false

def mBoolInt : List AV → Option AV
  | [.v (.bool b)] => some (.v (.int .i64 (if b then 1 else 0)))
  | _ => none
theorem mBoolInt_at {b : Bool} : mBoolInt [.v (.bool b)] = some (.v (.int .i64 (if b then 1 else 0))) := rfl
theorem boolInt_ok : FnOk Try.prog 56 mBoolInt := by
  intro args r h
  unfold mBoolInt at h
  split at h
  · rename_i b
    simp only [Option.some.injEq] at h; subst h
    have hG : FnsOk Try.prog [] := .nil
    refine callOk_awp (ctx_ok eqOk hG) mixed (live := [true, false, true, true]) (dt := []) Try.func56 rfl (by kernel_rfl) (by kernel_rfl) fun w0 hlens => ?_
    cases b <;> simp (config := {contextual := true}) [Try.f56, List.range, List.range.loop, ints, intss, int, bool, row, frac, fracs, ← List.map_take, ← List.map_drop]
  · simp at h

theorem tkd {l : List Int} {c : Nat} : List.take (l.length - c) (List.drop c l) = List.drop c l := List.take_of_length_le (by simp)

/-- The lesser of the two parts at a cut. -/
def lessr (r : List Int) (c : Nat) : Int := min (sumW (r.take c)) (sumW (r.drop c))
/-- The first best cut among the first m. -/
def bestTo (r : List Int) : Nat → Nat
  | 0 => 0
  | m + 1 => if lessr r (bestTo r m) < lessr r m then m else bestTo r m
theorem bestTo_le {r : List Int} : ∀ {m : Nat}, bestTo r (m + 1) ≤ m
  | 0 => by simp [bestTo]
  | m + 1 => by rw [bestTo]; split; exact Nat.le_refl _; exact Nat.le_trans bestTo_le (Nat.le_succ m)
def cutP (r0 r1 : List Int) (i : Nat) : Int :=
  let c := bestTo r0 (r0.length + 1)
  let f : Int := if sumW (r1.drop c) < sumW (r1.take c) then 1 else 0
  if i < c then f else 1 - f
def cutList (r0 r1 : List Int) : List Int := (List.range r0.length).map (cutP r0 r1)
theorem cutList_len {r0 r1 : List Int} : (cutList r0 r1).length = r0.length := by simp [cutList]
def cutL (xss : List (Bool × List Int)) : Bool × List Int := match xss with
  | [r0, r1] => if rectB xss 3 10 100 = true then (false, cutList r0.2 r1.2) else (true, [])
  | _ => (true, [])
theorem cutL_len {xss : List (Bool × List Int)} : (cutL xss).2.length ≤ 2 ^ 40 := by
  unfold cutL
  split
  · split
    · rename_i h
      have := rect_len h
      simp [wid, cutList] at this ⊢; omega
    · simp
  · simp

noncomputable def mCut : List AV → Option AV := mk (fun _ => True) (fun (p : (Bool) × (List (Bool × List Int))) => [intss p.1 p.2]) (fun p => .sl (cutL p.2).1 1 ((cutL p.2).2.map int))
theorem mCut_at (nl : Bool) (xss : List (Bool × List Int)) : mCut [.sl nl 1 (xss.map row)] = some (.sl (cutL xss).1 1 ((cutL xss).2.map int)) :=
  mk_eq (enc := fun (p : (Bool) × (List (Bool × List Int))) => [intss p.1 p.2]) (x := (nl, xss)) (by rintro ⟨a0, a1⟩ ⟨b0, b1⟩ h; simp [ints, intss, int, bool, row, frac, fracs, map_int_inj, map_row_inj, frac_inj, map_frac_inj] at h; simp [h]) trivial

noncomputable def mLess : List AV → Option AV := mk (fun (p : Nat × Bool × List (Bool × List Int)) => ∃ r rs, p.2.2 = r :: rs ∧ p.1 ≤ r.2.length) (fun p => [int p.1, .fp (intss p.2.1 p.2.2) 0]) (fun p => int (lessr (p.2.2.headD (true, [])).2 p.1))
theorem mLess_at (c : Nat) (nl : Bool) (r : Bool × List Int) (rs : List (Bool × List Int)) (h : c ≤ r.2.length) : mLess [.v (.int .i64 c), .fp (.sl nl 1 (row r :: rs.map row)) 0] = some (.v (.int .i64 (lessr r.2 c))) :=
  mk_eq (enc := fun (p : Nat × Bool × List (Bool × List Int)) => [int p.1, .fp (intss p.2.1 p.2.2) 0]) (x := (c, nl, r :: rs)) (by
    rintro ⟨a, b, e⟩ ⟨a', b', e'⟩ h
    simp [int, intss, map_row_inj] at h
    obtain ⟨h1, _, h2⟩ := h
    have : a = a' := by omega
    simp [this, h2]) ⟨r, rs, rfl, h⟩

theorem cut1_ok : FnOk Try.prog 78 mLess := by
  refine mk_ok fun ⟨c, nl, xss⟩ ⟨r, rs, hx, hc⟩ => ?_
  simp only at hx hc
  subst hx
  have hG : FnsOk Try.prog [(63, mSum)] := (.cons sumOf_ok .nil)
  refine callOk_awp (ctx_ok eqOk hG) mixed (live := [true, true, false, true]) (dt := [(1, ⟨[], [], []⟩)]) Try.func78 rfl (by kernel_rfl) (by kernel_rfl) fun w0 hlens => ?_
  simp (config := {contextual := true}) [Try.f78, List.range, List.range.loop, ints, intss, int, bool, row, frac, fracs, ← List.map_take, ← List.map_drop, mSum_at, hc, lessr, tkd]

/-- The list whose first k pieces are given. -/
def cutF (r0 r1 : List Int) (k : Nat) : List AV := filled (fun i => int (cutP r0 r1 i)) (int 0) (List.range r0.length) k
theorem cutF_len {r0 r1 : List Int} {k : Nat} (h : k ≤ r0.length) : (cutF r0 r1 k).length = r0.length := by unfold cutF; rw [filled_len (by simpa using h)]; simp
theorem cutF_zero {r0 r1 : List Int} : cutF r0 r1 0 = List.replicate r0.length (.v (.int .i64 0)) := by simp [cutF, filled_zero, int]
theorem cutF_all {r0 r1 : List Int} : cutF r0 r1 r0.length = (cutList r0 r1).map int := by
  have := filled_all (f := fun i => int (cutP r0 r1 i)) (z := int 0) (xs := List.range r0.length)
  rw [List.length_range] at this
  rw [cutF, this]; simp [cutList]
theorem cutF_at {r0 r1 : List Int} {k : Nat} (h : k < r0.length) (hh : k < (cutF r0 r1 k).length) : (cutF r0 r1 k)[k] = .v (.int .i64 0) := filled_get' (by simpa using h) hh
theorem cutF_set {r0 r1 : List Int} {k : Nat} (h : k < r0.length) : (cutF r0 r1 k).set k (.v (.int .i64 (cutP r0 r1 k))) = cutF r0 r1 (k + 1) := by
  have := filled_set (f := fun i => int (cutP r0 r1 i)) (z := int 0) (xs := List.range r0.length) (k := k) (by simpa using h)
  simpa [cutF, int] using this

theorem cutL_no {xss : List (Bool × List Int)} (h : rectB xss 3 10 100 = false ∨ ¬ xss.length = 2) : cutL xss = (true, []) := by
  match xss, h with
  | [], _ => rfl
  | [a], _ => rfl
  | [a, b], h => simp at h; simp [cutL, h]
  | a :: b :: c :: l, _ => rfl

set_option maxHeartbeats 4000000 in
theorem implCut_ok : FnOk Try.prog 32 mCut := by
  refine mk_ok fun ⟨nl, xss⟩ _ => ?_
  have hG : FnsOk Try.prog [(72, (mGrid 3 10 100)), (63, mSum), (56, mBoolInt), (78, mLess)] := (.cons implCakeOk_ok (.cons sumOf_ok (.cons boolInt_ok (.cons cut1_ok .nil))))
  refine callOk_awp (ctx_ok eqOk hG) mixed (live := [true, true, true, true, true, true, true, true, true, true, false, false, false, false, false, false, false, true, false, false, false, false, false, false, true, true, true, false, false, false, false, false, false, false, true, false, false, false, false, false, false, false, false, false, false, false, false, false, false, false, false, false, false, false, true, true, true, false, false, false, false, false, false, false, true]) (dt := [(13, ⟨[], [], []⟩)]) Try.func32 rfl (by kernel_rfl) (by kernel_rfl) fun w0 hlens => ?_
  clear hlens
  by_cases h2 : xss.length = 2
  rotate_left
  · have hc := cutL_no (xss := xss) (.inr h2)
    have h2' : ((xss.length : Int) != 2) = true := by simp; omega
    cases h1 : rectB xss 3 10 100 with
    | false => simp (config := {contextual := true}) [Try.f32, List.range, List.range.loop, ints, intss, int, bool, row, frac, fracs, ← List.map_take, ← List.map_drop, mGrid_at, mSum_at, mBoolInt_at, h1, hc]
    | true => simp (config := {contextual := true}) [Try.f32, List.range, List.range.loop, ints, intss, int, bool, row, frac, fracs, ← List.map_take, ← List.map_drop, mGrid_at, h1, hc, h2, h2']
  obtain ⟨r0, r1, rfl⟩ : ∃ r0 r1, xss = [r0, r1] := by
    match xss, h2 with
    | [a, b], _ => exact ⟨a, b, rfl⟩
  have hg := mGrid_at (a := 3) (b := 10) (c := 100) nl [r0, r1]
  simp only [List.map_cons, List.map_nil, row] at hg
  cases h1 : rectB [r0, r1] 3 10 100 with
  | false =>
    have hc := cutL_no (xss := [r0, r1]) (.inl h1)
    rw [h1] at hg
    simp (config := {contextual := true}) [Try.f32, List.range, List.range.loop, ints, intss, int, bool, row, frac, fracs, ← List.map_take, ← List.map_drop, hg, hc]
  | true =>
  have hl := rect_len h1
  have hr1 := (rect_row h1 (i := 1) (by simp)).1
  simp only [wid, List.headD_cons] at hl hr1
  simp only [List.getElem_cons_succ, List.getElem_cons_zero] at hr1
  have hc : cutL [r0, r1] = (false, cutList r0.2 r1.2) := by simp [cutL, h1]
  rw [hc]
  have hw : IntKind.i64.wrap ((r0.2.length : Int) + 1) = (r0.2.length : Int) + 1 := wrapI (by omega) (by omega)
  rw [h1] at hg
  simp (config := {contextual := true}) [Try.f32, List.range, List.range.loop, ints, intss, int, bool, row, frac, fracs, ← List.map_take, ← List.map_drop, hg, hw]
  refine awp_range (live := [true, true, true, true, true, true, true, true, true, true, false, false, false, false, false, false, false, true, false, false, false, false, false, false, true, true, true, false, false, false, false, false, false, false, true, false, false, false, false, false, false, false, false, false, false, false, false, false, false, false, false, false, false, false, true, true, true, false, false, false, false, false, false, false, true]) (ctx_ok eqOk hG) mixed [false, true, false, true, true, true, false, false, false, false, false, false, false, false, false, false, false, false, false, false, false, false, false, false, true, true] (r0.2.length + 1) (fun m => True) (fun m => ⟨[.junk, .ptr 0 [] 0 0, .junk, int r0.2.length, .fn 78 [.ptr 0 [] 0 0], int (bestTo r0.2 m), .junk, .junk, .junk, .junk, .junk, .junk, .junk, .junk, .junk, .junk, .junk, .junk, .junk, .junk, .junk, .junk, .junk, .junk, int (r0.2.length + 1), int m, .junk, .junk, .junk, .junk, .junk, .junk, .junk, .junk, .junk, .junk, .junk, .junk, .junk, .junk, .junk, .junk, .junk, .junk, .junk, .junk, .junk, .junk, .junk, .junk, .junk, .junk, .junk, .junk, .junk, .junk, .junk, .junk, .junk, .junk, .junk, .junk, .junk, .junk, .junk, .junk, .junk, .junk, .junk, .junk, .junk, .junk], [⟨false, .sl false 1 [intss nl [r0, r1]]⟩]⟩) ?_ (by simp [sub, slotsLe, clean, keep, refsL, refs, once, place, renL, ren, List.replicate, int, bool, intss, row, bestTo]) ?_ ?_ ?_
  · omega
  · trivial
  · intro m h _ hwm
    have hb : bestTo r0.2 m ≤ r0.2.length := by
      cases m with
      | zero => simp [bestTo]
      | succ m => exact Nat.le_trans bestTo_le (by omega)
    have z1 := mLess_at m nl r0 [r1] (by omega)
    have z2 := mLess_at (bestTo r0.2 m) nl r0 [r1] hb
    simp only [List.map_cons, List.map_nil, row] at z1 z2
    have hlt : (m : Int) < (r0.2.length : Int) + 1 := by omega
    by_cases e : lessr r0.2 (bestTo r0.2 m) < lessr r0.2 m
    · simp (config := {contextual := true}) [List.range, List.range.loop, ints, intss, int, bool, row, frac, fracs, ← List.map_take, ← List.map_drop, hlt, hwm, z1, z2, e, bestTo]
    · simp (config := {contextual := true}) [List.range, List.range.loop, ints, intss, int, bool, row, frac, fracs, ← List.map_take, ← List.map_drop, hlt, hwm, z1, z2, e, bestTo]
  · intro _
    have hb : bestTo r0.2 (r0.2.length + 1) ≤ r0.2.length := bestTo_le
    generalize hcc : bestTo r0.2 (r0.2.length + 1) = cc at hb
    have hm1 : r0.2.length ≤ 281474976710656 := by omega
    have hm2 : r0.2.length ≤ 4611686018427387904 := by omega
    have hm3 : 8 * r0.2.length ≤ 281474976710656 := by omega
    have hb1 : cc ≤ r1.2.length := by omega
    have hF : ∀ i, cutP r0.2 r1.2 i = if i < cc then (if sumW (r1.2.drop cc) < sumW (r1.2.take cc) then 1 else 0) else 1 - (if sumW (r1.2.drop cc) < sumW (r1.2.take cc) then 1 else 0) := fun i => by simp only [cutP, hcc]
    have htk : List.take (r0.2.length - cc) (List.drop cc r1.2) = List.drop cc r1.2 := by rw [← hr1]; exact tkd
    simp (config := {contextual := true}) [List.range, List.range.loop, ints, intss, int, bool, row, frac, fracs, ← List.map_take, ← List.map_drop, mBoolInt_at, mSum_at, hb, hb1, hm1, hm2, hm3, hr1, htk]
    have hsub : decide (sumW (r1.2.drop cc) < sumW (r1.2.take cc)) = true ∨ decide (sumW (r1.2.drop cc) < sumW (r1.2.take cc)) = false := by cases decide (sumW (r1.2.drop cc) < sumW (r1.2.take cc)) <;> simp
    generalize hFe : (if sumW (r1.2.drop cc) < sumW (r1.2.take cc) then (1 : Int) else 0) = F at hF ⊢
    have hF01 : F = 0 ∨ F = 1 := by rw [← hFe]; split <;> simp
    have hwF : IntKind.i64.wrap (1 - F) = 1 - F := wrapI (by omega) (by omega)
    refine awp_range (live := [true, true, true, true, true, true, true, true, true, true, false, false, false, false, false, false, false, true, false, false, false, false, false, false, true, true, true, false, false, false, false, false, false, false, true, false, false, false, false, false, false, false, false, false, false, false, false, false, false, false, false, false, false, false, true, true, true, false, false, false, false, false, false, false, true]) (ctx_ok eqOk hG) mixed [false, false, false, false, false, true, false, true, true, false, false, false, false, false, false, false, false, false, false, false, false, false, false, false, false, false, false, false, false, false, false, false, false, false, false, false, false, false, false, false, false, false, false, false, false, false, false, false, false, false, false, false, false, false, true, true] (r0.2.length) (fun k => True) (fun k => ⟨[.junk, .junk, .junk, .junk, .junk, int cc, .junk, .ref 0 [] 0 r0.2.length, int F, .junk, .junk, .junk, .junk, .junk, .junk, .junk, .junk, .junk, .junk, .junk, .junk, .junk, .junk, .junk, .junk, .junk, .junk, .junk, .junk, .junk, .junk, .junk, .junk, .junk, .junk, .junk, .junk, .junk, .junk, .junk, .junk, .junk, .junk, .junk, .junk, .junk, .junk, .junk, .junk, .junk, .junk, .junk, .junk, .junk, int r0.2.length, int k, .junk, .junk, .junk, .junk, .junk, .junk, .junk, .junk, .junk, .junk, .junk, .junk, .junk, .junk, .junk, .junk], [⟨true, .sl false 1 (cutF r0.2 r1.2 k)⟩]⟩) ?_ (by simp [sub, slotsLe, clean, keep, refsL, refs, once, place, renL, ren, List.replicate, int, bool, cutF_zero]) ?_ ?_ ?_
    · omega
    · trivial
    · intro k h _ hwk
      have c1 := cutF_len (r0 := r0.2) (r1 := r1.2) (k := k) (by omega)
      have c2 := cutF_at (r0 := r0.2) (r1 := r1.2) h
      have c3 := cutF_set (r0 := r0.2) (r1 := r1.2) h
      by_cases hkc : k < cc
      · rw [hF, if_pos hkc] at c3
        have hkc' : ¬ cc ≤ k := by omega
        simp (config := {contextual := true}) [List.range, List.range.loop, ints, intss, int, bool, row, frac, fracs, ← List.map_take, ← List.map_drop, h, hwk, c1, c2, c3, hkc, hkc']
      · rw [hF, if_neg hkc] at c3
        have hkc' : cc ≤ k := by omega
        simp (config := {contextual := true}) [List.range, List.range.loop, ints, intss, int, bool, row, frac, fracs, ← List.map_take, ← List.map_drop, h, hwk, c1, c2, c3, hkc', hwF]
    · intro _
      simp (config := {contextual := true}) [List.range, List.range.loop, ints, intss, int, bool, row, frac, fracs, ← List.map_take, ← List.map_drop, cutF_all, cutList_len]

/-- The first k pieces, given. -/
def cutA (r0 r1 : List Int) (k : Nat) : List Int := (List.range k).map (cutP r0 r1)
theorem cutA_len {r0 r1 : List Int} {k : Nat} : (cutA r0 r1 k).length = k := by simp [cutA]
theorem cutA_zero {r0 r1 : List Int} : cutA r0 r1 0 = [] := by simp [cutA]
theorem cutA_succ {r0 r1 : List Int} {k : Nat} : (cutA r0 r1 k).map int ++ [.v (.int .i64 (cutP r0 r1 k))] = (cutA r0 r1 (k + 1)).map int := by simp [cutA, List.range_succ, int]
theorem cutA_all {r0 r1 : List Int} : cutA r0 r1 r0.length = cutList r0 r1 := rfl

end Go.Proofs.Ytakladjlnkojjaa.Ax
