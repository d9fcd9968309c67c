/-
  Contracts: SharesOk (both programs). No condition.
-/
import Derived.Test.YtakladjlnkojjaaCB2
import Derived.Test.YtakladjlnkojjaaCG2
namespace Go.Proofs.Ytakladjlnkojjaa.Ax
open Go Go.RowKit
set_option linter.unusedSimpArgs false

theorem points_facts {xss : List (Bool × List Int)} (h : pointsB xss = true) : xss.length = 2 ∧ rectB xss 2 6 100 = true := by
  by_cases hl : xss.length = 2
  · refine ⟨hl, ?_⟩
    rw [pointsB_rect hl] at h
    simp only [Bool.and_eq_true] at h
    exact h.1
  · rw [pointsB_ne hl] at h; simp at h

/-- A valid fraction from 0 to 1. -/
def partB (f : Int × Int) : Bool := fracOk f && inR 0 f.2 f.1
noncomputable def mPart : List AV → Option AV := mk (fun _ => True) (fun (p : (Int) × (Int)) => [frac (p.1, p.2)]) (fun p => bool (partB (p.1, p.2)))
theorem mPart_at (t : Int) (b : Int) : mPart [.agg [.v (.int .i64 t), .v (.int .i64 b)]] = some (.v (.bool (partB (t, b)))) :=
  mk_eq (enc := fun (p : (Int) × (Int)) => [frac (p.1, p.2)]) (x := (t, b)) (by rintro ⟨a0, a1⟩ ⟨b0, b1⟩ h; simp [ints, intss, int, bool, row, frac, fracs, map_int_inj, map_row_inj, frac_inj, map_frac_inj] at h; simp [h]) trivial

set_option maxHeartbeats 1000000 in
theorem isPart_ok : FnOk Try.prog 66 mPart := by
  refine mk_ok fun ⟨t, b⟩ _ => ?_
  have hG : FnsOk Try.prog [(67, mFracOk), (51, mWithin)] := (.cons implFractionOk_ok (.cons within_ok .nil))
  refine callOk_awp (ctx_ok eqOk hG) mixed (live := [true, true, true]) (dt := []) Try.func66 rfl (by kernel_rfl) (by kernel_rfl) fun w0 hlens => ?_
  simp (config := {contextual := true}) [Try.f66, List.range, List.range.loop, ints, intss, int, bool, row, frac, fracs, ← List.map_take, ← List.map_drop, mFracOk_at, mWithin_in, partB]

theorem sharesOk1 (f : Int × Int) : CallOk Try.prog 65 [frac f] (.v (.bool (!partB f))) := by
  obtain ⟨t, b⟩ := f
  have hG : FnsOk Try.prog [(66, mPart)] := (.cons isPart_ok .nil)
  refine callOk_awp (ctx_ok eqOk hG) mixed (live := [true, true, true]) (dt := []) Try.func65 rfl (by kernel_rfl) (by kernel_rfl) fun w0 hlens => ?_
  simp (config := {contextual := true}) [Try.f65, List.range, List.range.loop, ints, intss, int, bool, row, frac, fracs, ← List.map_take, ← List.map_drop, mPart_at]

def sharesB (xss : List (Bool × List Int)) (fs : List (Int × Int)) : Bool := pointsB xss && decide (fs.length = wid xss) && fs.all partB

noncomputable def mShares : List AV → Option AV := mk (fun _ => True) (fun (p : (Bool) × (List (Bool × List Int)) × (Bool) × (List (Int × Int))) => [intss p.1 p.2.1, fracs p.2.2.1 p.2.2.2]) (fun p => bool (sharesB p.2.1 p.2.2.2))
theorem mShares_at (nl : Bool) (xss : List (Bool × List Int)) (nl' : Bool) (fs : List (Int × Int)) : mShares [.sl nl 1 (xss.map row), .sl nl' 2 (fs.map frac)] = some (.v (.bool (sharesB xss fs))) :=
  mk_eq (enc := fun (p : (Bool) × (List (Bool × List Int)) × (Bool) × (List (Int × Int))) => [intss p.1 p.2.1, fracs p.2.2.1 p.2.2.2]) (x := (nl, xss, nl', fs)) (by rintro ⟨a0, a1, a2, a3⟩ ⟨b0, b1, b2, b3⟩ h; simp [ints, intss, int, bool, row, frac, fracs, map_int_inj, map_row_inj, frac_inj, map_frac_inj] at h; simp [h]) trivial

set_option maxHeartbeats 1000000 in
theorem implSharesOk_ok : FnOk Try.prog 24 mShares := by
  refine mk_ok fun ⟨nl, xss, nl', fs⟩ _ => ?_
  obtain ⟨m, hm, hma⟩ := as_model (containsFracs pure_nil (g := 65) (fun f => !partB f) nl' fs (fun x _ => sharesOk1 x))
  simp only [fracs, bool] at hma
  have hnn := not_any_not (p := partB) (xs := fs)
  generalize fs.any (fun f => !partB f) = bb at hma hnn
  have hG : FnsOk Try.prog [(23, mPoints), (64, m)] := (.cons implPointsOk_ok (.cons hm .nil))
  refine callOk_awp (ctx_ok eqOk hG) mixed (live := [true, true, false, false, true, false, false, false, false, false, false, false, false, false, false, false, true]) (dt := []) Try.func24 rfl (by kernel_rfl) (by kernel_rfl) fun w0 hlens => ?_
  clear hlens
  cases h1 : pointsB xss with
  | false => simp (config := {contextual := true}) [Try.f24, List.range, List.range.loop, ints, intss, int, bool, row, frac, fracs, ← List.map_take, ← List.map_drop, mPoints_at, h1, sharesB]
  | true =>
  obtain ⟨h2, hr⟩ := points_facts h1
  have h0 := rect_pos hr
  have hw := wid_eq h0
  by_cases h3 : fs.length = wid xss
  · have hs : sharesB xss fs = !bb := by simp only [sharesB, h1, h3, hnn]; simp
    simp (config := {contextual := true}) [Try.f24, List.range, List.range.loop, ints, intss, int, bool, row, frac, fracs, ← List.map_take, ← List.map_drop, mPoints_at, h1, h0, hw, h3, hma, hs]
  · have h3' : ((fs.length : Int) != (wid xss : Int)) = true := by simp; omega
    simp (config := {contextual := true}) [Try.f24, List.range, List.range.loop, ints, intss, int, bool, row, frac, fracs, ← List.map_take, ← List.map_drop, mPoints_at, h1, h0, hw, h3, h3', sharesB]

theorem all_allF {fs : List (Int × Int)} {p : Int × Int → Bool} : fs.all p = allR fs.length fun i => p (fs.getD i (0, 0)) := by
  unfold allR
  rw [Bool.eq_iff_iff]; simp only [List.all_eq_true, List.mem_range]
  constructor
  · intro h i hi
    have : fs.getD i (0, 0) = fs[i] := by simp [List.getD_eq_getElem?_getD, hi]
    rw [this]; exact h _ (List.getElem_mem _)
  · intro h x hx
    obtain ⟨i, hi, rfl⟩ := List.getElem_of_mem hx
    have := h i hi
    have e : fs.getD i (0, 0) = fs[i] := by simp [List.getD_eq_getElem?_getD, hi]
    rwa [e] at this

end Go.Proofs.Ytakladjlnkojjaa.Ax

/-
  Contracts: CutAndChoose (both programs). No condition.
-/
namespace Go.Proofs.Ytakladjlnkojjaa.Ax
open Go Go.RowKit
set_option linter.unusedSimpArgs false

def mBoolInt : List AV → Option AV
  | [.v (.bool b)] => some (.v (.int .i64 (if b then 1 else 0)))
  | _ => none
theorem mBoolInt_at {b : Bool} : mBoolInt [.v (.bool b)] = some (.v (.int .i64 (if b then 1 else 0))) := rfl
theorem boolInt_ok : FnOk Try.prog 56 mBoolInt := by
  intro args r h
  unfold mBoolInt at h
  split at h
  · rename_i b
    simp only [Option.some.injEq] at h; subst h
    have hG : FnsOk Try.prog [] := .nil
    refine callOk_awp (ctx_ok eqOk hG) mixed (live := [true, false, true, true]) (dt := []) Try.func56 rfl (by kernel_rfl) (by kernel_rfl) fun w0 hlens => ?_
    cases b <;> simp (config := {contextual := true}) [Try.f56, List.range, List.range.loop, ints, intss, int, bool, row, frac, fracs, ← List.map_take, ← List.map_drop]
  · simp at h

theorem tkd {l : List Int} {c : Nat} : List.take (l.length - c) (List.drop c l) = List.drop c l := List.take_of_length_le (by simp)

/-- The lesser of the two parts at a cut. -/
def lessr (r : List Int) (c : Nat) : Int := min (sumW (r.take c)) (sumW (r.drop c))
/-- The first best cut among the first m. -/
def bestTo (r : List Int) : Nat → Nat
  | 0 => 0
  | m + 1 => if lessr r (bestTo r m) < lessr r m then m else bestTo r m
theorem bestTo_le {r : List Int} : ∀ {m : Nat}, bestTo r (m + 1) ≤ m
  | 0 => by simp [bestTo]
  | m + 1 => by rw [bestTo]; split; exact Nat.le_refl _; exact Nat.le_trans bestTo_le (Nat.le_succ m)
def cutP (r0 r1 : List Int) (i : Nat) : Int :=
  let c := bestTo r0 (r0.length + 1)
  let f : Int := if sumW (r1.drop c) < sumW (r1.take c) then 1 else 0
  if i < c then f else 1 - f
def cutList (r0 r1 : List Int) : List Int := (List.range r0.length).map (cutP r0 r1)
theorem cutList_len {r0 r1 : List Int} : (cutList r0 r1).length = r0.length := by simp [cutList]
def cutL (xss : List (Bool × List Int)) : Bool × List Int := match xss with
  | [r0, r1] => if rectB xss 3 10 100 = true then (false, cutList r0.2 r1.2) else (true, [])
  | _ => (true, [])
theorem cutL_len {xss : List (Bool × List Int)} : (cutL xss).2.length ≤ 2 ^ 40 := by
  unfold cutL
  split
  · split
    · rename_i h
      have := rect_len h
      simp [wid, cutList] at this ⊢; omega
    · simp
  · simp

noncomputable def mCut : List AV → Option AV := mk (fun _ => True) (fun (p : (Bool) × (List (Bool × List Int))) => [intss p.1 p.2]) (fun p => .sl (cutL p.2).1 1 ((cutL p.2).2.map int))
theorem mCut_at (nl : Bool) (xss : List (Bool × List Int)) : mCut [.sl nl 1 (xss.map row)] = some (.sl (cutL xss).1 1 ((cutL xss).2.map int)) :=
  mk_eq (enc := fun (p : (Bool) × (List (Bool × List Int))) => [intss p.1 p.2]) (x := (nl, xss)) (by rintro ⟨a0, a1⟩ ⟨b0, b1⟩ h; simp [ints, intss, int, bool, row, frac, fracs, map_int_inj, map_row_inj, frac_inj, map_frac_inj] at h; simp [h]) trivial

noncomputable def mLess : List AV → Option AV := mk (fun (p : Nat × Bool × List (Bool × List Int)) => ∃ r rs, p.2.2 = r :: rs ∧ p.1 ≤ r.2.length) (fun p => [int p.1, .fp (intss p.2.1 p.2.2) 0]) (fun p => int (lessr (p.2.2.headD (true, [])).2 p.1))
theorem mLess_at (c : Nat) (nl : Bool) (r : Bool × List Int) (rs : List (Bool × List Int)) (h : c ≤ r.2.length) : mLess [.v (.int .i64 c), .fp (.sl nl 1 (row r :: rs.map row)) 0] = some (.v (.int .i64 (lessr r.2 c))) :=
  mk_eq (enc := fun (p : Nat × Bool × List (Bool × List Int)) => [int p.1, .fp (intss p.2.1 p.2.2) 0]) (x := (c, nl, r :: rs)) (by
    rintro ⟨a, b, e⟩ ⟨a', b', e'⟩ h
    simp [int, intss, map_row_inj] at h
    obtain ⟨h1, _, h2⟩ := h
    have : a = a' := by omega
    simp [this, h2]) ⟨r, rs, rfl, h⟩

theorem cut1_ok : FnOk Try.prog 78 mLess := by
  refine mk_ok fun ⟨c, nl, xss⟩ ⟨r, rs, hx, hc⟩ => ?_
  simp only at hx hc
  subst hx
  have hG : FnsOk Try.prog [(63, mSum)] := (.cons sumOf_ok .nil)
  refine callOk_awp (ctx_ok eqOk hG) mixed (live := [true, true, false, true]) (dt := [(1, ⟨[], [], []⟩)]) Try.func78 rfl (by kernel_rfl) (by kernel_rfl) fun w0 hlens => ?_
  simp (config := {contextual := true}) [Try.f78, List.range, List.range.loop, ints, intss, int, bool, row, frac, fracs, ← List.map_take, ← List.map_drop, mSum_at, hc, lessr, tkd]

/-- The list whose first k pieces are given. -/
def cutF (r0 r1 : List Int) (k : Nat) : List AV := filled (fun i => int (cutP r0 r1 i)) (int 0) (List.range r0.length) k
theorem cutF_len {r0 r1 : List Int} {k : Nat} (h : k ≤ r0.length) : (cutF r0 r1 k).length = r0.length := by unfold cutF; rw [filled_len (by simpa using h)]; simp
theorem cutF_zero {r0 r1 : List Int} : cutF r0 r1 0 = List.replicate r0.length (.v (.int .i64 0)) := by simp [cutF, filled_zero, int]
theorem cutF_all {r0 r1 : List Int} : cutF r0 r1 r0.length = (cutList r0 r1).map int := by
  have := filled_all (f := fun i => int (cutP r0 r1 i)) (z := int 0) (xs := List.range r0.length)
  rw [List.length_range] at this
  rw [cutF, this]; simp [cutList]
theorem cutF_at {r0 r1 : List Int} {k : Nat} (h : k < r0.length) (hh : k < (cutF r0 r1 k).length) : (cutF r0 r1 k)[k] = .v (.int .i64 0) := filled_get' (by simpa using h) hh
theorem cutF_set {r0 r1 : List Int} {k : Nat} (h : k < r0.length) : (cutF r0 r1 k).set k (.v (.int .i64 (cutP r0 r1 k))) = cutF r0 r1 (k + 1) := by
  have := filled_set (f := fun i => int (cutP r0 r1 i)) (z := int 0) (xs := List.range r0.length) (k := k) (by simpa using h)
  simpa [cutF, int] using this

theorem cutL_no {xss : List (Bool × List Int)} (h : rectB xss 3 10 100 = false ∨ ¬ xss.length = 2) : cutL xss = (true, []) := by
  match xss, h with
  | [], _ => rfl
  | [a], _ => rfl
  | [a, b], h => simp at h; simp [cutL, h]
  | a :: b :: c :: l, _ => rfl

set_option maxHeartbeats 4000000 in
theorem implCut_ok : FnOk Try.prog 32 mCut := by
  refine mk_ok fun ⟨nl, xss⟩ _ => ?_
  have hG : FnsOk Try.prog [(72, (mGrid 3 10 100)), (63, mSum), (56, mBoolInt), (78, mLess)] := (.cons implCakeOk_ok (.cons sumOf_ok (.cons boolInt_ok (.cons cut1_ok .nil))))
  refine callOk_awp (ctx_ok eqOk hG) mixed (live := [true, true, true, true, true, true, true, true, true, true, false, false, false, false, false, false, false, true, false, false, false, false, false, false, true, true, true, false, false, false, false, false, false, false, true, false, false, false, false, false, false, false, false, false, false, false, false, false, false, false, false, false, false, false, true, true, true, false, false, false, false, false, false, false, true]) (dt := [(13, ⟨[], [], []⟩)]) Try.func32 rfl (by kernel_rfl) (by kernel_rfl) fun w0 hlens => ?_
  clear hlens
  by_cases h2 : xss.length = 2
  rotate_left
  · have hc := cutL_no (xss := xss) (.inr h2)
    have h2' : ((xss.length : Int) != 2) = true := by simp; omega
    cases h1 : rectB xss 3 10 100 with
    | false => simp (config := {contextual := true}) [Try.f32, List.range, List.range.loop, ints, intss, int, bool, row, frac, fracs, ← List.map_take, ← List.map_drop, mGrid_at, mSum_at, mBoolInt_at, h1, hc]
    | true => simp (config := {contextual := true}) [Try.f32, List.range, List.range.loop, ints, intss, int, bool, row, frac, fracs, ← List.map_take, ← List.map_drop, mGrid_at, h1, hc, h2, h2']
  obtain ⟨r0, r1, rfl⟩ : ∃ r0 r1, xss = [r0, r1] := by
    match xss, h2 with
    | [a, b], _ => exact ⟨a, b, rfl⟩
  have hg := mGrid_at (a := 3) (b := 10) (c := 100) nl [r0, r1]
  simp only [List.map_cons, List.map_nil, row] at hg
  cases h1 : rectB [r0, r1] 3 10 100 with
  | false =>
    have hc := cutL_no (xss := [r0, r1]) (.inl h1)
    rw [h1] at hg
    simp (config := {contextual := true}) [Try.f32, List.range, List.range.loop, ints, intss, int, bool, row, frac, fracs, ← List.map_take, ← List.map_drop, hg, hc]
  | true =>
  have hl := rect_len h1
  have hr1 := (rect_row h1 (i := 1) (by simp)).1
  simp only [wid, List.headD_cons] at hl hr1
  simp only [List.getElem_cons_succ, List.getElem_cons_zero] at hr1
  have hc : cutL [r0, r1] = (false, cutList r0.2 r1.2) := by simp [cutL, h1]
  rw [hc]
  have hw : IntKind.i64.wrap ((r0.2.length : Int) + 1) = (r0.2.length : Int) + 1 := wrapI (by omega) (by omega)
  rw [h1] at hg
  simp (config := {contextual := true}) [Try.f32, List.range, List.range.loop, ints, intss, int, bool, row, frac, fracs, ← List.map_take, ← List.map_drop, hg, hw]
  refine awp_range (live := [true, true, true, true, true, true, true, true, true, true, false, false, false, false, false, false, false, true, false, false, false, false, false, false, true, true, true, false, false, false, false, false, false, false, true, false, false, false, false, false, false, false, false, false, false, false, false, false, false, false, false, false, false, false, true, true, true, false, false, false, false, false, false, false, true]) (ctx_ok eqOk hG) mixed [false, true, false, true, true, true, false, false, false, false, false, false, false, false, false, false, false, false, false, false, false, false, false, false, true, true] (r0.2.length + 1) (fun m => True) (fun m => ⟨[.junk, .ptr 0 [] 0 0, .junk, int r0.2.length, .fn 78 [.ptr 0 [] 0 0], int (bestTo r0.2 m), .junk, .junk, .junk, .junk, .junk, .junk, .junk, .junk, .junk, .junk, .junk, .junk, .junk, .junk, .junk, .junk, .junk, .junk, int (r0.2.length + 1), int m, .junk, .junk, .junk, .junk, .junk, .junk, .junk, .junk, .junk, .junk, .junk, .junk, .junk, .junk, .junk, .junk, .junk, .junk, .junk, .junk, .junk, .junk, .junk, .junk, .junk, .junk, .junk, .junk, .junk, .junk, .junk, .junk, .junk, .junk, .junk, .junk, .junk, .junk, .junk, .junk, .junk, .junk, .junk, .junk, .junk, .junk], [⟨false, .sl false 1 [intss nl [r0, r1]]⟩]⟩) ?_ (by simp [sub, slotsLe, clean, keep, refsL, refs, once, place, renL, ren, List.replicate, int, bool, intss, row, bestTo]) ?_ ?_ ?_
  · omega
  · trivial
  · intro m h _ hwm
    have hb : bestTo r0.2 m ≤ r0.2.length := by
      cases m with
      | zero => simp [bestTo]
      | succ m => exact Nat.le_trans bestTo_le (by omega)
    have z1 := mLess_at m nl r0 [r1] (by omega)
    have z2 := mLess_at (bestTo r0.2 m) nl r0 [r1] hb
    simp only [List.map_cons, List.map_nil, row] at z1 z2
    have hlt : (m : Int) < (r0.2.length : Int) + 1 := by omega
    by_cases e : lessr r0.2 (bestTo r0.2 m) < lessr r0.2 m
    · simp (config := {contextual := true}) [List.range, List.range.loop, ints, intss, int, bool, row, frac, fracs, ← List.map_take, ← List.map_drop, hlt, hwm, z1, z2, e, bestTo]
    · simp (config := {contextual := true}) [List.range, List.range.loop, ints, intss, int, bool, row, frac, fracs, ← List.map_take, ← List.map_drop, hlt, hwm, z1, z2, e, bestTo]
  · intro _
    have hb : bestTo r0.2 (r0.2.length + 1) ≤ r0.2.length := bestTo_le
    generalize hcc : bestTo r0.2 (r0.2.length + 1) = cc at hb
    have hm1 : r0.2.length ≤ 281474976710656 := by omega
    have hm2 : r0.2.length ≤ 4611686018427387904 := by omega
    have hm3 : 8 * r0.2.length ≤ 281474976710656 := by omega
    have hb1 : cc ≤ r1.2.length := by omega
    have hF : ∀ i, cutP r0.2 r1.2 i = if i < cc then (if sumW (r1.2.drop cc) < sumW (r1.2.take cc) then 1 else 0) else 1 - (if sumW (r1.2.drop cc) < sumW (r1.2.take cc) then 1 else 0) := fun i => by simp only [cutP, hcc]
    have htk : List.take (r0.2.length - cc) (List.drop cc r1.2) = List.drop cc r1.2 := by rw [← hr1]; exact tkd
    simp (config := {contextual := true}) [List.range, List.range.loop, ints, intss, int, bool, row, frac, fracs, ← List.map_take, ← List.map_drop, mBoolInt_at, mSum_at, hb, hb1, hm1, hm2, hm3, hr1, htk]
    have hsub : decide (sumW (r1.2.drop cc) < sumW (r1.2.take cc)) = true ∨ decide (sumW (r1.2.drop cc) < sumW (r1.2.take cc)) = false := by cases decide (sumW (r1.2.drop cc) < sumW (r1.2.take cc)) <;> simp
    generalize hFe : (if sumW (r1.2.drop cc) < sumW (r1.2.take cc) then (1 : Int) else 0) = F at hF ⊢
    have hF01 : F = 0 ∨ F = 1 := by rw [← hFe]; split <;> simp
    have hwF : IntKind.i64.wrap (1 - F) = 1 - F := wrapI (by omega) (by omega)
    refine awp_range (live := [true, true, true, true, true, true, true, true, true, true, false, false, false, false, false, false, false, true, false, false, false, false, false, false, true, true, true, false, false, false, false, false, false, false, true, false, false, false, false, false, false, false, false, false, false, false, false, false, false, false, false, false, false, false, true, true, true, false, false, false, false, false, false, false, true]) (ctx_ok eqOk hG) mixed [false, false, false, false, false, true, false, true, true, false, false, false, false, false, false, false, false, false, false, false, false, false, false, false, false, false, false, false, false, false, false, false, false, false, false, false, false, false, false, false, false, false, false, false, false, false, false, false, false, false, false, false, false, false, true, true] (r0.2.length) (fun k => True) (fun k => ⟨[.junk, .junk, .junk, .junk, .junk, int cc, .junk, .ref 0 [] 0 r0.2.length, int F, .junk, .junk, .junk, .junk, .junk, .junk, .junk, .junk, .junk, .junk, .junk, .junk, .junk, .junk, .junk, .junk, .junk, .junk, .junk, .junk, .junk, .junk, .junk, .junk, .junk, .junk, .junk, .junk, .junk, .junk, .junk, .junk, .junk, .junk, .junk, .junk, .junk, .junk, .junk, .junk, .junk, .junk, .junk, .junk, .junk, int r0.2.length, int k, .junk, .junk, .junk, .junk, .junk, .junk, .junk, .junk, .junk, .junk, .junk, .junk, .junk, .junk, .junk, .junk], [⟨true, .sl false 1 (cutF r0.2 r1.2 k)⟩]⟩) ?_ (by simp [sub, slotsLe, clean, keep, refsL, refs, once, place, renL, ren, List.replicate, int, bool, cutF_zero]) ?_ ?_ ?_
    · omega
    · trivial
    · intro k h _ hwk
      have c1 := cutF_len (r0 := r0.2) (r1 := r1.2) (k := k) (by omega)
      have c2 := cutF_at (r0 := r0.2) (r1 := r1.2) h
      have c3 := cutF_set (r0 := r0.2) (r1 := r1.2) h
      by_cases hkc : k < cc
      · rw [hF, if_pos hkc] at c3
        have hkc' : ¬ cc ≤ k := by omega
        simp (config := {contextual := true}) [List.range, List.range.loop, ints, intss, int, bool, row, frac, fracs, ← List.map_take, ← List.map_drop, h, hwk, c1, c2, c3, hkc, hkc']
      · rw [hF, if_neg hkc] at c3
        have hkc' : cc ≤ k := by omega
        simp (config := {contextual := true}) [List.range, List.range.loop, ints, intss, int, bool, row, frac, fracs, ← List.map_take, ← List.map_drop, h, hwk, c1, c2, c3, hkc', hwF]
    · intro _
      simp (config := {contextual := true}) [List.range, List.range.loop, ints, intss, int, bool, row, frac, fracs, ← List.map_take, ← List.map_drop, cutF_all, cutList_len]

/-- The first k pieces, given. -/
def cutA (r0 r1 : List Int) (k : Nat) : List Int := (List.range k).map (cutP r0 r1)
theorem cutA_len {r0 r1 : List Int} {k : Nat} : (cutA r0 r1 k).length = k := by simp [cutA]
theorem cutA_zero {r0 r1 : List Int} : cutA r0 r1 0 = [] := by simp [cutA]
theorem cutA_succ {r0 r1 : List Int} {k : Nat} : (cutA r0 r1 k).map int ++ [.v (.int .i64 (cutP r0 r1 k))] = (cutA r0 r1 (k + 1)).map int := by simp [cutA, List.range_succ, int]
theorem cutA_all {r0 r1 : List Int} : cutA r0 r1 r0.length = cutList r0 r1 := rfl

end Go.Proofs.Ytakladjlnkojjaa.Ax

/-
  Contracts: marks on lists of fractions, FirstShares (both programs). No condition.
-/
namespace Go.Proofs.Ytakladjlnkojjaa.Ax
open Go Go.RowKit
set_option linter.unusedSimpArgs false

/-- The marks from k on, for so many fractions. -/
def mkdF (k : Int) (n : Nat) : List (Int × Int) := (List.range n).map fun (i : Nat) => (k + 2 * (i : Int), k + 2 * (i : Int) + 1)
theorem mkdF_len {k : Int} {n : Nat} : (mkdF k n).length = n := by simp [mkdF]
theorem mkdF_take {k : Int} {n : Nat} : (mkdF k n).take n = mkdF k n := List.take_of_length_le (by simp [mkdF_len])
theorem mkdF_at {k : Int} {n i : Nat} (h : i < (mkdF k n).length) : (mkdF k n)[i] = (k + 2 * (i : Int), k + 2 * (i : Int) + 1) := by simp [mkdF]
def mkFTo (k : Int) (xs : List (Int × Int)) (i : Nat) : List (Int × Int) := mkdF k i ++ xs.drop i
theorem mkFTo_len {k : Int} {xs : List (Int × Int)} {i : Nat} (h : i ≤ xs.length) : (mkFTo k xs i).length = xs.length := by simp [mkFTo, mkdF_len]; omega
theorem mkFTo_zero {k : Int} {xs : List (Int × Int)} : mkFTo k xs 0 = xs := by simp [mkFTo, mkdF]
theorem mkFTo_all {k : Int} {xs : List (Int × Int)} : mkFTo k xs xs.length = mkdF k xs.length := by simp [mkFTo]
theorem mkFTo_set {k : Int} {xs : List (Int × Int)} {i : Nat} (h : i < xs.length) : ((mkFTo k xs i).map frac).set i (.agg [.v (.int .i64 (k + 2 * (i : Int))), .v (.int .i64 (k + 2 * (i : Int) + 1))]) = (mkFTo k xs (i + 1)).map frac := by
  have : (AV.agg [.v (.int .i64 (k + 2 * (i : Int))), .v (.int .i64 (k + 2 * (i : Int) + 1))]) = frac (k + 2 * (i : Int), k + 2 * (i : Int) + 1) := rfl
  rw [this, ← List.map_set]
  congr 1
  unfold mkFTo
  rw [List.set_append, if_neg (by simp [mkdF_len]), mkdF_len, Nat.sub_self, drop_get h, List.set_cons_zero]
  simp [mkdF, List.range_succ]

noncomputable def mMarkF : List AV → Option (Nat × AV × AV) := mkM (fun (p : Bool × List (Int × Int) × Int) => 0 ≤ p.2.2 ∧ p.2.2 + 2 * p.2.1.length ≤ 2 ^ 62) (fun p => [fracs p.1 p.2.1, int p.2.2]) (fun p => (0, int (p.2.2 + 2 * p.2.1.length), fracs p.1 (mkdF p.2.2 p.2.1.length)))
theorem mMarkF_at (nl : Bool) (xs : List (Int × Int)) (k : Int) (h : 0 ≤ k ∧ k + 2 * xs.length ≤ 2 ^ 62) : mMarkF [.sl nl 2 (xs.map frac), .v (.int .i64 k)] = some (0, .v (.int .i64 (k + 2 * xs.length)), .sl nl 2 ((mkdF k xs.length).map frac)) :=
  mkM_eq (enc := fun (p : Bool × List (Int × Int) × Int) => [fracs p.1 p.2.1, int p.2.2]) (x := (nl, xs, k)) (by rintro ⟨a, b, c⟩ ⟨d, e, f⟩ h; simp [fracs, int, map_frac_inj] at h; simp [h]) h

noncomputable def mHeldF : List AV → Option AV := mk (fun (p : Bool × Nat × Int) => 0 ≤ p.2.2 ∧ p.2.2 + 2 * p.2.1 ≤ 2 ^ 62) (fun p => [fracs p.1 (mkdF p.2.2 p.2.1), int p.2.2]) (fun p => int (p.2.2 + 2 * p.2.1))
theorem mHeldF_at (nl : Bool) (n : Nat) (k : Int) (h : 0 ≤ k ∧ k + 2 * n ≤ 2 ^ 62) : mHeldF [.sl nl 2 ((mkdF k n).map frac), .v (.int .i64 k)] = some (.v (.int .i64 (k + 2 * n))) :=
  mk_eq (enc := fun (p : Bool × Nat × Int) => [fracs p.1 (mkdF p.2.2 p.2.1), int p.2.2]) (x := (nl, n, k)) (by
    rintro ⟨a, b, c⟩ ⟨d, e, f⟩ h
    simp [fracs, int, map_frac_inj] at h
    obtain ⟨⟨_, h1⟩, h2⟩ := h
    have := congrArg List.length h1
    simp [mkdF_len] at this
    simp [h2, this]) h

/-- A list that is nil until something is put into it. -/
def apA : Nat → AV
  | 0 => .sl true 1 []
  | k + 1 => .ref 0 [] 0 (k + 1)
def apT (sz : Nat) (l : List AV) : Nat → List Tok
  | 0 => []
  | _ + 1 => [⟨true, .sl false sz l⟩]

/-- Heir 0's first share of thing x. -/
def fshare (r0 r1 : List Int) (x : Nat) : Int × Int := (if at0 r1 x ≤ at0 r0 x then 1 else 0, 1)
def fsA (r0 r1 : List Int) (k : Nat) : List (Int × Int) := (List.range k).map (fshare r0 r1)
theorem fsA_len {r0 r1 : List Int} {k : Nat} : (fsA r0 r1 k).length = k := by simp [fsA]
theorem fsA_zero {r0 r1 : List Int} : fsA r0 r1 0 = [] := by simp [fsA]
theorem fsA_succ {r0 r1 : List Int} {k : Nat} : (fsA r0 r1 k).map frac ++ [.agg [.v (.int .i64 (if at0 r1 k ≤ at0 r0 k then 1 else 0)), .v (.int .i64 1)]] = (fsA r0 r1 (k + 1)).map frac := by simp [fsA, List.range_succ, frac, fshare]
def firstL (xss : List (Bool × List Int)) : List (Int × Int) := match xss with
  | [r0, r1] => if pointsB xss = true then fsA r0.2 r1.2 r0.2.length else []
  | _ => []
theorem firstL_len {xss : List (Bool × List Int)} : (firstL xss).length ≤ 2 ^ 40 := by
  unfold firstL
  split
  · split
    · rename_i h
      have := rect_len (points_facts h).2
      simp [wid, fsA_len] at this ⊢; omega
    · simp
  · simp
theorem firstL_no {xss : List (Bool × List Int)} (h : pointsB xss = false) : firstL xss = [] := by
  unfold firstL; split <;> simp [h]

noncomputable def mFirst : List AV → Option AV := mk (fun _ => True) (fun (p : (Bool) × (List (Bool × List Int))) => [intss p.1 p.2]) (fun p => .sl (!pointsB p.2) 2 ((firstL p.2).map frac))
theorem mFirst_at (nl : Bool) (xss : List (Bool × List Int)) : mFirst [.sl nl 1 (xss.map row)] = some (.sl (!pointsB xss) 2 ((firstL xss).map frac)) :=
  mk_eq (enc := fun (p : (Bool) × (List (Bool × List Int))) => [intss p.1 p.2]) (x := (nl, xss)) (by rintro ⟨a0, a1⟩ ⟨b0, b1⟩ h; simp [ints, intss, int, bool, row, frac, fracs, map_int_inj, map_row_inj, frac_inj, map_frac_inj] at h; simp [h]) trivial

/-- A nil slice is a nil slice of whatever. -/
theorem callOk_nil {P : Program} {f : FuncId} {args : List AV} {a b : Nat} (h : CallOk P f args (.sl true a [])) : CallOk P f args (.sl true b []) := by
  refine ⟨h.1, fun w F vals hF hv => (h.2 w F vals hF hv).mono fun e w' he => ?_⟩
  obtain ⟨y, S, h1, h2, h3, h4⟩ := he
  refine ⟨y, S, h1, h2, h3, ?_⟩
  obtain ⟨a1, l, c, hy, k1, k2, k3, k4⟩ := Excl.of_own h4
  refine Excl.own (S := S) ⟨a1, l, c, hy, k1, k2, k3, ?_⟩
  rcases k4 with k4 | ⟨_, _, _, _, _, k4, _⟩
  · exact .inl k4
  · simp at k4

set_option maxHeartbeats 2000000 in
theorem implFirst_ok : FnOk Try.prog 22 mFirst := by
  refine mk_ok fun ⟨nl, xss⟩ _ => ?_
  have hG : FnsOk Try.prog [(23, mPoints), (56, mBoolInt), (57, mWhole)] := (.cons implPointsOk_ok (.cons boolInt_ok (.cons whole_ok .nil)))
  cases h1 : pointsB xss with
  | false =>
    simp only [firstL_no h1, List.map_nil, Bool.not_false]
    refine callOk_nil (a := 1) ?_
    refine callOk_awp (ctx_ok eqOk hG) mixed (live := [true, false, true, true, true, false, false, true, false, false, false, true, true, true]) (dt := [(7, ⟨[], [0, 0, 0, 0, 0, 0, 0, 0, 0, 0, 0, 0, 0, 0, 0, 0, 1, 1], []⟩)]) Try.func22 rfl (by kernel_rfl) (by kernel_rfl) fun w0 hlens => ?_
    simp (config := {contextual := true}) [Try.f22, List.range, List.range.loop, ints, intss, int, bool, row, frac, fracs, ← List.map_take, ← List.map_drop, mPoints_at, mBoolInt_at, mWhole_at, h1]
  | true =>
  refine callOk_awp (ctx_ok eqOk hG) mixed (live := [true, false, true, true, true, false, false, true, false, false, false, true, true, true]) (dt := [(7, ⟨[], [0, 0, 0, 0, 0, 0, 0, 0, 0, 0, 0, 0, 0, 0, 0, 0, 1, 1], []⟩)]) Try.func22 rfl (by kernel_rfl) (by kernel_rfl) fun w0 hlens => ?_
  clear hlens
  obtain ⟨h2, hr⟩ := points_facts h1
  obtain ⟨r0, r1, rfl⟩ : ∃ r0 r1, xss = [r0, r1] := by
    match xss, h2 with
    | [a, b], _ => exact ⟨a, b, rfl⟩
  have hl := rect_len hr
  have hr1 := (rect_row hr (i := 1) (by simp)).1
  simp only [wid, List.headD_cons] at hl hr1
  simp only [List.getElem_cons_succ, List.getElem_cons_zero] at hr1
  have hg := mPoints_at nl [r0, r1]
  rw [h1] at hg
  simp only [List.map_cons, List.map_nil, row] at hg
  have hf : firstL [r0, r1] = fsA r0.2 r1.2 r0.2.length := by simp [firstL, h1]
  rw [hf]
  simp only [h1, Bool.not_true]
  simp (config := {contextual := true}) [Try.f22, List.range, List.range.loop, ints, intss, int, bool, row, frac, fracs, ← List.map_take, ← List.map_drop, hg]
  refine awp_range (live := [true, false, true, true, true, false, false, true, false, false, false, true, true, true]) (ctx_ok eqOk hG) mixed [true, false, false, true, false, false, false, false, false, false, false, true, true] (r0.2.length) (fun k => True) (fun k => ⟨[intss nl [r0, r1], .junk, .junk, apA k, .junk, .junk, .junk, .junk, .junk, .junk, .junk, int r0.2.length, int k, .junk, .junk, .junk, .junk, .junk, .junk, .junk, .junk, .junk, .junk, .junk, .junk, .junk, .junk, .junk, .junk, .junk, .junk, .junk, .junk, .junk, .junk], apT 2 ((fsA r0.2 r1.2 k).map frac) k⟩) ?_ (by simp [sub, slotsLe, clean, keep, refsL, refs, once, place, renL, ren, List.replicate, int, bool, intss, row, apA, apT]) ?_ ?_ ?_
  · omega
  · trivial
  · intro k h _ hwk
    have g0 : r0.2[k]? = some (at0 r0.2 k) := at0_get h
    have g1 : r1.2[k]? = some (at0 r1.2 k) := at0_get (by omega)
    have g0' : r0.2[k] = at0 r0.2 k := (at0_eq h).symm
    have g1' : r1.2[k]'(by omega) = at0 r1.2 k := (at0_eq (by omega)).symm
    have hk1 : k < r1.2.length := by omega
    have c3 := fsA_succ (r0 := r0.2) (r1 := r1.2) (k := k)
    have q1 : (k + 1) * 16 ≤ 140737488355328 := by omega
    have q2 : k + 1 ≤ 4611686018427387904 := by omega
    cases k with
    | zero =>
      simp [fsA_zero] at c3 hwk
      simp (config := {contextual := true}) [List.range, List.range.loop, ints, intss, int, bool, row, frac, fracs, ← List.map_take, ← List.map_drop, mBoolInt_at, mWhole_at, h, hwk, hk1, g0', g1', apA, apT, ← c3]
    | succ k =>
      simp at hwk
      simp (config := {contextual := true}) [List.range, List.range.loop, ints, intss, int, bool, row, frac, fracs, ← List.map_take, ← List.map_drop, mBoolInt_at, mWhole_at, h, hwk, hk1, g0', g1', apA, apT, fsA_len, c3, q1, q2]
  · intro _
    obtain ⟨m, hm⟩ : ∃ m, r0.2.length = m + 1 := ⟨r0.2.length - 1, by omega⟩
    simp (config := {contextual := true}) [List.range, List.range.loop, ints, intss, int, bool, row, frac, fracs, ← List.map_take, ← List.map_drop, hm, apA, apT, fsA_len]

noncomputable def mL28 : List AV → Option AV := mk (fun (p : Bool × (Bool × List Int) × (Bool × List Int) × Nat) => p.2.2.2 < p.2.1.2.length ∧ p.2.2.2 < p.2.2.1.2.length) (fun p => [intss p.1 [p.2.1, p.2.2.1], int p.2.2.2]) (fun p => bool (decide (at0 p.2.2.1.2 p.2.2.2 ≤ at0 p.2.1.2 p.2.2.2)))
theorem mL28_at (nl : Bool) (r0 r1 : Bool × List Int) (k : Nat) (h : k < r0.2.length ∧ k < r1.2.length) : mL28 [.sl nl 1 [.sl r0.1 1 (r0.2.map int), .sl r1.1 1 (r1.2.map int)], .v (.int .i64 k)] = some (.v (.bool (decide (at0 r1.2 k ≤ at0 r0.2 k)))) :=
  mk_eq (enc := fun (p : Bool × (Bool × List Int) × (Bool × List Int) × Nat) => [intss p.1 [p.2.1, p.2.2.1], int p.2.2.2]) (x := (nl, r0, r1, k)) (by
    rintro ⟨a, b, c, d⟩ ⟨a', b', c', d'⟩ h
    simp [intss, int, row_inj] at h
    have : d = d' := by omega
    simp [h, this]) h
end Go.Proofs.Ytakladjlnkojjaa.Ax
