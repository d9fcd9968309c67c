/-
  Contracts: all divisions, of the program and of the reference. No condition.
-/
import Derived.Test.YtkfgmpmeipilnaaCG132
namespace Go.Proofs.Ytkfgmpmeipilnaa.Ax
open Go Go.RowKit
set_option linter.unusedSimpArgs false

theorem div_all : ∀ r, FnMut Try.prog 95 (mDv r)
  | 0 => div_zero
  | r + 1 => div_succ (div_all r)

/-- The search from the beginning. -/
noncomputable def mDvN : List AV → Option AV := mk (fun (p : Nat × Nat) => (1 ≤ p.1 ∧ p.1 ≤ 3) ∧ 1 ≤ p.2 ∧ p.2 ≤ 10) (fun p => [.sl true 1 [], int (p.1 : Int), int (p.2 : Int)]) (fun p => intss false (dvL p.1 p.2 []))
theorem mDvN_at (n p : Nat) (h : (1 ≤ n ∧ n ≤ 3) ∧ 1 ≤ p ∧ p ≤ 10) : mDvN [.sl true 1 [], .v (.int .i64 (n : Int)), .v (.int .i64 (p : Int))] = some (.sl false 1 ((dvL n p []).map row)) :=
  mk_eq (enc := fun (p : Nat × Nat) => [.sl true 1 [], int (p.1 : Int), int (p.2 : Int)]) (f := fun p => intss false (dvL p.1 p.2 [])) (x := (n, p)) (by
    rintro ⟨a, b⟩ ⟨d, e⟩ h
    simp [int] at h
    rw [show a = d by omega, show b = e by omega]) h

set_option maxHeartbeats 4000000 in
theorem divN_ok : (FnOk Try.prog 95 mDvN) := by
  refine mk_ok fun ⟨n, p⟩ h => ?_
  simp only at h
  obtain ⟨⟨hn1, hn3⟩, hp1, hp10⟩ := h
  obtain ⟨r, rfl⟩ : ∃ r, p = r + 1 := ⟨p - 1, by omega⟩
  have hM : FnsMut Try.prog [(95, mDv r)] := .cons (div_all r) .nil
  have hG : FnsOk Try.prog [(133, mClone), (111, mHas)] := (.cons clone_ok (.cons slicesContains_ok .nil))
  refine callOk_awp (ctxM_ok eqOk hG hM) mixed (live := [true, true, true, false, false, false, true, true, true, false, false, false, true, false, false, false, true, true, true, false, false, false, false, false, false, false, false, false, false, false, false, false, false, false, false, false, false, true]) (dt := []) Try.func95 rfl (by kernel_rfl) (by kernel_rfl) fun w0 hlens => ?_
  clear hlens
  have h0 := dvTo_zero (n := n) (r := r) (l := [])
  have hne : ¬ (0 : Int) = ((r + 1 : Nat) : Int) := by omega
  have hne2 : ¬ (0 : Int) = (r : Int) + 1 := by omega
  simp (config := {maxSteps := 1000000}) [Try.f95, List.range, List.range.loop, ints, intss, int, bool, row, frac, fracs, ← List.map_take, ← List.map_drop, List.eraseIdx, hne, hne2]
  refine awp_range (live := [true, true, true, false, false, false, true, true, true, false, false, false, true, false, false, false, true, true, true, false, false, false, false, false, false, false, false, false, false, false, false, false, false, false, false, false, false, true]) (ctxM_ok eqOk hG hM) mixed [true, true, true, false, false, false, false, true, false, false, false, false, false, false, false, false, true, true] (n) (fun k => True) (fun k => ⟨[.sl true 1 [], int (n : Int), int ((r + 1 : Nat) : Int), .junk, .junk, .junk, .junk, rwA 0 (dvTo n r [] k), .junk, .junk, .junk, .junk, .junk, .junk, .junk, .junk, int (n : Int), int k, .junk, .junk, .junk, .junk, .junk, .junk, .junk, .junk, .junk, .junk, .junk, .junk, .junk, .junk, .junk, .junk, .junk, .junk, .junk, .junk, .junk, .junk, .junk, .junk, .junk, .junk, .junk, .junk, .junk, .junk, .junk], rwT (dvTo n r [] k)⟩) ?_ (by simp [sub, slotsLe, clean, keep, refsL, refs, once, place, renL, ren, List.replicate, int, bool, h0, rwA, rwT]) ?_ ?_ ?_
  · omega
  · trivial
  · intro k hk _ hwk
    have hsucc := dvTo_succ (n := n) (r := r) (l := []) (k := k)
    rw [if_pos okD_nil, List.nil_append] at hsucc
    have hcall := mDv_at r [(k : Int)] n (r + 1) ⟨by simp; omega, hn3, hp10, ⟨k, hk, by simp [at0]⟩, by simp⟩
    simp only [List.map_cons, List.map_nil, int] at hcall
    rw [show ((r + 1 : Nat) : Int) = (r : Int) + 1 from rfl] at hcall
    have hRne : dvL n r [(k : Int)] ≠ [] := dvL_ne hk (.inr (by simp [at0]))
    have hall := dvL_small (n := n) (r := r + 1) (l := []) hn3 (by omega)
    have hle := dvTo_le (n := n) (r := r) (l := []) (k := k + 1) (j := n) (by omega)
    rw [dvTo_all] at hle
    generalize dvL n r [(k : Int)] = R at *
    obtain ⟨x0, R', rfl⟩ := List.exists_cons_of_ne_nil hRne
    have hsc : (List.all (row x0 :: R'.map row) scal) = false := by simp [row, scal]
    generalize hL : dvTo n r [] k = L at *
    generalize hL' : dvTo n r [] (k + 1) = L' at *
    subst hsucc
    have hR : (L ++ x0 :: R').length = L.length + (R'.length + 1) := by simp
    have hb1 : R'.length ≤ 4611686018427387903 ∧ (R'.length + 1) * 24 ≤ 140737488355328 := by omega
    have hb2 : L.length + (R'.length + 1) ≤ 4611686018427387904 ∧ (L.length + (R'.length + 1)) * 24 ≤ 140737488355328 := by omega
    have hz'' : L ++ x0 :: R' ≠ [] := by simp
    rw [rwA_ne hz'', rwT_ne hz'']
    by_cases hz : L = []
    · subst hz
      rw [show rwA 0 ([] : List (Bool × List Int)) = .sl true 1 [] from rfl, show rwT ([] : List (Bool × List Int)) = [] from rfl]
      simp (config := {maxSteps := 1000000}) [List.range, List.range.loop, ints, intss, int, bool, row, frac, fracs, ← List.map_take, ← List.map_drop, List.eraseIdx, hk, hwk, hcall, hsc, hb1, row]
      done
    · rw [rwA_ne hz, rwT_ne hz]
      simp (config := {maxSteps := 1000000}) [List.range, List.range.loop, ints, intss, int, bool, row, frac, fracs, ← List.map_take, ← List.map_drop, List.eraseIdx, hk, hwk, hcall, hsc, hb1, hb2, row]
      done
  · intro _
    have hnz : dvTo n r [] n ≠ [] := by rw [dvTo_all]; exact dvL_ne (i := 0) (by omega) (.inl rfl)
    rw [rwA_ne hnz, rwT_ne hnz]
    simp (config := {maxSteps := 1000000}) [List.range, List.range.loop, ints, intss, int, bool, row, frac, fracs, ← List.map_take, ← List.map_drop, List.eraseIdx, dvTo_all]
    done

/-- All divisions of a cake. -/
def divs (xss : List (Bool × List Int)) : List (Bool × List Int) := if rectB xss 3 10 100 = true then dvL xss.length (wid xss) [] else []
theorem divs_len {xss : List (Bool × List Int)} : (divs xss).length ≤ 59049 := by
  unfold divs
  split
  · rename_i h
    have := rect_len h
    exact dvL_small (by omega) (by omega)
  · simp
noncomputable def mAllD : List AV → Option AV := mk (fun _ => True) (fun (p : (Bool) × (List (Bool × List Int))) => [intss p.1 p.2]) (fun p => .sl (!rectB p.2 3 10 100) 1 ((divs p.2).map row))
theorem mAllD_at (nl : Bool) (xss : List (Bool × List Int)) : mAllD [.sl nl 1 (xss.map row)] = some (.sl (!rectB xss 3 10 100) 1 ((divs xss).map row)) :=
  mk_eq (enc := fun (p : (Bool) × (List (Bool × List Int))) => [intss p.1 p.2]) (x := (nl, xss)) (by rintro ⟨a0, a1⟩ ⟨b0, b1⟩ h; simp [ints, intss, int, bool, row, frac, fracs, map_int_inj, map_row_inj, frac_inj, map_frac_inj] at h; simp [h]) trivial

set_option maxHeartbeats 1000000 in
theorem implAllDivisions_ok : FnOk Try.prog 38 mAllD := by
  refine mk_ok fun ⟨nl, xss⟩ _ => ?_
  have hG : FnsOk Try.prog [(94, (mGrid 3 10 100)), (95, mDvN)] := (.cons implCakeOk_ok (.cons divN_ok .nil))
  refine callOk_awp (ctx_ok eqOk hG) mixed (live := [true, false, true, false, false, true]) (dt := []) Try.func38 rfl (by kernel_rfl) (by kernel_rfl) fun w0 hlens => ?_
  clear hlens
  cases h : rectB xss 3 10 100 with
  | false => simp (config := {maxSteps := 1000000}) [Try.f38, List.range, List.range.loop, ints, intss, int, bool, row, frac, fracs, ← List.map_take, ← List.map_drop, mGrid_at, h, divs]
  | true =>
    have hl := rect_len h
    have hp := rect_pos h
    have hw : (xss[0]'hp).2.length = wid xss := (rect_row h hp).1
    have hc := mDvN_at xss.length (wid xss) ⟨⟨by omega, by omega⟩, by omega, by omega⟩
    simp (config := {maxSteps := 1000000}) [Try.f38, List.range, List.range.loop, ints, intss, int, bool, row, frac, fracs, ← List.map_take, ← List.map_drop, mGrid_at, h, hp, hw, hc, divs]

set_option maxHeartbeats 1000000 in
theorem specAllDivisions_ok : FnOk Try.prog 37 mAllD := by
  refine mk_ok fun ⟨nl, xss⟩ _ => ?_
  have hla := l26_all (wid xss)
  have hG : FnsOk Try.prog [(92, (mGrid 3 10 100))] := (.cons specCakeOk_ok .nil)
  have hM : FnsMut Try.prog [] := .nil
  have hV : FnsMov Try.prog [(93, mL26 (wid xss))] := (.cons hla .nil)
  refine callOk_awp (ctxV_ok eqOk hG hM hV) mixed (live := [true, false, true, false, false, true]) (dt := []) Try.func37 rfl (by kernel_rfl) (by kernel_rfl) fun w0 hlens => ?_
  clear hlens
  cases h : rectB xss 3 10 100 with
  | false => simp (config := {maxSteps := 1000000}) [Try.f37, List.range, List.range.loop, ints, intss, int, bool, row, frac, fracs, ← List.map_take, ← List.map_drop, List.all, mGrid_at, h, divs]
  | true =>
    have hl := rect_len h
    have hc := mL26_at (wid xss) nl xss [] [] ⟨h, by simp, by have := dvL_small (n := xss.length) (r := wid xss) (l := []) (by omega) (by omega); simp; omega⟩
    simp only [List.map_nil, List.nil_append] at hc
    simp (config := {maxSteps := 1000000}) [Try.f37, List.range, List.range.loop, ints, intss, int, bool, row, frac, fracs, ← List.map_take, ← List.map_drop, List.all, mGrid_at, h, hc, divs]

end Go.Proofs.Ytkfgmpmeipilnaa.Ax
