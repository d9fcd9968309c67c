/-
  Contract: the program's search for divisions: the list is lent and reads as it did. No condition.
-/
import Derived.Test.YtakladjlnkojjaaCG7
import Derived.Test.YtakladjlnkojjaaCG8
import Derived.Test.YtakladjlnkojjaaCK4
namespace Go.Proofs.Ytakladjlnkojjaa.Ax
open Go Go.RowKit
set_option linter.unusedSimpArgs false

structure DvI (l : List Int) (n p r : Nat) : Prop where
  ln : l.length + r = p
  n3 : n ≤ 3
  p10 : p ≤ 10
  ne : ∃ i : Nat, i < n ∧ at0 l (l.length - 1) = (i : Int)
  l1 : 1 ≤ l.length
noncomputable def mDv (r : Nat) : List AV → Option (Nat × AV × AV) := mkM (fun (p : List Int × Nat × Nat) => DvI p.1 p.2.1 p.2.2 r) (fun p => [ints false p.1, int (p.2.1 : Int), int (p.2.2 : Int)]) (fun p => (0, intss false (dvL p.2.1 r p.1), ints false p.1))
theorem mDv_at (r : Nat) (l : List Int) (n p : Nat) (h : DvI l n p r) : mDv r [.sl false 1 (l.map int), .v (.int .i64 (n : Int)), .v (.int .i64 (p : Int))] = some (0, .sl false 1 ((dvL n r l).map row), .sl false 1 (l.map int)) :=
  mkM_eq (enc := fun (p : List Int × Nat × Nat) => [ints false p.1, int (p.2.1 : Int), int (p.2.2 : Int)]) (f := fun p => (0, intss false (dvL p.2.1 r p.1), ints false p.1)) (x := (l, n, p)) (by
    rintro ⟨a, b, c⟩ ⟨d, e, f⟩ h
    simp [ints, int, map_int_inj] at h
    obtain ⟨rfl, h1, h2⟩ := h
    rw [show b = e by omega]) h

/-- Rows that may still be nil. -/
def rwA (t : Nat) : List (Bool × List Int) → AV
  | [] => .sl true 1 []
  | _ :: l => .ref t [] 0 (l.length + 1)
def rwT : List (Bool × List Int) → List Tok
  | [] => []
  | x :: l => [⟨true, .sl false 1 ((x :: l).map row)⟩]
theorem rwA_ne {t : Nat} {L : List (Bool × List Int)} (h : L ≠ []) : rwA t L = .ref t [] 0 L.length := by cases L with | nil => exact (h rfl).elim | cons _ _ => rfl
theorem rwT_ne {L : List (Bool × List Int)} (h : L ≠ []) : rwT L = [⟨true, .sl false 1 (L.map row)⟩] := by cases L with | nil => exact (h rfl).elim | cons _ _ => rfl

set_option maxHeartbeats 1000000 in
theorem div_zero : (FnMut Try.prog 77 (mDv 0)) := by
  refine mkM_ok fun ⟨l, n, p⟩ h => ?_
  simp only at h
  have hln := h.ln
  have hp := h.p10
  have hM : FnsMut Try.prog [] := .nil
  have hG : FnsOk Try.prog [(53, mClone), (49, mHas)] := (.cons clone_ok (.cons slicesContains_ok .nil))
  refine mutOk_awpR (ctxM_ok eqOk hG hM) mixed (live := [true, true, true, false, false, false, true, true, true, false, false, false, true, false, false, false, true, true, true, false, false, false, false, false, false, false, false, false, false, false, false, false, false, false, false, false, false, true]) (dt := []) (pos := 0) rfl Try.func77 rfl (by kernel_rfl) (by kernel_rfl) (by simp [scal, int]) rfl fun US Uv w0 hlens => ?_
  have he : l.length = p := by omega
  have hcl := mClone_at false l (by omega)
  have htk : List.take p l = l := List.take_of_length_le (by omega)
  simp [Try.f77, List.range, List.range.loop, ints, intss, int, bool, row, frac, fracs, ← List.map_take, ← List.map_drop, List.eraseIdx, ctxM, he, hcl, htk, dvL, row, resR, doneR_normal, doneR_ret]
  done

set_option maxHeartbeats 4000000 in
theorem div_succ {r : Nat} (ih : FnMut Try.prog 77 (mDv r)) : (FnMut Try.prog 77 (mDv (r + 1))) := by
  refine mkM_ok fun ⟨l, n, p⟩ h => ?_
  simp only at h
  have hln := h.ln
  have hp10 := h.p10
  have hn3 := h.n3
  have hl1 := h.l1
  have hM : FnsMut Try.prog [(77, mDv r)] := .cons ih .nil
  have hG : FnsOk Try.prog [(53, mClone), (49, mHas)] := (.cons clone_ok (.cons slicesContains_ok .nil))
  refine mutOk_awpR (ctxM_ok eqOk hG hM) mixed (live := [true, true, true, false, false, false, true, true, true, false, false, false, true, false, false, false, true, true, true, false, false, false, false, false, false, false, false, false, false, false, false, false, false, false, false, false, false, true]) (dt := []) (pos := 0) rfl Try.func77 rfl (by kernel_rfl) (by kernel_rfl) (by simp [scal, int]) rfl fun US Uv w0 hlens => ?_
  have hne : ¬ l.length = p := by omega
  have hne' : ¬ (l.length : Int) = (p : Int) := by omega
  have h0 := dvTo_zero (n := n) (r := r) (l := l)
  simp [Try.f77, List.range, List.range.loop, ints, intss, int, bool, row, frac, fracs, ← List.map_take, ← List.map_drop, List.eraseIdx, ctxM, hne, hne']
  refine tr_loop_of (ctxM_ok eqOk hG hM) mixed [true, true, true, false, false, false, false, true, false, false, false, false, false, false, false, false, true, true] (α := {k : Nat // k ≤ n}) (fun k => ⟨[.ref 0 [] 0 l.length, int (n : Int), int (p : Int), .junk, .junk, .junk, .junk, rwA 1 (dvTo n r l k.1), .junk, .junk, .junk, .junk, .junk, .junk, .junk, .junk, int (n : Int), int (k.1 : Int), .junk, .junk, .junk, .junk, .junk, .junk, .junk, .junk, .junk, .junk, .junk, .junk, .junk, .junk, .junk, .junk, .junk, .junk, .junk, .junk, .junk, .junk, .junk, .junk, .junk, .junk, .junk, .junk, .junk, .junk, .junk], [⟨true, .sl false 1 (l.map int)⟩] ++ rwT (dvTo n r l k.1)⟩) (fun k => n - k.1) ⟨0, by omega⟩ (by simp [sub, slotsLe, clean, keep, refsL, refs, once, place, renL, ren, List.replicate, int, bool, h0, rwA, rwT, ints]) ?_
  rintro ⟨k, hk⟩
  simp only
  -- is there another one
  refine tr_seq (tr_awp (live := [true, true, true, false, false, false, true, true, true, false, false, false, true, false, false, false, true, true, true, false, false, false, false, false, false, false, false, false, false, false, false, false, false, false, false, false, false, true]) (ctxM_ok eqOk hG hM) mixed _ _ _ ?_)
  by_cases hkn : k = n
  · subst hkn
    obtain ⟨i, hi, hlast⟩ := h.ne
    have hnz : dvTo k r l k ≠ [] := by rw [dvTo_all]; exact dvL_ne hi (.inr hlast)
    rw [rwA_ne hnz, rwT_ne hnz]
    simp (config := {maxSteps := 1000000}) [List.range, List.range.loop, ints, intss, int, bool, row, frac, fracs, ← List.map_take, ← List.map_drop, List.eraseIdx, andThen]
    refine tr_seq (tr_awp (live := [true, true, true, false, false, false, true, true, true, false, false, false, true, false, false, false, true, true, true, false, false, false, false, false, false, false, false, false, false, false, false, false, false, false, false, false, false, true]) (ctxM_ok eqOk hG hM) mixed _ _ _ ?_)
    simp (config := {maxSteps := 1000000}) [List.range, List.range.loop, ints, intss, int, bool, row, frac, fracs, ← List.map_take, ← List.map_drop, List.eraseIdx, andThen, resR, doneR_normal, doneR_ret, dvTo_all]
    done
  have hlt : k < n := by omega
  have hsucc := dvTo_succ (n := n) (r := r) (l := l) (k := k)
  have hwk : IntKind.i64.wrap ((k : Int) + 1) = (k : Int) + 1 := wrapI (by omega) (by omega)
  have hlast : l[l.length - 1]'(by omega) = at0 l (l.length - 1) := (at0_eq (by omega)).symm
  have hll : l.length - 1 < l.length := by omega
  have hcast : IntKind.i64.wrap ((l.length : Int) - 1) = ((l.length - 1 : Nat) : Int) := by rw [wrapI (by omega) (by omega)]; omega
  have hl0 : 0 < l.length := hl1
  have hall := dvL_small (n := n) (r := r + 1) (l := l) hn3 (by omega)
  have hle := dvTo_le (n := n) (r := r) (l := l) (k := k + 1) (j := n) (by omega)
  rw [dvTo_all] at hle
  have hcall := mDv_at r (l ++ [(k : Int)]) n p ⟨by simp; omega, hn3, hp10, ⟨k, hlt, last_snoc⟩, by simp⟩
  simp only [List.map_append, List.map_cons, List.map_nil, int] at hcall
  have hRne : dvL n r (l ++ [(k : Int)]) ≠ [] := dvL_ne hlt (.inr last_snoc)
  have htk : List.take (l.length + 1) (l.map int ++ [AV.v (.int .i64 k)]) = l.map int ++ [AV.v (.int .i64 k)] := List.take_of_length_le (by simp)
  have hlb : l.length ≤ 4611686018427387904 ∧ l.length * 8 ≤ 140737488355328 := by omega
  have hlb2 : l.length + 1 ≤ 4611686018427387904 ∧ (l.length + 1) * 8 ≤ 140737488355328 := by omega
  generalize dvL n r (l ++ [(k : Int)]) = R at *
  obtain ⟨x0, R', rfl⟩ := List.exists_cons_of_ne_nil hRne
  have hsc : (List.all (row x0 :: R'.map row) scal) = false := by simp [row, scal]
  generalize hL : dvTo n r l k = L at *
  generalize hL' : dvTo n r l (k + 1) = L' at *
  have hz0 : ([] : List (Bool × List Int)) = [] := rfl
  by_cases hz : L = []
  · subst hz
    rw [show rwA 1 ([] : List (Bool × List Int)) = .sl true 1 [] from rfl,show rwT ([] : List (Bool × List Int)) = [] from rfl]
    simp (config := {maxSteps := 1000000}) [List.range, List.range.loop, ints, intss, int, bool, row, frac, fracs, ← List.map_take, ← List.map_drop, List.eraseIdx, andThen, hlt]
    refine tr_seq (tr_awp (live := [true, true, true, false, false, false, true, true, true, false, false, false, true, false, false, false, true, true, true, false, false, false, false, false, false, false, false, false, false, false, false, false, false, false, false, false, false, true]) (ctxM_ok eqOk hG hM) mixed _ _ _ ?_)
    simp (config := {maxSteps := 1000000}) [List.range, List.range.loop, ints, intss, int, bool, row, frac, fracs, ← List.map_take, ← List.map_drop, List.eraseIdx, andThen, hlt]
    refine tr_seq (tr_block ?_)
    refine tr_seq (tr_awp (live := [true, true, true, false, false, false, true, true, true, false, false, false, true, false, false, false, true, true, true, false, false, false, false, false, false, false, false, false, false, false, false, false, false, false, false, false, false, true]) (ctxM_ok eqOk hG hM) mixed _ _ _ ?_)
    simp (config := {maxSteps := 1000000}) [List.range, List.range.loop, ints, intss, int, bool, row, frac, fracs, ← List.map_take, ← List.map_drop, List.eraseIdx, andThen, hlt]
    refine tr_seq (tr_awp (live := [true, true, true, false, false, false, true, true, true, false, false, false, true, false, false, false, true, true, true, false, false, false, false, false, false, false, false, false, false, false, false, false, false, false, false, false, false, true]) (ctxM_ok eqOk hG hM) mixed _ _ _ ?_)
    have hq' : ¬ at0 l (l.length - 1) = (k : Int) → ¬ (k : Int) = at0 l (l.length - 1) := fun h e => h e.symm
    by_cases hskip : ¬ at0 l (l.length - 1) = (k : Int) ∧ 0 ≤ pos l (k : Int)
    · obtain ⟨hq, hpos⟩ := hskip
      have hok : okD l k = false := by simp [okD, hq, hpos]
      rw [hok] at hsucc
      simp only [Bool.false_eq_true, if_false, List.append_nil] at hsucc
      subst hsucc
      have hz' := hz0
      simp (config := {maxSteps := 1000000}) [List.range, List.range.loop, ints, intss, int, bool, row, frac, fracs, ← List.map_take, ← List.map_drop, List.eraseIdx, andThen, hl0, hll, hcast, hlast, hq, hq' hq, mHas_at, hpos]
      refine tr_awp (live := [true, true, true, false, false, false, true, true, true, false, false, false, true, false, false, false, true, true, true, false, false, false, false, false, false, false, false, false, false, false, false, false, false, false, false, false, false, true]) (ctxM_ok eqOk hG hM) mixed _ _ _ ?_
      simp (config := {maxSteps := 1000000}) [List.range, List.range.loop, ints, intss, int, bool, row, frac, fracs, ← List.map_take, ← List.map_drop, List.eraseIdx, andThen, hwk]
      refine ⟨k + 1, ?_⟩
      rw [hL', show rwA 1 ([] : List (Bool × List Int)) = .sl true 1 [] from rfl,show rwT ([] : List (Bool × List Int)) = [] from rfl]
      simp [sub, slotsLe, clean, keep, refsL, refs, once, place, renL, ren, List.replicate, int, bool]
      omega
    have hok : okD l k = true := by
      simp only [okD, Bool.or_eq_true, decide_eq_true_eq]
      by_cases hq : at0 l (l.length - 1) = (k : Int)
      · exact .inr hq
      · exact .inl (by rcases Int.lt_or_le (pos l (k : Int)) 0 with h | h; exact h; exact (hskip ⟨hq, h⟩).elim)
    rw [if_pos hok] at hsucc
    have hR := congrArg List.length hsucc
    simp only [List.length_append, List.length_cons, List.length_nil] at hR
    have hb1 : R'.length ≤ 4611686018427387903 ∧ (R'.length + 1) * 24 ≤ 140737488355328 := by omega
    have hb2 : R'.length ≤ 4611686018427387903 := by omega
    by_cases hq : at0 l (l.length - 1) = (k : Int)
    · simp (config := {maxSteps := 1000000}) [List.range, List.range.loop, ints, intss, int, bool, row, frac, fracs, ← List.map_take, ← List.map_drop, List.eraseIdx, andThen, hl0, hll, hcast, hlast, hq]
      refine tr_appS (live := [true, true, true, false, false, false, true, true, true, false, false, false, true, false, false, false, true, true, true, false, false, false, false, false, false, false, false, false, false, false, false, false, false, false, false, false, false, true]) (ctxM_ok eqOk hG hM) 4 42 0 rfl rfl rfl rfl (by simp [mkLd]) (by simp) ?_
      simp (config := {maxSteps := 1000000}) [List.range, List.range.loop, ints, intss, int, bool, row, frac, fracs, ← List.map_take, ← List.map_drop, List.eraseIdx, elemTI]
      rw [appO1_some]
      refine ⟨by decide, by simp, 0, l.map int, [.v (.int .i64 k)], true, ⟨by simp, by simp, by simp [List.range, List.range.loop, ints, intss, int, bool, row, frac, fracs, ← List.map_take, ← List.map_drop, appY], by simp [scal, int], by simp [scal], by simp, by simp; omega, by simp; omega, by simp⟩, ?_, ?_⟩
      · simp (config := {maxSteps := 1000000}) [List.range, List.range.loop, ints, intss, int, bool, row, frac, fracs, ← List.map_take, ← List.map_drop, List.eraseIdx, regB_some, andThen, hcall, htk, hlb, hlb2, hsc, hb1, hb2]
        refine tr_awp (live := [true, true, true, false, false, false, true, true, true, false, false, false, true, false, false, false, true, true, true, false, false, false, false, false, false, false, false, false, false, false, false, false, false, false, false, false, false, true]) (ctxM_ok eqOk hG hM) mixed _ _ _ ?_
        simp (config := {maxSteps := 1000000}) [List.range, List.range.loop, ints, intss, int, bool, row, frac, fracs, ← List.map_take, ← List.map_drop, List.eraseIdx, andThen, hwk]
        refine ⟨k + 1, ?_⟩
        rw [hL', hsucc]
        have hz'' : [] ++ x0 :: R' ≠ [] := by simp
        rw [rwA_ne hz'', rwT_ne hz'']
        simp [sub, slotsLe, clean, keep, refsL, refs, once, place, renL, ren, List.replicate, int, bool, row]
        omega
      · simp (config := {maxSteps := 1000000}) [List.range, List.range.loop, ints, intss, int, bool, row, frac, fracs, ← List.map_take, ← List.map_drop, List.eraseIdx, regB_some, andThen, hcall, htk, hlb, hlb2, hsc, hb1, hb2]
        refine tr_awp (live := [true, true, true, false, false, false, true, true, true, false, false, false, true, false, false, false, true, true, true, false, false, false, false, false, false, false, false, false, false, false, false, false, false, false, false, false, false, true]) (ctxM_ok eqOk hG hM) mixed _ _ _ ?_
        simp (config := {maxSteps := 1000000}) [List.range, List.range.loop, ints, intss, int, bool, row, frac, fracs, ← List.map_take, ← List.map_drop, List.eraseIdx, andThen, hwk]
        refine ⟨k + 1, ?_⟩
        rw [hL', hsucc]
        have hz'' : [] ++ x0 :: R' ≠ [] := by simp
        rw [rwA_ne hz'', rwT_ne hz'']
        simp [sub, slotsLe, clean, keep, refsL, refs, once, place, renL, ren, List.replicate, int, bool, row]
        omega
    · have hpos : ¬ 0 ≤ pos l (k : Int) := fun e => hskip ⟨hq, e⟩
      have hpos' : pos l (k : Int) < 0 := by omega
      simp (config := {maxSteps := 1000000}) [List.range, List.range.loop, ints, intss, int, bool, row, frac, fracs, ← List.map_take, ← List.map_drop, List.eraseIdx, andThen, hl0, hll, hcast, hlast, hq, hq' hq, mHas_at, hpos, hpos']
      refine tr_appS (live := [true, true, true, false, false, false, true, true, true, false, false, false, true, false, false, false, true, true, true, false, false, false, false, false, false, false, false, false, false, false, false, false, false, false, false, false, false, true]) (ctxM_ok eqOk hG hM) 4 42 0 rfl rfl rfl rfl (by simp [mkLd]) (by simp) ?_
      simp (config := {maxSteps := 1000000}) [List.range, List.range.loop, ints, intss, int, bool, row, frac, fracs, ← List.map_take, ← List.map_drop, List.eraseIdx, elemTI]
      rw [appO1_some]
      refine ⟨by decide, by simp, 0, l.map int, [.v (.int .i64 k)], true, ⟨by simp, by simp, by simp [List.range, List.range.loop, ints, intss, int, bool, row, frac, fracs, ← List.map_take, ← List.map_drop, appY], by simp [scal, int], by simp [scal], by simp, by simp; omega, by simp; omega, by simp⟩, ?_, ?_⟩
      · simp (config := {maxSteps := 1000000}) [List.range, List.range.loop, ints, intss, int, bool, row, frac, fracs, ← List.map_take, ← List.map_drop, List.eraseIdx, regB_some, andThen, hcall, htk, hlb, hlb2, hsc, hb1, hb2]
        refine tr_awp (live := [true, true, true, false, false, false, true, true, true, false, false, false, true, false, false, false, true, true, true, false, false, false, false, false, false, false, false, false, false, false, false, false, false, false, false, false, false, true]) (ctxM_ok eqOk hG hM) mixed _ _ _ ?_
        simp (config := {maxSteps := 1000000}) [List.range, List.range.loop, ints, intss, int, bool, row, frac, fracs, ← List.map_take, ← List.map_drop, List.eraseIdx, andThen, hwk]
        refine ⟨k + 1, ?_⟩
        rw [hL', hsucc]
        have hz'' : [] ++ x0 :: R' ≠ [] := by simp
        rw [rwA_ne hz'', rwT_ne hz'']
        simp [sub, slotsLe, clean, keep, refsL, refs, once, place, renL, ren, List.replicate, int, bool, row]
        omega
      · simp (config := {maxSteps := 1000000}) [List.range, List.range.loop, ints, intss, int, bool, row, frac, fracs, ← List.map_take, ← List.map_drop, List.eraseIdx, regB_some, andThen, hcall, htk, hlb, hlb2, hsc, hb1, hb2]
        refine tr_awp (live := [true, true, true, false, false, false, true, true, true, false, false, false, true, false, false, false, true, true, true, false, false, false, false, false, false, false, false, false, false, false, false, false, false, false, false, false, false, true]) (ctxM_ok eqOk hG hM) mixed _ _ _ ?_
        simp (config := {maxSteps := 1000000}) [List.range, List.range.loop, ints, intss, int, bool, row, frac, fracs, ← List.map_take, ← List.map_drop, List.eraseIdx, andThen, hwk]
        refine ⟨k + 1, ?_⟩
        rw [hL', hsucc]
        have hz'' : [] ++ x0 :: R' ≠ [] := by simp
        rw [rwA_ne hz'', rwT_ne hz'']
        simp [sub, slotsLe, clean, keep, refsL, refs, once, place, renL, ren, List.replicate, int, bool, row]
        omega
  · skip
    rw [rwA_ne hz,rwT_ne hz]
    simp (config := {maxSteps := 1000000}) [List.range, List.range.loop, ints, intss, int, bool, row, frac, fracs, ← List.map_take, ← List.map_drop, List.eraseIdx, andThen, hlt]
    refine tr_seq (tr_awp (live := [true, true, true, false, false, false, true, true, true, false, false, false, true, false, false, false, true, true, true, false, false, false, false, false, false, false, false, false, false, false, false, false, false, false, false, false, false, true]) (ctxM_ok eqOk hG hM) mixed _ _ _ ?_)
    simp (config := {maxSteps := 1000000}) [List.range, List.range.loop, ints, intss, int, bool, row, frac, fracs, ← List.map_take, ← List.map_drop, List.eraseIdx, andThen, hlt]
    refine tr_seq (tr_block ?_)
    refine tr_seq (tr_awp (live := [true, true, true, false, false, false, true, true, true, false, false, false, true, false, false, false, true, true, true, false, false, false, false, false, false, false, false, false, false, false, false, false, false, false, false, false, false, true]) (ctxM_ok eqOk hG hM) mixed _ _ _ ?_)
    simp (config := {maxSteps := 1000000}) [List.range, List.range.loop, ints, intss, int, bool, row, frac, fracs, ← List.map_take, ← List.map_drop, List.eraseIdx, andThen, hlt]
    refine tr_seq (tr_awp (live := [true, true, true, false, false, false, true, true, true, false, false, false, true, false, false, false, true, true, true, false, false, false, false, false, false, false, false, false, false, false, false, false, false, false, false, false, false, true]) (ctxM_ok eqOk hG hM) mixed _ _ _ ?_)
    have hq' : ¬ at0 l (l.length - 1) = (k : Int) → ¬ (k : Int) = at0 l (l.length - 1) := fun h e => h e.symm
    by_cases hskip : ¬ at0 l (l.length - 1) = (k : Int) ∧ 0 ≤ pos l (k : Int)
    · obtain ⟨hq, hpos⟩ := hskip
      have hok : okD l k = false := by simp [okD, hq, hpos]
      rw [hok] at hsucc
      simp only [Bool.false_eq_true, if_false, List.append_nil] at hsucc
      subst hsucc
      have hz' := hz
      simp (config := {maxSteps := 1000000}) [List.range, List.range.loop, ints, intss, int, bool, row, frac, fracs, ← List.map_take, ← List.map_drop, List.eraseIdx, andThen, hl0, hll, hcast, hlast, hq, hq' hq, mHas_at, hpos]
      refine tr_awp (live := [true, true, true, false, false, false, true, true, true, false, false, false, true, false, false, false, true, true, true, false, false, false, false, false, false, false, false, false, false, false, false, false, false, false, false, false, false, true]) (ctxM_ok eqOk hG hM) mixed _ _ _ ?_
      simp (config := {maxSteps := 1000000}) [List.range, List.range.loop, ints, intss, int, bool, row, frac, fracs, ← List.map_take, ← List.map_drop, List.eraseIdx, andThen, hwk]
      refine ⟨k + 1, ?_⟩
      rw [hL', rwA_ne hz',rwT_ne hz']
      simp [sub, slotsLe, clean, keep, refsL, refs, once, place, renL, ren, List.replicate, int, bool]
      omega
    have hok : okD l k = true := by
      simp only [okD, Bool.or_eq_true, decide_eq_true_eq]
      by_cases hq : at0 l (l.length - 1) = (k : Int)
      · exact .inr hq
      · exact .inl (by rcases Int.lt_or_le (pos l (k : Int)) 0 with h | h; exact h; exact (hskip ⟨hq, h⟩).elim)
    rw [if_pos hok] at hsucc
    have hR := congrArg List.length hsucc
    simp only [List.length_append, List.length_cons, List.length_nil] at hR
    have hb1 : R'.length ≤ 4611686018427387903 ∧ (R'.length + 1) * 24 ≤ 140737488355328 := by omega
    have hb2 : L.length + (R'.length + 1) ≤ 4611686018427387904 ∧ (L.length + (R'.length + 1)) * 24 ≤ 140737488355328 := by omega
    by_cases hq : at0 l (l.length - 1) = (k : Int)
    · simp (config := {maxSteps := 1000000}) [List.range, List.range.loop, ints, intss, int, bool, row, frac, fracs, ← List.map_take, ← List.map_drop, List.eraseIdx, andThen, hl0, hll, hcast, hlast, hq]
      refine tr_appS (live := [true, true, true, false, false, false, true, true, true, false, false, false, true, false, false, false, true, true, true, false, false, false, false, false, false, false, false, false, false, false, false, false, false, false, false, false, false, true]) (ctxM_ok eqOk hG hM) 4 42 0 rfl rfl rfl rfl (by simp [mkLd]) (by simp) ?_
      simp (config := {maxSteps := 1000000}) [List.range, List.range.loop, ints, intss, int, bool, row, frac, fracs, ← List.map_take, ← List.map_drop, List.eraseIdx, elemTI]
      rw [appO1_some]
      refine ⟨by decide, by simp, 0, l.map int, [.v (.int .i64 k)], true, ⟨by simp, by simp, by simp [List.range, List.range.loop, ints, intss, int, bool, row, frac, fracs, ← List.map_take, ← List.map_drop, appY], by simp [scal, int], by simp [scal], by simp, by simp; omega, by simp; omega, by simp⟩, ?_, ?_⟩
      · simp (config := {maxSteps := 1000000}) [List.range, List.range.loop, ints, intss, int, bool, row, frac, fracs, ← List.map_take, ← List.map_drop, List.eraseIdx, regB_some, andThen, hcall, htk, hlb, hlb2, hsc, hb1, hb2]
        refine tr_awp (live := [true, true, true, false, false, false, true, true, true, false, false, false, true, false, false, false, true, true, true, false, false, false, false, false, false, false, false, false, false, false, false, false, false, false, false, false, false, true]) (ctxM_ok eqOk hG hM) mixed _ _ _ ?_
        simp (config := {maxSteps := 1000000}) [List.range, List.range.loop, ints, intss, int, bool, row, frac, fracs, ← List.map_take, ← List.map_drop, List.eraseIdx, andThen, hwk]
        refine ⟨k + 1, ?_⟩
        rw [hL', hsucc]
        have hz'' : L ++ x0 :: R' ≠ [] := by simp
        rw [rwA_ne hz'', rwT_ne hz'']
        simp [sub, slotsLe, clean, keep, refsL, refs, once, place, renL, ren, List.replicate, int, bool, row]
        omega
      · simp (config := {maxSteps := 1000000}) [List.range, List.range.loop, ints, intss, int, bool, row, frac, fracs, ← List.map_take, ← List.map_drop, List.eraseIdx, regB_some, andThen, hcall, htk, hlb, hlb2, hsc, hb1, hb2]
        refine tr_awp (live := [true, true, true, false, false, false, true, true, true, false, false, false, true, false, false, false, true, true, true, false, false, false, false, false, false, false, false, false, false, false, false, false, false, false, false, false, false, true]) (ctxM_ok eqOk hG hM) mixed _ _ _ ?_
        simp (config := {maxSteps := 1000000}) [List.range, List.range.loop, ints, intss, int, bool, row, frac, fracs, ← List.map_take, ← List.map_drop, List.eraseIdx, andThen, hwk]
        refine ⟨k + 1, ?_⟩
        rw [hL', hsucc]
        have hz'' : L ++ x0 :: R' ≠ [] := by simp
        rw [rwA_ne hz'', rwT_ne hz'']
        simp [sub, slotsLe, clean, keep, refsL, refs, once, place, renL, ren, List.replicate, int, bool, row]
        omega
    · have hpos : ¬ 0 ≤ pos l (k : Int) := fun e => hskip ⟨hq, e⟩
      have hpos' : pos l (k : Int) < 0 := by omega
      simp (config := {maxSteps := 1000000}) [List.range, List.range.loop, ints, intss, int, bool, row, frac, fracs, ← List.map_take, ← List.map_drop, List.eraseIdx, andThen, hl0, hll, hcast, hlast, hq, hq' hq, mHas_at, hpos, hpos']
      refine tr_appS (live := [true, true, true, false, false, false, true, true, true, false, false, false, true, false, false, false, true, true, true, false, false, false, false, false, false, false, false, false, false, false, false, false, false, false, false, false, false, true]) (ctxM_ok eqOk hG hM) 4 42 0 rfl rfl rfl rfl (by simp [mkLd]) (by simp) ?_
      simp (config := {maxSteps := 1000000}) [List.range, List.range.loop, ints, intss, int, bool, row, frac, fracs, ← List.map_take, ← List.map_drop, List.eraseIdx, elemTI]
      rw [appO1_some]
      refine ⟨by decide, by simp, 0, l.map int, [.v (.int .i64 k)], true, ⟨by simp, by simp, by simp [List.range, List.range.loop, ints, intss, int, bool, row, frac, fracs, ← List.map_take, ← List.map_drop, appY], by simp [scal, int], by simp [scal], by simp, by simp; omega, by simp; omega, by simp⟩, ?_, ?_⟩
      · simp (config := {maxSteps := 1000000}) [List.range, List.range.loop, ints, intss, int, bool, row, frac, fracs, ← List.map_take, ← List.map_drop, List.eraseIdx, regB_some, andThen, hcall, htk, hlb, hlb2, hsc, hb1, hb2]
        refine tr_awp (live := [true, true, true, false, false, false, true, true, true, false, false, false, true, false, false, false, true, true, true, false, false, false, false, false, false, false, false, false, false, false, false, false, false, false, false, false, false, true]) (ctxM_ok eqOk hG hM) mixed _ _ _ ?_
        simp (config := {maxSteps := 1000000}) [List.range, List.range.loop, ints, intss, int, bool, row, frac, fracs, ← List.map_take, ← List.map_drop, List.eraseIdx, andThen, hwk]
        refine ⟨k + 1, ?_⟩
        rw [hL', hsucc]
        have hz'' : L ++ x0 :: R' ≠ [] := by simp
        rw [rwA_ne hz'', rwT_ne hz'']
        simp [sub, slotsLe, clean, keep, refsL, refs, once, place, renL, ren, List.replicate, int, bool, row]
        omega
      · simp (config := {maxSteps := 1000000}) [List.range, List.range.loop, ints, intss, int, bool, row, frac, fracs, ← List.map_take, ← List.map_drop, List.eraseIdx, regB_some, andThen, hcall, htk, hlb, hlb2, hsc, hb1, hb2]
        refine tr_awp (live := [true, true, true, false, false, false, true, true, true, false, false, false, true, false, false, false, true, true, true, false, false, false, false, false, false, false, false, false, false, false, false, false, false, false, false, false, false, true]) (ctxM_ok eqOk hG hM) mixed _ _ _ ?_
        simp (config := {maxSteps := 1000000}) [List.range, List.range.loop, ints, intss, int, bool, row, frac, fracs, ← List.map_take, ← List.map_drop, List.eraseIdx, andThen, hwk]
        refine ⟨k + 1, ?_⟩
        rw [hL', hsucc]
        have hz'' : L ++ x0 :: R' ≠ [] := by simp
        rw [rwA_ne hz'', rwT_ne hz'']
        simp [sub, slotsLe, clean, keep, refsL, refs, once, place, renL, ren, List.replicate, int, bool, row]
        omega

end Go.Proofs.Ytakladjlnkojjaa.Ax

/-
  Contracts: all divisions, of the program and of the reference. No condition.
-/
namespace Go.Proofs.Ytakladjlnkojjaa.Ax
open Go Go.RowKit
set_option linter.unusedSimpArgs false

theorem div_all : ∀ r, FnMut Try.prog 77 (mDv r)
  | 0 => div_zero
  | r + 1 => div_succ (div_all r)

/-- The search from the beginning. -/
noncomputable def mDvN : List AV → Option AV := mk (fun (p : Nat × Nat) => (1 ≤ p.1 ∧ p.1 ≤ 3) ∧ 1 ≤ p.2 ∧ p.2 ≤ 10) (fun p => [.sl true 1 [], int (p.1 : Int), int (p.2 : Int)]) (fun p => intss false (dvL p.1 p.2 []))
theorem mDvN_at (n p : Nat) (h : (1 ≤ n ∧ n ≤ 3) ∧ 1 ≤ p ∧ p ≤ 10) : mDvN [.sl true 1 [], .v (.int .i64 (n : Int)), .v (.int .i64 (p : Int))] = some (.sl false 1 ((dvL n p []).map row)) :=
  mk_eq (enc := fun (p : Nat × Nat) => [.sl true 1 [], int (p.1 : Int), int (p.2 : Int)]) (f := fun p => intss false (dvL p.1 p.2 [])) (x := (n, p)) (by
    rintro ⟨a, b⟩ ⟨d, e⟩ h
    simp [int] at h
    rw [show a = d by omega, show b = e by omega]) h

set_option maxHeartbeats 4000000 in
theorem divN_ok : (FnOk Try.prog 77 mDvN) := by
  refine mk_ok fun ⟨n, p⟩ h => ?_
  simp only at h
  obtain ⟨⟨hn1, hn3⟩, hp1, hp10⟩ := h
  obtain ⟨r, rfl⟩ : ∃ r, p = r + 1 := ⟨p - 1, by omega⟩
  have hM : FnsMut Try.prog [(77, mDv r)] := .cons (div_all r) .nil
  have hG : FnsOk Try.prog [(53, mClone), (49, mHas)] := (.cons clone_ok (.cons slicesContains_ok .nil))
  refine callOk_awp (ctxM_ok eqOk hG hM) mixed (live := [true, true, true, false, false, false, true, true, true, false, false, false, true, false, false, false, true, true, true, false, false, false, false, false, false, false, false, false, false, false, false, false, false, false, false, false, false, true]) (dt := []) Try.func77 rfl (by kernel_rfl) (by kernel_rfl) fun w0 hlens => ?_
  clear hlens
  have h0 := dvTo_zero (n := n) (r := r) (l := [])
  have hne : ¬ (0 : Int) = ((r + 1 : Nat) : Int) := by omega
  have hne2 : ¬ (0 : Int) = (r : Int) + 1 := by omega
  simp (config := {maxSteps := 1000000}) [Try.f77, List.range, List.range.loop, ints, intss, int, bool, row, frac, fracs, ← List.map_take, ← List.map_drop, List.eraseIdx, hne, hne2]
  refine awp_range (live := [true, true, true, false, false, false, true, true, true, false, false, false, true, false, false, false, true, true, true, false, false, false, false, false, false, false, false, false, false, false, false, false, false, false, false, false, false, true]) (ctxM_ok eqOk hG hM) mixed [true, true, true, false, false, false, false, true, false, false, false, false, false, false, false, false, true, true] (n) (fun k => True) (fun k => ⟨[.sl true 1 [], int (n : Int), int ((r + 1 : Nat) : Int), .junk, .junk, .junk, .junk, rwA 0 (dvTo n r [] k), .junk, .junk, .junk, .junk, .junk, .junk, .junk, .junk, int (n : Int), int k, .junk, .junk, .junk, .junk, .junk, .junk, .junk, .junk, .junk, .junk, .junk, .junk, .junk, .junk, .junk, .junk, .junk, .junk, .junk, .junk, .junk, .junk, .junk, .junk, .junk, .junk, .junk, .junk, .junk, .junk, .junk], rwT (dvTo n r [] k)⟩) ?_ (by simp [sub, slotsLe, clean, keep, refsL, refs, once, place, renL, ren, List.replicate, int, bool, h0, rwA, rwT]) ?_ ?_ ?_
  · omega
  · trivial
  · intro k hk _ hwk
    have hsucc := dvTo_succ (n := n) (r := r) (l := []) (k := k)
    rw [if_pos okD_nil, List.nil_append] at hsucc
    have hcall := mDv_at r [(k : Int)] n (r + 1) ⟨by simp; omega, hn3, hp10, ⟨k, hk, by simp [at0]⟩, by simp⟩
    simp only [List.map_cons, List.map_nil, int] at hcall
    rw [show ((r + 1 : Nat) : Int) = (r : Int) + 1 from rfl] at hcall
    have hRne : dvL n r [(k : Int)] ≠ [] := dvL_ne hk (.inr (by simp [at0]))
    have hall := dvL_small (n := n) (r := r + 1) (l := []) hn3 (by omega)
    have hle := dvTo_le (n := n) (r := r) (l := []) (k := k + 1) (j := n) (by omega)
    rw [dvTo_all] at hle
    generalize dvL n r [(k : Int)] = R at *
    obtain ⟨x0, R', rfl⟩ := List.exists_cons_of_ne_nil hRne
    have hsc : (List.all (row x0 :: R'.map row) scal) = false := by simp [row, scal]
    generalize hL : dvTo n r [] k = L at *
    generalize hL' : dvTo n r [] (k + 1) = L' at *
    subst hsucc
    have hR : (L ++ x0 :: R').length = L.length + (R'.length + 1) := by simp
    have hb1 : R'.length ≤ 4611686018427387903 ∧ (R'.length + 1) * 24 ≤ 140737488355328 := by omega
    have hb2 : L.length + (R'.length + 1) ≤ 4611686018427387904 ∧ (L.length + (R'.length + 1)) * 24 ≤ 140737488355328 := by omega
    have hz'' : L ++ x0 :: R' ≠ [] := by simp
    rw [rwA_ne hz'', rwT_ne hz'']
    by_cases hz : L = []
    · subst hz
      rw [show rwA 0 ([] : List (Bool × List Int)) = .sl true 1 [] from rfl, show rwT ([] : List (Bool × List Int)) = [] from rfl]
      simp (config := {maxSteps := 1000000}) [List.range, List.range.loop, ints, intss, int, bool, row, frac, fracs, ← List.map_take, ← List.map_drop, List.eraseIdx, hk, hwk, hcall, hsc, hb1, row]
      done
    · rw [rwA_ne hz, rwT_ne hz]
      simp (config := {maxSteps := 1000000}) [List.range, List.range.loop, ints, intss, int, bool, row, frac, fracs, ← List.map_take, ← List.map_drop, List.eraseIdx, hk, hwk, hcall, hsc, hb1, hb2, row]
      done
  · intro _
    have hnz : dvTo n r [] n ≠ [] := by rw [dvTo_all]; exact dvL_ne (i := 0) (by omega) (.inl rfl)
    rw [rwA_ne hnz, rwT_ne hnz]
    simp (config := {maxSteps := 1000000}) [List.range, List.range.loop, ints, intss, int, bool, row, frac, fracs, ← List.map_take, ← List.map_drop, List.eraseIdx, dvTo_all]
    done

/-- All divisions of a cake. -/
def divs (xss : List (Bool × List Int)) : List (Bool × List Int) := if rectB xss 3 10 100 = true then dvL xss.length (wid xss) [] else []
theorem divs_len {xss : List (Bool × List Int)} : (divs xss).length ≤ 59049 := by
  unfold divs
  split
  · rename_i h
    have := rect_len h
    exact dvL_small (by omega) (by omega)
  · simp
noncomputable def mAllD : List AV → Option AV := mk (fun _ => True) (fun (p : (Bool) × (List (Bool × List Int))) => [intss p.1 p.2]) (fun p => .sl (!rectB p.2 3 10 100) 1 ((divs p.2).map row))
theorem mAllD_at (nl : Bool) (xss : List (Bool × List Int)) : mAllD [.sl nl 1 (xss.map row)] = some (.sl (!rectB xss 3 10 100) 1 ((divs xss).map row)) :=
  mk_eq (enc := fun (p : (Bool) × (List (Bool × List Int))) => [intss p.1 p.2]) (x := (nl, xss)) (by rintro ⟨a0, a1⟩ ⟨b0, b1⟩ h; simp [ints, intss, int, bool, row, frac, fracs, map_int_inj, map_row_inj, frac_inj, map_frac_inj] at h; simp [h]) trivial

set_option maxHeartbeats 1000000 in
theorem implAllDivisions_ok : FnOk Try.prog 31 mAllD := by
  refine mk_ok fun ⟨nl, xss⟩ _ => ?_
  have hG : FnsOk Try.prog [(72, (mGrid 3 10 100)), (77, mDvN)] := (.cons implCakeOk_ok (.cons divN_ok .nil))
  refine callOk_awp (ctx_ok eqOk hG) mixed (live := [true, false, true, false, false, true]) (dt := []) Try.func31 rfl (by kernel_rfl) (by kernel_rfl) fun w0 hlens => ?_
  clear hlens
  cases h : rectB xss 3 10 100 with
  | false => simp (config := {maxSteps := 1000000}) [Try.f31, List.range, List.range.loop, ints, intss, int, bool, row, frac, fracs, ← List.map_take, ← List.map_drop, mGrid_at, h, divs]
  | true =>
    have hl := rect_len h
    have hp := rect_pos h
    have hw : (xss[0]'hp).2.length = wid xss := (rect_row h hp).1
    have hc := mDvN_at xss.length (wid xss) ⟨⟨by omega, by omega⟩, by omega, by omega⟩
    simp (config := {maxSteps := 1000000}) [Try.f31, List.range, List.range.loop, ints, intss, int, bool, row, frac, fracs, ← List.map_take, ← List.map_drop, mGrid_at, h, hp, hw, hc, divs]

end Go.Proofs.Ytakladjlnkojjaa.Ax
