/-
  Contracts: marks on lists of lists of fractions, and whether they stand. No condition.
-/
import Derived.Test.YtkfgmpmeipilnaaCB3
import Derived.Test.YtkfgmpmeipilnaaCG3
namespace Go.Proofs.Ytkfgmpmeipilnaa.Ax
open Go Go.RowKit
set_option linter.unusedSimpArgs false

/-- Rows of which the first i are marked. -/
def mkRowF (k : Int) (xss : List (Bool × List (Int × Int))) (j : Nat) : Bool × List (Int × Int) := ((xss.getD j (true, [])).1, mkdF (k + 2 * (rowSumF xss j : Int)) (xss.getD j (true, [])).2.length)
def mkRTF (k : Int) (xss : List (Bool × List (Int × Int))) (i : Nat) : List (Bool × List (Int × Int)) := (List.range xss.length).map fun j => if j < i then mkRowF k xss j else xss.getD j (true, [])
def mkRSF (k : Int) (xss : List (Bool × List (Int × Int))) : List (Bool × List (Int × Int)) := (List.range xss.length).map (mkRowF k xss)
theorem mkRTF_len {k : Int} {xss : List (Bool × List (Int × Int))} {i : Nat} : (mkRTF k xss i).length = xss.length := by simp [mkRTF]
theorem mkRSF_len {k : Int} {xss : List (Bool × List (Int × Int))} : (mkRSF k xss).length = xss.length := by simp [mkRSF]
theorem mkRSF_take {k : Int} {xss : List (Bool × List (Int × Int))} : (mkRSF k xss).take xss.length = mkRSF k xss := List.take_of_length_le (by simp [mkRSF_len])
theorem mkRTF_zero {k : Int} {xss : List (Bool × List (Int × Int))} : mkRTF k xss 0 = xss := by
  apply List.ext_getElem
  · simp [mkRTF]
  · intro i h1 h2
    simp only [mkRTF, List.getElem_map, List.getElem_range, Nat.not_lt_zero, if_false, getDF h2]
theorem mkRTF_all {k : Int} {xss : List (Bool × List (Int × Int))} : mkRTF k xss xss.length = mkRSF k xss := by
  apply List.ext_getElem
  · simp [mkRTF, mkRSF]
  · intro i h1 h2
    have h3 : i < xss.length := by simpa [mkRSF] using h2
    simp [mkRTF, mkRSF, h3]
theorem mkRTF_at {k : Int} {xss : List (Bool × List (Int × Int))} {i : Nat} (h : i < xss.length) (h' : i < (mkRTF k xss i).length) : (mkRTF k xss i)[i] = xss[i] := by
  simp only [mkRTF, List.getElem_map, List.getElem_range, Nat.lt_irrefl, if_false, getDF h]
theorem mkRSF_at {k : Int} {xss : List (Bool × List (Int × Int))} {i : Nat} (h : i < xss.length) (h' : i < (mkRSF k xss).length) : (mkRSF k xss)[i] = (xss[i].1, mkdF (k + 2 * (rowSumF xss i : Int)) xss[i].2.length) := by
  simp only [mkRSF, List.getElem_map, List.getElem_range, mkRowF, getDF h]
theorem mkRTF_set {k : Int} {xss : List (Bool × List (Int × Int))} {i : Nat} (h : i < xss.length) : ((mkRTF k xss i).map frow).set i (.sl xss[i].1 2 ((mkdF (k + 2 * (rowSumF xss i : Int)) xss[i].2.length).map frac)) = (mkRTF k xss (i + 1)).map frow := by
  have : (AV.sl xss[i].1 2 ((mkdF (k + 2 * (rowSumF xss i : Int)) xss[i].2.length).map frac)) = frow (mkRowF k xss i) := by simp only [frow, mkRowF, getDF h]
  rw [this, ← List.map_set]
  congr 1
  apply List.ext_getElem
  · simp [mkRTF]
  · intro j h1 h2
    rw [List.getElem_set]
    simp only [mkRTF, List.getElem_map, List.getElem_range]
    by_cases e : i = j
    · subst e; simp
    · rw [if_neg e]
      by_cases h3 : j < i
      · rw [if_pos h3, if_pos (by omega)]
      · rw [if_neg h3, if_neg (by omega)]

theorem needF_own {xss : List (Bool × List (Int × Int))} : needF (ownF xss) = needF xss := by
  unfold needF rowSumF ownF; simp [← List.map_take, Function.comp_def]

noncomputable def mMarkFF : List AV → Option (Nat × AV × AV) := mkM (fun (p : Bool × List (Bool × List (Int × Int)) × Int) => 0 ≤ p.2.2 ∧ p.2.2 + 2 * needF p.2.1 ≤ 2 ^ 61) (fun p => [fracss p.1 p.2.1, int p.2.2]) (fun p => (0, int (p.2.2 + 2 * (rowSumF p.2.1 p.2.1.length : Int)), fracss p.1 (mkRSF p.2.2 p.2.1)))
theorem mMarkFF_at (nl : Bool) (xss : List (Bool × List (Int × Int))) (k : Int) (h : 0 ≤ k ∧ k + 2 * needF xss ≤ 2 ^ 61) : mMarkFF [.sl nl 1 (xss.map frow), .v (.int .i64 k)] = some (0, .v (.int .i64 (k + 2 * (rowSumF xss xss.length : Int))), .sl nl 1 ((mkRSF k xss).map frow)) :=
  mkM_eq (enc := fun (p : Bool × List (Bool × List (Int × Int)) × Int) => [fracss p.1 p.2.1, int p.2.2]) (x := (nl, xss, k)) (by rintro ⟨a, b, c⟩ ⟨d, e, f⟩ h; simp [fracss, int, map_frow_inj] at h; simp [h]) h

set_option maxHeartbeats 2000000 in
theorem markFractionSS_ok : FnMut Try.prog 17 mMarkFF := by
  refine mkM_ok fun ⟨nl, xss, k⟩ ⟨hk0, hk⟩ => ?_
  simp only at hk0 hk
  simp only [needF] at hk
  have hG : FnsOk Try.prog [] := .nil
  have hM : FnsMut Try.prog [(30, mMarkF)] := (.cons markFractionS_ok .nil)
  refine mutOk_awp (ctxM_ok eqOk hG hM) mixed (live := [true, true, false, false, true, true, false, false, false, true]) (dt := []) (pos := 0) rfl Try.func17 rfl (by kernel_rfl) (by kernel_rfl) fun US Uv w0 hlens => ?_
  simp [Try.f17, List.range, List.range.loop, ints, intss, int, bool, row, frac, fracs, ← List.map_take, ← List.map_drop, fracss, frow, ctxM]
  refine awp_range (live := [true, true, false, false, true, true, false, false, false, true]) (ctxM_ok eqOk hG hM) mixed [true, true, false, false, false, true] (xss.length) (fun i => True) (fun i => ⟨[.ref 0 [] 0 xss.length, int (k + 2 * (rowSumF xss i : Int)), .junk, .junk, .junk, int i, .junk, .junk, .junk, .junk, .junk, .junk, .junk, .junk, .junk, .junk, .junk, .junk, .junk], [⟨true, .sl nl 1 ((mkRTF k xss i).map frow)⟩]⟩) ?_ (by simp [sub, slotsLe, clean, keep, refsL, refs, once, place, renL, ren, List.replicate, int, bool, mkRTF_zero, rowSumF_zero]) ?_ ?_ ?_
  · omega
  · trivial
  · intro i h _ hw
    have hs := mkRTF_set (k := k) h
    have h1 := rowSumF_succ h
    have h2 := rowSumF_mono (xss := xss) (show i + 1 ≤ xss.length from h)
    have hz := mMarkF_at xss[i].1 xss[i].2 (k + 2 * (rowSumF xss i : Int)) ⟨by omega, by omega⟩
    have e : k + 2 * (rowSumF xss i : Int) + 2 * (xss[i].2.length : Int) = k + 2 * (rowSumF xss (i + 1) : Int) := by omega
    simp (config := {contextual := true}) [List.range, List.range.loop, ints, intss, int, bool, row, frac, fracs, ← List.map_take, ← List.map_drop, fracss, frow, List.eraseIdx, h, hw, mkRTF_len, mkRTF_at, hz, mkdF_len, hs, e]
  · intro _
    simp (config := {contextual := true}) [List.range, List.range.loop, ints, intss, int, bool, row, frac, fracs, ← List.map_take, ← List.map_drop, fracss, frow, List.eraseIdx, mkRTF_len, mkRTF_all, mkRSF_len]

noncomputable def mHeldFF : List AV → Option AV := mk (fun (p : Bool × List (Bool × List (Int × Int)) × Int) => 0 ≤ p.2.2 ∧ p.2.2 + 2 * needF p.2.1 ≤ 2 ^ 61) (fun p => [fracss p.1 (mkRSF p.2.2 p.2.1), int p.2.2]) (fun p => int (p.2.2 + 2 * (((mkRSF p.2.2 p.2.1).map (·.2.length)).sum : Nat)))
theorem mkRSF_sum {k : Int} {xss : List (Bool × List (Int × Int))} : ((mkRSF k xss).map (·.2.length)).sum = rowSumF xss xss.length := by
  have : (mkRSF k xss).map (·.2.length) = xss.map (·.2.length) := by
    apply List.ext_getElem
    · simp [mkRSF]
    · intro i h1 h2
      have h3 : i < xss.length := by simpa using h2
      rw [List.getElem_map, List.getElem_map, mkRSF_at h3]; simp [mkdF_len]
  rw [this]; simp [rowSumF]
theorem mHeldFF_at (nl : Bool) (xss : List (Bool × List (Int × Int))) (k : Int) (h : 0 ≤ k ∧ k + 2 * needF xss ≤ 2 ^ 61) : mHeldFF [.sl nl 1 ((mkRSF k xss).map frow), .v (.int .i64 k)] = some (.v (.int .i64 (k + 2 * (rowSumF xss xss.length : Int)))) := by
  refine (mk_eq (enc := fun p : Bool × List (Bool × List (Int × Int)) × Int => [fracss p.1 (mkRSF p.2.2 p.2.1), int p.2.2]) (x := (nl, xss, k)) (by
    rintro ⟨a, b, c⟩ ⟨d, e, f⟩ h
    simp [fracss, int, map_frow_inj] at h
    obtain ⟨⟨_, h1⟩, rfl⟩ := h
    simp only [h1]) h).trans ?_
  simp only [int, mkRSF_sum]

set_option maxHeartbeats 2000000 in
theorem heldFractionSS_ok : FnOk Try.prog 18 mHeldFF := by
  refine mk_ok fun ⟨nl, xss, k⟩ ⟨hk0, hk⟩ => ?_
  simp only at hk0 hk
  simp only [needF] at hk
  simp only [mkRSF_sum]
  have hG : FnsOk Try.prog [(31, mHeldF)] := (.cons heldFractionS_ok .nil)
  refine callOk_awp (ctx_ok eqOk hG) mixed (live := [true, true, false, false, true, true, false, false, false, true, false, false, false, false, false, false, false, false, false, true]) (dt := []) Try.func18 rfl (by kernel_rfl) (by kernel_rfl) fun w0 hlens => ?_
  clear hlens
  simp [Try.f18, List.range, List.range.loop, ints, intss, int, bool, row, frac, fracs, ← List.map_take, ← List.map_drop, fracss, frow]
  refine awp_range (live := [true, true, false, false, true, true, false, false, false, true, false, false, false, false, false, false, false, false, false, true]) (ctx_ok eqOk hG) mixed [true, true, false, false, false, true] (xss.length) (fun i => True) (fun i => ⟨[fracss nl (mkRSF k xss), int (k + 2 * (rowSumF xss i : Int)), .junk, .junk, .junk, int i, .junk, .junk, .junk, .junk, .junk, .junk, .junk, .junk, .junk, .junk, .junk, .junk, .junk, .junk, .junk], []⟩) ?_ (by simp [sub, slotsLe, clean, keep, refsL, refs, once, place, renL, ren, List.replicate, int, bool, fracss, rowSumF_zero]) ?_ ?_ ?_
  · omega
  · trivial
  · intro i h _ hw
    have h1 := rowSumF_succ h
    have h2 := rowSumF_mono (xss := xss) (show i + 1 ≤ xss.length from h)
    have hz := mHeldF_at xss[i].1 xss[i].2.length (k + 2 * (rowSumF xss i : Int)) ⟨by omega, by omega⟩
    have e : k + 2 * (rowSumF xss i : Int) + 2 * (xss[i].2.length : Int) = k + 2 * (rowSumF xss (i + 1) : Int) := by omega
    have hn : ¬ (k + 2 * (rowSumF xss (i + 1) : Int) < 0) := by omega
    simp (config := {contextual := true}) [List.range, List.range.loop, ints, intss, int, bool, row, frac, fracs, ← List.map_take, ← List.map_drop, fracss, frow, h, hw, mkRSF_len, mkRSF_at, hz, e, hn]
  · intro _
    simp (config := {contextual := true}) [List.range, List.range.loop, ints, intss, int, bool, row, frac, fracs, ← List.map_take, ← List.map_drop, fracss, frow, mkRSF_len]

end Go.Proofs.Ytkfgmpmeipilnaa.Ax
