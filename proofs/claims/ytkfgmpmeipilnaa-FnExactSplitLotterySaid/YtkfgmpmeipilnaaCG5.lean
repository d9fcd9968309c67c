/-
  Contracts: marks on lists of ints, and whether they stand. No condition.
-/
import Derived.Test.YtkfgmpmeipilnaaCB3
import Derived.Test.YtkfgmpmeipilnaaCB2
import Derived.Test.YtkfgmpmeipilnaaCG1
namespace Go.Proofs.Ytkfgmpmeipilnaa.Ax
open Go Go.RowKit
set_option linter.unusedSimpArgs false

/-- The marks from k on, so many. -/
def mkd (k : Int) (n : Nat) : List Int := (List.range n).map fun (i : Nat) => k + i
theorem mkd_len {k : Int} {n : Nat} : (mkd k n).length = n := by simp [mkd]
theorem mkd_take {k : Int} {n : Nat} : (mkd k n).take n = mkd k n := List.take_of_length_le (by simp [mkd_len])
theorem mkd_at {k : Int} {n i : Nat} (h : i < (mkd k n).length) : (mkd k n)[i] = k + i := by simp [mkd]
/-- A list whose first i numbers are marked. -/
def mkTo (k : Int) (xs : List Int) (i : Nat) : List Int := mkd k i ++ xs.drop i
theorem mkTo_len {k : Int} {xs : List Int} {i : Nat} (h : i ≤ xs.length) : (mkTo k xs i).length = xs.length := by simp [mkTo, mkd_len]; omega
theorem mkTo_zero {k : Int} {xs : List Int} : mkTo k xs 0 = xs := by simp [mkTo, mkd]
theorem mkTo_all {k : Int} {xs : List Int} : mkTo k xs xs.length = mkd k xs.length := by simp [mkTo]
theorem mkTo_set {k : Int} {xs : List Int} {i : Nat} (h : i < xs.length) : ((mkTo k xs i).map int).set i (.v (.int .i64 (k + i))) = (mkTo k xs (i + 1)).map int := by
  have : (AV.v (.int .i64 (k + i))) = int (k + i) := rfl
  rw [this, ← List.map_set]
  congr 1
  unfold mkTo
  rw [List.set_append, if_neg (by simp [mkd_len]), mkd_len, Nat.sub_self, drop_get h, List.set_cons_zero]
  simp [mkd, List.range_succ]

noncomputable def mMarkI : List AV → Option (Nat × AV × AV) := mkM (fun (p : Bool × List Int × Int) => 0 ≤ p.2.2 ∧ p.2.2 + p.2.1.length ≤ 2 ^ 62) (fun p => [ints p.1 p.2.1, int p.2.2]) (fun p => (0, int (p.2.2 + p.2.1.length), ints p.1 (mkd p.2.2 p.2.1.length)))
theorem mMarkI_at (nl : Bool) (xs : List Int) (k : Int) (h : 0 ≤ k ∧ k + xs.length ≤ 2 ^ 62) : mMarkI [.sl nl 1 (xs.map int), .v (.int .i64 k)] = some (0, .v (.int .i64 (k + xs.length)), .sl nl 1 ((mkd k xs.length).map int)) :=
  mkM_eq (enc := fun (p : Bool × List Int × Int) => [ints p.1 p.2.1, int p.2.2]) (x := (nl, xs, k)) (by rintro ⟨a, b, c⟩ ⟨d, e, f⟩ h; simp [ints, int, map_int_inj] at h; simp [h]) h

set_option maxHeartbeats 1000000 in
theorem markIntS_ok : FnMut Try.prog 54 mMarkI := by
  refine mkM_ok fun ⟨nl, xs, k⟩ ⟨hk0, hk⟩ => ?_
  simp only at hk0 hk
  have hG : FnsOk Try.prog [] := .nil
  refine mutOk_awp (ctx_ok eqOk hG) mixed (live := [true, true, false, false, true, true, false, false, false, true]) (dt := []) (pos := 0) rfl Try.func54 rfl (by kernel_rfl) (by kernel_rfl) fun US Uv w0 hlens => ?_
  simp [Try.f54, List.range, List.range.loop, ints, intss, int, bool, row, frac, fracs, ← List.map_take, ← List.map_drop]
  refine awp_range (live := [true, true, false, false, true, true, false, false, false, true]) (ctx_ok eqOk hG) mixed [true, true, false, false, false, true] (xs.length) (fun i => True) (fun i => ⟨[.ref 0 [] 0 xs.length, int (k + i), .junk, .junk, .junk, int i, .junk, .junk, .junk, .junk, .junk, .junk, .junk, .junk, .junk, .junk, .junk, .junk, .junk], [⟨true, .sl nl 1 ((mkTo k xs i).map int)⟩]⟩) ?_ (by simp [sub, slotsLe, clean, keep, refsL, refs, once, place, renL, ren, List.replicate, int, bool, mkTo_zero]) ?_ ?_ ?_
  · omega
  · trivial
  · intro i h _ hw
    have hl := mkTo_len (k := k) (xs := xs) (i := i) (by omega)
    have hl' := mkTo_len (k := k) (xs := xs) (i := i + 1) (by omega)
    have hs := mkTo_set (k := k) h
    have hw2 : IntKind.i64.wrap (k + i + 1) = k + i + 1 := wrapI (by omega) (by omega)
    have e : (k + (i : Int) + 1) = k + ((i : Int) + 1) := by omega
    simp (config := {contextual := true}) [List.range, List.range.loop, ints, intss, int, bool, row, frac, fracs, ← List.map_take, ← List.map_drop, List.eraseIdx, h, hw, hl, hl', hs, hw2]
    exact e
  · intro _
    have hl := mkTo_len (k := k) (xs := xs) (i := xs.length) (by omega)
    simp (config := {contextual := true}) [List.range, List.range.loop, ints, intss, int, bool, row, frac, fracs, ← List.map_take, ← List.map_drop, List.eraseIdx, hl, mkTo_all, mkd_len]

noncomputable def mHeldI : List AV → Option AV := mk (fun (p : Bool × Nat × Int) => 0 ≤ p.2.2 ∧ p.2.2 + p.2.1 ≤ 2 ^ 62) (fun p => [ints p.1 (mkd p.2.2 p.2.1), int p.2.2]) (fun p => int (p.2.2 + p.2.1))
theorem mHeldI_at (nl : Bool) (n : Nat) (k : Int) (h : 0 ≤ k ∧ k + n ≤ 2 ^ 62) : mHeldI [.sl nl 1 ((mkd k n).map int), .v (.int .i64 k)] = some (.v (.int .i64 (k + n))) :=
  mk_eq (enc := fun (p : Bool × Nat × Int) => [ints p.1 (mkd p.2.2 p.2.1), int p.2.2]) (x := (nl, n, k)) (by
    rintro ⟨a, b, c⟩ ⟨d, e, f⟩ h
    simp [ints, int, map_int_inj] at h
    obtain ⟨⟨_, h1⟩, h2⟩ := h
    have := congrArg List.length h1
    simp [mkd_len] at this
    simp [h2, this]) h

set_option maxHeartbeats 1000000 in
theorem heldIntS_ok : FnOk Try.prog 91 mHeldI := by
  refine mk_ok fun ⟨nl, n, k⟩ ⟨hk0, hk⟩ => ?_
  simp only at hk0 hk
  have hG : FnsOk Try.prog [] := .nil
  refine callOk_awp (ctx_ok eqOk hG) mixed (live := [true, true, false, false, true, true, false, false, false, true, false, false, false, false, false, false, false, true]) (dt := []) Try.func91 rfl (by kernel_rfl) (by kernel_rfl) fun w0 hlens => ?_
  clear hlens
  simp [Try.f91, List.range, List.range.loop, ints, intss, int, bool, row, frac, fracs, ← List.map_take, ← List.map_drop]
  refine awp_range (live := [true, true, false, false, true, true, false, false, false, true, false, false, false, false, false, false, false, true]) (ctx_ok eqOk hG) mixed [true, true, false, false, false, true] (n) (fun i => True) (fun i => ⟨[ints nl (mkd k n), int (k + i), .junk, .junk, .junk, int i, .junk, .junk, .junk, .junk, .junk, .junk, .junk, .junk, .junk, .junk, .junk, .junk, .junk, .junk, .junk], []⟩) ?_ (by simp [sub, slotsLe, clean, keep, refsL, refs, once, place, renL, ren, List.replicate, int, bool, ints]) ?_ ?_ ?_
  · omega
  · trivial
  · intro i h _ hw
    have hl : i < (mkd k n).length := by rw [mkd_len]; exact h
    have hw2 : IntKind.i64.wrap (k + i + 1) = k + i + 1 := wrapI (by omega) (by omega)
    have e : (k + (i : Int) + 1) = k + ((i : Int) + 1) := by omega
    simp (config := {contextual := true}) [List.range, List.range.loop, ints, intss, int, bool, row, frac, fracs, ← List.map_take, ← List.map_drop, h, hw, hl, hw2, mkd_len, mkd_at]
    exact e
  · intro _
    simp (config := {contextual := true}) [List.range, List.range.loop, ints, intss, int, bool, row, frac, fracs, ← List.map_take, ← List.map_drop, mkd_len]

/-- Rows of which the first i are marked. -/
def mkRow (k : Int) (xss : List (Bool × List Int)) (j : Nat) : Bool × List Int := ((xss.getD j (true, [])).1, mkd (k + rowSum xss j) (xss.getD j (true, [])).2.length)
def mkRT (k : Int) (xss : List (Bool × List Int)) (i : Nat) : List (Bool × List Int) := (List.range xss.length).map fun j => if j < i then mkRow k xss j else xss.getD j (true, [])
def mkRS (k : Int) (xss : List (Bool × List Int)) : List (Bool × List Int) := (List.range xss.length).map (mkRow k xss)
theorem getDD {xss : List (Bool × List Int)} {i : Nat} (h : i < xss.length) : xss.getD i (true, []) = xss[i] := by simp [List.getD_eq_getElem?_getD, h]
theorem mkRT_len {k : Int} {xss : List (Bool × List Int)} {i : Nat} : (mkRT k xss i).length = xss.length := by simp [mkRT]
theorem mkRS_len {k : Int} {xss : List (Bool × List Int)} : (mkRS k xss).length = xss.length := by simp [mkRS]
theorem mkRS_take {k : Int} {xss : List (Bool × List Int)} : (mkRS k xss).take xss.length = mkRS k xss := List.take_of_length_le (by simp [mkRS_len])
theorem mkRT_zero {k : Int} {xss : List (Bool × List Int)} : mkRT k xss 0 = xss := by
  apply List.ext_getElem
  · simp [mkRT]
  · intro i h1 h2
    simp only [mkRT, List.getElem_map, List.getElem_range, Nat.not_lt_zero, if_false, getDD h2]
theorem mkRT_all {k : Int} {xss : List (Bool × List Int)} : mkRT k xss xss.length = mkRS k xss := by
  apply List.ext_getElem
  · simp [mkRT, mkRS]
  · intro i h1 h2
    have h3 : i < xss.length := by simpa [mkRS] using h2
    simp [mkRT, mkRS, h3]
theorem mkRT_at {k : Int} {xss : List (Bool × List Int)} {i : Nat} (h : i < xss.length) (h' : i < (mkRT k xss i).length) : (mkRT k xss i)[i] = xss[i] := by
  simp only [mkRT, List.getElem_map, List.getElem_range, Nat.lt_irrefl, if_false, getDD h]
theorem mkRS_at {k : Int} {xss : List (Bool × List Int)} {i : Nat} (h : i < xss.length) (h' : i < (mkRS k xss).length) : (mkRS k xss)[i] = (xss[i].1, mkd (k + rowSum xss i) xss[i].2.length) := by
  simp only [mkRS, List.getElem_map, List.getElem_range, mkRow, getDD h]
theorem mkRT_set {k : Int} {xss : List (Bool × List Int)} {i : Nat} (h : i < xss.length) : ((mkRT k xss i).map row).set i (.sl xss[i].1 1 ((mkd (k + rowSum xss i) xss[i].2.length).map int)) = (mkRT k xss (i + 1)).map row := by
  have : (AV.sl xss[i].1 1 ((mkd (k + rowSum xss i) xss[i].2.length).map int)) = row (mkRow k xss i) := by simp only [row, mkRow, getDD h]
  rw [this, ← List.map_set]
  congr 1
  apply List.ext_getElem
  · simp [mkRT]
  · intro j h1 h2
    rw [List.getElem_set]
    simp only [mkRT, List.getElem_map, List.getElem_range]
    by_cases e : i = j
    · subst e; simp
    · rw [if_neg e]
      by_cases h3 : j < i
      · rw [if_pos h3, if_pos (by omega)]
      · rw [if_neg h3, if_neg (by omega)]

theorem need_own {xss : List (Bool × List Int)} : need (own xss) = need xss := by
  unfold need rowSum own; simp [← List.map_take, Function.comp_def]

noncomputable def mMarkII : List AV → Option (Nat × AV × AV) := mkM (fun (p : Bool × List (Bool × List Int) × Int) => 0 ≤ p.2.2 ∧ p.2.2 + need p.2.1 ≤ 2 ^ 61) (fun p => [intss p.1 p.2.1, int p.2.2]) (fun p => (0, int (p.2.2 + rowSum p.2.1 p.2.1.length), intss p.1 (mkRS p.2.2 p.2.1)))
theorem mMarkII_at (nl : Bool) (xss : List (Bool × List Int)) (k : Int) (h : 0 ≤ k ∧ k + need xss ≤ 2 ^ 61) : mMarkII [.sl nl 1 (xss.map row), .v (.int .i64 k)] = some (0, .v (.int .i64 (k + rowSum xss xss.length)), .sl nl 1 ((mkRS k xss).map row)) :=
  mkM_eq (enc := fun (p : Bool × List (Bool × List Int) × Int) => [intss p.1 p.2.1, int p.2.2]) (x := (nl, xss, k)) (by rintro ⟨a, b, c⟩ ⟨d, e, f⟩ h; simp [intss, int, map_row_inj] at h; simp [h]) h

set_option maxHeartbeats 2000000 in
theorem markIntSS_ok : FnMut Try.prog 16 mMarkII := by
  refine mkM_ok fun ⟨nl, xss, k⟩ ⟨hk0, hk⟩ => ?_
  simp only at hk0 hk
  simp only [need] at hk
  have hG : FnsOk Try.prog [] := .nil
  have hM : FnsMut Try.prog [(54, mMarkI)] := (.cons markIntS_ok .nil)
  refine mutOk_awp (ctxM_ok eqOk hG hM) mixed (live := [true, true, false, false, true, true, false, false, false, true]) (dt := []) (pos := 0) rfl Try.func16 rfl (by kernel_rfl) (by kernel_rfl) fun US Uv w0 hlens => ?_
  simp [Try.f16, List.range, List.range.loop, ints, intss, int, bool, row, frac, fracs, ← List.map_take, ← List.map_drop, ctxM]
  refine awp_range (live := [true, true, false, false, true, true, false, false, false, true]) (ctxM_ok eqOk hG hM) mixed [true, true, false, false, false, true] (xss.length) (fun i => True) (fun i => ⟨[.ref 0 [] 0 xss.length, int (k + rowSum xss i), .junk, .junk, .junk, int i, .junk, .junk, .junk, .junk, .junk, .junk, .junk, .junk, .junk, .junk, .junk, .junk, .junk], [⟨true, .sl nl 1 ((mkRT k xss i).map row)⟩]⟩) ?_ (by simp [sub, slotsLe, clean, keep, refsL, refs, once, place, renL, ren, List.replicate, int, bool, mkRT_zero, rowSum_zero]) ?_ ?_ ?_
  · omega
  · trivial
  · intro i h _ hw
    have hs := mkRT_set (k := k) h
    have h1 := rowSum_succ h
    have h2 := rowSum_mono (xss := xss) (show i + 1 ≤ xss.length from h)
    have hz := mMarkI_at xss[i].1 xss[i].2 (k + rowSum xss i) ⟨by omega, by omega⟩
    have e : k + (rowSum xss i : Int) + (xss[i].2.length : Int) = k + (rowSum xss (i + 1) : Int) := by omega
    simp (config := {contextual := true}) [List.range, List.range.loop, ints, intss, int, bool, row, frac, fracs, ← List.map_take, ← List.map_drop, List.eraseIdx, h, hw, mkRT_len, mkRT_at, hz, mkd_len, hs, e]
  · intro _
    simp (config := {contextual := true}) [List.range, List.range.loop, ints, intss, int, bool, row, frac, fracs, ← List.map_take, ← List.map_drop, List.eraseIdx, mkRT_len, mkRT_all, mkRS_len]

noncomputable def mHeldII : List AV → Option AV := mk (fun (p : Bool × List (Bool × List Int) × Int) => 0 ≤ p.2.2 ∧ p.2.2 + need p.2.1 ≤ 2 ^ 61) (fun p => [intss p.1 (mkRS p.2.2 p.2.1), int p.2.2]) (fun p => int (p.2.2 + ((mkRS p.2.2 p.2.1).map (·.2.length)).sum))
theorem mkRS_sum {k : Int} {xss : List (Bool × List Int)} : ((mkRS k xss).map (·.2.length)).sum = rowSum xss xss.length := by
  have : (mkRS k xss).map (·.2.length) = xss.map (·.2.length) := by
    apply List.ext_getElem
    · simp [mkRS]
    · intro i h1 h2
      have h3 : i < xss.length := by simpa using h2
      rw [List.getElem_map, List.getElem_map, mkRS_at h3]; simp [mkd_len]
  rw [this]; simp [rowSum]
theorem mHeldII_at (nl : Bool) (xss : List (Bool × List Int)) (k : Int) (h : 0 ≤ k ∧ k + need xss ≤ 2 ^ 61) : mHeldII [.sl nl 1 ((mkRS k xss).map row), .v (.int .i64 k)] = some (.v (.int .i64 (k + rowSum xss xss.length))) := by
  refine (mk_eq (enc := fun p : Bool × List (Bool × List Int) × Int => [intss p.1 (mkRS p.2.2 p.2.1), int p.2.2]) (x := (nl, xss, k)) (by
    rintro ⟨a, b, c⟩ ⟨d, e, f⟩ h
    simp [intss, int, map_row_inj] at h
    obtain ⟨⟨_, h1⟩, rfl⟩ := h
    simp only [h1]) h).trans ?_
  simp only [int, mkRS_sum]

set_option maxHeartbeats 2000000 in
theorem heldIntSS_ok : FnOk Try.prog 39 mHeldII := by
  refine mk_ok fun ⟨nl, xss, k⟩ ⟨hk0, hk⟩ => ?_
  simp only at hk0 hk
  simp only [need] at hk
  simp only [mkRS_sum]
  have hG : FnsOk Try.prog [(91, mHeldI)] := (.cons heldIntS_ok .nil)
  refine callOk_awp (ctx_ok eqOk hG) mixed (live := [true, true, false, false, true, true, false, false, false, true, false, false, false, false, false, false, false, false, false, true]) (dt := []) Try.func39 rfl (by kernel_rfl) (by kernel_rfl) fun w0 hlens => ?_
  clear hlens
  simp [Try.f39, List.range, List.range.loop, ints, intss, int, bool, row, frac, fracs, ← List.map_take, ← List.map_drop]
  refine awp_range (live := [true, true, false, false, true, true, false, false, false, true, false, false, false, false, false, false, false, false, false, true]) (ctx_ok eqOk hG) mixed [true, true, false, false, false, true] (xss.length) (fun i => True) (fun i => ⟨[intss nl (mkRS k xss), int (k + rowSum xss i), .junk, .junk, .junk, int i, .junk, .junk, .junk, .junk, .junk, .junk, .junk, .junk, .junk, .junk, .junk, .junk, .junk, .junk, .junk], []⟩) ?_ (by simp [sub, slotsLe, clean, keep, refsL, refs, once, place, renL, ren, List.replicate, int, bool, intss, rowSum_zero]) ?_ ?_ ?_
  · omega
  · trivial
  · intro i h _ hw
    have h1 := rowSum_succ h
    have h2 := rowSum_mono (xss := xss) (show i + 1 ≤ xss.length from h)
    have hz := mHeldI_at xss[i].1 xss[i].2.length (k + rowSum xss i) ⟨by omega, by omega⟩
    have e : k + (rowSum xss i : Int) + (xss[i].2.length : Int) = k + (rowSum xss (i + 1) : Int) := by omega
    have hn : ¬ (k + (rowSum xss (i + 1) : Int) < 0) := by omega
    simp (config := {contextual := true}) [List.range, List.range.loop, ints, intss, int, bool, row, frac, fracs, ← List.map_take, ← List.map_drop, h, hw, mkRS_len, mkRS_at, hz, e, hn]
  · intro _
    simp (config := {contextual := true}) [List.range, List.range.loop, ints, intss, int, bool, row, frac, fracs, ← List.map_take, ← List.map_drop, mkRS_len]

end Go.Proofs.Ytkfgmpmeipilnaa.Ax

/-
  Contracts: CutAndChoose (both programs). No condition.
-/
namespace Go.Proofs.Ytkfgmpmeipilnaa.Ax
open Go Go.RowKit
set_option linter.unusedSimpArgs false

def mBoolInt : List AV → Option AV
  | [.v (.bool b)] => some (.v (.int .i64 (if b then 1 else 0)))
  | _ => none
theorem mBoolInt_at {b : Bool} : mBoolInt [.v (.bool b)] = some (.v (.int .i64 (if b then 1 else 0))) := rfl
theorem boolInt_ok : FnOk Try.prog 78 mBoolInt := by
  intro args r h
  unfold mBoolInt at h
  split at h
  · rename_i b
    simp only [Option.some.injEq] at h; subst h
    have hG : FnsOk Try.prog [] := .nil
    refine callOk_awp (ctx_ok eqOk hG) mixed (live := [true, false, true, true]) (dt := []) Try.func78 rfl (by kernel_rfl) (by kernel_rfl) fun w0 hlens => ?_
    cases b <;> simp (config := {contextual := true}) [Try.f78, List.range, List.range.loop, ints, intss, int, bool, row, frac, fracs, ← List.map_take, ← List.map_drop]
  · simp at h

theorem tkd {l : List Int} {c : Nat} : List.take (l.length - c) (List.drop c l) = List.drop c l := List.take_of_length_le (by simp)

/-- The lesser of the two parts at a cut. -/
def lessr (r : List Int) (c : Nat) : Int := min (sumW (r.take c)) (sumW (r.drop c))
/-- The first best cut among the first m. -/
def bestTo (r : List Int) : Nat → Nat
  | 0 => 0
  | m + 1 => if lessr r (bestTo r m) < lessr r m then m else bestTo r m
theorem bestTo_le {r : List Int} : ∀ {m : Nat}, bestTo r (m + 1) ≤ m
  | 0 => by simp [bestTo]
  | m + 1 => by rw [bestTo]; split; exact Nat.le_refl _; exact Nat.le_trans bestTo_le (Nat.le_succ m)
def cutP (r0 r1 : List Int) (i : Nat) : Int :=
  let c := bestTo r0 (r0.length + 1)
  let f : Int := if sumW (r1.drop c) < sumW (r1.take c) then 1 else 0
  if i < c then f else 1 - f
def cutList (r0 r1 : List Int) : List Int := (List.range r0.length).map (cutP r0 r1)
theorem cutList_len {r0 r1 : List Int} : (cutList r0 r1).length = r0.length := by simp [cutList]
def cutL (xss : List (Bool × List Int)) : Bool × List Int := match xss with
  | [r0, r1] => if rectB xss 3 10 100 = true then (false, cutList r0.2 r1.2) else (true, [])
  | _ => (true, [])
theorem cutL_len {xss : List (Bool × List Int)} : (cutL xss).2.length ≤ 2 ^ 40 := by
  unfold cutL
  split
  · split
    · rename_i h
      have := rect_len h
      simp [wid, cutList] at this ⊢; omega
    · simp
  · simp

noncomputable def mCut : List AV → Option AV := mk (fun _ => True) (fun (p : (Bool) × (List (Bool × List Int))) => [intss p.1 p.2]) (fun p => .sl (cutL p.2).1 1 ((cutL p.2).2.map int))
theorem mCut_at (nl : Bool) (xss : List (Bool × List Int)) : mCut [.sl nl 1 (xss.map row)] = some (.sl (cutL xss).1 1 ((cutL xss).2.map int)) :=
  mk_eq (enc := fun (p : (Bool) × (List (Bool × List Int))) => [intss p.1 p.2]) (x := (nl, xss)) (by rintro ⟨a0, a1⟩ ⟨b0, b1⟩ h; simp [ints, intss, int, bool, row, frac, fracs, map_int_inj, map_row_inj, frac_inj, map_frac_inj] at h; simp [h]) trivial

noncomputable def mLess : List AV → Option AV := mk (fun (p : Nat × Bool × List (Bool × List Int)) => ∃ r rs, p.2.2 = r :: rs ∧ p.1 ≤ r.2.length) (fun p => [int p.1, .fp (intss p.2.1 p.2.2) 0]) (fun p => int (lessr (p.2.2.headD (true, [])).2 p.1))
theorem mLess_at (c : Nat) (nl : Bool) (r : Bool × List Int) (rs : List (Bool × List Int)) (h : c ≤ r.2.length) : mLess [.v (.int .i64 c), .fp (.sl nl 1 (row r :: rs.map row)) 0] = some (.v (.int .i64 (lessr r.2 c))) :=
  mk_eq (enc := fun (p : Nat × Bool × List (Bool × List Int)) => [int p.1, .fp (intss p.2.1 p.2.2) 0]) (x := (c, nl, r :: rs)) (by
    rintro ⟨a, b, e⟩ ⟨a', b', e'⟩ h
    simp [int, intss, map_row_inj] at h
    obtain ⟨h1, _, h2⟩ := h
    have : a = a' := by omega
    simp [this, h2]) ⟨r, rs, rfl, h⟩

/-- The list whose first k pieces are given. -/
def cutF (r0 r1 : List Int) (k : Nat) : List AV := filled (fun i => int (cutP r0 r1 i)) (int 0) (List.range r0.length) k
theorem cutF_len {r0 r1 : List Int} {k : Nat} (h : k ≤ r0.length) : (cutF r0 r1 k).length = r0.length := by unfold cutF; rw [filled_len (by simpa using h)]; simp
theorem cutF_zero {r0 r1 : List Int} : cutF r0 r1 0 = List.replicate r0.length (.v (.int .i64 0)) := by simp [cutF, filled_zero, int]
theorem cutF_all {r0 r1 : List Int} : cutF r0 r1 r0.length = (cutList r0 r1).map int := by
  have := filled_all (f := fun i => int (cutP r0 r1 i)) (z := int 0) (xs := List.range r0.length)
  rw [List.length_range] at this
  rw [cutF, this]; simp [cutList]
theorem cutF_at {r0 r1 : List Int} {k : Nat} (h : k < r0.length) (hh : k < (cutF r0 r1 k).length) : (cutF r0 r1 k)[k] = .v (.int .i64 0) := filled_get' (by simpa using h) hh
theorem cutF_set {r0 r1 : List Int} {k : Nat} (h : k < r0.length) : (cutF r0 r1 k).set k (.v (.int .i64 (cutP r0 r1 k))) = cutF r0 r1 (k + 1) := by
  have := filled_set (f := fun i => int (cutP r0 r1 i)) (z := int 0) (xs := List.range r0.length) (k := k) (by simpa using h)
  simpa [cutF, int] using this

theorem cutL_no {xss : List (Bool × List Int)} (h : rectB xss 3 10 100 = false ∨ ¬ xss.length = 2) : cutL xss = (true, []) := by
  match xss, h with
  | [], _ => rfl
  | [a], _ => rfl
  | [a, b], h => simp at h; simp [cutL, h]
  | a :: b :: c :: l, _ => rfl

/-- The first k pieces, given. -/
def cutA (r0 r1 : List Int) (k : Nat) : List Int := (List.range k).map (cutP r0 r1)
theorem cutA_len {r0 r1 : List Int} {k : Nat} : (cutA r0 r1 k).length = k := by simp [cutA]
theorem cutA_zero {r0 r1 : List Int} : cutA r0 r1 0 = [] := by simp [cutA]
theorem cutA_succ {r0 r1 : List Int} {k : Nat} : (cutA r0 r1 k).map int ++ [.v (.int .i64 (cutP r0 r1 k))] = (cutA r0 r1 (k + 1)).map int := by simp [cutA, List.range_succ, int]
theorem cutA_all {r0 r1 : List Int} : cutA r0 r1 r0.length = cutList r0 r1 := rfl

end Go.Proofs.Ytkfgmpmeipilnaa.Ax

/-
  Contracts: marks on lists of fractions, FirstShares (both programs). No condition.
-/
namespace Go.Proofs.Ytkfgmpmeipilnaa.Ax
open Go Go.RowKit
set_option linter.unusedSimpArgs false

/-- The marks from k on, for so many fractions. -/
def mkdF (k : Int) (n : Nat) : List (Int × Int) := (List.range n).map fun (i : Nat) => (k + 2 * (i : Int), k + 2 * (i : Int) + 1)
theorem mkdF_len {k : Int} {n : Nat} : (mkdF k n).length = n := by simp [mkdF]
theorem mkdF_take {k : Int} {n : Nat} : (mkdF k n).take n = mkdF k n := List.take_of_length_le (by simp [mkdF_len])
theorem mkdF_at {k : Int} {n i : Nat} (h : i < (mkdF k n).length) : (mkdF k n)[i] = (k + 2 * (i : Int), k + 2 * (i : Int) + 1) := by simp [mkdF]
def mkFTo (k : Int) (xs : List (Int × Int)) (i : Nat) : List (Int × Int) := mkdF k i ++ xs.drop i
theorem mkFTo_len {k : Int} {xs : List (Int × Int)} {i : Nat} (h : i ≤ xs.length) : (mkFTo k xs i).length = xs.length := by simp [mkFTo, mkdF_len]; omega
theorem mkFTo_zero {k : Int} {xs : List (Int × Int)} : mkFTo k xs 0 = xs := by simp [mkFTo, mkdF]
theorem mkFTo_all {k : Int} {xs : List (Int × Int)} : mkFTo k xs xs.length = mkdF k xs.length := by simp [mkFTo]
theorem mkFTo_set {k : Int} {xs : List (Int × Int)} {i : Nat} (h : i < xs.length) : ((mkFTo k xs i).map frac).set i (.agg [.v (.int .i64 (k + 2 * (i : Int))), .v (.int .i64 (k + 2 * (i : Int) + 1))]) = (mkFTo k xs (i + 1)).map frac := by
  have : (AV.agg [.v (.int .i64 (k + 2 * (i : Int))), .v (.int .i64 (k + 2 * (i : Int) + 1))]) = frac (k + 2 * (i : Int), k + 2 * (i : Int) + 1) := rfl
  rw [this, ← List.map_set]
  congr 1
  unfold mkFTo
  rw [List.set_append, if_neg (by simp [mkdF_len]), mkdF_len, Nat.sub_self, drop_get h, List.set_cons_zero]
  simp [mkdF, List.range_succ]

noncomputable def mMarkF : List AV → Option (Nat × AV × AV) := mkM (fun (p : Bool × List (Int × Int) × Int) => 0 ≤ p.2.2 ∧ p.2.2 + 2 * p.2.1.length ≤ 2 ^ 62) (fun p => [fracs p.1 p.2.1, int p.2.2]) (fun p => (0, int (p.2.2 + 2 * p.2.1.length), fracs p.1 (mkdF p.2.2 p.2.1.length)))
theorem mMarkF_at (nl : Bool) (xs : List (Int × Int)) (k : Int) (h : 0 ≤ k ∧ k + 2 * xs.length ≤ 2 ^ 62) : mMarkF [.sl nl 2 (xs.map frac), .v (.int .i64 k)] = some (0, .v (.int .i64 (k + 2 * xs.length)), .sl nl 2 ((mkdF k xs.length).map frac)) :=
  mkM_eq (enc := fun (p : Bool × List (Int × Int) × Int) => [fracs p.1 p.2.1, int p.2.2]) (x := (nl, xs, k)) (by rintro ⟨a, b, c⟩ ⟨d, e, f⟩ h; simp [fracs, int, map_frac_inj] at h; simp [h]) h

set_option maxHeartbeats 1000000 in
theorem markFractionS_ok : FnMut Try.prog 30 mMarkF := by
  refine mkM_ok fun ⟨nl, xs, k⟩ ⟨hk0, hk⟩ => ?_
  simp only at hk0 hk
  have hG : FnsOk Try.prog [] := .nil
  refine mutOk_awp (ctx_ok eqOk hG) mixed (live := [true, true, false, false, true, true, false, false, false, true]) (dt := []) (pos := 0) rfl Try.func30 rfl (by kernel_rfl) (by kernel_rfl) fun US Uv w0 hlens => ?_
  simp [Try.f30, List.range, List.range.loop, ints, intss, int, bool, row, frac, fracs, ← List.map_take, ← List.map_drop]
  refine awp_range (live := [true, true, false, false, true, true, false, false, false, true]) (ctx_ok eqOk hG) mixed [true, true, false, false, false, true] (xs.length) (fun i => True) (fun i => ⟨[.ref 0 [] 0 xs.length, int (k + 2 * (i : Int)), .junk, .junk, .junk, int i, .junk, .junk, .junk, .junk, .junk, .junk, .junk, .junk, .junk, .junk, .junk, .junk, .junk, .junk, .junk, .junk, .junk, .junk, .junk, .junk, .junk], [⟨true, .sl nl 2 ((mkFTo k xs i).map frac)⟩]⟩) ?_ (by simp [sub, slotsLe, clean, keep, refsL, refs, once, place, renL, ren, List.replicate, int, bool, mkFTo_zero]) ?_ ?_ ?_
  · omega
  · trivial
  · intro i h _ hw
    have hl := mkFTo_len (k := k) (xs := xs) (i := i) (by omega)
    have hl' := mkFTo_len (k := k) (xs := xs) (i := i + 1) (by omega)
    have hs := mkFTo_set (k := k) h
    have hw2 : IntKind.i64.wrap (k + 2 * (i : Int) + 1) = k + 2 * (i : Int) + 1 := wrapI (by omega) (by omega)
    have hw3 : IntKind.i64.wrap (k + 2 * (i : Int) + 1 + 1) = k + 2 * ((i : Int) + 1) := by rw [wrapI (by omega) (by omega)]; omega
    simp (config := {contextual := true}) [List.range, List.range.loop, ints, intss, int, bool, row, frac, fracs, ← List.map_take, ← List.map_drop, List.eraseIdx, h, hw, hl, hl', hs, hw2, hw3]
  · intro _
    have hl := mkFTo_len (k := k) (xs := xs) (i := xs.length) (by omega)
    simp (config := {contextual := true}) [List.range, List.range.loop, ints, intss, int, bool, row, frac, fracs, ← List.map_take, ← List.map_drop, List.eraseIdx, hl, mkFTo_all, mkdF_len]

noncomputable def mHeldF : List AV → Option AV := mk (fun (p : Bool × Nat × Int) => 0 ≤ p.2.2 ∧ p.2.2 + 2 * p.2.1 ≤ 2 ^ 62) (fun p => [fracs p.1 (mkdF p.2.2 p.2.1), int p.2.2]) (fun p => int (p.2.2 + 2 * p.2.1))
theorem mHeldF_at (nl : Bool) (n : Nat) (k : Int) (h : 0 ≤ k ∧ k + 2 * n ≤ 2 ^ 62) : mHeldF [.sl nl 2 ((mkdF k n).map frac), .v (.int .i64 k)] = some (.v (.int .i64 (k + 2 * n))) :=
  mk_eq (enc := fun (p : Bool × Nat × Int) => [fracs p.1 (mkdF p.2.2 p.2.1), int p.2.2]) (x := (nl, n, k)) (by
    rintro ⟨a, b, c⟩ ⟨d, e, f⟩ h
    simp [fracs, int, map_frac_inj] at h
    obtain ⟨⟨_, h1⟩, h2⟩ := h
    have := congrArg List.length h1
    simp [mkdF_len] at this
    simp [h2, this]) h

set_option maxHeartbeats 1000000 in
theorem heldFractionS_ok : FnOk Try.prog 31 mHeldF := by
  refine mk_ok fun ⟨nl, n, k⟩ ⟨hk0, hk⟩ => ?_
  simp only at hk0 hk
  have hG : FnsOk Try.prog [] := .nil
  refine callOk_awp (ctx_ok eqOk hG) mixed (live := [true, true, false, false, true, true, false, false, false, true, false, false, false, false, false, false, false, false, true, false, false, false, false, false, false, false, false, true]) (dt := []) Try.func31 rfl (by kernel_rfl) (by kernel_rfl) fun w0 hlens => ?_
  clear hlens
  simp [Try.f31, List.range, List.range.loop, ints, intss, int, bool, row, frac, fracs, ← List.map_take, ← List.map_drop]
  refine awp_range (live := [true, true, false, false, true, true, false, false, false, true, false, false, false, false, false, false, false, false, true, false, false, false, false, false, false, false, false, true]) (ctx_ok eqOk hG) mixed [true, true, false, false, false, true] (n) (fun i => True) (fun i => ⟨[fracs nl (mkdF k n), int (k + 2 * (i : Int)), .junk, .junk, .junk, int i, .junk, .junk, .junk, .junk, .junk, .junk, .junk, .junk, .junk, .junk, .junk, .junk, .junk, .junk, .junk, .junk, .junk, .junk, .junk, .junk, .junk, .junk, .junk, .junk, .junk], []⟩) ?_ (by simp [sub, slotsLe, clean, keep, refsL, refs, once, place, renL, ren, List.replicate, int, bool, fracs]) ?_ ?_ ?_
  · omega
  · trivial
  · intro i h _ hw
    have hl : i < (mkdF k n).length := by rw [mkdF_len]; exact h
    have hw2 : IntKind.i64.wrap (k + 2 * (i : Int) + 1) = k + 2 * (i : Int) + 1 := wrapI (by omega) (by omega)
    have hw3 : IntKind.i64.wrap (k + 2 * (i : Int) + 1 + 1) = k + 2 * ((i : Int) + 1) := by rw [wrapI (by omega) (by omega)]; omega
    simp (config := {contextual := true}) [List.range, List.range.loop, ints, intss, int, bool, row, frac, fracs, ← List.map_take, ← List.map_drop, h, hw, hl, hw2, hw3, mkdF_len, mkdF_at]
  · intro _
    simp (config := {contextual := true}) [List.range, List.range.loop, ints, intss, int, bool, row, frac, fracs, ← List.map_take, ← List.map_drop, mkdF_len]




/-- A list that is nil until something is put into it. -/
def apA : Nat → AV
  | 0 => .sl true 1 []
  | k + 1 => .ref 0 [] 0 (k + 1)
def apT (sz : Nat) (l : List AV) : Nat → List Tok
  | 0 => []
  | _ + 1 => [⟨true, .sl false sz l⟩]

/-- Heir 0's first share of thing x. -/
def fshare (r0 r1 : List Int) (x : Nat) : Int × Int := (if at0 r1 x ≤ at0 r0 x then 1 else 0, 1)
def fsA (r0 r1 : List Int) (k : Nat) : List (Int × Int) := (List.range k).map (fshare r0 r1)
theorem fsA_len {r0 r1 : List Int} {k : Nat} : (fsA r0 r1 k).length = k := by simp [fsA]
theorem fsA_zero {r0 r1 : List Int} : fsA r0 r1 0 = [] := by simp [fsA]
theorem fsA_succ {r0 r1 : List Int} {k : Nat} : (fsA r0 r1 k).map frac ++ [.agg [.v (.int .i64 (if at0 r1 k ≤ at0 r0 k then 1 else 0)), .v (.int .i64 1)]] = (fsA r0 r1 (k + 1)).map frac := by simp [fsA, List.range_succ, frac, fshare]
def firstL (xss : List (Bool × List Int)) : List (Int × Int) := match xss with
  | [r0, r1] => if pointsB xss = true then fsA r0.2 r1.2 r0.2.length else []
  | _ => []
theorem firstL_len {xss : List (Bool × List Int)} : (firstL xss).length ≤ 2 ^ 40 := by
  unfold firstL
  split
  · split
    · rename_i h
      have := rect_len (points_facts h).2
      simp [wid, fsA_len] at this ⊢; omega
    · simp
  · simp
theorem firstL_no {xss : List (Bool × List Int)} (h : pointsB xss = false) : firstL xss = [] := by
  unfold firstL; split <;> simp [h]

noncomputable def mFirst : List AV → Option AV := mk (fun _ => True) (fun (p : (Bool) × (List (Bool × List Int))) => [intss p.1 p.2]) (fun p => .sl (!pointsB p.2) 2 ((firstL p.2).map frac))
theorem mFirst_at (nl : Bool) (xss : List (Bool × List Int)) : mFirst [.sl nl 1 (xss.map row)] = some (.sl (!pointsB xss) 2 ((firstL xss).map frac)) :=
  mk_eq (enc := fun (p : (Bool) × (List (Bool × List Int))) => [intss p.1 p.2]) (x := (nl, xss)) (by rintro ⟨a0, a1⟩ ⟨b0, b1⟩ h; simp [ints, intss, int, bool, row, frac, fracs, map_int_inj, map_row_inj, frac_inj, map_frac_inj] at h; simp [h]) trivial

/-- A nil slice is a nil slice of whatever. -/
theorem callOk_nil {P : Program} {f : FuncId} {args : List AV} {a b : Nat} (h : CallOk P f args (.sl true a [])) : CallOk P f args (.sl true b []) := by
  refine ⟨h.1, fun w F vals hF hv => (h.2 w F vals hF hv).mono fun e w' he => ?_⟩
  obtain ⟨y, S, h1, h2, h3, h4⟩ := he
  refine ⟨y, S, h1, h2, h3, ?_⟩
  obtain ⟨a1, l, c, hy, k1, k2, k3, k4⟩ := Excl.of_own h4
  refine Excl.own (S := S) ⟨a1, l, c, hy, k1, k2, k3, ?_⟩
  rcases k4 with k4 | ⟨_, _, _, _, _, k4, _⟩
  · exact .inl k4
  · simp at k4

set_option maxHeartbeats 2000000 in
theorem implFirst_ok : FnOk Try.prog 77 mFirst := by
  refine mk_ok fun ⟨nl, xss⟩ _ => ?_
  have hG : FnsOk Try.prog [(76, mPoints), (78, mBoolInt), (80, mWhole)] := (.cons implPointsOk_ok (.cons boolInt_ok (.cons whole_ok .nil)))
  cases h1 : pointsB xss with
  | false =>
    simp only [firstL_no h1, List.map_nil, Bool.not_false]
    refine callOk_nil (a := 1) ?_
    refine callOk_awp (ctx_ok eqOk hG) mixed (live := [true, false, true, true, true, false, false, true, false, false, false, true, true, true]) (dt := [(7, ⟨[], [0, 0, 0, 0, 0, 0, 0, 0, 0, 0, 0, 0, 0, 0, 0, 0, 1, 1], []⟩)]) Try.func77 rfl (by kernel_rfl) (by kernel_rfl) fun w0 hlens => ?_
    simp (config := {contextual := true}) [Try.f77, List.range, List.range.loop, ints, intss, int, bool, row, frac, fracs, ← List.map_take, ← List.map_drop, mPoints_at, mBoolInt_at, mWhole_at, h1]
  | true =>
  refine callOk_awp (ctx_ok eqOk hG) mixed (live := [true, false, true, true, true, false, false, true, false, false, false, true, true, true]) (dt := [(7, ⟨[], [0, 0, 0, 0, 0, 0, 0, 0, 0, 0, 0, 0, 0, 0, 0, 0, 1, 1], []⟩)]) Try.func77 rfl (by kernel_rfl) (by kernel_rfl) fun w0 hlens => ?_
  clear hlens
  obtain ⟨h2, hr⟩ := points_facts h1
  obtain ⟨r0, r1, rfl⟩ : ∃ r0 r1, xss = [r0, r1] := by
    match xss, h2 with
    | [a, b], _ => exact ⟨a, b, rfl⟩
  have hl := rect_len hr
  have hr1 := (rect_row hr (i := 1) (by simp)).1
  simp only [wid, List.headD_cons] at hl hr1
  simp only [List.getElem_cons_succ, List.getElem_cons_zero] at hr1
  have hg := mPoints_at nl [r0, r1]
  rw [h1] at hg
  simp only [List.map_cons, List.map_nil, row] at hg
  have hf : firstL [r0, r1] = fsA r0.2 r1.2 r0.2.length := by simp [firstL, h1]
  rw [hf]
  simp only [h1, Bool.not_true]
  simp (config := {contextual := true}) [Try.f77, List.range, List.range.loop, ints, intss, int, bool, row, frac, fracs, ← List.map_take, ← List.map_drop, hg]
  refine awp_range (live := [true, false, true, true, true, false, false, true, false, false, false, true, true, true]) (ctx_ok eqOk hG) mixed [true, false, false, true, false, false, false, false, false, false, false, true, true] (r0.2.length) (fun k => True) (fun k => ⟨[intss nl [r0, r1], .junk, .junk, apA k, .junk, .junk, .junk, .junk, .junk, .junk, .junk, int r0.2.length, int k, .junk, .junk, .junk, .junk, .junk, .junk, .junk, .junk, .junk, .junk, .junk, .junk, .junk, .junk, .junk, .junk, .junk, .junk, .junk, .junk, .junk, .junk], apT 2 ((fsA r0.2 r1.2 k).map frac) k⟩) ?_ (by simp [sub, slotsLe, clean, keep, refsL, refs, once, place, renL, ren, List.replicate, int, bool, intss, row, apA, apT]) ?_ ?_ ?_
  · omega
  · trivial
  · intro k h _ hwk
    have g0 : r0.2[k]? = some (at0 r0.2 k) := at0_get h
    have g1 : r1.2[k]? = some (at0 r1.2 k) := at0_get (by omega)
    have g0' : r0.2[k] = at0 r0.2 k := (at0_eq h).symm
    have g1' : r1.2[k]'(by omega) = at0 r1.2 k := (at0_eq (by omega)).symm
    have hk1 : k < r1.2.length := by omega
    have c3 := fsA_succ (r0 := r0.2) (r1 := r1.2) (k := k)
    have q1 : (k + 1) * 16 ≤ 140737488355328 := by omega
    have q2 : k + 1 ≤ 4611686018427387904 := by omega
    cases k with
    | zero =>
      simp [fsA_zero] at c3 hwk
      simp (config := {contextual := true}) [List.range, List.range.loop, ints, intss, int, bool, row, frac, fracs, ← List.map_take, ← List.map_drop, mBoolInt_at, mWhole_at, h, hwk, hk1, g0', g1', apA, apT, ← c3]
    | succ k =>
      simp at hwk
      simp (config := {contextual := true}) [List.range, List.range.loop, ints, intss, int, bool, row, frac, fracs, ← List.map_take, ← List.map_drop, mBoolInt_at, mWhole_at, h, hwk, hk1, g0', g1', apA, apT, fsA_len, c3, q1, q2]
  · intro _
    obtain ⟨m, hm⟩ : ∃ m, r0.2.length = m + 1 := ⟨r0.2.length - 1, by omega⟩
    simp (config := {contextual := true}) [List.range, List.range.loop, ints, intss, int, bool, row, frac, fracs, ← List.map_take, ← List.map_drop, hm, apA, apT, fsA_len]

noncomputable def mL28 : List AV → Option AV := mk (fun (p : Bool × (Bool × List Int) × (Bool × List Int) × Nat) => p.2.2.2 < p.2.1.2.length ∧ p.2.2.2 < p.2.2.1.2.length) (fun p => [intss p.1 [p.2.1, p.2.2.1], int p.2.2.2]) (fun p => bool (decide (at0 p.2.2.1.2 p.2.2.2 ≤ at0 p.2.1.2 p.2.2.2)))
theorem mL28_at (nl : Bool) (r0 r1 : Bool × List Int) (k : Nat) (h : k < r0.2.length ∧ k < r1.2.length) : mL28 [.sl nl 1 [.sl r0.1 1 (r0.2.map int), .sl r1.1 1 (r1.2.map int)], .v (.int .i64 k)] = some (.v (.bool (decide (at0 r1.2 k ≤ at0 r0.2 k)))) :=
  mk_eq (enc := fun (p : Bool × (Bool × List Int) × (Bool × List Int) × Nat) => [intss p.1 [p.2.1, p.2.2.1], int p.2.2.2]) (x := (nl, r0, r1, k)) (by
    rintro ⟨a, b, c, d⟩ ⟨a', b', c', d'⟩ h
    simp [intss, int, row_inj] at h
    have : d = d' := by omega
    simp [h, this]) h
theorem l28First_ok : FnOk Try.prog 123 mL28 := by
  refine mk_ok fun ⟨nl, r0, r1, k⟩ ⟨h0, h1⟩ => ?_
  simp only at h0 h1
  have g0' : r0.2[k] = at0 r0.2 k := (at0_eq h0).symm
  have g1' : r1.2[k] = at0 r1.2 k := (at0_eq h1).symm
  have hG : FnsOk Try.prog [] := .nil
  refine callOk_awp (ctx_ok eqOk hG) mixed (live := [true, true, false, false, true]) (dt := [(1, ⟨[], [], []⟩)]) Try.func123 rfl (by kernel_rfl) (by kernel_rfl) fun w0 hlens => ?_
  simp (config := {contextual := true}) [Try.f123, List.range, List.range.loop, ints, intss, int, bool, row, frac, fracs, ← List.map_take, ← List.map_drop, h0, h1, g0', g1']

set_option maxHeartbeats 2000000 in
theorem specFirst_ok : FnOk Try.prog 72 mFirst := by
  refine mk_ok fun ⟨nl, xss⟩ _ => ?_
  have hG : FnsOk Try.prog [(122, mPoints), (123, mL28)] := (.cons specPointsOk_ok (.cons l28First_ok .nil))
  cases h1 : pointsB xss with
  | false =>
    simp only [firstL_no h1, List.map_nil, Bool.not_false]
    refine callOk_nil (a := 1) ?_
    refine callOk_awp (ctx_ok eqOk hG) mixed (live := [true, false, true, true, true, true, false, false, true, false, false, false, false, true, true, true, false, false, false, false, true]) (dt := []) Try.func72 rfl (by kernel_rfl) (by kernel_rfl) fun w0 hlens => ?_
    simp (config := {contextual := true}) [Try.f72, List.range, List.range.loop, ints, intss, int, bool, row, frac, fracs, ← List.map_take, ← List.map_drop, mPoints_at, mL28_at, h1]
  | true =>
  refine callOk_awp (ctx_ok eqOk hG) mixed (live := [true, false, true, true, true, true, false, false, true, false, false, false, false, true, true, true, false, false, false, false, true]) (dt := []) Try.func72 rfl (by kernel_rfl) (by kernel_rfl) fun w0 hlens => ?_
  clear hlens
  obtain ⟨h2, hr⟩ := points_facts h1
  obtain ⟨r0, r1, rfl⟩ : ∃ r0 r1, xss = [r0, r1] := by
    match xss, h2 with
    | [a, b], _ => exact ⟨a, b, rfl⟩
  have hl := rect_len hr
  have hr1 := (rect_row hr (i := 1) (by simp)).1
  simp only [wid, List.headD_cons] at hl hr1
  simp only [List.getElem_cons_succ, List.getElem_cons_zero] at hr1
  have hg := mPoints_at nl [r0, r1]
  rw [h1] at hg
  simp only [List.map_cons, List.map_nil, row] at hg
  have hf : firstL [r0, r1] = fsA r0.2 r1.2 r0.2.length := by simp [firstL, h1]
  rw [hf]
  simp only [h1, Bool.not_true]
  simp (config := {contextual := true}) [Try.f72, List.range, List.range.loop, ints, intss, int, bool, row, frac, fracs, ← List.map_take, ← List.map_drop, hg]
  refine awp_range (live := [true, false, true, true, true, true, false, false, true, false, false, false, false, true, true, true, false, false, false, false, true]) (ctx_ok eqOk hG) mixed [true, false, false, true, false, false, false, false, false, false, false, false, false, true, true] (r0.2.length) (fun k => True) (fun k => ⟨[intss nl [r0, r1], .junk, .junk, .ref 0 [] 0 k, .junk, .junk, .junk, .junk, .junk, .junk, .junk, .junk, .junk, int r0.2.length, int k, .junk, .junk, .junk, .junk, .junk, .junk, .junk, .junk, .junk, .junk, .junk, .junk, .junk], [⟨true, .sl false 2 ((fsA r0.2 r1.2 k).map frac)⟩]⟩) ?_ (by simp [sub, slotsLe, clean, keep, refsL, refs, once, place, renL, ren, List.replicate, int, bool, intss, row, fsA_zero]) ?_ ?_ ?_
  · omega
  · trivial
  · intro k h _ hwk
    have hz := mL28_at nl r0 r1 k ⟨h, by omega⟩
    have c3 := fsA_succ (r0 := r0.2) (r1 := r1.2) (k := k)
    have q1 : (k + 1) * 16 ≤ 140737488355328 := by omega
    have q2 : k + 1 ≤ 4611686018427387904 := by omega
    by_cases e : at0 r1.2 k ≤ at0 r0.2 k
    · simp only [e, if_true, ite_true] at c3
      simp (config := {contextual := true}) [List.range, List.range.loop, ints, intss, int, bool, row, frac, fracs, ← List.map_take, ← List.map_drop, hz, h, hwk, fsA_len, c3, q1, q2, e]
    · simp only [e, if_false, ite_false] at c3
      simp (config := {contextual := true}) [List.range, List.range.loop, ints, intss, int, bool, row, frac, fracs, ← List.map_take, ← List.map_drop, hz, h, hwk, fsA_len, c3, q1, q2, e]
  · intro _
    simp (config := {contextual := true}) [List.range, List.range.loop, ints, intss, int, bool, row, frac, fracs, ← List.map_take, ← List.map_drop, fsA_len]

end Go.Proofs.Ytkfgmpmeipilnaa.Ax
