/-
  Contracts: all allocations, MostProduct, CountEnvyFree (the reference). No condition.
-/
import Derived.Test.YtakladjlnkojjaaDoorCG176
namespace Go.Proofs.YtakladjlnkojjaaDoor.Ax
open Go Go.RowKit
set_option linter.unusedSimpArgs false

/-- A list as it lies in a table. -/
def lrow (l : List Int) : AV := .sl false 1 (l.map int)
noncomputable def mAll23 : List AV → Option AV := mk (fun p => rectB p.2 3 6 100 = true) (fun (p : Bool × List (Bool × List Int)) => [intss p.1 p.2]) (fun p => .sl false 1 ((allocs p.2).map lrow))
theorem mAll23_at (nl : Bool) (xss : List (Bool × List Int)) (h : rectB xss 3 6 100 = true) : mAll23 [.sl nl 1 (xss.map row)] = some (.sl false 1 ((allocs xss).map lrow)) :=
  mk_eq (enc := fun (p : Bool × List (Bool × List Int)) => [intss p.1 p.2]) (x := (nl, xss)) (by rintro ⟨a, b⟩ ⟨c, d⟩ h; simp [intss, map_row_inj] at h; simp [h]) h

set_option maxHeartbeats 2000000 in
theorem l23All_ok : FnOk Tryd.prog 56 mAll23 := by
  refine mk_ok fun ⟨nl, xss⟩ h1 => ?_
  simp only at h1
  have hG : FnsOk Tryd.prog [] := .nil
  refine callOk_awp (ctx_ok eqOk hG) mixed (live := [true, false, true, true, true, false, true, true, false, false, false, false, false, true, true, true, false, true, true, true, true, false, false, false, true, true, true]) (dt := []) Tryd.func56 rfl (by kernel_rfl) (by kernel_rfl) fun w0 hlens => ?_
  clear hlens
  have h0 := rect_pos h1
  have hw := wid_eq h0
  have hl := rect_len h1
  have hA : allocs xss = allL 0 ((xss.length : Int) - 1) (wid xss) := rfl
  rw [hA]
  have hmem := fun k l (h : l ∈ allL 0 ((xss.length : Int) - 1) k) => (allL_mem h).1
  have hlen := fun k (hk : k ≤ wid xss) => (show (allL 0 ((xss.length : Int) - 1) k).length ≤ 729 by rw [allL_len]; exact pow729 (by omega) (by omega))
  have hsn := fun k => allL_snoc (n := xss.length) k
  have hL0 : allL 0 ((xss.length : Int) - 1) 0 = [[]] := rfl
  generalize allL 0 ((xss.length : Int) - 1) = L at *
  simp [Tryd.f56, List.range, List.range.loop, ints, intss, int, bool, row, frac, fracs, ← List.map_take, ← List.map_drop, h0, hw]
  refine awp_range (live := [true, false, true, true, true, false, true, true, false, false, false, false, false, true, true, true, false, true, true, true, true, false, false, false, true, true, true]) (ctx_ok eqOk hG) mixed [true, false, false, true, false, false, false, false, false, false, false, false, false, true, true] (wid xss) (fun k => True) (fun k => ⟨[intss nl xss, .junk, .junk, .ref 0 [] 0 (L k).length, .junk, .junk, .junk, .junk, .junk, .junk, .junk, .junk, .junk, int (wid xss), int k, .junk, .junk, .junk, .junk, .junk, .junk, .junk, .junk, .junk, .junk, .junk, .junk, .junk, .junk, .junk, .junk, .junk, .junk, .junk, .junk, .junk, .junk, .junk, .junk, .junk, .junk, .junk], [⟨true, .sl false 1 ((L k).map lrow)⟩]⟩) ?_ (by simp [sub, slotsLe, clean, keep, refsL, refs, once, place, renL, ren, List.replicate, int, bool, hL0, lrow, intss]) ?_ ?_ ?_
  · omega
  · trivial
  · intro k hk _ hwk
    have h729 := hlen k (by omega)
    have h729' := hlen (k + 1) (by omega)
    have hrow := fun l (h : l ∈ L k) => hmem k l h
    have hnext := hsn k
    simp [List.range, List.range.loop, ints, intss, int, bool, row, frac, fracs, ← List.map_take, ← List.map_drop, hk, hwk]
    refine awp_range (live := [true, false, true, true, true, false, true, true, false, false, false, false, false, true, true, true, false, true, true, true, true, false, false, false, true, true, true]) (ctx_ok eqOk hG) mixed [true, false, false, false, true, false, false, false, false, false, false, false, false, true, true, false, false, true, true, true] ((L k).length) (fun j => True) (fun j => ⟨[intss nl xss, .junk, .junk, .junk, .ref 0 [] 0 (snocL xss.length ((L k).take j)).length, .junk, .junk, .junk, .junk, .junk, .junk, .junk, .junk, int (wid xss), int k, .junk, .junk, .ref 1 [] 0 (L k).length, int (L k).length, int j, .junk, .junk, .junk, .junk, .junk, .junk, .junk, .junk, .junk, .junk, .junk, .junk, .junk, .junk, .junk, .junk, .junk, .junk, .junk, .junk, .junk, .junk], [⟨true, .sl false 1 ((snocL xss.length ((L k).take j)).map lrow)⟩, ⟨true, .sl false 1 ((L k).map lrow)⟩]⟩) ?_ (by simp [sub, slotsLe, clean, keep, refsL, refs, once, place, renL, ren, List.replicate, int, bool, snocL, lrow, intss]) ?_ ?_ ?_
    · omega
    · trivial
    · intro j hj _ hwj
      have hgj : (L k)[j]? = some (L k)[j] := List.getElem?_eq_getElem hj
      have hlj := hrow _ (List.getElem_mem hj)
      have hz := snTo_zero (n := xss.length) (L := L k) (j := j)
      have hall := snTo_all (n := xss.length) (L := L k) hj
      have hss := fun i => snTo_succ (n := xss.length) (L := L k) (j := j) (i := i)
      have hgd : (L k).getD j [] = (L k)[j] := by rw [List.getD_eq_getElem?_getD, hgj]; rfl
      rw [hgd] at hss
      simp [List.range, List.range.loop, ints, intss, int, bool, row, frac, fracs, ← List.map_take, ← List.map_drop, hj, hwj, lrow]
      refine awp_range (live := [true, false, true, true, true, false, true, true, false, false, false, false, false, true, true, true, false, true, true, true, true, false, false, false, true, true, true]) (ctx_ok eqOk hG) mixed [true, false, false, false, true, false, true, false, false, false, false, false, false, true, true, false, false, true, true, true, false, false, false, false, true, true] (xss.length) (fun i => True) (fun i => ⟨[intss nl xss, .junk, .junk, .junk, .ref 0 [] 0 (snTo xss.length (L k) j i).length, .junk, .ref 1 [(j, 0)] 0 k, .junk, .junk, .junk, .junk, .junk, .junk, int (wid xss), int k, .junk, .junk, .ref 1 [] 0 (L k).length, int (L k).length, int j, .junk, .junk, .junk, .junk, int xss.length, int i, .junk, .junk, .junk, .junk, .junk, .junk, .junk, .junk, .junk, .junk, .junk, .junk, .junk, .junk, .junk, .junk], [⟨true, .sl false 1 ((snTo xss.length (L k) j i).map lrow)⟩, ⟨true, .sl false 1 ((L k).map lrow)⟩]⟩) ?_ (by simp [sub, slotsLe, clean, keep, refsL, refs, once, place, renL, ren, List.replicate, int, bool, hz, lrow, intss, hlj]) ?_ ?_ ?_
      · omega
      · trivial
      · intro i hi _ hwi
        have hs := hss i
        have hsl : (snTo xss.length (L k) j i).length ≤ 2187 := by
          unfold snTo
          rw [List.length_append, snocL_len, snocs_len, List.length_take]
          have : xss.length * min j (L k).length ≤ 3 * 728 := Nat.mul_le_mul (by omega) (by omega)
          omega
        have hrs : (snTo xss.length (L k) j i).map lrow ++ [.sl false 1 ((L k)[j].map int ++ [.v (.int .i64 i)])] = (snTo xss.length (L k) j (i + 1)).map lrow := by rw [hs, List.map_append]; simp [lrow, int]
        have hsl' : (snTo xss.length (L k) j (i + 1)).length = (snTo xss.length (L k) j i).length + 1 := by rw [hs]; simp
        have b1 : k + 1 ≤ 4611686018427387904 ∧ (k + 1) * 8 ≤ 140737488355328 ∧ k ≤ 4611686018427387904 ∧ k * 8 ≤ 140737488355328 := by omega
        have b2 : (snTo xss.length (L k) j i).length + 1 ≤ 4611686018427387904 ∧ ((snTo xss.length (L k) j i).length + 1) * 24 ≤ 140737488355328 := by omega
        have htk : List.take k (L k)[j] = (L k)[j] := List.take_of_length_le (by omega)
        simp [List.range, List.range.loop, ints, intss, int, bool, row, frac, fracs, ← List.map_take, ← List.map_drop, hi, hwi, hj, hgj, hlj, lrow, b1, b2, hrs, hsl', htk]
      · intro _
        simp [List.range, List.range.loop, ints, intss, int, bool, row, frac, fracs, ← List.map_take, ← List.map_drop, hj, hwj, hall]
    · intro _
      simp [List.range, List.range.loop, ints, intss, int, bool, row, frac, fracs, ← List.map_take, ← List.map_drop, hk, hwk, hnext, List.take_length]
  · intro _
    simp [List.range, List.range.loop, ints, intss, int, bool, row, frac, fracs, ← List.map_take, ← List.map_drop]

end Go.Proofs.YtakladjlnkojjaaDoor.Ax
