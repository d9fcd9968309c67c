/-
  Contracts: slices.Grow of nil, slices.Concat of ints. No condition.
-/
import Derived.Test.YtlkgppincgpfjaaCG54
namespace Go.Proofs.Ytlkgppincgpfjaa.Ax
open Go Go.RowKit
set_option linter.unusedSimpArgs false

noncomputable def mGrow : List AV → Option AV := mk (fun p => p ≤ 1000000) (fun (p : Nat) => [.sl true 1 [], int (p : Int)]) (fun p => .sl (decide (p = 0)) 1 [])
theorem mGrow_at (n : Nat) (h : n ≤ 1000000) : mGrow [.sl true 1 [], .v (.int .i64 (n : Int))] = some (.sl (decide (n = 0)) 1 []) :=
  mk_eq (enc := fun (p : Nat) => [.sl true 1 [], int (p : Int)]) (x := n) (by intro a b h; simp [int] at h; exact (by omega : a = b) ▸ rfl) h

theorem growI_ok : FnOk Try.prog 83 mGrow := by
  refine mk_ok fun n hn => ?_
  have hG : FnsOk Try.prog [] := .nil
  refine callOk_awp (ctx_ok eqOk hG) mixed (live := [true, true, false, false, true, false, true, false, false, false, false, false, false, false, false, false, true]) (dt := []) Try.func83 rfl (by kernel_rfl) (by kernel_rfl) fun w0 hlens => ?_
  clear hlens
  have h1 : ¬ ((n : Int) < 0) := by omega
  have h2 : IntKind.i64.wrap (n : Int) = (n : Int) := wrapI (by omega) (by omega)
  have hz : IntKind.i64.wrap 0 = 0 := by decide
  by_cases h0 : n = 0
  · subst h0
    simp (config := {contextual := true}) [Try.f83, List.range, List.range.loop, ints, intss, int, bool, row, frac, fracs, ← List.map_take, ← List.map_drop, h1, h2, hz]
  · have h3 : 0 < n := by omega
    have h4 : n ≤ 4611686018427387904 ∧ n * 8 ≤ 140737488355328 := by omega
    have h0' : ¬ (0 = n) := by omega
    simp (config := {contextual := true}) [Try.f83, List.range, List.range.loop, ints, intss, int, bool, row, frac, fracs, ← List.map_take, ← List.map_drop, h0, h0', h1, h2, hz, h3, h4]

/-- The rows, one behind the other. -/
def cat (xss : List (Bool × List Int)) : List Int := xss.flatMap (·.2)
def catTo (xss : List (Bool × List Int)) (k : Nat) : List Int := (xss.take k).flatMap (·.2)
theorem catTo_succ {xss : List (Bool × List Int)} {k : Nat} (h : k < xss.length) : catTo xss (k + 1) = catTo xss k ++ xss[k].2 := by
  unfold catTo
  rw [List.take_succ_eq_append_getElem h, List.flatMap_append]; simp
theorem catTo_all {xss : List (Bool × List Int)} : catTo xss xss.length = cat xss := by simp [catTo, cat]
theorem catTo_le {xss : List (Bool × List Int)} : ∀ {k : Nat}, (catTo xss k).length ≤ (cat xss).length := by
  intro k
  unfold catTo cat
  conv => rhs; rw [← List.take_append_drop k xss, List.flatMap_append]
  simp

noncomputable def mConcat : List AV → Option AV := mk (fun p => p.2.length ≤ 1000 ∧ (cat p.2).length ≤ 1000000) (fun (p : Bool × List (Bool × List Int)) => [intss p.1 p.2]) (fun p => .sl (decide (cat p.2 = [])) 1 ((cat p.2).map int))
theorem mConcat_at (nl : Bool) (xss : List (Bool × List Int)) (h : xss.length ≤ 1000 ∧ (cat xss).length ≤ 1000000) : mConcat [.sl nl 1 (xss.map row)] = some (.sl (decide (cat xss = [])) 1 ((cat xss).map int)) :=
  mk_eq (enc := fun (p : Bool × List (Bool × List Int)) => [intss p.1 p.2]) (x := (nl, xss)) (by rintro ⟨a, b⟩ ⟨c, d⟩ h; simp [intss, map_row_inj] at h; simp [h]) h

set_option maxHeartbeats 1000000 in
theorem concatI_ok : FnOk Try.prog 71 mConcat := by
  refine mk_ok fun ⟨nl, xss⟩ ⟨hl, ht⟩ => ?_
  simp only at hl ht
  have hG : FnsOk Try.prog [(83, mGrow)] := (.cons growI_ok .nil)
  refine callOk_awp (ctx_ok eqOk hG) mixed (live := [true, false, true, true, false, true, true, false, true, true, true, true, true, false, false, false, false, false, false, false, true, false, false, false, false, true, true, true, true]) (dt := []) Try.func71 rfl (by kernel_rfl) (by kernel_rfl) fun w0 hlens => ?_
  clear hlens
  simp (config := {contextual := true}) [Try.f71, List.range, List.range.loop, ints, intss, int, bool, row, frac, fracs, ← List.map_take, ← List.map_drop]
  refine awp_range (live := [true, false, true, true, false, true, true, false, true, true, true, true, true, false, false, false, false, false, false, false, true, false, false, false, false, true, true, true, true]) (ctx_ok eqOk hG) mixed [true, false, false, true, false, false, false, false, false, true, true, true] (xss.length) (fun k => True) (fun k => ⟨[intss nl xss, .junk, .junk, int ((catTo xss k).length : Int), .junk, .junk, .junk, .junk, .junk, intss nl xss, int xss.length, int k, .junk, .junk, .junk, .junk, .junk, .junk, .junk, .junk, .junk, .junk, .junk, .junk, .junk, .junk, .junk, .junk, .junk, .junk, .junk, .junk, .junk, .junk, .junk, .junk], []⟩) ?_ (by simp [sub, slotsLe, clean, keep, refsL, refs, once, place, renL, ren, List.replicate, int, bool, intss, catTo]) ?_ ?_ ?_
  · omega
  · trivial
  · intro k hk _ hwk
    have hs := catTo_succ hk
    have hle := catTo_le (xss := xss) (k := k + 1)
    rw [hs, List.length_append] at hle
    have hw2 : IntKind.i64.wrap (((catTo xss k).length : Int) + (xss[k].2.length : Int)) = ((catTo xss k).length : Int) + (xss[k].2.length : Int) := wrapI (by omega) (by omega)
    have hno : ¬ (((catTo xss k).length : Int) + (xss[k].2.length : Int) < 0) := by omega
    simp (config := {contextual := true}) [List.range, List.range.loop, ints, intss, int, bool, row, frac, fracs, ← List.map_take, ← List.map_drop, hk, hwk, hs, hw2, hno]
  · intro _
    rw [catTo_all]
    have hg := mGrow_at _ ht
    have hd : decide ((cat xss).length = 0) = decide (cat xss = []) := decide_eq_decide.2 List.length_eq_zero_iff
    rw [hd] at hg
    simp (config := {contextual := true}) [List.range, List.range.loop, ints, intss, int, bool, row, frac, fracs, ← List.map_take, ← List.map_drop, hg]
    generalize hD : decide (cat xss = []) = D at hg
    have hDk : ∀ k (hk : k < xss.length), D = true → xss[k].2 = [] := fun k hk hd => by
      subst hD
      have h0 : cat xss = [] := by simpa using hd
      have : xss[k].2 ∈ xss.map (·.2) := List.mem_map.2 ⟨_, List.getElem_mem hk, rfl⟩
      simp only [cat, List.flatMap_eq_nil_iff] at h0
      exact h0 _ (List.getElem_mem hk)
    refine awp_range (live := [true, false, true, true, false, true, true, false, true, true, true, true, true, false, false, false, false, false, false, false, true, false, false, false, false, true, true, true, true]) (ctx_ok eqOk hG) mixed [false, false, false, false, false, false, true, false, false, false, false, false, false, false, false, false, false, false, false, false, false, false, false, false, false, true, true, true] (xss.length) (fun k => True) (fun k => ⟨[.junk, .junk, .junk, .junk, .junk, .junk, .ref 0 [] 0 (catTo xss k).length, .junk, .junk, .junk, .junk, .junk, .junk, .junk, .junk, .junk, .junk, .junk, .junk, .junk, .junk, .junk, .junk, .junk, .junk, intss nl xss, int xss.length, int k, .junk, .junk, .junk, .junk, .junk, .junk, .junk, .junk], [⟨true, .sl D 1 ((catTo xss k).map int)⟩]⟩) ?_ (by simp [sub, slotsLe, clean, keep, refsL, refs, once, place, renL, ren, List.replicate, int, bool, intss, catTo]) ?_ ?_ ?_
    · omega
    · trivial
    · intro k hk _ hwk
      have hs := catTo_succ hk
      have hle := catTo_le (xss := xss) (k := k + 1)
      rw [hs, List.length_append] at hle
      have hb : (catTo xss k).length + xss[k].2.length ≤ 4611686018427387904 ∧ ((catTo xss k).length + xss[k].2.length) * 8 ≤ 140737488355328 := by omega
      cases hDD : D with
      | true =>
        have hx0 := hDk k hk hDD
        have hb2 : (catTo xss k).length ≤ 4611686018427387904 ∧ (catTo xss k).length * 8 ≤ 140737488355328 := by omega
        simp (config := {contextual := true}) [List.range, List.range.loop, ints, intss, int, bool, row, frac, fracs, ← List.map_take, ← List.map_drop, hk, hwk, hs, hb2, hx0]
      | false =>
        simp (config := {contextual := true}) [List.range, List.range.loop, ints, intss, int, bool, row, frac, fracs, ← List.map_take, ← List.map_drop, hk, hwk, hs, hb]
    · intro _
      simp (config := {contextual := true}) [List.range, List.range.loop, ints, intss, int, bool, row, frac, fracs, ← List.map_take, ← List.map_drop, catTo_all]

end Go.Proofs.Ytlkgppincgpfjaa.Ax
