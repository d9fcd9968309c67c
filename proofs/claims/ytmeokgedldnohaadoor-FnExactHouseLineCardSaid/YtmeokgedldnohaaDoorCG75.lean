/-
  Contracts: FormatTable (both programs). No condition.
-/
import Derived.Test.YtmeokgedldnohaaDoorCG74
namespace Go.Proofs.YtmeokgedldnohaaDoor.Ax
open Go Go.RowKit
set_option linter.unusedSimpArgs false

theorem numS_len {xs : List Int} (h : ∀ n ∈ xs, inI n) : (bl (numS xs)).length ≤ 21 * xs.length + 1 := by
  unfold numS
  split
  · exact Nat.le_add_left _ _
  · unfold joinS
    rw [bl_mk]
    have hl := join_len (c := 20) (sep := bl ⟨#[44]⟩) (ws := (xs.map itoaS).map bl) (by
      intro w hw
      simp only [List.map_map, List.mem_map, Function.comp_apply] at hw
      obtain ⟨n, hn, rfl⟩ := hw
      unfold itoaS; rw [bl_mk]
      exact itoa_len (h n hn))
    have e1 : (bl ⟨#[44]⟩).length = 1 := rfl
    rw [List.length_map, List.length_map, e1] at hl
    omega

def rowS (r : Bool × List Int) : ByteArray := numS r.2
def wr (r : Bool × List Int) : AV := .v (.string (rowS r))
def tabS (xss : List (Bool × List Int)) : ByteArray := if xss = [] then ⟨#[61]⟩ else joinS (xss.map rowS) ⟨#[59]⟩
def tabOk (xss : List (Bool × List Int)) : Prop := xss.length ≤ 1048576 ∧ ∀ r ∈ xss, r.2.length ≤ 1048576 ∧ ∀ n ∈ r.2, inI n
noncomputable def mFTab : List AV → Option AV := mk (fun p => tabOk p.2) (fun (p : (Bool) × (List (Bool × List Int))) => [intss p.1 p.2]) (fun p => .v (.string (tabS p.2)))
theorem mFTab_at (nl : Bool) (xss : List (Bool × List Int)) (hpre : tabOk xss) : mFTab [.sl nl 1 (xss.map row)] = some (.v (.string (tabS xss))) :=
  mk_eq (enc := fun (p : (Bool) × (List (Bool × List Int))) => [intss p.1 p.2]) (x := (nl, xss)) (by rintro ⟨a0, a1⟩ ⟨b0, b1⟩ h; simp [ints, intss, int, bool, row, frac, fracs, map_int_inj, map_row_inj, frac_inj, map_frac_inj] at h; simp [h]) hpre

theorem tab_join {xss : List (Bool × List Int)} (h : tabOk xss) : mJoin [.sl false 1 (xss.map wr), .v (.string ⟨#[59]⟩)] = some (.v (.string (joinS (xss.map rowS) ⟨#[59]⟩))) := by
  have h1 := h.1
  have hl := join_len (c := 22020097) (sep := bl ⟨#[59]⟩) (ws := (xss.map rowS).map bl) (by
    intro w hw
    simp only [List.map_map, List.mem_map, Function.comp_apply] at hw
    obtain ⟨r, hr, rfl⟩ := hw
    have := numS_len (h.2 r hr).2
    have := (h.2 r hr).1
    unfold rowS
    omega)
  have e1 : (bl ⟨#[59]⟩).length = 1 := rfl
  rw [List.length_map, List.length_map, e1] at hl
  have := mJoin_at false (xss.map rowS) ⟨#[59]⟩ ⟨by rw [List.length_map]; omega, by omega⟩
  rw [List.map_map] at this
  exact this

set_option maxHeartbeats 1000000 in
theorem implFormatTable_ok : FnOk Tryd.prog 42 mFTab := by
  refine mk_ok fun ⟨nl, xss⟩ h => ?_
  simp only at h
  have hG : FnsOk Tryd.prog [(40, mFNum), (53, mJoin)] := (.cons implFormatNumbers_ok (.cons implJoin_ok .nil))
  refine callOk_awp (ctx_ok eqOk hG) mixed (live := [true, false, true, true, false, true, false, false, true, true, true, true, true]) (dt := []) Tryd.func42 rfl (by kernel_rfl) (by kernel_rfl) fun w0 hlens => ?_
  clear hlens
  have hN := h.1
  have hj := tab_join h
  rcases List.eq_nil_or_concat xss with rfl | ⟨l', x', hx⟩
  · simp (config := {contextual := true}) [Tryd.f42, List.range, List.range.loop, ints, intss, int, bool, row, frac, fracs, ← List.map_take, ← List.map_drop, tabS]
    try (refine awp_range (live := [true, false, true, true, false, true, false, false, true, true, true, true, true]) (ctx_ok eqOk hG) mixed [false, false, false, true, false, false, false, false, false, true, true, true] (0) (fun k => True) (fun k => ⟨[.junk, .junk, .junk, .ref 0 [] 0 0, .junk, .junk, .junk, .junk, .junk, intss nl [], int 0, int k, .junk, .junk, .junk, .junk, .junk, .junk, .junk, .junk, .junk, .junk, .junk], apV []⟩) ?_ (by simp [sub, slotsLe, clean, keep, refsL, refs, once, place, renL, ren, List.replicate, int, bool, intss, apW, apWt, apV]) ?_ ?_ ?_
         · omega
         · trivial
         · intro k hk; omega
         · intro _
           simp (config := {contextual := true}) [List.range, List.range.loop, ints, intss, int, bool, row, frac, fracs, ← List.map_take, ← List.map_drop, apV])
    done
  have hne : xss ≠ [] := by rw [hx]; simp
  have h0 : 0 < xss.length := List.length_pos_iff.2 hne
  have hz : ¬ ((xss.length : Int) = 0) := by omega
  have hnS : tabS xss = joinS (xss.map rowS) ⟨#[59]⟩ := by unfold tabS; rw [if_neg hne]
  clear hx
  simp (config := {contextual := true}) [Tryd.f42, List.range, List.range.loop, ints, intss, int, bool, row, frac, fracs, ← List.map_take, ← List.map_drop, hz, hne]
  refine awp_range (live := [true, false, true, true, false, true, false, false, true, true, true, true, true]) (ctx_ok eqOk hG) mixed [false, false, false, true, false, false, false, false, false, true, true, true] (xss.length) (fun k => True) (fun k => ⟨[.junk, .junk, .junk, apW k, .junk, .junk, .junk, .junk, .junk, intss nl xss, int xss.length, int k, .junk, .junk, .junk, .junk, .junk, .junk, .junk, .junk, .junk, .junk, .junk], apWt ((xss.take k).map wr) k⟩) ?_ (by simp [sub, slotsLe, clean, keep, refsL, refs, once, place, renL, ren, List.replicate, int, bool, intss, apW, apWt, apV]) ?_ ?_ ?_
  · omega
  · trivial
  · intro k hk _ hwk
    have hit := mFNum_at xss[k].1 xss[k].2 ⟨by have := (h.2 _ (List.getElem_mem hk)).1; omega, (h.2 _ (List.getElem_mem hk)).2⟩
    have htr := take_snoc (f := wr) hk
    have hb : k + 1 ≤ 4611686018427387904 ∧ (k + 1) * 16 ≤ 140737488355328 := by omega
    have htl : (xss.take k).length = k := by simp; omega
    cases k with
    | zero =>
      have hwk1 : IntKind.i64.wrap 1 = 1 := by decide
      simp only [List.take_zero, List.map_nil, List.nil_append, wr, rowS] at htr
      rw [Nat.zero_add] at htr
      have ht1 := htr.symm
      simp (config := {contextual := true}) [List.range, List.range.loop, ints, intss, int, bool, row, frac, fracs, ← List.map_take, ← List.map_drop, row, apW, apWt, apV, h0, hit, ht1, hb, hwk1]
    | succ k =>
      simp only [wr, rowS] at htr
      simp (config := {contextual := true}) [List.range, List.range.loop, ints, intss, int, bool, row, frac, fracs, ← List.map_take, ← List.map_drop, row, apW, apWt, apV, hk, hit, htr, hb, hwk, htl]
      exact wrapI (by omega) (by omega)
  · intro _
    obtain ⟨m, hm⟩ : ∃ m, xss.length = m + 1 := ⟨xss.length - 1, by omega⟩
    have ht : xss.take (m + 1) = xss := List.take_of_length_le (by omega)
    rw [hm]
    simp (config := {contextual := true}) [List.range, List.range.loop, ints, intss, int, bool, row, frac, fracs, ← List.map_take, ← List.map_drop, apW, apWt, apV, ht, hm, hj, hnS]
    done

set_option maxHeartbeats 1000000 in
theorem specFormatTable_ok : FnOk Tryd.prog 37 mFTab := by
  refine mk_ok fun ⟨nl, xss⟩ h => ?_
  simp only at h
  have hG : FnsOk Tryd.prog [(35, mFNum), (74, mJoin)] := (.cons specFormatNumbers_ok (.cons specJoin_ok .nil))
  refine callOk_awp (ctx_ok eqOk hG) mixed (live := [true, false, true, true, false, true, false, true, true, true, true, false, false, false, false, false, false, false, false, false, false, true]) (dt := []) Tryd.func37 rfl (by kernel_rfl) (by kernel_rfl) fun w0 hlens => ?_
  clear hlens
  have hN := h.1
  have hj := tab_join h
  rcases List.eq_nil_or_concat xss with rfl | ⟨l', x', hx⟩
  · simp (config := {contextual := true}) [Tryd.f37, List.range, List.range.loop, ints, intss, int, bool, row, frac, fracs, ← List.map_take, ← List.map_drop, tabS]
    try (refine awp_range (live := [true, false, true, true, false, true, false, true, true, true, true, false, false, false, false, false, false, false, false, false, false, true]) (ctx_ok eqOk hG) mixed [false, false, false, true, false, false, false, true, true, true] (0) (fun k => True) (fun k => ⟨[.junk, .junk, .junk, .ref 0 [] 0 0, .junk, .junk, .junk, intss nl [], int 0, int k, .junk, .junk, .junk, .junk, .junk, .junk, .junk, .junk, .junk, .junk, .junk, .junk, .junk, .junk], apV []⟩) ?_ (by simp [sub, slotsLe, clean, keep, refsL, refs, once, place, renL, ren, List.replicate, int, bool, intss, apW, apWt, apV]) ?_ ?_ ?_
         · omega
         · trivial
         · intro k hk; omega
         · intro _
           simp (config := {contextual := true}) [List.range, List.range.loop, ints, intss, int, bool, row, frac, fracs, ← List.map_take, ← List.map_drop, apV])
    done
  have hne : xss ≠ [] := by rw [hx]; simp
  have h0 : 0 < xss.length := List.length_pos_iff.2 hne
  have hz : ¬ ((xss.length : Int) = 0) := by omega
  have hnS : tabS xss = joinS (xss.map rowS) ⟨#[59]⟩ := by unfold tabS; rw [if_neg hne]
  clear hx
  simp (config := {contextual := true}) [Tryd.f37, List.range, List.range.loop, ints, intss, int, bool, row, frac, fracs, ← List.map_take, ← List.map_drop, hz, hne]
  refine awp_range (live := [true, false, true, true, false, true, false, true, true, true, true, false, false, false, false, false, false, false, false, false, false, true]) (ctx_ok eqOk hG) mixed [false, false, false, true, false, false, false, true, true, true] (xss.length) (fun k => True) (fun k => ⟨[.junk, .junk, .junk, .ref 0 [] 0 k, .junk, .junk, .junk, intss nl xss, int xss.length, int k, .junk, .junk, .junk, .junk, .junk, .junk, .junk, .junk, .junk, .junk, .junk, .junk, .junk, .junk], apV ((xss.take k).map wr)⟩) ?_ (by simp [sub, slotsLe, clean, keep, refsL, refs, once, place, renL, ren, List.replicate, int, bool, intss, apW, apWt, apV]) ?_ ?_ ?_
  · omega
  · trivial
  · intro k hk _ hwk
    have hit := mFNum_at xss[k].1 xss[k].2 ⟨by have := (h.2 _ (List.getElem_mem hk)).1; omega, (h.2 _ (List.getElem_mem hk)).2⟩
    have htr := take_snoc (f := wr) hk
    have hb : k + 1 ≤ 4611686018427387904 ∧ (k + 1) * 16 ≤ 140737488355328 := by omega
    have htl : (xss.take k).length = k := by simp; omega
    cases k with
    | zero =>
      have hwk1 : IntKind.i64.wrap 1 = 1 := by decide
      simp only [List.take_zero, List.map_nil, List.nil_append, wr, rowS] at htr
      rw [Nat.zero_add] at htr
      have ht1 := htr.symm
      simp (config := {contextual := true}) [List.range, List.range.loop, ints, intss, int, bool, row, frac, fracs, ← List.map_take, ← List.map_drop, row, apW, apWt, apV, h0, hit, ht1, hb, hwk1]
    | succ k =>
      simp only [wr, rowS] at htr
      simp (config := {contextual := true}) [List.range, List.range.loop, ints, intss, int, bool, row, frac, fracs, ← List.map_take, ← List.map_drop, row, apW, apWt, apV, hk, hit, htr, hb, hwk, htl]
      exact wrapI (by omega) (by omega)
  · intro _
    obtain ⟨m, hm⟩ : ∃ m, xss.length = m + 1 := ⟨xss.length - 1, by omega⟩
    have ht : xss.take (m + 1) = xss := List.take_of_length_le (by omega)
    rw [hm]
    simp (config := {contextual := true}) [List.range, List.range.loop, ints, intss, int, bool, row, frac, fracs, ← List.map_take, ← List.map_drop, apW, apWt, apV, ht, hm, hj, hnS]
    done

theorem row_need {xss : List (Bool × List Int)} {r : Bool × List Int} (h : r ∈ xss) : r.2.length ≤ rowSum xss xss.length := by
  obtain ⟨k, hk, rfl⟩ := List.getElem_of_mem h
  have h1 := rowSum_succ hk
  have h2 := rowSum_mono (xss := xss) (show k + 1 ≤ xss.length by omega)
  omega
theorem tab_own {xss : List (Bool × List Int)} (h : need xss ≤ 1048576) (hx : ∀ r ∈ xss, ∀ n ∈ r.2, inI n) : tabOk (own xss) := by
  unfold need at h
  refine ⟨by simp only [own, List.length_map]; omega, fun r hr => ?_⟩
  simp only [own, List.mem_map] at hr
  obtain ⟨p, hp, rfl⟩ := hr
  have h9 := row_need hp
  have h8 : p.2.length ≤ 1048576 := by omega
  exact ⟨h8, fun n hn => hx p hp n hn⟩

end Go.Proofs.YtmeokgedldnohaaDoor.Ax
