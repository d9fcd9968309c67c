/-
  Contracts: the reference's weights; WeightsOk of both programs where it holds. No condition.
-/
import Derived.Test.YtigepnpiofcooaaGreatCG9
import Derived.Test.YtigepnpiofcooaaGreatCB2
namespace Go.Proofs.YtigepnpiofcooaaGreat.Ax
open Go Go.RowKit
set_option linter.unusedSimpArgs false
theorem wt_set : ∀ m : Nat, m < 6 → m = 0 ∨ (List.replicate m (0 : Int)).set 0 1 = plW m := by decide
theorem specPlurality_ok : FnOk Tryz.prog 41 mPlW := by
  refine mk_ok fun m h => ?_
  have hG : FnsOk Tryz.prog [(38, mWithin)] := (.cons l01In_ok .nil)
  refine callOk_awp (ctx_ok eqOk hG) mixed (live := [true, false, true, true, false, false, true]) (dt := []) Tryz.func41 rfl (by kernel_rfl) (by kernel_rfl) fun w0 hlens => ?_
  clear hlens
  have hw : mWithin [.v (.int .i64 (m : Int)), .v (.int .i64 1), .v (.int .i64 5)] = some (.v (.bool true)) := by
    rw [mWithin_in, show inR 1 5 (m : Int) = true from inR_iff.2 (by omega)]
  have hm : 8 * m ≤ 281474976710656 ∧ m ≤ 4611686018427387904 := by omega
  have h0 : 0 < m := by omega
  have e := (wt_set m (by omega)).resolve_left (by omega)
  have e2 : (plW m).map int = (List.replicate m (AV.v (.int .i64 0))).set 0 (.v (.int .i64 1)) := by
    rw [← e, List.map_set, List.map_replicate]; rfl
  have hl : (plW m).length = m := by simp [plW]
  simp [Tryz.f41, List.range, List.range.loop, ints, intss, int, bool, row, frac, fracs, ← List.map_take, ← List.map_drop, hw, hm, h0, e2]
def boTo (m k : Nat) : List Int := (boW m).take k
theorem boTo_zero {m : Nat} : boTo m 0 = [] := by simp [boTo]
theorem boTo_succ {m k : Nat} (h : k < m) : boTo m (k + 1) = boTo m k ++ [(m : Int) - 1 - k] := by
  unfold boTo
  rw [List.take_succ_eq_append_getElem (by simpa [boW] using h)]
  simp [boW]
theorem boTo_len {m k : Nat} (h : k ≤ m) : (boTo m k).length = k := by simp [boTo, boW]; omega
theorem boTo_all {m : Nat} : boTo m m = boW m := List.take_of_length_le (by simp [boW])
set_option maxHeartbeats 1000000 in
theorem specBorda_ok : FnOk Tryz.prog 42 mBoW := by
  refine mk_ok fun m h => ?_
  have hG : FnsOk Tryz.prog [(38, mWithin)] := (.cons l01In_ok .nil)
  refine callOk_awp (ctx_ok eqOk hG) mixed (live := [true, false, true, true, true, false, false, true, false, false, false, false, true]) (dt := []) Tryz.func42 rfl (by kernel_rfl) (by kernel_rfl) fun w0 hlens => ?_
  clear hlens
  have hw : mWithin [.v (.int .i64 (m : Int)), .v (.int .i64 1), .v (.int .i64 5)] = some (.v (.bool true)) := by
    rw [mWithin_in, show inR 1 5 (m : Int) = true from inR_iff.2 (by omega)]
  have hw1 : IntKind.i64.wrap ((m : Int) - 1) = (m : Int) - 1 := wrapI (by omega) (by omega)
  have z0 := boTo_zero (m := m)
  simp [Tryz.f42, List.range, List.range.loop, ints, intss, int, bool, row, frac, fracs, ← List.map_take, ← List.map_drop, hw, hw1]
  refine awp_loop_of (live := [true, false, true, true, true, false, false, true, false, false, false, false, true]) (ctx_ok eqOk hG) mixed [false, false, false, true, true] (α := {k : Nat // k ≤ m}) (fun k => ⟨[.junk, .junk, .junk, .ref 0 [] 0 k.1, int ((m : Int) - 1 - k.1), .junk, .junk, .junk, .junk, .junk, .junk, .junk, .junk, .junk, .junk, .junk, .junk, .junk, .junk, .junk], [⟨true, .sl false 1 ((boTo m k.1).map int)⟩]⟩) (fun k => m - k.1) ⟨0, Nat.zero_le _⟩ (by simp [sub, slotsLe, clean, keep, refsL, refs, once, place, renL, ren, List.replicate, int, bool, z0]) ?_
  rintro ⟨k, hk⟩
  have hl := boTo_len hk
  by_cases hkm : k < m
  · have hs := boTo_succ hkm
    have hge : (k : Int) ≤ (m : Int) - 1 := by omega
    have hwk : IntKind.i64.wrap ((m : Int) - 1 - k - 1) = (m : Int) - 1 - k - 1 := wrapI (by omega) (by omega)
    have hb : (k + 1) * 8 ≤ 140737488355328 ∧ k + 1 ≤ 4611686018427387904 := by omega
    have hl2 := boTo_len (m := m) (k := k + 1) (by omega)
    simp [List.range, List.range.loop, ints, intss, int, bool, row, frac, fracs, ← List.map_take, ← List.map_drop, hl, hge, hwk, hb]
    refine ⟨⟨k + 1, by omega⟩, ?_, by simp; omega⟩
    simp [sub, slotsLe, clean, keep, refsL, refs, once, place, renL, ren, List.replicate, int, bool, hs, hl2]
    omega
  · obtain rfl : k = m := by omega
    have hlt : ¬ (k : Int) ≤ (k : Int) - 1 := by omega
    have hb : (boW k).length = k := by simp [boW]
    simp [List.range, List.range.loop, ints, intss, int, bool, row, frac, fracs, ← List.map_take, ← List.map_drop, hlt, boTo_all, hb]
theorem ve_all : ∀ m : Nat, m < 6 → m = 0 ∨ fiT (fun _ => 1) 0 0 m (m - 1) = veW m := by decide
set_option maxHeartbeats 1000000 in
theorem specVeto_ok : FnOk Tryz.prog 43 mVeW := by
  refine mk_ok fun m h => ?_
  have hG : FnsOk Tryz.prog [(38, mWithin)] := (.cons l01In_ok .nil)
  refine callOk_awp (ctx_ok eqOk hG) mixed (live := [true, false, true, true, true, false, false, true, false, false, false, false, false, true]) (dt := []) Tryz.func43 rfl (by kernel_rfl) (by kernel_rfl) fun w0 hlens => ?_
  clear hlens
  have hw : mWithin [.v (.int .i64 (m : Int)), .v (.int .i64 1), .v (.int .i64 5)] = some (.v (.bool true)) := by
    rw [mWithin_in, show inR 1 5 (m : Int) = true from inR_iff.2 (by omega)]
  have hw1 : IntKind.i64.wrap ((m : Int) - 1) = (m : Int) - 1 := wrapI (by omega) (by omega)
  have hm : 8 * m ≤ 281474976710656 ∧ m ≤ 4611686018427387904 := by omega
  have z0 : (fiT (fun _ => 1) 0 0 m 0).map int = List.replicate m (AV.v (.int .i64 0)) := by rw [fiT_zero, List.map_replicate]; rfl
  simp [Tryz.f43, List.range, List.range.loop, ints, intss, int, bool, row, frac, fracs, ← List.map_take, ← List.map_drop, hw, hw1, hm]
  refine awp_loop_of (live := [true, false, true, true, true, false, false, true, false, false, false, false, false, true]) (ctx_ok eqOk hG) mixed [true, false, false, true, true] (α := {k : Nat // k ≤ m - 1}) (fun k => ⟨[int (m : Int), .junk, .junk, .ref 0 [] 0 m, int (k.1 : Int), .junk, .junk, .junk, .junk, .junk, .junk, .junk, .junk, .junk, .junk, .junk, .junk, .junk, .junk, .junk], [⟨true, .sl false 1 ((fiT (fun _ => 1) 0 0 m k.1).map int)⟩]⟩) (fun k => m - k.1) ⟨0, Nat.zero_le _⟩ (by simp [sub, slotsLe, clean, keep, refsL, refs, once, place, renL, ren, List.replicate, int, bool, z0]) ?_
  rintro ⟨k, hk⟩
  have hl := fiT_len (g := fun _ => 1) (z := 0) (x := 0) (s := m) (a := k)
  by_cases hkm : k < m - 1
  · have h1 : (k : Int) < (m : Int) - 1 := by omega
    have h2 : k < m := by omega
    have hwk : IntKind.i64.wrap ((k : Int) + 1) = (k : Int) + 1 := wrapI (by omega) (by omega)
    have hs : (fiT (fun _ => 1) 0 0 m (k + 1)) = (fiT (fun _ => 1) 0 0 m k).set k 1 := by
      have := fiT_set (g := fun _ => 1) (z := 0) (x := 0) (y := 1) (s := m) (a := k)
      have h2 := fiT_next (g := fun _ => 1) (z := 0) (s := m) (a := k)
      rw [this]; exact h2.symm
    have hs2 : (fiT (fun _ => 1) 0 0 m (k + 1)).map int = ((fiT (fun _ => 1) 0 0 m k).map int).set k (.v (.int .i64 1)) := by rw [hs, List.map_set]; rfl
    simp [List.range, List.range.loop, ints, intss, int, bool, row, frac, fracs, ← List.map_take, ← List.map_drop, hl, h1, h2, hw1, hwk]
    refine ⟨⟨k + 1, by omega⟩, ?_, by simp; omega⟩
    simp [sub, slotsLe, clean, keep, refsL, refs, once, place, renL, ren, List.replicate, int, bool, hs2]
  · obtain rfl : k = m - 1 := by omega
    have hlt : ¬ ((m - 1 : Nat) : Int) < (m : Int) - 1 := by omega
    have e := (ve_all m (by omega)).resolve_left (by omega)
    have hl3 : (veW m).length = m := by simp [veW]
    simp [List.range, List.range.loop, ints, intss, int, bool, row, frac, fracs, ← List.map_take, ← List.map_drop, hl, hlt, hw1, e, hl3]
set_option maxHeartbeats 1000000 in
theorem sortedInts {g : FuncId} {caps : List AV} (hc : Pure caps) (c : Int → Int → Int) (nl : Bool) (xs : List Int) (h0 : 0 < xs.length) (hl : xs.length ≤ 1000) (h : ∀ i, i + 1 < xs.length → 0 ≤ c (at0 xs (i + 1)) (at0 xs i)) (hg : ∀ x ∈ xs, ∀ y ∈ xs, CallOk Tryz.prog g (.v (.int .i64 x) :: .v (.int .i64 y) :: caps) (.v (.int .i64 (c x y)))) :
    CallOk Tryz.prog 145 [ints nl xs, .fn g caps] (bool true) := by
  have hGg : FnOk Tryz.prog g (mk (fun p => p.1 ∈ xs ∧ p.2 ∈ xs) (fun p : Int × Int => .v (.int .i64 p.1) :: .v (.int .i64 p.2) :: caps) (fun p => .v (.int .i64 (c p.1 p.2)))) := mk_ok fun p hp => hg p.1 hp.1 p.2 hp.2
  have hat : ∀ x y : Int, x ∈ xs → y ∈ xs → mk (fun p => p.1 ∈ xs ∧ p.2 ∈ xs) (fun p : Int × Int => .v (.int .i64 p.1) :: .v (.int .i64 p.2) :: caps) (fun p => AV.v (.int .i64 (c p.1 p.2))) (.v (.int .i64 x) :: .v (.int .i64 y) :: caps) = some (.v (.int .i64 (c x y))) := fun x y hx hy =>
    mk_eq (enc := fun p : Int × Int => .v (.int .i64 p.1) :: .v (.int .i64 p.2) :: caps) (f := fun p => AV.v (.int .i64 (c p.1 p.2))) (x := (x, y)) (by
      rintro ⟨a, b⟩ ⟨a', b'⟩ h
      simp at h
      simp [h]) ⟨hx, hy⟩
  generalize mk (fun p => p.1 ∈ xs ∧ p.2 ∈ xs) (fun p : Int × Int => .v (.int .i64 p.1) :: .v (.int .i64 p.2) :: caps) (fun p => AV.v (.int .i64 (c p.1 p.2))) = md at hGg hat
  have hG : FnsOk Tryz.prog [(g, md)] := .cons hGg .nil
  refine callOk_awp (ctx_ok eqOk hG) mixed (live := [true, true, false, false, true, true, false, false, false, false, true, false, false, false, false, false, false, false, false, false, false, false, false, false, true]) (dt := [(4, ⟨[], [], []⟩)]) Tryz.func145 rfl (by kernel_rfl) (by kernel_rfl) fun w0 hlens => ?_
  clear hlens
  have hw1 : IntKind.i64.wrap ((xs.length : Int) - 1) = (xs.length : Int) - 1 := wrapI (by omega) (by omega)
  have hst : (xs.length : Int) - 1 = ((xs.length - 1 : Nat) : Int) := by omega
  simp [Tryz.f145, List.range, List.range.loop, ints, intss, int, bool, row, frac, fracs, ← List.map_take, ← List.map_drop, hw1, hc.res, hc.refs, hc.ren, hc.killN]
  refine awp_loop_of (live := [true, true, false, false, true, true, false, false, false, false, true, false, false, false, false, false, false, false, false, false, false, false, false, false, true]) (ctx_ok eqOk hG) mixed [true, true, false, false, false, true] (α := {j : Nat // j < xs.length}) (fun j => ⟨[ints nl xs, .fn g caps, .junk, .junk, .junk, int (j.1 : Int), .junk, .junk, .junk, .junk, .junk, .junk, .junk, .junk, .junk, .junk, .junk, .junk, .junk, .junk, .junk, .junk, .junk, .junk, .junk], []⟩) (fun j => j.1) ⟨xs.length - 1, by omega⟩ (by simp [sub, slotsLe, clean, keep, refsL, refs, once, place, renL, ren, List.replicate, int, bool, hst, ints, hc.refs, hc.ren, hc.killN]) ?_
  rintro ⟨j, hj⟩
  by_cases h1 : 0 < j
  · obtain ⟨i, rfl⟩ : ∃ i, j = i + 1 := ⟨j - 1, by omega⟩
    have hi : i < xs.length := by omega
    have hz := hat xs[i + 1] xs[i] (List.getElem_mem hj) (List.getElem_mem hi)
    have hn := h i hj
    rw [at0_eq hj, at0_eq hi] at hn
    have hwi : IntKind.i64.wrap (i : Int) = (i : Int) := wrapI (by omega) (by omega)
    have hpos : (0 : Int) < (i : Int) + 1 := by omega
    have hnlt : ¬ c xs[i + 1] xs[i] < 0 := by omega
    simp [List.range, List.range.loop, ints, intss, int, bool, row, frac, fracs, ← List.map_take, ← List.map_drop, hj, hi, hpos, hz, hwi, hnlt, hc.res, hc.refs, hc.ren, hc.killN]
    refine ⟨⟨i, hi⟩, ?_, by simp⟩
    simp [sub, slotsLe, clean, keep, refsL, refs, once, place, renL, ren, List.replicate, int, bool, ints, hc.refs, hc.ren, hc.killN]
  · obtain rfl : j = 0 := by omega
    simp [List.range, List.range.loop, ints, intss, int, bool, row, frac, fracs, ← List.map_take, ← List.map_drop, hc.res, hc.refs, hc.ren, hc.killN]
theorem wOk1 (x y : Int) (hx : 0 ≤ x ∧ x ≤ 100) (hy : 0 ≤ y ∧ y ≤ 100) : CallOk Tryz.prog 146 [.v (.int .i64 x), .v (.int .i64 y)] (.v (.int .i64 (y - x))) := by
  have hG : FnsOk Tryz.prog [] := .nil
  refine callOk_awp (ctx_ok eqOk hG) mixed (live := [true, true, false, false, true]) (dt := []) Tryz.func146 rfl (by kernel_rfl) (by kernel_rfl) fun w0 hlens => ?_
  clear hlens
  have hw : IntKind.i64.wrap (y - x) = y - x := wrapI (by omega) (by omega)
  simp [Tryz.f146, List.range, List.range.loop, ints, intss, int, bool, row, frac, fracs, ← List.map_take, ← List.map_drop, hw]
noncomputable def mWOk : List AV → Option AV := mk (fun p => wtB p.1 p.2.2 = true) (fun (p : Nat × Bool × List Int) => [int (p.1 : Int), ints p.2.1 p.2.2]) (fun _ => bool true)
theorem mWOk_at (m : Nat) (nl : Bool) (ws : List Int) (h : wtB m ws = true) : mWOk [.v (.int .i64 (m : Int)), .sl nl 1 (ws.map int)] = some (.v (.bool true)) :=
  mk_eq (enc := fun (p : Nat × Bool × List Int) => [int (p.1 : Int), ints p.2.1 p.2.2]) (x := (m, nl, ws)) (fun _ _ _ => rfl) h
theorem implWOk_ok : FnOk Tryz.prog 112 mWOk := by
  refine mk_ok fun ⟨m, nl, ws⟩ h => ?_
  simp only at h
  obtain ⟨h1, h5, hl, hr, hs⟩ := wt_facts h
  have hc := sortedInts (g := 146) pure_nil (fun x y => y - x) nl ws (by omega) (by omega) (fun i hi => by have := hs i (by omega); omega) (fun x hx y hy => wOk1 x y (hr x hx) (hr y hy))
  obtain ⟨md, hm, hz⟩ := as_model hc
  have hG : FnsOk Tryz.prog [(57, mWithin), (144, mAllIn), (145, md)] := (.cons within_ok (.cons allWithin_ok (.cons hm .nil)))
  refine callOk_awp (ctx_ok eqOk hG) mixed (live := [true, true, false, false, true, false, false, false, false, false, false, false, false, false, false, false, false, false, true]) (dt := []) Tryz.func112 rfl (by kernel_rfl) (by kernel_rfl) fun w0 hlens => ?_
  clear hlens
  simp only [ints] at hz
  have hw : mWithin [.v (.int .i64 (m : Int)), .v (.int .i64 1), .v (.int .i64 5)] = some (.v (.bool true)) := by
    rw [mWithin_in, show inR 1 5 (m : Int) = true from inR_iff.2 (by omega)]
  have ha := mAllIn_at nl ws 0 100
  rw [show ws.all (inR 0 100) = true from List.all_eq_true.2 fun x hx => inR_iff.2 (hr x hx)] at ha
  simp [Tryz.f112, List.range, List.range.loop, ints, intss, int, bool, row, frac, fracs, ← List.map_take, ← List.map_drop, hw, ha, hz, hl]
set_option maxHeartbeats 1000000 in
theorem specWOk_ok : FnOk Tryz.prog 135 mWOk := by
  refine mk_ok fun ⟨m, nl, ws⟩ h => ?_
  simp only at h
  obtain ⟨h1, h5, hl, hr, hs⟩ := wt_facts h
  have hG : FnsOk Tryz.prog [(38, mWithin)] := (.cons l01In_ok .nil)
  refine callOk_awp (ctx_ok eqOk hG) mixed (live := [true, true, false, false, true, true, true, false, false, false, false, false, false, false, false, true, true, true, true, true, false, false, false, false, false, false, false, false, false, false, false, false, false, false, false, false, false, false, true]) (dt := []) Tryz.func135 rfl (by kernel_rfl) (by kernel_rfl) fun w0 hlens => ?_
  clear hlens
  have hw : mWithin [.v (.int .i64 (m : Int)), .v (.int .i64 1), .v (.int .i64 5)] = some (.v (.bool true)) := by
    rw [mWithin_in, show inR 1 5 (m : Int) = true from inR_iff.2 (by omega)]
  simp [Tryz.f135, List.range, List.range.loop, ints, intss, int, bool, row, frac, fracs, ← List.map_take, ← List.map_drop, hw, hl]
  refine awp_range (live := [true, true, false, false, true, true, true, false, false, false, false, false, false, false, false, true, true, true, true, true, false, false, false, false, false, false, false, false, false, false, false, false, false, false, false, false, false, false, true]) (ctx_ok eqOk hG) mixed [false, true, false, false, false, false, false, false, false, false, false, false, false, false, false, false, true, true, true] (ws.length) (fun k => True) (fun k => ⟨[.junk, ints nl ws, .junk, .junk, .junk, .junk, .junk, .junk, .junk, .junk, .junk, .junk, .junk, .junk, .junk, .junk, ints nl ws, int ws.length, int k, .junk, .junk, .junk, .junk, .junk, .junk, .junk, .junk, .junk, .junk, .junk, .junk, .junk, .junk, .junk, .junk, .junk, .junk, .junk, .junk, .junk], []⟩) ?_ (by simp [sub, slotsLe, clean, keep, refsL, refs, once, place, renL, ren, List.replicate, int, bool, ints, hl]) ?_ ?_ ?_
  · omega
  · trivial
  · intro k hk _ hwk
    have hx := hr _ (List.getElem_mem hk)
    have hwx : mWithin [.v (.int .i64 ws[k]), .v (.int .i64 0), .v (.int .i64 100)] = some (.v (.bool true)) := by
      rw [mWithin_in, show inR 0 100 ws[k] = true from inR_iff.2 hx]
    have hkm : (k : Int) < (m : Int) := by omega
    have hkn : k < m := by omega
    by_cases h0 : 0 < k
    · obtain ⟨i, rfl⟩ : ∃ i, k = i + 1 := ⟨k - 1, by omega⟩
      have hi : i < ws.length := by omega
      have hss := hs i (by omega)
      rw [at0_eq hk, at0_eq hi] at hss
      have hwi : IntKind.i64.wrap (i : Int) = (i : Int) := wrapI (by omega) (by omega)
      have hpos : (0 : Int) < (i : Int) + 1 := by omega
      have hng : ¬ ws[i] < ws[i + 1] := by omega
      have him : i < m := by omega
      have hw2 : IntKind.i64.wrap ((i : Int) + 1 + 1) = (i : Int) + 1 + 1 := wrapI (by omega) (by omega)
      simp [List.range, List.range.loop, ints, intss, int, bool, row, frac, fracs, ← List.map_take, ← List.map_drop, him, hw2, hl, hk, hi, hkm, hkn, hwk, hwx, hwi, hpos, hng]
    · obtain rfl : k = 0 := by omega
      have ww1 : IntKind.i64.wrap 1 = 1 := by decide
      simp [List.range, List.range.loop, ints, intss, int, bool, row, frac, fracs, ← List.map_take, ← List.map_drop, hl, hk, hkm, hkn, hwx, ww1]
  · intro _
    simp [List.range, List.range.loop, ints, intss, int, bool, row, frac, fracs, ← List.map_take, ← List.map_drop, hl]
end Go.Proofs.YtigepnpiofcooaaGreat.Ax
namespace Go.Proofs.YtigepnpiofcooaaGreat.Ax
open Go Go.RowKit
set_option linter.unusedSimpArgs false
theorem rk_nat {s : Nat} {l : List Int} (h : rankB (s : Int) l = true) : l.length = s ∧ ∀ j (hj : j < l.length), ∃ b : Nat, l[j] = b ∧ b < s := by
  obtain ⟨_, _, h1, h2, _⟩ := rank_facts h
  exact ⟨by omega, fun j hj => ⟨l[j].toNat, by have := h2 j hj; omega, by have := h2 j hj; omega⟩⟩
theorem nilC_row {b : Bool} {l : List Int} (h : l ≠ []) : nilC (.sl b 1 (l.map int)) = false := by
  cases l with
  | nil => exact (h rfl).elim
  | cons x l => cases b <;> rfl
abbrev PrW := Nat × Bool × List Vt × Bool × List Int
theorem PrW_inj {x y : PrW} (h : [prof (x.1 : Int) x.2.1 x.2.2.1, ints x.2.2.2.1 x.2.2.2.2] = [prof (y.1 : Int) y.2.1 y.2.2.1, ints y.2.2.2.1 y.2.2.2.2]) : x = y := by
  obtain ⟨a, b, c, d, e⟩ := x
  obtain ⟨a', b', c', d', e'⟩ := y
  simp [prof, ints, int, map_vote_inj, map_int_inj] at h
  obtain ⟨⟨h1, h2, h3⟩, h4, h5⟩ := h
  rw [(by omega : a = a'), h2, h3, h4, h5]
noncomputable def mSco : List AV → Option AV := mk (fun p => profB (p.1 : Int) p.2.2.1 = true ∧ wtB p.1 p.2.2.2.2 = true) (fun (p : PrW) => [prof (p.1 : Int) p.2.1 p.2.2.1, ints p.2.2.2.1 p.2.2.2.2]) (fun p => ints false (scV p.2.2.2.2 p.1 p.2.2.1))
theorem mSco_at (s : Nat) (nl : Bool) (vs : List Vt) (nw : Bool) (ws : List Int) (h : profB (s : Int) vs = true ∧ wtB s ws = true) : mSco [.agg [.v (.int .i64 (s : Int)), .sl nl 2 (vs.map vote)], .sl nw 1 (ws.map int)] = some (.sl false 1 ((scV ws s vs).map int)) :=
  mk_eq (enc := fun (p : PrW) => [prof (p.1 : Int) p.2.1 p.2.2.1, ints p.2.2.2.1 p.2.2.2.2]) (x := (s, nl, vs, nw, ws)) (fun x y h => by rw [PrW_inj h]) h
set_option maxHeartbeats 4000000 in
theorem implScores_ok : FnOk Tryz.prog 61 mSco := by
  refine mk_ok fun ⟨S, nl, vs, nw, ws⟩ ⟨hp, hw⟩ => ?_
  simp only at hp hw
  obtain ⟨h1, h2, h3⟩ := prof_facts hp
  obtain ⟨w1, w5, wl, wr, _⟩ := wt_facts hw
  have hpp := mProf_at (S : Int) nl vs
  rw [hp] at hpp
  have hwo := mWOk_at S nw ws hw
  have hG : FnsOk Tryz.prog [(19, mProf), (112, mWOk)] := (.cons implProf_ok (.cons implWOk_ok .nil))
  refine callOk_awpZ [0] (ctx_ok eqOk hG) mixed (live := [true, true, true, false, true, true, false, true, true, true, false, false, false, false, false, false, false, false, false, true, false, false, false, false, true, true, true, true, false, false, false, true, true, true, true]) (dt := [(10, ⟨[], [], []⟩)]) Tryz.func61 rfl (by kernel_rfl) (by kernel_rfl) fun w0 hlens => ?_
  clear hlens
  have hm6 : 8 * S ≤ 281474976710656 ∧ S ≤ 4611686018427387904 := by omega
  have z0 := scV_zero (ws := ws) (s := S)
  simp [Tryz.f61, List.range, List.range.loop, ints, intss, int, bool, row, frac, fracs, ← List.map_take, ← List.map_drop, andThen_n, freeze, frzA, frzAL, sets, prof, hm6, hpp, hwo]
  refine awp_range (live := [true, true, true, false, true, true, false, true, true, true, false, false, false, false, false, false, false, false, false, true, false, false, false, false, true, true, true, true, false, false, false, true, true, true, true]) (ctx_ok eqOk hG) mixed [false, true, false, false, false, true, false, false, false, false, false, false, false, false, false, false, false, false, false, false, false, false, false, false, true, true, true] (vs.length) (fun k => True) (fun k => ⟨[.junk, ints nw ws, .junk, .junk, .junk, .ref 0 [] 0 S, .junk, .junk, .junk, .junk, .junk, .junk, .junk, .junk, .junk, .junk, .junk, .junk, .junk, .junk, .junk, .junk, .junk, .junk, vts nl vs, int vs.length, int k, .junk, .junk, .junk, .junk, .junk, .junk, .junk, .junk, .junk, .junk, .junk, .junk, .junk, .junk, .junk, .junk, .junk, .junk, .junk, .junk, .junk, .junk, .junk, .junk, .junk, .junk, .junk], [⟨true, .sl false 1 ((scV ws S (vs.take k)).map int)⟩]⟩) ?_ (by simp [sub, slotsLe, clean, keep, refsL, refs, once, place, renL, ren, List.replicate, int, bool, prof, vts, ints, z0]) ?_ ?_ ?_
  · omega
  · trivial
  · intro k hk _ hwk
    have hs := scV_succ (ws := ws) (s := S) hk
    have hl := scV_len (ws := ws) (s := S) (vs := vs.take k)
    have hbd := scV_bd (ws := ws) (s := S) (by omega) wr (fun v hv => (h3 v hv).2) k (by omega)
    obtain ⟨hrk, hc⟩ := h3 _ (List.getElem_mem hk)
    obtain ⟨hvl, hvn⟩ := rk_nat hrk
    rw [hs]
    generalize scV ws S (vs.take (k + 1)) = X at *
    generalize scV ws S (vs.take k) = O at *
    have z1 : scT ws O vs[k].1.2 vs[k].2 0 = O := rfl
    have hd : nilC (.sl vs[k].1.1 1 (vs[k].1.2.map int)) = false := nilC_row (fun e => by rw [e] at hvl; simp at hvl; omega)
    simp [List.range, List.range.loop, ints, intss, int, bool, row, frac, fracs, ← List.map_take, ← List.map_drop, prof, vts, vote, hk, hvl, -nilC, hd]
    refine awp_range (live := [true, true, true, false, true, true, false, true, true, true, false, false, false, false, false, false, false, false, false, true, false, false, false, false, true, true, true, true, false, false, false, true, true, true, true]) (ctx_ok eqOk hG) mixed [false, true, false, false, false, true, false, true, false, false, false, false, false, false, false, false, false, false, false, false, false, false, false, false, true, true, true, false, false, false, false, true, true, true] (S) (fun j => True) (fun j => ⟨[.junk, ints nw ws, .junk, .junk, .junk, .ref 0 [] 0 S, .junk, .ptr 1 [] 0 0, .junk, .junk, .junk, .junk, .junk, .junk, .junk, .junk, .junk, .junk, .junk, .junk, .junk, .junk, .junk, .junk, vts nl vs, int vs.length, int k, .junk, .junk, .junk, .junk, .ref 1 [(0, 0)] 0 S, int (S : Int), int j, .junk, .junk, .junk, .junk, .junk, .junk, .junk, .junk, .junk, .junk, .junk, .junk, .junk, .junk, .junk, .junk, .junk, .junk, .junk, .junk], [⟨true, .sl false 1 ((scT ws O vs[k].1.2 vs[k].2 j).map int)⟩, ⟨false, .sl false 2 [vote vs[k]]⟩]⟩) ?_ (by simp [sub, slotsLe, clean, keep, refsL, refs, once, place, renL, ren, List.replicate, int, bool, prof, vts, vote, ints, z1, hvl]) ?_ ?_ ?_
    · omega
    · trivial
    · intro j hj _ hwj
      have hjl : j < vs[k].1.2.length := by omega
      have hjw : j < ws.length := by omega
      obtain ⟨b, hb, hbS⟩ := hvn j hjl
      have hst : scT ws O vs[k].1.2 vs[k].2 (j + 1) = ad1 (scT ws O vs[k].1.2 vs[k].2 j) (at0 vs[k].1.2 j) (vs[k].2 * at0 ws j) := rfl
      have hAl := scT_len (ws := ws) (o := O) (l := vs[k].1.2) (c := vs[k].2) (j := j)
      have hAb := scT_bd (l := vs[k].1.2) wr (c := vs[k].2) (by omega) (by omega) hbd j
      generalize scT ws O vs[k].1.2 vs[k].2 (j + 1) = B at *
      generalize scT ws O vs[k].1.2 vs[k].2 j = A at *
      unfold ad1 at hst
      rw [at0_eq hjl, hb, Int.toNat_natCast, at0_eq hjw] at hst
      have hbA : b < A.length := by omega
      have e3 : A[b] = at0 A b := (at0_eq hbA).symm
      have hx := hAb _ (List.getElem_mem hbA)
      rw [e3] at hx
      have hwj2 := wr _ (List.getElem_mem hjw)
      have hm := mul_le2 (show 0 ≤ vs[k].2 by omega) hc.2 hwj2.1 hwj2.2
      have ww1 : IntKind.i64.wrap (vs[k].2 * ws[j]) = vs[k].2 * ws[j] := wrapI (by omega) (by omega)
      have ww2 : IntKind.i64.wrap (at0 A b + vs[k].2 * ws[j]) = at0 A b + vs[k].2 * ws[j] := wrapI (by omega) (by omega)
      have hjI : (j : Int) < (S : Int) := by omega
      have hAS : A.length = S := by omega
      subst hst
      simp [List.range, List.range.loop, ints, intss, int, bool, row, frac, fracs, ← List.map_take, ← List.map_drop, prof, vts, vote, hk, hj, hjI, hjl, hjw, hvl, hb, hbA, hbS, hAS, e3, ww1, ww2, hwj]
    · intro _
      have hAl := scT_len (ws := ws) (o := O) (l := vs[k].1.2) (c := vs[k].2) (j := S)
      simp [List.range, List.range.loop, ints, intss, int, bool, row, frac, fracs, ← List.map_take, ← List.map_drop, prof, vts, vote, hvl, hwk]
  · intro _
    have hl := scV_len (ws := ws) (s := S) (vs := vs)
    have ht : List.take vs.length vs = vs := List.take_length
    rw [ht]
    generalize scV ws S vs = A at *
    have hAt : A.take S = A := List.take_of_length_le (by omega)
    simp [List.range, List.range.loop, ints, intss, int, bool, row, frac, fracs, ← List.map_take, ← List.map_drop, prof, vts, hl, hAt]
set_option maxHeartbeats 4000000 in
theorem specScores_ok : FnOk Tryz.prog 98 mSco := by
  refine mk_ok fun ⟨S, nl, vs, nw, ws⟩ ⟨hp, hw⟩ => ?_
  simp only at hp hw
  obtain ⟨h1, h2, h3⟩ := prof_facts hp
  obtain ⟨w1, w5, wl, wr, _⟩ := wt_facts hw
  have hpp := mProf_at (S : Int) nl vs
  rw [hp] at hpp
  have hwo := mWOk_at S nw ws hw
  have hG : FnsOk Tryz.prog [] := .nil
  refine callOk_awpZ [0] (ctx_ok eqOk hG) mixed (live := [true, true, true, false, true, true, false, true, true, true, false, false, false, false, true, true, true, true, false, false, false, true, true, true, true]) (dt := [(8, ⟨[], [], []⟩)]) Tryz.func98 rfl (by kernel_rfl) (by kernel_rfl) fun w0 hlens => ?_
  clear hlens
  have hm6 : 8 * S ≤ 281474976710656 ∧ S ≤ 4611686018427387904 := by omega
  have z0 := scV_zero (ws := ws) (s := S)
  simp [Tryz.f98, List.range, List.range.loop, ints, intss, int, bool, row, frac, fracs, ← List.map_take, ← List.map_drop, andThen_n, freeze, frzA, frzAL, sets, prof, hm6]
  refine awp_range (live := [true, true, true, false, true, true, false, true, true, true, false, false, false, false, true, true, true, true, false, false, false, true, true, true, true]) (ctx_ok eqOk hG) mixed [false, true, false, false, false, true, false, false, false, false, false, false, false, false, true, true, true] (vs.length) (fun k => True) (fun k => ⟨[.junk, ints nw ws, .junk, .junk, .junk, .ref 0 [] 0 S, .junk, .junk, .junk, .junk, .junk, .junk, .junk, .junk, vts nl vs, int vs.length, int k, .junk, .junk, .junk, .junk, .junk, .junk, .junk, .junk, .junk, .junk, .junk, .junk, .junk, .junk, .junk, .junk, .junk, .junk, .junk, .junk, .junk, .junk, .junk, .junk, .junk, .junk, .junk, .junk, .junk], [⟨true, .sl false 1 ((scV ws S (vs.take k)).map int)⟩]⟩) ?_ (by simp [sub, slotsLe, clean, keep, refsL, refs, once, place, renL, ren, List.replicate, int, bool, prof, vts, ints, z0]) ?_ ?_ ?_
  · omega
  · trivial
  · intro k hk _ hwk
    have hs := scV_succ (ws := ws) (s := S) hk
    have hl := scV_len (ws := ws) (s := S) (vs := vs.take k)
    have hbd := scV_bd (ws := ws) (s := S) (by omega) wr (fun v hv => (h3 v hv).2) k (by omega)
    obtain ⟨hrk, hc⟩ := h3 _ (List.getElem_mem hk)
    obtain ⟨hvl, hvn⟩ := rk_nat hrk
    rw [hs]
    generalize scV ws S (vs.take (k + 1)) = X at *
    generalize scV ws S (vs.take k) = O at *
    have z1 : scT ws O vs[k].1.2 vs[k].2 0 = O := rfl
    have hd : nilC (.sl vs[k].1.1 1 (vs[k].1.2.map int)) = false := nilC_row (fun e => by rw [e] at hvl; simp at hvl; omega)
    simp [List.range, List.range.loop, ints, intss, int, bool, row, frac, fracs, ← List.map_take, ← List.map_drop, prof, vts, vote, hk, hvl, -nilC, hd]
    refine awp_range (live := [true, true, true, false, true, true, false, true, true, true, false, false, false, false, true, true, true, true, false, false, false, true, true, true, true]) (ctx_ok eqOk hG) mixed [false, true, false, false, false, true, false, true, false, false, false, false, false, false, true, true, true, false, false, false, false, true, true, true] (S) (fun j => True) (fun j => ⟨[.junk, ints nw ws, .junk, .junk, .junk, .ref 0 [] 0 S, .junk, .ptr 1 [] 0 0, .junk, .junk, .junk, .junk, .junk, .junk, vts nl vs, int vs.length, int k, .junk, .junk, .junk, .junk, .ref 1 [(0, 0)] 0 S, int (S : Int), int j, .junk, .junk, .junk, .junk, .junk, .junk, .junk, .junk, .junk, .junk, .junk, .junk, .junk, .junk, .junk, .junk, .junk, .junk, .junk, .junk, .junk, .junk], [⟨true, .sl false 1 ((scT ws O vs[k].1.2 vs[k].2 j).map int)⟩, ⟨false, .sl false 2 [vote vs[k]]⟩]⟩) ?_ (by simp [sub, slotsLe, clean, keep, refsL, refs, once, place, renL, ren, List.replicate, int, bool, prof, vts, vote, ints, z1, hvl]) ?_ ?_ ?_
    · omega
    · trivial
    · intro j hj _ hwj
      have hjl : j < vs[k].1.2.length := by omega
      have hjw : j < ws.length := by omega
      obtain ⟨b, hb, hbS⟩ := hvn j hjl
      have hst : scT ws O vs[k].1.2 vs[k].2 (j + 1) = ad1 (scT ws O vs[k].1.2 vs[k].2 j) (at0 vs[k].1.2 j) (vs[k].2 * at0 ws j) := rfl
      have hAl := scT_len (ws := ws) (o := O) (l := vs[k].1.2) (c := vs[k].2) (j := j)
      have hAb := scT_bd (l := vs[k].1.2) wr (c := vs[k].2) (by omega) (by omega) hbd j
      generalize scT ws O vs[k].1.2 vs[k].2 (j + 1) = B at *
      generalize scT ws O vs[k].1.2 vs[k].2 j = A at *
      unfold ad1 at hst
      rw [at0_eq hjl, hb, Int.toNat_natCast, at0_eq hjw] at hst
      have hbA : b < A.length := by omega
      have e3 : A[b] = at0 A b := (at0_eq hbA).symm
      have hx := hAb _ (List.getElem_mem hbA)
      rw [e3] at hx
      have hwj2 := wr _ (List.getElem_mem hjw)
      have hm := mul_le2 (show 0 ≤ vs[k].2 by omega) hc.2 hwj2.1 hwj2.2
      have ww1 : IntKind.i64.wrap (vs[k].2 * ws[j]) = vs[k].2 * ws[j] := wrapI (by omega) (by omega)
      have ww2 : IntKind.i64.wrap (at0 A b + vs[k].2 * ws[j]) = at0 A b + vs[k].2 * ws[j] := wrapI (by omega) (by omega)
      have hjI : (j : Int) < (S : Int) := by omega
      have hAS : A.length = S := by omega
      subst hst
      simp [List.range, List.range.loop, ints, intss, int, bool, row, frac, fracs, ← List.map_take, ← List.map_drop, prof, vts, vote, hk, hj, hjI, hjl, hjw, hvl, hb, hbA, hbS, hAS, e3, ww1, ww2, hwj]
    · intro _
      have hAl := scT_len (ws := ws) (o := O) (l := vs[k].1.2) (c := vs[k].2) (j := S)
      simp [List.range, List.range.loop, ints, intss, int, bool, row, frac, fracs, ← List.map_take, ← List.map_drop, prof, vts, vote, hvl, hwk]
  · intro _
    have hl := scV_len (ws := ws) (s := S) (vs := vs)
    have ht : List.take vs.length vs = vs := List.take_length
    rw [ht]
    generalize scV ws S vs = A at *
    have hAt : A.take S = A := List.take_of_length_le (by omega)
    simp [List.range, List.range.loop, ints, intss, int, bool, row, frac, fracs, ← List.map_take, ← List.map_drop, prof, vts, hl, hAt]
end Go.Proofs.YtigepnpiofcooaaGreat.Ax
