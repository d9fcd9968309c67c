/-
  Contracts: TakeTurns in the order of the people (both programs). No condition.
-/
import Derived.Test.YtakladjlnkojjaaDoorCG178
import Derived.Test.YtakladjlnkojjaaDoorCG159
import Derived.Test.YtakladjlnkojjaaDoorCG32
namespace Go.Proofs.YtakladjlnkojjaaDoor.Ax
open Go Go.RowKit
set_option linter.unusedSimpArgs false

theorem rank_idx {n : Nat} (h1 : 1 ≤ n) (h3 : n ≤ 3) : rankB (n : Int) (idx n) = true := by
  have : n = 1 ∨ n = 2 ∨ n = 3 := by omega
  rcases this with rfl | rfl | rfl <;> decide

noncomputable def mTake : List AV → Option AV := mk (fun p => rectB p.2.1 3 6 100 = true ∧ p.2.2.2 = idx p.2.1.length) (fun (p : (Bool) × (List (Bool × List Int)) × (Bool) × (List Int)) => [intss p.1 p.2.1, ints p.2.2.1 p.2.2.2]) (fun p => .tup [.sl false 1 ((tkT p.2.1 (wid p.2.1) (wid p.2.1)).map int), .v (.bool true)])
theorem mTake_at (nl : Bool) (xss : List (Bool × List Int)) (nl' : Bool) (ord : List Int) (hpre : rectB xss 3 6 100 = true ∧ ord = idx xss.length) : mTake [.sl nl 1 (xss.map row), .sl nl' 1 (ord.map int)] = some (.tup [.sl false 1 ((tkT xss (wid xss) (wid xss)).map int), .v (.bool true)]) :=
  mk_eq (enc := fun (p : (Bool) × (List (Bool × List Int)) × (Bool) × (List Int)) => [intss p.1 p.2.1, ints p.2.2.1 p.2.2.2]) (x := (nl, xss, nl', ord)) (by rintro ⟨a0, a1, a2, a3⟩ ⟨b0, b1, b2, b3⟩ h; simp [ints, intss, int, bool, row, frac, fracs, map_int_inj, map_row_inj, frac_inj, map_frac_inj] at h; simp [h]) hpre

/-- What a turn is asked. -/
structure TkF (xss : List (Bool × List Int)) (k : Nat) (j : Nat) (v o : List Int) : Prop where
  hj : j < xss.length
  hv : xss[j].2 = v
  vl : v.length = wid xss
  ol : o.length = wid xss
  tmod : ((k : Int)).tmod (xss.length : Int) = (j : Int)
  wr : IntKind.i64.wrap (j : Int) = j
  gi : (idx xss.length)[j]? = some (j : Int)
  il : (idx xss.length).length = xss.length
  b0 : 0 ≤ tkB v o (wid xss)
  bw : (tkB v o (wid xss)).toNat < wid xss
  st : (o.map int).set (tkB v o (wid xss)).toNat (.v (.int .i64 j)) = (tkT xss (wid xss) (k + 1)).map int
theorem tkF {xss : List (Bool × List Int)} (h : rectB xss 3 6 100 = true) {k : Nat} (hk : k < wid xss) : TkF xss k (k % xss.length) (xss.getD (k % xss.length) (true, [])).2 (tkT xss (wid xss) k) := by
  have hn := rect_pos h
  have hl := rect_len h
  have hj := Nat.mod_lt k hn
  have hgd : xss.getD (k % xss.length) (true, []) = xss[k % xss.length] := by rw [List.getD_eq_getElem?_getD, List.getElem?_eq_getElem hj]; rfl
  have h0 := (tkT_cnt (xss := xss) (m := wid xss) (k := k) (by omega)).2 hk
  have hb := (tkB_bd (v := (xss.getD (k % xss.length) (true, [])).2) (o := tkT xss (wid xss) k) (k := wid xss)).2
  refine ⟨hj, by rw [hgd], by rw [hgd]; exact (rect_row h hj).1, tkT_len, rfl, wrapI (by omega) (by omega), ?_, by simp [idx], h0, by omega, ?_⟩
  · simp [idx, hj]
  · show ((tkT xss (wid xss) k).map int).set _ (int ((k % xss.length : Nat) : Int)) = _
    rw [← List.map_set]; rfl
theorem tkB_yes {v o : List Int} {g : Nat} (h1 : o.getD g 0 < 0) (h2 : tkB v o g < 0 ∨ v.getD (tkB v o g).toNat 0 < v.getD g 0) : tkB v o (g + 1) = (g : Int) := by rw [tkB, if_pos ⟨h1, h2⟩]
theorem tkB_no {v o : List Int} {g : Nat} (h : ¬ (o.getD g 0 < 0 ∧ (tkB v o g < 0 ∨ v.getD (tkB v o g).toNat 0 < v.getD g 0))) : tkB v o (g + 1) = tkB v o g := by rw [tkB, if_neg h]

set_option maxHeartbeats 4000000 in
theorem implTake_ok : FnOk Tryd.prog 35 mTake := by
  refine mk_ok fun ⟨nl, xss, nl', ord⟩ ⟨h1, ho⟩ => ?_
  simp only at h1 ho
  subst ho
  have hG : FnsOk Tryd.prog [(34, (mGrid 3 6 100)), (61, mRank), (62, mRepeatI)] := (.cons implValuesOk_ok (.cons implRankingOk_ok (.cons repeatI_ok .nil)))
  refine callOk_awp (ctx_ok eqOk hG) mixed (live := [true, true, false, false, true, true, true, true, true, true, true, true, false, false, false, false, false, false, false, false, false, true, false, false, false, false, false, false, false, true, true, true, false, false, false, false, false, false, false, false, true, true, true, true, false, false, false, false, false, false, false, false, false, false, false, false, false, false, false, false, false, false, false, false, false, false, false, false, false, true]) (dt := [(12, ⟨[], [], []⟩)]) Tryd.func35 rfl (by kernel_rfl) (by kernel_rfl) fun w0 hlens => ?_
  clear hlens
  have h0 := rect_pos h1
  have hw := wid_eq h0
  have hl := rect_len h1
  have hrk := rank_idx (n := xss.length) (by omega) (by omega)
  have hrp := mRepeatI_at false (-1) (wid xss) (by omega)
  have hz : List.replicate (wid xss) (-1) = tkT xss (wid xss) 0 := rfl
  rw [hz] at hrp
  simp [Tryd.f35, List.range, List.range.loop, ints, intss, int, bool, row, frac, fracs, ← List.map_take, ← List.map_drop, mGrid_at, mRank_at, h1, h0, hw, hrk, hrp]
  refine awp_range (live := [true, true, false, false, true, true, true, true, true, true, true, true, false, false, false, false, false, false, false, false, false, true, false, false, false, false, false, false, false, true, true, true, false, false, false, false, false, false, false, false, true, true, true, true, false, false, false, false, false, false, false, false, false, false, false, false, false, false, false, false, false, false, false, false, false, false, false, false, false, true]) (ctx_ok eqOk hG) mixed [true, true, false, false, false, false, true, false, false, false, false, false, false, false, false, false, false, false, false, false, false, false, false, false, false, false, false, false, false, true, true] (wid xss) (fun k => True) (fun k => ⟨[intss nl xss, ints nl' (idx xss.length), .junk, .junk, .junk, .junk, .ref 0 [] 0 (wid xss), .junk, .junk, .junk, .junk, .junk, .junk, .junk, .junk, .junk, .junk, .junk, .junk, .junk, .junk, .junk, .junk, .junk, .junk, .junk, .junk, .junk, .junk, int (wid xss), int k, .junk, .junk, .junk, .junk, .junk, .junk, .junk, .junk, .junk, .junk, .junk, .junk, .junk, .junk, .junk, .junk, .junk, .junk, .junk, .junk, .junk, .junk, .junk, .junk, .junk, .junk, .junk, .junk, .junk, .junk, .junk, .junk, .junk, .junk, .junk, .junk, .junk, .junk, .junk, .junk, .junk, .junk, .junk, .junk, .junk, .junk, .junk], [⟨true, .sl false 1 ((tkT xss (wid xss) k).map int)⟩]⟩) ?_ (by simp [sub, slotsLe, clean, keep, refsL, refs, once, place, renL, ren, List.replicate, int, bool, intss, ints, tkT_len]) ?_ ?_ ?_
  · omega
  · trivial
  · intro k hk _ hwk
    have F := tkF h1 hk
    generalize (xss.getD (k % xss.length) (true, [])).2 = v at F
    generalize hj : k % xss.length = j at F
    have hst := F.st
    generalize tkT xss (wid xss) k = o at F hst
    obtain ⟨f1, f2, f3, f4, f5, f6, f7, f8, f9, f10, _⟩ := F
    have hn0 : ¬ xss.length = 0 := by omega
    have hn1 : ¬ (xss.length : Int) = 0 := by omega
    have hn2 : xss ≠ [] := fun e => hn0 (by rw [e]; rfl)
    have f7' : (idx xss.length)[j]'(by omega) = (j : Int) := (List.getElem?_eq_some_iff.1 f7).2
    simp [List.range, List.range.loop, ints, intss, int, bool, row, frac, fracs, ← List.map_take, ← List.map_drop, hk, hwk, f4, f5, f6, f7, f7', f8, hn0, hn1, hn2, f1]
    have hb0 : tkB v o 0 = -1 := rfl
    refine awp_range (live := [true, true, false, false, true, true, true, true, true, true, true, true, false, false, false, false, false, false, false, false, false, true, false, false, false, false, false, false, false, true, true, true, false, false, false, false, false, false, false, false, true, true, true, true, false, false, false, false, false, false, false, false, false, false, false, false, false, false, false, false, false, false, false, false, false, false, false, false, false, true]) (ctx_ok eqOk hG) mixed [true, true, false, false, false, false, true, false, true, true, false, false, false, false, false, false, false, false, false, false, false, false, false, false, false, false, false, false, false, true, true, false, false, false, false, false, false, false, false, false, true, true, true] (wid xss) (fun g => True) (fun g => ⟨[intss nl xss, ints nl' (idx xss.length), .junk, .junk, .junk, .junk, .ref 0 [] 0 (wid xss), .junk, int j, int (tkB v o g), .junk, .junk, .junk, .junk, .junk, .junk, .junk, .junk, .junk, .junk, .junk, .junk, .junk, .junk, .junk, .junk, .junk, .junk, .junk, int (wid xss), int k, .junk, .junk, .junk, .junk, .junk, .junk, .junk, .junk, .junk, .ref 0 [] 0 (wid xss), int (wid xss), int g, .junk, .junk, .junk, .junk, .junk, .junk, .junk, .junk, .junk, .junk, .junk, .junk, .junk, .junk, .junk, .junk, .junk, .junk, .junk, .junk, .junk, .junk, .junk, .junk, .junk, .junk, .junk, .junk, .junk, .junk, .junk, .junk, .junk, .junk, .junk], [⟨true, .sl false 1 (o.map int)⟩]⟩) ?_ (by simp [sub, slotsLe, clean, keep, refsL, refs, once, place, renL, ren, List.replicate, int, bool, intss, ints, hb0, f4]) ?_ ?_ ?_
    · omega
    · trivial
    · intro g hg _ hwg
      have hgo : g < o.length := by omega
      have hgv : g < v.length := by omega
      have eo : o.getD g 0 = o[g] := getD_at hgo
      have ev : v.getD g 0 = v[g] := getD_at hgv
      have go : o[g]? = some o[g] := List.getElem?_eq_getElem hgo
      have gv : v[g]? = some v[g] := List.getElem?_eq_getElem hgv
      have hbd := tkB_bd (v := v) (o := o) (k := g)
      by_cases q1 : o[g] < 0
      · by_cases q2 : tkB v o g < 0
        · have e := tkB_yes (v := v) (o := o) (g := g) (by omega) (.inl q2)
          simp [List.range, List.range.loop, ints, intss, int, bool, row, frac, fracs, ← List.map_take, ← List.map_drop, row, hg, hwg, hgo, go, f1, f2, f4, q1, q2, e]
        · have hb : (tkB v o g).toNat < v.length := by omega
          have eb : v.getD (tkB v o g).toNat 0 = v[(tkB v o g).toNat] := getD_at hb
          have gb : v[(tkB v o g).toNat]? = some v[(tkB v o g).toNat] := List.getElem?_eq_getElem hb
          have q3 : 0 ≤ tkB v o g := by omega
          by_cases q4 : v[(tkB v o g).toNat] < v[g]
          · have e := tkB_yes (v := v) (o := o) (g := g) (by omega) (.inr (by omega))
            simp [List.range, List.range.loop, ints, intss, int, bool, row, frac, fracs, ← List.map_take, ← List.map_drop, row, hg, hwg, hgo, hgv, go, gv, gb, f1, f2, f4, q1, q2, q3, q4, e]
          · have e := tkB_no (v := v) (o := o) (g := g) (by omega)
            simp [List.range, List.range.loop, ints, intss, int, bool, row, frac, fracs, ← List.map_take, ← List.map_drop, row, hg, hwg, hgo, hgv, go, gv, gb, f1, f2, f4, q1, q2, q3, q4, e]
      · have e := tkB_no (v := v) (o := o) (g := g) (by omega)
        simp [List.range, List.range.loop, ints, intss, int, bool, row, frac, fracs, ← List.map_take, ← List.map_drop, row, hg, hwg, hgo, go, f1, f2, f4, q1, e]
    · intro _
      simp [List.range, List.range.loop, ints, intss, int, bool, row, frac, fracs, ← List.map_take, ← List.map_drop, hk, hwk, f4, f9, f10, hst, tkT_len]
  · intro _
    simp [List.range, List.range.loop, ints, intss, int, bool, row, frac, fracs, ← List.map_take, ← List.map_drop, tkT_len]

set_option maxHeartbeats 4000000 in
theorem specTake_ok : FnOk Tryd.prog 28 mTake := by
  refine mk_ok fun ⟨nl, xss, nl', ord⟩ ⟨h1, ho⟩ => ?_
  simp only at h1 ho
  subst ho
  have hG : FnsOk Tryd.prog [(27, (mGrid 3 6 100)), (55, mRank)] := (.cons specValuesOk_ok (.cons specRankingOk_ok .nil))
  refine callOk_awp (ctx_ok eqOk hG) mixed (live := [true, true, false, false, true, true, true, true, true, true, true, true, false, false, false, false, false, false, false, false, false, true, false, false, false, false, true, true, true, false, false, false, false, false, false, false, true, true, true, false, false, false, false, false, false, false, false, false, false, false, true, true, true, true, false, false, false, false, false, false, false, false, false, false, false, false, false, false, false, false, false, false, false, false, false, false, true]) (dt := []) Tryd.func28 rfl (by kernel_rfl) (by kernel_rfl) fun w0 hlens => ?_
  clear hlens
  have h0 := rect_pos h1
  have hw := wid_eq h0
  have hl := rect_len h1
  have hrk := rank_idx (n := xss.length) (by omega) (by omega)
  have hz : List.replicate (wid xss) (-1) = tkT xss (wid xss) 0 := rfl
  simp [Tryd.f28, List.range, List.range.loop, ints, intss, int, bool, row, frac, fracs, ← List.map_take, ← List.map_drop, mGrid_at, mRank_at, h1, h0, hw, hrk]
  refine awp_range (live := [true, true, false, false, true, true, true, true, true, true, true, true, false, false, false, false, false, false, false, false, false, true, false, false, false, false, true, true, true, false, false, false, false, false, false, false, true, true, true, false, false, false, false, false, false, false, false, false, false, false, true, true, true, true, false, false, false, false, false, false, false, false, false, false, false, false, false, false, false, false, false, false, false, false, false, false, true]) (ctx_ok eqOk hG) mixed [true, true, false, false, false, false, true, false, false, false, false, false, false, false, false, false, false, false, false, false, false, false, false, false, false, false, true, true] (wid xss) (fun g => True) (fun g => ⟨[intss nl xss, ints nl' (idx xss.length), .junk, .junk, .junk, .junk, .ref 0 [] 0 g, .junk, .junk, .junk, .junk, .junk, .junk, .junk, .junk, .junk, .junk, .junk, .junk, .junk, .junk, .junk, .junk, .junk, .junk, .junk, int (wid xss), int g, .junk, .junk, .junk, .junk, .junk, .junk, .junk, .junk, .junk, .junk, .junk, .junk, .junk, .junk, .junk, .junk, .junk, .junk, .junk, .junk, .junk, .junk, .junk, .junk, .junk, .junk, .junk, .junk, .junk, .junk, .junk, .junk, .junk, .junk, .junk, .junk, .junk, .junk, .junk, .junk, .junk, .junk, .junk, .junk, .junk, .junk, .junk, .junk, .junk, .junk, .junk, .junk, .junk, .junk, .junk, .junk, .junk], [⟨true, .sl false 1 ((List.replicate g (-1)).map int)⟩]⟩) ?_ (by simp [sub, slotsLe, clean, keep, refsL, refs, once, place, renL, ren, List.replicate, int, bool, intss, ints]) ?_ ?_ ?_
  · omega
  · trivial
  · intro g hg _ hwg
    have hrs : List.replicate g (AV.v (.int .i64 (-1))) ++ [.v (.int .i64 (-1))] = List.replicate (g + 1) (.v (.int .i64 (-1))) := by rw [← List.replicate_succ']
    have hb : g + 1 ≤ 4611686018427387904 ∧ (g + 1) * 8 ≤ 140737488355328 := by omega
    simp [List.range, List.range.loop, ints, intss, int, bool, row, frac, fracs, ← List.map_take, ← List.map_drop, hg, hwg, hb, hrs]
  · intro _
    simp [List.range, List.range.loop, ints, intss, int, bool, row, frac, fracs, ← List.map_take, ← List.map_drop, h0, hw]
    refine awp_range (live := [true, true, false, false, true, true, true, true, true, true, true, true, false, false, false, false, false, false, false, false, false, true, false, false, false, false, true, true, true, false, false, false, false, false, false, false, true, true, true, false, false, false, false, false, false, false, false, false, false, false, true, true, true, true, false, false, false, false, false, false, false, false, false, false, false, false, false, false, false, false, false, false, false, false, false, false, true]) (ctx_ok eqOk hG) mixed [true, true, false, false, false, false, true, false, false, false, false, false, false, false, false, false, false, false, false, false, false, false, false, false, false, false, false, false, false, false, false, false, false, false, false, false, true, true] (wid xss) (fun k => True) (fun k => ⟨[intss nl xss, ints nl' (idx xss.length), .junk, .junk, .junk, .junk, .ref 0 [] 0 (wid xss), .junk, .junk, .junk, .junk, .junk, .junk, .junk, .junk, .junk, .junk, .junk, .junk, .junk, .junk, .junk, .junk, .junk, .junk, .junk, .junk, .junk, .junk, .junk, .junk, .junk, .junk, .junk, .junk, .junk, int (wid xss), int k, .junk, .junk, .junk, .junk, .junk, .junk, .junk, .junk, .junk, .junk, .junk, .junk, .junk, .junk, .junk, .junk, .junk, .junk, .junk, .junk, .junk, .junk, .junk, .junk, .junk, .junk, .junk, .junk, .junk, .junk, .junk, .junk, .junk, .junk, .junk, .junk, .junk, .junk, .junk, .junk, .junk, .junk, .junk, .junk, .junk, .junk, .junk], [⟨true, .sl false 1 ((tkT xss (wid xss) k).map int)⟩]⟩) ?_ (by simp [sub, slotsLe, clean, keep, refsL, refs, once, place, renL, ren, List.replicate, int, bool, intss, ints, tkT_len, tkT]) ?_ ?_ ?_
    · omega
    · trivial
    · intro k hk _ hwk
      have F := tkF h1 hk
      generalize (xss.getD (k % xss.length) (true, [])).2 = v at F
      generalize hj : k % xss.length = j at F
      have hst := F.st
      generalize tkT xss (wid xss) k = o at F hst
      obtain ⟨f1, f2, f3, f4, f5, f6, f7, f8, f9, f10, _⟩ := F
      obtain ⟨fl, hfl⟩ : ∃ b, xss[j] = (b, v) := ⟨xss[j].1, by rw [← f2]⟩
      have hn0 : ¬ xss.length = 0 := by omega
      have hn1 : ¬ (xss.length : Int) = 0 := by omega
      have hn2 : xss ≠ [] := fun e => hn0 (by rw [e]; rfl)
      have f7' : (idx xss.length)[j]'(by omega) = (j : Int) := (List.getElem?_eq_some_iff.1 f7).2
      simp [List.range, List.range.loop, ints, intss, int, bool, row, frac, fracs, ← List.map_take, ← List.map_drop, hk, hwk, hfl, f2, f3, f4, f5, f6, f7, f7', f8, hn0, hn1, hn2, f1]
      have hb0 : tkB v o 0 = -1 := rfl
      refine awp_range (live := [true, true, false, false, true, true, true, true, true, true, true, true, false, false, false, false, false, false, false, false, false, true, false, false, false, false, true, true, true, false, false, false, false, false, false, false, true, true, true, false, false, false, false, false, false, false, false, false, false, false, true, true, true, true, false, false, false, false, false, false, false, false, false, false, false, false, false, false, false, false, false, false, false, false, false, false, true]) (ctx_ok eqOk hG) mixed [true, true, false, false, false, false, true, false, true, true, false, false, false, false, false, false, false, false, false, false, false, false, false, false, false, false, false, false, false, false, false, false, false, false, false, false, true, true, false, false, false, false, false, false, false, false, false, false, false, false, true, true, true] (wid xss) (fun g => True) (fun g => ⟨[intss nl xss, ints nl' (idx xss.length), .junk, .junk, .junk, .junk, .ref 0 [] 0 (wid xss), .junk, int j, int (tkB v o g), .junk, .junk, .junk, .junk, .junk, .junk, .junk, .junk, .junk, .junk, .junk, .junk, .junk, .junk, .junk, .junk, .junk, .junk, .junk, .junk, .junk, .junk, .junk, .junk, .junk, .junk, int (wid xss), int k, .junk, .junk, .junk, .junk, .junk, .junk, .junk, .junk, .junk, .junk, .junk, .junk, .sl fl 1 (v.map int), int (wid xss), int g, .junk, .junk, .junk, .junk, .junk, .junk, .junk, .junk, .junk, .junk, .junk, .junk, .junk, .junk, .junk, .junk, .junk, .junk, .junk, .junk, .junk, .junk, .junk, .junk, .junk, .junk, .junk, .junk, .junk, .junk, .junk, .junk], [⟨true, .sl false 1 (o.map int)⟩]⟩) ?_ (by simp [sub, slotsLe, clean, keep, refsL, refs, once, place, renL, ren, List.replicate, int, bool, intss, ints, hb0, f4]) ?_ ?_ ?_
      · omega
      · trivial
      · intro g hg _ hwg
        have hgo : g < o.length := by omega
        have hgv : g < v.length := by omega
        have eo : o.getD g 0 = o[g] := getD_at hgo
        have ev : v.getD g 0 = v[g] := getD_at hgv
        have go : o[g]? = some o[g] := List.getElem?_eq_getElem hgo
        have gv : v[g]? = some v[g] := List.getElem?_eq_getElem hgv
        have hbd := tkB_bd (v := v) (o := o) (k := g)
        by_cases q1 : o[g] < 0
        · by_cases q2 : tkB v o g < 0
          · have e := tkB_yes (v := v) (o := o) (g := g) (by omega) (.inl q2)
            simp [List.range, List.range.loop, ints, intss, int, bool, row, frac, fracs, ← List.map_take, ← List.map_drop, row, hg, hwg, hgo, hgv, go, gv, f1, hfl, f4, q1, q2, e]
          · have hb : (tkB v o g).toNat < v.length := by omega
            have eb : v.getD (tkB v o g).toNat 0 = v[(tkB v o g).toNat] := getD_at hb
            have gb : v[(tkB v o g).toNat]? = some v[(tkB v o g).toNat] := List.getElem?_eq_getElem hb
            have q3 : 0 ≤ tkB v o g := by omega
            by_cases q4 : v[(tkB v o g).toNat] < v[g]
            · have e := tkB_yes (v := v) (o := o) (g := g) (by omega) (.inr (by omega))
              simp [List.range, List.range.loop, ints, intss, int, bool, row, frac, fracs, ← List.map_take, ← List.map_drop, row, hg, hwg, hgo, hgv, go, gv, gb, f1, hfl, f4, q1, q2, q3, q4, e]
            · have e := tkB_no (v := v) (o := o) (g := g) (by omega)
              simp [List.range, List.range.loop, ints, intss, int, bool, row, frac, fracs, ← List.map_take, ← List.map_drop, row, hg, hwg, hgo, hgv, go, gv, gb, f1, hfl, f4, q1, q2, q3, q4, e]
        · have e := tkB_no (v := v) (o := o) (g := g) (by omega)
          simp [List.range, List.range.loop, ints, intss, int, bool, row, frac, fracs, ← List.map_take, ← List.map_drop, row, hg, hwg, hgo, hgv, go, gv, f1, hfl, f4, q1, e]
      · intro _
        simp [List.range, List.range.loop, ints, intss, int, bool, row, frac, fracs, ← List.map_take, ← List.map_drop, hk, hwk, f4, f9, f10, hst, tkT_len]
    · intro _
      simp [List.range, List.range.loop, ints, intss, int, bool, row, frac, fracs, ← List.map_take, ← List.map_drop, tkT_len]

end Go.Proofs.YtakladjlnkojjaaDoor.Ax
