/-
  Contracts: marks on lists of tickets, and whether they stand. No condition.
-/
import Derived.Test.YtkfgmpmeipilnaaCG10
namespace Go.Proofs.Ytkfgmpmeipilnaa.Ax
open Go Go.RowKit
set_option linter.unusedSimpArgs false

/-- Where the marks of ticket j begin; tickets of which the first i are marked. -/
def mbT (k : Int) (ts : List Tk) (j : Nat) : Int := k + 2 * j + rowSum (rws ts) j
def mkTk (k : Int) (ts : List Tk) (j : Nat) : Tk := ((mbT k ts j, mbT k ts j + 1), (ts.getD j ((0, 0), true, [])).2.1, mkd (mbT k ts j + 2) (ts.getD j ((0, 0), true, [])).2.2.length)
def mkTT (k : Int) (ts : List Tk) (i : Nat) : List Tk := (List.range ts.length).map fun j => if j < i then mkTk k ts j else ts.getD j ((0, 0), true, [])
def mkTS (k : Int) (ts : List Tk) : List Tk := (List.range ts.length).map (mkTk k ts)
theorem getDT {ts : List Tk} {i : Nat} (h : i < ts.length) : ts.getD i ((0, 0), true, []) = ts[i] := by simp [List.getD_eq_getElem?_getD, h]
theorem mkTT_len {k : Int} {ts : List Tk} {i : Nat} : (mkTT k ts i).length = ts.length := by simp [mkTT]
theorem mkTS_len {k : Int} {ts : List Tk} : (mkTS k ts).length = ts.length := by simp [mkTS]
theorem mkTS_take {k : Int} {ts : List Tk} : (mkTS k ts).take ts.length = mkTS k ts := List.take_of_length_le (by simp [mkTS_len])
theorem mkTT_zero {k : Int} {ts : List Tk} : mkTT k ts 0 = ts := by
  apply List.ext_getElem
  · simp [mkTT]
  · intro i h1 h2
    simp only [mkTT, List.getElem_map, List.getElem_range, Nat.not_lt_zero, if_false, getDT h2]
theorem mkTT_all {k : Int} {ts : List Tk} : mkTT k ts ts.length = mkTS k ts := by
  apply List.ext_getElem
  · simp [mkTT, mkTS]
  · intro i h1 h2
    have h3 : i < ts.length := by simpa [mkTS] using h2
    simp [mkTT, mkTS, h3]
theorem mkTT_at {k : Int} {ts : List Tk} {i : Nat} (h : i < ts.length) (h' : i < (mkTT k ts i).length) : (mkTT k ts i)[i] = ts[i] := by
  simp only [mkTT, List.getElem_map, List.getElem_range, Nat.lt_irrefl, if_false, getDT h]
theorem mkTS_at {k : Int} {ts : List Tk} {i : Nat} (h : i < ts.length) (h' : i < (mkTS k ts).length) : (mkTS k ts)[i] = ((mbT k ts i, mbT k ts i + 1), ts[i].2.1, mkd (mbT k ts i + 2) ts[i].2.2.length) := by
  simp only [mkTS, List.getElem_map, List.getElem_range, mkTk, getDT h]
theorem mkTT_set {k : Int} {ts : List Tk} {i : Nat} (h : i < ts.length) : ((mkTT k ts i).map tick).set i (.agg [.v (.int .i64 (mbT k ts i)), .v (.int .i64 (mbT k ts i + 1)), .sl ts[i].2.1 1 ((mkd (mbT k ts i + 2) ts[i].2.2.length).map int)]) = (mkTT k ts (i + 1)).map tick := by
  have : (AV.agg [.v (.int .i64 (mbT k ts i)), .v (.int .i64 (mbT k ts i + 1)), .sl ts[i].2.1 1 ((mkd (mbT k ts i + 2) ts[i].2.2.length).map int)]) = tick (mkTk k ts i) := by simp only [tick, mkTk, getDT h]
  rw [this, ← List.map_set]
  congr 1
  apply List.ext_getElem
  · simp [mkTT]
  · intro j h1 h2
    rw [List.getElem_set]
    simp only [mkTT, List.getElem_map, List.getElem_range]
    by_cases e : i = j
    · subst e; simp
    · rw [if_neg e]
      by_cases h3 : j < i
      · rw [if_pos h3, if_pos (by omega)]
      · rw [if_neg h3, if_neg (by omega)]
theorem mbT_zero {k : Int} {ts : List Tk} : mbT k ts 0 = k := by simp [mbT, rowSum_zero]
theorem mbT_succ {k : Int} {ts : List Tk} {i : Nat} (h : i < ts.length) : mbT k ts (i + 1) = mbT k ts i + 2 + ts[i].2.2.length := by
  unfold mbT; rw [rwS_succ h]; omega
theorem mbT_bd {k : Int} {ts : List Tk} (_h0 : 0 ≤ k) (h : k + 2 * need (rws ts) ≤ 2 ^ 61) {i : Nat} (hi : i ≤ ts.length) : k ≤ mbT k ts i ∧ mbT k ts i ≤ 2 ^ 61 := by
  have := rowSum_mono (xss := rws ts) (show i ≤ (rws ts).length by rw [rws_len]; exact hi)
  simp only [need, rws_len] at this h
  unfold mbT; omega

noncomputable def mMarkT : List AV → Option (Nat × AV × AV) := mkM (fun (p : Bool × List Tk × Int) => 0 ≤ p.2.2 ∧ p.2.2 + 2 * need (rws p.2.1) ≤ 2 ^ 61) (fun p => [tks p.1 p.2.1, int p.2.2]) (fun p => (0, int (mbT p.2.2 p.2.1 p.2.1.length), tks p.1 (mkTS p.2.2 p.2.1)))
theorem mMarkT_at (nl : Bool) (ts : List Tk) (k : Int) (h : 0 ≤ k ∧ k + 2 * need (rws ts) ≤ 2 ^ 61) : mMarkT [.sl nl 3 (ts.map tick), .v (.int .i64 k)] = some (0, .v (.int .i64 (mbT k ts ts.length)), .sl nl 3 ((mkTS k ts).map tick)) :=
  mkM_eq (enc := fun (p : Bool × List Tk × Int) => [tks p.1 p.2.1, int p.2.2]) (x := (nl, ts, k)) (by rintro ⟨a, b, c⟩ ⟨d, e, f⟩ h; simp [tks, int, map_tick_inj] at h; simp [h]) h

set_option maxRecDepth 4000 in
set_option maxHeartbeats 4000000 in
theorem markTicketS_ok : FnMut Try.prog 24 mMarkT := by
  refine mkM_ok fun ⟨nl, ts, k⟩ ⟨hk0, hk⟩ => ?_
  simp only at hk0 hk
  have hnl : ts.length ≤ need (rws ts) := by simp [need, rws_len]
  have hG : FnsOk Try.prog [] := .nil
  have hM : FnsMut Try.prog [(54, mMarkI)] := (.cons markIntS_ok .nil)
  refine mutOk_awp (ctxM_ok eqOk hG hM) mixed (live := [true, true, false, false, true, true, false, false, false, true]) (dt := []) (pos := 0) rfl Try.func24 rfl (by kernel_rfl) (by kernel_rfl) fun US Uv w0 hlens => ?_
  simp [Try.f24, List.range, List.range.loop, ints, intss, int, bool, row, frac, fracs, ← List.map_take, ← List.map_drop, ctxM, tks]
  refine awp_range (live := [true, true, false, false, true, true, false, false, false, true]) (ctxM_ok eqOk hG hM) mixed [true, true, false, false, false, true] (ts.length) (fun i => True) (fun i => ⟨[.ref 0 [] 0 ts.length, int (mbT k ts i), .junk, .junk, .junk, int i, .junk, .junk, .junk, .junk, .junk, .junk, .junk, .junk, .junk, .junk, .junk, .junk, .junk, .junk, .junk, .junk, .junk, .junk, .junk, .junk, .junk, .junk, .junk, .junk, .junk, .junk, .junk, .junk, .junk, .junk], [⟨true, .sl nl 3 ((mkTT k ts i).map tick)⟩]⟩) ?_ (by simp [sub, slotsLe, clean, keep, refsL, refs, once, place, renL, ren, List.replicate, int, bool, mkTT_zero, mbT_zero, tks]) ?_ ?_ ?_
  · omega
  · trivial
  · intro i h _ hw
    have hs := mkTT_set (k := k) h
    have h1 := mbT_succ (k := k) h
    have hb := mbT_bd hk0 hk (i := i) (by omega)
    have hb2 := mbT_bd hk0 hk (i := i + 1) (by omega)
    have hl := mkTT_len (k := k) (ts := ts) (i := i)
    have hl2 := mkTT_len (k := k) (ts := ts) (i := i + 1)
    have ha := fun h' => mkTT_at (k := k) h h'
    rw [h1] at hb2
    rw [h1]
    have hz := mMarkI_at ts[i].2.1 ts[i].2.2 (mbT k ts i + 2) ⟨by omega, by omega⟩
    have w1 : IntKind.i64.wrap (mbT k ts i + 1) = mbT k ts i + 1 := wrapI (by omega) (by omega)
    have w2 : IntKind.i64.wrap (mbT k ts i + 1 + 1) = mbT k ts i + 2 := by rw [wrapI (by omega) (by omega)]; omega
    generalize mkTT k ts i = T at *
    generalize mkTT k ts (i + 1) = T2 at *
    generalize mbT k ts i = B at *
    simp (config := {maxSteps := 1000000}) [List.range, List.range.loop, ints, intss, int, bool, row, frac, fracs, ← List.map_take, ← List.map_drop, List.eraseIdx, tks, tick, h, hw, hl, hl2, ha, hz, mkd_len, hs, w1, w2]
    done
  · intro _
    simp (config := {contextual := true}) [List.range, List.range.loop, ints, intss, int, bool, row, frac, fracs, ← List.map_take, ← List.map_drop, List.eraseIdx, tks, mkTT_len, mkTT_all, mkTS_len]

noncomputable def mHeldT : List AV → Option AV := mk (fun (p : Bool × List Tk × Int) => 0 ≤ p.2.2 ∧ p.2.2 + 2 * need (rws p.2.1) ≤ 2 ^ 61) (fun p => [tks p.1 (mkTS p.2.2 p.2.1), int p.2.2]) (fun p => int (mbT p.2.2 (mkTS p.2.2 p.2.1) p.2.1.length))
theorem mkTS_sum {k : Int} {ts : List Tk} : mbT k (mkTS k ts) ts.length = mbT k ts ts.length := by
  have : (rws (mkTS k ts)).map (·.2.length) = (rws ts).map (·.2.length) := by
    apply List.ext_getElem
    · simp [rws, mkTS]
    · intro i h1 h2
      have h3 : i < ts.length := by simpa [rws] using h2
      simp only [rws, List.getElem_map]
      rw [mkTS_at h3]; simp [mkd_len]
  unfold mbT rowSum
  rw [List.map_take, this, ← List.map_take]
theorem mHeldT_at (nl : Bool) (ts : List Tk) (k : Int) (h : 0 ≤ k ∧ k + 2 * need (rws ts) ≤ 2 ^ 61) : mHeldT [.sl nl 3 ((mkTS k ts).map tick), .v (.int .i64 k)] = some (.v (.int .i64 (mbT k ts ts.length))) := by
  refine (mk_eq (enc := fun p : Bool × List Tk × Int => [tks p.1 (mkTS p.2.2 p.2.1), int p.2.2]) (x := (nl, ts, k)) (by
    rintro ⟨a, b, c⟩ ⟨d, e, f⟩ h
    simp [tks, int, map_tick_inj] at h
    obtain ⟨⟨_, h1⟩, rfl⟩ := h
    have h2 := congrArg List.length h1
    simp only [mkTS_len] at h2
    simp only [h1, h2]) h).trans ?_
  simp only [int, mkTS_sum]

set_option maxHeartbeats 2000000 in
theorem heldTicketS_ok : FnOk Try.prog 36 mHeldT := by
  refine mk_ok fun ⟨nl, ts, k⟩ ⟨hk0, hk⟩ => ?_
  simp only at hk0 hk
  have hnl : ts.length ≤ need (rws ts) := by simp [need, rws_len]
  simp only [mkTS_sum]
  have hG : FnsOk Try.prog [(91, mHeldI)] := (.cons heldIntS_ok .nil)
  refine callOk_awp (ctx_ok eqOk hG) mixed (live := [true, true, false, false, true, true, false, false, false, true, false, false, false, false, false, false, false, false, false, true, false, false, false, false, false, false, false, false, false, true, false, false, false, false, false, false, false, false, false, false, true]) (dt := []) Try.func36 rfl (by kernel_rfl) (by kernel_rfl) fun w0 hlens => ?_
  clear hlens
  simp [Try.f36, List.range, List.range.loop, ints, intss, int, bool, row, frac, fracs, ← List.map_take, ← List.map_drop, tks]
  refine awp_range (live := [true, true, false, false, true, true, false, false, false, true, false, false, false, false, false, false, false, false, false, true, false, false, false, false, false, false, false, false, false, true, false, false, false, false, false, false, false, false, false, false, true]) (ctx_ok eqOk hG) mixed [true, true, false, false, false, true] (ts.length) (fun i => True) (fun i => ⟨[tks nl (mkTS k ts), int (mbT k ts i), .junk, .junk, .junk, int i, .junk, .junk, .junk, .junk, .junk, .junk, .junk, .junk, .junk, .junk, .junk, .junk, .junk, .junk, .junk, .junk, .junk, .junk, .junk, .junk, .junk, .junk, .junk, .junk, .junk, .junk, .junk, .junk, .junk, .junk, .junk, .junk, .junk, .junk, .junk, .junk], []⟩) ?_ (by simp [sub, slotsLe, clean, keep, refsL, refs, once, place, renL, ren, List.replicate, int, bool, tks, mbT_zero]) ?_ ?_ ?_
  · omega
  · trivial
  · intro i h _ hw
    have h1 := mbT_succ (k := k) h
    have hb := mbT_bd hk0 hk (i := i) (by omega)
    have hb2 := mbT_bd hk0 hk (i := i + 1) (by omega)
    have hl := mkTS_len (k := k) (ts := ts)
    have ha := fun h' => mkTS_at (k := k) h h'
    rw [h1] at hb2
    rw [h1]
    have hz := mHeldI_at ts[i].2.1 ts[i].2.2.length (mbT k ts i + 2) ⟨by omega, by omega⟩
    have w1 : IntKind.i64.wrap (mbT k ts i + 1) = mbT k ts i + 1 := wrapI (by omega) (by omega)
    have w2 : IntKind.i64.wrap (mbT k ts i + 1 + 1) = mbT k ts i + 2 := by rw [wrapI (by omega) (by omega)]; omega
    have hn : ¬ (mbT k ts i + 2 + (ts[i].2.2.length : Int) < 0) := by omega
    generalize mkTS k ts = T at *
    generalize mbT k ts i = B at *
    simp (config := {maxSteps := 1000000}) [List.range, List.range.loop, ints, intss, int, bool, row, frac, fracs, ← List.map_take, ← List.map_drop, tks, tick, h, hw, hl, ha, hz, hn, w1, w2]
    done
  · intro _
    simp (config := {contextual := true}) [List.range, List.range.loop, ints, intss, int, bool, row, frac, fracs, ← List.map_take, ← List.map_drop, tks, mkTS_len]

end Go.Proofs.Ytkfgmpmeipilnaa.Ax
