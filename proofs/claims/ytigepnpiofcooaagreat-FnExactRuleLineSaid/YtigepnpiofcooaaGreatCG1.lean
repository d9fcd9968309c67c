/-
  Contracts of the laws' functions on profiles: size, copy, equality. No condition.
-/
import Derived.Test.YtigepnpiofcooaaGreatCB1
import Derived.Test.YtigepnpiofcooaaGreatCK4
import Derived.Test.YtigepnpiofcooaaGreatCB2
namespace Go.Proofs.YtigepnpiofcooaaGreat.Ax
open Go Go.RowKit
set_option linter.unusedSimpArgs false
abbrev Vt := (Bool × List Int) × Int
def vote (v : Vt) : AV := .agg [.sl v.1.1 1 (v.1.2.map int), .v (.int .i64 v.2)]
def vts (nl : Bool) (vs : List Vt) : AV := .sl nl 2 (vs.map vote)
def prof (s : Int) (nl : Bool) (vs : List Vt) : AV := .agg [.v (.int .i64 s), .sl nl 2 (vs.map vote)]
theorem vote_inj {a b : Vt} (h : vote a = vote b) : a = b := by
  obtain ⟨⟨a1, a2⟩, a3⟩ := a
  obtain ⟨⟨b1, b2⟩, b3⟩ := b
  simp [vote, map_int_inj] at h
  simp [h]
theorem map_vote_inj {a b : List Vt} : a.map vote = b.map vote ↔ a = b := List.map_inj_right fun _ _ h => vote_inj h
def rkv (vs : List Vt) : List (Bool × List Int) := vs.map (·.1)
theorem rkv_len {vs : List Vt} : (rkv vs).length = vs.length := by simp [rkv]
theorem rkv_get {vs : List Vt} {i : Nat} (h : i < vs.length) : (rkv vs)[i]'(by rw [rkv_len]; exact h) = vs[i].1 := by simp [rkv]
theorem rvS_succ {vs : List Vt} {i : Nat} (h : i < vs.length) : rowSum (rkv vs) (i + 1) = rowSum (rkv vs) i + vs[i].1.2.length := by
  rw [rowSum_succ (by rw [rkv_len]; exact h), rkv_get h]
def ownVt (t : Vt) : Vt := ((false, t.1.2), t.2)
def ownVs (vs : List Vt) : List Vt := vs.map ownVt
theorem ownVs_len {vs : List Vt} : (ownVs vs).length = vs.length := by simp [ownVs]
noncomputable def mSzV : List AV → Option AV := mk (fun p => p.1.1.2.length < 2 ^ 63 ∧ 0 ≤ p.2 ∧ p.2 ≤ 2 ^ 62) (fun (p : Vt × Int) => [vote p.1, int p.2]) (fun p => int (if p.2 < p.1.1.2.length then -1 else p.2 - p.1.1.2.length))
theorem mSzV_at (nl : Bool) (xs : List Int) (c l : Int) (h : xs.length < 2 ^ 63) (h1 : 0 ≤ l) (h2 : l ≤ 2 ^ 62) : mSzV [.agg [.sl nl 1 (xs.map int), .v (.int .i64 c)], .v (.int .i64 l)] = some (.v (.int .i64 (if l < xs.length then -1 else l - xs.length))) :=
  mk_eq (enc := fun (p : Vt × Int) => [vote p.1, int p.2]) (x := (((nl, xs), c), l)) (by rintro ⟨x, x'⟩ ⟨y, y'⟩ h; simp only [List.cons.injEq, int_inj, and_true] at h; obtain ⟨h, rfl⟩ := h; rw [vote_inj h]) ⟨h, h1, h2⟩
set_option maxHeartbeats 1000000 in
theorem szVote_ok : FnOk Tryz.prog 15 mSzV := by
  refine mk_ok fun ⟨⟨⟨nl, xs⟩, c⟩, l⟩ ⟨h1, h2, h3⟩ => ?_
  simp only at h1 h2 h3
  have hz := mSzI_at nl xs l h1 h2 h3
  have hG : FnsOk Tryz.prog [(37, mSzI)] := (.cons szIntS_ok .nil)
  refine callOk_awp (ctx_ok eqOk hG) mixed (live := [true, true, true, false, true, false, false, false, false, false, true]) (dt := []) Tryz.func15 rfl (by kernel_rfl) (by kernel_rfl) fun w0 hlens => ?_
  clear hlens
  by_cases hc : l < xs.length
  · simp [hc] at hz
    simp (config := {contextual := true}) [Tryz.f15, List.range, List.range.loop, ints, intss, int, bool, row, frac, fracs, ← List.map_take, ← List.map_drop, vote, hz, hc]
  · simp [hc] at hz
    have hn : ¬ l - (xs.length : Int) < 0 := by omega
    simp (config := {contextual := true}) [Tryz.f15, List.range, List.range.loop, ints, intss, int, bool, row, frac, fracs, ← List.map_take, ← List.map_drop, vote, hz, hc, hn]
noncomputable def mSzVs : List AV → Option AV := mk (fun p => p.2.1.length < 2 ^ 63 ∧ (∀ x ∈ p.2.1, x.1.2.length < 2 ^ 63) ∧ 0 ≤ p.2.2 ∧ p.2.2 ≤ 2 ^ 62) (fun (p : Bool × List Vt × Int) => [vts p.1 p.2.1, int p.2.2]) (fun p => int (if p.2.2 < need (rkv p.2.1) then -1 else p.2.2 - need (rkv p.2.1)))
theorem mSzVs_at (nl : Bool) (vs : List Vt) (l : Int) (h : vs.length < 2 ^ 63) (h' : ∀ x ∈ vs, x.1.2.length < 2 ^ 63) (h1 : 0 ≤ l) (h2 : l ≤ 2 ^ 62) : mSzVs [.sl nl 2 (vs.map vote), .v (.int .i64 l)] = some (.v (.int .i64 (if l < need (rkv vs) then -1 else l - need (rkv vs)))) :=
  mk_eq (enc := fun (p : Bool × List Vt × Int) => [vts p.1 p.2.1, int p.2.2]) (x := (nl, vs, l)) (by rintro ⟨x, x', x''⟩ ⟨y, y', y''⟩ h; simp [vts, int_inj, map_vote_inj] at h; simp [h]) ⟨h, h', h1, h2⟩
set_option maxHeartbeats 2000000 in
theorem szVoteS_ok : FnOk Tryz.prog 9 mSzVs := by
  refine mk_ok fun ⟨nl, vs, l⟩ ⟨h1, h1', h2, h3⟩ => ?_
  simp only at h1 h1' h2 h3
  have hw : IntKind.i64.wrap (l - vs.length) = l - vs.length := wrapI (by omega) (by omega)
  have hnd : need (rkv vs) = vs.length + rowSum (rkv vs) vs.length := by simp [need, rkv_len]
  have hmono := fun k => rowSum_mono (xss := rkv vs) (k := k) (n := vs.length)
  have hG : FnsOk Tryz.prog [(15, mSzV)] := (.cons szVote_ok .nil)
  refine callOk_awp (ctx_ok eqOk hG) mixed (live := [true, true, false, false, true, true, false, false, false, false, false, true, false, false, false, true, false, false, false, false, false, false, false, false, false, true]) (dt := []) Tryz.func9 rfl (by kernel_rfl) (by kernel_rfl) fun w0 hlens => ?_
  clear hlens
  by_cases h : l < vs.length
  · have h' : l - vs.length < 0 := by omega
    have hn : l < need (rkv vs) := by omega
    simp [Tryz.f9, List.range, List.range.loop, ints, intss, int, bool, row, frac, fracs, ← List.map_take, ← List.map_drop, vts, hw, hn, h']
  · have h' : ¬ l - vs.length < 0 := by omega
    simp [Tryz.f9, List.range, List.range.loop, ints, intss, int, bool, row, frac, fracs, ← List.map_take, ← List.map_drop, vts, hw, h, h']
    refine awp_range (live := [true, true, false, false, true, true, false, false, false, false, false, true, false, false, false, true, false, false, false, false, false, false, false, false, false, true]) (ctx_ok eqOk hG) mixed [true, true, false, false, false, true] (vs.length) (fun k => (vs.length : Int) + rowSum (rkv vs) k ≤ l) (fun k => ⟨[vts nl vs, int (l - vs.length - rowSum (rkv vs) k), .junk, .junk, .junk, int k, .junk, .junk, .junk, .junk, .junk, .junk, .junk, .junk, .junk, .junk, .junk, .junk, .junk, .junk, .junk, .junk, .junk, .junk, .junk, .junk, .junk], []⟩) ?_ (by simp [sub, slotsLe, clean, keep, refsL, refs, once, place, renL, ren, List.replicate, int, bool, vts, rowSum_zero]) ?_ ?_ ?_
    · omega
    · rw [rowSum_zero]; omega
    · intro k hk hl hwk
      have hx := h1' vs[k] (List.getElem_mem _)
      have hs := rvS_succ hk
      have hz := mSzV_at vs[k].1.1 vs[k].1.2 vs[k].2 (l - vs.length - rowSum (rkv vs) k) hx (by omega) (by omega)
      have hm := hmono (k + 1) (by omega)
      by_cases hc : l - vs.length - rowSum (rkv vs) k < vs[k].1.2.length
      · simp [hc] at hz
        have hn : l < need (rkv vs) := by omega
        simp (config := {contextual := true}) [List.range, List.range.loop, ints, intss, int, bool, row, frac, fracs, ← List.map_take, ← List.map_drop, vts, vote, hk, hwk, hz, hn]
        done
      · simp [hc] at hz
        have hc' : ¬ l - vs.length - rowSum (rkv vs) k - vs[k].1.2.length < 0 := by omega
        have e : l - vs.length - rowSum (rkv vs) k - vs[k].1.2.length = l - vs.length - rowSum (rkv vs) (k + 1) := by omega
        have e2 : (vs.length : Int) + rowSum (rkv vs) (k + 1) ≤ l := by omega
        rw [e] at hz hc'
        simp (config := {contextual := true}) [List.range, List.range.loop, ints, intss, int, bool, row, frac, fracs, ← List.map_take, ← List.map_drop, vts, vote, hk, hwk, hz, hc', e2]
        done
    · intro hl
      have hn : ¬ l < need (rkv vs) := by omega
      have e : l - vs.length - rowSum (rkv vs) vs.length = l - need (rkv vs) := by omega
      simp (config := {contextual := true}) [List.range, List.range.loop, ints, intss, int, bool, row, frac, fracs, ← List.map_take, ← List.map_drop, vts, hn, e]
noncomputable def mToV : List AV → Option AV := mk (fun p => p.1.2.length ≤ 2 ^ 40) (fun (p : Vt) => [vote p]) (fun p => vote (ownVt p))
theorem mToV_at (nl : Bool) (xs : List Int) (c : Int) (h : xs.length ≤ 2 ^ 40) : mToV [.agg [.sl nl 1 (xs.map int), .v (.int .i64 c)]] = some (.agg [.sl false 1 (xs.map int), .v (.int .i64 c)]) :=
  mk_eq (enc := fun (p : Vt) => [vote p]) (f := fun p => vote (ownVt p)) (x := ((nl, xs), c)) (by rintro x y h; simp only [List.cons.injEq, and_true] at h; rw [vote_inj h]) h
set_option maxHeartbeats 1000000 in
theorem toVote_ok : FnOk Tryz.prog 18 mToV := by
  refine mk_ok fun ⟨⟨nl, xs⟩, c⟩ h1 => ?_
  simp only at h1
  have hz := mToIs_at nl xs h1
  have hG : FnsOk Tryz.prog [(56, mToIs)] := (.cons toIntS_ok .nil)
  refine callOk_awp (ctx_ok eqOk hG) mixed (live := [true, true, true, true]) (dt := []) Tryz.func18 rfl (by kernel_rfl) (by kernel_rfl) fun w0 hlens => ?_
  clear hlens
  simp (config := {contextual := true}) [Tryz.f18, List.range, List.range.loop, ints, intss, int, bool, row, frac, fracs, ← List.map_take, ← List.map_drop, vote, ownVt, hz]
def smallVs (vs : List Vt) : Prop := vs.length ≤ 2 ^ 40 ∧ ∀ x ∈ vs, x.1.2.length ≤ 2 ^ 40
noncomputable def mToVs : List AV → Option AV := mk (fun p => smallVs p.2) (fun (p : Bool × List Vt) => [vts p.1 p.2]) (fun p => vts false (ownVs p.2))
theorem mToVs_at (nl : Bool) (vs : List Vt) (h : smallVs vs) : mToVs [.sl nl 2 (vs.map vote)] = some (.sl false 2 ((ownVs vs).map vote)) :=
  mk_eq (enc := fun (p : Bool × List Vt) => [vts p.1 p.2]) (x := (nl, vs)) (by rintro ⟨x, x'⟩ ⟨y, y'⟩ h; simp [vts, map_vote_inj] at h; simp [h]) h
set_option maxHeartbeats 1000000 in
theorem toVoteS_ok : FnOk Tryz.prog 12 mToVs := by
  refine mk_ok fun ⟨nl, vs⟩ ⟨hpre, hpr⟩ => ?_
  simp only at hpre hpr
  have hb : 32 * vs.length ≤ 281474976710656 := by omega
  have hn : vs.length ≤ 4611686018427387904 := by omega
  have hz0 := filled_zero (f := fun t => vote (ownVt t)) (z := .agg [.sl true 1 [], .v (.int .i64 0)]) (xs := vs)
  have hza := filled_all (f := fun t => vote (ownVt t)) (z := .agg [.sl true 1 [], .v (.int .i64 0)]) (xs := vs)
  have hmap : vs.map (fun t => vote (ownVt t)) = (ownVs vs).map vote := by simp [ownVs, Function.comp_def]
  have hG : FnsOk Tryz.prog [(18, mToV)] := (.cons toVote_ok .nil)
  refine callOk_awp (ctx_ok eqOk hG) mixed (live := [true, false, true, true, true, false, false, false, false, false, false, true]) (dt := []) Tryz.func12 rfl (by kernel_rfl) (by kernel_rfl) fun w0 hlens => ?_
  clear hlens
  simp (config := {contextual := true}) [Tryz.f12, List.range, List.range.loop, ints, intss, int, bool, row, frac, fracs, ← List.map_take, ← List.map_drop, vts, hb, hn]
  refine awp_range (live := [true, false, true, true, true, false, false, false, false, false, false, true]) (ctx_ok eqOk hG) mixed [true, false, false, true, true] (vs.length) (fun k => True) (fun k => ⟨[vts nl vs, .junk, .junk, .ref 0 [] 0 vs.length, int k, .junk, .junk, .junk, .junk, .junk, .junk, .junk, .junk, .junk, .junk, .junk, .junk, .junk, .junk, .junk, .junk, .junk, .junk], [⟨true, .sl false 2 (filled (fun t => vote (ownVt t)) (.agg [.sl true 1 [], .v (.int .i64 0)]) vs k)⟩]⟩) ?_ (by simp [sub, slotsLe, clean, keep, refsL, refs, once, place, renL, ren, List.replicate, int, bool, vts, hz0]) ?_ ?_ ?_
  · omega
  · trivial
  · intro k hk _ hwk
    have hl := filled_len (f := fun t => vote (ownVt t)) (z := .agg [.sl true 1 [], .v (.int .i64 0)]) (show k ≤ vs.length by omega)
    have hg := filled_get (f := fun t => vote (ownVt t)) (z := .agg [.sl true 1 [], .v (.int .i64 0)]) hk
    have hg' := filled_get' (f := fun t => vote (ownVt t)) (z := .agg [.sl true 1 [], .v (.int .i64 0)]) hk
    have hset := filled_set (f := fun t => vote (ownVt t)) (z := .agg [.sl true 1 [], .v (.int .i64 0)]) hk
    have hl2 := filled_len (f := fun t => vote (ownVt t)) (z := .agg [.sl true 1 [], .v (.int .i64 0)]) (show k + 1 ≤ vs.length by omega)
    have hz := mToV_at vs[k].1.1 vs[k].1.2 vs[k].2 (hpr _ (List.getElem_mem _))
    simp only [vote, ownVt] at hset hl hg hg' hl2
    simp (config := {contextual := true}) [List.range, List.range.loop, ints, intss, int, bool, row, frac, fracs, ← List.map_take, ← List.map_drop, vts, vote, ownVt, hk, hwk, hl, hl2, hg, hg', hz, hset]
    done
  · intro _
    simp (config := {contextual := true}) [List.range, List.range.loop, ints, intss, int, bool, row, frac, fracs, ← List.map_take, ← List.map_drop, vts, hza, hmap, ownVs_len]
noncomputable def mEqV : List AV → Option AV := mk (fun p => p.1.1.2.length ≤ 2 ^ 40 ∧ p.2.1.2.length ≤ 2 ^ 40) (fun (p : Vt × Vt) => [vote p.1, vote p.2]) (fun p => bool (decide (p.1.1.2 = p.2.1.2 ∧ p.1.2 = p.2.2)))
theorem mEqV_at (nl nl' : Bool) (xs ys : List Int) (c d : Int) (h : xs.length ≤ 2 ^ 40) (h' : ys.length ≤ 2 ^ 40) : mEqV [.agg [.sl nl 1 (xs.map int), .v (.int .i64 c)], .agg [.sl nl' 1 (ys.map int), .v (.int .i64 d)]] = some (.v (.bool (decide (xs = ys ∧ c = d)))) :=
  mk_eq (enc := fun (p : Vt × Vt) => [vote p.1, vote p.2]) (x := (((nl, xs), c), ((nl', ys), d))) (by rintro ⟨x, x'⟩ ⟨y, y'⟩ h; simp only [List.cons.injEq, and_true] at h; rw [vote_inj h.1, vote_inj h.2]) ⟨h, h'⟩
set_option maxHeartbeats 1000000 in
theorem eqVote_ok : FnOk Tryz.prog 36 mEqV := by
  refine mk_ok fun ⟨⟨⟨nl, xs⟩, c⟩, ⟨⟨nl', ys⟩, d⟩⟩ ⟨h1, h2⟩ => ?_
  simp only at h1 h2
  have hz := mEqIs_at nl nl' xs ys h1 h2
  have hG : FnsOk Tryz.prog [(96, mEqIs)] := (.cons eqIntS_ok .nil)
  refine callOk_awp (ctx_ok eqOk hG) mixed (live := [true, true, true, true, true, false, false, false, false, false, true, false, false, false, false, true]) (dt := []) Tryz.func36 rfl (by kernel_rfl) (by kernel_rfl) fun w0 hlens => ?_
  clear hlens
  by_cases e1 : xs = ys <;> by_cases e2 : c = d
  · have e3 : decide (xs = ys ∧ c = d) = true := decide_eq_true ⟨e1, e2⟩
    simp only [e3]
    simp only [e1, decide_true] at hz
    simp [Tryz.f36, List.range, List.range.loop, ints, intss, int, bool, row, frac, fracs, ← List.map_take, ← List.map_drop, vote, hz, e1, e2]
  · have e3 : decide (xs = ys ∧ c = d) = false := decide_eq_false fun h => e2 h.2
    simp only [e3]
    simp only [e1, decide_true] at hz
    simp [Tryz.f36, List.range, List.range.loop, ints, intss, int, bool, row, frac, fracs, ← List.map_take, ← List.map_drop, vote, hz, e1, e2]
  · have e3 : decide (xs = ys ∧ c = d) = false := decide_eq_false fun h => e1 h.1
    simp only [e3]
    simp only [e1, decide_false] at hz
    simp [Tryz.f36, List.range, List.range.loop, ints, intss, int, bool, row, frac, fracs, ← List.map_take, ← List.map_drop, vote, hz, e2]
  · have e3 : decide (xs = ys ∧ c = d) = false := decide_eq_false fun h => e1 h.1
    simp only [e3]
    simp only [e1, decide_false] at hz
    simp [Tryz.f36, List.range, List.range.loop, ints, intss, int, bool, row, frac, fracs, ← List.map_take, ← List.map_drop, vote, hz, e2]
def vV (t : Vt) : List Int × Int := (t.1.2, t.2)
noncomputable def mEqVs : List AV → Option AV := mk (fun p => smallVs p.1.2 ∧ smallVs p.2.2) (fun (p : (Bool × List Vt) × (Bool × List Vt)) => [vts p.1.1 p.1.2, vts p.2.1 p.2.2]) (fun p => bool (decide (p.1.2.map vV = p.2.2.map vV)))
theorem mEqVs_at (nl nl' : Bool) (xs ys : List Vt) (h : smallVs xs) (h' : smallVs ys) : mEqVs [.sl nl 2 (xs.map vote), .sl nl' 2 (ys.map vote)] = some (.v (.bool (decide (xs.map vV = ys.map vV)))) :=
  mk_eq (enc := fun (p : (Bool × List Vt) × (Bool × List Vt)) => [vts p.1.1 p.1.2, vts p.2.1 p.2.2]) (x := ((nl, xs), (nl', ys))) (by rintro ⟨⟨x, x'⟩, ⟨x'', x3⟩⟩ ⟨⟨y, y'⟩, ⟨y'', y3⟩⟩ h; simp [vts, map_vote_inj] at h; simp [h]) ⟨h, h'⟩
theorem take_eq_vV {xs ys : List Vt} {k : Nat} (h1 : k < xs.length) (h2 : k < ys.length) (h : (xs.take k).map vV = (ys.take k).map vV) (e : vV xs[k] = vV ys[k]) : (xs.take (k + 1)).map vV = (ys.take (k + 1)).map vV := by
  rw [List.take_succ_eq_append_getElem h1, List.take_succ_eq_append_getElem h2, List.map_append, List.map_append, h]
  simp [e]
set_option maxHeartbeats 2000000 in
theorem eqVoteS_ok : FnOk Tryz.prog 14 mEqVs := by
  refine mk_ok fun ⟨⟨nl, xs⟩, ⟨nl', ys⟩⟩ ⟨⟨hp, hpr⟩, ⟨hp', hpr'⟩⟩ => ?_
  simp only at hp hp' hpr hpr'
  have hG : FnsOk Tryz.prog [(36, mEqV)] := (.cons eqVote_ok .nil)
  generalize hr : decide (xs.map vV = ys.map vV) = r
  refine callOk_awp (ctx_ok eqOk hG) mixed (live := [true, true, false, false, true, true, false, false, false, false, true, false, false, false, true, false, false, false, false, false, false, false, false, false, false, false, true]) (dt := [(6, ⟨[], [], []⟩)]) Tryz.func14 rfl (by kernel_rfl) (by kernel_rfl) fun w0 hlens => ?_
  clear hlens
  by_cases hl : xs.length = ys.length
  · simp (config := {contextual := true}) [Tryz.f14, List.range, List.range.loop, ints, intss, int, bool, row, frac, fracs, ← List.map_take, ← List.map_drop, vts, hl]
    refine awp_range (live := [true, true, false, false, true, true, false, false, false, false, true, false, false, false, true, false, false, false, false, false, false, false, false, false, false, false, true]) (ctx_ok eqOk hG) mixed [true, true, false, false, false, true] (ys.length) (fun k => (xs.take k).map vV = (ys.take k).map vV) (fun k => ⟨[vts nl xs, vts nl' ys, .junk, .junk, .junk, int k, .junk, .junk, .junk, .junk, .junk, .junk, .junk, .junk, .junk, .junk, .junk, .junk, .junk, .junk, .junk, .junk, .junk, .junk, .junk, .junk, .junk], []⟩) ?_ (by simp [sub, slotsLe, clean, keep, refsL, refs, once, place, renL, ren, List.replicate, int, bool, vts]) ?_ ?_ ?_
    · omega
    · simp
    · intro k hk he hwk
      have hk' : k < xs.length := by omega
      have hz := mEqV_at xs[k].1.1 ys[k].1.1 xs[k].1.2 ys[k].1.2 xs[k].2 ys[k].2 (hpr _ (List.getElem_mem _)) (hpr' _ (List.getElem_mem _))
      by_cases hx : xs[k].1.2 = ys[k].1.2 ∧ xs[k].2 = ys[k].2
      · rw [decide_eq_true hx] at hz
        have hn := take_eq_vV hk' hk he (by simp [vV, hx])
        simp (config := {contextual := true}) [List.range, List.range.loop, ints, intss, int, bool, row, frac, fracs, ← List.map_take, ← List.map_drop, vts, vote, hk, hk', hwk, hz]
        exact hn
      · rw [decide_eq_false hx] at hz
        have hr' : r = false := by
          rw [← hr]
          refine decide_eq_false fun e => hx ?_
          have e2 := congrArg (fun l => l[k]?) e
          simpa [hk, hk', vV] using e2
        subst hr'
        simp (config := {contextual := true}) [List.range, List.range.loop, ints, intss, int, bool, row, frac, fracs, ← List.map_take, ← List.map_drop, vts, vote, hk, hk', hwk, hz]
        done
    · intro he
      have hr' : r = true := by
        rw [← hr]
        refine decide_eq_true ?_
        rwa [List.take_of_length_le (by omega), List.take_of_length_le (by omega)] at he
      subst hr'
      simp (config := {contextual := true}) [List.range, List.range.loop, ints, intss, int, bool, row, frac, fracs, ← List.map_take, ← List.map_drop, vts, hl]
      done
  · have hl' : ¬ (xs.length : Int) = ys.length := by omega
    have hr' : r = false := by
      rw [← hr]
      refine decide_eq_false fun e => hl ?_
      have := congrArg List.length e
      simpa using this
    subst hr'
    simp (config := {contextual := true}) [Tryz.f14, List.range, List.range.loop, ints, intss, int, bool, row, frac, fracs, ← List.map_take, ← List.map_drop, vts, hl, hl']
end Go.Proofs.YtigepnpiofcooaaGreat.Ax
namespace Go.Proofs.YtigepnpiofcooaaGreat.Ax
open Go Go.RowKit
theorem DatE.parts3 {P : Program} {t : TypeId} {a : AV} {f0 f1 : Field} (h : DatE P t a) (hu : P.underlying t = some (.struct #[f0, f1])) : ∃ l0 l1, a = .agg (l0 ++ l1) ∧ Dat P f0.type l0 ∧ Dat P f1.type l1 := by
  obtain ⟨g1, g2⟩ := h
  have hs : structB P t = true := by simp [structB, hu]
  rw [hs] at g1
  cases a with
  | agg al =>
    simp only [AV.cells] at g2
    generalize has : al = al' at g2
    cases g2 with
    | @struct _ fs pss hu' hl hf =>
      rw [hu] at hu'; simp only [Option.some.injEq, TypeDesc.struct.injEq] at hu'; subst hu'
      match pss, hl with
      | [p0, p1], _ =>
        exact ⟨p0, p1, by simp, hf 0 f0 p0 rfl rfl, hf 1 f1 p1 rfl rfl⟩
    | _ => simp_all
  | _ => simp [AV.isAgg] at g1
theorem datVote {a : AV} (h : DatE Tryz.prog 42 a) : ∃ p : Vt, a = vote p := by
  obtain ⟨l0, l1, rfl, h0, h1⟩ := h.parts3 Tryz.underlying42
  obtain ⟨x, rfl, hx, _⟩ := h0.one (by simp [structB, Tryz.underlying34])
  have k0 : DatE Tryz.prog 34 x := ⟨by simp [hx, structB, Tryz.underlying34], by rw [cells_one hx]; exact h0⟩
  obtain ⟨nl, xs, rfl, _, _⟩ := datInts k0
  obtain ⟨y, rfl, hy, _⟩ := h1.one (by simp [structB, Tryz.underlying3])
  have k1 : DatE Tryz.prog 3 y := ⟨by simp [hy, structB, Tryz.underlying3], by rw [cells_one hy]; exact h1⟩
  obtain ⟨n, rfl, _⟩ := k1.int Tryz.underlying3
  exact ⟨((nl, xs), n), by simp [vote, ints]⟩
theorem datPrf {a : AV} (h : DatE Tryz.prog 24 a) : ∃ s nl vs, a = prof s nl vs := by
  obtain ⟨l0, l1, rfl, h0, h1⟩ := h.parts3 Tryz.underlying24
  obtain ⟨y, rfl, hy, _⟩ := h0.one (by simp [structB, Tryz.underlying3])
  have k1 : DatE Tryz.prog 3 y := ⟨by simp [hy, structB, Tryz.underlying3], by rw [cells_one hy]; exact h0⟩
  obtain ⟨n, rfl, _⟩ := k1.int Tryz.underlying3
  obtain ⟨x, rfl, hx, _⟩ := h1.one (by simp [structB, Tryz.underlying22])
  have k0 : DatE Tryz.prog 22 x := ⟨by simp [hx, structB, Tryz.underlying22], by rw [cells_one hx]; exact h1⟩
  obtain ⟨nl, es, rfl, hl, hes⟩ := k0.slice Tryz.underlying22
  obtain ⟨xs, rfl, _⟩ := list_of (f := vote) (Q := fun _ => True) (fun x hx => by
    obtain ⟨p, hp⟩ := datVote (hes x hx)
    exact ⟨p, hp, trivial⟩)
  exact ⟨n, nl, xs, by rw [show Tryz.prog.cellsOf 42 = 2 from by kernel_rfl]; rfl⟩
end Go.Proofs.YtigepnpiofcooaaGreat.Ax
namespace Go.Proofs.YtigepnpiofcooaaGreat.Ax
open Go Go.RowKit
theorem nlt0 (k : Nat) : ((k : Int) < 0) = False := by simp
def bl (s : ByteArray) : List UInt8 := s.data.toList
theorem bl_inj {a b : ByteArray} (h : bl a = bl b) : a = b := by
  obtain ⟨⟨a⟩⟩ := a
  obtain ⟨⟨b⟩⟩ := b
  simp [bl] at h
  rw [h]
theorem bl_app {a b : ByteArray} : bl (a ++ b) = bl a ++ bl b := by
  simp [bl, ByteArray.data_append]
end Go.Proofs.YtigepnpiofcooaaGreat.Ax
namespace Go.Proofs.YtigepnpiofcooaaGreat.Ax
open Go Go.RowKit
set_option linter.unusedSimpArgs false
abbrev Pr0 := Int × Bool × List Vt
theorem prof_inj {p q : Pr0} (h : prof p.1 p.2.1 p.2.2 = prof q.1 q.2.1 q.2.2) : p = q := by
  obtain ⟨a, b, c⟩ := p
  obtain ⟨a', b', c'⟩ := q
  simp [prof, map_vote_inj] at h
  simp [h]
def szP (vs : List Vt) (l : Int) : Int := if l < need (rkv vs) then -1 else l - need (rkv vs)
noncomputable def mSzP : List AV → Option AV := mk (fun p => (p.2.2.1.length < 2 ^ 63 ∧ ∀ x ∈ p.2.2.1, x.1.2.length < 2 ^ 63) ∧ 0 ≤ p.2.2.2 ∧ p.2.2.2 ≤ 2 ^ 62) (fun (p : (Int) × (Bool) × (List Vt) × (Int)) => [prof p.1 p.2.1 p.2.2.1, int p.2.2.2]) (fun p => int (szP p.2.2.1 p.2.2.2))
theorem mSzP_at (s : Int) (nl : Bool) (vs : List Vt) (l : Int) (hpre : (vs.length < 2 ^ 63 ∧ ∀ x ∈ vs, x.1.2.length < 2 ^ 63) ∧ 0 ≤ l ∧ l ≤ 2 ^ 62) : mSzP [.agg [.v (.int .i64 s), .sl nl 2 (vs.map vote)], .v (.int .i64 l)] = some (.v (.int .i64 (szP vs l))) :=
  mk_eq (enc := fun (p : (Int) × (Bool) × (List Vt) × (Int)) => [prof p.1 p.2.1 p.2.2.1, int p.2.2.2]) (x := (s, nl, vs, l)) (by rintro ⟨a0, a1, a2, a3⟩ ⟨b0, b1, b2, b3⟩ h; simp [ints, intss, int, bool, row, frac, fracs, map_int_inj, map_row_inj, frac_inj, map_frac_inj, vts, prof, map_vote_inj] at h; simp [h]) hpre
set_option maxHeartbeats 1000000 in
theorem szProfile_ok : FnOk Tryz.prog 4 mSzP := by
  refine mk_ok fun ⟨s, nl, vs, l⟩ ⟨⟨h1, h2⟩, h3, h4⟩ => ?_
  simp only at h1 h2 h3 h4
  have hz := mSzVs_at nl vs l h1 h2 h3 h4
  have hG : FnsOk Tryz.prog [(9, mSzVs)] := (.cons szVoteS_ok .nil)
  refine callOk_awp (ctx_ok eqOk hG) mixed (live := [true, true, true, false, true, false, false, false, false, false, true]) (dt := []) Tryz.func4 rfl (by kernel_rfl) (by kernel_rfl) fun w0 hlens => ?_
  clear hlens
  by_cases hc : l < need (rkv vs)
  · simp [hc] at hz
    simp [Tryz.f4, List.range, List.range.loop, ints, intss, int, bool, row, frac, fracs, ← List.map_take, ← List.map_drop, prof, hz, szP, hc]
  · simp [hc] at hz
    have hn : ¬ l - (need (rkv vs) : Int) < 0 := by omega
    simp [Tryz.f4, List.range, List.range.loop, ints, intss, int, bool, row, frac, fracs, ← List.map_take, ← List.map_drop, prof, hz, szP, hc, hn]
noncomputable def mToP : List AV → Option AV := mk (fun p => smallVs p.2.2) (fun (p : (Int) × (Bool) × (List Vt)) => [prof p.1 p.2.1 p.2.2]) (fun p => prof p.1 false (ownVs p.2.2))
theorem mToP_at (s : Int) (nl : Bool) (vs : List Vt) (hpre : smallVs vs) : mToP [.agg [.v (.int .i64 s), .sl nl 2 (vs.map vote)]] = some (prof s false (ownVs vs)) :=
  mk_eq (enc := fun (p : (Int) × (Bool) × (List Vt)) => [prof p.1 p.2.1 p.2.2]) (x := (s, nl, vs)) (by rintro ⟨a0, a1, a2⟩ ⟨b0, b1, b2⟩ h; simp [ints, intss, int, bool, row, frac, fracs, map_int_inj, map_row_inj, frac_inj, map_frac_inj, vts, prof, map_vote_inj] at h; simp [h]) hpre
set_option maxHeartbeats 1000000 in
theorem toProfile_ok : FnFrz Tryz.prog 6 true mToP := by
  refine mk_frz fun ⟨s, nl, vs⟩ h => ?_
  simp only at h
  have hz := mToVs_at nl vs h
  have hG : FnsOk Tryz.prog [(12, mToVs)] := (.cons toVoteS_ok .nil)
  refine frzOk_awp4 [2] (ctx_ok eqOk hG) mixed (live := [true, true, true, true]) (dt := []) Tryz.func6 rfl (by kernel_rfl) (by kernel_rfl) fun A w0 hlens => ?_
  clear hlens
  simp [Tryz.f6, List.range, List.range.loop, ints, intss, int, bool, row, frac, fracs, ← List.map_take, ← List.map_drop, List.all, andThen_n, freeze, frzA, frzAL, sets, prof, hz]
noncomputable def mEqP : List AV → Option AV := mk (fun p => smallVs p.2.2.1 ∧ smallVs p.2.2.2.2.2) (fun (p : (Int) × (Bool) × (List Vt) × (Int) × (Bool) × (List Vt)) => [prof p.1 p.2.1 p.2.2.1, prof p.2.2.2.1 p.2.2.2.2.1 p.2.2.2.2.2]) (fun p => bool (decide (p.1 = p.2.2.2.1 ∧ p.2.2.1.map vV = p.2.2.2.2.2.map vV)))
theorem mEqP_at (s : Int) (nl : Bool) (vs : List Vt) (s2 : Int) (nl2 : Bool) (vs2 : List Vt) (hpre : smallVs vs ∧ smallVs vs2) : mEqP [.agg [.v (.int .i64 s), .sl nl 2 (vs.map vote)], .agg [.v (.int .i64 s2), .sl nl2 2 (vs2.map vote)]] = some (.v (.bool (decide (s = s2 ∧ vs.map vV = vs2.map vV)))) :=
  mk_eq (enc := fun (p : (Int) × (Bool) × (List Vt) × (Int) × (Bool) × (List Vt)) => [prof p.1 p.2.1 p.2.2.1, prof p.2.2.2.1 p.2.2.2.2.1 p.2.2.2.2.2]) (x := (s, nl, vs, s2, nl2, vs2)) (by rintro ⟨a0, a1, a2, a3, a4, a5⟩ ⟨b0, b1, b2, b3, b4, b5⟩ h; simp [ints, intss, int, bool, row, frac, fracs, map_int_inj, map_row_inj, frac_inj, map_frac_inj, vts, prof, map_vote_inj] at h; simp [h]) hpre
set_option maxHeartbeats 1000000 in
theorem eqProfile_ok : FnOk Tryz.prog 8 mEqP := by
  refine mk_ok fun ⟨s, nl, vs, s2, nl2, vs2⟩ ⟨h1, h2⟩ => ?_
  simp only at h1 h2
  have hz := mEqVs_at nl nl2 vs vs2 h1 h2
  have hG : FnsOk Tryz.prog [(14, mEqVs)] := (.cons eqVoteS_ok .nil)
  refine callOk_awp (ctx_ok eqOk hG) mixed (live := [true, true, true, true, true, false, false, false, false, true, false, false, false, false, false, true]) (dt := []) Tryz.func8 rfl (by kernel_rfl) (by kernel_rfl) fun w0 hlens => ?_
  clear hlens
  by_cases e1 : s = s2 <;> by_cases e2 : vs.map vV = vs2.map vV
  · simp only [e2, decide_true] at hz
    simp [Tryz.f8, List.range, List.range.loop, ints, intss, int, bool, row, frac, fracs, ← List.map_take, ← List.map_drop, prof, hz, e1, e2]
  · simp only [e2, decide_false] at hz
    simp [Tryz.f8, List.range, List.range.loop, ints, intss, int, bool, row, frac, fracs, ← List.map_take, ← List.map_drop, prof, hz, e1, e2]
  · have e1' : (s == s2) = false := by simpa using e1
    simp [Tryz.f8, List.range, List.range.loop, ints, intss, int, bool, row, frac, fracs, ← List.map_take, ← List.map_drop, prof, e1, e1', e2]
  · have e1' : (s == s2) = false := by simpa using e1
    simp [Tryz.f8, List.range, List.range.loop, ints, intss, int, bool, row, frac, fracs, ← List.map_take, ← List.map_drop, prof, e1, e1', e2]
end Go.Proofs.YtigepnpiofcooaaGreat.Ax
namespace Go.Proofs.YtigepnpiofcooaaGreat.Ax
open Go Go.RowKit
set_option linter.unusedSimpArgs false
end Go.Proofs.YtigepnpiofcooaaGreat.Ax
namespace Go.Proofs.YtigepnpiofcooaaGreat.Ax
open Go Go.RowKit
set_option linter.unusedSimpArgs false
def mkF (t b : Int) : (Int × Int) × Bool := if fracOk (t.tdiv (Int.gcd t b), b.tdiv (Int.gcd t b)) = true then ((t.tdiv (Int.gcd t b), b.tdiv (Int.gcd t b)), true) else ((0, 0), false)
def addF (x y : Int × Int) : (Int × Int) × Bool := if fracOk x && fracOk y then mkF (x.1 * y.2 + y.1 * x.2) (x.2 * y.2) else ((0, 0), false)
end Go.Proofs.YtigepnpiofcooaaGreat.Ax
