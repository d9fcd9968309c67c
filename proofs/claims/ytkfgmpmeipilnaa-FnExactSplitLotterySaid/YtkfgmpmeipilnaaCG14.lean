/-
  Contracts of the laws' functions on lists of tickets: size, copy, equality, marks. No condition.
-/
import Derived.Test.YtkfgmpmeipilnaaCG11
import Derived.Test.YtkfgmpmeipilnaaCG5
import Derived.Test.YtkfgmpmeipilnaaCB2
import Derived.Test.YtkfgmpmeipilnaaCG6
namespace Go.Proofs.Ytkfgmpmeipilnaa.Ax
open Go Go.RowKit
set_option linter.unusedSimpArgs false

/-- The tickets' lists. -/
def rws (ts : List Tk) : List (Bool × List Int) := ts.map (·.2)
theorem rws_len {ts : List Tk} : (rws ts).length = ts.length := by simp [rws]
theorem rws_get {ts : List Tk} {i : Nat} (h : i < ts.length) : (rws ts)[i]'(by rw [rws_len]; exact h) = ts[i].2 := by simp [rws]
theorem rwS_succ {ts : List Tk} {i : Nat} (h : i < ts.length) : rowSum (rws ts) (i + 1) = rowSum (rws ts) i + ts[i].2.2.length := by
  rw [rowSum_succ (by rw [rws_len]; exact h), rws_get h]
def ownTk (t : Tk) : Tk := (t.1, false, t.2.2)
def ownT (ts : List Tk) : List Tk := ts.map ownTk
theorem ownT_len {ts : List Tk} : (ownT ts).length = ts.length := by simp [ownT]
theorem rws_own {ts : List Tk} : rws (ownT ts) = own (rws ts) := by simp [rws, ownT, own, ownTk, Function.comp_def]

noncomputable def mSzT : List AV → Option AV := mk (fun p => p.1.2.2.length < 2 ^ 63 ∧ 0 ≤ p.2 ∧ p.2 ≤ 2 ^ 62) (fun (p : Tk × Int) => [tick p.1, int p.2]) (fun p => int (if p.2 < p.1.2.2.length then -1 else p.2 - p.1.2.2.length))
theorem mSzT_at (a b : Int) (nl : Bool) (xs : List Int) (l : Int) (h : xs.length < 2 ^ 63) (h1 : 0 ≤ l) (h2 : l ≤ 2 ^ 62) : mSzT [.agg [.v (.int .i64 a), .v (.int .i64 b), .sl nl 1 (xs.map int)], .v (.int .i64 l)] = some (.v (.int .i64 (if l < xs.length then -1 else l - xs.length))) :=
  mk_eq (enc := fun (p : Tk × Int) => [tick p.1, int p.2]) (x := (((a, b), nl, xs), l)) (by rintro ⟨x, x'⟩ ⟨y, y'⟩ h; simp only [List.cons.injEq, int_inj, and_true] at h; obtain ⟨h, rfl⟩ := h; rw [tick_inj h]) ⟨h, h1, h2⟩

set_option maxHeartbeats 1000000 in
theorem szTicket_ok : FnOk Try.prog 55 mSzT := by
  refine mk_ok fun ⟨⟨⟨a, b⟩, nl, xs⟩, l⟩ ⟨h1, h2, h3⟩ => ?_
  simp only at h1 h2 h3
  have hz := mSzI_at nl xs l h1 h2 h3
  have hG : FnsOk Try.prog [(42, mSzI)] := (.cons szIntS_ok .nil)
  refine callOk_awp (ctx_ok eqOk hG) mixed (live := [true, true, true, false, true, false, false, false, false, false, true]) (dt := []) Try.func55 rfl (by kernel_rfl) (by kernel_rfl) fun w0 hlens => ?_
  clear hlens
  by_cases hc : l < xs.length
  · simp [hc] at hz
    simp (config := {contextual := true}) [Try.f55, List.range, List.range.loop, ints, intss, int, bool, row, frac, fracs, ← List.map_take, ← List.map_drop, tick, hz, hc]
  · simp [hc] at hz
    have hn : ¬ l - (xs.length : Int) < 0 := by omega
    simp (config := {contextual := true}) [Try.f55, List.range, List.range.loop, ints, intss, int, bool, row, frac, fracs, ← List.map_take, ← List.map_drop, tick, hz, hc, hn]

noncomputable def mSzTs : List AV → Option AV := mk (fun p => p.2.1.length < 2 ^ 63 ∧ (∀ x ∈ p.2.1, x.2.2.length < 2 ^ 63) ∧ 0 ≤ p.2.2 ∧ p.2.2 ≤ 2 ^ 62) (fun (p : Bool × List Tk × Int) => [tks p.1 p.2.1, int p.2.2]) (fun p => int (if p.2.2 < need (rws p.2.1) then -1 else p.2.2 - need (rws p.2.1)))
theorem mSzTs_at (nl : Bool) (ts : List Tk) (l : Int) (h : ts.length < 2 ^ 63) (h' : ∀ x ∈ ts, x.2.2.length < 2 ^ 63) (h1 : 0 ≤ l) (h2 : l ≤ 2 ^ 62) : mSzTs [.sl nl 3 (ts.map tick), .v (.int .i64 l)] = some (.v (.int .i64 (if l < need (rws ts) then -1 else l - need (rws ts)))) :=
  mk_eq (enc := fun (p : Bool × List Tk × Int) => [tks p.1 p.2.1, int p.2.2]) (x := (nl, ts, l)) (by rintro ⟨x, x', x''⟩ ⟨y, y', y''⟩ h; simp [tks, int_inj, map_tick_inj] at h; simp [h]) ⟨h, h', h1, h2⟩

set_option maxHeartbeats 2000000 in
theorem szTicketS_ok : FnOk Try.prog 19 mSzTs := by
  refine mk_ok fun ⟨nl, ts, l⟩ ⟨h1, h1', h2, h3⟩ => ?_
  simp only at h1 h1' h2 h3
  have hw : IntKind.i64.wrap (l - ts.length) = l - ts.length := wrapI (by omega) (by omega)
  have hnd : need (rws ts) = ts.length + rowSum (rws ts) ts.length := by simp [need, rws_len]
  have hmono := fun k => rowSum_mono (xss := rws ts) (k := k) (n := ts.length)
  have hG : FnsOk Try.prog [(55, mSzT)] := (.cons szTicket_ok .nil)
  refine callOk_awp (ctx_ok eqOk hG) mixed (live := [true, true, false, false, true, true, false, false, false, false, false, true, false, false, false, true, false, false, false, false, false, false, false, false, false, true]) (dt := []) Try.func19 rfl (by kernel_rfl) (by kernel_rfl) fun w0 hlens => ?_
  clear hlens
  by_cases h : l < ts.length
  · have h' : l - ts.length < 0 := by omega
    have hn : l < need (rws ts) := by omega
    simp [Try.f19, List.range, List.range.loop, ints, intss, int, bool, row, frac, fracs, ← List.map_take, ← List.map_drop, tks, hw, hn, h']
  · have h' : ¬ l - ts.length < 0 := by omega
    simp [Try.f19, List.range, List.range.loop, ints, intss, int, bool, row, frac, fracs, ← List.map_take, ← List.map_drop, tks, hw, h, h']
    refine awp_range (live := [true, true, false, false, true, true, false, false, false, false, false, true, false, false, false, true, false, false, false, false, false, false, false, false, false, true]) (ctx_ok eqOk hG) mixed [true, true, false, false, false, true] (ts.length) (fun k => (ts.length : Int) + rowSum (rws ts) k ≤ l) (fun k => ⟨[tks nl ts, int (l - ts.length - rowSum (rws ts) k), .junk, .junk, .junk, int k, .junk, .junk, .junk, .junk, .junk, .junk, .junk, .junk, .junk, .junk, .junk, .junk, .junk, .junk, .junk, .junk, .junk, .junk, .junk, .junk, .junk], []⟩) ?_ (by simp [sub, slotsLe, clean, keep, refsL, refs, once, place, renL, ren, List.replicate, int, bool, tks, rowSum_zero]) ?_ ?_ ?_
    · omega
    · rw [rowSum_zero]; omega
    · intro k hk hl hwk
      have hx := h1' ts[k] (List.getElem_mem _)
      have hs := rwS_succ hk
      have hz := mSzT_at ts[k].1.1 ts[k].1.2 ts[k].2.1 ts[k].2.2 (l - ts.length - rowSum (rws ts) k) hx (by omega) (by omega)
      have hm := hmono (k + 1) (by omega)
      by_cases hc : l - ts.length - rowSum (rws ts) k < ts[k].2.2.length
      · simp [hc] at hz
        have hn : l < need (rws ts) := by omega
        simp (config := {contextual := true}) [List.range, List.range.loop, ints, intss, int, bool, row, frac, fracs, ← List.map_take, ← List.map_drop, tks, tick, hk, hwk, hz, hn]
        done
      · simp [hc] at hz
        have hc' : ¬ l - ts.length - rowSum (rws ts) k - ts[k].2.2.length < 0 := by omega
        have e : l - ts.length - rowSum (rws ts) k - ts[k].2.2.length = l - ts.length - rowSum (rws ts) (k + 1) := by omega
        have e2 : (ts.length : Int) + rowSum (rws ts) (k + 1) ≤ l := by omega
        rw [e] at hz hc'
        simp (config := {contextual := true}) [List.range, List.range.loop, ints, intss, int, bool, row, frac, fracs, ← List.map_take, ← List.map_drop, tks, tick, hk, hwk, hz, hc', e2]
        done
    · intro hl
      have hn : ¬ l < need (rws ts) := by omega
      have e : l - ts.length - rowSum (rws ts) ts.length = l - need (rws ts) := by omega
      simp (config := {contextual := true}) [List.range, List.range.loop, ints, intss, int, bool, row, frac, fracs, ← List.map_take, ← List.map_drop, tks, hn, e]

noncomputable def mToT : List AV → Option AV := mk (fun p => p.2.2.length ≤ 2 ^ 40) (fun (p : Tk) => [tick p]) (fun p => tick (ownTk p))
theorem mToT_at (a b : Int) (nl : Bool) (xs : List Int) (h : xs.length ≤ 2 ^ 40) : mToT [.agg [.v (.int .i64 a), .v (.int .i64 b), .sl nl 1 (xs.map int)]] = some (.agg [.v (.int .i64 a), .v (.int .i64 b), .sl false 1 (xs.map int)]) :=
  mk_eq (enc := fun (p : Tk) => [tick p]) (f := fun p => tick (ownTk p)) (x := ((a, b), nl, xs)) (by rintro x y h; simp only [List.cons.injEq, and_true] at h; rw [tick_inj h]) h
set_option maxHeartbeats 1000000 in
theorem toTicket_ok : FnOk Try.prog 60 mToT := by
  refine mk_ok fun ⟨⟨a, b⟩, nl, xs⟩ h1 => ?_
  simp only at h1
  have hz := mToIs_at nl xs h1
  have hG : FnsOk Try.prog [(110, mId1), (50, mToIs)] := (.cons toFraction_ok (.cons toIntS_ok .nil))
  refine callOk_awp (ctx_ok eqOk hG) mixed (live := [true, true, true, true]) (dt := []) Try.func60 rfl (by kernel_rfl) (by kernel_rfl) fun w0 hlens => ?_
  clear hlens
  simp (config := {contextual := true}) [Try.f60, List.range, List.range.loop, ints, intss, int, bool, row, frac, fracs, ← List.map_take, ← List.map_drop, tick, ownTk, hz, mId1_at]

def smallT (ts : List Tk) : Prop := ts.length ≤ 2 ^ 40 ∧ ∀ x ∈ ts, x.2.2.length ≤ 2 ^ 40
noncomputable def mToTs : List AV → Option AV := mk (fun p => smallT p.2) (fun (p : Bool × List Tk) => [tks p.1 p.2]) (fun p => tks false (ownT p.2))
theorem mToTs_at (nl : Bool) (ts : List Tk) (h : smallT ts) : mToTs [.sl nl 3 (ts.map tick)] = some (.sl false 3 ((ownT ts).map tick)) :=
  mk_eq (enc := fun (p : Bool × List Tk) => [tks p.1 p.2]) (x := (nl, ts)) (by rintro ⟨x, x'⟩ ⟨y, y'⟩ h; simp [tks, map_tick_inj] at h; simp [h]) h
set_option maxHeartbeats 1000000 in
theorem toTicketS_ok : FnOk Try.prog 21 mToTs := by
  refine mk_ok fun ⟨nl, ts⟩ ⟨hpre, hpr⟩ => ?_
  simp only at hpre hpr
  have hb : 40 * ts.length ≤ 281474976710656 := by omega
  have hn : ts.length ≤ 4611686018427387904 := by omega
  have hz0 := filled_zero (f := fun t => tick (ownTk t)) (z := .agg [.v (.int .i64 0), .v (.int .i64 0), .sl true 1 []]) (xs := ts)
  have hza := filled_all (f := fun t => tick (ownTk t)) (z := .agg [.v (.int .i64 0), .v (.int .i64 0), .sl true 1 []]) (xs := ts)
  have hmap : ts.map (fun t => tick (ownTk t)) = (ownT ts).map tick := by simp [ownT, Function.comp_def]
  have hG : FnsOk Try.prog [(60, mToT)] := (.cons toTicket_ok .nil)
  refine callOk_awp (ctx_ok eqOk hG) mixed (live := [true, false, true, true, true, false, false, false, false, false, false, true]) (dt := []) Try.func21 rfl (by kernel_rfl) (by kernel_rfl) fun w0 hlens => ?_
  clear hlens
  simp (config := {contextual := true}) [Try.f21, List.range, List.range.loop, ints, intss, int, bool, row, frac, fracs, ← List.map_take, ← List.map_drop, tks, hb, hn]
  refine awp_range (live := [true, false, true, true, true, false, false, false, false, false, false, true]) (ctx_ok eqOk hG) mixed [true, false, false, true, true] (ts.length) (fun k => True) (fun k => ⟨[tks nl ts, .junk, .junk, .ref 0 [] 0 ts.length, int k, .junk, .junk, .junk, .junk, .junk, .junk, .junk, .junk, .junk, .junk, .junk, .junk, .junk, .junk, .junk, .junk, .junk, .junk], [⟨true, .sl false 3 (filled (fun t => tick (ownTk t)) (.agg [.v (.int .i64 0), .v (.int .i64 0), .sl true 1 []]) ts k)⟩]⟩) ?_ (by simp [sub, slotsLe, clean, keep, refsL, refs, once, place, renL, ren, List.replicate, int, bool, tks, hz0]) ?_ ?_ ?_
  · omega
  · trivial
  · intro k hk _ hwk
    have hl := filled_len (f := fun t => tick (ownTk t)) (z := .agg [.v (.int .i64 0), .v (.int .i64 0), .sl true 1 []]) (show k ≤ ts.length by omega)
    have hg := filled_get (f := fun t => tick (ownTk t)) (z := .agg [.v (.int .i64 0), .v (.int .i64 0), .sl true 1 []]) hk
    have hg' := filled_get' (f := fun t => tick (ownTk t)) (z := .agg [.v (.int .i64 0), .v (.int .i64 0), .sl true 1 []]) hk
    have hset := filled_set (f := fun t => tick (ownTk t)) (z := .agg [.v (.int .i64 0), .v (.int .i64 0), .sl true 1 []]) hk
    have hl2 := filled_len (f := fun t => tick (ownTk t)) (z := .agg [.v (.int .i64 0), .v (.int .i64 0), .sl true 1 []]) (show k + 1 ≤ ts.length by omega)
    have hz := mToT_at ts[k].1.1 ts[k].1.2 ts[k].2.1 ts[k].2.2 (hpr _ (List.getElem_mem _))
    simp only [tick, ownTk] at hset hl hg hg' hl2
    simp (config := {contextual := true}) [List.range, List.range.loop, ints, intss, int, bool, row, frac, fracs, ← List.map_take, ← List.map_drop, tks, tick, ownTk, hk, hwk, hl, hl2, hg, hg', hz, hset]
    done
  · intro _
    simp (config := {contextual := true}) [List.range, List.range.loop, ints, intss, int, bool, row, frac, fracs, ← List.map_take, ← List.map_drop, tks, hza, hmap, ownT_len]

noncomputable def mEqT : List AV → Option AV := mk (fun p => p.1.2.2.length ≤ 2 ^ 40 ∧ p.2.2.2.length ≤ 2 ^ 40) (fun (p : Tk × Tk) => [tick p.1, tick p.2]) (fun p => bool (decide (p.1.1 = p.2.1 ∧ p.1.2.2 = p.2.2.2)))
theorem mEqT_at (a b c d : Int) (nl nl' : Bool) (xs ys : List Int) (h : xs.length ≤ 2 ^ 40) (h' : ys.length ≤ 2 ^ 40) : mEqT [.agg [.v (.int .i64 a), .v (.int .i64 b), .sl nl 1 (xs.map int)], .agg [.v (.int .i64 c), .v (.int .i64 d), .sl nl' 1 (ys.map int)]] = some (.v (.bool (decide ((a, b) = (c, d) ∧ xs = ys)))) :=
  mk_eq (enc := fun (p : Tk × Tk) => [tick p.1, tick p.2]) (x := (((a, b), nl, xs), ((c, d), nl', ys))) (by rintro ⟨x, x'⟩ ⟨y, y'⟩ h; simp only [List.cons.injEq, and_true] at h; rw [tick_inj h.1, tick_inj h.2]) ⟨h, h'⟩
set_option maxHeartbeats 1000000 in
theorem eqTicket_ok : FnOk Try.prog 66 mEqT := by
  refine mk_ok fun ⟨⟨⟨a, b⟩, nl, xs⟩, ⟨⟨c, d⟩, nl', ys⟩⟩ ⟨h1, h2⟩ => ?_
  simp only at h1 h2
  have hz := mEqIs_at nl nl' xs ys h1 h2
  have hf := mEqF_at a b c d
  have hG : FnsOk Try.prog [(82, mEqF), (53, mEqIs)] := (.cons eqFraction_ok (.cons eqIntS_ok .nil))
  refine callOk_awp (ctx_ok eqOk hG) mixed (live := [true, true, true, true, true, false, false, false, false, false, true, false, false, false, false, false, true]) (dt := []) Try.func66 rfl (by kernel_rfl) (by kernel_rfl) fun w0 hlens => ?_
  clear hlens
  by_cases e1 : (a, b) = (c, d)
  · by_cases e2 : xs = ys
    · rw [decide_eq_true e1] at hf
      rw [decide_eq_true e2] at hz
      have e3 : decide ((a, b) = (c, d) ∧ xs = ys) = true := decide_eq_true ⟨e1, e2⟩
      simp only [e3]
      simp (config := {contextual := true}) [Try.f66, List.range, List.range.loop, ints, intss, int, bool, row, frac, fracs, ← List.map_take, ← List.map_drop, tick, hz, hf]
      done
    · rw [decide_eq_true e1] at hf
      rw [decide_eq_false e2] at hz
      have e3 : decide ((a, b) = (c, d) ∧ xs = ys) = false := decide_eq_false fun h => e2 h.2
      simp only [e3]
      simp (config := {contextual := true}) [Try.f66, List.range, List.range.loop, ints, intss, int, bool, row, frac, fracs, ← List.map_take, ← List.map_drop, tick, hz, hf]
      done
  · rw [decide_eq_false e1] at hf
    have e3 : decide ((a, b) = (c, d) ∧ xs = ys) = false := decide_eq_false fun h => e1 h.1
    simp only [e3]
    simp (config := {contextual := true}) [Try.f66, List.range, List.range.loop, ints, intss, int, bool, row, frac, fracs, ← List.map_take, ← List.map_drop, tick, hz, hf]
    done

/-- What is compared of a ticket. -/
def vT (t : Tk) : (Int × Int) × List Int := (t.1, t.2.2)
noncomputable def mEqTs : List AV → Option AV := mk (fun p => smallT p.1.2 ∧ smallT p.2.2) (fun (p : (Bool × List Tk) × (Bool × List Tk)) => [tks p.1.1 p.1.2, tks p.2.1 p.2.2]) (fun p => bool (decide (p.1.2.map vT = p.2.2.map vT)))
theorem mEqTs_at (nl nl' : Bool) (xs ys : List Tk) (h : smallT xs) (h' : smallT ys) : mEqTs [.sl nl 3 (xs.map tick), .sl nl' 3 (ys.map tick)] = some (.v (.bool (decide (xs.map vT = ys.map vT)))) :=
  mk_eq (enc := fun (p : (Bool × List Tk) × (Bool × List Tk)) => [tks p.1.1 p.1.2, tks p.2.1 p.2.2]) (x := ((nl, xs), (nl', ys))) (by rintro ⟨⟨x, x'⟩, ⟨x'', x3⟩⟩ ⟨⟨y, y'⟩, ⟨y'', y3⟩⟩ h; simp [tks, map_tick_inj] at h; simp [h]) ⟨h, h'⟩
theorem take_eq_vT {xs ys : List Tk} {k : Nat} (h1 : k < xs.length) (h2 : k < ys.length) (h : (xs.take k).map vT = (ys.take k).map vT) (e : vT xs[k] = vT ys[k]) : (xs.take (k + 1)).map vT = (ys.take (k + 1)).map vT := by
  rw [List.take_succ_eq_append_getElem h1, List.take_succ_eq_append_getElem h2, List.map_append, List.map_append, h]
  simp [e]
set_option maxHeartbeats 2000000 in
theorem eqTicketS_ok : FnOk Try.prog 23 mEqTs := by
  refine mk_ok fun ⟨⟨nl, xs⟩, ⟨nl', ys⟩⟩ ⟨⟨hp, hpr⟩, ⟨hp', hpr'⟩⟩ => ?_
  simp only at hp hp' hpr hpr'
  have hG : FnsOk Try.prog [(66, mEqT)] := (.cons eqTicket_ok .nil)
  generalize hr : decide (xs.map vT = ys.map vT) = r
  refine callOk_awp (ctx_ok eqOk hG) mixed (live := [true, true, false, false, true, true, false, false, false, false, true, false, false, false, true, false, false, false, false, false, false, false, false, false, false, false, true]) (dt := [(6, ⟨[], [], []⟩)]) Try.func23 rfl (by kernel_rfl) (by kernel_rfl) fun w0 hlens => ?_
  clear hlens
  by_cases hl : xs.length = ys.length
  · simp (config := {contextual := true}) [Try.f23, List.range, List.range.loop, ints, intss, int, bool, row, frac, fracs, ← List.map_take, ← List.map_drop, tks, hl]
    refine awp_range (live := [true, true, false, false, true, true, false, false, false, false, true, false, false, false, true, false, false, false, false, false, false, false, false, false, false, false, true]) (ctx_ok eqOk hG) mixed [true, true, false, false, false, true] (ys.length) (fun k => (xs.take k).map vT = (ys.take k).map vT) (fun k => ⟨[tks nl xs, tks nl' ys, .junk, .junk, .junk, int k, .junk, .junk, .junk, .junk, .junk, .junk, .junk, .junk, .junk, .junk, .junk, .junk, .junk, .junk, .junk, .junk, .junk, .junk, .junk, .junk, .junk], []⟩) ?_ (by simp [sub, slotsLe, clean, keep, refsL, refs, once, place, renL, ren, List.replicate, int, bool, tks]) ?_ ?_ ?_
    · omega
    · simp
    · intro k hk he hwk
      have hk' : k < xs.length := by omega
      have hz := mEqT_at xs[k].1.1 xs[k].1.2 ys[k].1.1 ys[k].1.2 xs[k].2.1 ys[k].2.1 xs[k].2.2 ys[k].2.2 (hpr _ (List.getElem_mem _)) (hpr' _ (List.getElem_mem _))
      rw [show ((xs[k].1.1, xs[k].1.2) : Int × Int) = xs[k].1 from rfl, show ((ys[k].1.1, ys[k].1.2) : Int × Int) = ys[k].1 from rfl] at hz
      by_cases hx : xs[k].1 = ys[k].1 ∧ xs[k].2.2 = ys[k].2.2
      · rw [decide_eq_true hx] at hz
        have hn := take_eq_vT hk' hk he (by simp [vT, hx])
        simp (config := {contextual := true}) [List.range, List.range.loop, ints, intss, int, bool, row, frac, fracs, ← List.map_take, ← List.map_drop, tks, tick, hk, hk', hwk, hz]
        exact hn
      · rw [decide_eq_false hx] at hz
        have hr' : r = false := by
          rw [← hr]
          refine decide_eq_false fun e => hx ?_
          have e2 := congrArg (fun l => l[k]?) e
          simpa [hk, hk', vT] using e2
        subst hr'
        simp (config := {contextual := true}) [List.range, List.range.loop, ints, intss, int, bool, row, frac, fracs, ← List.map_take, ← List.map_drop, tks, tick, hk, hk', hwk, hz]
        done
    · intro he
      have hr' : r = true := by
        rw [← hr]
        refine decide_eq_true ?_
        rwa [List.take_of_length_le (by omega), List.take_of_length_le (by omega)] at he
      subst hr'
      simp (config := {contextual := true}) [List.range, List.range.loop, ints, intss, int, bool, row, frac, fracs, ← List.map_take, ← List.map_drop, tks, hl]
      done
  · have hl' : ¬ (xs.length : Int) = ys.length := by omega
    have hr' : r = false := by
      rw [← hr]
      refine decide_eq_false fun e => hl ?_
      have := congrArg List.length e
      simpa using this
    subst hr'
    simp (config := {contextual := true}) [Try.f23, List.range, List.range.loop, ints, intss, int, bool, row, frac, fracs, ← List.map_take, ← List.map_drop, tks, hl, hl']

end Go.Proofs.Ytkfgmpmeipilnaa.Ax

/-
  Contracts: marks on lists of tickets, and whether they stand. No condition.
-/
namespace Go.Proofs.Ytkfgmpmeipilnaa.Ax
open Go Go.RowKit
set_option linter.unusedSimpArgs false

/-- Where the marks of ticket j begin; tickets of which the first i are marked. -/
def mbT (k : Int) (ts : List Tk) (j : Nat) : Int := k + 2 * j + rowSum (rws ts) j
def mkTk (k : Int) (ts : List Tk) (j : Nat) : Tk := ((mbT k ts j, mbT k ts j + 1), (ts.getD j ((0, 0), true, [])).2.1, mkd (mbT k ts j + 2) (ts.getD j ((0, 0), true, [])).2.2.length)
def mkTT (k : Int) (ts : List Tk) (i : Nat) : List Tk := (List.range ts.length).map fun j => if j < i then mkTk k ts j else ts.getD j ((0, 0), true, [])
def mkTS (k : Int) (ts : List Tk) : List Tk := (List.range ts.length).map (mkTk k ts)
theorem getDT {ts : List Tk} {i : Nat} (h : i < ts.length) : ts.getD i ((0, 0), true, []) = ts[i] := by simp [List.getD_eq_getElem?_getD, h]
theorem mkTT_len {k : Int} {ts : List Tk} {i : Nat} : (mkTT k ts i).length = ts.length := by simp [mkTT]
theorem mkTS_len {k : Int} {ts : List Tk} : (mkTS k ts).length = ts.length := by simp [mkTS]
theorem mkTS_take {k : Int} {ts : List Tk} : (mkTS k ts).take ts.length = mkTS k ts := List.take_of_length_le (by simp [mkTS_len])
theorem mkTT_zero {k : Int} {ts : List Tk} : mkTT k ts 0 = ts := by
  apply List.ext_getElem
  · simp [mkTT]
  · intro i h1 h2
    simp only [mkTT, List.getElem_map, List.getElem_range, Nat.not_lt_zero, if_false, getDT h2]
theorem mkTT_all {k : Int} {ts : List Tk} : mkTT k ts ts.length = mkTS k ts := by
  apply List.ext_getElem
  · simp [mkTT, mkTS]
  · intro i h1 h2
    have h3 : i < ts.length := by simpa [mkTS] using h2
    simp [mkTT, mkTS, h3]
theorem mkTT_at {k : Int} {ts : List Tk} {i : Nat} (h : i < ts.length) (h' : i < (mkTT k ts i).length) : (mkTT k ts i)[i] = ts[i] := by
  simp only [mkTT, List.getElem_map, List.getElem_range, Nat.lt_irrefl, if_false, getDT h]
theorem mkTS_at {k : Int} {ts : List Tk} {i : Nat} (h : i < ts.length) (h' : i < (mkTS k ts).length) : (mkTS k ts)[i] = ((mbT k ts i, mbT k ts i + 1), ts[i].2.1, mkd (mbT k ts i + 2) ts[i].2.2.length) := by
  simp only [mkTS, List.getElem_map, List.getElem_range, mkTk, getDT h]
theorem mkTT_set {k : Int} {ts : List Tk} {i : Nat} (h : i < ts.length) : ((mkTT k ts i).map tick).set i (.agg [.v (.int .i64 (mbT k ts i)), .v (.int .i64 (mbT k ts i + 1)), .sl ts[i].2.1 1 ((mkd (mbT k ts i + 2) ts[i].2.2.length).map int)]) = (mkTT k ts (i + 1)).map tick := by
  have : (AV.agg [.v (.int .i64 (mbT k ts i)), .v (.int .i64 (mbT k ts i + 1)), .sl ts[i].2.1 1 ((mkd (mbT k ts i + 2) ts[i].2.2.length).map int)]) = tick (mkTk k ts i) := by simp only [tick, mkTk, getDT h]
  rw [this, ← List.map_set]
  congr 1
  apply List.ext_getElem
  · simp [mkTT]
  · intro j h1 h2
    rw [List.getElem_set]
    simp only [mkTT, List.getElem_map, List.getElem_range]
    by_cases e : i = j
    · subst e; simp
    · rw [if_neg e]
      by_cases h3 : j < i
      · rw [if_pos h3, if_pos (by omega)]
      · rw [if_neg h3, if_neg (by omega)]
theorem mbT_zero {k : Int} {ts : List Tk} : mbT k ts 0 = k := by simp [mbT, rowSum_zero]
theorem mbT_succ {k : Int} {ts : List Tk} {i : Nat} (h : i < ts.length) : mbT k ts (i + 1) = mbT k ts i + 2 + ts[i].2.2.length := by
  unfold mbT; rw [rwS_succ h]; omega
theorem mbT_bd {k : Int} {ts : List Tk} (_h0 : 0 ≤ k) (h : k + 2 * need (rws ts) ≤ 2 ^ 61) {i : Nat} (hi : i ≤ ts.length) : k ≤ mbT k ts i ∧ mbT k ts i ≤ 2 ^ 61 := by
  have := rowSum_mono (xss := rws ts) (show i ≤ (rws ts).length by rw [rws_len]; exact hi)
  simp only [need, rws_len] at this h
  unfold mbT; omega

noncomputable def mMarkT : List AV → Option (Nat × AV × AV) := mkM (fun (p : Bool × List Tk × Int) => 0 ≤ p.2.2 ∧ p.2.2 + 2 * need (rws p.2.1) ≤ 2 ^ 61) (fun p => [tks p.1 p.2.1, int p.2.2]) (fun p => (0, int (mbT p.2.2 p.2.1 p.2.1.length), tks p.1 (mkTS p.2.2 p.2.1)))
theorem mMarkT_at (nl : Bool) (ts : List Tk) (k : Int) (h : 0 ≤ k ∧ k + 2 * need (rws ts) ≤ 2 ^ 61) : mMarkT [.sl nl 3 (ts.map tick), .v (.int .i64 k)] = some (0, .v (.int .i64 (mbT k ts ts.length)), .sl nl 3 ((mkTS k ts).map tick)) :=
  mkM_eq (enc := fun (p : Bool × List Tk × Int) => [tks p.1 p.2.1, int p.2.2]) (x := (nl, ts, k)) (by rintro ⟨a, b, c⟩ ⟨d, e, f⟩ h; simp [tks, int, map_tick_inj] at h; simp [h]) h

set_option maxRecDepth 4000 in
set_option maxHeartbeats 4000000 in
theorem markTicketS_ok : FnMut Try.prog 24 mMarkT := by
  refine mkM_ok fun ⟨nl, ts, k⟩ ⟨hk0, hk⟩ => ?_
  simp only at hk0 hk
  have hnl : ts.length ≤ need (rws ts) := by simp [need, rws_len]
  have hG : FnsOk Try.prog [] := .nil
  have hM : FnsMut Try.prog [(54, mMarkI)] := (.cons markIntS_ok .nil)
  refine mutOk_awp (ctxM_ok eqOk hG hM) mixed (live := [true, true, false, false, true, true, false, false, false, true]) (dt := []) (pos := 0) rfl Try.func24 rfl (by kernel_rfl) (by kernel_rfl) fun US Uv w0 hlens => ?_
  simp [Try.f24, List.range, List.range.loop, ints, intss, int, bool, row, frac, fracs, ← List.map_take, ← List.map_drop, ctxM, tks]
  refine awp_range (live := [true, true, false, false, true, true, false, false, false, true]) (ctxM_ok eqOk hG hM) mixed [true, true, false, false, false, true] (ts.length) (fun i => True) (fun i => ⟨[.ref 0 [] 0 ts.length, int (mbT k ts i), .junk, .junk, .junk, int i, .junk, .junk, .junk, .junk, .junk, .junk, .junk, .junk, .junk, .junk, .junk, .junk, .junk, .junk, .junk, .junk, .junk, .junk, .junk, .junk, .junk, .junk, .junk, .junk, .junk, .junk, .junk, .junk, .junk, .junk], [⟨true, .sl nl 3 ((mkTT k ts i).map tick)⟩]⟩) ?_ (by simp [sub, slotsLe, clean, keep, refsL, refs, once, place, renL, ren, List.replicate, int, bool, mkTT_zero, mbT_zero, tks]) ?_ ?_ ?_
  · omega
  · trivial
  · intro i h _ hw
    have hs := mkTT_set (k := k) h
    have h1 := mbT_succ (k := k) h
    have hb := mbT_bd hk0 hk (i := i) (by omega)
    have hb2 := mbT_bd hk0 hk (i := i + 1) (by omega)
    have hl := mkTT_len (k := k) (ts := ts) (i := i)
    have hl2 := mkTT_len (k := k) (ts := ts) (i := i + 1)
    have ha := fun h' => mkTT_at (k := k) h h'
    rw [h1] at hb2
    rw [h1]
    have hz := mMarkI_at ts[i].2.1 ts[i].2.2 (mbT k ts i + 2) ⟨by omega, by omega⟩
    have w1 : IntKind.i64.wrap (mbT k ts i + 1) = mbT k ts i + 1 := wrapI (by omega) (by omega)
    have w2 : IntKind.i64.wrap (mbT k ts i + 1 + 1) = mbT k ts i + 2 := by rw [wrapI (by omega) (by omega)]; omega
    generalize mkTT k ts i = T at *
    generalize mkTT k ts (i + 1) = T2 at *
    generalize mbT k ts i = B at *
    simp (config := {maxSteps := 1000000}) [List.range, List.range.loop, ints, intss, int, bool, row, frac, fracs, ← List.map_take, ← List.map_drop, List.eraseIdx, tks, tick, h, hw, hl, hl2, ha, hz, mkd_len, hs, w1, w2]
    done
  · intro _
    simp (config := {contextual := true}) [List.range, List.range.loop, ints, intss, int, bool, row, frac, fracs, ← List.map_take, ← List.map_drop, List.eraseIdx, tks, mkTT_len, mkTT_all, mkTS_len]

noncomputable def mHeldT : List AV → Option AV := mk (fun (p : Bool × List Tk × Int) => 0 ≤ p.2.2 ∧ p.2.2 + 2 * need (rws p.2.1) ≤ 2 ^ 61) (fun p => [tks p.1 (mkTS p.2.2 p.2.1), int p.2.2]) (fun p => int (mbT p.2.2 (mkTS p.2.2 p.2.1) p.2.1.length))
theorem mkTS_sum {k : Int} {ts : List Tk} : mbT k (mkTS k ts) ts.length = mbT k ts ts.length := by
  have : (rws (mkTS k ts)).map (·.2.length) = (rws ts).map (·.2.length) := by
    apply List.ext_getElem
    · simp [rws, mkTS]
    · intro i h1 h2
      have h3 : i < ts.length := by simpa [rws] using h2
      simp only [rws, List.getElem_map]
      rw [mkTS_at h3]; simp [mkd_len]
  unfold mbT rowSum
  rw [List.map_take, this, ← List.map_take]
theorem mHeldT_at (nl : Bool) (ts : List Tk) (k : Int) (h : 0 ≤ k ∧ k + 2 * need (rws ts) ≤ 2 ^ 61) : mHeldT [.sl nl 3 ((mkTS k ts).map tick), .v (.int .i64 k)] = some (.v (.int .i64 (mbT k ts ts.length))) := by
  refine (mk_eq (enc := fun p : Bool × List Tk × Int => [tks p.1 (mkTS p.2.2 p.2.1), int p.2.2]) (x := (nl, ts, k)) (by
    rintro ⟨a, b, c⟩ ⟨d, e, f⟩ h
    simp [tks, int, map_tick_inj] at h
    obtain ⟨⟨_, h1⟩, rfl⟩ := h
    have h2 := congrArg List.length h1
    simp only [mkTS_len] at h2
    simp only [h1, h2]) h).trans ?_
  simp only [int, mkTS_sum]

set_option maxHeartbeats 2000000 in
theorem heldTicketS_ok : FnOk Try.prog 36 mHeldT := by
  refine mk_ok fun ⟨nl, ts, k⟩ ⟨hk0, hk⟩ => ?_
  simp only at hk0 hk
  have hnl : ts.length ≤ need (rws ts) := by simp [need, rws_len]
  simp only [mkTS_sum]
  have hG : FnsOk Try.prog [(91, mHeldI)] := (.cons heldIntS_ok .nil)
  refine callOk_awp (ctx_ok eqOk hG) mixed (live := [true, true, false, false, true, true, false, false, false, true, false, false, false, false, false, false, false, false, false, true, false, false, false, false, false, false, false, false, false, true, false, false, false, false, false, false, false, false, false, false, true]) (dt := []) Try.func36 rfl (by kernel_rfl) (by kernel_rfl) fun w0 hlens => ?_
  clear hlens
  simp [Try.f36, List.range, List.range.loop, ints, intss, int, bool, row, frac, fracs, ← List.map_take, ← List.map_drop, tks]
  refine awp_range (live := [true, true, false, false, true, true, false, false, false, true, false, false, false, false, false, false, false, false, false, true, false, false, false, false, false, false, false, false, false, true, false, false, false, false, false, false, false, false, false, false, true]) (ctx_ok eqOk hG) mixed [true, true, false, false, false, true] (ts.length) (fun i => True) (fun i => ⟨[tks nl (mkTS k ts), int (mbT k ts i), .junk, .junk, .junk, int i, .junk, .junk, .junk, .junk, .junk, .junk, .junk, .junk, .junk, .junk, .junk, .junk, .junk, .junk, .junk, .junk, .junk, .junk, .junk, .junk, .junk, .junk, .junk, .junk, .junk, .junk, .junk, .junk, .junk, .junk, .junk, .junk, .junk, .junk, .junk, .junk], []⟩) ?_ (by simp [sub, slotsLe, clean, keep, refsL, refs, once, place, renL, ren, List.replicate, int, bool, tks, mbT_zero]) ?_ ?_ ?_
  · omega
  · trivial
  · intro i h _ hw
    have h1 := mbT_succ (k := k) h
    have hb := mbT_bd hk0 hk (i := i) (by omega)
    have hb2 := mbT_bd hk0 hk (i := i + 1) (by omega)
    have hl := mkTS_len (k := k) (ts := ts)
    have ha := fun h' => mkTS_at (k := k) h h'
    rw [h1] at hb2
    rw [h1]
    have hz := mHeldI_at ts[i].2.1 ts[i].2.2.length (mbT k ts i + 2) ⟨by omega, by omega⟩
    have w1 : IntKind.i64.wrap (mbT k ts i + 1) = mbT k ts i + 1 := wrapI (by omega) (by omega)
    have w2 : IntKind.i64.wrap (mbT k ts i + 1 + 1) = mbT k ts i + 2 := by rw [wrapI (by omega) (by omega)]; omega
    have hn : ¬ (mbT k ts i + 2 + (ts[i].2.2.length : Int) < 0) := by omega
    generalize mkTS k ts = T at *
    generalize mbT k ts i = B at *
    simp (config := {maxSteps := 1000000}) [List.range, List.range.loop, ints, intss, int, bool, row, frac, fracs, ← List.map_take, ← List.map_drop, tks, tick, h, hw, hl, ha, hz, hn, w1, w2]
    done
  · intro _
    simp (config := {contextual := true}) [List.range, List.range.loop, ints, intss, int, bool, row, frac, fracs, ← List.map_take, ← List.map_drop, tks, mkTS_len]

end Go.Proofs.Ytkfgmpmeipilnaa.Ax

/-
  Contracts: marks on lists of lists of fractions, and whether they stand. No condition.
-/
namespace Go.Proofs.Ytkfgmpmeipilnaa.Ax
open Go Go.RowKit
set_option linter.unusedSimpArgs false

/-- Rows of which the first i are marked. -/
def mkRowF (k : Int) (xss : List (Bool × List (Int × Int))) (j : Nat) : Bool × List (Int × Int) := ((xss.getD j (true, [])).1, mkdF (k + 2 * (rowSumF xss j : Int)) (xss.getD j (true, [])).2.length)
def mkRTF (k : Int) (xss : List (Bool × List (Int × Int))) (i : Nat) : List (Bool × List (Int × Int)) := (List.range xss.length).map fun j => if j < i then mkRowF k xss j else xss.getD j (true, [])
def mkRSF (k : Int) (xss : List (Bool × List (Int × Int))) : List (Bool × List (Int × Int)) := (List.range xss.length).map (mkRowF k xss)
theorem mkRTF_len {k : Int} {xss : List (Bool × List (Int × Int))} {i : Nat} : (mkRTF k xss i).length = xss.length := by simp [mkRTF]
theorem mkRSF_len {k : Int} {xss : List (Bool × List (Int × Int))} : (mkRSF k xss).length = xss.length := by simp [mkRSF]
theorem mkRSF_take {k : Int} {xss : List (Bool × List (Int × Int))} : (mkRSF k xss).take xss.length = mkRSF k xss := List.take_of_length_le (by simp [mkRSF_len])
theorem mkRTF_zero {k : Int} {xss : List (Bool × List (Int × Int))} : mkRTF k xss 0 = xss := by
  apply List.ext_getElem
  · simp [mkRTF]
  · intro i h1 h2
    simp only [mkRTF, List.getElem_map, List.getElem_range, Nat.not_lt_zero, if_false, getDF h2]
theorem mkRTF_all {k : Int} {xss : List (Bool × List (Int × Int))} : mkRTF k xss xss.length = mkRSF k xss := by
  apply List.ext_getElem
  · simp [mkRTF, mkRSF]
  · intro i h1 h2
    have h3 : i < xss.length := by simpa [mkRSF] using h2
    simp [mkRTF, mkRSF, h3]
theorem mkRTF_at {k : Int} {xss : List (Bool × List (Int × Int))} {i : Nat} (h : i < xss.length) (h' : i < (mkRTF k xss i).length) : (mkRTF k xss i)[i] = xss[i] := by
  simp only [mkRTF, List.getElem_map, List.getElem_range, Nat.lt_irrefl, if_false, getDF h]
theorem mkRSF_at {k : Int} {xss : List (Bool × List (Int × Int))} {i : Nat} (h : i < xss.length) (h' : i < (mkRSF k xss).length) : (mkRSF k xss)[i] = (xss[i].1, mkdF (k + 2 * (rowSumF xss i : Int)) xss[i].2.length) := by
  simp only [mkRSF, List.getElem_map, List.getElem_range, mkRowF, getDF h]
theorem mkRTF_set {k : Int} {xss : List (Bool × List (Int × Int))} {i : Nat} (h : i < xss.length) : ((mkRTF k xss i).map frow).set i (.sl xss[i].1 2 ((mkdF (k + 2 * (rowSumF xss i : Int)) xss[i].2.length).map frac)) = (mkRTF k xss (i + 1)).map frow := by
  have : (AV.sl xss[i].1 2 ((mkdF (k + 2 * (rowSumF xss i : Int)) xss[i].2.length).map frac)) = frow (mkRowF k xss i) := by simp only [frow, mkRowF, getDF h]
  rw [this, ← List.map_set]
  congr 1
  apply List.ext_getElem
  · simp [mkRTF]
  · intro j h1 h2
    rw [List.getElem_set]
    simp only [mkRTF, List.getElem_map, List.getElem_range]
    by_cases e : i = j
    · subst e; simp
    · rw [if_neg e]
      by_cases h3 : j < i
      · rw [if_pos h3, if_pos (by omega)]
      · rw [if_neg h3, if_neg (by omega)]

theorem needF_own {xss : List (Bool × List (Int × Int))} : needF (ownF xss) = needF xss := by
  unfold needF rowSumF ownF; simp [← List.map_take, Function.comp_def]

noncomputable def mMarkFF : List AV → Option (Nat × AV × AV) := mkM (fun (p : Bool × List (Bool × List (Int × Int)) × Int) => 0 ≤ p.2.2 ∧ p.2.2 + 2 * needF p.2.1 ≤ 2 ^ 61) (fun p => [fracss p.1 p.2.1, int p.2.2]) (fun p => (0, int (p.2.2 + 2 * (rowSumF p.2.1 p.2.1.length : Int)), fracss p.1 (mkRSF p.2.2 p.2.1)))
theorem mMarkFF_at (nl : Bool) (xss : List (Bool × List (Int × Int))) (k : Int) (h : 0 ≤ k ∧ k + 2 * needF xss ≤ 2 ^ 61) : mMarkFF [.sl nl 1 (xss.map frow), .v (.int .i64 k)] = some (0, .v (.int .i64 (k + 2 * (rowSumF xss xss.length : Int))), .sl nl 1 ((mkRSF k xss).map frow)) :=
  mkM_eq (enc := fun (p : Bool × List (Bool × List (Int × Int)) × Int) => [fracss p.1 p.2.1, int p.2.2]) (x := (nl, xss, k)) (by rintro ⟨a, b, c⟩ ⟨d, e, f⟩ h; simp [fracss, int, map_frow_inj] at h; simp [h]) h

set_option maxHeartbeats 2000000 in
theorem markFractionSS_ok : FnMut Try.prog 17 mMarkFF := by
  refine mkM_ok fun ⟨nl, xss, k⟩ ⟨hk0, hk⟩ => ?_
  simp only at hk0 hk
  simp only [needF] at hk
  have hG : FnsOk Try.prog [] := .nil
  have hM : FnsMut Try.prog [(30, mMarkF)] := (.cons markFractionS_ok .nil)
  refine mutOk_awp (ctxM_ok eqOk hG hM) mixed (live := [true, true, false, false, true, true, false, false, false, true]) (dt := []) (pos := 0) rfl Try.func17 rfl (by kernel_rfl) (by kernel_rfl) fun US Uv w0 hlens => ?_
  simp [Try.f17, List.range, List.range.loop, ints, intss, int, bool, row, frac, fracs, ← List.map_take, ← List.map_drop, fracss, frow, ctxM]
  refine awp_range (live := [true, true, false, false, true, true, false, false, false, true]) (ctxM_ok eqOk hG hM) mixed [true, true, false, false, false, true] (xss.length) (fun i => True) (fun i => ⟨[.ref 0 [] 0 xss.length, int (k + 2 * (rowSumF xss i : Int)), .junk, .junk, .junk, int i, .junk, .junk, .junk, .junk, .junk, .junk, .junk, .junk, .junk, .junk, .junk, .junk, .junk], [⟨true, .sl nl 1 ((mkRTF k xss i).map frow)⟩]⟩) ?_ (by simp [sub, slotsLe, clean, keep, refsL, refs, once, place, renL, ren, List.replicate, int, bool, mkRTF_zero, rowSumF_zero]) ?_ ?_ ?_
  · omega
  · trivial
  · intro i h _ hw
    have hs := mkRTF_set (k := k) h
    have h1 := rowSumF_succ h
    have h2 := rowSumF_mono (xss := xss) (show i + 1 ≤ xss.length from h)
    have hz := mMarkF_at xss[i].1 xss[i].2 (k + 2 * (rowSumF xss i : Int)) ⟨by omega, by omega⟩
    have e : k + 2 * (rowSumF xss i : Int) + 2 * (xss[i].2.length : Int) = k + 2 * (rowSumF xss (i + 1) : Int) := by omega
    simp (config := {contextual := true}) [List.range, List.range.loop, ints, intss, int, bool, row, frac, fracs, ← List.map_take, ← List.map_drop, fracss, frow, List.eraseIdx, h, hw, mkRTF_len, mkRTF_at, hz, mkdF_len, hs, e]
  · intro _
    simp (config := {contextual := true}) [List.range, List.range.loop, ints, intss, int, bool, row, frac, fracs, ← List.map_take, ← List.map_drop, fracss, frow, List.eraseIdx, mkRTF_len, mkRTF_all, mkRSF_len]

noncomputable def mHeldFF : List AV → Option AV := mk (fun (p : Bool × List (Bool × List (Int × Int)) × Int) => 0 ≤ p.2.2 ∧ p.2.2 + 2 * needF p.2.1 ≤ 2 ^ 61) (fun p => [fracss p.1 (mkRSF p.2.2 p.2.1), int p.2.2]) (fun p => int (p.2.2 + 2 * (((mkRSF p.2.2 p.2.1).map (·.2.length)).sum : Nat)))
theorem mkRSF_sum {k : Int} {xss : List (Bool × List (Int × Int))} : ((mkRSF k xss).map (·.2.length)).sum = rowSumF xss xss.length := by
  have : (mkRSF k xss).map (·.2.length) = xss.map (·.2.length) := by
    apply List.ext_getElem
    · simp [mkRSF]
    · intro i h1 h2
      have h3 : i < xss.length := by simpa using h2
      rw [List.getElem_map, List.getElem_map, mkRSF_at h3]; simp [mkdF_len]
  rw [this]; simp [rowSumF]
theorem mHeldFF_at (nl : Bool) (xss : List (Bool × List (Int × Int))) (k : Int) (h : 0 ≤ k ∧ k + 2 * needF xss ≤ 2 ^ 61) : mHeldFF [.sl nl 1 ((mkRSF k xss).map frow), .v (.int .i64 k)] = some (.v (.int .i64 (k + 2 * (rowSumF xss xss.length : Int)))) := by
  refine (mk_eq (enc := fun p : Bool × List (Bool × List (Int × Int)) × Int => [fracss p.1 (mkRSF p.2.2 p.2.1), int p.2.2]) (x := (nl, xss, k)) (by
    rintro ⟨a, b, c⟩ ⟨d, e, f⟩ h
    simp [fracss, int, map_frow_inj] at h
    obtain ⟨⟨_, h1⟩, rfl⟩ := h
    simp only [h1]) h).trans ?_
  simp only [int, mkRSF_sum]

set_option maxHeartbeats 2000000 in
theorem heldFractionSS_ok : FnOk Try.prog 18 mHeldFF := by
  refine mk_ok fun ⟨nl, xss, k⟩ ⟨hk0, hk⟩ => ?_
  simp only at hk0 hk
  simp only [needF] at hk
  simp only [mkRSF_sum]
  have hG : FnsOk Try.prog [(31, mHeldF)] := (.cons heldFractionS_ok .nil)
  refine callOk_awp (ctx_ok eqOk hG) mixed (live := [true, true, false, false, true, true, false, false, false, true, false, false, false, false, false, false, false, false, false, true]) (dt := []) Try.func18 rfl (by kernel_rfl) (by kernel_rfl) fun w0 hlens => ?_
  clear hlens
  simp [Try.f18, List.range, List.range.loop, ints, intss, int, bool, row, frac, fracs, ← List.map_take, ← List.map_drop, fracss, frow]
  refine awp_range (live := [true, true, false, false, true, true, false, false, false, true, false, false, false, false, false, false, false, false, false, true]) (ctx_ok eqOk hG) mixed [true, true, false, false, false, true] (xss.length) (fun i => True) (fun i => ⟨[fracss nl (mkRSF k xss), int (k + 2 * (rowSumF xss i : Int)), .junk, .junk, .junk, int i, .junk, .junk, .junk, .junk, .junk, .junk, .junk, .junk, .junk, .junk, .junk, .junk, .junk, .junk, .junk], []⟩) ?_ (by simp [sub, slotsLe, clean, keep, refsL, refs, once, place, renL, ren, List.replicate, int, bool, fracss, rowSumF_zero]) ?_ ?_ ?_
  · omega
  · trivial
  · intro i h _ hw
    have h1 := rowSumF_succ h
    have h2 := rowSumF_mono (xss := xss) (show i + 1 ≤ xss.length from h)
    have hz := mHeldF_at xss[i].1 xss[i].2.length (k + 2 * (rowSumF xss i : Int)) ⟨by omega, by omega⟩
    have e : k + 2 * (rowSumF xss i : Int) + 2 * (xss[i].2.length : Int) = k + 2 * (rowSumF xss (i + 1) : Int) := by omega
    have hn : ¬ (k + 2 * (rowSumF xss (i + 1) : Int) < 0) := by omega
    simp (config := {contextual := true}) [List.range, List.range.loop, ints, intss, int, bool, row, frac, fracs, ← List.map_take, ← List.map_drop, fracss, frow, h, hw, mkRSF_len, mkRSF_at, hz, e, hn]
  · intro _
    simp (config := {contextual := true}) [List.range, List.range.loop, ints, intss, int, bool, row, frac, fracs, ← List.map_take, ← List.map_drop, fracss, frow, mkRSF_len]

end Go.Proofs.Ytkfgmpmeipilnaa.Ax
