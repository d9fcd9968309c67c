/-
  Contracts of the laws' functions on lists of tickets: size, copy, equality, marks. No condition.
-/
import Derived.Test.YtkfgmpmeipilnaaCG9
import Derived.Test.YtkfgmpmeipilnaaCG2
import Derived.Test.YtkfgmpmeipilnaaCB1
import Derived.Test.YtkfgmpmeipilnaaCB3
import Derived.Test.YtkfgmpmeipilnaaCG3
import Derived.Test.YtkfgmpmeipilnaaCG4
import Derived.Test.YtkfgmpmeipilnaaCB2
namespace Go.Proofs.Ytkfgmpmeipilnaa.Ax
open Go Go.RowKit
set_option linter.unusedSimpArgs false

/-- The tickets' lists. -/
def rws (ts : List Tk) : List (Bool × List Int) := ts.map (·.2)
theorem rws_len {ts : List Tk} : (rws ts).length = ts.length := by simp [rws]
theorem rws_get {ts : List Tk} {i : Nat} (h : i < ts.length) : (rws ts)[i]'(by rw [rws_len]; exact h) = ts[i].2 := by simp [rws]
theorem rwS_succ {ts : List Tk} {i : Nat} (h : i < ts.length) : rowSum (rws ts) (i + 1) = rowSum (rws ts) i + ts[i].2.2.length := by
  rw [rowSum_succ (by rw [rws_len]; exact h), rws_get h]
def ownTk (t : Tk) : Tk := (t.1, false, t.2.2)
def ownT (ts : List Tk) : List Tk := ts.map ownTk
theorem ownT_len {ts : List Tk} : (ownT ts).length = ts.length := by simp [ownT]
theorem rws_own {ts : List Tk} : rws (ownT ts) = own (rws ts) := by simp [rws, ownT, own, ownTk, Function.comp_def]

noncomputable def mSzT : List AV → Option AV := mk (fun p => p.1.2.2.length < 2 ^ 63 ∧ 0 ≤ p.2 ∧ p.2 ≤ 2 ^ 62) (fun (p : Tk × Int) => [tick p.1, int p.2]) (fun p => int (if p.2 < p.1.2.2.length then -1 else p.2 - p.1.2.2.length))
theorem mSzT_at (a b : Int) (nl : Bool) (xs : List Int) (l : Int) (h : xs.length < 2 ^ 63) (h1 : 0 ≤ l) (h2 : l ≤ 2 ^ 62) : mSzT [.agg [.v (.int .i64 a), .v (.int .i64 b), .sl nl 1 (xs.map int)], .v (.int .i64 l)] = some (.v (.int .i64 (if l < xs.length then -1 else l - xs.length))) :=
  mk_eq (enc := fun (p : Tk × Int) => [tick p.1, int p.2]) (x := (((a, b), nl, xs), l)) (by rintro ⟨x, x'⟩ ⟨y, y'⟩ h; simp only [List.cons.injEq, int_inj, and_true] at h; obtain ⟨h, rfl⟩ := h; rw [tick_inj h]) ⟨h, h1, h2⟩

set_option maxHeartbeats 1000000 in
theorem szTicket_ok : FnOk Try.prog 55 mSzT := by
  refine mk_ok fun ⟨⟨⟨a, b⟩, nl, xs⟩, l⟩ ⟨h1, h2, h3⟩ => ?_
  simp only at h1 h2 h3
  have hz := mSzI_at nl xs l h1 h2 h3
  have hG : FnsOk Try.prog [(42, mSzI)] := (.cons szIntS_ok .nil)
  refine callOk_awp (ctx_ok eqOk hG) mixed (live := [true, true, true, false, true, false, false, false, false, false, true]) (dt := []) Try.func55 rfl (by kernel_rfl) (by kernel_rfl) fun w0 hlens => ?_
  clear hlens
  by_cases hc : l < xs.length
  · simp [hc] at hz
    simp (config := {contextual := true}) [Try.f55, List.range, List.range.loop, ints, intss, int, bool, row, frac, fracs, ← List.map_take, ← List.map_drop, tick, hz, hc]
  · simp [hc] at hz
    have hn : ¬ l - (xs.length : Int) < 0 := by omega
    simp (config := {contextual := true}) [Try.f55, List.range, List.range.loop, ints, intss, int, bool, row, frac, fracs, ← List.map_take, ← List.map_drop, tick, hz, hc, hn]

noncomputable def mSzTs : List AV → Option AV := mk (fun p => p.2.1.length < 2 ^ 63 ∧ (∀ x ∈ p.2.1, x.2.2.length < 2 ^ 63) ∧ 0 ≤ p.2.2 ∧ p.2.2 ≤ 2 ^ 62) (fun (p : Bool × List Tk × Int) => [tks p.1 p.2.1, int p.2.2]) (fun p => int (if p.2.2 < need (rws p.2.1) then -1 else p.2.2 - need (rws p.2.1)))
theorem mSzTs_at (nl : Bool) (ts : List Tk) (l : Int) (h : ts.length < 2 ^ 63) (h' : ∀ x ∈ ts, x.2.2.length < 2 ^ 63) (h1 : 0 ≤ l) (h2 : l ≤ 2 ^ 62) : mSzTs [.sl nl 3 (ts.map tick), .v (.int .i64 l)] = some (.v (.int .i64 (if l < need (rws ts) then -1 else l - need (rws ts)))) :=
  mk_eq (enc := fun (p : Bool × List Tk × Int) => [tks p.1 p.2.1, int p.2.2]) (x := (nl, ts, l)) (by rintro ⟨x, x', x''⟩ ⟨y, y', y''⟩ h; simp [tks, int_inj, map_tick_inj] at h; simp [h]) ⟨h, h', h1, h2⟩

set_option maxHeartbeats 2000000 in
theorem szTicketS_ok : FnOk Try.prog 19 mSzTs := by
  refine mk_ok fun ⟨nl, ts, l⟩ ⟨h1, h1', h2, h3⟩ => ?_
  simp only at h1 h1' h2 h3
  have hw : IntKind.i64.wrap (l - ts.length) = l - ts.length := wrapI (by omega) (by omega)
  have hnd : need (rws ts) = ts.length + rowSum (rws ts) ts.length := by simp [need, rws_len]
  have hmono := fun k => rowSum_mono (xss := rws ts) (k := k) (n := ts.length)
  have hG : FnsOk Try.prog [(55, mSzT)] := (.cons szTicket_ok .nil)
  refine callOk_awp (ctx_ok eqOk hG) mixed (live := [true, true, false, false, true, true, false, false, false, false, false, true, false, false, false, true, false, false, false, false, false, false, false, false, false, true]) (dt := []) Try.func19 rfl (by kernel_rfl) (by kernel_rfl) fun w0 hlens => ?_
  clear hlens
  by_cases h : l < ts.length
  · have h' : l - ts.length < 0 := by omega
    have hn : l < need (rws ts) := by omega
    simp [Try.f19, List.range, List.range.loop, ints, intss, int, bool, row, frac, fracs, ← List.map_take, ← List.map_drop, tks, hw, hn, h']
  · have h' : ¬ l - ts.length < 0 := by omega
    simp [Try.f19, List.range, List.range.loop, ints, intss, int, bool, row, frac, fracs, ← List.map_take, ← List.map_drop, tks, hw, h, h']
    refine awp_range (live := [true, true, false, false, true, true, false, false, false, false, false, true, false, false, false, true, false, false, false, false, false, false, false, false, false, true]) (ctx_ok eqOk hG) mixed [true, true, false, false, false, true] (ts.length) (fun k => (ts.length : Int) + rowSum (rws ts) k ≤ l) (fun k => ⟨[tks nl ts, int (l - ts.length - rowSum (rws ts) k), .junk, .junk, .junk, int k, .junk, .junk, .junk, .junk, .junk, .junk, .junk, .junk, .junk, .junk, .junk, .junk, .junk, .junk, .junk, .junk, .junk, .junk, .junk, .junk, .junk], []⟩) ?_ (by simp [sub, slotsLe, clean, keep, refsL, refs, once, place, renL, ren, List.replicate, int, bool, tks, rowSum_zero]) ?_ ?_ ?_
    · omega
    · rw [rowSum_zero]; omega
    · intro k hk hl hwk
      have hx := h1' ts[k] (List.getElem_mem _)
      have hs := rwS_succ hk
      have hz := mSzT_at ts[k].1.1 ts[k].1.2 ts[k].2.1 ts[k].2.2 (l - ts.length - rowSum (rws ts) k) hx (by omega) (by omega)
      have hm := hmono (k + 1) (by omega)
      by_cases hc : l - ts.length - rowSum (rws ts) k < ts[k].2.2.length
      · simp [hc] at hz
        have hn : l < need (rws ts) := by omega
        simp (config := {contextual := true}) [List.range, List.range.loop, ints, intss, int, bool, row, frac, fracs, ← List.map_take, ← List.map_drop, tks, tick, hk, hwk, hz, hn]
        done
      · simp [hc] at hz
        have hc' : ¬ l - ts.length - rowSum (rws ts) k - ts[k].2.2.length < 0 := by omega
        have e : l - ts.length - rowSum (rws ts) k - ts[k].2.2.length = l - ts.length - rowSum (rws ts) (k + 1) := by omega
        have e2 : (ts.length : Int) + rowSum (rws ts) (k + 1) ≤ l := by omega
        rw [e] at hz hc'
        simp (config := {contextual := true}) [List.range, List.range.loop, ints, intss, int, bool, row, frac, fracs, ← List.map_take, ← List.map_drop, tks, tick, hk, hwk, hz, hc', e2]
        done
    · intro hl
      have hn : ¬ l < need (rws ts) := by omega
      have e : l - ts.length - rowSum (rws ts) ts.length = l - need (rws ts) := by omega
      simp (config := {contextual := true}) [List.range, List.range.loop, ints, intss, int, bool, row, frac, fracs, ← List.map_take, ← List.map_drop, tks, hn, e]

noncomputable def mToT : List AV → Option AV := mk (fun p => p.2.2.length ≤ 2 ^ 40) (fun (p : Tk) => [tick p]) (fun p => tick (ownTk p))
theorem mToT_at (a b : Int) (nl : Bool) (xs : List Int) (h : xs.length ≤ 2 ^ 40) : mToT [.agg [.v (.int .i64 a), .v (.int .i64 b), .sl nl 1 (xs.map int)]] = some (.agg [.v (.int .i64 a), .v (.int .i64 b), .sl false 1 (xs.map int)]) :=
  mk_eq (enc := fun (p : Tk) => [tick p]) (f := fun p => tick (ownTk p)) (x := ((a, b), nl, xs)) (by rintro x y h; simp only [List.cons.injEq, and_true] at h; rw [tick_inj h]) h
set_option maxHeartbeats 1000000 in
theorem toTicket_ok : FnOk Try.prog 60 mToT := by
  refine mk_ok fun ⟨⟨a, b⟩, nl, xs⟩ h1 => ?_
  simp only at h1
  have hz := mToIs_at nl xs h1
  have hG : FnsOk Try.prog [(110, mId1), (50, mToIs)] := (.cons toFraction_ok (.cons toIntS_ok .nil))
  refine callOk_awp (ctx_ok eqOk hG) mixed (live := [true, true, true, true]) (dt := []) Try.func60 rfl (by kernel_rfl) (by kernel_rfl) fun w0 hlens => ?_
  clear hlens
  simp (config := {contextual := true}) [Try.f60, List.range, List.range.loop, ints, intss, int, bool, row, frac, fracs, ← List.map_take, ← List.map_drop, tick, ownTk, hz, mId1_at]

def smallT (ts : List Tk) : Prop := ts.length ≤ 2 ^ 40 ∧ ∀ x ∈ ts, x.2.2.length ≤ 2 ^ 40
noncomputable def mToTs : List AV → Option AV := mk (fun p => smallT p.2) (fun (p : Bool × List Tk) => [tks p.1 p.2]) (fun p => tks false (ownT p.2))
theorem mToTs_at (nl : Bool) (ts : List Tk) (h : smallT ts) : mToTs [.sl nl 3 (ts.map tick)] = some (.sl false 3 ((ownT ts).map tick)) :=
  mk_eq (enc := fun (p : Bool × List Tk) => [tks p.1 p.2]) (x := (nl, ts)) (by rintro ⟨x, x'⟩ ⟨y, y'⟩ h; simp [tks, map_tick_inj] at h; simp [h]) h
set_option maxHeartbeats 1000000 in
theorem toTicketS_ok : FnOk Try.prog 21 mToTs := by
  refine mk_ok fun ⟨nl, ts⟩ ⟨hpre, hpr⟩ => ?_
  simp only at hpre hpr
  have hb : 40 * ts.length ≤ 281474976710656 := by omega
  have hn : ts.length ≤ 4611686018427387904 := by omega
  have hz0 := filled_zero (f := fun t => tick (ownTk t)) (z := .agg [.v (.int .i64 0), .v (.int .i64 0), .sl true 1 []]) (xs := ts)
  have hza := filled_all (f := fun t => tick (ownTk t)) (z := .agg [.v (.int .i64 0), .v (.int .i64 0), .sl true 1 []]) (xs := ts)
  have hmap : ts.map (fun t => tick (ownTk t)) = (ownT ts).map tick := by simp [ownT, Function.comp_def]
  have hG : FnsOk Try.prog [(60, mToT)] := (.cons toTicket_ok .nil)
  refine callOk_awp (ctx_ok eqOk hG) mixed (live := [true, false, true, true, true, false, false, false, false, false, false, true]) (dt := []) Try.func21 rfl (by kernel_rfl) (by kernel_rfl) fun w0 hlens => ?_
  clear hlens
  simp (config := {contextual := true}) [Try.f21, List.range, List.range.loop, ints, intss, int, bool, row, frac, fracs, ← List.map_take, ← List.map_drop, tks, hb, hn]
  refine awp_range (live := [true, false, true, true, true, false, false, false, false, false, false, true]) (ctx_ok eqOk hG) mixed [true, false, false, true, true] (ts.length) (fun k => True) (fun k => ⟨[tks nl ts, .junk, .junk, .ref 0 [] 0 ts.length, int k, .junk, .junk, .junk, .junk, .junk, .junk, .junk, .junk, .junk, .junk, .junk, .junk, .junk, .junk, .junk, .junk, .junk, .junk], [⟨true, .sl false 3 (filled (fun t => tick (ownTk t)) (.agg [.v (.int .i64 0), .v (.int .i64 0), .sl true 1 []]) ts k)⟩]⟩) ?_ (by simp [sub, slotsLe, clean, keep, refsL, refs, once, place, renL, ren, List.replicate, int, bool, tks, hz0]) ?_ ?_ ?_
  · omega
  · trivial
  · intro k hk _ hwk
    have hl := filled_len (f := fun t => tick (ownTk t)) (z := .agg [.v (.int .i64 0), .v (.int .i64 0), .sl true 1 []]) (show k ≤ ts.length by omega)
    have hg := filled_get (f := fun t => tick (ownTk t)) (z := .agg [.v (.int .i64 0), .v (.int .i64 0), .sl true 1 []]) hk
    have hg' := filled_get' (f := fun t => tick (ownTk t)) (z := .agg [.v (.int .i64 0), .v (.int .i64 0), .sl true 1 []]) hk
    have hset := filled_set (f := fun t => tick (ownTk t)) (z := .agg [.v (.int .i64 0), .v (.int .i64 0), .sl true 1 []]) hk
    have hl2 := filled_len (f := fun t => tick (ownTk t)) (z := .agg [.v (.int .i64 0), .v (.int .i64 0), .sl true 1 []]) (show k + 1 ≤ ts.length by omega)
    have hz := mToT_at ts[k].1.1 ts[k].1.2 ts[k].2.1 ts[k].2.2 (hpr _ (List.getElem_mem _))
    simp only [tick, ownTk] at hset hl hg hg' hl2
    simp (config := {contextual := true}) [List.range, List.range.loop, ints, intss, int, bool, row, frac, fracs, ← List.map_take, ← List.map_drop, tks, tick, ownTk, hk, hwk, hl, hl2, hg, hg', hz, hset]
    done
  · intro _
    simp (config := {contextual := true}) [List.range, List.range.loop, ints, intss, int, bool, row, frac, fracs, ← List.map_take, ← List.map_drop, tks, hza, hmap, ownT_len]

noncomputable def mEqT : List AV → Option AV := mk (fun p => p.1.2.2.length ≤ 2 ^ 40 ∧ p.2.2.2.length ≤ 2 ^ 40) (fun (p : Tk × Tk) => [tick p.1, tick p.2]) (fun p => bool (decide (p.1.1 = p.2.1 ∧ p.1.2.2 = p.2.2.2)))
theorem mEqT_at (a b c d : Int) (nl nl' : Bool) (xs ys : List Int) (h : xs.length ≤ 2 ^ 40) (h' : ys.length ≤ 2 ^ 40) : mEqT [.agg [.v (.int .i64 a), .v (.int .i64 b), .sl nl 1 (xs.map int)], .agg [.v (.int .i64 c), .v (.int .i64 d), .sl nl' 1 (ys.map int)]] = some (.v (.bool (decide ((a, b) = (c, d) ∧ xs = ys)))) :=
  mk_eq (enc := fun (p : Tk × Tk) => [tick p.1, tick p.2]) (x := (((a, b), nl, xs), ((c, d), nl', ys))) (by rintro ⟨x, x'⟩ ⟨y, y'⟩ h; simp only [List.cons.injEq, and_true] at h; rw [tick_inj h.1, tick_inj h.2]) ⟨h, h'⟩
set_option maxHeartbeats 1000000 in
theorem eqTicket_ok : FnOk Try.prog 66 mEqT := by
  refine mk_ok fun ⟨⟨⟨a, b⟩, nl, xs⟩, ⟨⟨c, d⟩, nl', ys⟩⟩ ⟨h1, h2⟩ => ?_
  simp only at h1 h2
  have hz := mEqIs_at nl nl' xs ys h1 h2
  have hf := mEqF_at a b c d
  have hG : FnsOk Try.prog [(82, mEqF), (53, mEqIs)] := (.cons eqFraction_ok (.cons eqIntS_ok .nil))
  refine callOk_awp (ctx_ok eqOk hG) mixed (live := [true, true, true, true, true, false, false, false, false, false, true, false, false, false, false, false, true]) (dt := []) Try.func66 rfl (by kernel_rfl) (by kernel_rfl) fun w0 hlens => ?_
  clear hlens
  by_cases e1 : (a, b) = (c, d)
  · by_cases e2 : xs = ys
    · rw [decide_eq_true e1] at hf
      rw [decide_eq_true e2] at hz
      have e3 : decide ((a, b) = (c, d) ∧ xs = ys) = true := decide_eq_true ⟨e1, e2⟩
      simp only [e3]
      simp (config := {contextual := true}) [Try.f66, List.range, List.range.loop, ints, intss, int, bool, row, frac, fracs, ← List.map_take, ← List.map_drop, tick, hz, hf]
      done
    · rw [decide_eq_true e1] at hf
      rw [decide_eq_false e2] at hz
      have e3 : decide ((a, b) = (c, d) ∧ xs = ys) = false := decide_eq_false fun h => e2 h.2
      simp only [e3]
      simp (config := {contextual := true}) [Try.f66, List.range, List.range.loop, ints, intss, int, bool, row, frac, fracs, ← List.map_take, ← List.map_drop, tick, hz, hf]
      done
  · rw [decide_eq_false e1] at hf
    have e3 : decide ((a, b) = (c, d) ∧ xs = ys) = false := decide_eq_false fun h => e1 h.1
    simp only [e3]
    simp (config := {contextual := true}) [Try.f66, List.range, List.range.loop, ints, intss, int, bool, row, frac, fracs, ← List.map_take, ← List.map_drop, tick, hz, hf]
    done

/-- What is compared of a ticket. -/
def vT (t : Tk) : (Int × Int) × List Int := (t.1, t.2.2)
noncomputable def mEqTs : List AV → Option AV := mk (fun p => smallT p.1.2 ∧ smallT p.2.2) (fun (p : (Bool × List Tk) × (Bool × List Tk)) => [tks p.1.1 p.1.2, tks p.2.1 p.2.2]) (fun p => bool (decide (p.1.2.map vT = p.2.2.map vT)))
theorem mEqTs_at (nl nl' : Bool) (xs ys : List Tk) (h : smallT xs) (h' : smallT ys) : mEqTs [.sl nl 3 (xs.map tick), .sl nl' 3 (ys.map tick)] = some (.v (.bool (decide (xs.map vT = ys.map vT)))) :=
  mk_eq (enc := fun (p : (Bool × List Tk) × (Bool × List Tk)) => [tks p.1.1 p.1.2, tks p.2.1 p.2.2]) (x := ((nl, xs), (nl', ys))) (by rintro ⟨⟨x, x'⟩, ⟨x'', x3⟩⟩ ⟨⟨y, y'⟩, ⟨y'', y3⟩⟩ h; simp [tks, map_tick_inj] at h; simp [h]) ⟨h, h'⟩
theorem take_eq_vT {xs ys : List Tk} {k : Nat} (h1 : k < xs.length) (h2 : k < ys.length) (h : (xs.take k).map vT = (ys.take k).map vT) (e : vT xs[k] = vT ys[k]) : (xs.take (k + 1)).map vT = (ys.take (k + 1)).map vT := by
  rw [List.take_succ_eq_append_getElem h1, List.take_succ_eq_append_getElem h2, List.map_append, List.map_append, h]
  simp [e]
set_option maxHeartbeats 2000000 in
theorem eqTicketS_ok : FnOk Try.prog 23 mEqTs := by
  refine mk_ok fun ⟨⟨nl, xs⟩, ⟨nl', ys⟩⟩ ⟨⟨hp, hpr⟩, ⟨hp', hpr'⟩⟩ => ?_
  simp only at hp hp' hpr hpr'
  have hG : FnsOk Try.prog [(66, mEqT)] := (.cons eqTicket_ok .nil)
  generalize hr : decide (xs.map vT = ys.map vT) = r
  refine callOk_awp (ctx_ok eqOk hG) mixed (live := [true, true, false, false, true, true, false, false, false, false, true, false, false, false, true, false, false, false, false, false, false, false, false, false, false, false, true]) (dt := [(6, ⟨[], [], []⟩)]) Try.func23 rfl (by kernel_rfl) (by kernel_rfl) fun w0 hlens => ?_
  clear hlens
  by_cases hl : xs.length = ys.length
  · simp (config := {contextual := true}) [Try.f23, List.range, List.range.loop, ints, intss, int, bool, row, frac, fracs, ← List.map_take, ← List.map_drop, tks, hl]
    refine awp_range (live := [true, true, false, false, true, true, false, false, false, false, true, false, false, false, true, false, false, false, false, false, false, false, false, false, false, false, true]) (ctx_ok eqOk hG) mixed [true, true, false, false, false, true] (ys.length) (fun k => (xs.take k).map vT = (ys.take k).map vT) (fun k => ⟨[tks nl xs, tks nl' ys, .junk, .junk, .junk, int k, .junk, .junk, .junk, .junk, .junk, .junk, .junk, .junk, .junk, .junk, .junk, .junk, .junk, .junk, .junk, .junk, .junk, .junk, .junk, .junk, .junk], []⟩) ?_ (by simp [sub, slotsLe, clean, keep, refsL, refs, once, place, renL, ren, List.replicate, int, bool, tks]) ?_ ?_ ?_
    · omega
    · simp
    · intro k hk he hwk
      have hk' : k < xs.length := by omega
      have hz := mEqT_at xs[k].1.1 xs[k].1.2 ys[k].1.1 ys[k].1.2 xs[k].2.1 ys[k].2.1 xs[k].2.2 ys[k].2.2 (hpr _ (List.getElem_mem _)) (hpr' _ (List.getElem_mem _))
      rw [show ((xs[k].1.1, xs[k].1.2) : Int × Int) = xs[k].1 from rfl, show ((ys[k].1.1, ys[k].1.2) : Int × Int) = ys[k].1 from rfl] at hz
      by_cases hx : xs[k].1 = ys[k].1 ∧ xs[k].2.2 = ys[k].2.2
      · rw [decide_eq_true hx] at hz
        have hn := take_eq_vT hk' hk he (by simp [vT, hx])
        simp (config := {contextual := true}) [List.range, List.range.loop, ints, intss, int, bool, row, frac, fracs, ← List.map_take, ← List.map_drop, tks, tick, hk, hk', hwk, hz]
        exact hn
      · rw [decide_eq_false hx] at hz
        have hr' : r = false := by
          rw [← hr]
          refine decide_eq_false fun e => hx ?_
          have e2 := congrArg (fun l => l[k]?) e
          simpa [hk, hk', vT] using e2
        subst hr'
        simp (config := {contextual := true}) [List.range, List.range.loop, ints, intss, int, bool, row, frac, fracs, ← List.map_take, ← List.map_drop, tks, tick, hk, hk', hwk, hz]
        done
    · intro he
      have hr' : r = true := by
        rw [← hr]
        refine decide_eq_true ?_
        rwa [List.take_of_length_le (by omega), List.take_of_length_le (by omega)] at he
      subst hr'
      simp (config := {contextual := true}) [List.range, List.range.loop, ints, intss, int, bool, row, frac, fracs, ← List.map_take, ← List.map_drop, tks, hl]
      done
  · have hl' : ¬ (xs.length : Int) = ys.length := by omega
    have hr' : r = false := by
      rw [← hr]
      refine decide_eq_false fun e => hl ?_
      have := congrArg List.length e
      simpa using this
    subst hr'
    simp (config := {contextual := true}) [Try.f23, List.range, List.range.loop, ints, intss, int, bool, row, frac, fracs, ← List.map_take, ← List.map_drop, tks, hl, hl']

end Go.Proofs.Ytkfgmpmeipilnaa.Ax

/-
  What this seat's laws are handed: lists of tickets. No condition.
-/
namespace Go.Proofs.Ytkfgmpmeipilnaa.Ax
open Go Go.RowKit

theorem DatE.parts {P : Program} {t : TypeId} {a : AV} {f0 f1 : Field} (h : DatE P t a) (hu : P.underlying t = some (.struct #[f0, f1])) : ∃ l0 l1, a = .agg (l0 ++ l1) ∧ Dat P f0.type l0 ∧ Dat P f1.type l1 := by
  obtain ⟨g1, g2⟩ := h
  have hs : structB P t = true := by simp [structB, hu]
  rw [hs] at g1
  cases a with
  | agg al =>
    simp only [AV.cells] at g2
    generalize has : al = al' at g2
    cases g2 with
    | @struct _ fs pss hu' hl hf =>
      rw [hu] at hu'; simp only [Option.some.injEq, TypeDesc.struct.injEq] at hu'; subst hu'
      match pss, hl with
      | [p0, p1], _ =>
        exact ⟨p0, p1, by simp, hf 0 f0 p0 rfl rfl, hf 1 f1 p1 rfl rfl⟩
    | _ => simp_all
  | _ => simp [AV.isAgg] at g1

theorem datTick {a : AV} (h : DatE Try.prog 66 a) : ∃ p : Tk, a = tick p ∧ p.2.2.length ≤ maxLen := by
  obtain ⟨l0, l1, rfl, h0, h1⟩ := h.parts Try.underlying66
  have k0 : DatE Try.prog 64 (.agg l0) := ⟨by simp [AV.isAgg, structB, Try.underlying64], by simpa [AV.cells] using h0⟩
  obtain ⟨w, e0, _, _⟩ := k0.two Try.underlying64 Try.underlying3 Try.underlying3
  obtain ⟨x, rfl, hx, _⟩ := h1.one (by simp [structB, Try.underlying52])
  have k1 : DatE Try.prog 52 x := ⟨by simp [hx, structB, Try.underlying52], by rw [cells_one hx]; exact h1⟩
  obtain ⟨nl, xs, rfl, hl, _⟩ := datInts k1
  simp only [AV.agg.injEq] at e0
  subst e0
  exact ⟨(w, nl, xs), by simp [tick, int, ints], hl⟩

theorem datTks {a : AV} (h : DatE Try.prog 32 a) : ∃ nl ts, a = tks nl ts ∧ ts.length ≤ maxLen ∧ ∀ x ∈ ts, x.2.2.length ≤ maxLen := by
  obtain ⟨nl, es, rfl, hl, hes⟩ := h.slice Try.underlying32
  obtain ⟨xs, rfl, hx⟩ := list_of (f := tick) (Q := fun x => x.2.2.length ≤ maxLen) (fun x hx => datTick (hes x hx))
  exact ⟨nl, xs, by rw [show Try.prog.cellsOf 66 = 3 from by kernel_rfl]; rfl, by simpa using hl, hx⟩

end Go.Proofs.Ytkfgmpmeipilnaa.Ax

/-
  Contracts: marks on lists of lists of fractions, and whether they stand. No condition.
-/
namespace Go.Proofs.Ytkfgmpmeipilnaa.Ax
open Go Go.RowKit
set_option linter.unusedSimpArgs false

/-- Rows of which the first i are marked. -/
def mkRowF (k : Int) (xss : List (Bool × List (Int × Int))) (j : Nat) : Bool × List (Int × Int) := ((xss.getD j (true, [])).1, mkdF (k + 2 * (rowSumF xss j : Int)) (xss.getD j (true, [])).2.length)
def mkRTF (k : Int) (xss : List (Bool × List (Int × Int))) (i : Nat) : List (Bool × List (Int × Int)) := (List.range xss.length).map fun j => if j < i then mkRowF k xss j else xss.getD j (true, [])
def mkRSF (k : Int) (xss : List (Bool × List (Int × Int))) : List (Bool × List (Int × Int)) := (List.range xss.length).map (mkRowF k xss)
theorem mkRTF_len {k : Int} {xss : List (Bool × List (Int × Int))} {i : Nat} : (mkRTF k xss i).length = xss.length := by simp [mkRTF]
theorem mkRSF_len {k : Int} {xss : List (Bool × List (Int × Int))} : (mkRSF k xss).length = xss.length := by simp [mkRSF]
theorem mkRSF_take {k : Int} {xss : List (Bool × List (Int × Int))} : (mkRSF k xss).take xss.length = mkRSF k xss := List.take_of_length_le (by simp [mkRSF_len])
theorem mkRTF_zero {k : Int} {xss : List (Bool × List (Int × Int))} : mkRTF k xss 0 = xss := by
  apply List.ext_getElem
  · simp [mkRTF]
  · intro i h1 h2
    simp only [mkRTF, List.getElem_map, List.getElem_range, Nat.not_lt_zero, if_false, getDF h2]
theorem mkRTF_all {k : Int} {xss : List (Bool × List (Int × Int))} : mkRTF k xss xss.length = mkRSF k xss := by
  apply List.ext_getElem
  · simp [mkRTF, mkRSF]
  · intro i h1 h2
    have h3 : i < xss.length := by simpa [mkRSF] using h2
    simp [mkRTF, mkRSF, h3]
theorem mkRTF_at {k : Int} {xss : List (Bool × List (Int × Int))} {i : Nat} (h : i < xss.length) (h' : i < (mkRTF k xss i).length) : (mkRTF k xss i)[i] = xss[i] := by
  simp only [mkRTF, List.getElem_map, List.getElem_range, Nat.lt_irrefl, if_false, getDF h]
theorem mkRSF_at {k : Int} {xss : List (Bool × List (Int × Int))} {i : Nat} (h : i < xss.length) (h' : i < (mkRSF k xss).length) : (mkRSF k xss)[i] = (xss[i].1, mkdF (k + 2 * (rowSumF xss i : Int)) xss[i].2.length) := by
  simp only [mkRSF, List.getElem_map, List.getElem_range, mkRowF, getDF h]
theorem mkRTF_set {k : Int} {xss : List (Bool × List (Int × Int))} {i : Nat} (h : i < xss.length) : ((mkRTF k xss i).map frow).set i (.sl xss[i].1 2 ((mkdF (k + 2 * (rowSumF xss i : Int)) xss[i].2.length).map frac)) = (mkRTF k xss (i + 1)).map frow := by
  have : (AV.sl xss[i].1 2 ((mkdF (k + 2 * (rowSumF xss i : Int)) xss[i].2.length).map frac)) = frow (mkRowF k xss i) := by simp only [frow, mkRowF, getDF h]
  rw [this, ← List.map_set]
  congr 1
  apply List.ext_getElem
  · simp [mkRTF]
  · intro j h1 h2
    rw [List.getElem_set]
    simp only [mkRTF, List.getElem_map, List.getElem_range]
    by_cases e : i = j
    · subst e; simp
    · rw [if_neg e]
      by_cases h3 : j < i
      · rw [if_pos h3, if_pos (by omega)]
      · rw [if_neg h3, if_neg (by omega)]

theorem needF_own {xss : List (Bool × List (Int × Int))} : needF (ownF xss) = needF xss := by
  unfold needF rowSumF ownF; simp [← List.map_take, Function.comp_def]

noncomputable def mMarkFF : List AV → Option (Nat × AV × AV) := mkM (fun (p : Bool × List (Bool × List (Int × Int)) × Int) => 0 ≤ p.2.2 ∧ p.2.2 + 2 * needF p.2.1 ≤ 2 ^ 61) (fun p => [fracss p.1 p.2.1, int p.2.2]) (fun p => (0, int (p.2.2 + 2 * (rowSumF p.2.1 p.2.1.length : Int)), fracss p.1 (mkRSF p.2.2 p.2.1)))
theorem mMarkFF_at (nl : Bool) (xss : List (Bool × List (Int × Int))) (k : Int) (h : 0 ≤ k ∧ k + 2 * needF xss ≤ 2 ^ 61) : mMarkFF [.sl nl 1 (xss.map frow), .v (.int .i64 k)] = some (0, .v (.int .i64 (k + 2 * (rowSumF xss xss.length : Int))), .sl nl 1 ((mkRSF k xss).map frow)) :=
  mkM_eq (enc := fun (p : Bool × List (Bool × List (Int × Int)) × Int) => [fracss p.1 p.2.1, int p.2.2]) (x := (nl, xss, k)) (by rintro ⟨a, b, c⟩ ⟨d, e, f⟩ h; simp [fracss, int, map_frow_inj] at h; simp [h]) h

set_option maxHeartbeats 2000000 in
theorem markFractionSS_ok : FnMut Try.prog 17 mMarkFF := by
  refine mkM_ok fun ⟨nl, xss, k⟩ ⟨hk0, hk⟩ => ?_
  simp only at hk0 hk
  simp only [needF] at hk
  have hG : FnsOk Try.prog [] := .nil
  have hM : FnsMut Try.prog [(30, mMarkF)] := (.cons markFractionS_ok .nil)
  refine mutOk_awp (ctxM_ok eqOk hG hM) mixed (live := [true, true, false, false, true, true, false, false, false, true]) (dt := []) (pos := 0) rfl Try.func17 rfl (by kernel_rfl) (by kernel_rfl) fun US Uv w0 hlens => ?_
  simp [Try.f17, List.range, List.range.loop, ints, intss, int, bool, row, frac, fracs, ← List.map_take, ← List.map_drop, fracss, frow, ctxM]
  refine awp_range (live := [true, true, false, false, true, true, false, false, false, true]) (ctxM_ok eqOk hG hM) mixed [true, true, false, false, false, true] (xss.length) (fun i => True) (fun i => ⟨[.ref 0 [] 0 xss.length, int (k + 2 * (rowSumF xss i : Int)), .junk, .junk, .junk, int i, .junk, .junk, .junk, .junk, .junk, .junk, .junk, .junk, .junk, .junk, .junk, .junk, .junk], [⟨true, .sl nl 1 ((mkRTF k xss i).map frow)⟩]⟩) ?_ (by simp [sub, slotsLe, clean, keep, refsL, refs, once, place, renL, ren, List.replicate, int, bool, mkRTF_zero, rowSumF_zero]) ?_ ?_ ?_
  · omega
  · trivial
  · intro i h _ hw
    have hs := mkRTF_set (k := k) h
    have h1 := rowSumF_succ h
    have h2 := rowSumF_mono (xss := xss) (show i + 1 ≤ xss.length from h)
    have hz := mMarkF_at xss[i].1 xss[i].2 (k + 2 * (rowSumF xss i : Int)) ⟨by omega, by omega⟩
    have e : k + 2 * (rowSumF xss i : Int) + 2 * (xss[i].2.length : Int) = k + 2 * (rowSumF xss (i + 1) : Int) := by omega
    simp (config := {contextual := true}) [List.range, List.range.loop, ints, intss, int, bool, row, frac, fracs, ← List.map_take, ← List.map_drop, fracss, frow, List.eraseIdx, h, hw, mkRTF_len, mkRTF_at, hz, mkdF_len, hs, e]
  · intro _
    simp (config := {contextual := true}) [List.range, List.range.loop, ints, intss, int, bool, row, frac, fracs, ← List.map_take, ← List.map_drop, fracss, frow, List.eraseIdx, mkRTF_len, mkRTF_all, mkRSF_len]

noncomputable def mHeldFF : List AV → Option AV := mk (fun (p : Bool × List (Bool × List (Int × Int)) × Int) => 0 ≤ p.2.2 ∧ p.2.2 + 2 * needF p.2.1 ≤ 2 ^ 61) (fun p => [fracss p.1 (mkRSF p.2.2 p.2.1), int p.2.2]) (fun p => int (p.2.2 + 2 * (((mkRSF p.2.2 p.2.1).map (·.2.length)).sum : Nat)))
theorem mkRSF_sum {k : Int} {xss : List (Bool × List (Int × Int))} : ((mkRSF k xss).map (·.2.length)).sum = rowSumF xss xss.length := by
  have : (mkRSF k xss).map (·.2.length) = xss.map (·.2.length) := by
    apply List.ext_getElem
    · simp [mkRSF]
    · intro i h1 h2
      have h3 : i < xss.length := by simpa using h2
      rw [List.getElem_map, List.getElem_map, mkRSF_at h3]; simp [mkdF_len]
  rw [this]; simp [rowSumF]
theorem mHeldFF_at (nl : Bool) (xss : List (Bool × List (Int × Int))) (k : Int) (h : 0 ≤ k ∧ k + 2 * needF xss ≤ 2 ^ 61) : mHeldFF [.sl nl 1 ((mkRSF k xss).map frow), .v (.int .i64 k)] = some (.v (.int .i64 (k + 2 * (rowSumF xss xss.length : Int)))) := by
  refine (mk_eq (enc := fun p : Bool × List (Bool × List (Int × Int)) × Int => [fracss p.1 (mkRSF p.2.2 p.2.1), int p.2.2]) (x := (nl, xss, k)) (by
    rintro ⟨a, b, c⟩ ⟨d, e, f⟩ h
    simp [fracss, int, map_frow_inj] at h
    obtain ⟨⟨_, h1⟩, rfl⟩ := h
    simp only [h1]) h).trans ?_
  simp only [int, mkRSF_sum]

set_option maxHeartbeats 2000000 in
theorem heldFractionSS_ok : FnOk Try.prog 18 mHeldFF := by
  refine mk_ok fun ⟨nl, xss, k⟩ ⟨hk0, hk⟩ => ?_
  simp only at hk0 hk
  simp only [needF] at hk
  simp only [mkRSF_sum]
  have hG : FnsOk Try.prog [(31, mHeldF)] := (.cons heldFractionS_ok .nil)
  refine callOk_awp (ctx_ok eqOk hG) mixed (live := [true, true, false, false, true, true, false, false, false, true, false, false, false, false, false, false, false, false, false, true]) (dt := []) Try.func18 rfl (by kernel_rfl) (by kernel_rfl) fun w0 hlens => ?_
  clear hlens
  simp [Try.f18, List.range, List.range.loop, ints, intss, int, bool, row, frac, fracs, ← List.map_take, ← List.map_drop, fracss, frow]
  refine awp_range (live := [true, true, false, false, true, true, false, false, false, true, false, false, false, false, false, false, false, false, false, true]) (ctx_ok eqOk hG) mixed [true, true, false, false, false, true] (xss.length) (fun i => True) (fun i => ⟨[fracss nl (mkRSF k xss), int (k + 2 * (rowSumF xss i : Int)), .junk, .junk, .junk, int i, .junk, .junk, .junk, .junk, .junk, .junk, .junk, .junk, .junk, .junk, .junk, .junk, .junk, .junk, .junk], []⟩) ?_ (by simp [sub, slotsLe, clean, keep, refsL, refs, once, place, renL, ren, List.replicate, int, bool, fracss, rowSumF_zero]) ?_ ?_ ?_
  · omega
  · trivial
  · intro i h _ hw
    have h1 := rowSumF_succ h
    have h2 := rowSumF_mono (xss := xss) (show i + 1 ≤ xss.length from h)
    have hz := mHeldF_at xss[i].1 xss[i].2.length (k + 2 * (rowSumF xss i : Int)) ⟨by omega, by omega⟩
    have e : k + 2 * (rowSumF xss i : Int) + 2 * (xss[i].2.length : Int) = k + 2 * (rowSumF xss (i + 1) : Int) := by omega
    have hn : ¬ (k + 2 * (rowSumF xss (i + 1) : Int) < 0) := by omega
    simp (config := {contextual := true}) [List.range, List.range.loop, ints, intss, int, bool, row, frac, fracs, ← List.map_take, ← List.map_drop, fracss, frow, h, hw, mkRSF_len, mkRSF_at, hz, e, hn]
  · intro _
    simp (config := {contextual := true}) [List.range, List.range.loop, ints, intss, int, bool, row, frac, fracs, ← List.map_take, ← List.map_drop, fracss, frow, mkRSF_len]

end Go.Proofs.Ytkfgmpmeipilnaa.Ax

/-
  Contracts: HousesOk (both programs). No condition.
-/
namespace Go.Proofs.Ytkfgmpmeipilnaa.Ax
open Go Go.RowKit
set_option linter.unusedSimpArgs false

def ranksB (m : Int) (xss : List (Bool × List Int)) : Bool := xss.all fun r => rankB m r.2
noncomputable def mAreR : List AV → Option AV := mk (fun _ => True) (fun (p : (Int) × (Bool) × (List (Bool × List Int))) => [int p.1, intss p.2.1 p.2.2]) (fun p => bool (ranksB p.1 p.2.2))
theorem mAreR_at (m : Int) (nl : Bool) (xss : List (Bool × List Int)) : mAreR [.v (.int .i64 m), .sl nl 1 (xss.map row)] = some (.v (.bool (ranksB m xss))) :=
  mk_eq (enc := fun (p : (Int) × (Bool) × (List (Bool × List Int))) => [int p.1, intss p.2.1 p.2.2]) (x := (m, nl, xss)) (by rintro ⟨a0, a1, a2⟩ ⟨b0, b1, b2⟩ h; simp [ints, intss, int, bool, row, frac, fracs, map_int_inj, map_row_inj, frac_inj, map_frac_inj] at h; simp [h]) trivial
noncomputable def mL17 : List AV → Option AV := mk (fun _ => True) (fun (p : (Bool) × (List (Bool × List Int)) × (Int)) => [intss p.1 p.2.1, int p.2.2]) (fun p => bool (decide ((p.2.1.length : Int) = p.2.2) && ranksB p.2.2 p.2.1))
theorem mL17_at (nl : Bool) (xss : List (Bool × List Int)) (m : Int) : mL17 [.sl nl 1 (xss.map row), .v (.int .i64 m)] = some (.v (.bool (decide ((xss.length : Int) = m) && ranksB m xss))) :=
  mk_eq (enc := fun (p : (Bool) × (List (Bool × List Int)) × (Int)) => [intss p.1 p.2.1, int p.2.2]) (x := (nl, xss, m)) (by rintro ⟨a0, a1, a2⟩ ⟨b0, b1, b2⟩ h; simp [ints, intss, int, bool, row, frac, fracs, map_int_inj, map_row_inj, frac_inj, map_frac_inj] at h; simp [h]) trivial

theorem areRankings1 (m : Int) (r : Bool × List Int) : CallOk Try.prog 138 [row r, .fp (int m) 0] (.v (.bool (!rankB m r.2))) := by
  have hG : FnsOk Try.prog [(62, mRank)] := (.cons implRankingOk_ok .nil)
  refine callOk_awp (ctx_ok eqOk hG) mixed (live := [true, true, false, true]) (dt := []) Try.func138 rfl (by kernel_rfl) (by kernel_rfl) fun w0 hlens => ?_
  simp (config := {contextual := true}) [Try.f138, List.range, List.range.loop, ints, intss, int, bool, row, frac, fracs, ← List.map_take, ← List.map_drop, mRank_at]

set_option maxHeartbeats 1000000 in
theorem areRankings_ok : FnOk Try.prog 102 mAreR := by
  refine mk_ok fun ⟨m, nl, xss⟩ _ => ?_
  obtain ⟨mm, hm, hma⟩ := as_model (containsIntss (g := 138) (pure_fp (a := int m) (j := 0) pure_nil) (fun r => !rankB m r.2) nl xss (fun x _ => areRankings1 m x))
  simp only [intss, int, bool] at hma
  have hnn := not_any_not (p := fun r : Bool × List Int => rankB m r.2) (xs := xss)
  have hs : ranksB m xss = !(xss.any fun r => !rankB m r.2) := by unfold ranksB; rw [← hnn]
  rw [hs]
  generalize xss.any (fun r => !rankB m r.2) = bb at hma hnn
  have hG : FnsOk Try.prog [(137, mm)] := (.cons hm .nil)
  refine callOk_awp (ctx_ok eqOk hG) mixed (live := [true, true, true, false, true]) (dt := []) Try.func102 rfl (by kernel_rfl) (by kernel_rfl) fun w0 hlens => ?_
  simp (config := {contextual := true}) [Try.f102, List.range, List.range.loop, ints, intss, int, bool, row, frac, fracs, ← List.map_take, ← List.map_drop, hma]

def ranksAt (m : Int) (xss : List (Bool × List Int)) (k : Nat) : Bool := rankB m (xss.getD k (true, [])).2
theorem ranksAt_at {m : Int} {xss : List (Bool × List Int)} {k : Nat} (h : k < xss.length) : ranksAt m xss k = rankB m xss[k].2 := by unfold ranksAt; simp [List.getD_eq_getElem?_getD, h]
theorem ranks_allR {m : Int} {xss : List (Bool × List Int)} : ranksB m xss = allR xss.length (ranksAt m xss) := by
  unfold ranksB allR
  rw [Bool.eq_iff_iff]; simp only [List.all_eq_true, List.mem_range]
  constructor
  · intro h i hi
    rw [ranksAt_at hi]; exact h _ (List.getElem_mem _)
  · intro h x hx
    obtain ⟨i, hi, rfl⟩ := List.getElem_of_mem hx
    have := h i hi
    rwa [ranksAt_at hi] at this

set_option maxHeartbeats 2000000 in
theorem l17Lists_ok : FnOk Try.prog 98 mL17 := by
  refine mk_ok fun ⟨nl, xss, m⟩ _ => ?_
  have hG : FnsOk Try.prog [(57, mRank)] := (.cons specRankingOk_ok .nil)
  refine callOk_awp (ctx_ok eqOk hG) mixed (live := [true, true, false, false, true, false, true, false, false, false, true, true, true, true, true, false, false, false, false, false, true]) (dt := []) Try.func98 rfl (by kernel_rfl) (by kernel_rfl) fun w0 hlens => ?_
  have hll := (lens_intss.1 hlens.1).1.1
  clear hlens
  by_cases h1 : (xss.length : Int) = m
  rotate_left
  · have h1' : ((xss.length : Int) != m) = true := by simpa using h1
    simp (config := {contextual := true}) [Try.f98, List.range, List.range.loop, ints, intss, int, bool, row, frac, fracs, ← List.map_take, ← List.map_drop, h1, h1']
  have hm : (decide ((xss.length : Int) = m) && ranksB m xss) = allR xss.length (ranksAt m xss) := by simp [h1, ranks_allR]
  generalize (decide ((xss.length : Int) = m) && ranksB m xss) = r at *
  simp (config := {contextual := true}) [Try.f98, List.range, List.range.loop, ints, intss, int, bool, row, frac, fracs, ← List.map_take, ← List.map_drop, h1]
  refine awp_range (live := [true, true, false, false, true, false, true, false, false, false, true, true, true, true, true, false, false, false, false, false, true]) (ctx_ok eqOk hG) mixed [false, true, false, false, false, false, false, false, false, false, false, true, true, true] (xss.length) (fun k => upto (ranksAt m xss) k) (fun k => ⟨[.junk, int m, .junk, .junk, .junk, .junk, .junk, .junk, .junk, .junk, .junk, intss nl xss, int xss.length, int k, .junk, .junk, .junk, .junk, .junk, .junk, .junk, .junk], []⟩) ?_ (by simp [sub, slotsLe, clean, keep, refsL, refs, once, place, renL, ren, List.replicate, int, bool, intss, h1]) ?_ ?_ ?_
  · exact hll
  · exact upto_zero
  · intro k h hp hwk
    have hf : ranksAt m xss k = false → r = false := fun hf => by rw [hm, allR_no h hf]
    have ht := upto_succ hp
    rw [ranksAt_at h] at hf ht
    cases hi : rankB m xss[k].2 with
    | false => rw [hf hi]; simp (config := {contextual := true}) [List.range, List.range.loop, ints, intss, int, bool, row, frac, fracs, ← List.map_take, ← List.map_drop, h, hwk, mRank_at, hi]
    | true => simp (config := {contextual := true}) [List.range, List.range.loop, ints, intss, int, bool, row, frac, fracs, ← List.map_take, ← List.map_drop, h, hwk, mRank_at, hi, ht hi]
  · intro hp
    rw [allR_yes hp] at hm
    subst hm
    simp (config := {contextual := true}) [List.range, List.range.loop, ints, intss, int, bool, row, frac, fracs, ← List.map_take, ← List.map_drop]

def housesB (xss : List (Bool × List Int)) : Bool := inR 1 5 xss.length && ranksB xss.length xss
noncomputable def mHouses : List AV → Option AV := mk (fun _ => True) (fun (p : (Bool) × (List (Bool × List Int))) => [intss p.1 p.2]) (fun p => bool (housesB p.2))
theorem mHouses_at (nl : Bool) (xss : List (Bool × List Int)) : mHouses [.sl nl 1 (xss.map row)] = some (.v (.bool (housesB xss))) :=
  mk_eq (enc := fun (p : (Bool) × (List (Bool × List Int))) => [intss p.1 p.2]) (x := (nl, xss)) (by rintro ⟨a0, a1⟩ ⟨b0, b1⟩ h; simp [ints, intss, int, bool, row, frac, fracs, map_int_inj, map_row_inj, frac_inj, map_frac_inj] at h; simp [h]) trivial
set_option maxHeartbeats 1000000 in
theorem implHouses_ok : FnOk Try.prog 51 mHouses := by
  refine mk_ok fun ⟨nl, xss⟩ _ => ?_
  have hG : FnsOk Try.prog [(61, mWithin), (102, mAreR)] := (.cons within_ok (.cons areRankings_ok .nil))
  refine callOk_awp (ctx_ok eqOk hG) mixed (live := [true, false, true]) (dt := []) Try.func51 rfl (by kernel_rfl) (by kernel_rfl) fun w0 hlens => ?_
  cases h1 : inR 1 5 xss.length <;> simp (config := {contextual := true}) [Try.f51, List.range, List.range.loop, ints, intss, int, bool, row, frac, fracs, ← List.map_take, ← List.map_drop, mWithin_in, mAreR_at, mL17_at, h1, housesB]

set_option maxHeartbeats 1000000 in
theorem specHouses_ok : FnOk Try.prog 43 mHouses := by
  refine mk_ok fun ⟨nl, xss⟩ _ => ?_
  have hG : FnsOk Try.prog [(56, mWithin), (98, mL17)] := (.cons l01In_ok (.cons l17Lists_ok .nil))
  refine callOk_awp (ctx_ok eqOk hG) mixed (live := [true, false, true]) (dt := []) Try.func43 rfl (by kernel_rfl) (by kernel_rfl) fun w0 hlens => ?_
  cases h1 : inR 1 5 xss.length <;> simp (config := {contextual := true}) [Try.f43, List.range, List.range.loop, ints, intss, int, bool, row, frac, fracs, ← List.map_take, ← List.map_drop, mWithin_in, mAreR_at, mL17_at, h1, housesB]

end Go.Proofs.Ytkfgmpmeipilnaa.Ax
