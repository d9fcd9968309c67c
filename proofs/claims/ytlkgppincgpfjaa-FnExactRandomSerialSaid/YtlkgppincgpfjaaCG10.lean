/-
  Contracts: the closure that strikes who has been chosen, SerialChoice (both programs). No condition.
-/
import Derived.Test.YtlkgppincgpfjaaCG1
import Derived.Test.YtlkgppincgpfjaaCG9
import Derived.Test.YtlkgppincgpfjaaCG7
import Derived.Test.YtlkgppincgpfjaaCG8
import Derived.Test.YtlkgppincgpfjaaCG4
import Derived.Test.YtlkgppincgpfjaaCB2
import Derived.Test.YtlkgppincgpfjaaCG3
namespace Go.Proofs.Ytlkgppincgpfjaa.Ax
open Go Go.RowKit
set_option linter.unusedSimpArgs false

def capS (out : List Int) (i : Nat) : List AV := [.fp (ints false out) 0, .fp (int i) 0]

theorem serial1_says {out : List Int} {i : Nat} (hi : i < out.length) : SaysOf 58 (capS out i) (fun x => decide (x = out[i])) := by
  intro w F cv x hF hcv
  simp only [capS, RepL, Rep, ints, int] at hcv
  obtain ⟨y1, ys1, e1, ⟨b1, o1, z1, rfl, ⟨a, len, cap, rfl, hl, _, _, hrow⟩, hF1, hat1, hz1⟩, y2, ys2, rfl, ⟨b2, o2, z2, rfl, ⟨rfl, _⟩, hF2, hat2, hz2⟩, rfl⟩ := hcv
  have hcv : cv = #[.pointer (some ⟨b1, o1 + 0, none⟩), .pointer (some ⟨b2, o2 + 0, none⟩)] := by
    apply Array.ext'
    rw [e1]
  subst hcv
  have hc1 : w.cell? ⟨b1, o1 + 0, none⟩ = some (.slice a len cap) := hat1 0 _ (by simp [Value.cells])
  have hc2 : w.cell? ⟨b2, o2 + 0, none⟩ = some (.int .i64 i) := hat2 0 _ (by simp [Value.cells])
  have hlen : len = out.length := by simpa using hl
  rcases hrow with ⟨_, h, _⟩ | ⟨b, o, rfl, _, hrow⟩ | ⟨_, _, h⟩
  · simp at h
  · obtain ⟨z, h1, _, _, hFb, h4⟩ := RepRow.get hrow i (int out[i]) (by rw [List.getElem?_map, List.getElem?_eq_getElem hi]; rfl)
    simp only [Rep, int] at h1
    obtain ⟨rfl, _⟩ := h1
    have hc3 : w.cell? ⟨b, o + i, none⟩ = some (.int .i64 out[i]) := by simpa using h4 0 (.int .i64 out[i]) (by simp [Value.cells])
    generalize out[i] = v at hc3 ⊢
    subst hlen
    have hilt : (i : Int) < (out.length : Int) := by omega
    simp only [Nat.add_zero] at hc1 hc2 ⊢
    clear hat1 hat2 h4 hrow hl hz1 hz2 hF1 hF2 hFb e1 hF
    unfold FnGives
    show Calls Try.prog 58 #[.int .i64 x, .pointer (some ⟨b1, o1, none⟩), .pointer (some ⟨b2, o2, none⟩)] w _
    go_enter Try.func58, Try.ntmps58
    go_wp2
    all_goals (go_ret; exact ⟨rfl, 0, rfl⟩)
  · have : out = [] := by simpa using h
    subst this; simp at hi

noncomputable def mDelS : List AV → Option (List Nat × AV) := mkV (fun p => p.2.2 < p.2.1.length) (fun (p : List Int × List Int × Nat) => [ints false p.1, .fn 58 (capS p.2.1 p.2.2)]) [0] (fun p => ints false (p.1.filter fun x => !decide (x = p.2.1.getD p.2.2 0)))
theorem mDelS_at (xs out : List Int) (i : Nat) (h : i < out.length) : mDelS [.sl false 1 (xs.map int), .fn 58 [.fp (.sl false 1 (out.map int)) 0, .fp (.v (.int .i64 (i : Int))) 0]] = some ([0], .sl false 1 ((xs.filter fun x => !decide (x = out[i])).map int)) := by
  have := mkV_eq (pre := fun p => p.2.2 < p.2.1.length) (enc := fun (p : List Int × List Int × Nat) => [ints false p.1, .fn 58 (capS p.2.1 p.2.2)]) (mv := [0]) (f := fun p => ints false (p.1.filter fun x => !decide (x = p.2.1.getD p.2.2 0))) (x := (xs, out, i)) (by
    rintro ⟨a, b, c⟩ ⟨d, e, f⟩ h
    simp [ints, capS, int, map_int_inj] at h
    obtain ⟨rfl, rfl, h⟩ := h
    simp only
    rw [show c = f by omega]) h
  simpa [mDelS, ints, capS, int, List.getD_eq_getElem?_getD, h] using this
theorem delS_ok : FnMov Try.prog 57 mDelS := by
  refine mkV_ok fun ⟨xs, out, i⟩ h => ?_
  simp only at h
  have e : out.getD i 0 = out[i] := by simp [List.getD_eq_getElem?_getD, h]
  have := delF_ok (g := 58) (caps := capS out i) (fun x => decide (x = out[i])) (enters_of Try.func58 (by kernel_rfl) rfl) (serial1_says h) xs
  simp only [e]
  exact this

noncomputable def mSer : List AV → Option AV := mk (fun p => housesB p.2.1 = true ∧ p.2.1.length ≠ 5 ∧ rankB p.2.1.length p.2.2.2 = true) (fun (p : (Bool) × (List (Bool × List Int)) × (Bool) × (List Int)) => [intss p.1 p.2.1, ints p.2.2.1 p.2.2.2]) (fun p => .sl false 1 ((scT p.2.1 p.2.2.2 p.2.2.2.length).2.map int))
theorem mSer_at (nl : Bool) (xss : List (Bool × List Int)) (nl1 : Bool) (ord : List Int) (hpre : housesB xss = true ∧ xss.length ≠ 5 ∧ rankB xss.length ord = true) : mSer [.sl nl 1 (xss.map row), .sl nl1 1 (ord.map int)] = some (.sl false 1 ((scT xss ord ord.length).2.map int)) :=
  mk_eq (enc := fun (p : (Bool) × (List (Bool × List Int)) × (Bool) × (List Int)) => [intss p.1 p.2.1, ints p.2.2.1 p.2.2.2]) (x := (nl, xss, nl1, ord)) (by rintro ⟨a0, a1, a2, a3⟩ ⟨b0, b1, b2, b3⟩ h; simp [ints, intss, int, bool, row, frac, fracs, map_int_inj, map_row_inj, frac_inj, map_frac_inj] at h; simp [h]) hpre

set_option maxRecDepth 16000 in
set_option maxHeartbeats 4000000 in
theorem implSerial_ok : FnOk Try.prog 28 mSer := by
  refine mk_ok fun ⟨nl, xss, nl1, ord⟩ hp => ?_
  obtain ⟨hh, h5, hr⟩ := hp
  simp only at hh h5 hr
  have h := hs_of hh h5
  have hn4 := h.n4
  have hn1 := h.n1
  obtain ⟨_, _, hol, hob, _⟩ := rank_facts hr
  have hid := mIdx_at xss.length (by omega)
  have hil : (idx xss.length).length = xss.length := by simp [idx]
  have hb : 8 * xss.length ≤ 281474976710656 ∧ xss.length ≤ 4611686018427387904 ∧ xss.length ≤ 281474976710656 := by omega
  have hz0 : List.replicate xss.length (AV.v (.int .i64 0)) = (scT xss ord 0).2.map int := by simp [scT, int]
  have hz1 : idx xss.length = lq (scT xss ord 0).1 := by rw [show (scT xss ord 0).1 = List.replicate xss.length true from rfl, lq_all]
  have hz2 : (lq (scT xss ord 0).1).length = xss.length := by rw [← hz1]; exact hil
  have hz3 : (scT xss ord 0).2.length = xss.length := by simp [scT]
  rw [hz1] at hid
  have hG : FnsOk Try.prog [(25, mHouses), (55, mRank), (36, mIdx), (56, mFstL)] := (.cons implHouses_ok (.cons implRankingOk_ok (.cons indices_ok (.cons firstOfLeft_ok .nil))))
  have hM : FnsMut Try.prog [] := .nil
  have hV : FnsMov Try.prog [(57, mDelS)] := (.cons delS_ok .nil)
  refine callOk_awp (ctxV_ok eqOk hG hM hV) mixed (live := [true, true, false, false, true, true, true, false, true, false, false, false, false, false, false, false, false, false, true, false, false, false, false, false, false, true, true, true, true]) (dt := [(8, ⟨[], [], []⟩)]) Try.func28 rfl (by kernel_rfl) (by kernel_rfl) fun w0 hlens => ?_
  clear hlens
  simp (config := {contextual := true}) [Try.f28, List.range, List.range.loop, ints, intss, int, bool, row, frac, fracs, ← List.map_take, ← List.map_drop, List.all, mHouses_at, mRank_at, hh, hr, hid, hb, hz0, hz2, hz3]
  refine awp_range (live := [true, true, false, false, true, true, true, false, true, false, false, false, false, false, false, false, false, false, true, false, false, false, false, false, false, true, true, true, true]) (ctxV_ok eqOk hG hM hV) mixed [true, false, false, false, false, true, true, false, false, false, false, false, false, false, false, false, false, false, false, false, false, false, false, false, false, true, true, true] (ord.length) (fun k => True) (fun k => ⟨[intss nl xss, .junk, .junk, .junk, .junk, .ptr 0 [] 0 0, .ref 1 [] 0 (lq (scT xss ord k).1).length, .junk, .junk, .junk, .junk, .junk, .junk, .junk, .junk, .junk, .junk, .junk, .junk, .junk, .junk, .junk, .junk, .junk, .junk, ints nl1 ord, int ord.length, int k, .junk, .junk, .junk, .junk, .junk, .junk, .junk, .junk, .junk, .junk, .junk, .junk, .junk, .junk, .junk, .junk, .junk], [⟨true, .sl false 1 [.sl false 1 ((scT xss ord k).2.map int)]⟩, ⟨true, .sl false 1 ((lq (scT xss ord k).1).map int)⟩]⟩) ?_ (by simp [sub, slotsLe, clean, keep, refsL, refs, once, place, renL, ren, List.replicate, int, bool, hz0, hz2, hz3, intss, ints]) ?_ ?_ ?_
  · omega
  · trivial
  · intro k hk _ hwk
    have hs := scT_ok h hr (k := k) (by omega)
    have hx := hob k hk
    obtain ⟨i, hi, hin⟩ : ∃ i : Nat, ord[k] = (i : Int) ∧ i < xss.length := ⟨ord[k].toNat, by omega, by omega⟩
    obtain ⟨a, ha, hf1, hf2, hal, _⟩ := sc_fst h hs (by omega) hin
    have hnext : scT xss ord (k + 1) = ((scT xss ord k).1.set a false, (scT xss ord k).2.set i a) := by
      rw [scT, show ord.getD k 0 = (i : Int) by simp [List.getD_eq_getElem?_getD, hk, hi]]
      simp only [scS, Int.toNat_natCast, show xss.getD i (true, []) = xss[i] by simp [List.getD_eq_getElem?_getD, hin], hf2]
    have hlq := lq_len (bs := (scT xss ord k).1)
    have hsol := hs.ol
    have hsbl := hs.bl
    rw [hnext]
    simp only
    generalize (scT xss ord k).1 = bs at *
    generalize (scT xss ord k).2 = out at *
    have hio : i < out.length := by omega
    have hfst := mFstL_at xss[i].1 xss[i].2 false (lq bs) a hf1
    have hset : (out.map int).set i (.v (.int .i64 (a : Int))) = (out.set i (a : Int)).map int := by rw [List.map_set]; rfl
    have hdel := mDelS_at (lq bs) (out.set i (a : Int)) i (by simpa using hio)
    rw [List.getElem_set_self, lq_del hal] at hdel
    have hol' : (out.set i (a : Int)).length = xss.length := by simp [hsol]
    generalize out.set i (a : Int) = out' at *
    generalize bs.set a false = bs' at *
    simp (config := {contextual := true}) [List.range, List.range.loop, ints, intss, int, bool, row, frac, fracs, ← List.map_take, ← List.map_drop, List.all, hk, hi, hin, hio, hfst, hset, hdel, hwk]
    done
  · intro _
    have hs := scT_ok h hr (k := ord.length) (by omega)
    have hsol := hs.ol
    have htk : List.take xss.length (scT xss ord ord.length).2 = (scT xss ord ord.length).2 := List.take_of_length_le (by omega)
    simp (config := {contextual := true}) [List.range, List.range.loop, ints, intss, int, bool, row, frac, fracs, ← List.map_take, ← List.map_drop, List.all, hsol, htk]
    done

def repB (k : Nat) : List Bool := List.replicate k true
theorem repB_succ {k : Nat} : (repB k).map bool ++ [.v (.bool true)] = (repB (k + 1)).map bool := by simp [repB, List.replicate_succ', bool]
theorem repB_len {k : Nat} : (repB k).length = k := by simp [repB]

set_option maxRecDepth 16000 in
set_option maxHeartbeats 4000000 in
theorem specSerial_ok : FnOk Try.prog 22 mSer := by
  refine mk_ok fun ⟨nl, xss, nl1, ord⟩ hp => ?_
  obtain ⟨hh, h5, hr⟩ := hp
  simp only at hh h5 hr
  have h := hs_of hh h5
  have hn4 := h.n4
  have hn1 := h.n1
  obtain ⟨_, _, hol, hob, _⟩ := rank_facts hr
  have hb : 8 * xss.length ≤ 281474976710656 ∧ xss.length ≤ 4611686018427387904 ∧ xss.length ≤ 281474976710656 := by omega
  have hz0 : List.replicate xss.length (AV.v (.int .i64 0)) = (scT xss ord 0).2.map int := by simp [scT, int]
  have hz1 : repB xss.length = (scT xss ord 0).1 := rfl
  have hz2 : (repB 0).map bool = [] := rfl
  have hG : FnsOk Try.prog [(20, mHouses), (44, mRank), (45, mFstB)] := (.cons specHouses_ok (.cons specRankingOk_ok (.cons l22First_ok .nil)))
  refine callOk_awp (ctx_ok eqOk hG) mixed (live := [true, true, false, false, true, true, true, false, true, true, false, false, false, false, false, false, false, false, false, true, false, false, true, true, true, false, false, false, false, false, false, false, true, true, true, true]) (dt := []) Try.func22 rfl (by kernel_rfl) (by kernel_rfl) fun w0 hlens => ?_
  clear hlens
  simp (config := {contextual := true}) [Try.f22, List.range, List.range.loop, ints, intss, int, bool, row, frac, fracs, ← List.map_take, ← List.map_drop, mHouses_at, mRank_at, hh, hr]
  refine awp_range (live := [true, true, false, false, true, true, true, false, true, true, false, false, false, false, false, false, false, false, false, true, false, false, true, true, true, false, false, false, false, false, false, false, true, true, true, true]) (ctx_ok eqOk hG) mixed [true, true, false, false, false, true, false, false, false, false, false, false, false, false, false, false, false, false, false, false, false, false, true, true] (xss.length) (fun k => True) (fun k => ⟨[intss nl xss, ints nl1 ord, .junk, .junk, .junk, .ref 0 [] 0 k, .junk, .junk, .junk, .junk, .junk, .junk, .junk, .junk, .junk, .junk, .junk, .junk, .junk, .junk, .junk, .junk, int xss.length, int k, .junk, .junk, .junk, .junk, .junk, .junk, .junk, .junk, .junk, .junk, .junk, .junk, .junk, .junk, .junk, .junk, .junk, .junk, .junk, .junk, .junk, .junk, .junk, .junk, .junk, .junk, .junk, .junk, .junk], [⟨true, .sl false 1 ((repB k).map bool)⟩]⟩) ?_ (by simp [sub, slotsLe, clean, keep, refsL, refs, once, place, renL, ren, List.replicate, int, bool, hz2, intss, ints]) ?_ ?_ ?_
  · omega
  · trivial
  · intro k hk _ hwk
    have h1 := repB_succ (k := k)
    have h2 := repB_len (k := k)
    have q1 : k + 1 ≤ 4611686018427387904 ∧ (k + 1) ≤ 140737488355328 ∧ (k + 1) * 1 ≤ 140737488355328 := by omega
    simp (config := {contextual := true}) [List.range, List.range.loop, ints, intss, int, bool, row, frac, fracs, ← List.map_take, ← List.map_drop, hk, hwk, h1, h2, q1]
    done
  · intro _
    have h2 := repB_len (k := xss.length)
    simp [List.range, List.range.loop, ints, intss, int, bool, row, frac, fracs, ← List.map_take, ← List.map_drop, hb, hz0]
    refine awp_range (live := [true, true, false, false, true, true, true, false, true, true, false, false, false, false, false, false, false, false, false, true, false, false, true, true, true, false, false, false, false, false, false, false, true, true, true, true]) (ctx_ok eqOk hG) mixed [true, false, false, false, false, true, true, false, false, false, false, false, false, false, false, false, false, false, false, false, false, false, false, false, false, false, false, false, false, false, false, false, true, true, true] (ord.length) (fun k => True) (fun k => ⟨[intss nl xss, .junk, .junk, .junk, .junk, .ref 0 [] 0 xss.length, .ref 1 [] 0 xss.length, .junk, .junk, .junk, .junk, .junk, .junk, .junk, .junk, .junk, .junk, .junk, .junk, .junk, .junk, .junk, .junk, .junk, .junk, .junk, .junk, .junk, .junk, .junk, .junk, .junk, ints nl1 ord, int ord.length, int k, .junk, .junk, .junk, .junk, .junk, .junk, .junk, .junk, .junk, .junk, .junk, .junk, .junk, .junk, .junk, .junk, .junk, .junk], [⟨true, .sl false 1 ((scT xss ord k).1.map bool)⟩, ⟨true, .sl false 1 ((scT xss ord k).2.map int)⟩]⟩) ?_ (by simp [sub, slotsLe, clean, keep, refsL, refs, once, place, renL, ren, List.replicate, int, bool, hz0, hz1, intss, ints]) ?_ ?_ ?_
    · omega
    · trivial
    · intro k hk _ hwk
      have hs := scT_ok h hr (k := k) (by omega)
      have hx := hob k hk
      obtain ⟨i, hi, hin⟩ : ∃ i : Nat, ord[k] = (i : Int) ∧ i < xss.length := ⟨ord[k].toNat, by omega, by omega⟩
      obtain ⟨a, ha, hf1, hf2, hal, _⟩ := sc_fst h hs (by omega) hin
      have hnext : scT xss ord (k + 1) = ((scT xss ord k).1.set a false, (scT xss ord k).2.set i a) := by
        rw [scT, show ord.getD k 0 = (i : Int) by simp [List.getD_eq_getElem?_getD, hk, hi]]
        simp only [scS, Int.toNat_natCast, show xss.getD i (true, []) = xss[i] by simp [List.getD_eq_getElem?_getD, hin], hf2]
      have hsol := hs.ol
      have hsbl := hs.bl
      rw [hnext]
      simp only
      generalize (scT xss ord k).1 = bs at *
      generalize (scT xss ord k).2 = out at *
      have hfst := mFstB_at xss[i].1 xss[i].2 bs (fun x hx => by have := (h.all i hin).1 x hx; omega)
      rw [hf2] at hfst
      have hset : (out.map int).set i (.v (.int .i64 (a : Int))) = (out.set i (a : Int)).map int := by rw [List.map_set]; rfl
      have hset2 : (bs.map bool).set a (.v (.bool false)) = (bs.set a false).map bool := by rw [List.map_set]; rfl
      generalize out.set i (a : Int) = out' at *
      generalize bs.set a false = bs' at *
      have htb : List.take xss.length bs = bs := List.take_of_length_le (by omega)
      simp (config := {contextual := true}) [List.range, List.range.loop, ints, intss, int, bool, row, frac, fracs, ← List.map_take, ← List.map_drop, hk, hi, hin, ha, hsol, hsbl, htb, hfst, hset, hset2, hwk]
      done
    · intro _
      have hs := scT_ok h hr (k := ord.length) (by omega)
      have hsol := hs.ol
      simp (config := {contextual := true}) [List.range, List.range.loop, ints, intss, int, bool, row, frac, fracs, ← List.map_take, ← List.map_drop, hsol]
      done

end Go.Proofs.Ytlkgppincgpfjaa.Ax

/-
  The plain side of MixOf: what the tickets come to. Plain Lean, no program in sight.
-/
namespace Go.Proofs.Ytlkgppincgpfjaa.Ax
open Go Go.RowKit
set_option linter.unusedSimpArgs false

theorem sumTo_pre {fs gs : List (Int × Int)} : ∀ {k : Nat}, k ≤ fs.length → sumTo (fs ++ gs) k = sumTo fs k
  | 0, _ => rfl
  | k + 1, hk => by
    have hk' : k < fs.length := by omega
    rw [sumTo, sumTo, sumTo_pre (k := k) (by omega)]
    simp [List.getD_eq_getElem?_getD, List.getElem?_append_left hk']
theorem sumF_snoc {fs : List (Int × Int)} {w : Int × Int} (h : fs.length < 100) : sumF (fs ++ [w]) = if (sumF fs).2 = true then addF (sumF fs).1 w else ((0, 0), false) := by
  have e1 : sumF fs = sumTo fs fs.length := by unfold sumF; rw [if_neg (by omega)]
  have e2 : sumF (fs ++ [w]) = sumTo (fs ++ [w]) (fs.length + 1) := by unfold sumF; rw [if_neg (by simp; omega)]; simp
  rw [e1, e2, sumTo, sumTo_pre (Nat.le_refl _)]
  simp [List.getD_eq_getElem?_getD]
theorem sumF_nil : sumF [] = ((0, 1), true) := by simp [sumF, sumTo]
theorem sumF_bad {fs gs : List (Int × Int)} (hl : (fs ++ gs).length ≤ 100) (h : (sumF fs).2 = false) : sumF (fs ++ gs) = ((0, 0), false) := by
  have hlf : fs.length ≤ 100 := by rw [List.length_append] at hl; omega
  unfold sumF at h ⊢
  rw [if_neg (by omega)] at h
  rw [if_neg (by omega)]
  have hpos : 0 < fs.length := by
    rcases Nat.eq_zero_or_pos fs.length with e | e
    · rw [e] at h; simp [sumTo] at h
    · exact e
  refine sumTo_bad (k := fs.length) hpos ?_ (by rw [List.length_append]; omega)
  rw [sumTo_pre (Nat.le_refl _)]; exact h

/-- A ticket: its weight, its list. -/
abbrev Tk := (Int × Int) × Bool × List Int
def tick (t : Tk) : AV := .agg [.v (.int .i64 t.1.1), .v (.int .i64 t.1.2), .sl t.2.1 1 (t.2.2.map int)]
def tks (nl : Bool) (ts : List Tk) : AV := .sl nl 3 (ts.map tick)
theorem tick_inj {a b : Tk} (h : tick a = tick b) : a = b := by
  obtain ⟨⟨a1, a2⟩, a3, a4⟩ := a
  obtain ⟨⟨b1, b2⟩, b3, b4⟩ := b
  simp [tick, map_int_inj] at h
  obtain ⟨rfl, rfl, rfl, rfl⟩ := h
  rfl
theorem map_tick_inj {a b : List Tk} : a.map tick = b.map tick ↔ a = b := List.map_inj_right fun _ _ h => tick_inj h

def tkB (n : Int) (t : Tk) : Bool := rankB n t.2.2 && (fracOk t.1 && decide (0 ≤ t.1.1))
/-- The weights of those of the first k tickets that give house x to person i. -/
def ws (ts : List Tk) (i : Nat) (x : Int) (k : Nat) : List (Int × Int) := ((ts.take k).filter fun t => decide (at0 t.2.2 i = x)).map (·.1)
theorem ws_zero {ts : List Tk} {i : Nat} {x : Int} : ws ts i x 0 = [] := by simp [ws]
theorem ws_yes {ts : List Tk} {i : Nat} {x : Int} {k : Nat} (hk : k < ts.length) (h : at0 ts[k].2.2 i = x) : ws ts i x (k + 1) = ws ts i x k ++ [ts[k].1] := by
  unfold ws
  rw [List.take_succ_eq_append_getElem hk, List.filter_append, List.map_append, List.filter_cons, if_pos (decide_eq_true h)]
  rfl
theorem ws_no {ts : List Tk} {i : Nat} {x : Int} {k : Nat} (hk : k < ts.length) (h : at0 ts[k].2.2 i ≠ x) : ws ts i x (k + 1) = ws ts i x k := by
  unfold ws
  rw [List.take_succ_eq_append_getElem hk, List.filter_append, List.map_append, List.filter_cons, if_neg (by simpa using h)]
  simp
theorem ws_len {ts : List Tk} {i : Nat} {x : Int} {k : Nat} : (ws ts i x k).length ≤ k := by
  unfold ws
  rw [List.length_map]
  exact Nat.le_trans (List.length_filter_le _ _) (by rw [List.length_take]; omega)
theorem ws_split {ts : List Tk} {i : Nat} {x : Int} {k m : Nat} (h : k ≤ m) : ∃ r, ws ts i x m = ws ts i x k ++ r := by
  obtain ⟨d, rfl⟩ : ∃ d, m = k + d := ⟨m - k, by omega⟩
  refine ⟨(((ts.drop k).take d).filter fun t => decide (at0 t.2.2 i = x)).map (·.1), ?_⟩
  unfold ws
  rw [List.take_add, List.filter_append, List.map_append]

def cel (ts : List Tk) (k : Nat) (i x : Nat) : (Int × Int) × Bool := sumF (ws ts i x k)
theorem cel_bad {ts : List Tk} {k m i x : Nat} (h : (cel ts k i x).2 = false) (hk : k ≤ m) (hm : m ≤ 100) : cel ts m i x = ((0, 0), false) := by
  obtain ⟨r, hr⟩ := ws_split (ts := ts) (i := i) (x := (x : Int)) hk
  unfold cel at h ⊢
  rw [hr]
  exact sumF_bad (by rw [← hr]; exact Nat.le_trans ws_len hm) h
theorem cel_yes {ts : List Tk} {i x k : Nat} (hk : k < ts.length) (hl : k < 100) (h : at0 ts[k].2.2 i = x) (hc : (cel ts k i x).2 = true) : cel ts (k + 1) i x = addF (cel ts k i x).1 ts[k].1 := by
  unfold cel at hc ⊢
  rw [ws_yes hk h, sumF_snoc (by have := ws_len (ts := ts) (i := i) (x := (x : Int)) (k := k); omega), if_pos hc]
theorem cel_no {ts : List Tk} {i x k : Nat} (hk : k < ts.length) (h : at0 ts[k].2.2 i ≠ x) : cel ts (k + 1) i x = cel ts k i x := by
  unfold cel; rw [ws_no hk h]
theorem cel_zero {ts : List Tk} {i x : Nat} : cel ts 0 i x = ((0, 1), true) := by unfold cel; rw [ws_zero, sumF_nil]

/-- A row, and the table, when k tickets, and the k-th one up to j, have been told. -/
def kk (k j i : Nat) : Nat := if i < j then k + 1 else k
def rowK (ts : List Tk) (n k j i : Nat) : List (Int × Int) := (List.range n).map fun x => (cel ts (kk k j i) i x).1
def mixK (ts : List Tk) (n k j : Nat) : List (Bool × List (Int × Int)) := (List.range n).map fun i => (false, rowK ts n k j i)
theorem rowK_len {ts : List Tk} {n k j i : Nat} : (rowK ts n k j i).length = n := by simp [rowK]
theorem mixK_len {ts : List Tk} {n k j : Nat} : (mixK ts n k j).length = n := by simp [mixK]
theorem rowK_get {ts : List Tk} {n k j i x : Nat} (h : x < (rowK ts n k j i).length) : (rowK ts n k j i)[x] = (cel ts (kk k j i) i x).1 := by simp [rowK]
theorem mixK_get {ts : List Tk} {n k j i : Nat} (h : i < (mixK ts n k j).length) : (mixK ts n k j)[i] = (false, rowK ts n k j i) := by simp [mixK]
theorem mixK_zero {ts : List Tk} {n : Nat} : mixK ts n 0 0 = List.replicate n (false, List.replicate n (0, 1)) := by
  apply List.ext_getElem
  · simp [mixK]
  · intro i h1 h2
    simp only [mixK, List.getElem_map, List.getElem_range, List.getElem_replicate, Prod.mk.injEq, true_and]
    apply List.ext_getElem
    · simp [rowK]
    · intro x h3 h4
      simp [rowK, kk, cel_zero]
theorem mixK_next {ts : List Tk} {n k : Nat} : mixK ts n k n = mixK ts n (k + 1) 0 := by
  apply List.ext_getElem
  · simp [mixK]
  · intro i h1 h2
    have hi : i < n := by simpa [mixK] using h1
    simp [mixK, rowK, kk, hi]
theorem rowK_set {ts : List Tk} {n k j x : Nat} {a : Int × Int} (hk : k < ts.length) (hx : at0 ts[k].2.2 j = x) (ha : a = (cel ts (k + 1) j x).1) :
    ((rowK ts n k j j).map frac).set x (.agg [.v (.int .i64 a.1), .v (.int .i64 a.2)]) = (rowK ts n k (j + 1) j).map frac := by
  have : AV.agg [.v (.int .i64 a.1), .v (.int .i64 a.2)] = frac a := rfl
  rw [this, ← List.map_set]
  congr 1
  apply List.ext_getElem
  · simp [rowK]
  · intro y h1 h2
    have hy : y < n := by simpa [rowK] using h2
    rw [List.getElem_set]
    simp only [rowK, List.getElem_map, List.getElem_range, kk, Nat.lt_irrefl, if_false, Nat.lt_succ_self, if_true]
    by_cases e : x = y
    · subst e; rw [if_pos rfl, ha]
    · rw [if_neg e, cel_no hk (by rw [hx]; omega)]
theorem mixK_set {ts : List Tk} {n k j : Nat} (_hj : j < n) : ((mixK ts n k j).map frow).set j (.sl false 2 ((rowK ts n k (j + 1) j).map frac)) = (mixK ts n k (j + 1)).map frow := by
  have : AV.sl false 2 ((rowK ts n k (j + 1) j).map frac) = frow (false, rowK ts n k (j + 1) j) := rfl
  rw [this, ← List.map_set]
  congr 1
  apply List.ext_getElem
  · simp [mixK]
  · intro i h1 h2
    rw [List.getElem_set]
    simp only [mixK, List.getElem_map, List.getElem_range]
    by_cases e : j = i
    · subst e; simp
    · rw [if_neg e]
      have : kk k (j + 1) i = kk k j i := by unfold kk; by_cases h3 : i < j <;> simp [h3] <;> omega
      simp [rowK, this]

/-- What the tickets come to. -/
def mixA (ts : List Tk) (n : Nat) : List (Bool × List (Int × Int)) := mixK ts n ts.length 0
def mixB (ts : List Tk) (n : Int) : Bool := inR 1 4 n && (inR 1 30 ts.length && (ts.all (tkB n) && lotB (mixA ts n.toNat)))
def mixT (ts : List Tk) (n : Int) : List (Bool × List (Int × Int)) := if mixB ts n = true then mixA ts n.toNat else []
theorem lot_cell {m : List (Bool × List (Int × Int))} (h : lotB m = true) {i : Nat} (hi : i < m.length) {x : Nat} (hx : x < m[i].2.length) : partB m[i].2[x] = true := by
  simp only [lotB, Bool.and_eq_true] at h
  have := allR_at h.1.2 hi
  simp only [partRow, getDF hi, Bool.and_eq_true, List.all_eq_true] at this
  exact this.2 _ (List.getElem_mem hx)
/-- A sum that is not valid is told at the end. -/
theorem mix_bad {ts : List Tk} {n k i x : Nat} (hl : ts.length ≤ 30) (hk : k ≤ ts.length) (hi : i < n) (hx : x < n) (h : (cel ts k i x).2 = false) : lotB (mixA ts n) = false := by
  cases hb : lotB (mixA ts n) with
  | false => rfl
  | true =>
    have h1 : i < (mixA ts n).length := by simpa [mixA, mixK_len] using hi
    have h2 : x < (mixA ts n)[i].2.length := by simp only [mixA, mixK_get, rowK_len]; exact hx
    have := lot_cell hb h1 h2
    simp only [mixA, mixK_get, rowK_get] at this
    rw [show kk ts.length 0 i = ts.length by simp [kk], cel_bad h hk (by omega)] at this
    simp [partB, fracOk] at this

end Go.Proofs.Ytlkgppincgpfjaa.Ax

/-
  Contracts: marks on lists of lists of fractions, and whether they stand. No condition.
-/
namespace Go.Proofs.Ytlkgppincgpfjaa.Ax
open Go Go.RowKit
set_option linter.unusedSimpArgs false

/-- Rows of which the first i are marked. -/
def mkRowF (k : Int) (xss : List (Bool × List (Int × Int))) (j : Nat) : Bool × List (Int × Int) := ((xss.getD j (true, [])).1, mkdF (k + 2 * (rowSumF xss j : Int)) (xss.getD j (true, [])).2.length)
def mkRTF (k : Int) (xss : List (Bool × List (Int × Int))) (i : Nat) : List (Bool × List (Int × Int)) := (List.range xss.length).map fun j => if j < i then mkRowF k xss j else xss.getD j (true, [])
def mkRSF (k : Int) (xss : List (Bool × List (Int × Int))) : List (Bool × List (Int × Int)) := (List.range xss.length).map (mkRowF k xss)
theorem mkRTF_len {k : Int} {xss : List (Bool × List (Int × Int))} {i : Nat} : (mkRTF k xss i).length = xss.length := by simp [mkRTF]
theorem mkRSF_len {k : Int} {xss : List (Bool × List (Int × Int))} : (mkRSF k xss).length = xss.length := by simp [mkRSF]
theorem mkRSF_take {k : Int} {xss : List (Bool × List (Int × Int))} : (mkRSF k xss).take xss.length = mkRSF k xss := List.take_of_length_le (by simp [mkRSF_len])
theorem mkRTF_zero {k : Int} {xss : List (Bool × List (Int × Int))} : mkRTF k xss 0 = xss := by
  apply List.ext_getElem
  · simp [mkRTF]
  · intro i h1 h2
    simp only [mkRTF, List.getElem_map, List.getElem_range, Nat.not_lt_zero, if_false, getDF h2]
theorem mkRTF_all {k : Int} {xss : List (Bool × List (Int × Int))} : mkRTF k xss xss.length = mkRSF k xss := by
  apply List.ext_getElem
  · simp [mkRTF, mkRSF]
  · intro i h1 h2
    have h3 : i < xss.length := by simpa [mkRSF] using h2
    simp [mkRTF, mkRSF, h3]
theorem mkRTF_at {k : Int} {xss : List (Bool × List (Int × Int))} {i : Nat} (h : i < xss.length) (h' : i < (mkRTF k xss i).length) : (mkRTF k xss i)[i] = xss[i] := by
  simp only [mkRTF, List.getElem_map, List.getElem_range, Nat.lt_irrefl, if_false, getDF h]
theorem mkRSF_at {k : Int} {xss : List (Bool × List (Int × Int))} {i : Nat} (h : i < xss.length) (h' : i < (mkRSF k xss).length) : (mkRSF k xss)[i] = (xss[i].1, mkdF (k + 2 * (rowSumF xss i : Int)) xss[i].2.length) := by
  simp only [mkRSF, List.getElem_map, List.getElem_range, mkRowF, getDF h]
theorem mkRTF_set {k : Int} {xss : List (Bool × List (Int × Int))} {i : Nat} (h : i < xss.length) : ((mkRTF k xss i).map frow).set i (.sl xss[i].1 2 ((mkdF (k + 2 * (rowSumF xss i : Int)) xss[i].2.length).map frac)) = (mkRTF k xss (i + 1)).map frow := by
  have : (AV.sl xss[i].1 2 ((mkdF (k + 2 * (rowSumF xss i : Int)) xss[i].2.length).map frac)) = frow (mkRowF k xss i) := by simp only [frow, mkRowF, getDF h]
  rw [this, ← List.map_set]
  congr 1
  apply List.ext_getElem
  · simp [mkRTF]
  · intro j h1 h2
    rw [List.getElem_set]
    simp only [mkRTF, List.getElem_map, List.getElem_range]
    by_cases e : i = j
    · subst e; simp
    · rw [if_neg e]
      by_cases h3 : j < i
      · rw [if_pos h3, if_pos (by omega)]
      · rw [if_neg h3, if_neg (by omega)]

theorem needF_own {xss : List (Bool × List (Int × Int))} : needF (ownF xss) = needF xss := by
  unfold needF rowSumF ownF; simp [← List.map_take, Function.comp_def]

noncomputable def mMarkFF : List AV → Option (Nat × AV × AV) := mkM (fun (p : Bool × List (Bool × List (Int × Int)) × Int) => 0 ≤ p.2.2 ∧ p.2.2 + 2 * needF p.2.1 ≤ 2 ^ 61) (fun p => [fracss p.1 p.2.1, int p.2.2]) (fun p => (0, int (p.2.2 + 2 * (rowSumF p.2.1 p.2.1.length : Int)), fracss p.1 (mkRSF p.2.2 p.2.1)))
theorem mMarkFF_at (nl : Bool) (xss : List (Bool × List (Int × Int))) (k : Int) (h : 0 ≤ k ∧ k + 2 * needF xss ≤ 2 ^ 61) : mMarkFF [.sl nl 1 (xss.map frow), .v (.int .i64 k)] = some (0, .v (.int .i64 (k + 2 * (rowSumF xss xss.length : Int))), .sl nl 1 ((mkRSF k xss).map frow)) :=
  mkM_eq (enc := fun (p : Bool × List (Bool × List (Int × Int)) × Int) => [fracss p.1 p.2.1, int p.2.2]) (x := (nl, xss, k)) (by rintro ⟨a, b, c⟩ ⟨d, e, f⟩ h; simp [fracss, int, map_frow_inj] at h; simp [h]) h

set_option maxHeartbeats 2000000 in
theorem markFractionSS_ok : FnMut Try.prog 12 mMarkFF := by
  refine mkM_ok fun ⟨nl, xss, k⟩ ⟨hk0, hk⟩ => ?_
  simp only at hk0 hk
  simp only [needF] at hk
  have hG : FnsOk Try.prog [] := .nil
  have hM : FnsMut Try.prog [(31, mMarkF)] := (.cons markFractionS_ok .nil)
  refine mutOk_awp (ctxM_ok eqOk hG hM) mixed (live := [true, true, false, false, true, true, false, false, false, true]) (dt := []) (pos := 0) rfl Try.func12 rfl (by kernel_rfl) (by kernel_rfl) fun US Uv w0 hlens => ?_
  simp [Try.f12, List.range, List.range.loop, ints, intss, int, bool, row, frac, fracs, ← List.map_take, ← List.map_drop, fracss, frow, ctxM]
  refine awp_range (live := [true, true, false, false, true, true, false, false, false, true]) (ctxM_ok eqOk hG hM) mixed [true, true, false, false, false, true] (xss.length) (fun i => True) (fun i => ⟨[.ref 0 [] 0 xss.length, int (k + 2 * (rowSumF xss i : Int)), .junk, .junk, .junk, int i, .junk, .junk, .junk, .junk, .junk, .junk, .junk, .junk, .junk, .junk, .junk, .junk, .junk], [⟨true, .sl nl 1 ((mkRTF k xss i).map frow)⟩]⟩) ?_ (by simp [sub, slotsLe, clean, keep, refsL, refs, once, place, renL, ren, List.replicate, int, bool, mkRTF_zero, rowSumF_zero]) ?_ ?_ ?_
  · omega
  · trivial
  · intro i h _ hw
    have hs := mkRTF_set (k := k) h
    have h1 := rowSumF_succ h
    have h2 := rowSumF_mono (xss := xss) (show i + 1 ≤ xss.length from h)
    have hz := mMarkF_at xss[i].1 xss[i].2 (k + 2 * (rowSumF xss i : Int)) ⟨by omega, by omega⟩
    have e : k + 2 * (rowSumF xss i : Int) + 2 * (xss[i].2.length : Int) = k + 2 * (rowSumF xss (i + 1) : Int) := by omega
    simp (config := {contextual := true}) [List.range, List.range.loop, ints, intss, int, bool, row, frac, fracs, ← List.map_take, ← List.map_drop, fracss, frow, List.eraseIdx, h, hw, mkRTF_len, mkRTF_at, hz, mkdF_len, hs, e]
  · intro _
    simp (config := {contextual := true}) [List.range, List.range.loop, ints, intss, int, bool, row, frac, fracs, ← List.map_take, ← List.map_drop, fracss, frow, List.eraseIdx, mkRTF_len, mkRTF_all, mkRSF_len]

noncomputable def mHeldFF : List AV → Option AV := mk (fun (p : Bool × List (Bool × List (Int × Int)) × Int) => 0 ≤ p.2.2 ∧ p.2.2 + 2 * needF p.2.1 ≤ 2 ^ 61) (fun p => [fracss p.1 (mkRSF p.2.2 p.2.1), int p.2.2]) (fun p => int (p.2.2 + 2 * (((mkRSF p.2.2 p.2.1).map (·.2.length)).sum : Nat)))
theorem mkRSF_sum {k : Int} {xss : List (Bool × List (Int × Int))} : ((mkRSF k xss).map (·.2.length)).sum = rowSumF xss xss.length := by
  have : (mkRSF k xss).map (·.2.length) = xss.map (·.2.length) := by
    apply List.ext_getElem
    · simp [mkRSF]
    · intro i h1 h2
      have h3 : i < xss.length := by simpa using h2
      rw [List.getElem_map, List.getElem_map, mkRSF_at h3]; simp [mkdF_len]
  rw [this]; simp [rowSumF]
theorem mHeldFF_at (nl : Bool) (xss : List (Bool × List (Int × Int))) (k : Int) (h : 0 ≤ k ∧ k + 2 * needF xss ≤ 2 ^ 61) : mHeldFF [.sl nl 1 ((mkRSF k xss).map frow), .v (.int .i64 k)] = some (.v (.int .i64 (k + 2 * (rowSumF xss xss.length : Int)))) := by
  refine (mk_eq (enc := fun p : Bool × List (Bool × List (Int × Int)) × Int => [fracss p.1 (mkRSF p.2.2 p.2.1), int p.2.2]) (x := (nl, xss, k)) (by
    rintro ⟨a, b, c⟩ ⟨d, e, f⟩ h
    simp [fracss, int, map_frow_inj] at h
    obtain ⟨⟨_, h1⟩, rfl⟩ := h
    simp only [h1]) h).trans ?_
  simp only [int, mkRSF_sum]

set_option maxHeartbeats 2000000 in
theorem heldFractionSS_ok : FnOk Try.prog 13 mHeldFF := by
  refine mk_ok fun ⟨nl, xss, k⟩ ⟨hk0, hk⟩ => ?_
  simp only at hk0 hk
  simp only [needF] at hk
  simp only [mkRSF_sum]
  have hG : FnsOk Try.prog [(32, mHeldF)] := (.cons heldFractionS_ok .nil)
  refine callOk_awp (ctx_ok eqOk hG) mixed (live := [true, true, false, false, true, true, false, false, false, true, false, false, false, false, false, false, false, false, false, true]) (dt := []) Try.func13 rfl (by kernel_rfl) (by kernel_rfl) fun w0 hlens => ?_
  clear hlens
  simp [Try.f13, List.range, List.range.loop, ints, intss, int, bool, row, frac, fracs, ← List.map_take, ← List.map_drop, fracss, frow]
  refine awp_range (live := [true, true, false, false, true, true, false, false, false, true, false, false, false, false, false, false, false, false, false, true]) (ctx_ok eqOk hG) mixed [true, true, false, false, false, true] (xss.length) (fun i => True) (fun i => ⟨[fracss nl (mkRSF k xss), int (k + 2 * (rowSumF xss i : Int)), .junk, .junk, .junk, int i, .junk, .junk, .junk, .junk, .junk, .junk, .junk, .junk, .junk, .junk, .junk, .junk, .junk, .junk, .junk], []⟩) ?_ (by simp [sub, slotsLe, clean, keep, refsL, refs, once, place, renL, ren, List.replicate, int, bool, fracss, rowSumF_zero]) ?_ ?_ ?_
  · omega
  · trivial
  · intro i h _ hw
    have h1 := rowSumF_succ h
    have h2 := rowSumF_mono (xss := xss) (show i + 1 ≤ xss.length from h)
    have hz := mHeldF_at xss[i].1 xss[i].2.length (k + 2 * (rowSumF xss i : Int)) ⟨by omega, by omega⟩
    have e : k + 2 * (rowSumF xss i : Int) + 2 * (xss[i].2.length : Int) = k + 2 * (rowSumF xss (i + 1) : Int) := by omega
    have hn : ¬ (k + 2 * (rowSumF xss (i + 1) : Int) < 0) := by omega
    simp (config := {contextual := true}) [List.range, List.range.loop, ints, intss, int, bool, row, frac, fracs, ← List.map_take, ← List.map_drop, fracss, frow, h, hw, mkRSF_len, mkRSF_at, hz, e, hn]
  · intro _
    simp (config := {contextual := true}) [List.range, List.range.loop, ints, intss, int, bool, row, frac, fracs, ← List.map_take, ← List.map_drop, fracss, frow, mkRSF_len]

end Go.Proofs.Ytlkgppincgpfjaa.Ax
