/-
  Contracts: the closure that strikes who has been chosen, SerialChoice (both programs). No condition.
-/
import Derived.Test.YtkfmhpgnhkdebaaGreatDoorCG10
import Derived.Test.YtkfmhpgnhkdebaaGreatDoorCG14
import Derived.Test.YtkfmhpgnhkdebaaGreatDoorCG13
import Derived.Test.YtkfmhpgnhkdebaaGreatDoorCG11
import Derived.Test.YtkfmhpgnhkdebaaGreatDoorCB2
namespace Go.Proofs.YtkfmhpgnhkdebaaGreatDoor.Ax
open Go Go.RowKit
set_option linter.unusedSimpArgs false
def capS (out : List Int) (i : Nat) : List AV := [.fp (ints false out) 0, .fp (int i) 0]
theorem serial1_says {out : List Int} {i : Nat} (hi : i < out.length) : SaysOf 170 (capS out i) (fun x => decide (x = out[i])) := by
  intro w F cv x hF hcv
  simp only [capS, RepL, Rep, ints, int] at hcv
  obtain ⟨y1, ys1, e1, ⟨b1, o1, z1, rfl, ⟨a, len, cap, rfl, hl, _, _, hrow⟩, hF1, hat1, hz1⟩, y2, ys2, rfl, ⟨b2, o2, z2, rfl, ⟨rfl, _⟩, hF2, hat2, hz2⟩, rfl⟩ := hcv
  have hcv : cv = #[.pointer (some ⟨b1, o1 + 0, none⟩), .pointer (some ⟨b2, o2 + 0, none⟩)] := by
    apply Array.ext'
    rw [e1]
  subst hcv
  have hc1 : w.cell? ⟨b1, o1 + 0, none⟩ = some (.slice a len cap) := hat1 0 _ (by simp [Value.cells])
  have hc2 : w.cell? ⟨b2, o2 + 0, none⟩ = some (.int .i64 i) := hat2 0 _ (by simp [Value.cells])
  have hlen : len = out.length := by simpa using hl
  rcases hrow with ⟨_, h, _⟩ | ⟨b, o, rfl, _, hrow⟩ | ⟨_, _, h⟩
  · simp at h
  · obtain ⟨z, h1, _, _, hFb, h4⟩ := RepRow.get hrow i (int out[i]) (by rw [List.getElem?_map, List.getElem?_eq_getElem hi]; rfl)
    simp only [Rep, int] at h1
    obtain ⟨rfl, _⟩ := h1
    have hc3 : w.cell? ⟨b, o + i, none⟩ = some (.int .i64 out[i]) := by simpa using h4 0 (.int .i64 out[i]) (by simp [Value.cells])
    generalize out[i] = v at hc3 ⊢
    subst hlen
    have hilt : (i : Int) < (out.length : Int) := by omega
    simp only [Nat.add_zero] at hc1 hc2 ⊢
    clear hat1 hat2 h4 hrow hl hz1 hz2 hF1 hF2 hFb e1 hF
    unfold FnGives
    show Calls Tryz.prog 170 #[.int .i64 x, .pointer (some ⟨b1, o1, none⟩), .pointer (some ⟨b2, o2, none⟩)] w _
    go_enter Tryz.func170, Tryz.ntmps170
    go_wp2
    all_goals (go_ret; exact ⟨rfl, 0, rfl⟩)
  · have : out = [] := by simpa using h
    subst this; simp at hi
noncomputable def mDelS : List AV → Option (List Nat × AV) := mkV (fun p => p.2.2 < p.2.1.length) (fun (p : List Int × List Int × Nat) => [ints false p.1, .fn 170 (capS p.2.1 p.2.2)]) [0] (fun p => ints false (p.1.filter fun x => !decide (x = p.2.1.getD p.2.2 0)))
theorem mDelS_at (xs out : List Int) (i : Nat) (h : i < out.length) : mDelS [.sl false 1 (xs.map int), .fn 170 [.fp (.sl false 1 (out.map int)) 0, .fp (.v (.int .i64 (i : Int))) 0]] = some ([0], .sl false 1 ((xs.filter fun x => !decide (x = out[i])).map int)) := by
  have := mkV_eq (pre := fun p => p.2.2 < p.2.1.length) (enc := fun (p : List Int × List Int × Nat) => [ints false p.1, .fn 170 (capS p.2.1 p.2.2)]) (mv := [0]) (f := fun p => ints false (p.1.filter fun x => !decide (x = p.2.1.getD p.2.2 0))) (x := (xs, out, i)) (by
    rintro ⟨a, b, c⟩ ⟨d, e, f⟩ h
    simp [ints, capS, int, map_int_inj] at h
    obtain ⟨rfl, rfl, h⟩ := h
    simp only
    rw [show c = f by omega]) h
  simpa [mDelS, ints, capS, int, List.getD_eq_getElem?_getD, h] using this
theorem delS_ok : FnMov Tryz.prog 169 mDelS := by
  refine mkV_ok fun ⟨xs, out, i⟩ h => ?_
  simp only at h
  have e : out.getD i 0 = out[i] := by simp [List.getD_eq_getElem?_getD, h]
  have := delF_ok (g := 170) (caps := capS out i) (fun x => decide (x = out[i])) (enters_of Tryz.func170 (by kernel_rfl) rfl) (serial1_says h) xs
  simp only [e]
  exact this
noncomputable def mSer : List AV → Option AV := mk (fun p => housesB p.2.1 = true ∧ p.2.1.length ≠ 5 ∧ rankB p.2.1.length p.2.2.2 = true) (fun (p : (Bool) × (List (Bool × List Int)) × (Bool) × (List Int)) => [intss p.1 p.2.1, ints p.2.2.1 p.2.2.2]) (fun p => .sl false 1 ((scT p.2.1 p.2.2.2 p.2.2.2.length).2.map int))
theorem mSer_at (nl : Bool) (xss : List (Bool × List Int)) (nl1 : Bool) (ord : List Int) (hpre : housesB xss = true ∧ xss.length ≠ 5 ∧ rankB xss.length ord = true) : mSer [.sl nl 1 (xss.map row), .sl nl1 1 (ord.map int)] = some (.sl false 1 ((scT xss ord ord.length).2.map int)) :=
  mk_eq (enc := fun (p : (Bool) × (List (Bool × List Int)) × (Bool) × (List Int)) => [intss p.1 p.2.1, ints p.2.2.1 p.2.2.2]) (x := (nl, xss, nl1, ord)) (by rintro ⟨a0, a1, a2, a3⟩ ⟨b0, b1, b2, b3⟩ h; simp [ints, intss, int, bool, row, frac, fracs, map_int_inj, map_row_inj, frac_inj, map_frac_inj] at h; simp [h]) hpre
set_option maxRecDepth 16000 in
set_option maxHeartbeats 4000000 in
theorem implSerial_ok : FnOk Tryz.prog 94 mSer := by
  refine mk_ok fun ⟨nl, xss, nl1, ord⟩ hp => ?_
  obtain ⟨hh, h5, hr⟩ := hp
  simp only at hh h5 hr
  have h := hs_of hh h5
  have hn4 := h.n4
  have hn1 := h.n1
  obtain ⟨_, _, hol, hob, _⟩ := rank_facts hr
  have hid := mIdx_at xss.length (by omega)
  have hil : (idx xss.length).length = xss.length := by simp [idx]
  have hb : 8 * xss.length ≤ 281474976710656 ∧ xss.length ≤ 4611686018427387904 ∧ xss.length ≤ 281474976710656 := by omega
  have hz0 : List.replicate xss.length (AV.v (.int .i64 0)) = (scT xss ord 0).2.map int := by simp [scT, int]
  have hz1 : idx xss.length = lq (scT xss ord 0).1 := by rw [show (scT xss ord 0).1 = List.replicate xss.length true from rfl, lq_all]
  have hz2 : (lq (scT xss ord 0).1).length = xss.length := by rw [← hz1]; exact hil
  have hz3 : (scT xss ord 0).2.length = xss.length := by simp [scT]
  rw [hz1] at hid
  have hG : FnsOk Tryz.prog [(91, mHouses), (110, mRank), (166, mIdx), (168, mFstL)] := (.cons implHouses_ok (.cons implRankingOk_ok (.cons indices_ok (.cons firstOfLeft_ok .nil))))
  have hM : FnsMut Tryz.prog [] := .nil
  have hV : FnsMov Tryz.prog [(169, mDelS)] := (.cons delS_ok .nil)
  refine callOk_awp (ctxV_ok eqOk hG hM hV) mixed (live := [true, true, false, false, true, true, true, false, true, false, false, false, false, false, false, false, false, false, true, false, false, false, false, false, false, true, true, true, true]) (dt := [(8, ⟨[], [], []⟩)]) Tryz.func94 rfl (by kernel_rfl) (by kernel_rfl) fun w0 hlens => ?_
  clear hlens
  simp (config := {contextual := true}) [Tryz.f94, List.range, List.range.loop, ints, intss, int, bool, row, frac, fracs, ← List.map_take, ← List.map_drop, List.all, mHouses_at, mRank_at, hh, hr, hid, hb, hz0, hz2, hz3]
  refine awp_range (live := [true, true, false, false, true, true, true, false, true, false, false, false, false, false, false, false, false, false, true, false, false, false, false, false, false, true, true, true, true]) (ctxV_ok eqOk hG hM hV) mixed [true, false, false, false, false, true, true, false, false, false, false, false, false, false, false, false, false, false, false, false, false, false, false, false, false, true, true, true] (ord.length) (fun k => True) (fun k => ⟨[intss nl xss, .junk, .junk, .junk, .junk, .ptr 0 [] 0 0, .ref 1 [] 0 (lq (scT xss ord k).1).length, .junk, .junk, .junk, .junk, .junk, .junk, .junk, .junk, .junk, .junk, .junk, .junk, .junk, .junk, .junk, .junk, .junk, .junk, ints nl1 ord, int ord.length, int k, .junk, .junk, .junk, .junk, .junk, .junk, .junk, .junk, .junk, .junk, .junk, .junk, .junk, .junk, .junk, .junk, .junk], [⟨true, .sl false 1 [.sl false 1 ((scT xss ord k).2.map int)]⟩, ⟨true, .sl false 1 ((lq (scT xss ord k).1).map int)⟩]⟩) ?_ (by simp [sub, slotsLe, clean, keep, refsL, refs, once, place, renL, ren, List.replicate, int, bool, hz0, hz2, hz3, intss, ints]) ?_ ?_ ?_
  · omega
  · trivial
  · intro k hk _ hwk
    have hs := scT_ok h hr (k := k) (by omega)
    have hx := hob k hk
    obtain ⟨i, hi, hin⟩ : ∃ i : Nat, ord[k] = (i : Int) ∧ i < xss.length := ⟨ord[k].toNat, by omega, by omega⟩
    obtain ⟨a, ha, hf1, hf2, hal, _⟩ := sc_fst h hs (by omega) hin
    have hnext : scT xss ord (k + 1) = ((scT xss ord k).1.set a false, (scT xss ord k).2.set i a) := by
      rw [scT, show ord.getD k 0 = (i : Int) by simp [List.getD_eq_getElem?_getD, hk, hi]]
      simp only [scS, Int.toNat_natCast, show xss.getD i (true, []) = xss[i] by simp [List.getD_eq_getElem?_getD, hin], hf2]
    have hlq := lq_len (bs := (scT xss ord k).1)
    have hsol := hs.ol
    have hsbl := hs.bl
    rw [hnext]
    simp only
    generalize (scT xss ord k).1 = bs at *
    generalize (scT xss ord k).2 = out at *
    have hio : i < out.length := by omega
    have hfst := mFstL_at xss[i].1 xss[i].2 false (lq bs) a hf1
    have hset : (out.map int).set i (.v (.int .i64 (a : Int))) = (out.set i (a : Int)).map int := by rw [List.map_set]; rfl
    have hdel := mDelS_at (lq bs) (out.set i (a : Int)) i (by simpa using hio)
    rw [List.getElem_set_self, lq_del hal] at hdel
    have hol' : (out.set i (a : Int)).length = xss.length := by simp [hsol]
    generalize out.set i (a : Int) = out' at *
    generalize bs.set a false = bs' at *
    simp (config := {contextual := true}) [List.range, List.range.loop, ints, intss, int, bool, row, frac, fracs, ← List.map_take, ← List.map_drop, List.all, hk, hi, hin, hio, hfst, hset, hdel, hwk]
    done
  · intro _
    have hs := scT_ok h hr (k := ord.length) (by omega)
    have hsol := hs.ol
    have htk : List.take xss.length (scT xss ord ord.length).2 = (scT xss ord ord.length).2 := List.take_of_length_le (by omega)
    simp (config := {contextual := true}) [List.range, List.range.loop, ints, intss, int, bool, row, frac, fracs, ← List.map_take, ← List.map_drop, List.all, hsol, htk]
    done
end Go.Proofs.YtkfmhpgnhkdebaaGreatDoor.Ax
namespace Go.Proofs.YtkfmhpgnhkdebaaGreatDoor.Ax
open Go Go.RowKit
set_option linter.unusedSimpArgs false
theorem sumF_nil : sumF [] = ((0, 1), true) := by simp [sumF, sumTo]
abbrev Tk := (Int × Int) × Bool × List Int
def tick (t : Tk) : AV := .agg [.v (.int .i64 t.1.1), .v (.int .i64 t.1.2), .sl t.2.1 1 (t.2.2.map int)]
def tks (nl : Bool) (ts : List Tk) : AV := .sl nl 3 (ts.map tick)
theorem tick_inj {a b : Tk} (h : tick a = tick b) : a = b := by
  obtain ⟨⟨a1, a2⟩, a3, a4⟩ := a
  obtain ⟨⟨b1, b2⟩, b3, b4⟩ := b
  simp [tick, map_int_inj] at h
  obtain ⟨rfl, rfl, rfl, rfl⟩ := h
  rfl
theorem map_tick_inj {a b : List Tk} : a.map tick = b.map tick ↔ a = b := List.map_inj_right fun _ _ h => tick_inj h
def tkB (n : Int) (t : Tk) : Bool := rankB n t.2.2 && (fracOk t.1 && decide (0 ≤ t.1.1))
def ws (ts : List Tk) (i : Nat) (x : Int) (k : Nat) : List (Int × Int) := ((ts.take k).filter fun t => decide (at0 t.2.2 i = x)).map (·.1)
theorem ws_zero {ts : List Tk} {i : Nat} {x : Int} : ws ts i x 0 = [] := by simp [ws]
theorem ws_yes {ts : List Tk} {i : Nat} {x : Int} {k : Nat} (hk : k < ts.length) (h : at0 ts[k].2.2 i = x) : ws ts i x (k + 1) = ws ts i x k ++ [ts[k].1] := by
  unfold ws
  rw [List.take_succ_eq_append_getElem hk, List.filter_append, List.map_append, List.filter_cons, if_pos (decide_eq_true h)]
  rfl
theorem ws_no {ts : List Tk} {i : Nat} {x : Int} {k : Nat} (hk : k < ts.length) (h : at0 ts[k].2.2 i ≠ x) : ws ts i x (k + 1) = ws ts i x k := by
  unfold ws
  rw [List.take_succ_eq_append_getElem hk, List.filter_append, List.map_append, List.filter_cons, if_neg (by simpa using h)]
  simp
theorem ws_len {ts : List Tk} {i : Nat} {x : Int} {k : Nat} : (ws ts i x k).length ≤ k := by
  unfold ws
  rw [List.length_map]
  exact Nat.le_trans (List.length_filter_le _ _) (by rw [List.length_take]; omega)
def cel (ts : List Tk) (k : Nat) (i x : Nat) : (Int × Int) × Bool := sumF (ws ts i x k)
def kk (k j i : Nat) : Nat := if i < j then k + 1 else k
def rowK (ts : List Tk) (n k j i : Nat) : List (Int × Int) := (List.range n).map fun x => (cel ts (kk k j i) i x).1
def mixK (ts : List Tk) (n k j : Nat) : List (Bool × List (Int × Int)) := (List.range n).map fun i => (false, rowK ts n k j i)
theorem rowK_len {ts : List Tk} {n k j i : Nat} : (rowK ts n k j i).length = n := by simp [rowK]
theorem mixK_len {ts : List Tk} {n k j : Nat} : (mixK ts n k j).length = n := by simp [mixK]
theorem rowK_get {ts : List Tk} {n k j i x : Nat} (h : x < (rowK ts n k j i).length) : (rowK ts n k j i)[x] = (cel ts (kk k j i) i x).1 := by simp [rowK]
def mixA (ts : List Tk) (n : Nat) : List (Bool × List (Int × Int)) := mixK ts n ts.length 0
def mixB (ts : List Tk) (n : Int) : Bool := inR 1 4 n && (inR 1 30 ts.length && (ts.all (tkB n) && lotB (mixA ts n.toNat)))
def mixT (ts : List Tk) (n : Int) : List (Bool × List (Int × Int)) := if mixB ts n = true then mixA ts n.toNat else []
end Go.Proofs.YtkfmhpgnhkdebaaGreatDoor.Ax
namespace Go.Proofs.YtkfmhpgnhkdebaaGreatDoor.Ax
open Go Go.RowKit
set_option linter.unusedSimpArgs false
end Go.Proofs.YtkfmhpgnhkdebaaGreatDoor.Ax
