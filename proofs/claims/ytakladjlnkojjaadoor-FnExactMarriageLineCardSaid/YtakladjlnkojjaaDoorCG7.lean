/-
  Contract: ProposeMen (the reference). No condition.
-/
import Derived.Test.YtakladjlnkojjaaDoorCG6
namespace Go.Proofs.YtakladjlnkojjaaDoor.Ax
open Go Go.RowKit
set_option linter.unusedSimpArgs false

/-- Minus ones so far, zeros behind. -/
def mone (n g : Nat) : List Int := List.replicate g (-1) ++ List.replicate (n - g) 0
theorem mone_len {n g : Nat} (h : g ≤ n) : (mone n g).length = n := by simp [mone]; omega
theorem mone_set {n g : Nat} (h : g < n) : ((mone n g).map int).set g (.v (.int .i64 (-1))) = (mone n (g + 1)).map int := by
  have : AV.v (.int .i64 (-1)) = int (-1) := rfl
  rw [this, ← List.map_set]
  congr 1
  unfold mone
  rw [List.set_append_right _ _ (by simp), List.length_replicate, Nat.sub_self, show n - g = (n - (g + 1)) + 1 by omega, List.replicate_succ, List.set_cons_zero, List.replicate_succ']
  simp
theorem mone_all {n : Nat} : mone n n = List.replicate n (-1) := by simp [mone]

set_option maxRecDepth 8000 in
set_option maxHeartbeats 4000000 in
theorem specPro_ok : FnOk Tryd.prog 43 mPro := by
  refine mk_ok fun ⟨b, xs, c, ys⟩ h => ?_
  simp only at h
  have hG : FnsOk Tryd.prog [(42, mMar), (72, mPos), (73, mPref)] := (.cons specMar_ok (.cons placeOf_ok (.cons specPref_ok .nil)))
  refine callOk_awp (ctx_ok eqOk hG) mixed (live := [true, true, true, true, true, true, true, true, true, true, true, true, false, false, true, false, false, false, false, false, false, false, false, false, false, true, true, true, false, false, false, false, false, false, false, false, false, false, false, true, false, false, false, false, false, false, false, false, false, false, false, false, false, false, false, false, false, false, false, false, false, false, false, false, false, false, false, false, false, false, false, false, false, false, false, false, false, false, true, false, false, false, false, true]) (dt := [(17, ⟨[], [], []⟩), (20, ⟨[], [], []⟩)]) Tryd.func43 rfl (by kernel_rfl) (by kernel_rfl) fun w0 hlens => ?_
  clear hlens
  obtain ⟨hk, hr, hry, hn1, hn5⟩ := mar_ok h
  have hb1 : 8 * xs.length ≤ 281474976710656 := by omega
  have hb2 : xs.length ≤ 4611686018427387904 := by omega
  have hyl := hk.len
  have hok := fun k => gsT_ok hk hr (k := k)
  have hend := fun k (h : gsI (gsT xs ys k) < 0) => gsT_end hk hr h
  have hpos : ∀ s : Gs, pos s.wm (-1) = gsI s := fun _ => rfl
  have hz : gsT xs ys 0 = ⟨List.replicate xs.length (-1), List.replicate xs.length (-1), List.replicate xs.length 0, 0⟩ := rfl
  have ht : ys.take xs.length = ys := List.take_of_length_le (by omega)
  simp [Tryd.f43, List.range, List.range.loop, ints, intss, int, bool, row, frac, fracs, ← List.map_take, ← List.map_drop, mkt, mMar_at, h, hb1, hb2, hyl, ht]
  refine awp_range (live := [true, true, true, true, true, true, true, true, true, true, true, true, false, false, true, false, false, false, false, false, false, false, false, false, false, true, true, true, false, false, false, false, false, false, false, false, false, false, false, true, false, false, false, false, false, false, false, false, false, false, false, false, false, false, false, false, false, false, false, false, false, false, false, false, false, false, false, false, false, false, false, false, false, false, false, false, false, false, true, false, false, false, false, true]) (ctx_ok eqOk hG) mixed [false, true, false, false, false, true, true, true, false, false, false, false, false, false, false, false, false, false, false, false, false, false, false, false, false, true, true] (xs.length) (fun g => True) (fun g => ⟨[.junk, .ptr 0 [] 0 0, .junk, .junk, .junk, .ref 1 [] 0 xs.length, .ref 2 [] 0 xs.length, .ref 3 [] 0 xs.length, .junk, .junk, .junk, .junk, .junk, .junk, .junk, .junk, .junk, .junk, .junk, .junk, .junk, .junk, .junk, .junk, .junk, int xs.length, int g, .junk, .junk, .junk, .junk, .junk, .junk, .junk, .junk, .junk, .junk, .junk, .junk, .junk, .junk, .junk, .junk, .junk, .junk, .junk, .junk, .junk, .junk, .junk, .junk, .junk, .junk, .junk, .junk, .junk, .junk, .junk, .junk, .junk, .junk, .junk, .junk, .junk, .junk, .junk, .junk, .junk, .junk, .junk, .junk, .junk, .junk, .junk, .junk, .junk, .junk, .junk, .junk, .junk, .junk, .junk, .junk, .junk, .junk, .junk, .junk, .junk, .junk, .junk, .junk, .junk, .junk, .junk, .junk, .junk, .junk, .junk], [⟨false, .sl false 2 [.agg [.sl b 1 (xs.map row), .sl c 1 (ys.map row)]]⟩, ⟨true, .sl false 1 ((mone xs.length g).map int)⟩, ⟨true, .sl false 1 ((mone xs.length g).map int)⟩, ⟨true, .sl false 1 ((List.replicate xs.length 0).map int)⟩]⟩) ?_ (by simp [sub, slotsLe, clean, keep, refsL, refs, once, place, renL, ren, List.replicate, int, bool, mone, hyl]) ?_ ?_ ?_
  · omega
  · trivial
  · intro g hg _ hwg
    have hs := mone_set hg
    have hl := mone_len (n := xs.length) (g := g) (by omega)
    have hl2 := mone_len (n := xs.length) (g := g + 1) (by omega)
    simp [List.range, List.range.loop, ints, intss, int, bool, row, frac, fracs, ← List.map_take, ← List.map_drop, hg, hwg, hl, hl2, hs]
  · intro _
    have hma := mone_all (n := xs.length)
    simp [List.range, List.range.loop, ints, intss, int, bool, row, frac, fracs, ← List.map_take, ← List.map_drop, hma]
    refine awp_loop_of (live := [true, true, true, true, true, true, true, true, true, true, true, true, false, false, true, false, false, false, false, false, false, false, false, false, false, true, true, true, false, false, false, false, false, false, false, false, false, false, false, true, false, false, false, false, false, false, false, false, false, false, false, false, false, false, false, false, false, false, false, false, false, false, false, false, false, false, false, false, false, false, false, false, false, false, false, false, false, false, true, false, false, false, false, true]) (ctx_ok eqOk hG) mixed [false, true, false, false, false, true, true, true, false, true] (α := {k : Nat // (gsT xs ys k).ct = k}) (fun k => ⟨[.junk, .ptr 0 [] 0 0, .junk, .junk, .junk, .ref 1 [] 0 xs.length, .ref 2 [] 0 xs.length, .ref 3 [] 0 xs.length, .junk, int k.1, .junk, .junk, .junk, .junk, .junk, .junk, .junk, .junk, .junk, .junk, .junk, .junk, .junk, .junk, .junk, .junk, .junk, .junk, .junk, .junk, .junk, .junk, .junk, .junk, .junk, .junk, .junk, .junk, .junk, .junk, .junk, .junk, .junk, .junk, .junk, .junk, .junk, .junk, .junk, .junk, .junk, .junk, .junk, .junk, .junk, .junk, .junk, .junk, .junk, .junk, .junk, .junk, .junk, .junk, .junk, .junk, .junk, .junk, .junk, .junk, .junk, .junk, .junk, .junk, .junk, .junk, .junk, .junk, .junk, .junk, .junk, .junk, .junk, .junk, .junk, .junk, .junk, .junk, .junk, .junk, .junk, .junk, .junk, .junk, .junk, .junk, .junk, .junk], [⟨false, .sl false 2 [.agg [.sl b 1 (xs.map row), .sl c 1 (ys.map row)]]⟩, ⟨true, .sl false 1 ((gsT xs ys k.1).wm.map int)⟩, ⟨true, .sl false 1 ((gsT xs ys k.1).mn.map int)⟩, ⟨true, .sl false 1 ((gsT xs ys k.1).ak.map int)⟩]⟩) (fun k => xs.length * xs.length + 1 - k.1) ⟨0, rfl⟩ (by simp [sub, slotsLe, clean, keep, refsL, refs, once, place, renL, ren, List.replicate, int, bool, hz, hyl]) ?_
    rintro ⟨k, hct⟩
    simp only
    have hsk : gsT xs ys (k + 1) = if gsI (gsT xs ys k) < 0 then gsT xs ys k else gsS xs ys (gsT xs ys k) := rfl
    have hs := hok k
    have hs1 := hok (k + 1)
    have hp00 : mPos [.sl false 1 ((gsT xs ys k).wm.map int), .v (.int .i64 (-1))] = some (.v (.int .i64 (gsI (gsT xs ys k)))) := mPos_at false _ _
    by_cases hneg : gsI (gsT xs ys k) < 0
    · have he := hend k hneg
      have hn0 : ¬ 0 ≤ gsI (gsT xs ys k) := by omega
      have hwl := hs.wl
      have htk : List.take xs.length (gsT xs ys k).wm = (gsT xs ys k).wm := List.take_of_length_le (by omega)
      simp [List.range, List.range.loop, ints, intss, int, bool, row, frac, fracs, ← List.map_take, ← List.map_drop, hn0, hneg, hwl, htk, hp00]
      rw [← he, hct]
      exact ⟨rfl, rfl⟩
    · have h0 : 0 ≤ gsI (gsT xs ys k) := by omega
      rw [if_neg hneg] at hsk
      have hct1 := (gsS_ok hk hr hs h0).2
      have hcn := gs_ct hs1
      obtain ⟨I, J, W, M, r, q, F⟩ := gsF hk hr hs h0
      rw [← hsk] at hct1
      have hmeas : k + 1 ≤ xs.length * xs.length := by omega
      have hct2 : (gsT xs ys (k + 1)).ct = k + 1 := by omega
      have hp1 : mPos [.sl false 1 ((gsT xs ys (k + 1)).wm.map int), .v (.int .i64 (-1))] = some (.v (.int .i64 (gsI (gsT xs ys (k + 1))))) := mPos_at false _ _
      have hkk : xs.length * xs.length ≤ 25 := Nat.mul_le_mul hn5 hn5
      obtain ⟨f1, f2, f3, f4, f5, f6, f7, f8, f9, f10, f11, f12, f13, f14, f15, f16, f17, f18⟩ := F
      have wJ : IntKind.i64.wrap ((J : Int) + 1) = (J : Int) + 1 := wrapI (by omega) (by omega)
      have wk : IntKind.i64.wrap ((k : Int) + 1) = (k : Int) + 1 := wrapI (by omega) (by omega)
      have g3 : xs[I] = r := (List.getElem?_eq_some_iff.1 f3).2
      have hWy : W < ys.length := by omega
      have g9 : ys[W] = q := (List.getElem?_eq_some_iff.1 f9).2
      have hJr : J < r.2.length := by omega
      have g7 : r.2[J] = (W : Int) := (List.getElem?_eq_some_iff.1 f7).2
      have hIa : I < (gsT xs ys k).ak.length := by omega
      have hWm : W < (gsT xs ys k).mn.length := by omega
      have hIw : I < (gsT xs ys k).wm.length := by omega
      have g5 : (gsT xs ys k).ak[I] = (J : Int) := (List.getElem?_eq_some_iff.1 f5).2
      have g10 : (gsT xs ys k).mn[W] = M := (List.getElem?_eq_some_iff.1 f10).2
      have hI0 : (0 : Int) ≤ (I : Int) := by omega
      have hIn : ¬ (I : Int) < 0 := by omega
      have tWm : List.take xs.length (gsT xs ys k).wm = (gsT xs ys k).wm := List.take_of_length_le (by omega)
      have hql : q.2.length = xs.length := hry q (by rw [← g9]; exact List.getElem_mem _)
      have hpf := mPref_at q.1 q.2 I M
      have tr : List.take xs.length r.2 = r.2 := List.take_of_length_le (by omega)
      have tq : List.take xs.length q.2 = q.2 := List.take_of_length_le (by omega)
      rw [hsk] at hp1
      have hnext : ∀ (wm mn ak : List Int), gsS xs ys (gsT xs ys k) = ⟨wm, mn, ak, (gsT xs ys k).ct + 1⟩ → gsT xs ys (k + 1) = ⟨wm, mn, ak, k + 1⟩ := fun wm mn ak e => by rw [hsk, e, hct]
      have eA : ((gsT xs ys k).ak.map int).set I (.v (.int .i64 ((J : Int) + 1))) = ((gsT xs ys k).ak.set I ((J : Int) + 1)).map int := by rw [List.map_set]; rfl
      have eM : ((gsT xs ys k).mn.map int).set W (.v (.int .i64 (I : Int))) = ((gsT xs ys k).mn.set W (I : Int)).map int := by rw [List.map_set]; rfl
      have eW : ((gsT xs ys k).wm.map int).set I (.v (.int .i64 (W : Int))) = ((gsT xs ys k).wm.set I (W : Int)).map int := by rw [List.map_set]; rfl
      have lA : ((gsT xs ys k).ak.set I ((J : Int) + 1)).length = xs.length := by simp [f14]
      have lM : ((gsT xs ys k).mn.set W (I : Int)).length = xs.length := by simp [f13]
      have lW : ((gsT xs ys k).wm.set I (W : Int)).length = xs.length := by simp [f12]
      generalize (gsT xs ys k).ak.set I ((J : Int) + 1) = A' at *
      generalize (gsT xs ys k).mn.set W (I : Int) = M' at *
      by_cases hM : M < 0
      · have e := f17 hM
        have en := hnext _ _ _ e
        rw [e] at hp1
        have hM0 : ¬ 0 ≤ M := by omega
        rw [hct] at hp1
        simp only at hp1
        generalize (gsT xs ys k).wm.set I (W : Int) = W' at *
        have tW : List.take xs.length W' = W' := List.take_of_length_le (by omega)
        simp [List.range, List.range.loop, ints, intss, int, bool, row, frac, fracs, ← List.map_take, ← List.map_drop, hp00, tWm, f1, hI0, hIn, f2, f3, f4, f5, f6, f7, f8, f9, f10, f12, f13, f14, g3, g5, g7, g10, hJr, wJ, wk, hyl, tr, hM0, hM, eA, eM, eW, lA, lM, lW, tW, hp1]
        exact ⟨⟨k + 1, hct2⟩, by simp [sub, slotsLe, clean, keep, refsL, refs, once, place, renL, ren, List.replicate, int, bool, en], by simp; omega⟩
      · have hM0 : 0 ≤ M := by omega
        cases hpb : pfB q.2 M (I : Int) with
        | true =>
          have e := f15 hM0 hpb
          have en := hnext _ _ _ e
          rw [e] at hp1
          rw [f18 hM0, hpb] at hpf
          rw [hct] at hp1
          simp only at hp1
          have tW : List.take xs.length (gsT xs ys k).wm = (gsT xs ys k).wm := List.take_of_length_le (by omega)
          simp [List.range, List.range.loop, ints, intss, int, bool, row, frac, fracs, ← List.map_take, ← List.map_drop, hp00, tWm, f1, hI0, hIn, f2, f3, f4, f5, f6, f7, f8, f9, f10, f12, f13, f14, g3, g5, g7, g9, g10, hJr, hWy, wJ, wk, hyl, tr, tq, hql, hM0, hM, eA, lA, tW, hpf, hp1]
          exact ⟨⟨k + 1, hct2⟩, by simp [sub, slotsLe, clean, keep, refsL, refs, once, place, renL, ren, List.replicate, int, bool, en], by simp; omega⟩
        | false =>
          have e := f16 hM0 hpb
          have en := hnext _ _ _ e
          rw [e] at hp1
          rw [f18 hM0, hpb] at hpf
          rw [hct] at hp1
          simp only at hp1
          have hMl : M.toNat < xs.length := by omega
          have eV : ((gsT xs ys k).wm.map int).set M.toNat (.v (.int .i64 (-1))) = ((gsT xs ys k).wm.set M.toNat (-1)).map int := by rw [List.map_set]; rfl
          have lV : ((gsT xs ys k).wm.set M.toNat (-1)).length = xs.length := by simp [f12]
          generalize (gsT xs ys k).wm.set M.toNat (-1) = V' at *
          have eW' : (V'.map int).set I (.v (.int .i64 (W : Int))) = (V'.set I (W : Int)).map int := by rw [List.map_set]; rfl
          have lW' : (V'.set I (W : Int)).length = xs.length := by simp [lV]
          generalize V'.set I (W : Int) = W' at *
          have tW : List.take xs.length W' = W' := List.take_of_length_le (by omega)
          simp [List.range, List.range.loop, ints, intss, int, bool, row, frac, fracs, ← List.map_take, ← List.map_drop, hp00, tWm, f1, hI0, hIn, f2, f3, f4, f5, f6, f7, f8, f9, f10, f12, f13, f14, g3, g5, g7, g9, g10, hJr, hWy, wJ, wk, hyl, tr, tq, hql, hM0, hM, hMl, eA, eM, eV, eW', lA, lM, lV, lW', tW, hpf, hp1]
          exact ⟨⟨k + 1, hct2⟩, by simp [sub, slotsLe, clean, keep, refsL, refs, once, place, renL, ren, List.replicate, int, bool, en], by simp; omega⟩

end Go.Proofs.YtakladjlnkojjaaDoor.Ax

/-
  Contracts: copies of rankings, TurnMarket, ProposeWomen (both programs). No condition.
-/
namespace Go.Proofs.YtakladjlnkojjaaDoor.Ax
open Go Go.RowKit
set_option linter.unusedSimpArgs false

noncomputable def mCopyM : List AV → Option AV := mk (fun p => 1 ≤ p.2.length ∧ p.2.length ≤ 5 ∧ ∀ r ∈ p.2, 1 ≤ r.2.length ∧ r.2.length ≤ 5) (fun (p : (Bool) × (List (Bool × List Int))) => [intss p.1 p.2]) (fun p => intss false p.2)
theorem mCopyM_at (nl : Bool) (xss : List (Bool × List Int)) (hpre : 1 ≤ xss.length ∧ xss.length ≤ 5 ∧ ∀ r ∈ xss, 1 ≤ r.2.length ∧ r.2.length ≤ 5) : mCopyM [.sl nl 1 (xss.map row)] = some (intss false xss) :=
  mk_eq (enc := fun (p : (Bool) × (List (Bool × List Int))) => [intss p.1 p.2]) (x := (nl, xss)) (by rintro ⟨a0, a1⟩ ⟨b0, b1⟩ h; simp [ints, intss, int, bool, row, frac, fracs, map_int_inj, map_row_inj, frac_inj, map_frac_inj] at h; simp [h]) hpre

set_option maxHeartbeats 1000000 in
theorem implCopyM_ok : (FnOk Tryd.prog 108 mCopyM) := by
  refine mk_ok fun ⟨nl, xss⟩ ⟨h0, h5, hrw⟩ => ?_
  simp only at h0 h5 hrw
  have hG : FnsOk Tryd.prog [(98, mClone)] := (.cons clone_ok .nil)
  refine callOk_awp (ctx_ok eqOk hG) mixed (live := [true, false, true, true, false, true, true, true, true, true]) (dt := []) Tryd.func108 rfl (by kernel_rfl) (by kernel_rfl) fun w0 hlens => ?_
  have hp : plain xss := fun r hr => by
    have h1 := (lens_intss.1 hlens.1).2 r hr
    have h2 := (hrw r hr).1
    cases hb : r.1 with
    | false => rfl
    | true => rw [h1.2 hb] at h2; simp at h2
  clear hlens
  simp (config := {contextual := true}) [Tryd.f108, List.range, List.range.loop, ints, intss, int, bool, row, frac, fracs, ← List.map_take, ← List.map_drop]
  refine awp_range (live := [true, false, true, true, false, true, true, true, true, true]) (ctx_ok eqOk hG) mixed [false, false, false, true, false, false, true, true, true] (xss.length) (fun k => True) (fun k => ⟨[.junk, .junk, .junk, apC k, .junk, .junk, intss nl xss, int xss.length, int k, .junk, .junk, .junk, .junk, .junk, .junk, .junk, .junk, .junk, .junk], apD ((xss.take k).map row) k⟩) ?_ (by simp [sub, slotsLe, clean, keep, refsL, refs, once, place, renL, ren, List.replicate, int, bool, intss, apC, apD, apE]) ?_ ?_ ?_
  · omega
  · trivial
  · intro k hk _ hwk
    have hrow := hrw _ (List.getElem_mem hk)
    have hf : xss[k].1 = false := hp _ (List.getElem_mem hk)
    have hcl := mClone_at false xss[k].2 (by omega)
    have hlt : xss[k].2.length ≤ 4611686018427387904 ∧ xss[k].2.length * 8 ≤ 140737488355328 := by omega
    have hb8 : k + 1 ≤ 4611686018427387904 ∧ (k + 1) * 24 ≤ 140737488355328 := by omega
    have hw1 : IntKind.i64.wrap ((k : Int) + 1) = (k : Int) + 1 := hwk
    have htl : (xss.take k).length = k := by simp; omega
    cases k with
    | zero =>
      have hwk1 : IntKind.i64.wrap 1 = 1 := by decide
      have htr := (take_row hp hk).symm
      simp only [List.take_zero, List.map_nil, List.nil_append] at htr
      rw [Nat.zero_add] at htr
      simp (config := {contextual := true}) [List.range, List.range.loop, ints, intss, int, bool, row, frac, fracs, ← List.map_take, ← List.map_drop, apC, apD, apE, h0, hk, hf, hcl, htr, hlt, hb8, hwk1]
    | succ k =>
      have htr := take_row hp hk
      simp (config := {contextual := true}) [List.range, List.range.loop, ints, intss, int, bool, row, frac, fracs, ← List.map_take, ← List.map_drop, apC, apD, apE, hk, hf, hcl, htr, hlt, hb8, hwk, htl]
      exact wrapI (by omega) (by omega)
  · intro _
    obtain ⟨m, hm⟩ : ∃ m, xss.length = m + 1 := ⟨xss.length - 1, by omega⟩
    have ht : xss.take (m + 1) = xss := List.take_of_length_le (by omega)
    rw [hm]
    simp (config := {contextual := true}) [List.range, List.range.loop, ints, intss, int, bool, row, frac, fracs, ← List.map_take, ← List.map_drop, apC, apD, apE, ht, hm]

set_option maxHeartbeats 1000000 in
theorem specCopyM_ok : (FnOk Tryd.prog 104 mCopyM) := by
  refine mk_ok fun ⟨nl, xss⟩ ⟨h0, h5, hrw⟩ => ?_
  simp only at h0 h5 hrw
  have hG : FnsOk Tryd.prog [] := .nil
  refine callOk_awp (ctx_ok eqOk hG) mixed (live := [true, false, true, true, false, true, false, true, true, true, true]) (dt := []) Tryd.func104 rfl (by kernel_rfl) (by kernel_rfl) fun w0 hlens => ?_
  have hp : plain xss := fun r hr => by
    have h1 := (lens_intss.1 hlens.1).2 r hr
    have h2 := (hrw r hr).1
    cases hb : r.1 with
    | false => rfl
    | true => rw [h1.2 hb] at h2; simp at h2
  clear hlens
  simp (config := {contextual := true}) [Tryd.f104, List.range, List.range.loop, ints, intss, int, bool, row, frac, fracs, ← List.map_take, ← List.map_drop]
  refine awp_range (live := [true, false, true, true, false, true, false, true, true, true, true]) (ctx_ok eqOk hG) mixed [false, false, false, true, false, false, false, true, true, true] (xss.length) (fun k => True) (fun k => ⟨[.junk, .junk, .junk, .ref 0 [] 0 k, .junk, .junk, .junk, intss nl xss, int xss.length, int k, .junk, .junk, .junk, .junk, .junk, .junk, .junk, .junk, .junk, .junk, .junk], apE ((xss.take k).map row)⟩) ?_ (by simp [sub, slotsLe, clean, keep, refsL, refs, once, place, renL, ren, List.replicate, int, bool, intss, apC, apD, apE]) ?_ ?_ ?_
  · omega
  · trivial
  · intro k hk _ hwk
    have hrow := hrw _ (List.getElem_mem hk)
    have hf : xss[k].1 = false := hp _ (List.getElem_mem hk)
    have hcl := mClone_at false xss[k].2 (by omega)
    have hlt : xss[k].2.length ≤ 4611686018427387904 ∧ xss[k].2.length * 8 ≤ 140737488355328 := by omega
    have hb8 : k + 1 ≤ 4611686018427387904 ∧ (k + 1) * 24 ≤ 140737488355328 := by omega
    have hw1 : IntKind.i64.wrap ((k : Int) + 1) = (k : Int) + 1 := hwk
    have htl : (xss.take k).length = k := by simp; omega
    cases k with
    | zero =>
      have hwk1 : IntKind.i64.wrap 1 = 1 := by decide
      have htr := (take_row hp hk).symm
      simp only [List.take_zero, List.map_nil, List.nil_append] at htr
      rw [Nat.zero_add] at htr
      simp (config := {contextual := true}) [List.range, List.range.loop, ints, intss, int, bool, row, frac, fracs, ← List.map_take, ← List.map_drop, apC, apD, apE, h0, hk, hf, hcl, htr, hlt, hb8, hwk1]
    | succ k =>
      have htr := take_row hp hk
      simp (config := {contextual := true}) [List.range, List.range.loop, ints, intss, int, bool, row, frac, fracs, ← List.map_take, ← List.map_drop, apC, apD, apE, hk, hf, hcl, htr, hlt, hb8, hwk, htl]
      exact wrapI (by omega) (by omega)
  · intro _
    obtain ⟨m, hm⟩ : ∃ m, xss.length = m + 1 := ⟨xss.length - 1, by omega⟩
    have ht : xss.take (m + 1) = xss := List.take_of_length_le (by omega)
    rw [hm]
    simp (config := {contextual := true}) [List.range, List.range.loop, ints, intss, int, bool, row, frac, fracs, ← List.map_take, ← List.map_drop, apC, apD, apE, ht, hm]

theorem marB_turn {xs ys : List (Bool × List Int)} (h : marB xs ys = true) : marB ys xs = true := by
  simp only [marB, Bool.and_eq_true, inR, decide_eq_true_eq] at h ⊢
  obtain ⟨⟨⟨h1, h2⟩, h3⟩, h4⟩ := h
  rw [h2]
  exact ⟨⟨⟨h1, rfl⟩, h4⟩, h3⟩
noncomputable def mTurnM : List AV → Option AV := mk (fun p => marB p.2.1 p.2.2.2 = true) (fun (p : Bool × List (Bool × List Int) × Bool × List (Bool × List Int)) => [mkt p.1 p.2.1 p.2.2.1 p.2.2.2]) (fun p => .tup [mkt false p.2.2.2 false p.2.1, .v (.bool true)])
theorem mTurnM_at (b : Bool) (xs : List (Bool × List Int)) (c : Bool) (ys : List (Bool × List Int)) (h : marB xs ys = true) : mTurnM [.agg [.sl b 1 (xs.map row), .sl c 1 (ys.map row)]] = some (.tup [.agg [.sl false 1 (ys.map row), .sl false 1 (xs.map row)], .v (.bool true)]) :=
  mk_eq (enc := fun (p : Bool × List (Bool × List Int) × Bool × List (Bool × List Int)) => [mkt p.1 p.2.1 p.2.2.1 p.2.2.2]) (x := (b, xs, c, ys)) (fun x y h => by rw [mkt_inj h]) h

set_option maxHeartbeats 1000000 in
theorem implTurnM_ok : FnOk Tryd.prog 82 mTurnM := by
  refine mk_ok fun ⟨b, xs, c, ys⟩ h => ?_
  simp only at h
  have hG : FnsOk Tryd.prog [(46, mMar), (108, mCopyM)] := (.cons implMar_ok (.cons implCopyM_ok .nil))
  refine callOk_awp (ctx_ok eqOk hG) mixed (live := [true, true, true, true, false, false, true]) (dt := [(3, ⟨[], [0, 0, 1, 0, 0, 1], []⟩)]) Tryd.func82 rfl (by kernel_rfl) (by kernel_rfl) fun w0 hlens => ?_
  clear hlens
  obtain ⟨hk, hr, hry, hn1, hn5⟩ := mar_ok h
  have hyl := hk.len
  have c1 := mCopyM_at b xs ⟨hn1, hn5, fun r hr' => by have := hr r hr'; omega⟩
  have c2 := mCopyM_at c ys ⟨by omega, by omega, fun r hr' => by have := hry r hr'; omega⟩
  have ht : ys.take xs.length = ys := List.take_of_length_le (by omega)
  simp [Tryd.f82, List.range, List.range.loop, ints, intss, int, bool, row, frac, fracs, ← List.map_take, ← List.map_drop, mkt, mMar_at, h, c1, c2, hyl, ht]

set_option maxHeartbeats 1000000 in
theorem specTurnM_ok : FnOk Tryd.prog 74 mTurnM := by
  refine mk_ok fun ⟨b, xs, c, ys⟩ h => ?_
  simp only at h
  have hG : FnsOk Tryd.prog [(42, mMar), (104, mCopyM)] := (.cons specMar_ok (.cons specCopyM_ok .nil))
  refine callOk_awp (ctx_ok eqOk hG) mixed (live := [true, true, true, true, false, false, true]) (dt := [(3, ⟨[], [0, 0, 1, 0, 0, 1], []⟩)]) Tryd.func74 rfl (by kernel_rfl) (by kernel_rfl) fun w0 hlens => ?_
  clear hlens
  obtain ⟨hk, hr, hry, hn1, hn5⟩ := mar_ok h
  have hyl := hk.len
  have c1 := mCopyM_at b xs ⟨hn1, hn5, fun r hr' => by have := hr r hr'; omega⟩
  have c2 := mCopyM_at c ys ⟨by omega, by omega, fun r hr' => by have := hry r hr'; omega⟩
  have ht : ys.take xs.length = ys := List.take_of_length_le (by omega)
  simp [Tryd.f74, List.range, List.range.loop, ints, intss, int, bool, row, frac, fracs, ← List.map_take, ← List.map_drop, mkt, mMar_at, h, c1, c2, hyl, ht]

/-- The women propose: whose each one's man is. -/
noncomputable def mProW : List AV → Option AV := mk (fun p => marB p.2.1 p.2.2.2 = true) (fun (p : Bool × List (Bool × List Int) × Bool × List (Bool × List Int)) => [mkt p.1 p.2.1 p.2.2.1 p.2.2.2]) (fun p => .tup [.sl false 1 ((tnT (gsE p.2.2.2 p.2.1).wm p.2.1.length).map int), .v (.int .i64 (gsE p.2.2.2 p.2.1).ct)])
theorem mProW_at (b : Bool) (xs : List (Bool × List Int)) (c : Bool) (ys : List (Bool × List Int)) (h : marB xs ys = true) : mProW [.agg [.sl b 1 (xs.map row), .sl c 1 (ys.map row)]] = some (.tup [.sl false 1 ((tnT (gsE ys xs).wm xs.length).map int), .v (.int .i64 (gsE ys xs).ct)]) :=
  mk_eq (enc := fun (p : Bool × List (Bool × List Int) × Bool × List (Bool × List Int)) => [mkt p.1 p.2.1 p.2.2.1 p.2.2.2]) (x := (b, xs, c, ys)) (fun x y h => by rw [mkt_inj h]) h

set_option maxHeartbeats 1000000 in
theorem implProW_ok : FnOk Tryd.prog 48 mProW := by
  refine mk_ok fun ⟨b, xs, c, ys⟩ h => ?_
  simp only at h
  have hG : FnsOk Tryd.prog [(82, mTurnM), (47, mPro), (83, mTurn)] := (.cons implTurnM_ok (.cons implPro_ok (.cons implTurn_ok .nil)))
  refine callOk_awp (ctx_ok eqOk hG) mixed (live := [true, true, true, true, true, false, true, true]) (dt := []) Tryd.func48 rfl (by kernel_rfl) (by kernel_rfl) fun w0 hlens => ?_
  clear hlens
  have h2 := marB_turn h
  obtain ⟨hk, hr, hry, hn1, hn5⟩ := mar_ok h
  obtain ⟨hk2, hr2, hry2, _, _⟩ := mar_ok h2
  have hyl := hk.len
  have m1 := mTurnM_at b xs c ys h
  have m2 := mPro_at false ys false xs h2
  obtain ⟨g1, g2, g3⟩ := gsE_all hk2 hr2
  have hrk := rank_of (l := (gsE ys xs).wm) (by omega) (by omega) (fun x hx => by have := g2 x hx; omega) g3
  have m3 := mTurn_at false (gsE ys xs).wm hrk
  rw [g1, hyl] at m3
  have ht : ys.take xs.length = ys := List.take_of_length_le (by omega)
  have ht2 : xs.take ys.length = xs := List.take_of_length_le (by omega)
  have g1' : (gsE ys xs).wm.length = xs.length := by omega
  have tl := tnT_len (l := (gsE ys xs).wm) (k := xs.length)
  generalize (gsE ys xs).ct = N at *
  generalize hT : tnT (gsE ys xs).wm xs.length = T at *
  generalize (gsE ys xs).wm = L at *
  have tL : L.take xs.length = L := List.take_of_length_le (by omega)
  simp [Tryd.f48, List.range, List.range.loop, ints, intss, int, bool, row, frac, fracs, ← List.map_take, ← List.map_drop, mkt, m1, m2, m3, hyl, ht, ht2, g1', tl, tL]

set_option maxHeartbeats 1000000 in
theorem specProW_ok : FnOk Tryd.prog 44 mProW := by
  refine mk_ok fun ⟨b, xs, c, ys⟩ h => ?_
  simp only at h
  have hG : FnsOk Tryd.prog [(74, mTurnM), (43, mPro), (75, mTurn)] := (.cons specTurnM_ok (.cons specPro_ok (.cons specTurn_ok .nil)))
  refine callOk_awp (ctx_ok eqOk hG) mixed (live := [true, true, true, true, true, true, true, true, false, false, false, false, false, false, true]) (dt := []) Tryd.func44 rfl (by kernel_rfl) (by kernel_rfl) fun w0 hlens => ?_
  clear hlens
  have h2 := marB_turn h
  obtain ⟨hk, hr, hry, hn1, hn5⟩ := mar_ok h
  obtain ⟨hk2, hr2, hry2, _, _⟩ := mar_ok h2
  have hyl := hk.len
  have m1 := mTurnM_at b xs c ys h
  have m2 := mPro_at false ys false xs h2
  obtain ⟨g1, g2, g3⟩ := gsE_all hk2 hr2
  have hrk := rank_of (l := (gsE ys xs).wm) (by omega) (by omega) (fun x hx => by have := g2 x hx; omega) g3
  have m3 := mTurn_at false (gsE ys xs).wm hrk
  rw [g1, hyl] at m3
  have ht : ys.take xs.length = ys := List.take_of_length_le (by omega)
  have ht2 : xs.take ys.length = xs := List.take_of_length_le (by omega)
  have g1' : (gsE ys xs).wm.length = xs.length := by omega
  have tl := tnT_len (l := (gsE ys xs).wm) (k := xs.length)
  generalize (gsE ys xs).ct = N at *
  generalize hT : tnT (gsE ys xs).wm xs.length = T at *
  generalize (gsE ys xs).wm = L at *
  have tL : L.take xs.length = L := List.take_of_length_le (by omega)
  simp [Tryd.f44, List.range, List.range.loop, ints, intss, int, bool, row, frac, fracs, ← List.map_take, ← List.map_drop, mkt, m1, m2, m3, hyl, ht, ht2, g1', tl, tL]

end Go.Proofs.YtakladjlnkojjaaDoor.Ax
