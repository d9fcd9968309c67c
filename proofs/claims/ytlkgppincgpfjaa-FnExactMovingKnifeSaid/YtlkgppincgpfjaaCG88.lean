/-
  Contracts: MovingKnife (the program). No condition.
-/
import Derived.Test.YtlkgppincgpfjaaCG87
import Derived.Test.YtlkgppincgpfjaaCG61
namespace Go.Proofs.Ytlkgppincgpfjaa.Ax
open Go Go.RowKit
set_option linter.unusedSimpArgs false

noncomputable def mKnife : List AV → Option AV := mk (fun _ => True) (fun (p : (Bool) × (List (Bool × List Int))) => [intss p.1 p.2]) (fun p => .sl (!rectB p.2 3 10 100) 1 ((knL p.2).map int))
theorem mKnife_at (nl : Bool) (xss : List (Bool × List Int)) : mKnife [.sl nl 1 (xss.map row)] = some (.sl (!rectB xss 3 10 100) 1 ((knL xss).map int)) :=
  mk_eq (enc := fun (p : (Bool) × (List (Bool × List Int))) => [intss p.1 p.2]) (x := (nl, xss)) (by rintro ⟨a0, a1⟩ ⟨b0, b1⟩ h; simp [ints, intss, int, bool, row, frac, fracs, map_int_inj, map_row_inj, frac_inj, map_frac_inj] at h; simp [h]) trivial

def capK (nl : Bool) (xss : List (Bool × List Int)) (fr to : Nat) : List AV := [.fp (intss nl xss) 0, .fp (int fr) 0, .fp (int to) 0, .fp (int xss.length) 0]
theorem capK_pure {nl : Bool} {xss : List (Bool × List Int)} {fr to : Nat} : Pure (capK nl xss fr to) := ⟨fun _ => rfl, rfl, fun _ => rfl⟩

theorem knife1 (nl : Bool) (xss : List (Bool × List Int)) (fr to i : Nat) (h : rectB xss 3 10 100 = true) (hi : i < xss.length) (h1 : fr ≤ to) (h2 : to ≤ wid xss) :
    CallOk Try.prog 38 (.v (.int .i64 i) :: capK nl xss fr to) (.v (.bool (shB xss fr to i))) := by
  have hG : FnsOk Try.prog [(39, mSum)] := (.cons sumOf_ok .nil)
  refine callOk_awp (ctx_ok eqOk hG) mixed (live := [true, true, true, true, true, false, true]) (dt := [(1, ⟨[], [], []⟩)]) Try.func38 rfl (by kernel_rfl) (by kernel_rfl) fun w0 hlens => ?_
  have hr := (rect_row h hi).1
  have hs1 := mSum_at xss[i].1 ((xss[i].2.drop fr).take (to - fr))
  have hs2 := mSum_at xss[i].1 xss[i].2
  have hg : xss.getD i (true, []) = xss[i] := getDD hi
  have hto : to ≤ xss[i].2.length := by omega
  have hsh : shB xss fr to i = decide (sumW xss[i].2 ≤ IntKind.i64.wrap (sumW ((xss[i].2.drop fr).take (to - fr)) * xss.length)) := by unfold shB; rw [hg]
  rw [hsh]
  simp (config := {contextual := true}) [Try.f38, List.range, List.range.loop, ints, intss, int, bool, row, frac, fracs, ← List.map_take, ← List.map_drop, capK, hi, h1, hto, hs1, hs2]

noncomputable def mIF (nl : Bool) (xss : List (Bool × List Int)) : List AV → Option AV := mk (fun p : List Int × Nat × Nat => (∀ x ∈ p.1, ∃ i : Nat, x = i ∧ i < xss.length) ∧ p.2.1 ≤ p.2.2 ∧ p.2.2 ≤ wid xss) (fun p => [ints false p.1, .fn 38 (capK nl xss p.2.1 p.2.2)]) (fun p => int (idxOf (fun i => shB xss p.2.1 p.2.2 i.toNat) p.1))
theorem mIF_ok {nl : Bool} {xss : List (Bool × List Int)} (h : rectB xss 3 10 100 = true) : FnOk Try.prog 37 (mIF nl xss) := by
  refine mk_ok fun p hp => ?_
  obtain ⟨h1, h2, h3⟩ := hp
  exact indexInts capK_pure (fun i => shB xss p.2.1 p.2.2 i.toNat) false p.1 fun x hx => by
    obtain ⟨i, rfl, hi⟩ := h1 x hx
    exact knife1 nl xss p.2.1 p.2.2 i h hi h2 h3
theorem mIF_at {nl : Bool} {xss : List (Bool × List Int)} (dn : List Bool) (fr to : Nat) (h : dn.length = xss.length) (h1 : fr ≤ to) (h2 : to ≤ wid xss) :
    mIF nl xss [.sl false 1 ((lf dn).map int), .fn 38 [.fp (.sl nl 1 (xss.map row)) 0, .fp (.v (.int .i64 fr)) 0, .fp (.v (.int .i64 to)) 0, .fp (.v (.int .i64 xss.length)) 0]] = some (.v (.int .i64 (tkAt xss dn fr to))) :=
  mk_eq (enc := fun p : List Int × Nat × Nat => [ints false p.1, .fn 38 (capK nl xss p.2.1 p.2.2)]) (x := (lf dn, fr, to)) (by
    rintro ⟨a, b, c⟩ ⟨d, e, f⟩ hh
    simp [ints, capK, int, map_int_inj] at hh
    obtain ⟨rfl, h3, h4⟩ := hh
    simp only
    rw [show b = e by omega, show c = f by omega]) ⟨fun x hx => by obtain ⟨i, e, hi, _⟩ := lf_mem hx; exact ⟨i, e, by omega⟩, h1, h2⟩

/-- What is given so far, in a list of the whole length. -/
def ka (out : List Int) (x : Int) (fr j p : Nat) : List Int := out ++ List.replicate (j - fr) x ++ List.replicate (p - j) 0
theorem ka_len {out : List Int} {x : Int} {fr j p : Nat} (h0 : out.length = fr) (h1 : fr ≤ j) (h2 : j ≤ p) : (ka out x fr j p).length = p := by simp [ka, h0]; omega
theorem ka_set {out : List Int} {x : Int} {fr j p : Nat} (h0 : out.length = fr) (h1 : fr ≤ j) (h2 : j < p) : ((ka out x fr j p).map int).set j (.v (.int .i64 x)) = (ka out x fr (j + 1) p).map int := by
  have : AV.v (.int .i64 x) = int x := rfl
  rw [this, ← List.map_set]
  congr 1
  unfold ka
  rw [List.set_append_right _ _ (by simp [h0]; omega)]
  have e1 : j - (out ++ List.replicate (j - fr) x).length = 0 := by simp [h0]; omega
  have e2 : List.replicate (p - j) (0 : Int) = 0 :: List.replicate (p - (j + 1)) 0 := by
    rw [show p - j = (p - (j + 1)) + 1 by omega, List.replicate_succ]
  have e3 : List.replicate (j + 1 - fr) x = List.replicate (j - fr) x ++ [x] := by
    rw [show j + 1 - fr = (j - fr) + 1 by omega, List.replicate_succ']
  rw [e1, e2, e3]
  simp
theorem ka_start {out : List Int} {x y : Int} {fr p : Nat} : ka out x fr fr p = ka out y fr fr p := by simp [ka]
theorem ka_next {out : List Int} {x y : Int} {fr to p : Nat} : ka out x fr to p = ka (out ++ List.replicate (to - fr) x) y to to p := by simp [ka]

theorem knife_no (nl : Bool) (xss : List (Bool × List Int)) (h : rectB xss 3 10 100 = false) : CallOk Try.prog 15 [intss nl xss] (.sl true 1 []) := by
  have hG : FnsOk Try.prog [(35, (mGrid 3 10 100)), (36, mIdx)] := (.cons implCakeOk_ok (.cons indices_ok .nil))
  have hM : FnsMut Try.prog [] := .nil
  have hV : FnsMov Try.prog [(40, mDel)] := (.cons delete_ok .nil)
  refine callOk_awp (ctxV_ok eqOk hG hM hV) mixed (live := [true, true, true, true, true, true, true, true, true, true, true, true, false, false, true, false, false, false, false, false, false, false, false, false, false, false, false, false, false, false, false, false, true, false, false, false, false, false, false, true, false, false, false, true, false, false, false, false, false, false, false, false, false, false, false, false, false, false, false, true, false, false, false, true]) (dt := [(3, ⟨[(2, 7), (3, 7), (4, 7), (5, 7)], [0, 0, 0, 0, 0, 0, 1], []⟩)]) Try.func15 rfl (by kernel_rfl) (by kernel_rfl) fun w0 hlens => ?_
  simp (config := {contextual := true}) [Try.f15, List.range, List.range.loop, ints, intss, int, bool, row, frac, fracs, ← List.map_take, ← List.map_drop, List.all, mGrid_at, h]

set_option maxRecDepth 8000 in
set_option maxHeartbeats 4000000 in
theorem knife_yes (nl : Bool) (xss : List (Bool × List Int)) (h : rectB xss 3 10 100 = true) : CallOk Try.prog 15 [intss nl xss] (.sl false 1 ((knL xss).map int)) := by
  have hI := mIF_ok (nl := nl) h
  have h0 := rect_pos h
  have hl := rect_len h
  have hr0 := (rect_row h h0).1
  have hG : FnsOk Try.prog [(35, (mGrid 3 10 100)), (36, mIdx), (37, (mIF nl xss))] := (.cons implCakeOk_ok (.cons indices_ok (.cons hI .nil)))
  have hM : FnsMut Try.prog [] := .nil
  have hV : FnsMov Try.prog [(40, mDel)] := (.cons delete_ok .nil)
  refine callOk_awp (ctxV_ok eqOk hG hM hV) mixed (live := [true, true, true, true, true, true, true, true, true, true, true, true, false, false, true, false, false, false, false, false, false, false, false, false, false, false, false, false, false, false, false, false, true, false, false, false, false, false, false, true, false, false, false, true, false, false, false, false, false, false, false, false, false, false, false, false, false, false, false, true, false, false, false, true]) (dt := [(3, ⟨[(2, 7), (3, 7), (4, 7), (5, 7)], [0, 0, 0, 0, 0, 0, 1], []⟩)]) Try.func15 rfl (by kernel_rfl) (by kernel_rfl) fun w0 hlens => ?_
  clear hlens
  have ww1 : IntKind.i64.wrap 1 = 1 := by decide
  have hid := mIdx_at xss.length (by omega)
  have hidx : idx xss.length = lf (kSt xss 0).dn := by rw [show (kSt xss 0).dn = List.replicate xss.length false from rfl, lf_all]; unfold idx selTo; rw [List.filter_eq_self.2 (by simp)]
  rw [hidx] at hid
  have hk0 := kSt_ok h0 0
  have hlf0 : (lf (kSt xss 0).dn).length = xss.length := by rw [← hidx]; simp [idx]
  have hb : 8 * wid xss ≤ 281474976710656 ∧ wid xss ≤ 4611686018427387904 := by omega
  have hka0 : (ka [] 0 0 0 (wid xss)).map int = List.replicate (wid xss) (.v (.int .i64 0)) := by simp [ka, int]
  simp (config := {contextual := true}) [Try.f15, List.range, List.range.loop, ints, intss, int, bool, row, frac, fracs, ← List.map_take, ← List.map_drop, List.all, mGrid_at, h, h0, hid, hr0, hb, ww1]
  refine awp_loop_of (live := [true, true, true, true, true, true, true, true, true, true, true, true, false, false, true, false, false, false, false, false, false, false, false, false, false, false, false, false, false, false, false, false, true, false, false, false, false, false, false, true, false, false, false, true, false, false, false, false, false, false, false, false, false, false, false, false, false, false, false, true, false, false, false, true]) (ctxV_ok eqOk hG hM hV) mixed [false, true, false, true, true, true, true, true, true] (α := {k : Nat // k ≤ wid xss}) (fun k => ⟨[.junk, .ptr 0 [] 0 0, .junk, .ptr 1 [] 0 0, int (wid xss), .ref 2 [] 0 (lf (kSt xss k.1).dn).length, .ref 3 [] 0 (wid xss), .ptr 4 [] 0 0, .ptr 5 [] 0 0, .junk, .junk, .junk, .junk, .junk, .junk, .junk, .junk, .junk, .junk, .junk, .junk, .junk, .junk, .junk, .junk, .junk, .junk, .junk, .junk, .junk, .junk, .junk, .junk, .junk, .junk, .junk, .junk, .junk, .junk, .junk, .junk, .junk, .junk, .junk, .junk, .junk, .junk, .junk, .junk, .junk, .junk, .junk, .junk, .junk, .junk, .junk, .junk, .junk, .junk, .junk, .junk, .junk, .junk, .junk, .junk, .junk, .junk, .junk, .junk, .junk, .junk, .junk, .junk], [⟨false, .sl false 1 [.sl nl 1 (xss.map row)]⟩, ⟨true, .sl false 1 [int xss.length]⟩, ⟨true, .sl false 1 ((lf (kSt xss k.1).dn).map int)⟩, ⟨true, .sl false 1 ((ka (kSt xss k.1).out 0 (kSt xss k.1).fr (kSt xss k.1).fr (wid xss)).map int)⟩, ⟨true, .sl false 1 [int (kSt xss k.1).fr]⟩, ⟨true, .sl false 1 [int ((k.1 : Int) + 1)]⟩]⟩) (fun k => wid xss - k.1) ⟨0, Nat.zero_le _⟩ (by simp [sub, slotsLe, clean, keep, refsL, refs, once, place, renL, ren, List.replicate, int, bool, hka0, hlf0, kSt]) ?_
  rintro ⟨k, hk⟩
  have hK := kSt_ok h0 k
  have hstay := kSt_stay (xss := xss) (k := k)
  have hnext : kSt xss (k + 1) = kStep xss (kSt xss k) (k + 1) := rfl
  obtain ⟨s, hend0⟩ : ∃ s, kSt xss k = s := ⟨_, rfl⟩
  have hknL := knL_yes h
  simp only
  rw [hend0] at hK hstay hnext ⊢
  obtain ⟨dn, fr, out⟩ := s
  obtain ⟨hdl, hfr, hol, h1L, _⟩ := hK
  simp only at hdl hfr hol h1L hstay hnext ⊢
  have hkl := fun x j (hj : fr ≤ j ∧ j ≤ wid xss) => ka_len (out := out) (x := x) (fr := fr) (j := j) (p := wid xss) hol hj.1 hj.2
  have hLl : (lf dn).length ≤ 3 := by have := lf_len (dn := dn); omega
  by_cases hgo : k < wid xss ∧ 2 ≤ (lf dn).length
  · obtain ⟨hk1, hL2⟩ := hgo
    have hk1' : (k : Int) + 1 ≤ wid xss := by omega
    have hL2' : (2 : Int) ≤ (lf dn).length := by omega
    have hif := mIF_at (nl := nl) (xss := xss) dn fr (k + 1) hdl (by omega) (by omega)
    push_cast at hif
    have hwk : IntKind.i64.wrap ((k : Int) + 1 + 1) = (k : Int) + 1 + 1 := wrapI (by omega) (by omega)
    by_cases htk : 0 ≤ tkAt xss dn fr (k + 1)
    · obtain ⟨a, ha, e1, e2⟩ := tkAt_get htk
      have hn : kSt xss (k + 1) = ⟨dn.set (lf dn)[a].toNat true, k + 1, out ++ List.replicate (k + 1 - fr) (lf dn)[a]⟩ := by rw [hnext, kStep, if_pos ⟨hL2, htk⟩, e2]
      have hdel := lf_del ha
      have hdm := mDel_at (lf dn) a (a + 1) ⟨by omega, by omega⟩
      rw [hdel] at hdm
      push_cast at hdm
      rw [e1] at hif
      have hwa : IntKind.i64.wrap ((a : Int) + 1) = (a : Int) + 1 := wrapI (by omega) (by omega)
      have hks := ka_start (out := out) (x := 0) (y := (lf dn)[a]) (fr := fr) (p := wid xss)
      rw [hks]
      have ha0 : ¬ (a : Int) < 0 := by omega
      simp (config := {contextual := true}) [List.range, List.range.loop, ints, intss, int, bool, row, frac, fracs, ← List.map_take, ← List.map_drop, List.all, hk1', hL2', hif, ha0]
      refine awp_loop_of (live := [true, true, true, true, true, true, true, true, true, true, true, true, false, false, true, false, false, false, false, false, false, false, false, false, false, false, false, false, false, false, false, false, true, false, false, false, false, false, false, true, false, false, false, true, false, false, false, false, false, false, false, false, false, false, false, false, false, false, false, true, false, false, false, true]) (ctxV_ok eqOk hG hM hV) mixed [false, true, false, true, true, true, true, true, true, true, true] (α := {j : Nat // fr ≤ j ∧ j ≤ k + 1}) (fun j => ⟨[.junk, .ptr 0 [] 0 0, .junk, .ptr 1 [] 0 0, int (wid xss), .ref 2 [] 0 (lf dn).length, .ref 3 [] 0 (wid xss), .ptr 4 [] 0 0, .ptr 5 [] 0 0, int a, int (j.1 : Int), .junk, .junk, .junk, .junk, .junk, .junk, .junk, .junk, .junk, .junk, .junk, .junk, .junk, .junk, .junk, .junk, .junk, .junk, .junk, .junk, .junk, .junk, .junk, .junk, .junk, .junk, .junk, .junk, .junk, .junk, .junk, .junk, .junk, .junk, .junk, .junk, .junk, .junk, .junk, .junk, .junk, .junk, .junk, .junk, .junk, .junk, .junk, .junk, .junk, .junk, .junk, .junk, .junk, .junk, .junk, .junk, .junk, .junk, .junk, .junk, .junk, .junk], [⟨false, .sl false 1 [.sl nl 1 (xss.map row)]⟩, ⟨true, .sl false 1 [int xss.length]⟩, ⟨true, .sl false 1 ((lf dn).map int)⟩, ⟨true, .sl false 1 ((ka out (lf dn)[a] fr j.1 (wid xss)).map int)⟩, ⟨true, .sl false 1 [int fr]⟩, ⟨true, .sl false 1 [int ((k : Int) + 1)]⟩]⟩) (fun j => k + 1 - j.1) ⟨fr, Nat.le_refl _, by omega⟩ (by simp [sub, slotsLe, clean, keep, refsL, refs, once, place, renL, ren, List.replicate, int, bool]) ?_
      rintro ⟨j, hj1, hj2⟩
      have hwj : IntKind.i64.wrap ((j : Int) + 1) = (j : Int) + 1 := wrapI (by omega) (by omega)
      have hkl1 := hkl (lf dn)[a] j ⟨hj1, by omega⟩
      by_cases hjk : j < k + 1
      · have hjk' : (j : Int) < (k : Int) + 1 := by omega
        have hjw : j < wid xss := by omega
        have hset := ka_set (x := (lf dn)[a]) (p := wid xss) hol hj1 hjw
        have hkl2 := hkl (lf dn)[a] (j + 1) ⟨by omega, by omega⟩
        simp (config := {contextual := true}) [List.range, List.range.loop, ints, intss, int, bool, row, frac, fracs, ← List.map_take, ← List.map_drop, List.all, hjk', ha, hjw, hkl1, hkl2, hset, hwj]
        exact ⟨⟨j + 1, by omega, by omega⟩, by simp [sub, slotsLe, clean, keep, refsL, refs, once, place, renL, ren, List.replicate, int, bool], by simp; omega⟩
      · obtain rfl : j = k + 1 := by omega
        have hlen : (lf (dn.set (lf dn)[a].toNat true)).length = (lf dn).length - 1 := by rw [← hdel]; simp; omega
        have hkn := ka_next (out := out) (x := (lf dn)[a]) (y := 0) (fr := fr) (to := k + 1) (p := wid xss)
        rw [hkn]
        simp (config := {contextual := true}) [List.range, List.range.loop, ints, intss, int, bool, row, frac, fracs, ← List.map_take, ← List.map_drop, List.all, ha, hdm, hwa, hwk]
        refine ⟨⟨k + 1, hk1⟩, ?_, by simp; omega⟩
        simp [sub, slotsLe, clean, keep, refsL, refs, once, place, renL, ren, List.replicate, int, bool, hn]
    · have htk' : tkAt xss dn fr (k + 1) < 0 := by omega
      have hn : kSt xss (k + 1) = ⟨dn, fr, out⟩ := by rw [hnext, kStep, if_neg (fun hc => htk hc.2)]
      simp (config := {contextual := true}) [List.range, List.range.loop, ints, intss, int, bool, row, frac, fracs, ← List.map_take, ← List.map_drop, List.all, hk1', hL2', hif, htk', hwk]
      refine ⟨⟨k + 1, hk1⟩, ?_, by simp; omega⟩
      simp [sub, slotsLe, clean, keep, refsL, refs, once, place, renL, ren, List.replicate, int, bool, hn]
  · have hend : kSt xss (wid xss) = ⟨dn, fr, out⟩ := by
      by_cases hkw : k = wid xss
      · rw [← hkw]; exact hend0
      · rw [hstay (fun hc => hgo ⟨by omega, hc⟩) (wid xss) hk]
    have hno : ¬ ((k : Int) + 1 ≤ wid xss ∧ (2 : Int) ≤ (lf dn).length) := fun hc => hgo ⟨by omega, by omega⟩
    have hg0 : (lf dn).getD 0 0 = (lf dn)[0] := by rw [List.getD_eq_getElem?_getD, List.getElem?_eq_getElem (by omega)]; rfl
    rw [hend] at hknL
    simp only [hg0] at hknL
    have hks := ka_start (out := out) (x := 0) (y := (lf dn)[0]) (fr := fr) (p := wid xss)
    rw [hks]
    have hkall : ka out (lf dn)[0] fr (wid xss) (wid xss) = knL xss := by rw [hknL]; simp [ka]
    have hknl := hkl (lf dn)[0] (wid xss) ⟨by omega, Nat.le_refl _⟩
    rw [hkall] at hknl
    by_cases hc1 : (k : Int) + 1 ≤ wid xss
    · have hc2 : ¬ (2 : Int) ≤ (lf dn).length := fun hc => hno ⟨hc1, hc⟩
      simp (config := {contextual := true}) [List.range, List.range.loop, ints, intss, int, bool, row, frac, fracs, ← List.map_take, ← List.map_drop, List.all, hc1, hc2]
      refine awp_loop_of (live := [true, true, true, true, true, true, true, true, true, true, true, true, false, false, true, false, false, false, false, false, false, false, false, false, false, false, false, false, false, false, false, false, true, false, false, false, false, false, false, true, false, false, false, true, false, false, false, false, false, false, false, false, false, false, false, false, false, false, false, true, false, false, false, true]) (ctxV_ok eqOk hG hM hV) mixed [false, false, false, false, true, true, true, false, false, false, false, true] (α := {j : Nat // fr ≤ j ∧ j ≤ wid xss}) (fun j => ⟨[.junk, .junk, .junk, .junk, int (wid xss), .ref 0 [] 0 (lf dn).length, .ref 1 [] 0 (wid xss), .junk, .junk, .junk, .junk, int (j.1 : Int), .junk, .junk, .junk, .junk, .junk, .junk, .junk, .junk, .junk, .junk, .junk, .junk, .junk, .junk, .junk, .junk, .junk, .junk, .junk, .junk, .junk, .junk, .junk, .junk, .junk, .junk, .junk, .junk, .junk, .junk, .junk, .junk, .junk, .junk, .junk, .junk, .junk, .junk, .junk, .junk, .junk, .junk, .junk, .junk, .junk, .junk, .junk, .junk, .junk, .junk, .junk, .junk, .junk, .junk, .junk, .junk, .junk, .junk, .junk, .junk, .junk], [⟨true, .sl false 1 ((lf dn).map int)⟩, ⟨true, .sl false 1 ((ka out (lf dn)[0] fr j.1 (wid xss)).map int)⟩]⟩) (fun j => wid xss - j.1) ⟨fr, Nat.le_refl _, by omega⟩ (by simp [sub, slotsLe, clean, keep, refsL, refs, once, place, renL, ren, List.replicate, int, bool]) ?_
      rintro ⟨j, hj1, hj2⟩
      have hwj : IntKind.i64.wrap ((j : Int) + 1) = (j : Int) + 1 := wrapI (by omega) (by omega)
      have hkl1 := hkl (lf dn)[0] j ⟨hj1, by omega⟩
      by_cases hjk : j < wid xss
      · have hset := ka_set (x := (lf dn)[0]) (p := wid xss) hol hj1 hjk
        have hkl2 := hkl (lf dn)[0] (j + 1) ⟨by omega, by omega⟩
        have h1L' : 0 < (lf dn).length := by omega
        simp (config := {contextual := true}) [List.range, List.range.loop, ints, intss, int, bool, row, frac, fracs, ← List.map_take, ← List.map_drop, List.all, hjk, h1L', hkl1, hkl2, hset, hwj]
        exact ⟨⟨j + 1, by omega, by omega⟩, by simp [sub, slotsLe, clean, keep, refsL, refs, once, place, renL, ren, List.replicate, int, bool], by simp; omega⟩
      · obtain rfl : j = wid xss := by omega
        simp (config := {contextual := true}) [List.range, List.range.loop, ints, intss, int, bool, row, frac, fracs, ← List.map_take, ← List.map_drop, List.all, hkall, hknl]
    · simp (config := {contextual := true}) [List.range, List.range.loop, ints, intss, int, bool, row, frac, fracs, ← List.map_take, ← List.map_drop, List.all, hc1]
      refine awp_loop_of (live := [true, true, true, true, true, true, true, true, true, true, true, true, false, false, true, false, false, false, false, false, false, false, false, false, false, false, false, false, false, false, false, false, true, false, false, false, false, false, false, true, false, false, false, true, false, false, false, false, false, false, false, false, false, false, false, false, false, false, false, true, false, false, false, true]) (ctxV_ok eqOk hG hM hV) mixed [false, false, false, false, true, true, true, false, false, false, false, true] (α := {j : Nat // fr ≤ j ∧ j ≤ wid xss}) (fun j => ⟨[.junk, .junk, .junk, .junk, int (wid xss), .ref 0 [] 0 (lf dn).length, .ref 1 [] 0 (wid xss), .junk, .junk, .junk, .junk, int (j.1 : Int), .junk, .junk, .junk, .junk, .junk, .junk, .junk, .junk, .junk, .junk, .junk, .junk, .junk, .junk, .junk, .junk, .junk, .junk, .junk, .junk, .junk, .junk, .junk, .junk, .junk, .junk, .junk, .junk, .junk, .junk, .junk, .junk, .junk, .junk, .junk, .junk, .junk, .junk, .junk, .junk, .junk, .junk, .junk, .junk, .junk, .junk, .junk, .junk, .junk, .junk, .junk, .junk, .junk, .junk, .junk, .junk, .junk, .junk, .junk, .junk, .junk], [⟨true, .sl false 1 ((lf dn).map int)⟩, ⟨true, .sl false 1 ((ka out (lf dn)[0] fr j.1 (wid xss)).map int)⟩]⟩) (fun j => wid xss - j.1) ⟨fr, Nat.le_refl _, by omega⟩ (by simp [sub, slotsLe, clean, keep, refsL, refs, once, place, renL, ren, List.replicate, int, bool]) ?_
      rintro ⟨j, hj1, hj2⟩
      have hwj : IntKind.i64.wrap ((j : Int) + 1) = (j : Int) + 1 := wrapI (by omega) (by omega)
      have hkl1 := hkl (lf dn)[0] j ⟨hj1, by omega⟩
      by_cases hjk : j < wid xss
      · have hset := ka_set (x := (lf dn)[0]) (p := wid xss) hol hj1 hjk
        have hkl2 := hkl (lf dn)[0] (j + 1) ⟨by omega, by omega⟩
        have h1L' : 0 < (lf dn).length := by omega
        simp (config := {contextual := true}) [List.range, List.range.loop, ints, intss, int, bool, row, frac, fracs, ← List.map_take, ← List.map_drop, List.all, hjk, h1L', hkl1, hkl2, hset, hwj]
        exact ⟨⟨j + 1, by omega, by omega⟩, by simp [sub, slotsLe, clean, keep, refsL, refs, once, place, renL, ren, List.replicate, int, bool], by simp; omega⟩
      · obtain rfl : j = wid xss := by omega
        simp (config := {contextual := true}) [List.range, List.range.loop, ints, intss, int, bool, row, frac, fracs, ← List.map_take, ← List.map_drop, List.all, hkall, hknl]

theorem implKnife_ok : FnOk Try.prog 15 mKnife := by
  refine mk_ok fun ⟨nl, xss⟩ _ => ?_
  cases h : rectB xss 3 10 100 with
  | false => simp only [knL_no h, h, Bool.not_false, List.map_nil]; exact knife_no nl xss h
  | true => simp only [h, Bool.not_true]; exact knife_yes nl xss h

end Go.Proofs.Ytlkgppincgpfjaa.Ax
