/-
  Contracts: a short list of pairs is sorted by a function, stably (slices.SortStableFunc). No condition.
-/
import Derived.Test.YtigepnpiofcooaaGreatCG17
import Derived.Test.YtigepnpiofcooaaGreatCK4
namespace Go.Proofs.YtigepnpiofcooaaGreat.Ax
open Go Go.RowKit
set_option linter.unusedSimpArgs false
attribute [simp] mkLdN_dt
theorem andThen_x {N : ASt → Prop} {Q : Exit → ASt → Prop} {s : ASt} {i : Nat} : andThen N Q (.exit i) s = Q (.exit i) s := rfl
def pcL (e : Int) : Bool × List Int := (false, [e / 8, e % 8])
def pcA (e : Int) : AV := .sl false 1 [.v (.int .i64 (e / 8)), .v (.int .i64 (e % 8))]
theorem pcA_row (l : List Int) : l.map pcA = (l.map pcL).map row := by rw [List.map_map]; rfl
theorem pcA_slB (l : List Int) : (l.map pcA).all slB = true := by
  rw [List.all_eq_true]
  intro x hx
  obtain ⟨e, _, rfl⟩ := List.mem_map.1 hx
  rfl
theorem pcA_inj {x y : Int} (h : pcA x = pcA y) : x = y := by
  simp [pcA] at h
  omega
theorem midd_cut {ys rest : List Int} {x : Int} {k : Nat} (h : k + 1 ≤ ys.length) : midd ys x (k + 1) rest = ys.take k ++ ys.getD k 0 :: x :: (ys.drop (k + 1) ++ rest) ∧ midd ys x k rest = ys.take k ++ x :: ys.getD k 0 :: (ys.drop (k + 1) ++ rest) := by
  obtain ⟨az, y, bz, rfl, rfl⟩ : ∃ az y bz, ys = az ++ y :: bz ∧ k = az.length := by
    refine ⟨ys.take k, ys[k], ys.drop (k + 1), ?_, by simp; omega⟩
    rw [List.getElem_cons_drop, List.take_append_drop]
  have t1 : az.take (az.length + 1) = az := List.take_of_length_le (by omega)
  have t2 : az.drop (az.length + 1) = [] := List.drop_of_length_le (by omega)
  constructor <;> simp [midd, List.take_append, List.drop_append, t1, t2]
set_option maxRecDepth 8000 in
set_option maxHeartbeats 4000000 in
theorem insertionP_ok {g : FuncId} {caps : List AV} (hc : Pure caps) (c : Int → Int → Int) (nl : Bool) (xs : List Int) (hn : xs.length ≤ 1000)
    (hg : ∀ x ∈ xs, ∀ y ∈ xs, CallOk Tryz.prog g (pcA x :: pcA y :: caps) (.v (.int .i64 (c x y)))) :
    MutOk Tryz.prog 162 [.sl nl 1 (xs.map pcA), int 0, int xs.length, .fn g caps] 0 (.tup []) (.sl nl 1 ((isort c xs).map pcA)) := by
  have hG : FnsOk Tryz.prog [(g, mk (fun p : Int × Int => p.1 ∈ xs ∧ p.2 ∈ xs) (fun p : Int × Int => pcA p.1 :: pcA p.2 :: caps) (fun p => .v (.int .i64 (c p.1 p.2))))] := .cons (mk_ok fun p hp => hg p.1 hp.1 p.2 hp.2) .nil
  have hat : ∀ x y, x ∈ xs → y ∈ xs → mk (fun p : Int × Int => p.1 ∈ xs ∧ p.2 ∈ xs) (fun p : Int × Int => pcA p.1 :: pcA p.2 :: caps) (fun p => AV.v (.int .i64 (c p.1 p.2))) (pcA x :: pcA y :: caps) = some (.v (.int .i64 (c x y))) := fun x y hx hy =>
    mk_eq (enc := fun p : Int × Int => pcA p.1 :: pcA p.2 :: caps) (f := fun p => AV.v (.int .i64 (c p.1 p.2))) (x := (x, y)) (by
      rintro ⟨a, b⟩ ⟨d, e⟩ h
      simp only [List.cons.injEq, and_true] at h
      rw [pcA_inj h.1, pcA_inj h.2]) ⟨hx, hy⟩
  generalize mk (fun p : Int × Int => p.1 ∈ xs ∧ p.2 ∈ xs) (fun p : Int × Int => pcA p.1 :: pcA p.2 :: caps) (fun p => AV.v (.int .i64 (c p.1 p.2))) = m at hG hat
  refine mutOk_of_tr true (ctx_ok eqOk hG) (dt := [(4, ⟨[], [], []⟩), (6, ⟨[(4, 15)], [], []⟩)]) (pos := 0) rfl Tryz.func162 rfl (by kernel_rfl) (by kernel_rfl) fun US Uv w0 hlens => tr_awp (live := [true, true, true, true, false, false, false, false, true, true, false, false, false, false, true, false, false, false, false, false, false, false, false, false, false, false, false, false, false, false, false, false, false, false, true]) (ctx_ok eqOk hG) mixed _ _ _ ?_
  have w1 : IntKind.i64.wrap 1 = 1 := by decide
  have hs1 := srtTo_one (c := c) (xs := xs)
  simp [Tryz.f162, List.range, List.range.loop, ints, intss, int, bool, row, frac, fracs, ← List.map_take, ← List.map_drop, hc.res, hc.refs, hc.ren, hc.killN]
  refine awp_range (live := [true, true, true, true, false, false, false, false, true, true, false, false, false, false, true, false, false, false, false, false, false, false, false, false, false, false, false, false, false, false, false, false, false, false, true]) (ctx_ok eqOk hG) mixed [true, true, true, true, false, false, false, false, true] (xs.length - 1) (fun k => True) (fun k => ⟨[.ref 0 [] 0 xs.length, int 0, int xs.length, .fn g caps, .junk, .junk, .junk, .junk, int ((k : Int) + 1), .junk, .junk, .junk, .junk, .junk, .junk, .junk, .junk, .junk, .junk, .junk, .junk, .junk, .junk, .junk, .junk, .junk, .junk, .junk, .junk, .junk, .junk, .junk, .junk, .junk, .junk, .junk, .junk, .junk, .junk, .junk, .junk, .junk, .junk, .junk, .junk, .junk, .junk, .junk, .junk, .junk, .junk, .junk, .junk], [⟨true, .sl nl 1 ((srtTo c xs (k + 1)).map pcA)⟩]⟩) ?_ (by simp [sub, slotsLe, clean, keep, refsL, refs, once, place, renL, ren, List.replicate, int, bool, hs1, w1, hc.refs, hc.ren, hc.killN]) ?_ ?_ ?_
  · omega
  · trivial
  · intro k hk _ hwk
    have hk1 : k + 1 < xs.length := by omega
    have hlt : ((k : Int) + 1 < (xs.length : Int)) := by omega
    have hw2 : IntKind.i64.wrap ((k : Int) + 1 + 1) = (k : Int) + 1 + 1 := wrapI (by omega) (by omega)
    have hmid := srtTo_mid (c := c) hk1
    have hyl : (isort c (xs.take (k + 1))).length = k + 1 := by rw [isort_len]; simp; omega
    have hys : ∀ y ∈ isort c (xs.take (k + 1)), y ∈ xs := fun y hy => List.mem_of_mem_take (isort_mem.1 hy)
    have hdone := fun j => srtTo_done (c := c) (j := j) hk1
    have hx : xs[k + 1] ∈ xs := List.getElem_mem hk1
    rw [hmid, hyl]
    generalize isort c (xs.take (k + 1)) = ys at hyl hys hdone
    generalize xs[k + 1] = x at hx hdone
    simp (config := {contextual := true}) [List.range, List.range.loop, ints, intss, int, bool, row, frac, fracs, ← List.map_take, ← List.map_drop, hc.res, hc.refs, hc.ren, hc.killN, hlt]
    refine tr_loop_of (ctx_ok eqOk hG) mixed [true, true, true, true, false, false, false, false, true, true] (α := {j : Nat // j ≤ k + 1 ∧ insFrom c ys x j = ins c ys x}) (fun j => ⟨[.ref 0 [] 0 xs.length, int 0, int xs.length, .fn g caps, .junk, .junk, .junk, .junk, int ((k : Int) + 1), int (j.1 : Int), .junk, .junk, .junk, .junk, .junk, .junk, .junk, .junk, .junk, .junk, .junk, .junk, .junk, .junk, .junk, .junk, .junk, .junk, .junk, .junk, .junk, .junk, .junk, .junk, .junk, .junk, .junk, .junk, .junk, .junk, .junk, .junk, .junk, .junk, .junk, .junk, .junk, .junk, .junk, .junk, .junk, .junk, .junk], [⟨true, .sl nl 1 ((midd ys x j.1 (xs.drop (k + 1 + 1))).map pcA)⟩]⟩) (fun j => j.1) ⟨k + 1, Nat.le_refl _, by rw [ins, hyl]⟩ (by simp [sub, slotsLe, clean, keep, refsL, refs, once, place, renL, ren, List.replicate, int, bool, hc.refs, hc.ren, hc.killN]) ?_
    rintro ⟨j, hj, hji⟩
    have hml := midd_len (ys := ys) (x := x) (j := j) (rest := xs.drop (k + 1 + 1))
    have hml2 : (midd ys x j (xs.drop (k + 1 + 1))).length = xs.length := by rw [hml, hyl]; simp; omega
    refine tr_seq (tr_awp (live := [true, true, true, true, false, false, false, false, true, true, false, false, false, false, true, false, false, false, false, false, false, false, false, false, false, false, false, false, false, false, false, false, false, false, true]) (ctx_ok eqOk hG) mixed _ _ _ ?_)
    cases j with
    | zero =>
      have hd := hdone 0 hji (.inl rfl)
      simp (config := {contextual := true}) [List.range, List.range.loop, ints, intss, int, bool, row, frac, fracs, ← List.map_take, ← List.map_drop, hc.res, hc.refs, hc.ren, hc.killN, andThen_n, andThen_x, hd, hw2, hml2, List.eraseIdx]
      done
    | succ j =>
      have hjl : j + 1 < xs.length := by omega
      have hjl2 : j < xs.length := by omega
      have hgt : (0 < (j : Int) + 1) := by omega
      have hwj : IntKind.i64.wrap (j : Int) = j := wrapI (by omega) (by omega)
      obtain ⟨_, a1⟩ := List.getElem?_eq_some_iff.1 (midd_at (ys := ys) (x := x) (j := j + 1) (rest := xs.drop (k + 1 + 1)) (by omega))
      obtain ⟨_, a2⟩ := List.getElem?_eq_some_iff.1 (midd_before (ys := ys) (x := x) (k := j) (rest := xs.drop (k + 1 + 1)) (by omega))
      obtain ⟨m1, m2⟩ := midd_cut (ys := ys) (x := x) (k := j) (rest := xs.drop (k + 1 + 1)) (by omega)
      have hyj : ys.getD j 0 ∈ xs := hys _ (by rw [List.getD_eq_getElem?_getD, List.getElem?_eq_getElem (by omega)]; exact List.getElem_mem _)
      have hc1 := hat x (ys.getD j 0) hx hyj
      have hd := fun h => hdone (j + 1) hji (.inr ⟨j, rfl, h⟩)
      have hml3 : (midd ys x j (xs.drop (k + 1 + 1))).length = xs.length := by rw [midd_len, hyl]; simp; omega
      have htl : (ys.take j).length = j := by simp; omega
      rw [insFrom] at hji
      generalize ys.getD j 0 = y at *
      simp only [pcA] at hc1
      by_cases hcc : c x y < 0
      · rw [if_pos hcc] at hji
        simp (config := {contextual := true}) [List.range, List.range.loop, ints, intss, int, bool, row, frac, fracs, ← List.map_take, ← List.map_drop, hc.res, hc.refs, hc.ren, hc.killN, hml2, hjl, hjl2, hgt, hwj, a1, a2, pcA, hc1, hcc, andThen_n, andThen_x, List.eraseIdx]
        refine tr_seq (tr_block (tr_swap 0 (nl := nl) (es1 := (ys.take j).map pcA) (es2 := (ys.drop (j + 1) ++ xs.drop (k + 1 + 1)).map pcA) (x := pcA y) (y := pcA x) (slots2 := [.ref 0 [] 0 xs.length, int 0, int xs.length, .fn g caps, .junk, .junk, .junk, .junk, int ((k : Int) + 1), int ((j : Int) + 1), .junk, .junk, .junk, .junk, .junk, .junk, .junk, .junk, .junk, .junk, .junk, .junk, .junk, .junk, .junk, .junk, .junk, .junk, .junk, .junk, .junk, .junk, .junk, .junk, .junk, .junk, .junk, .junk, .junk, .junk, .junk, .junk, .junk, .junk, .junk, .junk, .junk, .junk, .junk, .junk, .junk, .junk, .junk]) rfl ?_ ?_ ?_ ?_))
        · simp [m1]
        · have := pcA_slB (ys.take j ++ y :: x :: (ys.drop (j + 1) ++ xs.drop (k + 1 + 1)))
          simpa using this
        · intro V v0 A1 A2 hx' hy' hdt _ _ l1 l2 hone
          have hL : (A1 ++ hx' :: hy' :: A2).length = xs.length := by
            have := congrArg List.length m1
            rw [hml2] at this
            simp at this l1 l2 ⊢
            omega
          have hA1 : A1.length = j := by simp at l1; omega
          have i1 : (A1 ++ hx' :: hy' :: A2)[j]? = some hx' := by rw [← hA1, List.getElem?_append_right (Nat.le_refl _)]; simp
          have i2 : (A1 ++ hx' :: hy' :: A2)[j + 1]? = some hy' := by rw [← hA1, List.getElem?_append_right (by omega)]; simp
          have hset : (((A1 ++ hx' :: hy' :: A2).map AV.v).set (j + 1) (.v hx')).set j (.v hy') = (A1 ++ hy' :: hx' :: A2).map AV.v := by
            rw [← List.map_set, ← List.map_set, ← hA1]; simp
          obtain ⟨_, i1'⟩ := List.getElem?_eq_some_iff.1 i1
          obtain ⟨_, i2'⟩ := List.getElem?_eq_some_iff.1 i2
          generalize A1 ++ hx' :: hy' :: A2 = L at *
          generalize A1 ++ hy' :: hx' :: A2 = L' at *
          refine tr_awp (live := [true, true, true, true, false, false, false, false, true, true, false, false, false, false, true, false, false, false, false, false, false, false, false, false, false, false, false, false, false, false, false, false, false, false, true]) (ctx_ok eqOk hG) mixed _ _ _ ?_
          simp [List.range, List.range.loop, ints, intss, int, bool, row, frac, fracs, ← List.map_take, ← List.map_drop, List.eraseIdx, hdt, hc.res, hc.refs, hc.ren, hc.killN, hL, hjl, hjl2, hwj, i1', i2', hset]
        · have em : (ys.take j).map pcA ++ pcA x :: pcA y :: (ys.drop (j + 1) ++ xs.drop (k + 1 + 1)).map pcA = (midd ys x j (xs.drop (k + 1 + 1))).map pcA := by rw [m2]; simp
          rw [em]
          refine tr_awp (live := [true, true, true, true, false, false, false, false, true, true, false, false, false, false, true, false, false, false, false, false, false, false, false, false, false, false, false, false, false, false, false, false, false, false, true]) (ctx_ok eqOk hG) mixed _ _ _ ?_
          simp [List.range, List.range.loop, ints, intss, int, bool, row, frac, fracs, ← List.map_take, ← List.map_drop, List.eraseIdx, andThen_n, andThen_x, hc.res, hc.refs, hc.ren, hc.killN, hwj]
          exact ⟨j, ⟨rfl, rfl⟩, ⟨by omega, hji⟩, by omega⟩
      · have hd := hd hcc
        simp (config := {contextual := true}) [List.range, List.range.loop, ints, intss, int, bool, row, frac, fracs, ← List.map_take, ← List.map_drop, hc.res, hc.refs, hc.ren, hc.killN, hml2, hjl, hjl2, hgt, hwj, a1, a2, pcA, hc1, hcc, hw2, andThen_n, andThen_x, List.eraseIdx]
        rw [hd]
  · intro _
    have hlt : ¬ (((xs.length - 1 : Nat) : Int) + 1 < (xs.length : Int)) := by omega
    have ha := srtTo_all (c := c) (xs := xs) (i := xs.length - 1 + 1) (by omega)
    have hil := isort_len (c := c) xs
    simp (config := {contextual := true}) [List.range, List.range.loop, ints, intss, int, bool, row, frac, fracs, ← List.map_take, ← List.map_drop, hc.res, hc.refs, hc.ren, hc.killN, hlt, ha, hil, List.eraseIdx]
    done
set_option maxHeartbeats 2000000 in
theorem stableP_ok {g : FuncId} {caps : List AV} (hc : Pure caps) (c : Int → Int → Int) (nl : Bool) (xs : List Int) (hn : xs.length < 20)
    (hg : ∀ x ∈ xs, ∀ y ∈ xs, CallOk Tryz.prog g (pcA x :: pcA y :: caps) (.v (.int .i64 (c x y)))) :
    MutOk Tryz.prog 150 [.sl nl 1 (xs.map pcA), int xs.length, .fn g caps] 0 (.tup []) (.sl nl 1 ((isort c xs).map pcA)) := by
  have hi : FnMut Tryz.prog 162 (mkM (fun _ : Unit => True) (fun _ => [.sl nl 1 (xs.map pcA), int 0, int xs.length, .fn g caps]) (fun _ => (0, .tup [], .sl nl 1 ((isort c xs).map pcA)))) := mkM_ok fun _ _ => insertionP_ok hc c nl xs (by omega) hg
  have hat : mkM (fun _ : Unit => True) (fun _ => [.sl nl 1 (xs.map pcA), int 0, int xs.length, .fn g caps]) (fun _ => (0, .tup [], .sl nl 1 ((isort c xs).map pcA))) [.sl nl 1 (xs.map pcA), .v (.int .i64 0), .v (.int .i64 xs.length), .fn g caps] = some (0, .tup [], .sl nl 1 ((isort c xs).map pcA)) := mkM_eq (enc := fun _ : Unit => [.sl nl 1 (xs.map pcA), int 0, int xs.length, .fn g caps]) (x := ()) (fun _ _ _ => rfl) trivial
  generalize mkM (fun _ : Unit => True) (fun _ => [.sl nl 1 (xs.map pcA), int 0, int xs.length, .fn g caps]) (fun _ => (0, AV.tup [], .sl nl 1 ((isort c xs).map pcA))) = m at hi hat
  have hG : FnsOk Tryz.prog [] := .nil
  have hM : FnsMut Tryz.prog [(162, m)] := .cons hi .nil
  have hl := isort_len (c := c) xs
  have h20 : ¬ (20 : Int) ≤ xs.length := by omega
  have h20' : ¬ (20 : Int) < xs.length := by omega
  refine mutOk_awp (ctxM_ok eqOk hG hM) mixed (live := [true, true, true, false, false, false, true, true, true, true, false, false, false, true, false, false, false, false, false, false, false, false, false, false, false, false, false, false, false, false, true, false, false, false, false, true, false, false, false, false, false, false, false, false, false, false, false, false, false, false, false, false, false, false, true]) (dt := []) (pos := 0) rfl Tryz.func150 rfl (by kernel_rfl) (by kernel_rfl) fun US Uv w0 hlens => ?_
  simp [Tryz.f150, List.range, List.range.loop, ints, intss, int, bool, row, frac, fracs, ← List.map_take, ← List.map_drop, hc.res, hc.refs, hc.ren, hc.killN]
  refine awp_loop_of (live := [true, true, true, false, false, false, true, true, true, true, false, false, false, true, false, false, false, false, false, false, false, false, false, false, false, false, false, false, false, false, true, false, false, false, false, true, false, false, false, false, false, false, false, false, false, false, false, false, false, false, false, false, false, false, true]) (ctxM_ok eqOk hG hM) mixed [true, true, true, false, false, false, true, true, true] (α := Unit) (fun u => ⟨[.ref 0 [] 0 xs.length, int xs.length, .fn g caps, .junk, .junk, .junk, int 20, int 0, int 20, .junk, .junk, .junk, .junk, .junk, .junk, .junk, .junk, .junk, .junk, .junk, .junk, .junk, .junk, .junk, .junk, .junk, .junk, .junk, .junk, .junk, .junk, .junk, .junk, .junk, .junk, .junk, .junk, .junk, .junk, .junk, .junk, .junk, .junk, .junk, .junk, .junk, .junk, .junk, .junk, .junk, .junk, .junk, .junk, .junk, .junk, .junk, .junk, .junk, .junk, .junk, .junk, .junk, .junk], [⟨true, .sl nl 1 (xs.map pcA)⟩]⟩) (fun u => 0) () (by simp [sub, slotsLe, clean, keep, refsL, refs, once, place, renL, ren, List.replicate, int, bool, hc.refs, hc.ren, hc.killN]) ?_
  rintro ⟨⟩
  simp [List.range, List.range.loop, ints, intss, int, bool, row, frac, fracs, ← List.map_take, ← List.map_drop, List.eraseIdx, hc.res, hc.refs, hc.ren, hc.killN, h20, hat, hl]
  refine awp_loop_of (live := [true, true, true, false, false, false, true, true, true, true, false, false, false, true, false, false, false, false, false, false, false, false, false, false, false, false, false, false, false, false, true, false, false, false, false, true, false, false, false, false, false, false, false, false, false, false, false, false, false, false, false, false, false, false, true]) (ctxM_ok eqOk hG hM) mixed [true, true, true, false, false, false, true] (α := Unit) (fun u => ⟨[.ref 0 [] 0 xs.length, int xs.length, .fn g caps, .junk, .junk, .junk, int 20, .junk, .junk, .junk, .junk, .junk, .junk, .junk, .junk, .junk, .junk, .junk, .junk, .junk, .junk, .junk, .junk, .junk, .junk, .junk, .junk, .junk, .junk, .junk, .junk, .junk, .junk, .junk, .junk, .junk, .junk, .junk, .junk, .junk, .junk, .junk, .junk, .junk, .junk, .junk, .junk, .junk, .junk, .junk, .junk, .junk, .junk, .junk, .junk, .junk, .junk, .junk, .junk, .junk, .junk, .junk, .junk], [⟨true, .sl nl 1 ((isort c xs).map pcA)⟩]⟩) (fun u => 0) () (by simp [sub, slotsLe, clean, keep, refsL, refs, once, place, renL, ren, List.replicate, int, bool, hc.refs, hc.ren, hc.killN]) ?_
  rintro ⟨⟩
  simp [List.range, List.range.loop, ints, intss, int, bool, row, frac, fracs, ← List.map_take, ← List.map_drop, List.eraseIdx, hc.res, hc.refs, hc.ren, hc.killN, h20', hl]
theorem sortP_ok {g : FuncId} {caps : List AV} (hc : Pure caps) (c : Int → Int → Int) (nl : Bool) (xs : List Int) (hn : xs.length < 20)
    (hg : ∀ x ∈ xs, ∀ y ∈ xs, CallOk Tryz.prog g (pcA x :: pcA y :: caps) (.v (.int .i64 (c x y)))) :
    MutOk Tryz.prog 128 [.sl nl 1 (xs.map pcA), .fn g caps] 0 (.tup []) (.sl nl 1 ((isort c xs).map pcA)) := by
  have hi : FnMut Tryz.prog 150 (mkM (fun _ : Unit => True) (fun _ => [.sl nl 1 (xs.map pcA), int xs.length, .fn g caps]) (fun _ => (0, .tup [], .sl nl 1 ((isort c xs).map pcA)))) := mkM_ok fun _ _ => stableP_ok hc c nl xs hn hg
  have hat : mkM (fun _ : Unit => True) (fun _ => [.sl nl 1 (xs.map pcA), int xs.length, .fn g caps]) (fun _ => (0, .tup [], .sl nl 1 ((isort c xs).map pcA))) [.sl nl 1 (xs.map pcA), .v (.int .i64 xs.length), .fn g caps] = some (0, .tup [], .sl nl 1 ((isort c xs).map pcA)) := mkM_eq (enc := fun _ : Unit => [.sl nl 1 (xs.map pcA), int xs.length, .fn g caps]) (x := ()) (fun _ _ _ => rfl) trivial
  generalize mkM (fun _ : Unit => True) (fun _ => [.sl nl 1 (xs.map pcA), int xs.length, .fn g caps]) (fun _ => (0, AV.tup [], .sl nl 1 ((isort c xs).map pcA))) = m at hi hat
  have hG : FnsOk Tryz.prog [] := .nil
  have hM : FnsMut Tryz.prog [(150, m)] := .cons hi .nil
  have hl := isort_len (c := c) xs
  refine mutOk_awp (ctxM_ok eqOk hG hM) mixed (live := [true, true]) (dt := []) (pos := 0) rfl Tryz.func128 rfl (by kernel_rfl) (by kernel_rfl) fun US Uv w0 hlens => ?_
  simp [Tryz.f128, List.range, List.range.loop, ints, intss, int, bool, row, frac, fracs, ← List.map_take, ← List.map_drop, List.eraseIdx, hc.res, hc.refs, hc.ren, hc.killN, hat, hl]
end Go.Proofs.YtigepnpiofcooaaGreat.Ax
namespace Go.Proofs.YtigepnpiofcooaaGreat.Ax
open Go Go.RowKit
def cdE (p : Int × Int) : Int := p.1 * 8 + p.2
def mgE (vs : List Vt) (e : Int) : Int := mgT vs (e / 8) (e % 8)
def cmE (vs : List Vt) (x y : Int) : Int := mgE vs y - mgE vs x
def pcAt (vs : List Vt) (s a b : Nat) : List Int := (bpAll (btB vs) s a ++ bpTo (btB vs) a b).map cdE
def pcT (vs : List Vt) (s : Nat) : List Int := isort (cmE vs) (pcAt vs s s 0)
theorem pcAt_zero {vs : List Vt} {s : Nat} : pcAt vs s 0 0 = [] := rfl
theorem pcAt_next {vs : List Vt} {s a : Nat} : pcAt vs s a s = pcAt vs s (a + 1) 0 := by simp [pcAt, bpAll, bpTo]
theorem pcAt_yes {vs : List Vt} {s a b : Nat} (h : btB vs a b = true) : pcAt vs s a (b + 1) = pcAt vs s a b ++ [(a : Int) * 8 + b] := by
  unfold pcAt
  simp [bpTo, h, cdE]
theorem pcAt_no {vs : List Vt} {s a b : Nat} (h : btB vs a b = false) : pcAt vs s a (b + 1) = pcAt vs s a b := by
  unfold pcAt
  simp [bpTo, h]
theorem pcAt_mem {vs : List Vt} {s a b : Nat} (ha : a ≤ s) (hb : b = 0 ∨ a < s ∧ b ≤ s) {e : Int} (h : e ∈ pcAt vs s a b) : ∃ i j : Nat, e = (i : Int) * 8 + j ∧ i < s ∧ j < s := by
  simp only [pcAt, List.mem_map] at h
  obtain ⟨p, hp, rfl⟩ := h
  rcases List.mem_append.1 hp with hp | hp
  · obtain ⟨⟨i, h1, h2⟩, j, h3, h4⟩ := bpAll_mem p hp
    exact ⟨i, j, by unfold cdE; rw [h1, h3], by omega, h4⟩
  · obtain ⟨h1, j, h3, h4⟩ := bpTo_mem p hp
    exact ⟨a, j, by unfold cdE; rw [h1, h3], by omega, by omega⟩
theorem pc_div {i j : Nat} (hj : j < 5) : ((i : Int) * 8 + j) / 8 = i ∧ ((i : Int) * 8 + j) % 8 = j := by omega
theorem pcA_pair {i j : Nat} (hj : j < 5) : pcA ((i : Int) * 8 + j) = .sl false 1 [.v (.int .i64 (i : Int)), .v (.int .i64 (j : Int))] := by
  unfold pcA
  rw [(pc_div hj).1, (pc_div hj).2]
theorem pcAt_len {vs : List Vt} {s a b : Nat} (ha : a ≤ s) (hb : b ≤ s) (hs : s ≤ 5) : (pcAt vs s a b).length ≤ 30 := by
  have h1 := bpAll_len (f := btB vs) (s := s) (a := a)
  have h2 := bpTo_len (f := btB vs) (a := a) (b := b)
  have h3 : s * a ≤ 5 * 5 := Nat.mul_le_mul hs (by omega)
  unfold pcAt
  rw [List.length_map, List.length_append]
  omega
theorem ctSum {f : Int → Int → Bool} (hr : ∀ a : Nat, f a a = false) (has : ∀ a b : Nat, f a b = true → f b a = false) {s : Nat} (hs : s ≤ 5) : (bpAll f s s).length < 20 := by
  have hl : ∀ a b : Nat, (bpTo f a b).length = ctTo f a b := fun a b => by
    induction b with
    | zero => rfl
    | succ b ih =>
      unfold bpTo ctTo
      rw [List.length_append, ih]
      split <;> simp
  have h1 : ∀ a b : Nat, (if f a b = true then 1 else 0) + (if f b a = true then 1 else 0) ≤ 1 := fun a b => by
    cases h : f a b with
    | true => rw [has a b h]; simp
    | false => simp; split <;> omega
  have ha : ∀ a : Nat, (bpAll f s (a + 1)).length = (bpAll f s a).length + ctTo f a s := fun a => by
    show (bpAll f s a ++ bpTo f a s).length = _
    rw [List.length_append, hl]
  have c01 := h1 0 1
  have c02 := h1 0 2
  have c03 := h1 0 3
  have c04 := h1 0 4
  have c12 := h1 1 2
  have c13 := h1 1 3
  have c14 := h1 1 4
  have c23 := h1 2 3
  have c24 := h1 2 4
  have c34 := h1 3 4
  have r0 := hr 0
  have r1 := hr 1
  have r2 := hr 2
  have r3 := hr 3
  have r4 := hr 4
  have hz : (bpAll f s 0).length = 0 := rfl
  rcases (by omega : s = 0 ∨ s = 1 ∨ s = 2 ∨ s = 3 ∨ s = 4 ∨ s = 5) with rfl | rfl | rfl | rfl | rfl | rfl
  all_goals simp only [ha, hz, ctTo, Int.natCast_zero] at *
  all_goals simp [r0, r1, r2, r3, r4] at *
  all_goals omega
inductive Rch (K : List Int) : Int → Int → Prop
  | rf (a : Int) : Rch K a a
  | st {e b : Int} (he : e ∈ K) (h : Rch K (e % 8) b) : Rch K (e / 8) b
open Classical in
noncomputable def rcB (K : List Int) (a b : Int) : Bool := decide (Rch K a b)
theorem rcB_iff {K : List Int} {a b : Int} : rcB K a b = true ↔ Rch K a b := by classical unfold rcB; exact ⟨fun h => of_decide_eq_true h, fun h => decide_eq_true h⟩
theorem Rch.trans {K : List Int} {a b c : Int} (h : Rch K a b) (h' : Rch K b c) : Rch K a c := by
  induction h with
  | rf => exact h'
  | st he _ ih => exact .st he (ih h')
theorem Rch.mono {K K' : List Int} (hK : ∀ e ∈ K, e ∈ K') {a b : Int} (h : Rch K a b) : Rch K' a b := by
  induction h with
  | rf => exact .rf _
  | st he _ ih => exact .st (hK _ he) ih
theorem rcB_eq {K : List Int} {a b : Int} : rcB K a b = (decide (a = b) || K.any fun e => decide (e / 8 = a) && rcB K (e % 8) b) := by
  rw [Bool.eq_iff_iff, rcB_iff, Bool.or_eq_true, decide_eq_true_eq, List.any_eq_true]
  constructor
  · intro h
    cases h with
    | rf => exact .inl rfl
    | st he h => exact .inr ⟨_, he, by rw [Bool.and_eq_true, decide_eq_true_eq, rcB_iff]; exact ⟨rfl, h⟩⟩
  · rintro (rfl | ⟨e, he, h⟩)
    · exact .rf _
    · rw [Bool.and_eq_true, decide_eq_true_eq, rcB_iff] at h
      rw [← h.1]
      exact .st he h.2
def Acy (K : List Int) : Prop := ∃ r : Int → Nat, ∀ e ∈ K, r (e % 8) < r (e / 8)
open Classical in
theorem Acy.snoc {K : List Int} {e : Int} (h : Acy K) (hn : ¬ Rch K (e % 8) (e / 8)) : Acy (K ++ [e]) := by
  obtain ⟨r, hr⟩ := h
  refine ⟨fun v => if Rch K v (e / 8) then r v + r (e % 8) + 1 else r v, fun g hg => ?_⟩
  rcases List.mem_append.1 hg with hg | hg
  · have h1 := hr g hg
    simp only
    by_cases h2 : Rch K (g % 8) (e / 8)
    · rw [if_pos h2, if_pos (.st hg h2)]; omega
    · rw [if_neg h2]
      split <;> omega
  · rw [List.mem_singleton] at hg
    subst hg
    simp only
    rw [if_neg hn, if_pos (.rf _)]
    omega
noncomputable def kpT (P : List Int) : Nat → List Int
  | 0 => []
  | i + 1 => if rcB (kpT P i) (at0 P i % 8) (at0 P i / 8) = true then kpT P i else kpT P i ++ [at0 P i]
theorem kpT_acy {P : List Int} : ∀ {i : Nat}, Acy (kpT P i)
  | 0 => ⟨fun _ => 0, by simp [kpT]⟩
  | i + 1 => by
    have ih := kpT_acy (P := P) (i := i)
    unfold kpT
    split
    · exact ih
    · rename_i h
      exact ih.snoc fun h' => h (rcB_iff.2 h')
theorem kpT_mem {P : List Int} : ∀ {i : Nat}, i ≤ P.length → (∀ e ∈ kpT P i, e ∈ P) ∧ (kpT P i).length ≤ i
  | 0, _ => by simp [kpT]
  | i + 1, hi => by
    have ih := kpT_mem (P := P) (i := i) (by omega)
    unfold kpT
    split
    · exact ⟨ih.1, by omega⟩
    · refine ⟨fun e he => ?_, by simp; omega⟩
      rcases List.mem_append.1 he with he | he
      · exact ih.1 e he
      · rw [List.mem_singleton] at he
        rw [he, at0_eq (by omega)]
        exact List.getElem_mem _
noncomputable def kpA (vs : List Vt) (s : Nat) : List Int := kpT (pcT vs s) (pcT vs s).length
def prsB (s : Nat) (K : List Int) : Prop := ∀ e ∈ K, ∃ i j : Nat, e = (i : Int) * 8 + j ∧ i < s ∧ j < s ∧ j < 5
theorem pcT_prs {vs : List Vt} {s : Nat} (hs : s ≤ 5) : prsB s (pcT vs s) := fun e he => by
  obtain ⟨i, j, h1, h2, h3⟩ := pcAt_mem (Nat.le_refl _) (.inl rfl) (isort_mem.1 he)
  exact ⟨i, j, h1, h2, h3, by omega⟩
theorem pcT_len {vs : List Vt} {s : Nat} (hs : s ≤ 5) : (pcT vs s).length < 20 := by
  unfold pcT
  rw [isort_len]
  have := ctSum (f := btB vs) (fun a => btB_irr _) (fun a b => btB_asym _ _) hs
  simp [pcAt, bpTo]
  exact this
theorem kp_prs {vs : List Vt} {s i : Nat} (hs : s ≤ 5) (hi : i ≤ (pcT vs s).length) : prsB s (kpT (pcT vs s) i) := fun e he => pcT_prs hs e ((kpT_mem hi).1 e he)
def frE (K out : List Int) (a : Nat) : Bool := !decide ((a : Int) ∈ out) && K.all fun e => decide (e % 8 ≠ (a : Int)) || decide (e / 8 ∈ out)
def pkT (K : List Int) (s : Nat) : Nat → List Int
  | 0 => []
  | k + 1 => pkT K s k ++ [(((fsTo (frE K (pkT K s k)) s).getD 0 : Nat) : Int)]
theorem fsTo_get {p : Nat → Bool} : ∀ {n i : Nat}, fsTo p n = some i → i < n ∧ p i = true ∧ ∀ j, j < i → p j = false
  | 0, i, h => by simp [fsTo] at h
  | n + 1, i, h => by
    unfold fsTo at h
    cases hz : fsTo p n with
    | some k =>
      rw [hz] at h
      simp at h
      subst h
      obtain ⟨h1, h2, h3⟩ := fsTo_get hz
      exact ⟨by omega, h2, h3⟩
    | none =>
      rw [hz] at h
      by_cases hp : p n = true
      · simp [hp] at h
        subst h
        refine ⟨by omega, hp, fun j hj => ?_⟩
        cases hpj : p j with
        | false => rfl
        | true =>
          have hex : ∃ i, fsTo p n = some i := by
            suffices hh : ∀ m, j < m → ∃ i, fsTo p m = some i from hh n hj
            intro m
            induction m with
            | zero => intro h; omega
            | succ m ih =>
              intro hm
              unfold fsTo
              by_cases e : j = m
              · subst e
                cases hq : fsTo p j with
                | some k => exact ⟨k, rfl⟩
                | none => exact ⟨j, by simp [hpj]⟩
              · obtain ⟨i, hi⟩ := ih (by omega)
                rw [hi]; exact ⟨i, rfl⟩
          obtain ⟨i, hi⟩ := hex
          rw [hz] at hi; cases hi
      · simp [hp] at h
theorem fsTo_ex {p : Nat → Bool} {j : Nat} (hj : p j = true) : ∀ {n : Nat}, j < n → ∃ i, fsTo p n = some i
  | 0, h => by omega
  | n + 1, h => by
    unfold fsTo
    by_cases e : j = n
    · subst e
      cases hq : fsTo p j with
      | some k => exact ⟨k, rfl⟩
      | none => exact ⟨j, by simp [hj]⟩
    · obtain ⟨i, hi⟩ := fsTo_ex hj (n := n) (by omega)
      rw [hi]; exact ⟨i, rfl⟩
theorem fr_ex {K out : List Int} {s : Nat} (hK : Acy K) (hp : prsB s K) (hl : 0 < (lfO s out).length) : ∃ i, fsTo (frE K out) s = some i := by
  obtain ⟨r, hr⟩ := hK
  have hmax : ∀ l : List Int, 0 < l.length → ∃ x ∈ l, ∀ y ∈ l, r y ≤ r x := by
    intro l
    induction l with
    | nil => intro h; simp at h
    | cons x l ih =>
      intro _
      by_cases h0 : 0 < l.length
      · obtain ⟨z, hz, hm⟩ := ih h0
        by_cases h : r z ≤ r x
        · exact ⟨x, by simp, fun y hy => by rcases List.mem_cons.1 hy with rfl | hy; omega; have := hm y hy; omega⟩
        · exact ⟨z, by simp [hz], fun y hy => by rcases List.mem_cons.1 hy with rfl | hy; omega; exact hm y hy⟩
      · have : l = [] := List.length_eq_zero_iff.1 (by omega)
        subst this
        exact ⟨x, by simp, fun y hy => by simp at hy; subst hy; omega⟩
  obtain ⟨x, hx, hm⟩ := hmax _ hl
  obtain ⟨a, rfl, ha, hno⟩ := lfO_mem.1 hx
  refine fsTo_ex (j := a) ?_ ha
  unfold frE
  rw [Bool.and_eq_true, Bool.not_eq_true', decide_eq_false_iff_not, List.all_eq_true]
  refine ⟨hno, fun e he => ?_⟩
  rw [Bool.or_eq_true, decide_eq_true_eq, decide_eq_true_eq]
  by_cases h1 : e % 8 = (a : Int)
  · right
    apply Classical.byContradiction
    intro h2
    obtain ⟨i, j, h3, h4, h5⟩ := hp e he
    have hlt := hr e he
    have hi : e / 8 = (i : Int) := by omega
    have := hm (e / 8) (lfO_mem.2 ⟨i, hi, h4, by rw [← hi]; exact h2⟩)
    rw [h1] at hlt
    omega
  · exact .inl h1
theorem pkT_facts {K : List Int} {s : Nat} (hK : Acy K) (hp : prsB s K) : ∀ {k : Nat}, k ≤ s → (pkT K s k).length = k ∧ (lfO s (pkT K s k)).length + k = s ∧ (∀ x ∈ pkT K s k, ∃ i : Nat, x = i ∧ i < s) ∧ (k < s → ∃ i, fsTo (frE K (pkT K s k)) s = some i)
  | 0, _ => by
    refine ⟨rfl, by simp [pkT, lfO_nil, idx_len], by simp [pkT], fun h => fr_ex hK hp ?_⟩
    simp [pkT, lfO_nil, idx_len]; exact h
  | k + 1, hk => by
    obtain ⟨h1, h2, h3, h4⟩ := pkT_facts hK hp (k := k) (by omega)
    obtain ⟨i, hi⟩ := h4 (by omega)
    obtain ⟨g1, g2, _⟩ := fsTo_get hi
    have e : pkT K s (k + 1) = pkT K s k ++ [(i : Int)] := by
      show pkT K s k ++ [(((fsTo (frE K (pkT K s k)) s).getD 0 : Nat) : Int)] = _
      rw [hi]; rfl
    have hno : (i : Int) ∉ pkT K s k := by
      unfold frE at g2
      rw [Bool.and_eq_true, Bool.not_eq_true', decide_eq_false_iff_not] at g2
      exact g2.1
    obtain ⟨p, hp1, hp2⟩ := List.getElem_of_mem (lfO_mem.2 ⟨i, rfl, g1, hno⟩ : (i : Int) ∈ lfO s (pkT K s k))
    have hdel := lfO_lenS hp1
    rw [at0_eq hp1, hp2] at hdel
    have hlen : (lfO s (pkT K s (k + 1))).length + (k + 1) = s := by rw [e]; omega
    refine ⟨by rw [e]; simp [h1], hlen, fun x hx => ?_, fun hlt => fr_ex hK hp (by omega)⟩
    rw [e] at hx
    rcases List.mem_append.1 hx with hx | hx
    · exact h3 x hx
    · rw [List.mem_singleton] at hx
      exact ⟨i, hx, g1⟩
noncomputable def pkA (vs : List Vt) (s : Nat) : List Int := pkT (kpA vs s) s s
end Go.Proofs.YtigepnpiofcooaaGreat.Ax
namespace Go.Proofs.YtigepnpiofcooaaGreat.Ax
open Go Go.RowKit
set_option linter.unusedSimpArgs false
theorem leads1 (K : List Int) (nk : Bool) (a b e : Int) (md : List AV → Option AV) (hm : FnOk Tryz.prog 130 md) (hz : e / 8 = a → md [.sl nk 1 (K.map pcA), .v (.int .i64 (e % 8)), .v (.int .i64 b)] = some (.v (.bool (rcB K (e % 8) b)))) :
    CallOk Tryz.prog 151 (row (pcL e) :: [.fp (int a) 0, .fp (.sl nk 1 (K.map pcA)) 0, .fp (int b) 0]) (.v (.bool (decide (e / 8 = a) && rcB K (e % 8) b))) := by
  have hG : FnsOk Tryz.prog [(130, md)] := .cons hm .nil
  refine callOk_awp (ctx_ok eqOk hG) mixed (live := [true, true, true, true, false, true]) (dt := [(1, ⟨[], [], []⟩)]) Tryz.func151 rfl (by kernel_rfl) (by kernel_rfl) fun w0 hlens => ?_
  clear hlens
  by_cases h : e / 8 = a
  · have hz := hz h
    simp [Tryz.f151, List.range, List.range.loop, ints, intss, int, bool, row, frac, fracs, ← List.map_take, ← List.map_drop, pcL, h, hz]
  · have h2 : (e / 8 == a) = false := by simpa using h
    simp [Tryz.f151, List.range, List.range.loop, ints, intss, int, bool, row, frac, fracs, ← List.map_take, ← List.map_drop, pcL, h, h2]
theorem leads_call (K : List Int) (nk : Bool) (b : Int) (r : Int → Nat) (hr : ∀ e ∈ K, r (e % 8) < r (e / 8)) : ∀ (n : Nat) (a : Int), r a < n → CallOk Tryz.prog 130 [.sl nk 1 (K.map pcA), int a, int b] (.v (.bool (rcB K a b)))
  | 0, a, h => by omega
  | n + 1, a, h => by
    have ih := leads_call K nk b r hr n
    have hm : FnOk Tryz.prog 130 (mk (fun a => r a < n) (fun a : Int => [.sl nk 1 (K.map pcA), int a, int b]) (fun a => .v (.bool (rcB K a b)))) := mk_ok fun a h => ih a h
    have hat : ∀ a, r a < n → mk (fun a => r a < n) (fun a : Int => [.sl nk 1 (K.map pcA), int a, int b]) (fun a => .v (.bool (rcB K a b))) [.sl nk 1 (K.map pcA), .v (.int .i64 a), .v (.int .i64 b)] = some (.v (.bool (rcB K a b))) := fun a h =>
      mk_eq (enc := fun a : Int => [.sl nk 1 (K.map pcA), int a, int b]) (f := fun a => AV.v (.bool (rcB K a b))) (x := a) (by
        intro x y h
        simp [int] at h
        rw [h]) h
    generalize mk (fun a => r a < n) (fun a : Int => [.sl nk 1 (K.map pcA), int a, int b]) (fun a => .v (.bool (rcB K a b))) = md at hm hat
    have hc := containsIntss (g := 151) (pure_fp (a := int a) (j := 0) (pure_fp (a := .sl nk 1 (K.map pcA)) (j := 0) (pure_fp (a := int b) (j := 0) pure_nil))) (fun x => decide (at0 x.2 0 = a) && rcB K (at0 x.2 1) b) nk (K.map pcL) (fun x hx => by
      obtain ⟨e, he, rfl⟩ := List.mem_map.1 hx
      have hre := hr e he
      exact leads1 K nk a b e md hm fun h2 => hat _ (by rw [h2] at hre; omega))
    obtain ⟨m2, hm2, hz⟩ := as_model hc
    have ea : (K.map pcL).any (fun x => decide (at0 x.2 0 = a) && rcB K (at0 x.2 1) b) = K.any fun e => decide (e / 8 = a) && rcB K (e % 8) b := by
      rw [List.any_map]; rfl
    rw [ea] at hz
    simp only [intss, ← pcA_row, int, bool] at hz
    have hG : FnsOk Tryz.prog [(89, m2)] := .cons hm2 .nil
    refine callOk_awpZ [0, 1, 2] (ctx_ok eqOk hG) mixed (live := [true, true, true, true, true, true, true, false, false, true]) (dt := []) Tryz.func130 rfl (by kernel_rfl) (by kernel_rfl) fun w0 hlens => ?_
    clear hlens
    rw [rcB_eq]
    by_cases h : a = b
    · subst h
      simp [Tryz.f130, List.range, List.range.loop, ints, intss, int, bool, row, frac, fracs, ← List.map_take, ← List.map_drop, andThen_n, freeze, frzA, frzAL, sets]
    · have h2 : (a == b) = false := by simpa using h
      simp [Tryz.f130, List.range, List.range.loop, ints, intss, int, bool, row, frac, fracs, ← List.map_take, ← List.map_drop, andThen_n, freeze, frzA, frzAL, sets, h, h2, hz]
noncomputable def mLds : List AV → Option AV := mk (fun p => Acy p.2.1) (fun (p : Bool × List Int × Int × Int) => [.sl p.1 1 (p.2.1.map pcA), int p.2.2.1, int p.2.2.2]) (fun p => .v (.bool (rcB p.2.1 p.2.2.1 p.2.2.2)))
theorem pcA_map_inj {l l' : List Int} : l.map pcA = l'.map pcA ↔ l = l' := ⟨fun h => List.map_inj_right (fun x y h => pcA_inj h) |>.1 h, fun h => by rw [h]⟩
theorem mLds_at (nk : Bool) (K : List Int) (a b : Int) (h : Acy K) : mLds [.sl nk 1 (K.map pcA), .v (.int .i64 a), .v (.int .i64 b)] = some (.v (.bool (rcB K a b))) :=
  mk_eq (enc := fun (p : Bool × List Int × Int × Int) => [.sl p.1 1 (p.2.1.map pcA), int p.2.2.1, int p.2.2.2]) (x := (nk, K, a, b)) (by
    rintro ⟨x1, x2, x3, x4⟩ ⟨y1, y2, y3, y4⟩ h
    simp [int, pcA_map_inj] at h
    obtain ⟨⟨_, h1⟩, h2, h3⟩ := h
    simp only
    rw [h1, h2, h3]) h
theorem leads_ok : FnOk Tryz.prog 130 mLds := by
  refine mk_ok fun ⟨nk, K, a, b⟩ h => ?_
  obtain ⟨r, hr⟩ := h
  exact leads_call K nk b r hr (r a + 1) a (by omega)
end Go.Proofs.YtigepnpiofcooaaGreat.Ax
