/-
  Contracts: who has the greatest score, the ranking by scores (both programs). No condition.
-/
import Derived.Test.YtigepnpiofcooaaGreatCG10
namespace Go.Proofs.YtigepnpiofcooaaGreat.Ax
open Go Go.RowKit
set_option linter.unusedSimpArgs false
def grT (l : List Int) : List Int := posOf l (mx l) l.length
theorem grT_ne {l : List Int} (h : 0 < l.length) : grT l ≠ [] := posOf_ne (Nat.le_refl _) h
theorem grT_mem {l : List Int} {x : Int} (h : x ∈ grT l) : ∃ i : Nat, x = i ∧ i < l.length := by
  obtain ⟨i, h1, h2, _⟩ := posOf_mem h
  exact ⟨i, h1, h2⟩
theorem grT_len {l : List Int} : (grT l).length ≤ l.length := posOf_len
theorem mGr_at (nl : Bool) (xs : List Int) (h0 : 0 < xs.length) (h' : xs.length ≤ 2 ^ 40) : mGreat [.sl nl 1 (xs.map int)] = some (.sl false 1 ((grT xs).map int)) := by
  have h := mGreat_at nl xs h'
  have e : (posOf xs (mx xs) xs.length).isEmpty = false := by
    cases hz : posOf xs (mx xs) xs.length with
    | nil => exact (grT_ne h0 hz).elim
    | cons _ _ => rfl
  rw [e] at h
  exact h
theorem mBe_at (nl : Bool) (xs : List Int) (h' : xs.length ≤ 2 ^ 40) : mBest [.sl nl 1 (xs.map int)] = some (.sl false 1 ((grT xs).map int)) := mBest_at nl xs h'
noncomputable def mSwn : List AV → Option AV := mk (fun p => profB (p.1 : Int) p.2.2.1 = true ∧ wtB p.1 p.2.2.2.2 = true) (fun (p : PrW) => [prof (p.1 : Int) p.2.1 p.2.2.1, ints p.2.2.2.1 p.2.2.2.2]) (fun p => ints false (grT (scV p.2.2.2.2 p.1 p.2.2.1)))
theorem mSwn_at (s : Nat) (nl : Bool) (vs : List Vt) (nw : Bool) (ws : List Int) (h : profB (s : Int) vs = true ∧ wtB s ws = true) : mSwn [.agg [.v (.int .i64 (s : Int)), .sl nl 2 (vs.map vote)], .sl nw 1 (ws.map int)] = some (.sl false 1 ((grT (scV ws s vs)).map int)) :=
  mk_eq (enc := fun (p : PrW) => [prof (p.1 : Int) p.2.1 p.2.2.1, ints p.2.2.2.1 p.2.2.2.2]) (x := (s, nl, vs, nw, ws)) (fun x y h => by rw [PrW_inj h]) h
theorem implSwn_ok : FnOk Tryz.prog 20 mSwn := by
  refine mk_ok fun ⟨S, nl, vs, nw, ws⟩ ⟨hp, hw⟩ => ?_
  simp only at hp hw
  obtain ⟨w1, w5, _⟩ := wt_facts hw
  have hs := mSco_at S nl vs nw ws ⟨hp, hw⟩
  have hl := scV_len (ws := ws) (s := S) (vs := vs)
  have hg := mGr_at false (scV ws S vs) (by omega) (by omega)
  have hG : FnsOk Tryz.prog [(61, mSco), (24, mGreat)] := (.cons implScores_ok (.cons greatest_ok .nil))
  refine callOk_awpZ [0] (ctx_ok eqOk hG) mixed (live := [true, true, true, false, true]) (dt := []) Tryz.func20 rfl (by kernel_rfl) (by kernel_rfl) fun w0 hlens => ?_
  clear hlens
  generalize scV ws S vs = A at *
  have hAt : A.take A.length = A := List.take_length
  simp [Tryz.f20, List.range, List.range.loop, ints, intss, int, bool, row, frac, fracs, ← List.map_take, ← List.map_drop, andThen_n, freeze, frzA, frzAL, sets, prof, hs, hg, hAt]
theorem l05Ok_ok (S : Nat) (nl : Bool) (vs : List Vt) (nw : Bool) (ws : List Int) (hp : profB (S : Int) vs = true) (hw : wtB S ws = true) : CallOk Tryz.prog 97 [prof (S : Int) nl vs, ints nw ws] (bool true) := by
  have hpp := mProf_at (S : Int) nl vs
  rw [hp] at hpp
  have hwo := mWOk_at S nw ws hw
  have hG : FnsOk Tryz.prog [(16, mProf), (135, mWOk)] := (.cons specProf_ok (.cons specWOk_ok .nil))
  refine callOk_awpZ [0] (ctx_ok eqOk hG) mixed (live := [true, true, true, false, true]) (dt := []) Tryz.func97 rfl (by kernel_rfl) (by kernel_rfl) fun w0 hlens => ?_
  clear hlens
  simp [Tryz.f97, List.range, List.range.loop, ints, intss, int, bool, row, frac, fracs, ← List.map_take, ← List.map_drop, andThen_n, freeze, frzA, frzAL, sets, prof, hpp, hwo]
noncomputable def mL05 : List AV → Option AV := mk (fun p => profB (p.1 : Int) p.2.2.1 = true ∧ wtB p.1 p.2.2.2.2 = true) (fun (p : PrW) => [prof (p.1 : Int) p.2.1 p.2.2.1, ints p.2.2.2.1 p.2.2.2.2]) (fun _ => bool true)
theorem mL05_at (s : Nat) (nl : Bool) (vs : List Vt) (nw : Bool) (ws : List Int) (h : profB (s : Int) vs = true ∧ wtB s ws = true) : mL05 [.agg [.v (.int .i64 (s : Int)), .sl nl 2 (vs.map vote)], .sl nw 1 (ws.map int)] = some (.v (.bool true)) :=
  mk_eq (enc := fun (p : PrW) => [prof (p.1 : Int) p.2.1 p.2.2.1, ints p.2.2.2.1 p.2.2.2.2]) (x := (s, nl, vs, nw, ws)) (fun _ _ _ => rfl) h
theorem l05Ok_okM : FnOk Tryz.prog 97 mL05 := by
  exact mk_ok fun ⟨S, nl, vs, nw, ws⟩ h => l05Ok_ok S nl vs nw ws h.1 h.2
theorem specSwn_ok : FnOk Tryz.prog 40 mSwn := by
  refine mk_ok fun ⟨S, nl, vs, nw, ws⟩ ⟨hp, hw⟩ => ?_
  simp only at hp hw
  obtain ⟨w1, w5, _⟩ := wt_facts hw
  have hs := mSco_at S nl vs nw ws ⟨hp, hw⟩
  have hl := scV_len (ws := ws) (s := S) (vs := vs)
  have hg := mBe_at false (scV ws S vs) (by omega)
  have hk := mL05_at S nl vs nw ws ⟨hp, hw⟩
  have hG : FnsOk Tryz.prog [(97, mL05), (98, mSco), (44, mBest)] := (.cons l05Ok_okM (.cons specScores_ok (.cons l05Best_ok .nil)))
  refine callOk_awpZ [0] (ctx_ok eqOk hG) mixed (live := [true, true, true, false, true, false, false, false, true]) (dt := []) Tryz.func40 rfl (by kernel_rfl) (by kernel_rfl) fun w0 hlens => ?_
  clear hlens
  generalize scV ws S vs = A at *
  have hAt : A.take A.length = A := List.take_length
  simp [Tryz.f40, List.range, List.range.loop, ints, intss, int, bool, row, frac, fracs, ← List.map_take, ← List.map_drop, andThen_n, freeze, frzA, frzAL, sets, prof, hs, hg, hk, hAt]
theorem scoreRk1 (nl : Bool) (rs : List Int) (x y : Int) (hx : 0 ≤ x ∧ x.toNat < rs.length) (hy : 0 ≤ y ∧ y.toNat < rs.length) (hr : ∀ z ∈ rs, 0 ≤ z ∧ z ≤ 12000000) :
    CallOk Tryz.prog 120 (.v (.int .i64 x) :: .v (.int .i64 y) :: [.fp (ints nl rs) 0]) (.v (.int .i64 (rstC rs x y))) := by
  have hG : FnsOk Tryz.prog [] := .nil
  refine callOk_awp (ctx_ok eqOk hG) mixed (live := [true, true, true, false, false, true]) (dt := [(1, ⟨[], [], []⟩)]) Tryz.func120 rfl (by kernel_rfl) (by kernel_rfl) fun w0 hlens => ?_
  clear hlens
  obtain ⟨a, rfl⟩ : ∃ a : Nat, x = a := ⟨x.toNat, by omega⟩
  obtain ⟨b, rfl⟩ : ∃ b : Nat, y = b := ⟨y.toNat, by omega⟩
  simp only [Int.toNat_natCast] at hx hy
  have e1 : rs[a]'hx.2 = at0 rs a := (at0_eq hx.2).symm
  have e2 : rs[b]'hy.2 = at0 rs b := (at0_eq hy.2).symm
  have b1 := hr _ (List.getElem_mem hx.2)
  have b2 := hr _ (List.getElem_mem hy.2)
  rw [e1] at b1
  rw [e2] at b2
  have w1 : IntKind.i64.wrap (at0 rs b - at0 rs a) = at0 rs b - at0 rs a := wrapI (by omega) (by omega)
  simp [Tryz.f120, List.range, List.range.loop, ints, intss, int, bool, row, frac, fracs, ← List.map_take, ← List.map_drop, hx.2, hy.2, e1, e2, w1, rstC]
theorem scV_all {ws : List Int} {s : Nat} {vs : List Vt} (hp : profB (s : Int) vs = true) (hw : wtB s ws = true) : ∀ z ∈ scV ws s vs, 0 ≤ z ∧ z ≤ 12000000 := by
  obtain ⟨h1, h2, h3⟩ := prof_facts hp
  obtain ⟨w1, w5, wl, wr, _⟩ := wt_facts hw
  have h := scV_bd (ws := ws) (s := s) (by omega) wr (fun v hv => (h3 v hv).2) vs.length (Nat.le_refl _)
  rw [List.take_length] at h
  intro z hz
  have := h z hz
  omega
noncomputable def mSrk : List AV → Option AV := mk (fun p => profB (p.1 : Int) p.2.2.1 = true ∧ wtB p.1 p.2.2.2.2 = true) (fun (p : PrW) => [prof (p.1 : Int) p.2.1 p.2.2.1, ints p.2.2.2.1 p.2.2.2.2]) (fun p => ints false (ordH (scV p.2.2.2.2 p.1 p.2.2.1)))
theorem mSrk_at (s : Nat) (nl : Bool) (vs : List Vt) (nw : Bool) (ws : List Int) (h : profB (s : Int) vs = true ∧ wtB s ws = true) : mSrk [.agg [.v (.int .i64 (s : Int)), .sl nl 2 (vs.map vote)], .sl nw 1 (ws.map int)] = some (.sl false 1 ((ordH (scV ws s vs)).map int)) :=
  mk_eq (enc := fun (p : PrW) => [prof (p.1 : Int) p.2.1 p.2.2.1, ints p.2.2.2.1 p.2.2.2.2]) (x := (s, nl, vs, nw, ws)) (fun x y h => by rw [PrW_inj h]) h
set_option maxHeartbeats 2000000 in
theorem implSrk_ok : FnOk Tryz.prog 72 mSrk := by
  refine mk_ok fun ⟨S, nl, vs, nw, ws⟩ ⟨hp, hw⟩ => ?_
  simp only at hp hw
  obtain ⟨w1, w5, _⟩ := wt_facts hw
  have hs := mSco_at S nl vs nw ws ⟨hp, hw⟩
  have hl := scV_len (ws := ws) (s := S) (vs := vs)
  have rb := scV_all hp hw
  generalize scV ws S vs = rs at *
  have hS := sort_ok (g := 120) (pure_fp (a := ints false rs) (j := 0) pure_nil) (rstC rs) false (idx S) (by rw [idx_len]; omega) (fun x hx y hy => by
    simp only [idx, List.mem_map, List.mem_range] at hx hy
    obtain ⟨a, ha, rfl⟩ := hx
    obtain ⟨b, hb, rfl⟩ := hy
    exact scoreRk1 false rs a b ⟨by omega, by simp; omega⟩ ⟨by omega, by simp; omega⟩ rb)
  have ho : isort (rstC rs) (idx S) = ordH rs := by unfold ordH; rw [hl]
  rw [ho] at hS
  have hi : FnMut Tryz.prog 119 (mkM (fun _ : Unit => True) (fun _ => [ints false (idx S), .fn 120 [.fp (ints false rs) 0]]) (fun _ => (0, .tup [], ints false (ordH rs)))) := mkM_ok fun _ _ => hS
  have hat : mkM (fun _ : Unit => True) (fun _ => [ints false (idx S), .fn 120 [.fp (ints false rs) 0]]) (fun _ => (0, .tup [], ints false (ordH rs))) [.sl false 1 ((idx S).map int), .fn 120 [.fp (.sl false 1 (rs.map int)) 0]] = some (0, .tup [], .sl false 1 ((ordH rs).map int)) := mkM_eq (x := ()) (fun _ _ _ => rfl) trivial
  generalize mkM (fun _ : Unit => True) (fun _ => [ints false (idx S), .fn 120 [.fp (ints false rs) 0]]) (fun _ => (0, AV.tup [], ints false (ordH rs))) = m at hi hat
  have hM : FnsMut Tryz.prog [(119, m)] := .cons hi .nil
  have hG : FnsOk Tryz.prog [(61, mSco), (86, mIdx)] := (.cons implScores_ok (.cons indices_ok .nil))
  refine callOk_awpZ [0] (ctxM_ok eqOk hG hM) mixed (live := [true, true, true, false, true, true, true, false, false, false, false, true]) (dt := []) Tryz.func72 rfl (by kernel_rfl) (by kernel_rfl) fun w0 hlens => ?_
  clear hlens
  have hx := mIdx_at S (by omega)
  have hil := idx_len (n := S)
  have hol := ordH_len (rs := rs)
  have hit : (idx S).take S = idx S := List.take_of_length_le (by omega)
  have hot : (ordH rs).take S = ordH rs := List.take_of_length_le (by omega)
  have hrt : rs.take S = rs := List.take_of_length_le (by omega)
  simp [Tryz.f72, List.range, List.range.loop, ints, intss, int, bool, row, frac, fracs, ← List.map_take, ← List.map_drop, List.eraseIdx, andThen_n, freeze, frzA, frzAL, sets, prof, hs, hl, hx, hil, hit, hat, hol, hot, hrt]
set_option maxRecDepth 8000 in
set_option maxHeartbeats 4000000 in
theorem specSrk_ok : FnOk Tryz.prog 102 mSrk := by
  refine mk_ok fun ⟨S, nl, vs, nw, ws⟩ ⟨hp, hw⟩ => ?_
  simp only at hp hw
  obtain ⟨w1, w5, _⟩ := wt_facts hw
  have hs := mSco_at S nl vs nw ws ⟨hp, hw⟩
  have hl := scV_len (ws := ws) (s := S) (vs := vs)
  have hk := mL05_at S nl vs nw ws ⟨hp, hw⟩
  generalize scV ws S vs = rs at *
  have ho : isort (rstC rs) (idx S) = ordH rs := by unfold ordH; rw [hl]
  have hG : FnsOk Tryz.prog [(97, mL05), (98, mSco)] := (.cons l05Ok_okM (.cons specScores_ok .nil))
  refine callOk_awpZ [0] (ctx_ok eqOk hG) mixed (live := [true, true, true, false, true, true, true, true, true, true, false, false, false, true, false, false, false, false, false, true, true, true, false, false, false, false, false, false, false, false, false, false, false, false, false, false, false, false, false, false, true]) (dt := [(9, ⟨[], [], []⟩)]) Tryz.func102 rfl (by kernel_rfl) (by kernel_rfl) fun w0 hlens => ?_
  clear hlens
  have hrt : rs.take S = rs := List.take_of_length_le (by omega)
  have z0 : isort (rstC rs) (idx 0) = [] := rfl
  simp [Tryz.f102, List.range, List.range.loop, ints, intss, int, bool, row, frac, fracs, ← List.map_take, ← List.map_drop, andThen_n, freeze, frzA, frzAL, sets, prof, hs, hl, hk, hrt]
  refine awp_range (live := [true, true, true, false, true, true, true, true, true, true, false, false, false, true, false, false, false, false, false, true, true, true, false, false, false, false, false, false, false, false, false, false, false, false, false, false, false, false, false, false, true]) (ctx_ok eqOk hG) mixed [false, false, false, false, false, true, true, false, false, false, false, false, false, false, false, false, false, false, false, true, true] (S) (fun k => True) (fun k => ⟨[.junk, .junk, .junk, .junk, .junk, .ref 0 [] 0 S, .ref 1 [] 0 k, .junk, .junk, .junk, .junk, .junk, .junk, .junk, .junk, .junk, .junk, .junk, .junk, int (S : Int), int k, .junk, .junk, .junk, .junk, .junk, .junk, .junk, .junk, .junk, .junk, .junk, .junk, .junk, .junk, .junk, .junk, .junk, .junk, .junk, .junk, .junk, .junk, .junk, .junk, .junk, .junk, .junk, .junk, .junk, .junk, .junk, .junk, .junk, .junk, .junk, .junk, .junk, .junk], [⟨true, .sl false 1 (rs.map int)⟩, ⟨true, .sl false 1 ((isort (rstC rs) (idx k)).map int)⟩]⟩) ?_ (by simp [sub, slotsLe, clean, keep, refsL, refs, once, place, renL, ren, List.replicate, int, bool, z0]) ?_ ?_ ?_
  · omega
  · trivial
  · intro k hk _ hwk
    have hst := isort_lex (rs := rs) k
    have hol : (isort (rstC rs) (idx k)).length = k := by rw [isort_len, idx_len]
    have hmo : ∀ y ∈ isort (rstC rs) (idx k), ∃ i : Nat, y = i ∧ i < k := fun y hy => by
      have := isort_mem.1 hy
      simp only [idx, List.mem_map, List.mem_range] at this
      obtain ⟨i, h1, h2⟩ := this
      exact ⟨i, h2.symm, h1⟩
    have hnx : isort (rstC rs) (idx (k + 1)) = ins (rstC rs) (isort (rstC rs) (idx k)) (k : Int) := by rw [idx_succ, isort_snoc]
    have hspl := fun j h1 h2 h3 => ins_split (c := rstC rs) (le := fun a b => at0 rs b.toNat ≤ at0 rs a.toNat) (D := fun _ => True) (fun x y _ _ => by unfold rstC; omega) (fun x y z _ _ _ h h' => Int.le_trans h' h) (ys := isort (rstC rs) (idx k)) (x := (k : Int)) (k := j) (fun _ _ => trivial) trivial
      (hst.imp fun h => by rcases h with h | ⟨h, _⟩ <;> omega) h1 h2 h3
    rw [hnx]
    generalize isort (rstC rs) (idx k) = out at *
    have hkr : k < rs.length := by omega
    have hkS : (k : Int) < (S : Int) := by omega
    have a1 : rs[k] = at0 rs k := (at0_eq hkr).symm
    simp only [Int.toNat_natCast] at hspl
    simp [List.range, List.range.loop, ints, intss, int, bool, row, frac, fracs, ← List.map_take, ← List.map_drop, hk, hkS, hl, hol]
    refine awp_loop_of (live := [true, true, true, false, true, true, true, true, true, true, false, false, false, true, false, false, false, false, false, true, true, true, false, false, false, false, false, false, false, false, false, false, false, false, false, false, false, false, false, false, true]) (ctx_ok eqOk hG) mixed [false, false, false, false, false, true, true, true, true, false, false, false, false, false, false, false, false, false, false, true, true] (α := {j : Nat // j ≤ k ∧ ∀ i (h : i < out.length), i < j → at0 rs k ≤ at0 rs out[i].toNat}) (fun j => ⟨[.junk, .junk, .junk, .junk, .junk, .ref 0 [] 0 S, .ref 1 [] 0 k, int (k : Int), int (j.1 : Int), .junk, .junk, .junk, .junk, .junk, .junk, .junk, .junk, .junk, .junk, int (S : Int), int k, .junk, .junk, .junk, .junk, .junk, .junk, .junk, .junk, .junk, .junk, .junk, .junk, .junk, .junk, .junk, .junk, .junk, .junk, .junk, .junk, .junk, .junk, .junk, .junk, .junk, .junk, .junk, .junk, .junk, .junk, .junk, .junk, .junk, .junk, .junk, .junk, .junk, .junk], [⟨true, .sl false 1 (rs.map int)⟩, ⟨true, .sl false 1 (out.map int)⟩]⟩) (fun j => k - j.1) ⟨0, Nat.zero_le _, fun i _ h => by omega⟩ (by simp [sub, slotsLe, clean, keep, refsL, refs, once, place, renL, ren, List.replicate, int, bool, hol, hl]) ?_
    rintro ⟨j, hj, hjl⟩
    by_cases hjo : j < k
    · have hjo2 : j < out.length := by omega
      have hjI : (j : Int) < (k : Int) := by omega
      obtain ⟨i, hi, hik⟩ := hmo _ (List.getElem_mem hjo2)
      have hir : i < rs.length := by omega
      have hiS : i < S := by omega
      have g1 : rs[i] = at0 rs i := (at0_eq hir).symm
      by_cases ht : at0 rs k ≤ at0 rs i
      · have hwj : IntKind.i64.wrap ((j : Int) + 1) = (j : Int) + 1 := wrapI (by omega) (by omega)
        simp [List.range, List.range.loop, ints, intss, int, bool, row, frac, fracs, ← List.map_take, ← List.map_drop, hk, hl, hol, hkr, hkS, hjo, hjo2, hjI, hi, hir, hiS, g1, a1, ht, hwj]
        refine ⟨⟨j + 1, by omega, fun i' hi' hlt => ?_⟩, by simp [sub, slotsLe, clean, keep, refsL, refs, once, place, renL, ren, List.replicate, int, bool, hol, hl], by simp; omega⟩
        by_cases e : i' = j
        · subst e; rw [hi, Int.toNat_natCast]; exact ht
        · exact hjl i' hi' (by omega)
      · have hsp := hspl j (by omega) hjl (.inr ⟨hjo2, fun h => ht (by rwa [hi, Int.toNat_natCast] at h)⟩)
        have hmm : (out.take j).map int ++ .v (.int .i64 (k : Int)) :: (out.drop j).map int = (ins (rstC rs) out (k : Int)).map int := by rw [hsp]; simp [int]
        have e1 : j * 8 ≤ 140737488355328 ∧ j ≤ 4611686018427387904 ∧ (j + 1) * 8 ≤ 140737488355328 ∧ j + 1 ≤ 4611686018427387904 ∧ (j + 1 + (k - j)) * 8 ≤ 140737488355328 ∧ j + 1 + (k - j) ≤ 4611686018427387904 ∧ j + (k - j) ≤ k := by omega
        have e2 : j + 1 + (k - j) = k + 1 := by omega
        have e3 : min j k = j := by omega
        have e4 : (out.drop j).take (k - j) = out.drop j := List.take_of_length_le (by simp; omega)
        have e6 : k ≤ 4611686018427387903 ∧ (k + 1) * 8 ≤ 140737488355328 := by omega
        have e5 : (ins (rstC rs) out (k : Int)).length = k + 1 := by rw [← hol]; exact insFrom_len
        have hjle : j ≤ k := hj
        simp [List.range, List.range.loop, ints, intss, int, bool, row, frac, fracs, ← List.map_take, ← List.map_drop, hk, hl, hol, hkr, hkS, hjo, hjo2, hjI, hi, hir, hiS, g1, a1, ht, hwk, hjle, e1, e2, e3, e4, e5, e6, hmm]
    · obtain rfl : j = k := by omega
      have hsp := hspl j (by omega) hjl (.inl (by omega))
      have e5 : (ins (rstC rs) out (j : Int)).length = j + 1 := by rw [← hol]; exact insFrom_len
      have e6 : j ≤ 4611686018427387904 ∧ j ≤ 4611686018427387903 ∧ (j + 1) * 8 ≤ 140737488355328 ∧ j * 8 ≤ 140737488355328 := by omega
      have e7 : out.map int ++ [.v (.int .i64 (j : Int))] = (ins (rstC rs) out (j : Int)).map int := by
        rw [hsp, List.take_of_length_le (by omega), List.drop_eq_nil_of_le (by omega)]; simp [int]
      have e8 : out.take j = out := List.take_of_length_le (by omega)
      have e9 : out.drop j = [] := List.drop_eq_nil_of_le (by omega)
      simp [List.range, List.range.loop, ints, intss, int, bool, row, frac, fracs, ← List.map_take, ← List.map_drop, hk, hl, hol, hkr, hkS, hwk, e5, e6, e7, e8, e9]
  · intro _
    have hol := ordH_len (rs := rs)
    have hot : (ordH rs).take S = ordH rs := List.take_of_length_le (by omega)
    rw [ho]
    simp [List.range, List.range.loop, ints, intss, int, bool, row, frac, fracs, ← List.map_take, ← List.map_drop, hl, hol, hot]
end Go.Proofs.YtigepnpiofcooaaGreat.Ax
namespace Go.Proofs.YtigepnpiofcooaaGreat.Ax
open Go Go.RowKit
set_option linter.unusedSimpArgs false
theorem sg_cmp {x : Int} : cmpI x 0 = sgI x := by unfold cmpI sgI; rfl
abbrev PrN := Nat × Bool × List Vt
theorem PrN_inj {x y : PrN} (h : [prof (x.1 : Int) x.2.1 x.2.2] = [prof (y.1 : Int) y.2.1 y.2.2]) : x = y := by
  obtain ⟨a, b, c⟩ := x
  obtain ⟨a', b', c'⟩ := y
  simp [prof, int, map_vote_inj] at h
  obtain ⟨h1, h2, h3⟩ := h
  rw [(by omega : a = a'), h2, h3]
noncomputable def mCop : List AV → Option AV := mk (fun p => profB (p.1 : Int) p.2.2 = true) (fun (p : PrN) => [prof (p.1 : Int) p.2.1 p.2.2]) (fun p => ints false (coT p.2.2 p.1))
theorem mCop_at (s : Nat) (nl : Bool) (vs : List Vt) (h : profB (s : Int) vs = true) : mCop [.agg [.v (.int .i64 (s : Int)), .sl nl 2 (vs.map vote)]] = some (.sl false 1 ((coT vs s).map int)) :=
  mk_eq (enc := fun (p : PrN) => [prof (p.1 : Int) p.2.1 p.2.2]) (x := (s, nl, vs)) (fun x y h => by rw [PrN_inj h]) h
noncomputable def mMmx : List AV → Option AV := mk (fun p => profB (p.1 : Int) p.2.2 = true) (fun (p : PrN) => [prof (p.1 : Int) p.2.1 p.2.2]) (fun p => ints false (mmT p.2.2 p.1))
theorem mMmx_at (s : Nat) (nl : Bool) (vs : List Vt) (h : profB (s : Int) vs = true) : mMmx [.agg [.v (.int .i64 (s : Int)), .sl nl 2 (vs.map vote)]] = some (.sl false 1 ((mmT vs s).map int)) :=
  mk_eq (enc := fun (p : PrN) => [prof (p.1 : Int) p.2.1 p.2.2]) (x := (s, nl, vs)) (fun x y h => by rw [PrN_inj h]) h
set_option maxHeartbeats 4000000 in
theorem implCop_ok : FnOk Tryz.prog 25 mCop := by
  refine mk_ok fun ⟨S, nl, vs⟩ hp => ?_
  simp only at hp
  obtain ⟨h1, h2, h3⟩ := prof_facts hp
  have hpp := mProf_at (S : Int) nl vs
  rw [hp] at hpp
  have hG : FnsOk Tryz.prog [(19, mProf), (68, mMarg), (67, mCmpI)] := (.cons implProf_ok (.cons margin_ok (.cons cmpCompare_ok .nil)))
  refine callOk_awpZ [0] (ctx_ok eqOk hG) mixed (live := [true, true, true, true, true, true, false, false, true, false, false, false, false, true, true, true, false, false, true, true, true]) (dt := [(10, ⟨[], [], []⟩)]) Tryz.func25 rfl (by kernel_rfl) (by kernel_rfl) fun w0 hlens => ?_
  clear hlens
  have hm6 : 8 * S ≤ 281474976710656 ∧ S ≤ 4611686018427387904 := by omega
  have zz : (fiT (fun i => coP vs i S) 0 0 S 0).map int = List.replicate S (AV.v (.int .i64 0)) := by rw [fiT_zero, List.map_replicate]; rfl
  have hm := fun a b => mMarg_at (S : Int) nl vs a b hp
  simp [Tryz.f25, List.range, List.range.loop, ints, intss, int, bool, row, frac, fracs, ← List.map_take, ← List.map_drop, andThen_n, freeze, frzA, frzAL, sets, prof, hm6, hpp]
  refine awp_range (live := [true, true, true, true, true, true, false, false, true, false, false, false, false, true, true, true, false, false, true, true, true]) (ctx_ok eqOk hG) mixed [false, true, false, true, false, false, false, false, false, false, false, false, false, true, true] (S) (fun a => True) (fun a => ⟨[.junk, .fp (prof (S : Int) nl vs) 0, .junk, .ref 0 [] 0 S, .junk, .junk, .junk, .junk, .junk, .junk, .junk, .junk, .junk, int (S : Int), int a, .junk, .junk, .junk, .junk, .junk, .junk, .junk, .junk, .junk, .junk, .junk, .junk, .junk, .junk, .junk, .junk, .junk, .junk, .junk, .junk, .junk], [⟨true, .sl false 1 ((fiT (fun i => coP vs i S) 0 0 S a).map int)⟩]⟩) ?_ (by simp [sub, slotsLe, clean, keep, refsL, refs, once, place, renL, ren, List.replicate, int, bool, prof, zz]) ?_ ?_ ?_
  · omega
  · trivial
  · intro a ha _ hwa
    have haI : (a : Int) < (S : Int) := by omega
    have zl := fun x => fiT_len (g := fun i => coP vs i S) (z := 0) (x := x) (s := S) (a := a)
    simp [List.range, List.range.loop, ints, intss, int, bool, row, frac, fracs, ← List.map_take, ← List.map_drop, prof, ha, haI, zl]
    refine awp_range (live := [true, true, true, true, true, true, false, false, true, false, false, false, false, true, true, true, false, false, true, true, true]) (ctx_ok eqOk hG) mixed [false, true, false, true, true, false, false, false, false, false, false, false, false, true, true, false, false, false, true, true] (S) (fun b => True) (fun b => ⟨[.junk, .fp (prof (S : Int) nl vs) 0, .junk, .ref 0 [] 0 S, int (a : Int), .junk, .junk, .junk, .junk, .junk, .junk, .junk, .junk, int (S : Int), int a, .junk, .junk, .junk, int (S : Int), int b, .junk, .junk, .junk, .junk, .junk, .junk, .junk, .junk, .junk, .junk, .junk, .junk, .junk, .junk, .junk, .junk], [⟨true, .sl false 1 ((fiT (fun i => coP vs i S) 0 (coP vs a b) S a).map int)⟩]⟩) ?_ (by simp [sub, slotsLe, clean, keep, refsL, refs, once, place, renL, ren, List.replicate, int, bool, prof, zl, coP]) ?_ ?_ ?_
    · omega
    · trivial
    · intro b hb _ hwb
      have hbI : (b : Int) < (S : Int) := by omega
      have hmz := hm a b
      have hbd := coP_bd (vs := vs) (a := a) b
      have hsg : coP vs a (b + 1) = coP vs a b + sgI (mgT vs a b) := rfl
      have hbd1 := coP_bd (vs := vs) (a := a) (b + 1)
      have hat := fiT_at (g := fun i => coP vs i S) (z := 0) (x := coP vs a b) ha
      have hset := fiT_set (g := fun i => coP vs i S) (z := 0) (x := coP vs a b) (y := coP vs a (b + 1)) (s := S) (a := a)
      have l1 := zl (coP vs a b)
      have l2 := zl (coP vs a (b + 1))
      generalize fiT (fun i => coP vs i S) 0 (coP vs a (b + 1)) S a = B at *
      generalize fiT (fun i => coP vs i S) 0 (coP vs a b) S a = A at *
      subst hset
      have haA : a < A.length := by omega
      have e3 : A[a] = coP vs a b := by rw [← at0_eq haA]; exact hat
      have hw : IntKind.i64.wrap (coP vs a b + sgI (mgT vs a b)) = coP vs a (b + 1) := by rw [← hsg]; exact wrapI (by omega) (by omega)
      simp [List.range, List.range.loop, ints, intss, int, bool, row, frac, fracs, ← List.map_take, ← List.map_drop, prof, ha, haI, hb, hbI, hmz, mCmpI_at, sg_cmp, haA, l1, e3, hw, hwb]
    · intro _
      have hn := fiT_next (g := fun i => coP vs i S) (z := 0) (s := S) (a := a)
      rw [hn]
      have l1 := fiT_len (g := fun i => coP vs i S) (z := 0) (x := 0) (s := S) (a := a + 1)
      simp [List.range, List.range.loop, ints, intss, int, bool, row, frac, fracs, ← List.map_take, ← List.map_drop, prof, hwa, l1]
  · intro _
    have l1 := fiT_len (g := fun i => coP vs i S) (z := 0) (x := 0) (s := S) (a := S)
    have e : fiT (fun i => coP vs i S) 0 0 S S = coT vs S := fiT_all
    rw [e] at l1 ⊢
    generalize coT vs S = A at *
    have hAt : A.take S = A := List.take_of_length_le (by omega)
    simp [List.range, List.range.loop, ints, intss, int, bool, row, frac, fracs, ← List.map_take, ← List.map_drop, prof, l1, hAt]
def coTo (vs : List Vt) (s k : Nat) : List Int := (List.range k).map fun a => coP vs a s
theorem coTo_succ {vs : List Vt} {s k : Nat} : coTo vs s (k + 1) = coTo vs s k ++ [coP vs k s] := by simp [coTo, List.range_succ]
theorem coTo_len {vs : List Vt} {s k : Nat} : (coTo vs s k).length = k := by simp [coTo]
theorem coTo_zero {vs : List Vt} {s : Nat} : coTo vs s 0 = [] := rfl
set_option maxHeartbeats 4000000 in
theorem specCop_ok : FnOk Tryz.prog 45 mCop := by
  refine mk_ok fun ⟨S, nl, vs⟩ hp => ?_
  simp only at hp
  obtain ⟨h1, h2, h3⟩ := prof_facts hp
  have hpp := mProf_at (S : Int) nl vs
  rw [hp] at hpp
  have hG : FnsOk Tryz.prog [(16, mProf), (99, mSums)] := (.cons specProf_ok (.cons l06Sums_ok .nil))
  refine callOk_awpZ [0] (ctx_ok eqOk hG) mixed (live := [true, true, true, true, true, true, true, false, false, true, false, false, false, false, false, false, false, true, true, true]) (dt := [(8, ⟨[], [0, 0, 0, 0, 0, 0, 0, 0, 0, 0, 1, 1], []⟩)]) Tryz.func45 rfl (by kernel_rfl) (by kernel_rfl) fun w0 hlens => ?_
  clear hlens
  have hz := mSums_at S nl vs hp
  have l1 := wonT_len (f := btB vs) (s := S)
  have l2 := lostT_len (f := btB vs) (s := S)
  have hat : ∀ k, k < S → at0 (wonT (btB vs) S) k - at0 (lostT (btB vs) S) k = coP vs k S := fun k hk => by rw [wonT_at hk, lostT_at hk, coP_eq]
  generalize wonT (btB vs) S = W at *
  generalize lostT (btB vs) S = L at *
  have t1 : W.take S = W := List.take_of_length_le (by omega)
  have t2 : L.take S = L := List.take_of_length_le (by omega)
  simp [Tryz.f45, List.range, List.range.loop, ints, intss, int, bool, row, frac, fracs, ← List.map_take, ← List.map_drop, andThen_n, freeze, frzA, frzAL, sets, prof, hpp, hz, l1, l2, t1, t2]
  refine awp_range (live := [true, true, true, true, true, true, true, false, false, true, false, false, false, false, false, false, false, true, true, true]) (ctx_ok eqOk hG) mixed [false, false, false, true, true, true, false, false, false, false, false, false, false, false, false, false, false, true, true] (S) (fun k => True) (fun k => ⟨[.junk, .junk, .junk, .ref 0 [] 0 S, .ref 1 [] 0 S, .ref 2 [] 0 k, .junk, .junk, .junk, .junk, .junk, .junk, .junk, .junk, .junk, .junk, .junk, int (S : Int), int k, .junk, .junk, .junk, .junk, .junk, .junk, .junk, .junk, .junk, .junk, .junk, .junk, .junk, .junk, .junk, .junk], [⟨true, .sl false 1 (W.map int)⟩, ⟨true, .sl false 1 (L.map int)⟩, ⟨true, .sl false 1 ((coTo vs S k).map int)⟩]⟩) ?_ (by simp [sub, slotsLe, clean, keep, refsL, refs, once, place, renL, ren, List.replicate, int, bool, l1, l2, coTo_zero]) ?_ ?_ ?_
  · omega
  · trivial
  · intro k hk _ hwk
    have hkI : (k : Int) < (S : Int) := by omega
    have hs := coTo_succ (vs := vs) (s := S) (k := k)
    have hl := coTo_len (vs := vs) (s := S) (k := k)
    have hb := coP_bd (vs := vs) (a := k) S
    have hk1 : k < W.length := by omega
    have hk2 : k < L.length := by omega
    have c1 : W[k] = at0 W k := (at0_eq hk1).symm
    have c2 : L[k] = at0 L k := (at0_eq hk2).symm
    have hw : IntKind.i64.wrap (at0 W k - at0 L k) = coP vs k S := by rw [hat k hk]; exact wrapI (by omega) (by omega)
    rw [hs]
    generalize coTo vs S k = A at *
    have hbb : (k + 1) * 8 ≤ 140737488355328 ∧ k + 1 ≤ 4611686018427387904 := by omega
    simp [List.range, List.range.loop, ints, intss, int, bool, row, frac, fracs, ← List.map_take, ← List.map_drop, hk, hkI, hk1, hk2, l1, l2, c1, c2, hw, hl, hbb, hwk]
  · intro _
    have hl := coTo_len (vs := vs) (s := S) (k := S)
    have e : coT vs S = coTo vs S S := rfl
    rw [e]
    generalize coTo vs S S = A at *
    have hAt : A.take S = A := List.take_of_length_le (by omega)
    simp [List.range, List.range.loop, ints, intss, int, bool, row, frac, fracs, ← List.map_take, ← List.map_drop, l1, l2, hl, hAt]
set_option maxHeartbeats 4000000 in
theorem implMmx_ok : FnOk Tryz.prog 26 mMmx := by
  refine mk_ok fun ⟨S, nl, vs⟩ hp => ?_
  simp only at hp
  obtain ⟨h1, h2, h3⟩ := prof_facts hp
  have hpp := mProf_at (S : Int) nl vs
  rw [hp] at hpp
  have hcv := mCv_at (S : Int) nl vs
  have ecv : cvT (S : Int) vs = vtrs (fun _ => true) vs := by unfold cvT; rw [if_pos hp]
  rw [ecv] at hcv
  have hG : FnsOk Tryz.prog [(19, mProf), (70, mCv), (69, mRepeatI), (71, mPair)] := (.cons implProf_ok (.cons implCv_ok (.cons repeatI_ok (.cons pair_ok .nil))))
  refine callOk_awpZ [0] (ctx_ok eqOk hG) mixed (live := [true, true, true, true, true, true, false, false, true, false, false, false, false, false, false, false, true, true, true, false, false, true, true, true, false, false, false, true]) (dt := [(3, ⟨[(2, 3), (2, 4)], [0, 0, 1, 0, 0, 1], []⟩), (11, ⟨[], [], []⟩)]) Tryz.func26 rfl (by kernel_rfl) (by kernel_rfl) fun w0 hlens => ?_
  clear hlens
  have hrp := mRepeatI_at false (vtrs (fun _ => true) vs) S (by omega)
  generalize hN : vtrs (fun _ => true) vs = N at *
  have zz : List.replicate S N = fiT (fun i => mmP vs i S) N N S 0 := fiT_zero.symm
  have hm := fun a b => mPair_at (S : Int) nl vs a b hp
  rw [zz] at hrp
  have zl := fun a x => fiT_len (g := fun i => mmP vs i S) (z := N) (x := x) (s := S) (a := a)
  have zt : (fiT (fun i => mmP vs i S) N N S 0).take S = fiT (fun i => mmP vs i S) N N S 0 := List.take_of_length_le (by rw [zl]; omega)
  simp [Tryz.f26, List.range, List.range.loop, ints, intss, int, bool, row, frac, fracs, ← List.map_take, ← List.map_drop, andThen_n, freeze, frzA, frzAL, sets, prof, hpp, hcv, hrp, zl, zt]
  refine awp_range (live := [true, true, true, true, true, true, false, false, true, false, false, false, false, false, false, false, true, true, true, false, false, true, true, true, false, false, false, true]) (ctx_ok eqOk hG) mixed [false, true, false, true, false, false, false, false, false, false, false, false, false, false, false, false, true, true] (S) (fun a => True) (fun a => ⟨[.junk, .fp (prof (S : Int) nl vs) 0, .junk, .ref 0 [] 0 S, .junk, .junk, .junk, .junk, .junk, .junk, .junk, .junk, .junk, .junk, .junk, .junk, int (S : Int), int a, .junk, .junk, .junk, .junk, .junk, .junk, .junk, .junk, .junk, .junk, .junk, .junk, .junk, .junk, .junk, .junk, .junk, .junk, .junk, .junk, .junk, .junk, .junk, .junk, .junk], [⟨true, .sl false 1 ((fiT (fun i => mmP vs i S) N N S a).map int)⟩]⟩) ?_ (by simp [sub, slotsLe, clean, keep, refsL, refs, once, place, renL, ren, List.replicate, int, bool, prof, zl]) ?_ ?_ ?_
  · omega
  · trivial
  · intro a ha _ hwa
    have haI : (a : Int) < (S : Int) := by omega
    have z0 : mmP vs a 0 = N := hN
    simp [List.range, List.range.loop, ints, intss, int, bool, row, frac, fracs, ← List.map_take, ← List.map_drop, prof, ha, haI, zl]
    refine awp_range (live := [true, true, true, true, true, true, false, false, true, false, false, false, false, false, false, false, true, true, true, false, false, true, true, true, false, false, false, true]) (ctx_ok eqOk hG) mixed [false, true, false, true, true, false, false, false, false, false, false, false, false, false, false, false, true, true, false, false, false, true, true] (S) (fun b => True) (fun b => ⟨[.junk, .fp (prof (S : Int) nl vs) 0, .junk, .ref 0 [] 0 S, int (a : Int), .junk, .junk, .junk, .junk, .junk, .junk, .junk, .junk, .junk, .junk, .junk, int (S : Int), int a, .junk, .junk, .junk, int (S : Int), int b, .junk, .junk, .junk, .junk, .junk, .junk, .junk, .junk, .junk, .junk, .junk, .junk, .junk, .junk, .junk, .junk, .junk, .junk, .junk, .junk], [⟨true, .sl false 1 ((fiT (fun i => mmP vs i S) N (mmP vs a b) S a).map int)⟩]⟩) ?_ (by simp [sub, slotsLe, clean, keep, refsL, refs, once, place, renL, ren, List.replicate, int, bool, prof, zl, z0]) ?_ ?_ ?_
    · omega
    · trivial
    · intro b hb _ hwb
      have hbI : (b : Int) < (S : Int) := by omega
      have hmz := hm a b
      have hsg : mmP vs a (b + 1) = if (a : Int) = (b : Int) then mmP vs a b else min (mmP vs a b) (prT vs a b) := rfl
      have hat := fiT_at (g := fun i => mmP vs i S) (z := N) (x := mmP vs a b) ha
      by_cases e : a = b
      · have hsg2 : mmP vs a (b + 1) = mmP vs a b := by rw [hsg, if_pos (by omega)]
        subst e
        simp [List.range, List.range.loop, ints, intss, int, bool, row, frac, fracs, ← List.map_take, ← List.map_drop, prof, ha, haI, zl, hsg2, hwb]
      · have e' : ¬ (a : Int) = (b : Int) := by omega
        have e2 : ((a : Int) == (b : Int)) = false := by simpa using e'
        rw [if_neg e'] at hsg
        have hset := fiT_set (g := fun i => mmP vs i S) (z := N) (x := mmP vs a b) (y := mmP vs a (b + 1)) (s := S) (a := a)
        have l1 := zl a (mmP vs a b)
        have l2 := zl a (mmP vs a (b + 1))
        generalize fiT (fun i => mmP vs i S) N (mmP vs a (b + 1)) S a = B at *
        generalize fiT (fun i => mmP vs i S) N (mmP vs a b) S a = A at *
        subst hset
        have haA : a < A.length := by omega
        have e3 : A[a] = mmP vs a b := by rw [← at0_eq haA]; exact hat
        simp [List.range, List.range.loop, ints, intss, int, bool, row, frac, fracs, ← List.map_take, ← List.map_drop, prof, ha, haI, hb, hbI, hmz, e, e', e2, haA, l1, e3, hsg, hwb]
    · intro _
      have hn := fiT_next (g := fun i => mmP vs i S) (z := N) (s := S) (a := a)
      rw [hn]
      simp [List.range, List.range.loop, ints, intss, int, bool, row, frac, fracs, ← List.map_take, ← List.map_drop, prof, hwa, zl]
  · intro _
    have e : fiT (fun i => mmP vs i S) N N S S = mmT vs S := fiT_all
    have l1 := zl S N
    rw [e] at l1 ⊢
    generalize mmT vs S = A at *
    have hAt : A.take S = A := List.take_of_length_le (by omega)
    simp [List.range, List.range.loop, ints, intss, int, bool, row, frac, fracs, ← List.map_take, ← List.map_drop, prof, l1, hAt]
def mmTo (vs : List Vt) (s k : Nat) : List Int := (List.range k).map fun a => mmP vs a s
theorem mmTo_succ {vs : List Vt} {s k : Nat} : mmTo vs s (k + 1) = mmTo vs s k ++ [mmP vs k s] := by simp [mmTo, List.range_succ]
theorem mmTo_len {vs : List Vt} {s k : Nat} : (mmTo vs s k).length = k := by simp [mmTo]
theorem mmTo_zero {vs : List Vt} {s : Nat} : mmTo vs s 0 = [] := rfl
set_option maxHeartbeats 4000000 in
theorem specMmx_ok : FnOk Tryz.prog 46 mMmx := by
  refine mk_ok fun ⟨S, nl, vs⟩ hp => ?_
  simp only at hp
  obtain ⟨h1, h2, h3⟩ := prof_facts hp
  have hpp := mProf_at (S : Int) nl vs
  rw [hp] at hpp
  have hcv := mCvS_at (S : Int) nl vs hp
  have hm := fun a b => mPair_at (S : Int) nl vs a b hp
  have hG : FnsOk Tryz.prog [(16, mProf), (100, mCvS), (101, mPair)] := (.cons specProf_ok (.cons l04Voters_ok (.cons l04Pair_ok .nil)))
  refine callOk_awpZ [0] (ctx_ok eqOk hG) mixed (live := [true, true, true, true, true, true, true, false, false, true, false, false, false, false, true, false, false, false, false, false, false, false, true, false, false, false, false, true]) (dt := []) Tryz.func46 rfl (by kernel_rfl) (by kernel_rfl) fun w0 hlens => ?_
  clear hlens
  simp [Tryz.f46, List.range, List.range.loop, ints, intss, int, bool, row, frac, fracs, ← List.map_take, ← List.map_drop, andThen_n, freeze, frzA, frzAL, sets, prof, hpp]
  refine awp_loop_of (live := [true, true, true, true, true, true, true, false, false, true, false, false, false, false, true, false, false, false, false, false, false, false, true, false, false, false, false, true]) (ctx_ok eqOk hG) mixed [false, true, false, true, true] (α := {a : Nat // a ≤ S}) (fun a => ⟨[.junk, .fp (prof (S : Int) nl vs) 0, .junk, .ref 0 [] 0 a.1, int (a.1 : Int), .junk, .junk, .junk, .junk, .junk, .junk, .junk, .junk, .junk, .junk, .junk, .junk, .junk, .junk, .junk, .junk, .junk, .junk, .junk, .junk, .junk, .junk, .junk, .junk, .junk, .junk, .junk, .junk, .junk, .junk, .junk, .junk, .junk, .junk], [⟨true, .sl false 1 ((mmTo vs S a.1).map int)⟩]⟩) (fun a => S - a.1) ⟨0, Nat.zero_le _⟩ (by simp [sub, slotsLe, clean, keep, refsL, refs, once, place, renL, ren, List.replicate, int, bool, prof, mmTo_zero]) ?_
  rintro ⟨a, ha⟩
  have hl := mmTo_len (vs := vs) (s := S) (k := a)
  by_cases haS : a < S
  · have haI : (a : Int) < (S : Int) := by omega
    have hs := mmTo_succ (vs := vs) (s := S) (k := a)
    have hwa : IntKind.i64.wrap ((a : Int) + 1) = (a : Int) + 1 := wrapI (by omega) (by omega)
    generalize hB : mmTo vs S (a + 1) = B at *
    generalize hA : mmTo vs S a = A at *
    have z0 : vtrs (fun _ => true) vs = mmP vs a 0 := rfl
    simp [List.range, List.range.loop, ints, intss, int, bool, row, frac, fracs, ← List.map_take, ← List.map_drop, prof, haI, haS, hcv, hl]
    refine awp_loop_of (live := [true, true, true, true, true, true, true, false, false, true, false, false, false, false, true, false, false, false, false, false, false, false, true, false, false, false, false, true]) (ctx_ok eqOk hG) mixed [false, true, false, true, true, true, true] (α := {b : Nat // b ≤ S}) (fun b => ⟨[.junk, .fp (prof (S : Int) nl vs) 0, .junk, .ref 0 [] 0 a, int (a : Int), int (mmP vs a b.1), int (b.1 : Int), .junk, .junk, .junk, .junk, .junk, .junk, .junk, .junk, .junk, .junk, .junk, .junk, .junk, .junk, .junk, .junk, .junk, .junk, .junk, .junk, .junk, .junk, .junk, .junk, .junk, .junk, .junk, .junk, .junk, .junk, .junk, .junk], [⟨true, .sl false 1 (A.map int)⟩]⟩) (fun b => S - b.1) ⟨0, Nat.zero_le _⟩ (by simp [sub, slotsLe, clean, keep, refsL, refs, once, place, renL, ren, List.replicate, int, bool, prof, z0, hl]) ?_
    rintro ⟨b, hb⟩
    by_cases hbS : b < S
    · have hbI : (b : Int) < (S : Int) := by omega
      have hmz := hm a b
      have hsg : mmP vs a (b + 1) = if (a : Int) = (b : Int) then mmP vs a b else min (mmP vs a b) (prT vs a b) := rfl
      have hwb : IntKind.i64.wrap ((b : Int) + 1) = (b : Int) + 1 := wrapI (by omega) (by omega)
      by_cases e : a = b
      · have hsg2 : mmP vs a (b + 1) = mmP vs a b := by rw [hsg, if_pos (by omega)]
        subst e
        simp [List.range, List.range.loop, ints, intss, int, bool, row, frac, fracs, ← List.map_take, ← List.map_drop, prof, haI, haS, hl, hwb]
        exact ⟨⟨a + 1, by omega⟩, by simp [sub, slotsLe, clean, keep, refsL, refs, once, place, renL, ren, List.replicate, int, bool, prof, hl, hsg2], by simp; omega⟩
      · have e' : ¬ (a : Int) = (b : Int) := by omega
        have e2 : ((a : Int) == (b : Int)) = false := by simpa using e'
        rw [if_neg e'] at hsg
        simp [List.range, List.range.loop, ints, intss, int, bool, row, frac, fracs, ← List.map_take, ← List.map_drop, prof, haI, haS, hbI, hbS, hl, hmz, e, e', e2, hwb]
        exact ⟨⟨b + 1, by omega⟩, by simp [sub, slotsLe, clean, keep, refsL, refs, once, place, renL, ren, List.replicate, int, bool, prof, hl, hsg], by simp; omega⟩
    · obtain rfl : b = S := by omega
      have hbb : (a + 1) * 8 ≤ 140737488355328 ∧ a + 1 ≤ 4611686018427387904 := by omega
      simp [List.range, List.range.loop, ints, intss, int, bool, row, frac, fracs, ← List.map_take, ← List.map_drop, prof, haI, haS, hl, hbb, hwa]
      exact ⟨⟨a + 1, by omega⟩, by simp [sub, slotsLe, clean, keep, refsL, refs, once, place, renL, ren, List.replicate, int, bool, prof, hl, hs, hB], by simp; omega⟩
  · obtain rfl : a = S := by omega
    have e : mmT vs a = mmTo vs a a := rfl
    rw [e]
    generalize mmTo vs a a = A at *
    have hAt : A.take a = A := List.take_of_length_le (by omega)
    simp [List.range, List.range.loop, ints, intss, int, bool, row, frac, fracs, ← List.map_take, ← List.map_drop, prof, hl, hAt]
end Go.Proofs.YtigepnpiofcooaaGreat.Ax
