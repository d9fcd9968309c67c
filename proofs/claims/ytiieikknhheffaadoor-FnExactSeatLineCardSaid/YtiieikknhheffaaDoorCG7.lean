/-
  Contracts: seats by the greatest remainders (both programs). No condition.
-/
import Derived.Test.YtiieikknhheffaaDoorCG6
namespace Go.Proofs.YtiieikknhheffaaDoor.Ax
open Go Go.RowKit
set_option linter.unusedSimpArgs false

/-- The slice that the closure holds. -/
def capF (b : Bool) (rs : List Int) : List AV := [.fp (ints b rs) 0]
theorem capF_pure {b : Bool} {rs : List Int} : Pure (capF b rs) := ⟨fun _ => rfl, rfl, fun _ => rfl⟩
theorem filled1 (nl : Bool) (rs : List Int) (x y : Int) (hx : 0 ≤ x ∧ x.toNat < rs.length) (hy : 0 ≤ y ∧ y.toNat < rs.length) (hr : ∀ z ∈ rs, 0 ≤ z ∧ z ≤ 6000000) :
    CallOk Tryd.prog 53 (.v (.int .i64 x) :: .v (.int .i64 y) :: capF nl rs) (.v (.int .i64 (rstC rs x y))) := by
  have hG : FnsOk Tryd.prog [] := .nil
  refine callOk_awp (ctx_ok eqOk hG) mixed (live := [true, true, true, false, false, true]) (dt := [(1, ⟨[], [], []⟩)]) Tryd.func53 rfl (by kernel_rfl) (by kernel_rfl) fun w0 hlens => ?_
  clear hlens
  obtain ⟨a, rfl⟩ : ∃ a : Nat, x = a := ⟨x.toNat, by omega⟩
  obtain ⟨b, rfl⟩ : ∃ b : Nat, y = b := ⟨y.toNat, by omega⟩
  simp only [Int.toNat_natCast] at hx hy
  have e1 : rs[a]'hx.2 = at0 rs a := (at0_eq hx.2).symm
  have e2 : rs[b]'hy.2 = at0 rs b := (at0_eq hy.2).symm
  have b1 := hr _ (List.getElem_mem hx.2)
  have b2 := hr _ (List.getElem_mem hy.2)
  rw [e1] at b1
  rw [e2] at b2
  have w1 : IntKind.i64.wrap (at0 rs b - at0 rs a) = at0 rs b - at0 rs a := wrapI (by omega) (by omega)
  simp [Tryd.f53, List.range, List.range.loop, ints, intss, int, bool, row, frac, fracs, ← List.map_take, ← List.map_drop, capF, hx.2, hy.2, e1, e2, w1, rstC]

structure FilI (bs rs : List Int) (n : Int) : Prop where
  ln : bs.length = rs.length
  l6 : 1 ≤ rs.length ∧ rs.length ≤ 6
  rb : ∀ z ∈ rs, 0 ≤ z ∧ z ≤ 6000000
  bb : ∀ z ∈ bs, 0 ≤ z ∧ z ≤ 100
  k0 : 0 ≤ n - bs.sum
  k1 : n - bs.sum ≤ rs.length
def filT (bs rs : List Int) (n : Int) : List Int := incs bs ((ordH rs).take (n - bs.sum).toNat)
noncomputable def mFil : List AV → Option (List Nat × AV) := mkV (fun p => FilI p.1 p.2.2.1 p.2.2.2) (fun (p : List Int × Bool × List Int × Int) => [ints false p.1, ints p.2.1 p.2.2.1, int p.2.2.2]) [0] (fun p => ints false (filT p.1 p.2.2.1 p.2.2.2))
theorem mFil_at (bs : List Int) (nl : Bool) (rs : List Int) (n : Int) (h : FilI bs rs n) : mFil [.sl false 1 (bs.map int), .sl nl 1 (rs.map int), .v (.int .i64 n)] = some ([0], .sl false 1 ((filT bs rs n).map int)) :=
  mkV_eq (enc := fun (p : List Int × Bool × List Int × Int) => [ints false p.1, ints p.2.1 p.2.2.1, int p.2.2.2]) (f := fun p => ints false (filT p.1 p.2.2.1 p.2.2.2)) (x := (bs, nl, rs, n)) (by
    rintro ⟨a, b, c, d⟩ ⟨a', b', c', d'⟩ h
    simp [ints, int, map_int_inj] at h
    simp [h]) h

theorem ord_nat {rs : List Int} {j : Nat} (h : j < (ordH rs).length) : ∃ b : Nat, (ordH rs)[j] = b ∧ b < rs.length := by
  obtain ⟨b, h1, h2⟩ := ordH_mem.1 (List.getElem_mem h)
  exact ⟨b, h2, h1⟩
theorem inc1_nat {o : List Int} {b : Nat} : inc1 o (b : Int) = o.set b (at0 o b + 1) := by simp [inc1]

set_option maxHeartbeats 4000000 in
theorem filled_ok : FnMov Tryd.prog 40 mFil := by
  refine mkV_ok fun ⟨bs, nl, rs, n⟩ h => ?_
  obtain ⟨ln, ⟨l1, l6⟩, rb, bb, k0, k1⟩ := h
  simp only at ln l1 l6 rb bb k0 k1
  have hS := sort_ok (g := 53) (capF_pure (b := nl) (rs := rs)) (rstC rs) false (idx rs.length) (by rw [idx_len]; omega) (fun x hx y hy => by
    simp only [idx, List.mem_map, List.mem_range] at hx hy
    obtain ⟨a, ha, rfl⟩ := hx
    obtain ⟨b, hb, rfl⟩ := hy
    exact filled1 nl rs a b ⟨by omega, by simpa using ha⟩ ⟨by omega, by simpa using hb⟩ rb)
  have hi : FnMut Tryd.prog 52 (mkM (fun _ : Unit => True) (fun _ => [ints false (idx rs.length), .fn 53 (capF nl rs)]) (fun _ => (0, .tup [], ints false (ordH rs)))) := mkM_ok fun _ _ => hS
  have hat : mkM (fun _ : Unit => True) (fun _ => [ints false (idx rs.length), .fn 53 (capF nl rs)]) (fun _ => (0, .tup [], ints false (ordH rs))) [.sl false 1 ((idx rs.length).map int), .fn 53 [.fp (.sl nl 1 (rs.map int)) 0]] = some (0, .tup [], .sl false 1 ((ordH rs).map int)) := mkM_eq (x := ()) (fun _ _ _ => rfl) trivial
  generalize mkM (fun _ : Unit => True) (fun _ => [ints false (idx rs.length), .fn 53 (capF nl rs)]) (fun _ => (0, AV.tup [], ints false (ordH rs))) = m at hi hat
  have hM : FnsMut Tryd.prog [(52, m)] := .cons hi .nil
  have hV : FnsMov Tryd.prog [] := .nil
  have hG : FnsOk Tryd.prog [(51, mIdx), (27, mSum)] := (.cons indices_ok (.cons sumOf_ok .nil))
  refine movOk_awp (ctxV_ok eqOk hG hM hV) mixed (live := [true, true, true, false, true, false, true, true, false, true, false, false, false, false, false, false, false, false, false, false, false, true, true, true, true]) (dt := []) (mv := [0]) Tryd.func40 rfl (by kernel_rfl) (by kernel_rfl) fun US w0 hlens => ?_
  simp only [List.map, List.getD_cons_zero, List.getD_cons_succ, internL, intern, setSl, List.set, List.length_nil, List.nil_append, List.length_map]
  clear hlens
  have hx := mIdx_at rs.length (by omega)
  have hil := idx_len (n := rs.length)
  have hol := ordH_len (rs := rs)
  have hit : (idx rs.length).take rs.length = idx rs.length := List.take_of_length_le (by omega)
  have hot : (ordH rs).take rs.length = ordH rs := List.take_of_length_le (by omega)
  have hsm := mSum_at false bs
  rw [sumW_all (fun x hx => by have := bb x hx; omega) (by omega)] at hsm
  have hsb := sum_bd bb
  obtain ⟨K, hK⟩ : ∃ K : Nat, n - bs.sum = K := ⟨(n - bs.sum).toNat, by omega⟩
  have wK : IntKind.i64.wrap (n - bs.sum) = (K : Int) := by rw [hK]; exact wrapI (by omega) (by omega)
  have hKt : (n - bs.sum).toNat = K := by omega
  have hKm : K ≤ rs.length := by omega
  have z0 : incs bs [] = bs := rfl
  have htb : List.take rs.length (bs.map int) = bs.map int := List.take_of_length_le (by simp [ln])
  unfold filT
  rw [hKt]
  simp [Tryd.f40, List.range, List.range.loop, ints, intss, int, bool, row, frac, fracs, ← List.map_take, ← List.map_drop, List.all, List.eraseIdx, ln, hx, hil, hit, hat, hol, hot, hsm, wK, hKm, htb]
  refine awp_range (live := [true, true, true, false, true, false, true, true, false, true, false, false, false, false, false, false, false, false, false, false, false, true, true, true, true]) (ctxV_ok eqOk hG hM hV) mixed [true, false, false, false, false, false, false, false, false, false, false, false, false, false, false, false, false, false, false, false, false, true, true, true] (K) (fun j => True) (fun j => ⟨[.ref 0 [] 0 rs.length, .junk, .junk, .junk, .junk, .junk, .junk, .junk, .junk, .junk, .junk, .junk, .junk, .junk, .junk, .junk, .junk, .junk, .junk, .junk, .junk, .ref 1 [] 0 K, int K, int j, .junk, .junk, .junk, .junk, .junk, .junk, .junk, .junk, .junk, .junk, .junk], [⟨true, .sl false 1 ((incs bs ((ordH rs).take j)).map int)⟩, ⟨true, .sl false 1 ((ordH rs).map int)⟩]⟩) ?_ (by simp [sub, slotsLe, clean, keep, refsL, refs, once, place, renL, ren, List.replicate, int, bool, z0, ln]) ?_ ?_ ?_
  · omega
  · trivial
  · intro j hj _ hwj
    have hjl : j < (ordH rs).length := by omega
    have hst := incs_take (o := bs) hjl
    obtain ⟨b, e1, e2⟩ := ord_nat hjl
    rw [e1, inc1_nat] at hst
    have hl := incs_len (o := bs) (l := (ordH rs).take j)
    obtain ⟨_, hb2⟩ := incs_facts bb (l := (ordH rs).take j) fun i hi => by
      obtain ⟨b, hb, rfl⟩ := ordH_mem.1 (List.mem_of_mem_take hi)
      simp; omega
    rw [List.length_take] at hb2
    generalize incs bs ((ordH rs).take (j + 1)) = B at *
    generalize incs bs ((ordH rs).take j) = A at *
    subst hst
    have hbA : b < A.length := by omega
    have e3 : A[b] = at0 A b := (at0_eq hbA).symm
    have hbd := hb2 _ (List.getElem_mem hbA)
    rw [e3] at hbd
    have hw : IntKind.i64.wrap (at0 A b + 1) = at0 A b + 1 := wrapI (by omega) (by omega)
    have hAl : A.length = rs.length := by omega
    have hjr : j < rs.length := by omega
    have e0 : (ordH rs)[j]? = some (b : Int) := by rw [List.getElem?_eq_getElem hjl, e1]
    simp [List.range, List.range.loop, ints, intss, int, bool, row, frac, fracs, ← List.map_take, ← List.map_drop, List.all, List.eraseIdx, hj, hwj, hjr, e0, e1, e2, e3, hw, hbA, hAl, hol, hKm]
    try omega
  · intro _
    have hl := incs_len (o := bs) (l := (ordH rs).take K)
    have hAl : (incs bs ((ordH rs).take K)).length = rs.length := by omega
    generalize incs bs ((ordH rs).take K) = A at *
    have hAt : A.take rs.length = A := List.take_of_length_le (by omega)
    simp [List.range, List.range.loop, ints, intss, int, bool, row, frac, fracs, ← List.map_take, ← List.map_drop, List.all, List.eraseIdx, hAl, hAt]

end Go.Proofs.YtiieikknhheffaaDoor.Ax

/-
  Contracts: seats by the greatest remainders (the reference); quotas kept (both programs). No condition.
-/
namespace Go.Proofs.YtiieikknhheffaaDoor.Ax
open Go Go.RowKit
set_option linter.unusedSimpArgs false

noncomputable def mGive : List AV → Option AV := mk (fun p => FilI p.2.1 p.2.2.2.1 p.2.2.2.2) (fun (p : (Bool) × (List Int) × (Bool) × (List Int) × (Int)) => [ints p.1 p.2.1, ints p.2.2.1 p.2.2.2.1, int p.2.2.2.2]) (fun p => ints false (filT p.2.1 p.2.2.2.1 p.2.2.2.2))
theorem mGive_at (nl : Bool) (bs : List Int) (nl2 : Bool) (rs : List Int) (n : Int) (hpre : FilI bs rs n) : mGive [.sl nl 1 (bs.map int), .sl nl2 1 (rs.map int), .v (.int .i64 n)] = some (.sl false 1 (((filT bs rs n)).map int)) :=
  mk_eq (enc := fun (p : (Bool) × (List Int) × (Bool) × (List Int) × (Int)) => [ints p.1 p.2.1, ints p.2.2.1 p.2.2.2.1, int p.2.2.2.2]) (x := (nl, bs, nl2, rs, n)) (by rintro ⟨a0, a1, a2, a3, a4⟩ ⟨b0, b1, b2, b3, b4⟩ h; simp [ints, intss, int, bool, row, frac, fracs, map_int_inj, map_row_inj, frac_inj, map_frac_inj] at h; simp [h]) hpre

set_option maxHeartbeats 4000000 in
theorem give_ok : FnOk Tryd.prog 33 mGive := by
  refine mk_ok fun ⟨nl, bs, nl2, rs, n⟩ h => ?_
  obtain ⟨ln, ⟨l1, l6⟩, rb, bb, k0, k1⟩ := h
  simp only at ln l1 l6 rb bb k0 k1
  have hG : FnsOk Tryd.prog [(19, mSum)] := (.cons l13Sum_ok .nil)
  refine callOk_awp (ctx_ok eqOk hG) mixed (live := [true, true, true, false, false, false, true, true, true, true, true, true, false, false, false, false, false, false, false, false, false, true, true, true, true, true, false, false, false, false, false, false, false, false, false, false, false, false, false, false, false, false, false, false, false, true]) (dt := []) Tryd.func33 rfl (by kernel_rfl) (by kernel_rfl) fun w0 hlens => ?_
  clear hlens
  have hol := ordH_len (rs := rs)
  have hsb := sum_bd bb
  obtain ⟨K, hK⟩ : ∃ K : Nat, n - bs.sum = K := ⟨(n - bs.sum).toNat, by omega⟩
  have hKt : (n - bs.sum).toNat = K := by omega
  have hKm : K ≤ rs.length := by omega
  have z0 : incs bs [] = bs := rfl
  have hz : usT rs.length [] = List.replicate rs.length false := usT_zero
  have hzl : (rs.length : Int) ≤ 6 := by omega
  have hb6 : rs.length ≤ 4611686018427387904 ∧ rs.length * 8 ≤ 140737488355328 := by omega
  have hsc : bs.all (scal ∘ int) = true := by rw [List.all_eq_true]; intro x _; rfl
  unfold filT
  rw [hKt]
  have hm6 : rs.length ≤ 281474976710656 := by omega
  have htb : List.take rs.length (bs.map int) = bs.map int := List.take_of_length_le (by simp [ln])
  simp [Tryd.f33, List.range, List.range.loop, ints, intss, int, bool, row, frac, fracs, ← List.map_take, ← List.map_drop, ln, hb6, hm6, hsc, htb]
  refine awp_loop_of (live := [true, true, true, false, false, false, true, true, true, true, true, true, false, false, false, false, false, false, false, false, false, true, true, true, true, true, false, false, false, false, false, false, false, false, false, false, false, false, false, false, false, false, false, false, false, true]) (ctx_ok eqOk hG) mixed [false, true, true, false, false, false, false, true, true] (α := {j : Nat // j ≤ K}) (fun j => ⟨[.junk, ints nl2 rs, int n, .junk, .junk, .junk, .junk, .ref 0 [] 0 rs.length, .ref 1 [] 0 rs.length, .junk, .junk, .junk, .junk, .junk, .junk, .junk, .junk, .junk, .junk, .junk, .junk, .junk, .junk, .junk, .junk, .junk, .junk, .junk, .junk, .junk, .junk, .junk, .junk, .junk, .junk, .junk, .junk, .junk, .junk, .junk, .junk, .junk, .junk, .junk, .junk, .junk, .junk, .junk, .junk, .junk, .junk, .junk, .junk, .junk, .junk, .junk, .junk, .junk], [⟨true, .sl false 1 ((incs bs ((ordH rs).take j.1)).map int)⟩, ⟨true, .sl false 1 ((usT rs.length ((ordH rs).take j.1)).map bool)⟩]⟩) (fun j => K - j.1) ⟨0, by omega⟩ (by simp [sub, slotsLe, clean, keep, refsL, refs, once, place, renL, ren, List.replicate, int, bool, z0, hz, ln, bool, ints]) ?_
  rintro ⟨j, hj⟩
  simp only
  have hAl := incs_len (o := bs) (l := (ordH rs).take j)
  obtain ⟨hs2, hb2⟩ := incs_facts bb (l := (ordH rs).take j) fun i hi => by
    obtain ⟨b, hb, rfl⟩ := ordH_mem.1 (List.mem_of_mem_take hi)
    simp; omega
  rw [List.length_take] at hs2 hb2
  have hsm := mSum_at false (incs bs ((ordH rs).take j))
  rw [sumW_all (fun x hx => by have := hb2 x hx; omega) (by omega)] at hsm
  by_cases hjK : j < K
  · have hjl : j < (ordH rs).length := by omega
    have hst := incs_take (o := bs) hjl
    have hpk := ordH_pick hjl
    obtain ⟨b, e1, e2⟩ := ord_nat hjl
    rw [e1] at hpk
    rw [e1, inc1_nat] at hst
    have hus : (usT rs.length ((ordH rs).take j)).set b true = usT rs.length ((ordH rs).take (j + 1)) := by rw [List.take_succ_eq_append_getElem hjl, e1]; exact usT_set
    have hul := usT_len (m := rs.length) (l := (ordH rs).take j)
    have hlt : (incs bs ((ordH rs).take j)).sum < n := by omega
    generalize incs bs ((ordH rs).take j) = A at *
    generalize usT rs.length ((ordH rs).take j) = us at *
    have hA2 : A.length = rs.length := by omega
    have hbA : b < A.length := by omega
    have e3 : A[b] = at0 A b := (at0_eq hbA).symm
    have hbd := hb2 _ (List.getElem_mem hbA)
    rw [e3] at hbd
    have hw : IntKind.i64.wrap (at0 A b + 1) = at0 A b + 1 := wrapI (by omega) (by omega)
    have hAt : List.take rs.length (A.map int) = A.map int := List.take_of_length_le (by simp [hA2])
    have hAt2 : List.take rs.length A = A := List.take_of_length_le (by omega)
    have hUt : List.take rs.length us = us := List.take_of_length_le (by omega)
    have zb : bstTo rs us 0 = -1 := rfl
    simp [List.range, List.range.loop, ints, intss, int, bool, row, frac, fracs, ← List.map_take, ← List.map_drop, hA2, hAt2, hsm, hlt]
    refine awp_range (live := [true, true, true, false, false, false, true, true, true, true, true, true, false, false, false, false, false, false, false, false, false, true, true, true, true, true, false, false, false, false, false, false, false, false, false, false, false, false, false, false, false, false, false, false, false, true]) (ctx_ok eqOk hG) mixed [false, true, true, false, false, false, false, true, true, true, false, false, false, false, false, false, false, false, false, false, false, false, true, true, true] (rs.length) (fun i => True) (fun i => ⟨[.junk, ints nl2 rs, int n, .junk, .junk, .junk, .junk, .ref 0 [] 0 rs.length, .ref 1 [] 0 rs.length, int (bstTo rs us i), .junk, .junk, .junk, .junk, .junk, .junk, .junk, .junk, .junk, .junk, .junk, .junk, ints nl2 rs, int rs.length, int i, .junk, .junk, .junk, .junk, .junk, .junk, .junk, .junk, .junk, .junk, .junk, .junk, .junk, .junk, .junk, .junk, .junk, .junk, .junk, .junk, .junk, .junk, .junk, .junk, .junk, .junk, .junk, .junk, .junk, .junk, .junk, .junk, .junk], [⟨true, .sl false 1 (A.map int)⟩, ⟨true, .sl false 1 (us.map bool)⟩]⟩) ?_ (by simp [sub, slotsLe, clean, keep, refsL, refs, once, place, renL, ren, List.replicate, int, bool, zb, ints, bool]) ?_ ?_ ?_
    · omega
    · trivial
    · intro i hi _ hwi
      have hiu : i < us.length := by omega
      have hui : us.getD i true = us[i] := by simp [List.getD_eq_getElem?_getD, hiu]
      have hri : at0 rs i = rs[i] := at0_eq hi
      have hbs : bstTo rs us (i + 1) = if us.getD i true = false ∧ (bstTo rs us i < 0 ∨ at0 rs (bstTo rs us i).toNat < at0 rs i) then (i : Int) else bstTo rs us i := rfl
      rw [hui, hri] at hbs
      cases hu : us[i] with
      | true =>
        rw [hu] at hbs
        simp at hbs
        simp [List.range, List.range.loop, ints, intss, int, bool, row, frac, fracs, ← List.map_take, ← List.map_drop, hi, hiu, hul, hwi, hu, hbs]
      | false =>
        rw [hu] at hbs
        rcases bst_spec (rs := rs) (us := us) i with ⟨g1, _⟩ | ⟨q, g1, g2, _⟩
        · rw [g1] at hbs ⊢
          simp at hbs
          simp [List.range, List.range.loop, ints, intss, int, bool, row, frac, fracs, ← List.map_take, ← List.map_drop, hi, hiu, hul, hwi, hu, hbs]
        · rw [g1] at hbs ⊢
          have hq : q < rs.length := by omega
          have hrq : at0 rs q = rs[q] := at0_eq hq
          have hq0 : ¬ (q : Int) < 0 := by omega
          simp only [Int.toNat_natCast, hrq, hq0, false_or, true_and] at hbs
          by_cases hc : rs[q] < rs[i]
          · rw [if_pos hc] at hbs
            simp [List.range, List.range.loop, ints, intss, int, bool, row, frac, fracs, ← List.map_take, ← List.map_drop, hi, hiu, hul, hwi, hu, hbs, hq, hc]
          · rw [if_neg hc] at hbs
            simp [List.range, List.range.loop, ints, intss, int, bool, row, frac, fracs, ← List.map_take, ← List.map_drop, hi, hiu, hul, hwi, hu, hbs, hq, hc]
            omega
    · intro _
      rw [hpk]
      have hbu : b < us.length := by omega
      simp [List.range, List.range.loop, ints, intss, int, bool, row, frac, fracs, ← List.map_take, ← List.map_drop, hbu, hbA, hA2, e2, e3, hw, hul]
      exact ⟨⟨j + 1, by omega⟩, by simp [sub, slotsLe, clean, keep, refsL, refs, once, place, renL, ren, List.replicate, int, bool, hst, ← hus], by simp; omega⟩
  · obtain rfl : j = K := by omega
    have hge : ¬ (incs bs ((ordH rs).take j)).sum < n := by omega
    generalize incs bs ((ordH rs).take j) = A at *
    have hA2 : A.length = rs.length := by omega
    have hAt2 : List.take rs.length A = A := List.take_of_length_le (by omega)
    simp [List.range, List.range.loop, ints, intss, int, bool, row, frac, fracs, ← List.map_take, ← List.map_drop, hA2, hAt2, hsm, hge]

noncomputable def mHam : List AV → Option AV := mk (fun _ => True) (fun (p : (Bool) × (List Int) × (Int)) => [ints p.1 p.2.1, int p.2.2]) (fun p => if qtB p.2.1 p.2.2 = true then ints false (hamT p.2.1 p.2.2) else ints true [])
theorem mHam_at (nl : Bool) (xs : List Int) (n : Int) : mHam [.sl nl 1 (xs.map int), .v (.int .i64 n)] = some (if qtB xs n = true then ints false (hamT xs n) else ints true []) :=
  mk_eq (enc := fun (p : (Bool) × (List Int) × (Int)) => [ints p.1 p.2.1, int p.2.2]) (x := (nl, xs, n)) (by rintro ⟨a0, a1, a2⟩ ⟨b0, b1, b2⟩ h; simp [ints, intss, int, bool, row, frac, fracs, map_int_inj, map_row_inj, frac_inj, map_frac_inj] at h; simp [h]) trivial
theorem filI {xs : List Int} {n : Int} (h : qtB xs n = true) : FilI (qL xs n) (qR xs n) n := by
  obtain ⟨h1, h2, h3, h4⟩ := q_facts h
  obtain ⟨c1, c2, c3, c4, c5⟩ := cnt_facts (qt_facts h).1
  exact ⟨by simp [qL, qR], by simp [qR]; omega, fun z hz => by have := h1 z hz; omega, h2, h3, by simpa [qR] using h4⟩
theorem filT_ham {xs : List Int} {n : Int} : filT (qL xs n) (qR xs n) n = hamT xs n := rfl

set_option maxHeartbeats 1000000 in
theorem implHam_ok : FnOk Tryd.prog 23 mHam := by
  refine mk_ok fun ⟨nl, xs, n⟩ _ => ?_
  simp only
  have hG : FnsOk Tryd.prog [(39, mQt), (26, mLow), (41, mRem)] := (.cons implQt_ok (.cons implLow_ok (.cons implRem_ok .nil)))
  have hM : FnsMut Tryd.prog [] := .nil
  have hV : FnsMov Tryd.prog [(40, mFil)] := (.cons filled_ok .nil)
  refine callOk_awp (ctxV_ok eqOk hG hM hV) mixed (live := [true, true, false, false, true, false, false, false, true]) (dt := []) Tryd.func23 rfl (by kernel_rfl) (by kernel_rfl) fun w0 hlens => ?_
  clear hlens
  have h1 := mQt_at nl xs n
  have h2 := mLow_at nl xs n
  have h3 := mRem_at nl xs n
  by_cases hq : qtB xs n = true
  · rw [if_pos hq] at h2 h3 ⊢
    rw [hq] at h1
    have h4 := mFil_at (qL xs n) false (qR xs n) n (filI hq)
    rw [filT_ham] at h4
    have hl := (hamT_facts hq).1
    have hl2 : (qL xs n).length = xs.length := by simp [qL]
    have hl3 : (qR xs n).length = xs.length := by simp [qR]
    have ht : (qL xs n).take xs.length = qL xs n := List.take_of_length_le (by omega)
    have ht2 : (qR xs n).take xs.length = qR xs n := List.take_of_length_le (by omega)
    have ht3 : (hamT xs n).take xs.length = hamT xs n := List.take_of_length_le (by omega)
    simp [Tryd.f23, List.range, List.range.loop, ints, intss, int, bool, row, frac, fracs, ← List.map_take, ← List.map_drop, List.all, h1, h2, h3, h4, hl, hl2, hl3, ht, ht2, ht3]
  · rw [if_neg hq]
    have hq' : qtB xs n = false := by simpa using hq
    rw [hq'] at h1
    simp [Tryd.f23, List.range, List.range.loop, ints, intss, int, bool, row, frac, fracs, ← List.map_take, ← List.map_drop, List.all, h1]

set_option maxHeartbeats 1000000 in
theorem specHam_ok : FnOk Tryd.prog 14 mHam := by
  refine mk_ok fun ⟨nl, xs, n⟩ _ => ?_
  simp only
  have hG : FnsOk Tryd.prog [(32, mQt), (20, mLow), (34, mRem), (33, mGive)] := (.cons specQt_ok (.cons specLow_ok (.cons specRem_ok (.cons give_ok .nil))))
  refine callOk_awp (ctx_ok eqOk hG) mixed (live := [true, true, false, false, true, false, false, false, true]) (dt := []) Tryd.func14 rfl (by kernel_rfl) (by kernel_rfl) fun w0 hlens => ?_
  clear hlens
  have h1 := mQt_at nl xs n
  have h2 := mLow_at nl xs n
  have h3 := mRem_at nl xs n
  by_cases hq : qtB xs n = true
  · rw [if_pos hq] at h2 h3 ⊢
    rw [hq] at h1
    have h4 := mGive_at false (qL xs n) false (qR xs n) n (filI hq)
    rw [filT_ham] at h4
    have hl := (hamT_facts hq).1
    have hl2 : (qL xs n).length = xs.length := by simp [qL]
    have hl3 : (qR xs n).length = xs.length := by simp [qR]
    have ht : (qL xs n).take xs.length = qL xs n := List.take_of_length_le (by omega)
    have ht2 : (qR xs n).take xs.length = qR xs n := List.take_of_length_le (by omega)
    have ht3 : (hamT xs n).take xs.length = hamT xs n := List.take_of_length_le (by omega)
    simp [Tryd.f14, List.range, List.range.loop, ints, intss, int, bool, row, frac, fracs, ← List.map_take, ← List.map_drop, List.all, h1, h2, h3, h4, hl, hl2, hl3, ht, ht2, ht3]
  · rw [if_neg hq]
    have hq' : qtB xs n = false := by simpa using hq
    rw [hq'] at h1
    simp [Tryd.f14, List.range, List.range.loop, ints, intss, int, bool, row, frac, fracs, ← List.map_take, ← List.map_drop, List.all, h1]

noncomputable def mKq : List AV → Option AV := mk (fun _ => True) (fun (p : (Bool) × (List Int) × (Bool) × (List Int)) => [ints p.1 p.2.1, ints p.2.2.1 p.2.2.2]) (fun p => bool (kqB p.2.1 p.2.2.2))
theorem mKq_at (nl : Bool) (xs : List Int) (nl2 : Bool) (ss : List Int) : mKq [.sl nl 1 (xs.map int), .sl nl2 1 (ss.map int)] = some (.v (.bool (kqB xs ss))) :=
  mk_eq (enc := fun (p : (Bool) × (List Int) × (Bool) × (List Int)) => [ints p.1 p.2.1, ints p.2.2.1 p.2.2.2]) (x := (nl, xs, nl2, ss)) (by rintro ⟨a0, a1, a2, a3⟩ ⟨b0, b1, b2, b3⟩ h; simp [ints, intss, int, bool, row, frac, fracs, map_int_inj, map_row_inj, frac_inj, map_frac_inj] at h; simp [h]) trivial
theorem seB_facts {xs ss : List Int} (h : seB xs ss = true) : cntB xs = true ∧ ss.length = xs.length ∧ (∀ x ∈ ss, 0 ≤ x ∧ x ≤ 100) ∧ qtB xs ss.sum = true := by
  simp only [seB, Bool.and_eq_true, decide_eq_true_eq, List.all_eq_true, inR_iff] at h
  obtain ⟨⟨⟨h1, h2⟩, h3⟩, h4⟩ := h
  have := sum_bd h3
  refine ⟨h1, h2, h3, ?_⟩
  simp only [qtB, h1, Bool.true_and, inR_iff]; omega

set_option maxHeartbeats 2000000 in
theorem implKq_ok : FnOk Tryd.prog 12 mKq := by
  refine mk_ok fun ⟨nl, xs, nl2, ss⟩ _ => ?_
  have hG : FnsOk Tryd.prog [(25, mSe), (27, mSum), (26, mLow), (28, mUp), (29, mWithin)] := (.cons implSe_ok (.cons sumOf_ok (.cons implLow_ok (.cons implUp_ok (.cons within_ok .nil)))))
  refine callOk_awp (ctx_ok eqOk hG) mixed (live := [true, true, false, false, true, true, true, true, true, false, false, false, true, false, false, false, false, false, false, false, false, true, true, true, true, false, false, false, false, false, false, false, false, false, false, false, false, false, true]) (dt := [(7, ⟨[], [], []⟩)]) Tryd.func12 rfl (by kernel_rfl) (by kernel_rfl) fun w0 hlens => ?_
  clear hlens
  have h1 := mSe_at nl xs nl2 ss
  cases hs : seB xs ss with
  | false =>
    rw [hs] at h1
    simp [Tryd.f12, List.range, List.range.loop, ints, intss, int, bool, row, frac, fracs, ← List.map_take, ← List.map_drop, h1, kqB, hs]
  | true =>
    rw [hs] at h1
    obtain ⟨hc, hl, hss, hq⟩ := seB_facts hs
    obtain ⟨c1, c2, c3, c4, c5⟩ := cnt_facts hc
    have h2 := mLow_at nl xs ss.sum
    have h3 := mUp_at nl xs ss.sum
    rw [if_pos hq] at h2 h3
    have h4 := mSum_at nl2 ss
    rw [sumW_all (fun x hx => by have := hss x hx; omega) (by omega)] at h4
    have hk : kqB xs ss = kqTo (qL xs ss.sum) (qU xs ss.sum) ss ss.length := by unfold kqB; rw [hs]; rfl
    have hl2 : (qL xs ss.sum).length = xs.length := by simp [qL]
    have hl3 : (qU xs ss.sum).length = xs.length := by simp [qU]
    have ht : (qL xs ss.sum).take xs.length = qL xs ss.sum := List.take_of_length_le (by omega)
    have ht2 : (qU xs ss.sum).take xs.length = qU xs ss.sum := List.take_of_length_le (by omega)
    rw [hk]
    generalize hLo : qL xs ss.sum = L at *
    generalize hUp : qU xs ss.sum = U at *
    simp [Tryd.f12, List.range, List.range.loop, ints, intss, int, bool, row, frac, fracs, ← List.map_take, ← List.map_drop, h1, h2, h3, h4, hl, hl2, hl3, ht, ht2]
    refine awp_range (live := [true, true, false, false, true, true, true, true, true, false, false, false, true, false, false, false, false, false, false, false, false, true, true, true, true, false, false, false, false, false, false, false, false, false, false, false, false, false, true]) (ctx_ok eqOk hG) mixed [false, false, false, false, false, true, true, false, false, false, false, false, false, false, false, false, false, false, false, false, false, true, true, true] (ss.length) (fun k => kqTo L U ss k = true) (fun k => ⟨[.junk, .junk, .junk, .junk, .junk, .ref 0 [] 0 xs.length, .ref 1 [] 0 xs.length, .junk, .junk, .junk, .junk, .junk, .junk, .junk, .junk, .junk, .junk, .junk, .junk, .junk, .junk, ints nl2 ss, int ss.length, int k, .junk, .junk, .junk, .junk, .junk, .junk, .junk, .junk, .junk, .junk, .junk, .junk, .junk, .junk, .junk, .junk], [⟨true, .sl false 1 (L.map int)⟩, ⟨true, .sl false 1 (U.map int)⟩]⟩) ?_ (by simp [sub, slotsLe, clean, keep, refsL, refs, once, place, renL, ren, List.replicate, int, bool, ints, hl, hl2, hl3]) ?_ ?_ ?_
    · omega
    · rfl
    · intro k hk hp hwk
      have hkL : k < L.length := by omega
      have hkU : k < U.length := by omega
      have a1 : L[k] = at0 L k := (at0_eq hkL).symm
      have a2 : U[k] = at0 U k := (at0_eq hkU).symm
      have a3 : ss[k] = at0 ss k := (at0_eq hk).symm
      cases hx : inR (at0 L k) (at0 U k) (at0 ss k) with
      | false =>
        have hf : kqTo L U ss xs.length = false := kqTo_no hx (by omega)
        have hkx : k < xs.length := by omega
        simp [List.range, List.range.loop, ints, intss, int, bool, row, frac, fracs, ← List.map_take, ← List.map_drop, mWithin_in, hk, hkL, hkU, hkx, a1, a2, a3, hx, hl, hl2, hl3, hf]
      | true =>
        have hps : kqTo L U ss (k + 1) = true := by unfold kqTo; rw [hp, hx]; rfl
        have hkx : k < xs.length := by omega
        simp [List.range, List.range.loop, ints, intss, int, bool, row, frac, fracs, ← List.map_take, ← List.map_drop, mWithin_in, hk, hkL, hkU, hkx, a1, a2, a3, hx, hl, hl2, hl3, hwk, hps]
    · intro hp
      rw [hl] at hp
      simp [List.range, List.range.loop, ints, intss, int, bool, row, frac, fracs, ← List.map_take, ← List.map_drop, hp, hl, hl2, hl3]

set_option maxHeartbeats 2000000 in
theorem specKq_ok : FnOk Tryd.prog 10 mKq := by
  refine mk_ok fun ⟨nl, xs, nl2, ss⟩ _ => ?_
  have hG : FnsOk Tryd.prog [(18, mSe), (19, mSum), (20, mLow), (21, mUp), (22, mWithin)] := (.cons specSe_ok (.cons l13Sum_ok (.cons specLow_ok (.cons specUp_ok (.cons l01In_ok .nil)))))
  refine callOk_awp (ctx_ok eqOk hG) mixed (live := [true, true, false, false, true, true, true, true, true, true, false, false, false, true, false, false, false, false, false, false, false, false, true, true, true, true, false, false, false, false, false, false, false, false, false, false, false, false, false, true]) (dt := [(9, ⟨[], [], []⟩)]) Tryd.func10 rfl (by kernel_rfl) (by kernel_rfl) fun w0 hlens => ?_
  clear hlens
  have h1 := mSe_at nl xs nl2 ss
  cases hs : seB xs ss with
  | false =>
    rw [hs] at h1
    simp [Tryd.f10, List.range, List.range.loop, ints, intss, int, bool, row, frac, fracs, ← List.map_take, ← List.map_drop, h1, kqB, hs]
  | true =>
    rw [hs] at h1
    obtain ⟨hc, hl, hss, hq⟩ := seB_facts hs
    obtain ⟨c1, c2, c3, c4, c5⟩ := cnt_facts hc
    have h2 := mLow_at nl xs ss.sum
    have h3 := mUp_at nl xs ss.sum
    rw [if_pos hq] at h2 h3
    have h4 := mSum_at nl2 ss
    rw [sumW_all (fun x hx => by have := hss x hx; omega) (by omega)] at h4
    have hk : kqB xs ss = kqTo (qL xs ss.sum) (qU xs ss.sum) ss ss.length := by unfold kqB; rw [hs]; rfl
    have hl2 : (qL xs ss.sum).length = xs.length := by simp [qL]
    have hl3 : (qU xs ss.sum).length = xs.length := by simp [qU]
    have ht : (qL xs ss.sum).take xs.length = qL xs ss.sum := List.take_of_length_le (by omega)
    have ht2 : (qU xs ss.sum).take xs.length = qU xs ss.sum := List.take_of_length_le (by omega)
    rw [hk]
    generalize hLo : qL xs ss.sum = L at *
    generalize hUp : qU xs ss.sum = U at *
    simp [Tryd.f10, List.range, List.range.loop, ints, intss, int, bool, row, frac, fracs, ← List.map_take, ← List.map_drop, h1, h2, h3, h4, hl, hl2, hl3, ht, ht2]
    refine awp_range (live := [true, true, false, false, true, true, true, true, true, true, false, false, false, true, false, false, false, false, false, false, false, false, true, true, true, true, false, false, false, false, false, false, false, false, false, false, false, false, false, true]) (ctx_ok eqOk hG) mixed [false, false, false, false, false, false, true, true, false, false, false, false, false, false, false, false, false, false, false, false, false, false, true, true, true] (ss.length) (fun k => kqTo L U ss k = true) (fun k => ⟨[.junk, .junk, .junk, .junk, .junk, .junk, .ref 0 [] 0 xs.length, .ref 1 [] 0 xs.length, .junk, .junk, .junk, .junk, .junk, .junk, .junk, .junk, .junk, .junk, .junk, .junk, .junk, .junk, ints nl2 ss, int ss.length, int k, .junk, .junk, .junk, .junk, .junk, .junk, .junk, .junk, .junk, .junk, .junk, .junk, .junk, .junk, .junk, .junk], [⟨true, .sl false 1 (L.map int)⟩, ⟨true, .sl false 1 (U.map int)⟩]⟩) ?_ (by simp [sub, slotsLe, clean, keep, refsL, refs, once, place, renL, ren, List.replicate, int, bool, ints, hl, hl2, hl3]) ?_ ?_ ?_
    · omega
    · rfl
    · intro k hk hp hwk
      have hkL : k < L.length := by omega
      have hkU : k < U.length := by omega
      have a1 : L[k] = at0 L k := (at0_eq hkL).symm
      have a2 : U[k] = at0 U k := (at0_eq hkU).symm
      have a3 : ss[k] = at0 ss k := (at0_eq hk).symm
      cases hx : inR (at0 L k) (at0 U k) (at0 ss k) with
      | false =>
        have hf : kqTo L U ss xs.length = false := kqTo_no hx (by omega)
        have hkx : k < xs.length := by omega
        simp [List.range, List.range.loop, ints, intss, int, bool, row, frac, fracs, ← List.map_take, ← List.map_drop, mWithin_in, hk, hkL, hkU, hkx, a1, a2, a3, hx, hl, hl2, hl3, hf]
      | true =>
        have hps : kqTo L U ss (k + 1) = true := by unfold kqTo; rw [hp, hx]; rfl
        have hkx : k < xs.length := by omega
        simp [List.range, List.range.loop, ints, intss, int, bool, row, frac, fracs, ← List.map_take, ← List.map_drop, mWithin_in, hk, hkL, hkU, hkx, a1, a2, a3, hx, hl, hl2, hl3, hwk, hps]
    · intro hp
      rw [hl] at hp
      simp [List.range, List.range.loop, ints, intss, int, bool, row, frac, fracs, ← List.map_take, ← List.map_drop, hp, hl, hl2, hl3]

end Go.Proofs.YtiieikknhheffaaDoor.Ax
