/-
  Contract: MergeProfile (the program's), of a profile of small counts. No condition.
-/
import Derived.Test.YtkfmhpgnhkdebaaGreatDoorCG19
import Derived.Test.YtkfmhpgnhkdebaaGreatDoorCK4
import Derived.Test.YtkfmhpgnhkdebaaGreatDoorCG14
import Derived.Test.YtkfmhpgnhkdebaaGreatDoorCK5
namespace Go.Proofs.YtkfmhpgnhkdebaaGreatDoor.Ax
open Go Go.RowKit
set_option linter.unusedSimpArgs false
def mgR (s : Nat) (vs : List Vt) : AV := match vs with
  | [] => .agg [.v (.int .i64 s), .sl true 1 []]
  | v :: l => .agg [.v (.int .i64 s), .sl false 2 ((v :: l).map vote)]
theorem mgR_nil {s : Nat} : mgR s [] = .agg [.v (.int .i64 s), .sl true 1 []] := rfl
theorem mgR_cons {s : Nat} {v : Vt} {l : List Vt} : mgR s (v :: l) = .agg [.v (.int .i64 s), .sl false 2 ((v :: l).map vote)] := rfl
def rjL (R : List (Bool × List Int)) (c : List Int) (k : Nat) : List AV := (List.range R.length).map fun j => if j < k ∧ 0 < at0 c j then .junk else row (R.getD j (false, []))
theorem rjL_len {R : List (Bool × List Int)} {c : List Int} {k : Nat} : (rjL R c k).length = R.length := by simp [rjL]
theorem rjL_zero {R : List (Bool × List Int)} {c : List Int} : rjL R c 0 = R.map row := by
  apply List.ext_getElem
  · simp [rjL]
  · intro i h1 h2
    have hi : i < R.length := by simpa using h2
    simp [rjL, List.getD_eq_getElem?_getD, List.getElem?_eq_getElem hi]
theorem rjL_at {R : List (Bool × List Int)} {c : List Int} {k : Nat} (h : k < R.length) : (rjL R c k)[k]? = some (row R[k]) := by
  simp [rjL, h, List.getD_eq_getElem?_getD]
theorem rjL_yes {R : List (Bool × List Int)} {c : List Int} {k : Nat} (h : k < R.length) (hc : 0 < at0 c k) : (rjL R c k).set k .junk = rjL R c (k + 1) := by
  apply List.ext_getElem
  · simp [rjL]
  · intro i h1 h2
    rw [List.getElem_set]
    simp only [rjL, List.getElem_map, List.getElem_range]
    by_cases e : k = i
    · subst e; rw [if_pos rfl, if_pos ⟨by omega, hc⟩]
    · rw [if_neg e]
      congr 1
      simp only [eq_iff_iff]
      constructor
      · rintro ⟨h1, h2⟩; exact ⟨by omega, h2⟩
      · rintro ⟨h1, h2⟩; exact ⟨by omega, h2⟩
theorem rjL_no {R : List (Bool × List Int)} {c : List Int} {k : Nat} (hc : ¬ 0 < at0 c k) : rjL R c (k + 1) = rjL R c k := by
  unfold rjL
  refine List.map_congr_left fun i _ => ?_
  congr 1
  simp only [eq_iff_iff]
  constructor
  · rintro ⟨h1, h2⟩
    refine ⟨?_, h2⟩
    rcases Nat.lt_or_ge i k with h | h
    · exact h
    · exact absurd ((show i = k by omega) ▸ h2) hc
  · rintro ⟨h1, h2⟩; exact ⟨by omega, h2⟩
theorem mgR_ne {s : Nat} {vs : List Vt} (h : vs ≠ []) : mgR s vs = .agg [.v (.int .i64 s), .sl false 2 (vs.map vote)] := by cases vs with | nil => exact (h rfl).elim | cons _ _ => rfl
noncomputable def mMrg : List AV → Option AV := mk (fun p => smP p.1 p.2.2) (fun (p : Nat × Bool × List Vt) => [prof p.1 p.2.1 p.2.2]) (fun p => .tup [prof p.1 false (mgd p.1 p.2.2), .v (.bool true)])
theorem mMrg_at (s : Nat) (nl : Bool) (vs : List Vt) (h : smP s vs) : mMrg [.agg [.v (.int .i64 (s : Int)), .sl nl 2 (vs.map vote)]] = some (.tup [.agg [.v (.int .i64 (s : Int)), .sl false 2 ((mgd s vs).map vote)], .v (.bool true)]) :=
  mk_eq (enc := fun (p : Nat × Bool × List Vt) => [prof p.1 p.2.1 p.2.2]) (f := fun p => .tup [prof p.1 false (mgd p.1 p.2.2), .v (.bool true)]) (x := (s, nl, vs)) (by
    rintro ⟨a, b, c⟩ ⟨a', b', c'⟩ h
    simp [prof, map_vote_inj] at h
    obtain ⟨h1, rfl, rfl⟩ := h
    rw [show a = a' by omega]) h
set_option maxRecDepth 8000 in
set_option maxHeartbeats 4000000 in
theorem mrg_ok : FnOk Tryz.prog 128 mMrg := by
  refine mk_ok fun ⟨s, nl, vs⟩ h => ?_
  simp only at h
  obtain ⟨s1, s4, hp, hne, h5, hb⟩ := id h
  have hok := mgd_ok h
  have hmn := mgd_ne h
  have hov := smP_okV h
  have hcb := mcT_bd hov h5
  have hD : mgd s vs = mgV (allRk s) (mcT (allRk s).length vs) (allRk s).length := rfl
  have hM := allRk_4 s1 s4
  obtain ⟨hM0, hRf⟩ := allRk_facts s1 (show s ≤ 5 by omega)
  have hrs : ∀ v ∈ vs, rankB s v.1.2 = true ∧ v.1.2.length = s := fun v hv => by
    have := (prof_facts hp).2.2 v hv
    have hl := (rank_facts this.1).2.2.1
    exact ⟨this.1, by omega⟩
  have hpp := mProf_at s nl vs
  rw [hp] at hpp
  have hA := mAllRk_at s
  have hin : inR 1 5 (s : Int) = true := by simp [inR]; omega
  rw [hin] at hA
  have hp2 := mProf_at s false (mgd s vs)
  rw [hok] at hp2
  have hmx := mMax_at false (mcT (allRk s).length vs) (by rw [mcT_len]; omega) (by rw [mcT_len]; omega)
  have hml : mx (mcT (allRk s).length vs) ≤ 30 := mx_le (fun j _ => (hcb j).2) (by rw [mcT_len]; omega)
  have hrf := fun (v : Vt) => mRkn_at v.1.1 v.1.2
  rw [hD] at hp2 hmn ⊢
  clear hD hok
  generalize allRk s = R at *
  have hG : FnsOk Tryz.prog [(66, mProf), (92, mAllRk), (190, mRkn), (191, mMax)] := (.cons implProf_ok (.cons implAllRankings_ok (.cons rkn_ok (.cons max_ok .nil))))
  refine callOk_of_tr (C := _) (ctx_ok eqOk hG) (dt := [(7, ⟨[], [], []⟩), (14, ⟨[(0, 8), (1, 8)], [0, 0, 0, 0, 0, 0, 0, 0, 1, 2], []⟩)]) Tryz.func128 rfl (by kernel_rfl) (by kernel_rfl) fun w0 => ?_
  refine tr_seq (tr_awp (live := [true, true, true, true, true, false, true, true, true, true, false, false, true, false, false, false, false, false, false, false, true, true, true, true, false, false, false, false, false, false, false, false, false, false, false, false, false, false, false, false, false, false, true, true, true, true, false, false, false, false, false, false, false, true, false, false, false, false, false, false, false, false, false, false, false, false, false, false, false, false, false, false, false, true]) (ctx_ok eqOk hG) mixed _ _ _ ?_)
  simp [Tryz.f128, List.range, List.range.loop, ints, intss, int, bool, row, frac, fracs, ← List.map_take, ← List.map_drop, List.all, andThen, prof]
  refine Tr.pre ?_ (le_freeze [0])
  simp [freeze, frzA, frzAL, sets]
  refine tr_seq (tr_awp (live := [true, true, true, true, true, false, true, true, true, true, false, false, true, false, false, false, false, false, false, false, true, true, true, true, false, false, false, false, false, false, false, false, false, false, false, false, false, false, false, false, false, false, true, true, true, true, false, false, false, false, false, false, false, true, false, false, false, false, false, false, false, false, false, false, false, false, false, false, false, false, false, false, false, true]) (ctx_ok eqOk hG) mixed _ _ _ ?_)
  simp [List.range, List.range.loop, ints, intss, int, bool, row, frac, fracs, ← List.map_take, ← List.map_drop, List.all, andThen, prof, hpp]
  have hM8 : 8 * R.length ≤ 281474976710656 ∧ R.length ≤ 4611686018427387904 := by omega
  refine tr_seq (tr_awp (live := [true, true, true, true, true, false, true, true, true, true, false, false, true, false, false, false, false, false, false, false, true, true, true, true, false, false, false, false, false, false, false, false, false, false, false, false, false, false, false, false, false, false, true, true, true, true, false, false, false, false, false, false, false, true, false, false, false, false, false, false, false, false, false, false, false, false, false, false, false, false, false, false, false, true]) (ctx_ok eqOk hG) mixed _ _ _ ?_)
  simp [List.range, List.range.loop, ints, intss, int, bool, row, frac, fracs, ← List.map_take, ← List.map_drop, List.all, andThen, prof, hpp, hA, hM8]
  refine tr_seq (tr_awp (live := [true, true, true, true, true, false, true, true, true, true, false, false, true, false, false, false, false, false, false, false, true, true, true, true, false, false, false, false, false, false, false, false, false, false, false, false, false, false, false, false, false, false, true, true, true, true, false, false, false, false, false, false, false, true, false, false, false, false, false, false, false, false, false, false, false, false, false, false, false, false, false, false, false, true]) (ctx_ok eqOk hG) mixed _ _ _ ?_)
  simp [List.range, List.range.loop, ints, intss, int, bool, row, frac, fracs, ← List.map_take, ← List.map_drop, List.all, prof]
  have z0 : (mcT R.length []).map int = List.replicate R.length (.v (.int .i64 0)) := by rw [mcT_nil]; simp [int]
  refine awp_range (live := [true, true, true, true, true, false, true, true, true, true, false, false, true, false, false, false, false, false, false, false, true, true, true, true, false, false, false, false, false, false, false, false, false, false, false, false, false, false, false, false, false, false, true, true, true, true, false, false, false, false, false, false, false, true, false, false, false, false, false, false, false, false, false, false, false, false, false, false, false, false, false, false, false, true]) (ctx_ok eqOk hG) mixed [false, true, true, false, true, false, false, false, false, false, false, false, false, false, false, false, false, false, false, false, true, true, true] (vs.length) (fun k => True) (fun k => ⟨[.junk, .fp (prof s nl vs) 0, .ptr 0 [] 0 0, .junk, .ref 1 [] 0 R.length, .junk, .junk, .junk, .junk, .junk, .junk, .junk, .junk, .junk, .junk, .junk, .junk, .junk, .junk, .junk, vts nl vs, int vs.length, int k, .junk, .junk, .junk, .junk, .junk, .junk, .junk, .junk, .junk, .junk, .junk, .junk, .junk, .junk, .junk, .junk, .junk, .junk, .junk, .junk, .junk, .junk, .junk, .junk, .junk, .junk, .junk, .junk, .junk, .junk, .junk, .junk, .junk, .junk, .junk, .junk, .junk, .junk, .junk, .junk, .junk, .junk, .junk, .junk, .junk, .junk, .junk, .junk, .junk, .junk, .junk, .junk, .junk], [⟨true, .sl false 2 [.agg [.v (.int .i64 0), .sl true 1 []]]⟩, ⟨true, .sl false 1 ((mcT R.length (vs.take k)).map int)⟩]⟩) ?_ (by simp [sub, slotsLe, clean, keep, refsL, refs, once, place, renL, ren, List.replicate, int, bool, prof, vts, z0]) ?_ ?_ ?_
  · omega
  · trivial
  · intro k hk _ hwk
    have hvk := List.getElem_mem hk
    have hrk := hrf vs[k]
    obtain ⟨o1, o2, o3, o4⟩ := hov _ hvk
    obtain ⟨b, hb'⟩ : ∃ b : Nat, rknT vs[k].1.2 = b := ⟨(rknT vs[k].1.2).toNat, by omega⟩
    rw [hb'] at hrk
    have hbM : b < R.length := by rw [hb'] at o4; simpa using o4
    have hcl := mcT_len (M := R.length) (vs := vs.take k)
    have hbc := mcT_bd (M := R.length) (vs := vs.take k) (fun v hv => hov v (List.mem_of_mem_take hv)) (by simp; omega) b
    have hst : mcT R.length (vs.take (k + 1)) = (mcT R.length (vs.take k)).set b (at0 (mcT R.length (vs.take k)) b + vs[k].2) := by
      rw [List.take_succ_eq_append_getElem hk, mcT_snoc]
      unfold mcF
      rw [hb']; rfl
    generalize mcT R.length (vs.take k) = c at *
    have hbc' : b < c.length := by omega
    rw [at0_eq hbc'] at hbc hst
    have hw : IntKind.i64.wrap (c[b] + vs[k].2) = c[b] + vs[k].2 := wrapI (by omega) (by omega)
    simp [List.range, List.range.loop, ints, intss, int, bool, row, frac, fracs, ← List.map_take, ← List.map_drop, List.all, prof, vts, vote, hk, hwk, hrk, hbM, hbc', hcl, hw, hst]
    done
  · intro _
    rw [List.take_length]
    have hcl := mcT_len (M := R.length) (vs := vs)
    have hcb' := hcb
    simp [List.range, List.range.loop, ints, intss, int, bool, row, frac, fracs, ← List.map_take, ← List.map_drop, List.all, andThen, prof, vts]
    refine tr_seq (tr_awp (live := [true, true, true, true, true, false, true, true, true, true, false, false, true, false, false, false, false, false, false, false, true, true, true, true, false, false, false, false, false, false, false, false, false, false, false, false, false, false, false, false, false, false, true, true, true, true, false, false, false, false, false, false, false, true, false, false, false, false, false, false, false, false, false, false, false, false, false, false, false, false, false, false, false, true]) (ctx_ok eqOk hG) mixed _ _ _ ?_)
    simp [List.range, List.range.loop, ints, intss, int, bool, row, frac, fracs, ← List.map_take, ← List.map_drop, List.all, andThen, prof, vts]
    refine tr_seq (tr_awp (live := [true, true, true, true, true, false, true, true, true, true, false, false, true, false, false, false, false, false, false, false, true, true, true, true, false, false, false, false, false, false, false, false, false, false, false, false, false, false, false, false, false, false, true, true, true, true, false, false, false, false, false, false, false, true, false, false, false, false, false, false, false, false, false, false, false, false, false, false, false, false, false, false, false, true]) (ctx_ok eqOk hG) mixed _ _ _ ?_)
    simp [List.range, List.range.loop, ints, intss, int, bool, row, frac, fracs, ← List.map_take, ← List.map_drop, List.all, prof, vts, hA]
    have hca := fun j (h : j < (mcT R.length vs).length) => at0_eq (xs := mcT R.length vs) h
    generalize mcT R.length vs = c at *
    refine tr_range [false, false, true, false, true, false, false, true, false, false, false, false, false, false, false, false, false, false, false, false, false, false, false, false, false, false, false, false, false, false, false, false, false, false, false, false, false, false, false, false, false, false, true, true, true] R.length (fun _ => True) (fun k => ⟨[.junk, .junk, .ptr 0 [] 0 0, .junk, .ref 1 [] 0 R.length, .junk, .junk, .ptr 2 [] 0 0, .junk, .junk, .junk, .junk, .junk, .junk, .junk, .junk, .junk, .junk, .junk, .junk, .junk, .junk, .junk, .junk, .junk, .junk, .junk, .junk, .junk, .junk, .junk, .junk, .junk, .junk, .junk, .junk, .junk, .junk, .junk, .junk, .junk, .junk, .ref 3 [] 0 R.length, int R.length, int k, .junk, .junk, .junk, .junk, .junk, .junk, .junk, .junk, .junk, .junk, .junk, .junk, .junk, .junk, .junk, .junk, .junk, .junk, .junk, .junk, .junk, .junk, .junk, .junk, .junk, .junk, .junk, .junk, .junk, .junk, .junk], [⟨true, .sl false 2 [.agg [.v (.int .i64 0), .sl true 1 []]]⟩, ⟨true, .sl false 1 (c.map int)⟩, ⟨true, .sl false 2 [mgR s (mgV R c k)]⟩, ⟨true, .sl false 1 (rjL R c k)⟩]⟩) (by omega) ?_ trivial ?_ ?_
    · simp [sub, slotsLe, clean, keep, refsL, refs, once, place, renL, ren, List.replicate, int, bool, mgV_zero, mgR_nil, rjL_zero]
    · intro k hk _ hwk
      have hkc : k < c.length := by omega
      have hRc : R.length ≤ c.length := by omega
      have hck := hca k hkc
      have hf := (hRf _ (List.getElem_mem hk)).1
      have hln := mgV_len (R := R) (c := c) (k := k)
      have hjl := rjL_len (R := R) (c := c) (k := k)
      have hja := rjL_at (c := c) hk
      have hrow : row R[k] = .sl false 1 (R[k].2.map int) := by unfold row; rw [hf]
      rw [hrow] at hja
      have hja2 : (rjL R c k)[k]'(by omega) = .sl false 1 (R[k].2.map int) := by rw [List.getElem?_eq_getElem (by omega)] at hja; exact Option.some.inj hja
      refine tr_seq (tr_awp (live := [true, true, true, true, true, false, true, true, true, true, false, false, true, false, false, false, false, false, false, false, true, true, true, true, false, false, false, false, false, false, false, false, false, false, false, false, false, false, false, false, false, false, true, true, true, true, false, false, false, false, false, false, false, true, false, false, false, false, false, false, false, false, false, false, false, false, false, false, false, false, false, false, false, true]) (ctx_ok eqOk hG) mixed _ _ _ ?_)
      simp [List.range, List.range.loop, ints, intss, int, bool, row, frac, fracs, ← List.map_take, ← List.map_drop, List.all, andThen, hk]
      refine tr_seq (tr_awp (live := [true, true, true, true, true, false, true, true, true, true, false, false, true, false, false, false, false, false, false, false, true, true, true, true, false, false, false, false, false, false, false, false, false, false, false, false, false, false, false, false, false, false, true, true, true, true, false, false, false, false, false, false, false, true, false, false, false, false, false, false, false, false, false, false, false, false, false, false, false, false, false, false, false, true]) (ctx_ok eqOk hG) mixed _ _ _ ?_)
      simp [List.range, List.range.loop, ints, intss, int, bool, row, frac, fracs, ← List.map_take, ← List.map_drop, List.all, andThen]
      refine tr_seq (tr_block (tr_seq (tr_awp (live := [true, true, true, true, true, false, true, true, true, true, false, false, true, false, false, false, false, false, false, false, true, true, true, true, false, false, false, false, false, false, false, false, false, false, false, false, false, false, false, false, false, false, true, true, true, true, false, false, false, false, false, false, false, true, false, false, false, false, false, false, false, false, false, false, false, false, false, false, false, false, false, false, false, true]) (ctx_ok eqOk hG) mixed _ _ _ ?_)))
      simp [List.range, List.range.loop, ints, intss, int, bool, row, frac, fracs, ← List.map_take, ← List.map_drop, List.all, andThen, hk, hjl, hja2]
      by_cases hp0 : 0 < at0 c k
      · refine Tr.pre ?_ (le_out 9 3 (q := (k, 0)) (p := []) (n := R[k].2.length) (tk := ⟨true, .sl false 1 (rjL R c k)⟩) (nl := false) (sz := 1) (es := R[k].2.map int) rfl rfl rfl (by simp [getAt, hjl, hk, hja2, AV.cells]) (by simp))
        have hset := rjL_yes hk hp0
        simp [killN, setAt, setCell, AV.cells, hjl, hk, hja2, hset]
        have hst := mgV_yes hk hp0
        have hst2 : mgR s (mgV R c (k + 1)) = .agg [.v (.int .i64 s), .sl false 2 ((mgV R c k).map vote ++ [vote (R[k], at0 c k)])] := by rw [hst, mgR_ne (by simp), List.map_append]; rfl
        rw [hck] at hp0
        generalize mgV R c k = V at *
        cases V with
        | nil =>
          simp [vote, hf, hck] at hst2
          refine tr_awp (live := [true, true, true, true, true, false, true, true, true, true, false, false, true, false, false, false, false, false, false, false, true, true, true, true, false, false, false, false, false, false, false, false, false, false, false, false, false, false, false, false, false, false, true, true, true, true, false, false, false, false, false, false, false, true, false, false, false, false, false, false, false, false, false, false, false, false, false, false, false, false, false, false, false, true]) (ctx_ok eqOk hG) mixed _ _ _ ?_
          simp [List.range, List.range.loop, ints, intss, int, bool, row, frac, fracs, ← List.map_take, ← List.map_drop, List.all, andThen, inBlock, row, hk, hkc, hRc, hwk, hp0, mgR_nil]
          refine tr_awp (live := [true, true, true, true, true, false, true, true, true, true, false, false, true, false, false, false, false, false, false, false, true, true, true, true, false, false, false, false, false, false, false, false, false, false, false, false, false, false, false, false, false, false, true, true, true, true, false, false, false, false, false, false, false, true, false, false, false, false, false, false, false, false, false, false, false, false, false, false, false, false, false, false, false, true]) (ctx_ok eqOk hG) mixed _ _ _ ?_
          simp [List.range, List.range.loop, ints, intss, int, bool, row, frac, fracs, ← List.map_take, ← List.map_drop, List.all, hwk, hst2]
          done
        | cons v V =>
          have hbb : V.length + 1 + 1 ≤ 4611686018427387904 ∧ (V.length + 1 + 1) * 32 ≤ 140737488355328 := by simp at hln; omega
          simp [vote, hf, hck] at hst2
          refine tr_awp (live := [true, true, true, true, true, false, true, true, true, true, false, false, true, false, false, false, false, false, false, false, true, true, true, true, false, false, false, false, false, false, false, false, false, false, false, false, false, false, false, false, false, false, true, true, true, true, false, false, false, false, false, false, false, true, false, false, false, false, false, false, false, false, false, false, false, false, false, false, false, false, false, false, false, true]) (ctx_ok eqOk hG) mixed _ _ _ ?_
          simp [List.range, List.range.loop, ints, intss, int, bool, row, frac, fracs, ← List.map_take, ← List.map_drop, List.all, andThen, inBlock, row, vote, hk, hkc, hRc, hwk, hp0, mgR_cons, hbb]
          refine tr_awp (live := [true, true, true, true, true, false, true, true, true, true, false, false, true, false, false, false, false, false, false, false, true, true, true, true, false, false, false, false, false, false, false, false, false, false, false, false, false, false, false, false, false, false, true, true, true, true, false, false, false, false, false, false, false, true, false, false, false, false, false, false, false, false, false, false, false, false, false, false, false, false, false, false, false, true]) (ctx_ok eqOk hG) mixed _ _ _ ?_
          simp [List.range, List.range.loop, ints, intss, int, bool, row, frac, fracs, ← List.map_take, ← List.map_drop, List.all, hwk, hst2]
          done
      · have hst := mgV_no (R := R) hp0
        have hjn := rjL_no (R := R) hp0
        rw [hck] at hp0
        refine tr_awp (live := [true, true, true, true, true, false, true, true, true, true, false, false, true, false, false, false, false, false, false, false, true, true, true, true, false, false, false, false, false, false, false, false, false, false, false, false, false, false, false, false, false, false, true, true, true, true, false, false, false, false, false, false, false, true, false, false, false, false, false, false, false, false, false, false, false, false, false, false, false, false, false, false, false, true]) (ctx_ok eqOk hG) mixed _ _ _ ?_
        simp [List.range, List.range.loop, ints, intss, int, bool, row, frac, fracs, ← List.map_take, ← List.map_drop, List.all, andThen, inBlock, row, hk, hkc, hRc, hwk, hp0]
        refine tr_awp (live := [true, true, true, true, true, false, true, true, true, true, false, false, true, false, false, false, false, false, false, false, true, true, true, true, false, false, false, false, false, false, false, false, false, false, false, false, false, false, false, false, false, false, true, true, true, true, false, false, false, false, false, false, false, true, false, false, false, false, false, false, false, false, false, false, false, false, false, false, false, false, false, false, false, true]) (ctx_ok eqOk hG) mixed _ _ _ ?_
        simp [List.range, List.range.loop, ints, intss, int, bool, row, frac, fracs, ← List.map_take, ← List.map_drop, List.all, hwk, hst, hjn]
        done
    · intro _
      rw [mgR_ne hmn]
      refine tr_awp (live := [true, true, true, true, true, false, true, true, true, true, false, false, true, false, false, false, false, false, false, false, true, true, true, true, false, false, false, false, false, false, false, false, false, false, false, false, false, false, false, false, false, false, true, true, true, true, false, false, false, false, false, false, false, true, false, false, false, false, false, false, false, false, false, false, false, false, false, false, false, false, false, false, false, true]) (ctx_ok eqOk hG) mixed _ _ _ ?_
      simp [List.range, List.range.loop, ints, intss, int, bool, row, frac, fracs, ← List.map_take, ← List.map_drop, List.all, andThen, prof]
      refine tr_seq (tr_awp (live := [true, true, true, true, true, false, true, true, true, true, false, false, true, false, false, false, false, false, false, false, true, true, true, true, false, false, false, false, false, false, false, false, false, false, false, false, false, false, false, false, false, false, true, true, true, true, false, false, false, false, false, false, false, true, false, false, false, false, false, false, false, false, false, false, false, false, false, false, false, false, false, false, false, true]) (ctx_ok eqOk hG) mixed _ _ _ ?_)
      have hmxi : ¬ (1000 : Int) < mx c := by omega
      simp [List.range, List.range.loop, ints, intss, int, bool, row, frac, fracs, ← List.map_take, ← List.map_drop, List.all, andThen, prof, hp2, hmx, hmxi]
      refine tr_awp (live := [true, true, true, true, true, false, true, true, true, true, false, false, true, false, false, false, false, false, false, false, true, true, true, true, false, false, false, false, false, false, false, false, false, false, false, false, false, false, false, false, false, false, true, true, true, true, false, false, false, false, false, false, false, true, false, false, false, false, false, false, false, false, false, false, false, false, false, false, false, false, false, false, false, true]) (ctx_ok eqOk hG) mixed _ _ _ ?_
      simp [List.range, List.range.loop, ints, intss, int, bool, row, frac, fracs, ← List.map_take, ← List.map_drop, List.all, prof]
      done
end Go.Proofs.YtkfmhpgnhkdebaaGreatDoor.Ax
namespace Go.Proofs.YtkfmhpgnhkdebaaGreatDoor.Ax
open Go Go.RowKit
set_option linter.unusedSimpArgs false
theorem eqv1 (v w : Vt) : CallOk Tryz.prog 192 [vote v, vote w] (.v (.bool (decide (v.2 = w.2) && decide (v.1.2 = w.1.2)))) := by
  have h := mEqI_at v.1.1 v.1.2 w.1.1 w.1.2
  have hG : FnsOk Tryz.prog [(193, mEqI)] := (.cons eqI_ok .nil)
  refine callOk_awp (ctx_ok eqOk hG) mixed (live := [true, true, true, true, true]) (dt := []) Tryz.func192 rfl (by kernel_rfl) (by kernel_rfl) fun w0 hlens => ?_
  clear hlens
  by_cases h1 : v.2 = w.2
  · simp [Tryz.f192, List.range, List.range.loop, ints, intss, int, bool, row, frac, fracs, ← List.map_take, ← List.map_drop, vote, h, h1]
  · have h1b : (v.2 == w.2) = false := by simpa using h1
    simp [Tryz.f192, List.range, List.range.loop, ints, intss, int, bool, row, frac, fracs, ← List.map_take, ← List.map_drop, vote, h, h1, h1b]
set_option maxHeartbeats 1000000 in
theorem eqFunc_same (nl nl2 : Bool) (vs : List Vt) : CallOk Tryz.prog 194 [vts nl vs, vts nl2 vs, .fn 192 []] (.v (.bool true)) := by
  have hG : FnsOk Tryz.prog [(192, mk (fun _ => True) (fun x : Vt => [vote x, vote x]) (fun _ => .v (.bool true)))] := .cons (mk_ok fun x _ => by
    have := eqv1 x x
    simp at this
    exact this) .nil
  have hat : ∀ x : Vt, mk (fun _ => True) (fun x : Vt => [vote x, vote x]) (fun _ => AV.v (.bool true)) [vote x, vote x] = some (.v (.bool true)) := fun x =>
    mk_eq (enc := fun x : Vt => [vote x, vote x]) (x := x) (fun _ _ _ => rfl) trivial
  generalize mk (fun _ => True) (fun x : Vt => [vote x, vote x]) (fun _ => AV.v (.bool true)) = m at hG hat
  refine callOk_awp (ctx_ok eqOk hG) mixed (live := [true, true, true, false, false, false, true, true, true, true, false, false, false, false, true, true, true, true, true, false, false, false, false, false, false, false, false, false, false, false, true]) (dt := []) Tryz.func194 rfl (by kernel_rfl) (by kernel_rfl) fun w0 hlens => ?_
  have hlen : vs.length ≤ 9223372036854775807 := by
    have := hlens.1
    simp only [vts, lens, List.length_map] at this
    exact this.1.1
  clear hlens
  simp [Tryz.f194, List.range, List.range.loop, ints, intss, int, bool, row, frac, fracs, ← List.map_take, ← List.map_drop, vts]
  refine awp_range (live := [true, true, true, false, false, false, true, true, true, true, false, false, false, false, true, true, true, true, true, false, false, false, false, false, false, false, false, false, false, false, true]) (ctx_ok eqOk hG) mixed [false, true, true, false, false, false, false, false, false, false, false, false, false, false, false, true, true, true] (vs.length) (fun k => True) (fun k => ⟨[.junk, vts nl2 vs, .fn 192 [], .junk, .junk, .junk, .junk, .junk, .junk, .junk, .junk, .junk, .junk, .junk, .junk, vts nl vs, int vs.length, int k, .junk, .junk, .junk, .junk, .junk, .junk, .junk, .junk, .junk, .junk, .junk, .junk, .junk, .junk], []⟩) ?_ (by simp [sub, slotsLe, clean, keep, refsL, refs, once, place, renL, ren, List.replicate, int, bool, vts]) ?_ ?_ ?_
  · exact hlen
  · trivial
  · intro k hk _ hwk
    have hz := hat vs[k]
    simp only [vote] at hz
    simp [List.range, List.range.loop, ints, intss, int, bool, row, frac, fracs, ← List.map_take, ← List.map_drop, vts, vote, hk, hwk, hz]
  · intro _
    simp [List.range, List.range.loop, ints, intss, int, bool, row, frac, fracs, ← List.map_take, ← List.map_drop, vts]
noncomputable def mEqS : List AV → Option AV := mk (fun _ => True) (fun (p : Int × Bool × Bool × List Vt) => [prof p.1 p.2.1 p.2.2.2, prof p.1 p.2.2.1 p.2.2.2]) (fun _ => .v (.bool true))
theorem mEqS_at (s : Int) (nl nl2 : Bool) (vs : List Vt) : mEqS [.agg [.v (.int .i64 s), .sl nl 2 (vs.map vote)], .agg [.v (.int .i64 s), .sl nl2 2 (vs.map vote)]] = some (.v (.bool true)) :=
  mk_eq (enc := fun (p : Int × Bool × Bool × List Vt) => [prof p.1 p.2.1 p.2.2.2, prof p.1 p.2.2.1 p.2.2.2]) (f := fun _ => .v (.bool true)) (x := (s, nl, nl2, vs)) (fun _ _ _ => rfl) trivial
set_option maxHeartbeats 1000000 in
theorem equals_ok : FnOk Tryz.prog 129 mEqS := by
  refine mk_ok fun ⟨s, nl, nl2, vs⟩ _ => ?_
  obtain ⟨m, hm, hz⟩ := as_model (eqFunc_same nl nl2 vs)
  simp only [vts] at hz
  have hG : FnsOk Tryz.prog [(194, m)] := (.cons hm .nil)
  refine callOk_awp (ctx_ok eqOk hG) mixed (live := [true, true, true, true, true, true]) (dt := []) Tryz.func129 rfl (by kernel_rfl) (by kernel_rfl) fun w0 hlens => ?_
  clear hlens
  simp [Tryz.f129, List.range, List.range.loop, ints, intss, int, bool, row, frac, fracs, ← List.map_take, ← List.map_drop, prof, hz]
noncomputable def mSmp : List AV → Option AV := mk (fun p => smP p.1 p.2.2.2) (fun (p : Nat × Bool × Bool × List Vt) => [prof p.1 p.2.1 p.2.2.2, prof p.1 p.2.2.1 p.2.2.2]) (fun _ => .v (.bool true))
theorem mSmp_at (s : Nat) (nl nl2 : Bool) (vs : List Vt) (h : smP s vs) : mSmp [.agg [.v (.int .i64 (s : Int)), .sl nl 2 (vs.map vote)], .agg [.v (.int .i64 (s : Int)), .sl nl2 2 (vs.map vote)]] = some (.v (.bool true)) :=
  mk_eq (enc := fun (p : Nat × Bool × Bool × List Vt) => [prof p.1 p.2.1 p.2.2.2, prof p.1 p.2.2.1 p.2.2.2]) (f := fun _ => .v (.bool true)) (x := (s, nl, nl2, vs)) (fun _ _ _ => rfl) h
set_option maxHeartbeats 1000000 in
theorem sameProfile_ok : FnOk Tryz.prog 50 mSmp := by
  refine mk_ok fun ⟨s, nl, nl2, vs⟩ h => ?_
  simp only at h
  have h1 := mMrg_at s nl vs h
  have h2 := mMrg_at s nl2 vs h
  have h3 := mEqS_at s false false (mgd s vs)
  generalize mgd s vs = D at *
  have hG : FnsOk Tryz.prog [(128, mMrg), (129, mEqS)] := (.cons mrg_ok (.cons equals_ok .nil))
  refine callOk_awp (ctx_ok eqOk hG) mixed (live := [true, true, true, true, true, true, true, true, true]) (dt := []) Tryz.func50 rfl (by kernel_rfl) (by kernel_rfl) fun w0 hlens => ?_
  clear hlens
  simp [Tryz.f50, List.range, List.range.loop, ints, intss, int, bool, row, frac, fracs, ← List.map_take, ← List.map_drop, prof, h1, h2, h3]
end Go.Proofs.YtkfmhpgnhkdebaaGreatDoor.Ax
namespace Go.Proofs.YtkfmhpgnhkdebaaGreatDoor.Ax
open Go Go.RowKit
set_option linter.unusedSimpArgs false
def spT (c : UInt8) (r : ByteArray) : List Tok := [⟨true, .sl false 1 [str ⟨#[c]⟩]⟩, ⟨true, .sl false 1 [str r]⟩, ⟨true, .sl false 1 [int 0]⟩]
def spT0 (c : UInt8) (r : ByteArray) : List Tok := [⟨true, .sl false 1 [str r]⟩, ⟨true, .sl false 1 [str ⟨#[c]⟩]⟩, ⟨true, .sl false 1 [int 0]⟩]
set_option maxHeartbeats 2000000 in
set_option maxRecDepth 100000 in
theorem splitSeq1_at {s : ByteArray} {c : UInt8} (hsz : s.size ≤ 4611686018427387904) {w : World} {cv : Array Value} {Bi : Nat → Prop} (hlen : cv.size = 3) (hBi : ∀ b, Bi b → b < w.heap.size)
    (hcaps : ∀ (W1 : World) (F : Nat → Prop), Frm (fun _ => False) w W1 → ∃ E : Env, E.F = F ∧ (∀ t b, E.S t b → Bi b) ∧ SRepL W1 E (spT0 c s) [.ptr 1 [] 0 0, .ptr 0 [] 0 0, .ptr 2 [] 0 0] cv.toList ∧ (∀ t tk, (spT0 c s)[t]? = some tk → TokOk W1 E t tk) ∧ (∀ t t' b, t ≠ t' → E.S t b → ¬ E.S t' b)) :
    IterAt Tryz.prog 240 cv w Bi ((splitS s c).map str) := by
  have hG : FnsOk Tryz.prog [(242, mIxb)] := (.cons index_ok .nil)
  refine iterAt_of_ty (dt := []) (caps := [.ptr 1 [] 0 0, .ptr 0 [] 0 0, .ptr 2 [] 0 0]) Tryz.func240 rfl (by kernel_rfl) rfl (by kernel_rfl) hlen hBi hcaps fun w F0 B0 l J hJ hyield => ?_
  have c1 : (⟨#[c]⟩ : ByteArray).size = 1 := rfl
  refine ty_seq (ty_awp (ctx_ok eqOk hG) mixed hJ (live := [true, true, true, true, false, false, true, true, true, false, false, true, false, false, true, false, false, false, false, false, false, false, false, false, false, true, false, false, false, false, false, false, false, true, false, false, false, false, false, false, false, false, true]) fun X A w1 => ?_)
  simp [Tryz.f240, List.range, List.range.loop, ints, intss, int, bool, row, frac, fracs, ← List.map_take, ← List.map_drop, thenY_normal, yv, spT0, str, c1]
  refine ty_seq (ty_block (ty_loop (α := {p : Nat × ByteArray // (splitS s c).drop p.1 = splitS p.2 c ∧ p.2.size ≤ s.size}) (fun p => ⟨[.v (.func (.yield l) #[] #[]), .ptr 0 [] 0 0, .ptr 1 [] 0 0, .ptr 2 [] 0 0, .junk, .junk, .junk, .junk, .junk, .junk, .junk, .junk, .junk, .junk, .junk, .junk, .junk, .junk, .junk, .junk, .junk, .junk, .junk, .junk, .junk, .junk, .junk, .junk, .junk, .junk, .junk, .junk, .junk, .junk, .junk, .junk, .junk, .junk, .junk, .junk, .junk, .junk, .junk, .junk, .junk, .junk, .junk, .junk, .junk, .junk, .junk, .junk], spT c p.1.2⟩) (fun p => (true, p.1.1)) (fun p => p.1.2.size) ⟨(0, s), rfl, Nat.le_refl _⟩ ?_ ?_))
  · refine ⟨?_, rfl⟩
    simp [sub, slotsLe, clean, keep, refsL, refs, once, place, renL, ren, List.replicate, int, bool, spT, spT0, str]
  rintro ⟨⟨k, r⟩, hk, hrs⟩
  simp only at hk hrs
  have hi := mIxb_at r c
  refine ty_block ?_
  rcases split_idx (s := r) (c := c) with ⟨e1, e2⟩ | ⟨j, e1, e2, e3⟩
  · rw [e1] at hi
    refine ty_awp (ctx_ok eqOk hG) mixed hJ (live := [true, true, true, true, false, false, true, true, true, false, false, true, false, false, true, false, false, false, false, false, false, false, false, false, false, true, false, false, false, false, false, false, false, true, false, false, false, false, false, false, false, false, true]) fun X A w1 => ?_
    simp [List.range, List.range.loop, ints, intss, int, bool, row, frac, fracs, ← List.map_take, ← List.map_drop, spT, str, hi, thenY_normal, thenY_exit, inBY_exit, inBY_normal]
    rw [e2] at hk
    have hkl : k < (splitS s c).length := by
      have := congrArg List.length hk
      simp at this; omega
    have hkn : k + 1 = (splitS s c).length := by
      have := congrArg List.length hk
      simp at this; omega
    have hkg : (splitS s c)[k]? = some r := by
      have := congrArg (fun l => l[0]?) hk
      simpa using this
    refine ty_yield (ctx_ok eqOk hG) hJ hyield (pre := [_, _]) (slots := [.v (.func (.yield l) #[] #[]), .ptr 0 [] 0 0, .ptr 1 [] 0 0, .ptr 2 [] 0 0, .junk, .junk, .junk, .v (.int .i64 (-1)), .junk, .junk, .junk, .junk, .junk, .junk, .junk, .junk, .junk, .junk, .junk, .junk, .junk, .junk, .junk, .junk, .junk, .junk, .junk, .junk, .junk, .junk, .junk, .junk, .junk, .v (.bool true), .junk, .junk, .junk, .junk, .junk, .junk, .junk, .junk, .junk, .junk, .junk, .junk, .junk, .junk, .junk, .v (.func (.yield l) #[] #[]), .v (.string r), .junk]) (toks := spT c r) rfl rfl rfl rfl (by simp [List.range, List.range.loop, ints, intss, int, bool, row, frac, fracs, ← List.map_take, ← List.map_drop, spT, str]) (by rfl) (x := str r) ?_ ?_ ?_ ?_
    · simp [str, ev, res]
    · rw [List.getElem?_map, hkg]; rfl
    · exact ⟨.inl rfl, .inl (by rw [hkn])⟩
    · exact ⟨.inl rfl, .inr rfl⟩
  · rw [e1] at hi
    rw [e3] at hk
    have hkg : (splitS s c)[k]? = some (r.extract 0 j) := by
      have := congrArg (fun l => l[0]?) hk
      simpa using this
    have hkd : (splitS s c).drop (k + 1) = splitS (r.extract (j + 1) r.size) c := by
      have := congrArg (List.drop 1) hk
      rw [List.drop_drop] at this
      simpa using this
    have hj0 : ¬ ((j : Int) < 0) := by omega
    have hrsz : (r.extract (j + 1) r.size).size = r.size - (j + 1) := by rw [ByteArray.size_extract]; omega
    have v1 : IntKind.i64.wrap (j : Int) = j := wrapI (by omega) (by omega)
    have v2 : IntKind.i64.wrap ((j : Int) + 1) = (j : Int) + 1 := wrapI (by omega) (by omega)
    have hjr : j ≤ r.size := by omega
    have hjr1 : j + 1 ≤ r.size := by omega
    refine ty_seq (ty_awp (ctx_ok eqOk hG) mixed hJ (live := [true, true, true, true, false, false, true, true, true, false, false, true, false, false, true, false, false, false, false, false, false, false, false, false, false, true, false, false, false, false, false, false, false, true, false, false, false, false, false, false, false, false, true]) fun X A w1 => ?_)
    simp [List.range, List.range.loop, ints, intss, int, bool, row, frac, fracs, ← List.map_take, ← List.map_drop, spT, str, hi, thenY_normal, hj0]
    refine ty_seq (ty_awp (ctx_ok eqOk hG) mixed hJ (live := [true, true, true, true, false, false, true, true, true, false, false, true, false, false, true, false, false, false, false, false, false, false, false, false, false, true, false, false, false, false, false, false, false, true, false, false, false, false, false, false, false, false, true]) fun X A w1 => ?_)
    simp [List.range, List.range.loop, ints, intss, int, bool, row, frac, fracs, ← List.map_take, ← List.map_drop, spT, str, hi, thenY_normal, hj0, c1, v1, v2, hjr, hjr1]
    refine ty_seq (ty_awp (ctx_ok eqOk hG) mixed hJ (live := [true, true, true, true, false, false, true, true, true, false, false, true, false, false, true, false, false, false, false, false, false, false, false, false, false, true, false, false, false, false, false, false, false, true, false, false, false, false, false, false, false, false, true]) fun X A w1 => ?_)
    simp [List.range, List.range.loop, ints, intss, int, bool, row, frac, fracs, ← List.map_take, ← List.map_drop, spT, str, hi, thenY_normal, hj0, c1, v1, v2, hjr, hjr1]
    refine ty_seq (ty_seq (ty_yieldP (ctx_ok eqOk hG) hJ hyield (pre := [_, _]) (post := [_]) (slots := [.v (.func (.yield l) #[] #[]), .ptr 0 [] 0 0, .ptr 1 [] 0 0, .ptr 2 [] 0 0, .junk, .junk, .junk, .v (.int .i64 j), .v (.string (r.extract 0 j)), .junk, .junk, .junk, .junk, .junk, .junk, .junk, .junk, .junk, .junk, .junk, .junk, .junk, .junk, .junk, .junk, .junk, .junk, .junk, .junk, .junk, .junk, .junk, .junk, .v (.bool false), .junk, .junk, .junk, .junk, .junk, .v (.func (.yield l) #[] #[]), .v (.string (r.extract 0 j)), .junk, .junk, .junk, .junk, .junk, .junk, .junk, .junk, .junk, .junk, .junk]) (toks := spT c r) rfl rfl rfl rfl (by simp [List.range, List.range.loop, ints, intss, int, bool, row, frac, fracs, ← List.map_take, ← List.map_drop, spT, str]) (by rfl) (x := str (r.extract 0 j)) ?_ ?_
      (sT := ⟨[.v (.func (.yield l) #[] #[]), .ptr 0 [] 0 0, .ptr 1 [] 0 0, .ptr 2 [] 0 0, .junk, .junk, .junk, .v (.int .i64 j), .v (.string (r.extract 0 j)), .junk, .junk, .junk, .junk, .junk, .junk, .junk, .junk, .junk, .junk, .junk, .junk, .junk, .junk, .junk, .junk, .junk, .junk, .junk, .junk, .junk, .junk, .junk, .junk, .v (.bool false), .junk, .junk, .junk, .junk, .junk, .v (.func (.yield l) #[] #[]), .v (.string (r.extract 0 j)), .v (.bool true), .v (.bool false), .junk, .junk, .junk, .junk, .junk, .junk, .junk, .junk, .junk], spT c r⟩) (sF := ⟨[.v (.func (.yield l) #[] #[]), .ptr 0 [] 0 0, .ptr 1 [] 0 0, .ptr 2 [] 0 0, .junk, .junk, .junk, .v (.int .i64 j), .v (.string (r.extract 0 j)), .junk, .junk, .junk, .junk, .junk, .junk, .junk, .junk, .junk, .junk, .junk, .junk, .junk, .junk, .junk, .junk, .junk, .junk, .junk, .junk, .junk, .junk, .junk, .junk, .v (.bool false), .junk, .junk, .junk, .junk, .junk, .v (.func (.yield l) #[] #[]), .v (.string (r.extract 0 j)), .v (.bool false), .v (.bool true), .junk, .junk, .junk, .junk, .junk, .junk, .junk, .junk, .junk], spT c r⟩) (by simp [List.range, List.range.loop, ints, intss, int, bool, row, frac, fracs, ← List.map_take, ← List.map_drop, spT, str]) (by simp [List.range, List.range.loop, ints, intss, int, bool, row, frac, fracs, ← List.map_take, ← List.map_drop, spT, str]) ?_ ?_))
    · simp [str, ev, res]
    · rw [List.getElem?_map, hkg]; rfl
    · simp only [thenY_normal]
      refine ty_awp (ctx_ok eqOk hG) mixed hJ (live := [true, true, true, true, false, false, true, true, true, false, false, true, false, false, true, false, false, false, false, false, false, false, false, false, false, true, false, false, false, false, false, false, false, true, false, false, false, false, false, false, false, false, true]) fun X A w1 => ?_
      simp [List.range, List.range.loop, ints, intss, int, bool, row, frac, fracs, ← List.map_take, ← List.map_drop, thenY_normal]
      refine ty_awp (ctx_ok eqOk hG) mixed hJ (live := [true, true, true, true, false, false, true, true, true, false, false, true, false, false, true, false, false, false, false, false, false, false, false, false, false, true, false, false, false, false, false, false, false, true, false, false, false, false, false, false, false, false, true]) fun X A w1 => ?_
      simp [List.range, List.range.loop, ints, intss, int, bool, row, frac, fracs, ← List.map_take, ← List.map_drop, spT, str, thenY_normal, inBY_normal, c1, v1, v2, hjr, hjr1]
      refine ⟨⟨(k + 1, r.extract (j + 1) r.size), hkd, by rw [hrsz]; omega⟩, ?_, rfl, ?_⟩
      · simp [sub, slotsLe, clean, keep, refsL, refs, once, place, renL, ren, List.replicate, int, bool]
      · show (r.extract (j + 1) r.size).size < r.size
        rw [hrsz]; omega
    · simp only [thenY_normal]
      refine ty_awp (ctx_ok eqOk hG) mixed hJ (live := [true, true, true, true, false, false, true, true, true, false, false, true, false, false, true, false, false, false, false, false, false, false, false, false, false, true, false, false, false, false, false, false, false, true, false, false, false, false, false, false, false, false, true]) fun X A w1 => ?_
      simp [List.range, List.range.loop, ints, intss, int, bool, row, frac, fracs, ← List.map_take, ← List.map_drop, thenY_normal, thenY_ret, inBY_ret]
theorem splitSeq_ok {s : ByteArray} {c : UInt8} (hsz : s.size ≤ 4611686018427387904) : SeqOk Tryz.prog 187 [str s, str ⟨#[c]⟩, int 0] ((splitS s c).map str) := by
  have hG : FnsOk Tryz.prog [] := .nil
  refine seqOk_of_awp (gf := 240) (caps := [.ptr 1 [] 0 0, .ptr 0 [] 0 0, .ptr 2 [] 0 0]) (T0 := spT0 c s) (dt := []) (live := [true, true, true, true, true, true, true]) (ctx_ok eqOk hG) mixed Tryz.func187 rfl (by kernel_rfl) (by kernel_rfl) rfl (by simp) (fun t tk ht => .inr (by match t, ht with | 0, ht => simp [spT0] at ht; subst ht; rfl | 1, ht => simp [spT0] at ht; subst ht; rfl | 2, ht => simp [spT0] at ht; subst ht; rfl | _ + 3, ht => simp [spT0] at ht)) (fun _ _ _ hlen hBi hcaps => splitSeq1_at hsz hlen hBi hcaps) fun A w0 => ?_
  simp [Tryz.f187, List.range, List.range.loop, ints, intss, int, bool, row, frac, fracs, ← List.map_take, ← List.map_drop, str, spT0]
end Go.Proofs.YtkfmhpgnhkdebaaGreatDoor.Ax
