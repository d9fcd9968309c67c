/-
  Contracts: the pairs by margin (the reference). No condition.
-/
import Derived.Test.YtigepnpiofcooaaGreatCG19
namespace Go.Proofs.YtigepnpiofcooaaGreat.Ax
open Go Go.RowKit
set_option linter.unusedSimpArgs false
abbrev PrM := Nat × Bool × List Vt × Nat × Nat
noncomputable def mMgS : List AV → Option AV := mk (fun p => profB (p.1 : Int) p.2.2.1 = true ∧ p.2.2.2.1 < p.1 ∧ p.2.2.2.2 < p.1) (fun (p : PrM) => [prof (p.1 : Int) p.2.1 p.2.2.1, int (p.2.2.2.1 : Int), int (p.2.2.2.2 : Int)]) (fun p => int (mgT p.2.2.1 p.2.2.2.1 p.2.2.2.2))
theorem mMgS_at (s : Nat) (nl : Bool) (vs : List Vt) (a b : Nat) (h : profB (s : Int) vs = true ∧ a < s ∧ b < s) : mMgS [.agg [.v (.int .i64 (s : Int)), .sl nl 2 (vs.map vote)], .v (.int .i64 (a : Int)), .v (.int .i64 (b : Int))] = some (.v (.int .i64 (mgT vs a b))) :=
  mk_eq (enc := fun (p : PrM) => [prof (p.1 : Int) p.2.1 p.2.2.1, int (p.2.2.2.1 : Int), int (p.2.2.2.2 : Int)]) (x := (s, nl, vs, a, b)) (by
    rintro ⟨a1, a2, a3, a4, a5⟩ ⟨b1, b2, b3, b4, b5⟩ h
    simp [prof, int, map_vote_inj] at h
    obtain ⟨⟨h1, h2, h3⟩, h4, h5⟩ := h
    rw [(by omega : a1 = b1), h2, h3, (by omega : a4 = b4), (by omega : a5 = b5)]) h
theorem l04Cand_call (S : Nat) (nl : Bool) (vs : List Vt) (a : Nat) (h1 : S ≤ 5) (ha : a < S) : CallOk Tryz.prog 165 [prof (S : Int) nl vs, int (a : Int)] (bool true) := by
  have hw : mWithin [.v (.int .i64 (a : Int)), .v (.int .i64 0), .v (.int .i64 ((S : Int) - 1))] = some (.v (.bool true)) := by
    rw [mWithin_in, show inR 0 ((S : Int) - 1) (a : Int) = true from inR_iff.2 (by omega)]
  have hw1 : IntKind.i64.wrap ((S : Int) - 1) = (S : Int) - 1 := wrapI (by omega) (by omega)
  have hG : FnsOk Tryz.prog [(38, mWithin)] := (.cons l01In_ok .nil)
  refine callOk_awpZ [0] (ctx_ok eqOk hG) mixed (live := [true, true, true, false, true]) (dt := []) Tryz.func165 rfl (by kernel_rfl) (by kernel_rfl) fun w0 hlens => ?_
  clear hlens
  simp [Tryz.f165, List.range, List.range.loop, ints, intss, int, bool, row, frac, fracs, ← List.map_take, ← List.map_drop, andThen_n, freeze, frzA, frzAL, sets, prof, hw, hw1]
noncomputable def mCan : List AV → Option AV := mk (fun p => p.1 ≤ 5 ∧ p.2.2.2 < p.1) (fun (p : Nat × Bool × List Vt × Nat) => [prof (p.1 : Int) p.2.1 p.2.2.1, int (p.2.2.2 : Int)]) (fun _ => bool true)
theorem mCan_at (s : Nat) (nl : Bool) (vs : List Vt) (a : Nat) (h : s ≤ 5 ∧ a < s) : mCan [.agg [.v (.int .i64 (s : Int)), .sl nl 2 (vs.map vote)], .v (.int .i64 (a : Int))] = some (.v (.bool true)) :=
  mk_eq (enc := fun (p : Nat × Bool × List Vt × Nat) => [prof (p.1 : Int) p.2.1 p.2.2.1, int (p.2.2.2 : Int)]) (x := (s, nl, vs, a)) (fun _ _ _ => rfl) h
theorem can_ok : FnOk Tryz.prog 165 mCan := by
  exact mk_ok fun ⟨S, nl, vs, a⟩ h => l04Cand_call S nl vs a h.1 h.2
theorem marginOf_ok : FnOk Tryz.prog 156 mMgS := by
  refine mk_ok fun ⟨S, nl, vs, a, b⟩ ⟨hp, ha, hb⟩ => ?_
  simp only at hp ha hb
  obtain ⟨h1, h2, h3⟩ := prof_facts hp
  have hpp := mProf_at (S : Int) nl vs
  rw [hp] at hpp
  have c1 := mCan_at S nl vs a ⟨by omega, ha⟩
  have c2 := mCan_at S nl vs b ⟨by omega, hb⟩
  have m1 := mPair_at (S : Int) nl vs (a : Int) (b : Int) hp
  have m2 := mPair_at (S : Int) nl vs (b : Int) (a : Int) hp
  have b1 := prT_bd hp (a : Int) (b : Int)
  have b2 := prT_bd hp (b : Int) (a : Int)
  have hw : IntKind.i64.wrap (prT vs a b - prT vs b a) = mgT vs a b := by unfold mgT; exact wrapI (by omega) (by omega)
  have hG : FnsOk Tryz.prog [(16, mProf), (165, mCan), (101, mPair)] := (.cons specProf_ok (.cons can_ok (.cons l04Pair_ok .nil)))
  refine callOk_awpZ [0] (ctx_ok eqOk hG) mixed (live := [true, true, true, true, false, false, true, false, false, false, false, false, false, false, false, false, false, false, false, false, false, true]) (dt := [(3, ⟨[], [], []⟩)]) Tryz.func156 rfl (by kernel_rfl) (by kernel_rfl) fun w0 hlens => ?_
  clear hlens
  simp [Tryz.f156, List.range, List.range.loop, ints, intss, int, bool, row, frac, fracs, ← List.map_take, ← List.map_drop, andThen_n, freeze, frzA, frzAL, sets, prof, hpp, c1, c2, m1, m2, hw]
noncomputable def mL8p : List AV → Option AV := mk (fun p => profB (p.1 : Int) p.2.2 = true) (fun (p : PrN) => [prof (p.1 : Int) p.2.1 p.2.2]) (fun p => .sl false 1 ((pcT p.2.2 p.1).map pcA))
theorem mL8p_at (s : Nat) (nl : Bool) (vs : List Vt) (h : profB (s : Int) vs = true) : mL8p [.agg [.v (.int .i64 (s : Int)), .sl nl 2 (vs.map vote)]] = some (.sl false 1 ((pcT vs s).map pcA)) :=
  mk_eq (enc := fun (p : PrN) => [prof (p.1 : Int) p.2.1 p.2.2]) (x := (s, nl, vs)) (fun x y h => by rw [PrN_inj h]) h
set_option maxRecDepth 8000 in
set_option maxHeartbeats 8000000 in
theorem l08Pairs_ok : FnFrz Tryz.prog 139 true mL8p := by
  refine mk_frz fun ⟨S, nl, vs⟩ hp => ?_
  simp only at hp
  obtain ⟨h1, h2, h3⟩ := prof_facts hp
  have hbt := fun a b => mBeats_at (S : Int) nl vs a b hp
  have hmg := fun a b (h : a < S ∧ b < S) => mMgS_at S nl vs a b ⟨hp, h⟩
  have hP : isort (cmE vs) (pcAt vs S S 0) = pcT vs S := rfl
  rw [← hP]
  have hG : FnsOk Tryz.prog [(103, mBeats), (156, mMgS)] := (.cons l06Beats_ok (.cons marginOf_ok .nil))
  refine frzOk_of_tr (C := _) (ctx_ok eqOk hG) (dt := [(10, ⟨[], [], []⟩)]) Tryz.func139 rfl (by kernel_rfl) (by kernel_rfl) fun A w0 => ?_
  refine tr_seq (tr_awp (live := [true, true, true, true, true, true, true, true, false, false, false, false, true, false, false, false, false, false, true, false, false, false, false, false, false, true, false, false, false, false, false, false, false, false, false, false, false, false, false, false, false, false, false, false, false, false, false, false, false, false, true]) (ctx_ok eqOk hG) mixed _ _ _ ?_)
  simp [Tryz.f139, List.range, List.range.loop, ints, intss, int, bool, row, frac, fracs, ← List.map_take, ← List.map_drop, andThen_n, prof]
  refine Tr.pre ?_ (le_freeze [0])
  refine tr_awp (live := [true, true, true, true, true, true, true, true, false, false, false, false, true, false, false, false, false, false, true, false, false, false, false, false, false, true, false, false, false, false, false, false, false, false, false, false, false, false, false, false, false, false, false, false, false, false, false, false, false, false, true]) (ctx_ok eqOk hG) mixed _ _ _ ?_
  have z0 : isort (cmE vs) (pcAt vs S 0 0) = [] := by rw [pcAt_zero]; rfl
  simp [List.range, List.range.loop, ints, intss, int, bool, row, frac, fracs, ← List.map_take, ← List.map_drop, freeze, frzA, frzAL, sets, prof]
  refine awp_rangeY [0] (live := [true, true, true, true, true, true, true, true, false, false, false, false, true, false, false, false, false, false, true, false, false, false, false, false, false, true, false, false, false, false, false, false, false, false, false, false, false, false, false, false, false, false, false, false, false, false, false, false, false, false, true]) (ctx_ok eqOk hG) mixed [false, true, false, true, true] (S) (fun a => True) (fun a => ⟨[.junk, .fp (prof (S : Int) nl vs) 0, .junk, .sl false 1 ((isort (cmE vs) (pcAt vs S a 0)).map pcA), int a, .junk, .junk, .junk, .junk, .junk, .junk, .junk, .junk, .junk, .junk, .junk, .junk, .junk, .junk, .junk, .junk, .junk, .junk, .junk, .junk, .junk, .junk, .junk, .junk, .junk, .junk, .junk, .junk, .junk, .junk, .junk, .junk, .junk, .junk, .junk, .junk, .junk, .junk, .junk, .junk, .junk, .junk, .junk, .junk, .junk, .junk, .junk, .junk, .junk, .junk, .junk, .junk, .junk, .junk, .junk, .junk, .junk, .junk, .junk, .junk, .junk, .junk, .junk, .junk, .junk], []⟩) ?_ (by simp [sub, slotsLe, clean, keep, refsL, refs, once, place, renL, ren, List.replicate, int, bool, prof, z0, freeze, frzA, frzAL, sets, res, getAt, viewEs]) ?_ ?_ ?_
  · omega
  · trivial
  · intro a ha _ hwa
    have haI : (a : Int) < (S : Int) := by omega
    have hnx := pcAt_next (vs := vs) (s := S) (a := a)
    simp [List.range, List.range.loop, ints, intss, int, bool, row, frac, fracs, ← List.map_take, ← List.map_drop, prof, haI, ha]
    refine awp_rangeY [0] (live := [true, true, true, true, true, true, true, true, false, false, false, false, true, false, false, false, false, false, true, false, false, false, false, false, false, true, false, false, false, false, false, false, false, false, false, false, false, false, false, false, false, false, false, false, false, false, false, false, false, false, true]) (ctx_ok eqOk hG) mixed [false, true, false, true, true, true] (S) (fun b => True) (fun b => ⟨[.junk, .fp (prof (S : Int) nl vs) 0, .junk, .sl false 1 ((isort (cmE vs) (pcAt vs S a b)).map pcA), int a, int b, .junk, .junk, .junk, .junk, .junk, .junk, .junk, .junk, .junk, .junk, .junk, .junk, .junk, .junk, .junk, .junk, .junk, .junk, .junk, .junk, .junk, .junk, .junk, .junk, .junk, .junk, .junk, .junk, .junk, .junk, .junk, .junk, .junk, .junk, .junk, .junk, .junk, .junk, .junk, .junk, .junk, .junk, .junk, .junk, .junk, .junk, .junk, .junk, .junk, .junk, .junk, .junk, .junk, .junk, .junk, .junk, .junk, .junk, .junk, .junk, .junk, .junk, .junk, .junk], []⟩) ?_ (by simp [sub, slotsLe, clean, keep, refsL, refs, once, place, renL, ren, List.replicate, int, bool, prof, freeze, frzA, frzAL, sets, res, getAt, viewEs]) ?_ ?_ ?_
    · omega
    · trivial
    · intro b hb _ hwb
      have hbI : (b : Int) < (S : Int) := by omega
      have hz := hbt a b
      cases hc : btB vs a b with
      | false =>
        rw [hc] at hz
        have hB := pcAt_no (s := S) hc
        simp [List.range, List.range.loop, ints, intss, int, bool, row, frac, fracs, ← List.map_take, ← List.map_drop, prof, haI, ha, hb, hbI, hz, hwb, hB, freeze, frzA, frzAL, sets]
      | true =>
        rw [hc] at hz
        have hB := pcAt_yes (s := S) hc
        rw [hB, isort_snoc]
        have hll := pcAt_len (vs := vs) (s := S) (a := a) (b := b) (by omega) (by omega) (by omega)
        have hmo : ∀ y ∈ isort (cmE vs) (pcAt vs S a b), ∃ i j : Nat, y = (i : Int) * 8 + j ∧ i < S ∧ j < S := fun y hy => pcAt_mem (by omega) (.inr ⟨ha, by omega⟩) (isort_mem.1 hy)
        have hst : (isort (cmE vs) (pcAt vs S a b)).Pairwise (fun x y => mgE vs y ≤ mgE vs x) := isort_sorted (c := cmE vs) (le := fun x y => mgE vs y ≤ mgE vs x) (D := fun _ => True) (fun x y _ _ => by unfold cmE; omega) (fun x y z _ _ _ h h' => Int.le_trans h' h) (fun x y _ _ h => by omega) _ (fun _ _ => trivial)
        have hspl := fun j h1 h2 h3 => ins_split (c := cmE vs) (le := fun x y => mgE vs y ≤ mgE vs x) (D := fun _ => True) (fun x y _ _ => by unfold cmE; omega) (fun x y z _ _ _ h h' => Int.le_trans h' h) (ys := isort (cmE vs) (pcAt vs S a b)) (x := (a : Int) * 8 + b) (k := j) (fun _ _ => trivial) trivial hst h1 h2 h3
        have hol := isort_len (c := cmE vs) (pcAt vs S a b)
        rw [← hol] at hll
        generalize isort (cmE vs) (pcAt vs S a b) = out at *
        have hmx : mgE vs ((a : Int) * 8 + b) = mgT vs a b := by unfold mgE; rw [(pc_div (i := a) (j := b) (by omega)).1, (pc_div (i := a) (j := b) (by omega)).2]
        have epx := pcA_pair (i := a) (j := b) (by omega)
        have hm2 := hmg a b ⟨ha, hb⟩
        have hfl : ∀ x : Int, flat [pcA x] = true := fun _ => rfl
        have hc1 : ∀ x : Int, (pcA x).cells = [pcA x] := fun _ => rfl
        have hc2 : ∀ (x : Value), (AV.v x).cells = [.v x] := fun _ => rfl
        have hc3 : ∀ (nl : Bool) (sz : Nat) (es : List AV), (AV.sl nl sz es).cells = [.sl nl sz es] := fun _ _ _ => rfl
        simp only [hmx] at hspl
        simp [List.range, List.range.loop, ints, intss, int, bool, row, frac, fracs, ← List.map_take, ← List.map_drop, prof, haI, ha, hb, hbI, hz]
        refine awp_loop_of (live := [true, true, true, true, true, true, true, true, false, false, false, false, true, false, false, false, false, false, true, false, false, false, false, false, false, true, false, false, false, false, false, false, false, false, false, false, false, false, false, false, false, false, false, false, false, false, false, false, false, false, true]) (ctx_ok eqOk hG) mixed [false, true, false, true, true, true, true] (α := {j : Nat // j ≤ out.length ∧ ∀ i (h : i < out.length), i < j → mgT vs a b ≤ mgE vs out[i]}) (fun j => ⟨[.junk, .fp (prof (S : Int) nl vs) 0, .junk, .sl false 1 (out.map pcA), int a, int b, int (j.1 : Int), .junk, .junk, .junk, .junk, .junk, .junk, .junk, .junk, .junk, .junk, .junk, .junk, .junk, .junk, .junk, .junk, .junk, .junk, .junk, .junk, .junk, .junk, .junk, .junk, .junk, .junk, .junk, .junk, .junk, .junk, .junk, .junk, .junk, .junk, .junk, .junk, .junk, .junk, .junk, .junk, .junk, .junk, .junk, .junk, .junk, .junk, .junk, .junk, .junk, .junk, .junk, .junk, .junk, .junk, .junk, .junk, .junk, .junk, .junk, .junk, .junk, .junk, .junk], []⟩) (fun j => out.length - j.1) ⟨0, Nat.zero_le _, fun i _ h => by omega⟩ (by simp [sub, slotsLe, clean, keep, refsL, refs, once, place, renL, ren, List.replicate, int, bool, prof]) ?_
        rintro ⟨j, hj, hjl⟩
        by_cases hjo : j < out.length
        · obtain ⟨i, q, hi, hiS, hqS⟩ := hmo _ (List.getElem_mem hjo)
          have hjI : (j : Int) < (out.length : Int) := by omega
          have epi := pcA_pair (i := i) (j := q) (by omega)
          have hm1 := hmg i q ⟨hiS, hqS⟩
          have hmi : mgE vs out[j] = mgT vs i q := by unfold mgE; rw [hi, (pc_div (i := i) (j := q) (by omega)).1, (pc_div (i := i) (j := q) (by omega)).2]
          by_cases ht : mgT vs a b ≤ mgT vs i q
          · have hwj : IntKind.i64.wrap ((j : Int) + 1) = (j : Int) + 1 := wrapI (by omega) (by omega)
            simp [List.range, List.range.loop, ints, intss, int, bool, row, frac, fracs, ← List.map_take, ← List.map_drop, prof, hjo, hjI, hi, epi, hm1, hm2, ht, hwj]
            refine ⟨⟨j + 1, by omega, fun i' hi' hlt => ?_⟩, by simp [sub, slotsLe, clean, keep, refsL, refs, once, place, renL, ren, List.replicate, int, bool, prof], by simp; omega⟩
            by_cases e : i' = j
            · subst e; rw [hmi]; exact ht
            · exact hjl i' hi' (by omega)
          · have hsp := hspl j hj hjl (.inr ⟨hjo, fun h => ht (by rwa [hmi] at h)⟩)
            have hmm : (out.take j).map pcA ++ .sl false 1 [.v (.int .i64 (a : Int)), .v (.int .i64 (b : Int))] :: (out.drop j).map pcA = (ins (cmE vs) out ((a : Int) * 8 + b)).map pcA := by rw [hsp, ← epx]; simp
            have e1 : j * 24 ≤ 140737488355328 ∧ j ≤ 4611686018427387904 ∧ (j + 1) * 24 ≤ 140737488355328 ∧ j + 1 ≤ 4611686018427387904 ∧ (j + 1 + (out.length - j)) * 24 ≤ 140737488355328 ∧ j + 1 + (out.length - j) ≤ 4611686018427387904 ∧ j + (out.length - j) ≤ out.length := by omega
            have e2 : j + 1 + (out.length - j) = out.length + 1 := by omega
            have e3 : min j out.length = j := by omega
            have e4 : (out.drop j).take (out.length - j) = out.drop j := List.take_of_length_le (by simp)
            have e6 : out.length ≤ 4611686018427387903 ∧ (out.length + 1) * 24 ≤ 140737488355328 := by omega
            have e5 : (ins (cmE vs) out ((a : Int) * 8 + b)).length = out.length + 1 := insFrom_len
            have e8 : List.map pcA ((ins (cmE vs) out ((a : Int) * 8 + b)).take (out.length + 1)) = (ins (cmE vs) out ((a : Int) * 8 + b)).map pcA := by rw [List.take_of_length_le (by omega)]
            simp [List.range, List.range.loop, ints, intss, int, bool, row, frac, fracs, ← List.map_take, ← List.map_drop, prof, hjo, hjI, hj, hi, epi, hm1, hm2, ht, hwb, e1, e2, e3, e4, e5, e6, hmm, -AV.cells, hfl, hc1, hc2, hc3, freeze, frzA, frzAL, sets, e8]
        · obtain rfl : j = out.length := by omega
          have hsp := hspl out.length (Nat.le_refl _) hjl (.inl rfl)
          have e5 : (ins (cmE vs) out ((a : Int) * 8 + b)).length = out.length + 1 := insFrom_len
          have e6 : out.length ≤ 4611686018427387904 ∧ out.length ≤ 4611686018427387903 ∧ (out.length + 1) * 24 ≤ 140737488355328 ∧ out.length * 24 ≤ 140737488355328 := by omega
          have e7 : out.map pcA ++ [.sl false 1 [.v (.int .i64 (a : Int)), .v (.int .i64 (b : Int))]] = (ins (cmE vs) out ((a : Int) * 8 + b)).map pcA := by rw [hsp, ← epx]; simp
          have e8 : List.map pcA ((ins (cmE vs) out ((a : Int) * 8 + b)).take (out.length + 1)) = (ins (cmE vs) out ((a : Int) * 8 + b)).map pcA := by rw [List.take_of_length_le (by omega)]
          simp [List.range, List.range.loop, ints, intss, int, bool, row, frac, fracs, ← List.map_take, ← List.map_drop, prof, hwb, e5, e6, e7, -AV.cells, hfl, hc1, hc2, hc3, freeze, frzA, frzAL, sets, e8]
    · intro _
      rw [hnx]
      simp [List.range, List.range.loop, ints, intss, int, bool, row, frac, fracs, ← List.map_take, ← List.map_drop, prof, hwa, freeze, frzA, frzAL, sets]
  · intro _
    simp [List.range, List.range.loop, ints, intss, int, bool, row, frac, fracs, ← List.map_take, ← List.map_drop, prof]
end Go.Proofs.YtigepnpiofcooaaGreat.Ax
namespace Go.Proofs.YtigepnpiofcooaaGreat.Ax
open Go Go.RowKit
set_option linter.unusedSimpArgs false
theorem nodup_leP : ∀ {L M : List Int}, L.Nodup → (∀ x ∈ L, x ∈ M) → L.length ≤ M.length
  | [], _, _, _ => Nat.zero_le _
  | a :: L, M, h, hs => by
    have ha : a ∈ M := hs a (by simp)
    have h1 := List.nodup_cons.1 h
    have := nodup_leP (L := L) (M := M.erase a) h1.2 fun x hx => by
      have hxa : x ≠ a := fun e => h1.1 (e ▸ hx)
      exact (List.mem_erase_of_ne hxa).2 (hs x (by simp [hx]))
    rw [List.length_erase_of_mem ha] at this
    have hp : 0 < M.length := List.length_pos_of_mem ha
    simp; omega
def bfT (K : List Int) (v : Int) (sn : List Int) : Nat → List Int
  | 0 => sn
  | i + 1 => if at0 K i / 8 = v ∧ at0 K i % 8 ∉ bfT K v sn i then bfT K v sn i ++ [at0 K i % 8] else bfT K v sn i
structure SnI (K : List Int) (a : Int) (sn : List Int) : Prop where
  nd : sn.Nodup
  bd : ∀ x ∈ sn, (0 ≤ x ∧ x < 5) ∧ Rch K a x
theorem SnI.len {K : List Int} {a : Int} {sn : List Int} (h : SnI K a sn) : sn.length ≤ 5 :=
  nodup_leP (M := [0, 1, 2, 3, 4]) h.nd fun x hx => by
    have := (h.bd x hx).1
    simp; omega
theorem bfT_pre {K : List Int} {v : Int} {sn : List Int} : ∀ {i : Nat}, ∃ r, bfT K v sn i = sn ++ r
  | 0 => ⟨[], by simp [bfT]⟩
  | i + 1 => by
    obtain ⟨r, hr⟩ := bfT_pre (K := K) (v := v) (sn := sn) (i := i)
    unfold bfT
    split
    · exact ⟨r ++ [at0 K i % 8], by rw [hr]; simp⟩
    · exact ⟨r, hr⟩
theorem bfT_in {S : Nat} {K : List Int} {a v : Int} {sn : List Int} (hK : prsB S K) (h : SnI K a sn) (hv : v ∈ sn) : ∀ {i : Nat}, i ≤ K.length → SnI K a (bfT K v sn i)
  | 0, _ => h
  | i + 1, hi => by
    have ih := bfT_in hK h hv (i := i) (by omega)
    unfold bfT
    split
    · rename_i hc
      obtain ⟨h1, h2⟩ := hc
      have hm : at0 K i ∈ K := by rw [at0_eq (by omega)]; exact List.getElem_mem _
      obtain ⟨p, q, e1, e2, e3, e4⟩ := hK _ hm
      refine ⟨?_, fun x hx => ?_⟩
      · rw [List.nodup_append]
        refine ⟨ih.nd, by simp, fun x hx y hy => ?_⟩
        rw [List.mem_singleton] at hy
        subst hy
        exact fun e => h2 (e ▸ hx)
      · rcases List.mem_append.1 hx with hx | hx
        · exact ih.bd x hx
        · rw [List.mem_singleton] at hx
          subst hx
          refine ⟨by omega, (h.bd v hv).2.trans ?_⟩
          rw [← h1]
          exact .st hm (.rf _)
    · exact ih
theorem bfT_cl {K : List Int} {v : Int} {sn : List Int} : ∀ {i j : Nat}, j < i → at0 K j / 8 = v → at0 K j % 8 ∈ bfT K v sn i
  | 0, j, h, _ => by omega
  | i + 1, j, h, hv => by
    unfold bfT
    by_cases e : j = i
    · subst e
      split
      · simp
      · rename_i hc
        apply Classical.byContradiction
        exact fun h => hc ⟨hv, h⟩
    · have ih := bfT_cl (K := K) (v := v) (sn := sn) (i := i) (j := j) (by omega) hv
      split
      · exact List.mem_append_left _ ih
      · exact ih
structure SnS (K : List Int) (a b : Int) (sn : List Int) (at' : Nat) : Prop where
  in' : SnI K a sn
  le : at' ≤ sn.length
  own : a ∈ sn
  dn : ∀ j, j < at' → at0 sn j ≠ b ∧ ∀ e ∈ K, e / 8 = at0 sn j → e % 8 ∈ sn
theorem SnS.zero {K : List Int} {a b : Int} (h0 : 0 ≤ a) (h5 : a < 5) : SnS K a b [a] 0 :=
  ⟨⟨by simp, fun x hx => by rw [List.mem_singleton] at hx; subst hx; exact ⟨⟨h0, h5⟩, .rf _⟩⟩, by simp, by simp, fun j hj => by omega⟩
theorem SnS.hit {K : List Int} {a b : Int} {sn : List Int} {k : Nat} (h : SnS K a b sn k) (hk : k < sn.length) (hb : sn[k] = b) : rcB K a b = true :=
  rcB_iff.2 (by rw [← hb]; exact (h.in'.bd _ (List.getElem_mem hk)).2)
theorem SnS.fin {K : List Int} {a b : Int} {sn : List Int} (h : SnS K a b sn sn.length) : rcB K a b = false := by
  have hno : b ∉ sn := fun hb => by
    obtain ⟨j, hj, e⟩ := List.getElem_of_mem hb
    exact (h.dn j hj).1 (by rw [at0_eq hj]; exact e)
  have hcl : ∀ x y, Rch K x y → x ∈ sn → y ∈ sn := by
    intro x y hr
    induction hr with
    | rf => exact fun h => h
    | st he _ ih =>
      intro hx
      obtain ⟨j, hj, e⟩ := List.getElem_of_mem hx
      exact ih ((h.dn j hj).2 _ he (by rw [at0_eq hj]; exact e.symm))
  cases hc : rcB K a b with
  | false => rfl
  | true => exact (hno (hcl a b (rcB_iff.1 hc) h.own)).elim
theorem SnS.next {S : Nat} {K : List Int} {a b : Int} {sn : List Int} {k : Nat} (hK : prsB S K) (h : SnS K a b sn k) (hk : k < sn.length) (hb : sn[k] ≠ b) : SnS K a b (bfT K sn[k] sn K.length) (k + 1) := by
  have h1 := bfT_in hK h.in' (List.getElem_mem hk) (Nat.le_refl _)
  have h2 := fun j => bfT_cl (K := K) (v := sn[k]) (sn := sn) (i := K.length) (j := j)
  obtain ⟨r, hr⟩ := bfT_pre (K := K) (v := sn[k]) (sn := sn) (i := K.length)
  refine ⟨h1, by rw [hr]; simp; omega, by rw [hr]; exact List.mem_append_left _ h.own, fun j hj => ?_⟩
  have ej : at0 (bfT K sn[k] sn K.length) j = at0 sn j := by
    rw [hr, at0_eq (by simp; omega), at0_eq (by omega), List.getElem_append_left (by omega)]
  rw [ej]
  by_cases e : j = k
  · subst e
    rw [at0_eq hk]
    refine ⟨hb, fun g hg hv => ?_⟩
    obtain ⟨i, hi, e⟩ := List.getElem_of_mem hg
    have := h2 i hi (by rw [at0_eq hi, e]; exact hv)
    rwa [at0_eq hi, e] at this
  · obtain ⟨d1, d2⟩ := h.dn j (by omega)
    exact ⟨d1, fun g hg hv => by rw [hr]; exact List.mem_append_left _ (d2 g hg hv)⟩
noncomputable def mWay : List AV → Option AV := mk (fun p => prsB 5 p.2.1 ∧ p.2.1.length ≤ 30 ∧ 0 ≤ p.2.2.1 ∧ p.2.2.1 < 5) (fun (p : Bool × List Int × Int × Int) => [.sl p.1 1 (p.2.1.map pcA), int p.2.2.1, int p.2.2.2]) (fun p => .v (.bool (rcB p.2.1 p.2.2.1 p.2.2.2)))
theorem mWay_at (nk : Bool) (K : List Int) (a b : Int) (h : prsB 5 K ∧ K.length ≤ 30 ∧ 0 ≤ a ∧ a < 5) : mWay [.sl nk 1 (K.map pcA), .v (.int .i64 a), .v (.int .i64 b)] = some (.v (.bool (rcB K a b))) :=
  mk_eq (enc := fun (p : Bool × List Int × Int × Int) => [.sl p.1 1 (p.2.1.map pcA), int p.2.2.1, int p.2.2.2]) (x := (nk, K, a, b)) (by
    rintro ⟨x1, x2, x3, x4⟩ ⟨y1, y2, y3, y4⟩ h
    simp [int, pcA_map_inj] at h
    obtain ⟨⟨_, h1⟩, h2, h3⟩ := h
    simp only
    rw [h1, h2, h3]) h
set_option maxHeartbeats 4000000 in
theorem l08Way_ok : FnOk Tryz.prog 140 mWay := by
  refine mk_ok fun ⟨nk, K, a, b⟩ ⟨hK, hl, h0, h5⟩ => ?_
  simp only at hK hl h0 h5
  have hG : FnsOk Tryz.prog [(141, mPos)] := (.cons placeOf_ok .nil)
  refine callOk_awp (ctx_ok eqOk hG) mixed (live := [true, true, true, false, false, false, true, true, true, false, true, false, false, false, false, false, true, false, false, false, false, false, false, false, true, true, true, true, true, false, false, false, false, false, false, false, false, false, false, false, false, false, false, false, false, false, true]) (dt := [(10, ⟨[], [], []⟩)]) Tryz.func140 rfl (by kernel_rfl) (by kernel_rfl) fun w0 hlens => ?_
  clear hlens
  simp [Tryz.f140, List.range, List.range.loop, ints, intss, int, bool, row, frac, fracs, ← List.map_take, ← List.map_drop]
  refine awp_loop_of (live := [true, true, true, false, false, false, true, true, true, false, true, false, false, false, false, false, true, false, false, false, false, false, false, false, true, true, true, true, true, false, false, false, false, false, false, false, false, false, false, false, false, false, false, false, false, false, true]) (ctx_ok eqOk hG) mixed [true, false, true, false, false, false, false, true, true] (α := {p : List Int × Nat // SnS K a b p.1 p.2}) (fun p => ⟨[.sl nk 1 (K.map pcA), .junk, int b, .junk, .junk, .junk, .junk, .ref 0 [] 0 p.1.1.length, int (p.1.2 : Int), .junk, .junk, .junk, .junk, .junk, .junk, .junk, .junk, .junk, .junk, .junk, .junk, .junk, .junk, .junk, .junk, .junk, .junk, .junk, .junk, .junk, .junk, .junk, .junk, .junk, .junk, .junk, .junk, .junk, .junk, .junk, .junk, .junk, .junk, .junk, .junk, .junk, .junk, .junk, .junk, .junk, .junk, .junk, .junk, .junk], [⟨true, .sl false 1 (p.1.1.map int)⟩]⟩) (fun p => 5 - p.1.2) ⟨([a], 0), SnS.zero h0 h5⟩ (by simp [sub, slotsLe, clean, keep, refsL, refs, once, place, renL, ren, List.replicate, int, bool]) ?_
  rintro ⟨⟨sn, k⟩, h⟩
  simp only at h
  have hle := h.in'.len
  have hkl := h.le
  have hst : sn.take sn.length = sn := List.take_length
  by_cases hk : k < sn.length
  · have hkI : (k : Int) < (sn.length : Int) := by omega
    by_cases hb : sn[k] = b
    · have hr := h.hit hk hb
      simp [List.range, List.range.loop, ints, intss, int, bool, row, frac, fracs, ← List.map_take, ← List.map_drop, hk, hkI, hb, hr]
    · have hnx := h.next hK hk hb
      have hin := fun i => bfT_in hK h.in' (List.getElem_mem hk) (i := i)
      obtain ⟨v, hv0⟩ : ∃ v, sn[k] = v := ⟨_, rfl⟩
      rw [hv0] at hnx hb
      simp only [hv0] at hin
      have hpre := fun i => bfT_pre (K := K) (v := v) (sn := sn) (i := i)
      have hs : ∀ i, bfT K v sn (i + 1) = if at0 K i / 8 = v ∧ at0 K i % 8 ∉ bfT K v sn i then bfT K v sn i ++ [at0 K i % 8] else bfT K v sn i := fun _ => rfl
      have zb : bfT K v sn 0 = sn := rfl
      simp [List.range, List.range.loop, ints, intss, int, bool, row, frac, fracs, ← List.map_take, ← List.map_drop, hk, hkI, hb, hv0]
      refine awp_range (live := [true, true, true, false, false, false, true, true, true, false, true, false, false, false, false, false, true, false, false, false, false, false, false, false, true, true, true, true, true, false, false, false, false, false, false, false, false, false, false, false, false, false, false, false, false, false, true]) (ctx_ok eqOk hG) mixed [true, false, true, false, false, false, false, true, true, false, false, false, false, false, false, false, false, false, false, false, false, false, false, false, false, true, true, true] (K.length) (fun i => True) (fun i => ⟨[.sl nk 1 (K.map pcA), .junk, int b, .junk, .junk, .junk, .junk, .ref 0 [] 0 (bfT K v sn i).length, int (k : Int), .junk, .junk, .junk, .junk, .junk, .junk, .junk, .junk, .junk, .junk, .junk, .junk, .junk, .junk, .junk, .junk, .sl nk 1 (K.map pcA), int K.length, int i, .junk, .junk, .junk, .junk, .junk, .junk, .junk, .junk, .junk, .junk, .junk, .junk, .junk, .junk, .junk, .junk, .junk, .junk, .junk, .junk, .junk, .junk, .junk, .junk, .junk, .junk], [⟨true, .sl false 1 ((bfT K v sn i).map int)⟩]⟩) ?_ (by simp [sub, slotsLe, clean, keep, refsL, refs, once, place, renL, ren, List.replicate, int, bool, zb]) ?_ ?_ ?_
      · omega
      · trivial
      · intro i hi _ hwi
        have hiI : (i : Int) < (K.length : Int) := by omega
        have hln := (hin i (by omega)).len
        obtain ⟨r, hr⟩ := hpre i
        have hs := hs i
        rw [at0_eq hi] at hs
        generalize bfT K v sn (i + 1) = B at *
        have hkB : k < (bfT K v sn i).length := by rw [hr]; simp; omega
        have hgB : (bfT K v sn i)[k] = v := by simp only [hr]; rw [List.getElem_append_left hk, hv0]
        have hps := fun x => mPos_at false (bfT K v sn i) x
        have hBt : (bfT K v sn i).take (bfT K v sn i).length = bfT K v sn i := List.take_length
        generalize bfT K v sn i = A at *
        obtain ⟨e, he⟩ : ∃ e, K[i]'hi = e := ⟨_, rfl⟩
        rw [he] at hs
        have epc : pcA e = .sl false 1 [.v (.int .i64 (e / 8)), .v (.int .i64 (e % 8))] := rfl
        have hbb : (A.length + 1) * 8 ≤ 140737488355328 ∧ A.length + 1 ≤ 4611686018427387904 := by omega
        by_cases hv : e / 8 = v
        · have hpe := hps (e % 8)
          by_cases hm : e % 8 ∈ A
          · rw [if_neg (fun h => h.2 hm)] at hs
            subst hs
            have hpp : ¬ pos B (e % 8) < 0 := by have := pos_iff.2 hm; omega
            simp [List.range, List.range.loop, ints, intss, int, bool, row, frac, fracs, ← List.map_take, ← List.map_drop, hi, hiI, he, epc, hkB, hgB, hBt, hv, hpe, hpp, hwi]
          · rw [if_pos ⟨hv, hm⟩] at hs
            subst hs
            have hpp : pos A (e % 8) < 0 := by
              apply Classical.byContradiction
              exact fun h => hm (pos_iff.1 (by omega))
            simp [List.range, List.range.loop, ints, intss, int, bool, row, frac, fracs, ← List.map_take, ← List.map_drop, hi, hiI, he, epc, hkB, hgB, hBt, hv, hpe, hpp, hwi, hbb]
        · have hv2 : (e / 8 == v) = false := by simpa using hv
          rw [if_neg (fun h => hv h.1)] at hs
          subst hs
          simp [List.range, List.range.loop, ints, intss, int, bool, row, frac, fracs, ← List.map_take, ← List.map_drop, hi, hiI, he, epc, hkB, hgB, hBt, hv, hv2, hwi]
      · intro _
        have hwk : IntKind.i64.wrap ((k : Int) + 1) = (k : Int) + 1 := wrapI (by omega) (by omega)
        simp [List.range, List.range.loop, ints, intss, int, bool, row, frac, fracs, ← List.map_take, ← List.map_drop, hwk]
        refine ⟨⟨(bfT K v sn K.length, k + 1), hnx⟩, by simp [sub, slotsLe, clean, keep, refsL, refs, once, place, renL, ren, List.replicate, int, bool], by simp; omega⟩
  · obtain rfl : k = sn.length := by omega
    have hr := h.fin
    simp [List.range, List.range.loop, ints, intss, int, bool, row, frac, fracs, ← List.map_take, ← List.map_drop, hr]
end Go.Proofs.YtigepnpiofcooaaGreat.Ax
