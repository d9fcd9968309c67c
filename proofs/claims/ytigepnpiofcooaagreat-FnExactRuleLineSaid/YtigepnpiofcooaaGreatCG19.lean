/-
  Contracts: the pairs that are kept (the program). No condition.
-/
import Derived.Test.YtigepnpiofcooaaGreatCG18
namespace Go.Proofs.YtigepnpiofcooaaGreat.Ax
open Go Go.RowKit
set_option linter.unusedSimpArgs false
theorem locked1 (s : Int) (nl : Bool) (vs : List Vt) (hp : profB s vs = true) (x y : Int) : CallOk Tryz.prog 129 (pcA x :: pcA y :: [.fp (prof s nl vs) 0]) (.v (.int .i64 (cmE vs x y))) := by
  have h1 := mMarg_at s nl vs (x / 8) (x % 8) hp
  have h2 := mMarg_at s nl vs (y / 8) (y % 8) hp
  have b1 := prT_bd hp (x / 8) (x % 8)
  have b2 := prT_bd hp (x % 8) (x / 8)
  have b3 := prT_bd hp (y / 8) (y % 8)
  have b4 := prT_bd hp (y % 8) (y / 8)
  have hw : IntKind.i64.wrap (mgT vs (y / 8) (y % 8) - mgT vs (x / 8) (x % 8)) = mgT vs (y / 8) (y % 8) - mgT vs (x / 8) (x % 8) := by unfold mgT; exact wrapI (by omega) (by omega)
  have hG : FnsOk Tryz.prog [(68, mMarg)] := (.cons margin_ok .nil)
  refine callOk_awp (ctx_ok eqOk hG) mixed (live := [true, true, true, false, false, true]) (dt := [(1, ⟨[], [], []⟩)]) Tryz.func129 rfl (by kernel_rfl) (by kernel_rfl) fun w0 hlens => ?_
  clear hlens
  simp [Tryz.f129, List.range, List.range.loop, ints, intss, int, bool, row, frac, fracs, ← List.map_take, ← List.map_drop, prof, pcA, h1, h2, hw, cmE, mgE]
def lpA (t : Nat) : List Int → AV
  | [] => .sl true 1 []
  | _ :: l => .ref t [] 0 (l.length + 1)
def lpT (d : Bool) : List Int → List Tok
  | [] => []
  | x :: l => [⟨d, .sl false 1 (pcA x :: l.map pcA)⟩]
noncomputable def mLkP : List AV → Option AV := mk (fun p => profB (p.1 : Int) p.2.2 = true) (fun (p : PrN) => [prof (p.1 : Int) p.2.1 p.2.2]) (fun p => .sl (kpA p.2.2 p.1).isEmpty 1 ((kpA p.2.2 p.1).map pcA))
theorem mLkP_at (s : Nat) (nl : Bool) (vs : List Vt) (h : profB (s : Int) vs = true) : mLkP [.agg [.v (.int .i64 (s : Int)), .sl nl 2 (vs.map vote)]] = some (.sl (kpA vs s).isEmpty 1 ((kpA vs s).map pcA)) :=
  mk_eq (enc := fun (p : PrN) => [prof (p.1 : Int) p.2.1 p.2.2]) (x := (s, nl, vs)) (fun x y h => by rw [PrN_inj h]) h
set_option maxRecDepth 8000 in
set_option maxHeartbeats 8000000 in
theorem implLkP_ok : FnFrz Tryz.prog 85 true mLkP := by
  refine mk_frz fun ⟨S, nl, vs⟩ hp => ?_
  simp only at hp
  obtain ⟨h1, h2, h3⟩ := prof_facts hp
  have hpp := mProf_at (S : Int) nl vs
  rw [hp] at hpp
  have hbt := fun a b => mBeats_at (S : Int) nl vs a b hp
  have hP : isort (cmE vs) (pcAt vs S S 0) = pcT vs S := rfl
  have hPl := pcT_len (vs := vs) (s := S) (by omega)
  have hpl20 : (pcAt vs S S 0).length < 20 := by rw [← isort_len (c := cmE vs), hP]; exact hPl
  have hS := sortP_ok (g := 129) (pure_fp (a := prof (S : Int) nl vs) (j := 0) pure_nil) (cmE vs) (pcAt vs S S 0).isEmpty (pcAt vs S S 0) hpl20 (fun x _ y _ => locked1 (S : Int) nl vs hp x y)
  rw [hP] at hS
  have hi : FnMut Tryz.prog 128 (mkM (fun _ : Unit => True) (fun _ => [.sl (pcAt vs S S 0).isEmpty 1 ((pcAt vs S S 0).map pcA), .fn 129 [.fp (prof (S : Int) nl vs) 0]]) (fun _ => (0, .tup [], .sl (pcAt vs S S 0).isEmpty 1 ((pcT vs S).map pcA)))) := mkM_ok fun _ _ => hS
  have hat : mkM (fun _ : Unit => True) (fun _ => [.sl (pcAt vs S S 0).isEmpty 1 ((pcAt vs S S 0).map pcA), .fn 129 [.fp (prof (S : Int) nl vs) 0]]) (fun _ => (0, .tup [], .sl (pcAt vs S S 0).isEmpty 1 ((pcT vs S).map pcA))) [.sl (pcAt vs S S 0).isEmpty 1 ((pcAt vs S S 0).map pcA), .fn 129 [.fp (.agg [.v (.int .i64 (S : Int)), .sl nl 2 (vs.map vote)]) 0]] = some (0, .tup [], .sl (pcAt vs S S 0).isEmpty 1 ((pcT vs S).map pcA)) := mkM_eq (x := ()) (fun _ _ _ => rfl) trivial
  generalize mkM (fun _ : Unit => True) (fun _ => [.sl (pcAt vs S S 0).isEmpty 1 ((pcAt vs S S 0).map pcA), .fn 129 [.fp (prof (S : Int) nl vs) 0]]) (fun _ => (0, AV.tup [], .sl (pcAt vs S S 0).isEmpty 1 ((pcT vs S).map pcA))) = md at hi hat
  have hM : FnsMut Tryz.prog [(128, md)] := .cons hi .nil
  have hG : FnsOk Tryz.prog [(19, mProf), (73, mBeats), (130, mLds)] := (.cons implProf_ok (.cons beats_ok (.cons leads_ok .nil)))
  refine frzOk_of_tr (C := _) (ctxM_ok eqOk hG hM) (dt := [(19, ⟨[], [], []⟩)]) Tryz.func85 rfl (by kernel_rfl) (by kernel_rfl) fun A w0 => ?_
  refine tr_seq (tr_awp (live := [true, true, true, true, true, true, true, false, true, false, false, true, false, true, true, true, false, false, true, true, true, false, false, false, false, true, false, false, false, false, false, false, false, false, false, false, false, true, true, true, true, false, false, false, false, false, false, false, false, false, false, true]) (ctxM_ok eqOk hG hM) mixed _ _ _ ?_)
  simp [Tryz.f85, List.range, List.range.loop, ints, intss, int, bool, row, frac, fracs, ← List.map_take, ← List.map_drop, andThen_n, prof]
  refine Tr.pre ?_ (le_freeze [0])
  refine tr_awp (live := [true, true, true, true, true, true, true, false, true, false, false, true, false, true, true, true, false, false, true, true, true, false, false, false, false, true, false, false, false, false, false, false, false, false, false, false, false, true, true, true, true, false, false, false, false, false, false, false, false, false, false, true]) (ctxM_ok eqOk hG hM) mixed _ _ _ ?_
  have z0 := pcAt_zero (vs := vs) (s := S)
  simp [List.range, List.range.loop, ints, intss, int, bool, row, frac, fracs, ← List.map_take, ← List.map_drop, freeze, frzA, frzAL, sets, prof, hpp]
  refine awp_range (live := [true, true, true, true, true, true, true, false, true, false, false, true, false, true, true, true, false, false, true, true, true, false, false, false, false, true, false, false, false, false, false, false, false, false, false, false, false, true, true, true, true, false, false, false, false, false, false, false, false, false, false, true]) (ctxM_ok eqOk hG hM) mixed [false, true, false, true, false, false, false, false, false, false, false, false, false, true, true] (S) (fun a => True) (fun a => ⟨[.junk, .fp (prof (S : Int) nl vs) 0, .junk, lpA 0 (pcAt vs S a 0), .junk, .junk, .junk, .junk, .junk, .junk, .junk, .junk, .junk, int (S : Int), int a, .junk, .junk, .junk, .junk, .junk, .junk, .junk, .junk, .junk, .junk, .junk, .junk, .junk, .junk, .junk, .junk, .junk, .junk, .junk, .junk, .junk, .junk, .junk, .junk, .junk, .junk, .junk, .junk, .junk, .junk, .junk, .junk, .junk, .junk, .junk, .junk, .junk, .junk, .junk, .junk, .junk, .junk, .junk], lpT true (pcAt vs S a 0)⟩) ?_ (by simp [sub, slotsLe, clean, keep, refsL, refs, once, place, renL, ren, List.replicate, int, bool, prof, z0, lpA, lpT]) ?_ ?_ ?_
  · omega
  · trivial
  · intro a ha _ hwa
    have haI : (a : Int) < (S : Int) := by omega
    have hnx := pcAt_next (vs := vs) (s := S) (a := a)
    have zl := pcAt_len (vs := vs) (s := S) (a := a) (b := 0) (by omega) (by omega) (by omega)
    have hstep : ∀ (L : List Int), L = pcAt vs S a 0 → True := fun _ _ => trivial
    clear hstep
    cases h0 : pcAt vs S a 0 with
    | nil =>
      simp [List.range, List.range.loop, ints, intss, int, bool, row, frac, fracs, ← List.map_take, ← List.map_drop, prof, lpA, lpT, haI, ha]
      refine awp_range (live := [true, true, true, true, true, true, true, false, true, false, false, true, false, true, true, true, false, false, true, true, true, false, false, false, false, true, false, false, false, false, false, false, false, false, false, false, false, true, true, true, true, false, false, false, false, false, false, false, false, false, false, true]) (ctxM_ok eqOk hG hM) mixed [false, true, false, true, true, false, false, false, false, false, false, false, false, true, true, false, false, false, true, true] (S) (fun b => True) (fun b => ⟨[.junk, .fp (prof (S : Int) nl vs) 0, .junk, lpA 0 (pcAt vs S a b), int a, .junk, .junk, .junk, .junk, .junk, .junk, .junk, .junk, int (S : Int), int a, .junk, .junk, .junk, int (S : Int), int b, .junk, .junk, .junk, .junk, .junk, .junk, .junk, .junk, .junk, .junk, .junk, .junk, .junk, .junk, .junk, .junk, .junk, .junk, .junk, .junk, .junk, .junk, .junk, .junk, .junk, .junk, .junk, .junk, .junk, .junk, .junk, .junk, .junk, .junk, .junk, .junk, .junk, .junk], lpT true (pcAt vs S a b)⟩) ?_ (by simp [sub, slotsLe, clean, keep, refsL, refs, once, place, renL, ren, List.replicate, int, bool, prof, lpA, lpT, h0]) ?_ ?_ ?_
      · omega
      · trivial
      · intro b hb _ hwb
        have hbI : (b : Int) < (S : Int) := by omega
        have hz := hbt a b
        have hl := pcAt_len (vs := vs) (s := S) (a := a) (b := b) (by omega) (by omega) (by omega)
        have hy := pcAt_yes (vs := vs) (s := S) (a := a) (b := b)
        have hn := pcAt_no (vs := vs) (s := S) (a := a) (b := b)
        generalize pcAt vs S a (b + 1) = B at *
        generalize pcAt vs S a b = L at *
        have epc := pcA_pair (i := a) (j := b) (by omega)
        have hbb : (L.length + 1) * 24 ≤ 140737488355328 ∧ L.length + 1 ≤ 4611686018427387904 := by omega
        cases hc : btB vs a b with
        | true =>
          rw [hc] at hz
          have hB := hy hc
          subst hB
          cases L with
          | nil => simp [List.range, List.range.loop, ints, intss, int, bool, row, frac, fracs, ← List.map_take, ← List.map_drop, prof, lpA, lpT, haI, ha, hb, hbI, hz, hwb, epc]
          | cons o2 A2 =>
            simp only [List.length_cons] at hbb
            simp [List.range, List.range.loop, ints, intss, int, bool, row, frac, fracs, ← List.map_take, ← List.map_drop, prof, lpA, lpT, haI, ha, hb, hbI, hz, hwb, epc, hbb]
        | false =>
          rw [hc] at hz
          have hB := hn hc
          subst hB
          cases B with
          | nil => simp [List.range, List.range.loop, ints, intss, int, bool, row, frac, fracs, ← List.map_take, ← List.map_drop, prof, lpA, lpT, haI, ha, hb, hbI, hz, hwb]
          | cons o2 A2 => simp [List.range, List.range.loop, ints, intss, int, bool, row, frac, fracs, ← List.map_take, ← List.map_drop, prof, lpA, lpT, haI, ha, hb, hbI, hz, hwb]
      · intro _
        rw [hnx]
        generalize pcAt vs S (a + 1) 0 = L at *
        cases L with
        | nil => simp [List.range, List.range.loop, ints, intss, int, bool, row, frac, fracs, ← List.map_take, ← List.map_drop, prof, lpA, lpT, hwa]
        | cons o2 A2 => simp [List.range, List.range.loop, ints, intss, int, bool, row, frac, fracs, ← List.map_take, ← List.map_drop, prof, lpA, lpT, hwa]
    | cons o A =>
      simp [List.range, List.range.loop, ints, intss, int, bool, row, frac, fracs, ← List.map_take, ← List.map_drop, prof, lpA, lpT, haI, ha]
      refine awp_range (live := [true, true, true, true, true, true, true, false, true, false, false, true, false, true, true, true, false, false, true, true, true, false, false, false, false, true, false, false, false, false, false, false, false, false, false, false, false, true, true, true, true, false, false, false, false, false, false, false, false, false, false, true]) (ctxM_ok eqOk hG hM) mixed [false, true, false, true, true, false, false, false, false, false, false, false, false, true, true, false, false, false, true, true] (S) (fun b => True) (fun b => ⟨[.junk, .fp (prof (S : Int) nl vs) 0, .junk, lpA 0 (pcAt vs S a b), int a, .junk, .junk, .junk, .junk, .junk, .junk, .junk, .junk, int (S : Int), int a, .junk, .junk, .junk, int (S : Int), int b, .junk, .junk, .junk, .junk, .junk, .junk, .junk, .junk, .junk, .junk, .junk, .junk, .junk, .junk, .junk, .junk, .junk, .junk, .junk, .junk, .junk, .junk, .junk, .junk, .junk, .junk, .junk, .junk, .junk, .junk, .junk, .junk, .junk, .junk, .junk, .junk, .junk, .junk], lpT true (pcAt vs S a b)⟩) ?_ (by simp [sub, slotsLe, clean, keep, refsL, refs, once, place, renL, ren, List.replicate, int, bool, prof, lpA, lpT, h0]) ?_ ?_ ?_
      · omega
      · trivial
      · intro b hb _ hwb
        have hbI : (b : Int) < (S : Int) := by omega
        have hz := hbt a b
        have hl := pcAt_len (vs := vs) (s := S) (a := a) (b := b) (by omega) (by omega) (by omega)
        have hy := pcAt_yes (vs := vs) (s := S) (a := a) (b := b)
        have hn := pcAt_no (vs := vs) (s := S) (a := a) (b := b)
        generalize pcAt vs S a (b + 1) = B at *
        generalize pcAt vs S a b = L at *
        have epc := pcA_pair (i := a) (j := b) (by omega)
        have hbb : (L.length + 1) * 24 ≤ 140737488355328 ∧ L.length + 1 ≤ 4611686018427387904 := by omega
        cases hc : btB vs a b with
        | true =>
          rw [hc] at hz
          have hB := hy hc
          subst hB
          cases L with
          | nil => simp [List.range, List.range.loop, ints, intss, int, bool, row, frac, fracs, ← List.map_take, ← List.map_drop, prof, lpA, lpT, haI, ha, hb, hbI, hz, hwb, epc]
          | cons o2 A2 =>
            simp only [List.length_cons] at hbb
            simp [List.range, List.range.loop, ints, intss, int, bool, row, frac, fracs, ← List.map_take, ← List.map_drop, prof, lpA, lpT, haI, ha, hb, hbI, hz, hwb, epc, hbb]
        | false =>
          rw [hc] at hz
          have hB := hn hc
          subst hB
          cases B with
          | nil => simp [List.range, List.range.loop, ints, intss, int, bool, row, frac, fracs, ← List.map_take, ← List.map_drop, prof, lpA, lpT, haI, ha, hb, hbI, hz, hwb]
          | cons o2 A2 => simp [List.range, List.range.loop, ints, intss, int, bool, row, frac, fracs, ← List.map_take, ← List.map_drop, prof, lpA, lpT, haI, ha, hb, hbI, hz, hwb]
      · intro _
        rw [hnx]
        generalize pcAt vs S (a + 1) 0 = L at *
        cases L with
        | nil => simp [List.range, List.range.loop, ints, intss, int, bool, row, frac, fracs, ← List.map_take, ← List.map_drop, prof, lpA, lpT, hwa]
        | cons o2 A2 => simp [List.range, List.range.loop, ints, intss, int, bool, row, frac, fracs, ← List.map_take, ← List.map_drop, prof, lpA, lpT, hwa]
  · intro _
    have hem : (pcT vs S).isEmpty = (pcAt vs S S 0).isEmpty := by
      have := isort_len (c := cmE vs) (pcAt vs S S 0)
      rw [hP] at this
      cases h1 : pcT vs S <;> cases h2 : pcAt vs S S 0 <;> simp_all
    have hll := isort_len (c := cmE vs) (pcAt vs S S 0)
    rw [hP] at hll
    cases h0 : pcAt vs S S 0 with
    | nil =>
      rw [h0] at hat hem hll
      have hnil : pcT vs S = [] := List.length_eq_zero_iff.1 (by simpa using hll)
      rw [hnil] at hat
      simp at hat
      have hk : kpA vs S = [] := by unfold kpA; rw [hnil]; rfl
      rw [hk]
      simp [List.range, List.range.loop, ints, intss, int, bool, row, frac, fracs, ← List.map_take, ← List.map_drop, List.eraseIdx, prof, lpA, lpT, hat]
      refine awp_range (live := [true, true, true, true, true, true, true, false, true, false, false, true, false, true, true, true, false, false, true, true, true, false, false, false, false, true, false, false, false, false, false, false, false, false, false, false, false, true, true, true, true, false, false, false, false, false, false, false, false, false, false, true]) (ctxM_ok eqOk hG hM) mixed [false, false, false, false, false, false, true, false, false, false, false, false, false, false, false, false, false, false, false, false, false, false, false, false, false, false, false, false, false, false, false, false, false, false, false, false, false, true, true, true] (0) (fun i => True) (fun i => ⟨[.junk, .junk, .junk, .junk, .junk, .junk, .sl true 1 [], .junk, .junk, .junk, .junk, .junk, .junk, .junk, .junk, .junk, .junk, .junk, .junk, .junk, .junk, .junk, .junk, .junk, .junk, .junk, .junk, .junk, .junk, .junk, .junk, .junk, .junk, .junk, .junk, .junk, .junk, .sl true 1 [], int 0, int i, .junk, .junk, .junk, .junk, .junk, .junk, .junk, .junk, .junk, .junk, .junk, .junk, .junk, .junk, .junk, .junk, .junk, .junk], []⟩) ?_ (by simp [sub, slotsLe, clean, keep, refsL, refs, once, place, renL, ren, List.replicate, int, bool]) ?_ ?_ ?_
      · omega
      · trivial
      · intro i hi; omega
      · intro _
        simp [List.range, List.range.loop, ints, intss, int, bool, row, frac, fracs, ← List.map_take, ← List.map_drop]
    | cons o A =>
      rw [h0] at hat hem hll
      simp at hat
      have hPP : prsB S (pcT vs S) := pcT_prs (by omega)
      have hkp : kpA vs S = kpT (pcT vs S) (pcT vs S).length := rfl
      rw [hkp]
      generalize pcT vs S = P at *
      have hPA : P.length = A.length + 1 := by simpa using hll
      have zk : kpT P 0 = [] := rfl
      have htk : P.take (A.length + 1) = P := List.take_of_length_le (by omega)
      simp [List.range, List.range.loop, ints, intss, int, bool, row, frac, fracs, ← List.map_take, ← List.map_drop, List.eraseIdx, prof, lpA, lpT, hat, hPA]
      refine awp_rangeZ [0] (live := [true, true, true, true, true, true, true, false, true, false, false, true, false, true, true, true, false, false, true, true, true, false, false, false, false, true, false, false, false, false, false, false, false, false, false, false, false, true, true, true, true, false, false, false, false, false, false, false, false, false, false, true]) (ctxM_ok eqOk hG hM) mixed [false, false, false, false, false, false, true, false, false, false, false, false, false, false, false, false, false, false, false, false, false, false, false, false, false, false, false, false, false, false, false, false, false, false, false, false, false, true, true, true] (A.length + 1) (fun i => True) (fun i => ⟨[.junk, .junk, .junk, .junk, .junk, .junk, lpA 0 (kpT P i), .junk, .junk, .junk, .junk, .junk, .junk, .junk, .junk, .junk, .junk, .junk, .junk, .junk, .junk, .junk, .junk, .junk, .junk, .junk, .junk, .junk, .junk, .junk, .junk, .junk, .junk, .junk, .junk, .junk, .junk, .sl false 1 (P.map pcA), int ((A.length : Int) + 1), int i, .junk, .junk, .junk, .junk, .junk, .junk, .junk, .junk, .junk, .junk, .junk, .junk, .junk, .junk, .junk, .junk, .junk, .junk], lpT false (kpT P i)⟩) ?_ (by simp [sub, slotsLe, clean, keep, refsL, refs, once, place, renL, ren, List.replicate, int, bool, zk, lpA, lpT, freeze, frzA, frzAL, sets, res, getAt, viewEs, hPA, htk, ← List.map_take]) ?_ ?_ ?_
      · omega
      · trivial
      · intro i hi _ hwi
        have hiP : i < P.length := by omega
        have hiI : (i : Int) < (A.length : Int) + 1 := by omega
        have hiI2 : (i : Int) ≤ (A.length : Int) := by omega
        have hiN : i ≤ A.length := by omega
        have hac := kpT_acy (P := P) (i := i)
        obtain ⟨_, hkl⟩ := kpT_mem (P := P) (i := i) (by omega)
        have hld := fun nk => mLds_at nk (kpT P i) (P[i] % 8) (P[i] / 8) hac
        have hs : kpT P (i + 1) = if rcB (kpT P i) (at0 P i % 8) (at0 P i / 8) = true then kpT P i else kpT P i ++ [at0 P i] := rfl
        rw [at0_eq hiP] at hs
        generalize kpT P (i + 1) = K1 at *
        generalize kpT P i = K at *
        obtain ⟨e, he⟩ : ∃ e, P[i]'hiP = e := ⟨_, rfl⟩
        rw [he] at hs hld
        have epc : pcA e = .sl false 1 [.v (.int .i64 (e / 8)), .v (.int .i64 (e % 8))] := rfl
        have hbb : (K.length + 1) * 24 ≤ 140737488355328 ∧ K.length + 1 ≤ 4611686018427387904 := by omega
        cases hc : rcB K (e % 8) (e / 8) with
        | true =>
          rw [hc, if_pos rfl] at hs
          subst hs
          rw [hc] at hld
          cases K1 with
          | nil =>
            have hz := hld true
            simp only [List.map_nil] at hz
            simp [List.range, List.range.loop, ints, intss, int, bool, row, frac, fracs, ← List.map_take, ← List.map_drop, List.eraseIdx, lpA, lpT, hi, hiP, hiI, hiI2, hiN, hPA, he, epc, hz, hwi]
          | cons o2 A2 =>
            have hz := hld false
            simp only [List.map_cons] at hz
            simp [List.range, List.range.loop, ints, intss, int, bool, row, frac, fracs, ← List.map_take, ← List.map_drop, List.eraseIdx, lpA, lpT, hi, hiP, hiI, hiI2, hiN, hPA, he, epc, hz, hwi]
        | false =>
          rw [hc, if_neg (by simp)] at hs
          subst hs
          rw [hc] at hld
          cases K with
          | nil =>
            have hz := hld true
            simp only [List.map_nil] at hz
            simp [List.range, List.range.loop, ints, intss, int, bool, row, frac, fracs, ← List.map_take, ← List.map_drop, List.eraseIdx, lpA, lpT, hi, hiP, hiI, hiI2, hiN, hPA, he, epc, hz, hwi]
          | cons o2 A2 =>
            have hz := hld false
            simp only [List.map_cons] at hz
            simp only [List.length_cons] at hbb
            simp [List.range, List.range.loop, ints, intss, int, bool, row, frac, fracs, ← List.map_take, ← List.map_drop, List.eraseIdx, lpA, lpT, hi, hiP, hiI, hiI2, hiN, hPA, he, epc, hz, hwi, hbb]
      · intro _
        generalize kpT P (A.length + 1) = K at *
        cases K with
        | nil => simp [List.range, List.range.loop, ints, intss, int, bool, row, frac, fracs, ← List.map_take, ← List.map_drop, List.eraseIdx, lpA, lpT, hPA]
        | cons o2 A2 => simp [List.range, List.range.loop, ints, intss, int, bool, row, frac, fracs, ← List.map_take, ← List.map_drop, List.eraseIdx, lpA, lpT, hPA]
end Go.Proofs.YtigepnpiofcooaaGreat.Ax
namespace Go.Proofs.YtigepnpiofcooaaGreat.Ax
open Go Go.RowKit
set_option linter.unusedSimpArgs false
def frL (K left : List Int) (a : Int) : Bool := !(K.any fun e => decide (e % 8 = a) && decide (e / 8 ∈ left))
theorem frL_eq {K out : List Int} {S : Nat} (hp : prsB S K) {a : Nat} : frL K (lfO S out) (a : Int) = K.all fun e => decide (e % 8 ≠ (a : Int)) || decide (e / 8 ∈ out) := by
  have key : ∀ e ∈ K, (!(decide (e % 8 = (a : Int)) && decide (e / 8 ∈ lfO S out))) = (decide (e % 8 ≠ (a : Int)) || decide (e / 8 ∈ out)) := fun e he => by
    obtain ⟨i, j, h3, h4, h5, h6⟩ := hp e he
    have hi : e / 8 = (i : Int) := by omega
    have hm : e / 8 ∈ lfO S out ↔ ¬ e / 8 ∈ out := by
      rw [lfO_mem]
      constructor
      · rintro ⟨i', h1, _, h2⟩; rw [h1]; exact h2
      · intro h; exact ⟨i, hi, h4, by rw [← hi]; exact h⟩
    by_cases h1 : e % 8 = (a : Int) <;> by_cases h2 : e / 8 ∈ out <;> simp [h1, h2, hm]
  unfold frL
  rw [List.not_any_eq_all_not, Bool.eq_iff_iff, List.all_eq_true, List.all_eq_true]
  exact ⟨fun h e he => by rw [← key e he]; exact h e he, fun h e he => by rw [key e he]; exact h e he⟩
theorem pk_step {K : List Int} {S k : Nat} (hK : Acy K) (hp : prsB S K) (hk : k < S) : ∃ (i a : Nat), idxOf (frL K (lfO S (pkT K S k))) (lfO S (pkT K S k)) = (a : Int) ∧ (∃ h : a < (lfO S (pkT K S k)).length, (lfO S (pkT K S k))[a] = (i : Int)) ∧ pkT K S (k + 1) = pkT K S k ++ [(i : Int)] ∧
    (lfO S (pkT K S k)).take a ++ (lfO S (pkT K S k)).drop (a + 1) = lfO S (pkT K S (k + 1)) := by
  obtain ⟨h1, h2, h3, h4⟩ := pkT_facts hK hp (k := k) (by omega)
  obtain ⟨i, hi⟩ := h4 hk
  obtain ⟨g1, g2, g3⟩ := fsTo_get hi
  have e : pkT K S (k + 1) = pkT K S k ++ [(i : Int)] := by
    show pkT K S k ++ [(((fsTo (frE K (pkT K S k)) S).getD 0 : Nat) : Int)] = _
    rw [hi]; rfl
  generalize pkT K S k = out at *
  have hq : ∀ a : Nat, frE K out a = ((!decide ((a : Int) ∈ out)) && frL K (lfO S out) (a : Int)) := fun a => by rw [frL_eq hp]; rfl
  rw [hq, Bool.and_eq_true] at g2
  obtain ⟨f1, f2⟩ := first_sel (q := fun a => !decide ((a : Int) ∈ out)) (p := frL K (lfO S out)) g1 g2.1 g2.2 fun j hj hqj => by
    have := g3 j hj
    rw [hq, hqj] at this
    simpa using this
  change idxOf (frL K (lfO S out)) (lfO S out) = _ at f1
  change (lfO S out).getD _ 0 = _ at f2
  obtain ⟨r, hr⟩ := selTo_split (q := fun a => !decide ((a : Int) ∈ out)) g2.1 g1
  have hlt : (selTo (fun a => !decide ((a : Int) ∈ out)) i).length < (lfO S out).length := by
    show _ < (selTo (fun a => !decide ((a : Int) ∈ out)) S).length
    rw [hr]; simp
  have hget : (lfO S out)[(selTo (fun a => !decide ((a : Int) ∈ out)) i).length] = (i : Int) := by
    rw [← at0_eq hlt]; exact f2
  refine ⟨i, _, f1, ⟨hlt, hget⟩, e, ?_⟩
  rw [lfO_del hlt, at0_eq hlt, hget, e]
theorem pairsRk11 (left : List Int) (a e : Int) : CallOk Tryz.prog 90 (row (pcL e) :: [.fp (int a) 0, .fp (ints false left) 0]) (.v (.bool (decide (e % 8 = a) && decide (e / 8 ∈ left)))) := by
  have hh := mHas_at false left (e / 8)
  have e1 : decide (0 ≤ pos left (e / 8)) = decide (e / 8 ∈ left) := decide_eq_decide.2 pos_iff
  rw [e1] at hh
  have hG : FnsOk Tryz.prog [(91, mHas)] := (.cons slicesContains_ok .nil)
  refine callOk_awp (ctx_ok eqOk hG) mixed (live := [true, true, true, false, true]) (dt := [(1, ⟨[], [], []⟩)]) Tryz.func90 rfl (by kernel_rfl) (by kernel_rfl) fun w0 hlens => ?_
  clear hlens
  by_cases h : e % 8 = a
  · simp [Tryz.f90, List.range, List.range.loop, ints, intss, int, bool, row, frac, fracs, ← List.map_take, ← List.map_drop, pcL, h, hh]
  · have h2 : (e % 8 == a) = false := by simpa using h
    simp [Tryz.f90, List.range, List.range.loop, ints, intss, int, bool, row, frac, fracs, ← List.map_take, ← List.map_drop, pcL, h, h2]
theorem pairsRk1 (K left : List Int) (nk : Bool) (a : Int) : CallOk Tryz.prog 88 (.v (.int .i64 a) :: [.fp (.sl nk 1 (K.map pcA)) 0, .fp (ints false left) 0]) (.v (.bool (frL K left a))) := by
  have hc := containsIntss (g := 90) (pure_fp (a := int a) (j := 0) (pure_fp (a := ints false left) (j := 0) pure_nil)) (fun x => decide (at0 x.2 1 = a) && decide (at0 x.2 0 ∈ left)) nk (K.map pcL) (fun x hx => by
    obtain ⟨e, he, rfl⟩ := List.mem_map.1 hx
    exact pairsRk11 left a e)
  obtain ⟨m2, hm2, hz⟩ := as_model hc
  have ea : (K.map pcL).any (fun x => decide (at0 x.2 1 = a) && decide (at0 x.2 0 ∈ left)) = K.any fun e => decide (e % 8 = a) && decide (e / 8 ∈ left) := by
    rw [List.any_map]; rfl
  rw [ea] at hz
  simp only [intss, ← pcA_row, int, bool, ints] at hz
  have hG : FnsOk Tryz.prog [(89, m2)] := .cons hm2 .nil
  refine callOk_awpZ [0] (ctx_ok eqOk hG) mixed (live := [true, true, true, true, true]) (dt := []) Tryz.func88 rfl (by kernel_rfl) (by kernel_rfl) fun w0 hlens => ?_
  clear hlens
  unfold frL
  simp [Tryz.f88, List.range, List.range.loop, ints, intss, int, bool, row, frac, fracs, ← List.map_take, ← List.map_drop, andThen_n, freeze, frzA, frzAL, sets, hz]
noncomputable def mPri (K : List Int) (nk : Bool) : List AV → Option AV := mk (fun _ => True) (fun (left : List Int) => [ints false left, .fn 88 [.fp (.sl nk 1 (K.map pcA)) 0, .fp (ints false left) 0]]) (fun left => int (idxOf (frL K left) left))
theorem mPri_ok (K : List Int) (nk : Bool) : (FnOk Tryz.prog 87 (mPri K nk)) := by
  exact mk_ok fun left _ => indexInts (g := 88) (pure_fp (a := .sl nk 1 (K.map pcA)) (j := 0) (pure_fp (a := ints false left) (j := 0) pure_nil)) (frL K left) false left (fun x _ => pairsRk1 K left nk x)
theorem mPri_at (K : List Int) (nk : Bool) (left : List Int) : mPri K nk [.sl false 1 (left.map int), .fn 88 [.fp (.sl nk 1 (K.map pcA)) 0, .fp (.sl false 1 (left.map int)) 0]] = some (.v (.int .i64 (idxOf (frL K left) left))) :=
  mk_eq (enc := fun (left : List Int) => [ints false left, .fn 88 [.fp (.sl nk 1 (K.map pcA)) 0, .fp (ints false left) 0]]) (f := fun left => int (idxOf (frL K left) left)) (x := left) (by
    intro x y h
    simp [ints, map_int_inj] at h
    rw [h]) trivial
theorem nilS_pc {K : List Int} : nilS (.sl K.isEmpty 1 (K.map pcA)) = K.isEmpty := by cases K <;> rfl
noncomputable def mPkR : List AV → Option AV := mk (fun p => profB (p.1 : Int) p.2.2 = true) (fun (p : PrN) => [prof (p.1 : Int) p.2.1 p.2.2]) (fun p => ints false (pkA p.2.2 p.1))
theorem mPkR_at (s : Nat) (nl : Bool) (vs : List Vt) (h : profB (s : Int) vs = true) : mPkR [.agg [.v (.int .i64 (s : Int)), .sl nl 2 (vs.map vote)]] = some (.sl false 1 ((pkA vs s).map int)) :=
  mk_eq (enc := fun (p : PrN) => [prof (p.1 : Int) p.2.1 p.2.2]) (x := (s, nl, vs)) (fun x y h => by rw [PrN_inj h]) h
theorem kpA_facts {S : Nat} {vs : List Vt} (hs : S ≤ 5) : Acy (kpA vs S) ∧ prsB S (kpA vs S) := ⟨kpT_acy, kp_prs hs (Nat.le_refl _)⟩
set_option maxRecDepth 8000 in
set_option maxHeartbeats 8000000 in
theorem implPkR_ok : FnOk Tryz.prog 34 mPkR := by
  refine mk_ok fun ⟨S, nl, vs⟩ hp => ?_
  simp only at hp
  obtain ⟨h1, h2, h3⟩ := prof_facts hp
  have hpp := mProf_at (S : Int) nl vs
  rw [hp] at hpp
  have hlk := mLkP_at S nl vs hp
  obtain ⟨hac, hpr⟩ := kpA_facts (S := S) (vs := vs) (by omega)
  have hix := mIdx_at S (by omega)
  have hpk : pkA vs S = pkT (kpA vs S) S S := rfl
  rw [hpk]
  generalize kpA vs S = K at *
  have hI := mPri_ok K K.isEmpty
  have hIa := fun left => mPri_at K K.isEmpty left
  generalize mPri K K.isEmpty = md at *
  have hG : FnsOk Tryz.prog [(19, mProf), (86, mIdx), (87, md)] := (.cons implProf_ok (.cons indices_ok (.cons hI .nil)))
  have hM : FnsMut Tryz.prog [] := .nil
  have hV : FnsMov Tryz.prog [(92, mDel)] := (.cons delete_ok .nil)
  have hK : FnsFrz Tryz.prog [(85, true, mLkP)] := (.cons implLkP_ok .nil)
  refine callOk_awpZ [0] (ctxH_ok eqOk hG hM hV hK) mixed (live := [true, true, true, true, true, true, true, false, false, true, false, false, false, false, false, false, false, true]) (dt := []) Tryz.func34 rfl (by kernel_rfl) (by kernel_rfl) fun w0 hlens => ?_
  clear hlens
  have z0 : pkT K S 0 = [] := rfl
  have z1 := lfO_nil (s := S)
  have hil := idx_len (n := S)
  have hidt : (idx S).take S = idx S := List.take_of_length_le (by omega)
  have hns := nilS_pc (K := K)
  simp [Tryz.f34, List.range, List.range.loop, ints, intss, int, bool, row, frac, fracs, ← List.map_take, ← List.map_drop, List.all, andThen_n, freeze, frzA, frzAL, sets, prof, hpp, hlk, hix, hil, hidt, -nilS, hns]
  refine tr_loop_of (ctxH_ok eqOk hG hM hV hK) mixed [false, false, false, true, true, true] (α := {k : Nat // k ≤ S}) (fun k => ⟨[.junk, .junk, .junk, .ptr 0 [] 0 0, .ptr 1 [] 0 0, liA 2 (pkT K S k.1), .junk, .junk, .junk, .junk, .junk, .junk, .junk, .junk, .junk, .junk, .junk, .junk, .junk, .junk, .junk, .junk, .junk, .junk, .junk, .junk, .junk, .junk, .junk, .junk, .junk, .junk, .junk, .junk], [⟨K.isEmpty, .sl false 1 [.sl K.isEmpty 1 (K.map pcA)]⟩, ⟨true, .sl false 1 [.sl false 1 ((lfO S (pkT K S k.1)).map int)]⟩] ++ liT (pkT K S k.1)⟩) (fun k => S - k.1) ⟨0, Nat.zero_le _⟩ (by simp [sub, slotsLe, clean, keep, refsL, refs, once, place, renL, ren, List.replicate, int, bool, prof, z0, z1, liA, liT]) ?_
  rintro ⟨k, hk⟩
  obtain ⟨f1, f2, f3, _⟩ := pkT_facts hac hpr (k := k) hk
  have hst := fun h => pk_step (K := K) (S := S) (k := k) hac hpr h
  simp only
  refine tr_seq (tr_awp (live := [true, true, true, true, true, true, true, false, false, true, false, false, false, false, false, false, false, true]) (ctxH_ok eqOk hG hM hV hK) mixed _ _ _ ?_)
  by_cases hks : k < S
  · obtain ⟨i, p, e1, ⟨e2, e3⟩, e4, e5⟩ := hst hks
    have hIl := hIa (lfO S (pkT K S k))
    have f2' := (pkT_facts hac hpr (k := k + 1) (by omega)).2.1
    have hdm := mDel_at (lfO S (pkT K S k)) p (p + 1) ⟨by omega, by omega⟩
    rw [e1] at hIl
    rw [e5] at hdm
    push_cast at hdm
    generalize hL' : lfO S (pkT K S (k + 1)) = left' at *
    generalize hO' : pkT K S (k + 1) = out' at *
    generalize hL : lfO S (pkT K S k) = left at *
    generalize hO : pkT K S k = out at *
    have hl0 : 0 < left.length := by omega
    have hlI : (0 : Int) < (left.length : Int) := by omega
    have hlt : left.take left.length = left := List.take_length
    have hwp : IntKind.i64.wrap ((p : Int) + 1) = (p : Int) + 1 := wrapI (by omega) (by omega)
    have hbb : (out.length + 1) * 8 ≤ 140737488355328 ∧ out.length + 1 ≤ 4611686018427387904 := by omega
    have hll : left'.length = left.length - 1 := by omega
    cases out with
    | nil =>
      simp only [List.length_cons, List.length_nil] at hbb
      simp [List.range, List.range.loop, ints, intss, int, bool, row, frac, fracs, ← List.map_take, ← List.map_drop, List.all, andThen_n, andThen_x, liA, liT, hlI, hl0]
      refine tr_block (tr_seq (tr_awp (live := [true, true, true, true, true, true, true, false, false, true, false, false, false, false, false, false, false, true]) (ctxH_ok eqOk hG hM hV hK) mixed _ _ _ ?_))
      simp [List.range, List.range.loop, ints, intss, int, bool, row, frac, fracs, ← List.map_take, ← List.map_drop, List.all, andThen_n, andThen_x, hlt, hIl]
      refine tr_seq (tr_awp (live := [true, true, true, true, true, true, true, false, false, true, false, false, false, false, false, false, false, true]) (ctxH_ok eqOk hG hM hV hK) mixed _ _ _ ?_)
      simp [List.range, List.range.loop, ints, intss, int, bool, row, frac, fracs, ← List.map_take, ← List.map_drop, List.all, andThen_n, andThen_x, e2, e3, hbb]
      refine tr_outS (live := [true, true, true, true, true, true, true, false, false, true, false, false, false, false, false, false, false, true]) (ctxH_ok eqOk hG hM hV hK) 4 28 1 (0, 0) [] left.length (.sl false 1 [.sl false 1 (left.map int)]) false 1 (left.map int) (by simp) ?_
      simp [List.range, List.range.loop, ints, intss, int, bool, row, frac, fracs, ← List.map_take, ← List.map_drop, List.all, outO, andThen_n, andThen_x, hlt, hwp, hdm, hll]
      refine ⟨k + 1, ?_, by omega, by omega⟩
      rw [hO', hL', e4]
      simp [int]
    | cons o A =>
      simp only [List.length_cons, List.length_nil] at hbb
      simp [List.range, List.range.loop, ints, intss, int, bool, row, frac, fracs, ← List.map_take, ← List.map_drop, List.all, andThen_n, andThen_x, liA, liT, hlI, hl0]
      refine tr_block (tr_seq (tr_awp (live := [true, true, true, true, true, true, true, false, false, true, false, false, false, false, false, false, false, true]) (ctxH_ok eqOk hG hM hV hK) mixed _ _ _ ?_))
      simp [List.range, List.range.loop, ints, intss, int, bool, row, frac, fracs, ← List.map_take, ← List.map_drop, List.all, andThen_n, andThen_x, hlt, hIl]
      refine tr_seq (tr_awp (live := [true, true, true, true, true, true, true, false, false, true, false, false, false, false, false, false, false, true]) (ctxH_ok eqOk hG hM hV hK) mixed _ _ _ ?_)
      simp [List.range, List.range.loop, ints, intss, int, bool, row, frac, fracs, ← List.map_take, ← List.map_drop, List.all, andThen_n, andThen_x, e2, e3, hbb]
      refine tr_outS (live := [true, true, true, true, true, true, true, false, false, true, false, false, false, false, false, false, false, true]) (ctxH_ok eqOk hG hM hV hK) 4 28 1 (0, 0) [] left.length (.sl false 1 [.sl false 1 (left.map int)]) false 1 (left.map int) (by simp) ?_
      simp [List.range, List.range.loop, ints, intss, int, bool, row, frac, fracs, ← List.map_take, ← List.map_drop, List.all, outO, andThen_n, andThen_x, hlt, hwp, hdm, hll]
      refine ⟨k + 1, ?_, by omega, by omega⟩
      rw [hO', hL', e4]
      simp [int]
  · obtain rfl : k = S := by omega
    have hl0 : lfO k (pkT K k k) = [] := List.length_eq_zero_iff.1 (by omega)
    rw [hl0]
    generalize pkT K k k = out at *
    cases out with
    | nil => simp at f1; omega
    | cons o A =>
      simp [List.range, List.range.loop, ints, intss, int, bool, row, frac, fracs, ← List.map_take, ← List.map_drop, List.all, andThen_n, andThen_x, liA, liT]
end Go.Proofs.YtigepnpiofcooaaGreat.Ax
