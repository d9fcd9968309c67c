/-
  Contracts: the strengths of paths (the reference), Schulze's winners (both programs). No condition.
-/
import Derived.Test.YtigepnpiofcooaaGreatCG16
namespace Go.Proofs.YtigepnpiofcooaaGreat.Ax
open Go Go.RowKit
set_option linter.unusedSimpArgs false
def psR (vs : List Vt) (s a : Nat) : Mt := (List.range a).map fun i => (false, m0r vs s i)
theorem psR_zero {vs : List Vt} {s : Nat} : psR vs s 0 = [] := rfl
theorem psR_len {vs : List Vt} {s a : Nat} : (psR vs s a).length = a := by simp [psR]
theorem psR_succ {vs : List Vt} {s a : Nat} : psR vs s (a + 1) = psR vs s a ++ [(false, m0r vs s a)] := by simp [psR, List.range_succ]
theorem psR_all {vs : List Vt} {s : Nat} : psR vs s s = psI vs s s := by simp [psR, psI]
set_option maxRecDepth 8000 in
set_option maxHeartbeats 8000000 in
theorem specPst_ok : FnOk Tryz.prog 107 mPst := by
  refine mk_ok fun ⟨S, nl, vs⟩ hp => ?_
  simp only at hp
  obtain ⟨h1, h2, h3⟩ := prof_facts hp
  have hpp := mProf_at (S : Int) nl vs
  rw [hp] at hpp
  have hbt := fun a b => mBeats_at (S : Int) nl vs a b hp
  have hpr := fun a b => mPair_at (S : Int) nl vs a b hp
  have hsq := psI_sq hp
  have hG : FnsOk Tryz.prog [(16, mProf), (103, mBeats), (101, mPair)] := (.cons specProf_ok (.cons l06Beats_ok (.cons l04Pair_ok .nil)))
  refine callOk_awpZ [0] (ctx_ok eqOk hG) mixed (live := [true, true, true, true, true, true, true, true, true, true, false, false, true, false, false, false, false, true, false, false, false, false, false, false, true, true, true, false, false, false, false, true, false, false, false, false, false, false, false, false, false, false, false, false, false, true, true, true, false, false, true, true, true, false, false, true, true, true, false, false, false, true]) (dt := [(25, ⟨[], [], []⟩)]) Tryz.func107 rfl (by kernel_rfl) (by kernel_rfl) fun w0 hlens => ?_
  clear hlens
  have hm6 : 8 * S ≤ 281474976710656 ∧ S ≤ 4611686018427387904 ∧ 24 * S ≤ 281474976710656 := by omega
  have z0 := psR_zero (vs := vs) (s := S)
  simp [Tryz.f107, List.range, List.range.loop, ints, intss, int, bool, row, frac, fracs, ← List.map_take, ← List.map_drop, andThen_n, freeze, frzA, frzAL, sets, prof, hpp]
  refine awp_range (live := [true, true, true, true, true, true, true, true, true, true, false, false, true, false, false, false, false, true, false, false, false, false, false, false, true, true, true, false, false, false, false, true, false, false, false, false, false, false, false, false, false, false, false, false, false, true, true, true, false, false, true, true, true, false, false, true, true, true, false, false, false, true]) (ctx_ok eqOk hG) mixed [false, true, false, true, true] (S) (fun a => True) (fun a => ⟨[.junk, .fp (prof (S : Int) nl vs) 0, .junk, .ref 0 [] 0 a, int a, .junk, .junk, .junk, .junk, .junk, .junk, .junk, .junk, .junk, .junk, .junk, .junk, .junk, .junk, .junk, .junk, .junk, .junk, .junk, .junk, .junk, .junk, .junk, .junk, .junk, .junk, .junk, .junk, .junk, .junk, .junk, .junk, .junk, .junk, .junk, .junk, .junk, .junk, .junk, .junk, .junk, .junk, .junk, .junk, .junk, .junk, .junk, .junk, .junk, .junk, .junk, .junk, .junk, .junk, .junk, .junk, .junk, .junk, .junk, .junk, .junk, .junk, .junk, .junk, .junk, .junk, .junk, .junk, .junk, .junk, .junk, .junk, .junk, .junk, .junk, .junk, .junk, .junk, .junk, .junk, .junk, .junk, .junk, .junk, .junk, .junk, .junk, .junk, .junk, .junk], [⟨true, .sl false 1 ((psR vs S a).map row)⟩]⟩) ?_ (by simp [sub, slotsLe, clean, keep, refsL, refs, once, place, renL, ren, List.replicate, int, bool, prof, z0]) ?_ ?_ ?_
  · omega
  · trivial
  · intro a ha _ hwa
    have haI : (a : Int) < (S : Int) := by omega
    have hs := psR_succ (vs := vs) (s := S) (a := a)
    have hl := psR_len (vs := vs) (s := S) (a := a)
    have zr : List.replicate S (AV.v (.int .i64 0)) = (fiT (m0 vs a) 0 0 S 0).map int := by rw [fiT_zero, List.map_replicate]; rfl
    have lf := fun b => fiT_len (g := m0 vs a) (z := 0) (x := 0) (s := S) (a := b)
    have ef : fiT (m0 vs a) 0 0 S S = m0r vs S a := fiT_all
    generalize psR vs S (a + 1) = B at *
    generalize psR vs S a = A at *
    simp [List.range, List.range.loop, ints, intss, int, bool, row, frac, fracs, ← List.map_take, ← List.map_drop, prof, ha, haI, hm6, zr, lf]
    refine awp_range (live := [true, true, true, true, true, true, true, true, true, true, false, false, true, false, false, false, false, true, false, false, false, false, false, false, true, true, true, false, false, false, false, true, false, false, false, false, false, false, false, false, false, false, false, false, false, true, true, true, false, false, true, true, true, false, false, true, true, true, false, false, false, true]) (ctx_ok eqOk hG) mixed [false, true, false, true, true, true, false, false, false, false, false, false, false, false, false, false, false, false, false, false, false, false, false, false, true, true] (S) (fun b => True) (fun b => ⟨[.junk, .fp (prof (S : Int) nl vs) 0, .junk, .ref 0 [] 0 a, int a, .ref 1 [] 0 S, .junk, .junk, .junk, .junk, .junk, .junk, .junk, .junk, .junk, .junk, .junk, .junk, .junk, .junk, .junk, .junk, .junk, .junk, int (S : Int), int b, .junk, .junk, .junk, .junk, .junk, .junk, .junk, .junk, .junk, .junk, .junk, .junk, .junk, .junk, .junk, .junk, .junk, .junk, .junk, .junk, .junk, .junk, .junk, .junk, .junk, .junk, .junk, .junk, .junk, .junk, .junk, .junk, .junk, .junk, .junk, .junk, .junk, .junk, .junk, .junk, .junk, .junk, .junk, .junk, .junk, .junk, .junk, .junk, .junk, .junk, .junk, .junk, .junk, .junk, .junk, .junk, .junk, .junk, .junk, .junk, .junk, .junk, .junk, .junk, .junk, .junk, .junk, .junk, .junk], [⟨true, .sl false 1 (A.map row)⟩, ⟨true, .sl false 1 ((fiT (m0 vs a) 0 0 S b).map int)⟩]⟩) ?_ (by simp [sub, slotsLe, clean, keep, refsL, refs, once, place, renL, ren, List.replicate, int, bool, prof, lf]) ?_ ?_ ?_
    · omega
    · trivial
    · intro b hb _ hwb
      have hbI : (b : Int) < (S : Int) := by omega
      have hz := hbt a b
      have hq := hpr a b
      have hset := fiT_set (g := m0 vs a) (z := 0) (x := 0) (y := m0 vs a b) (s := S) (a := b)
      rw [fiT_next] at hset
      have l1 := lf b
      have l2 := lf (b + 1)
      have hm0 : m0 vs a b = if btB vs a b = true then prT vs a b else 0 := rfl
      cases hc : btB vs a b with
      | true =>
        rw [hc] at hz
        rw [hc, if_pos rfl] at hm0
        have hs2 : (fiT (m0 vs a) 0 0 S (b + 1)).map int = ((fiT (m0 vs a) 0 0 S b).map int).set b (.v (.int .i64 (prT vs a b))) := by rw [← hset, hm0, List.map_set]; rfl
        generalize fiT (m0 vs a) 0 0 S (b + 1) = B1 at *
        generalize fiT (m0 vs a) 0 0 S b = A1 at *
        have hbA : b < A1.length := by omega
        simp [List.range, List.range.loop, ints, intss, int, bool, row, frac, fracs, ← List.map_take, ← List.map_drop, prof, ha, haI, hb, hbI, hz, hq, l1, l2, hbA, hs2, hwb]
      | false =>
        rw [hc] at hz
        rw [hc] at hm0
        simp at hm0
        have e : fiT (m0 vs a) 0 0 S (b + 1) = fiT (m0 vs a) 0 0 S b := by
          have := fiT_next (g := m0 vs a) (z := 0) (s := S) (a := b)
          rw [hm0] at this
          exact this.symm
        simp [List.range, List.range.loop, ints, intss, int, bool, row, frac, fracs, ← List.map_take, ← List.map_drop, prof, ha, haI, hb, hbI, hz, l1, e, hwb]
    · intro _
      have l1 := lf S
      rw [ef] at l1 ⊢
      generalize m0r vs S a = R at *
      subst hs
      have hRt : R.take S = R := List.take_of_length_le (by omega)
      have hbb : (a + 1) * 24 ≤ 140737488355328 ∧ a + 1 ≤ 4611686018427387904 := by omega
      simp [List.range, List.range.loop, ints, intss, int, bool, row, frac, fracs, ← List.map_take, ← List.map_drop, prof, hl, l1, hRt, hbb, hwa]
  · intro _
    have lI := psI_len (vs := vs) (s := S) (a := S) (Nat.le_refl _)
    have zk : stK (psI vs S S) S 0 = psI vs S S := rfl
    have ht : psT vs S = stK (psI vs S S) S S := rfl
    rw [ht, psR_all]
    generalize psI vs S S = M0 at *
    simp [List.range, List.range.loop, ints, intss, int, bool, row, frac, fracs, ← List.map_take, ← List.map_drop, List.all, prof, lI]
    refine awp_range (live := [true, true, true, true, true, true, true, true, true, true, false, false, true, false, false, false, false, true, false, false, false, false, false, false, true, true, true, false, false, false, false, true, false, false, false, false, false, false, false, false, false, false, false, false, false, true, true, true, false, false, true, true, true, false, false, true, true, true, false, false, false, true]) (ctx_ok eqOk hG) mixed [false, false, false, true, false, false, false, false, false, false, false, false, false, false, false, false, false, false, false, false, false, false, false, false, false, false, false, false, false, false, false, false, false, false, false, false, false, false, false, false, false, false, false, false, false, true, true] (S) (fun k => True) (fun k => ⟨[.junk, .junk, .junk, .ref 0 [] 0 S, .junk, .junk, .junk, .junk, .junk, .junk, .junk, .junk, .junk, .junk, .junk, .junk, .junk, .junk, .junk, .junk, .junk, .junk, .junk, .junk, .junk, .junk, .junk, .junk, .junk, .junk, .junk, .junk, .junk, .junk, .junk, .junk, .junk, .junk, .junk, .junk, .junk, .junk, .junk, .junk, .junk, int (S : Int), int k, .junk, .junk, .junk, .junk, .junk, .junk, .junk, .junk, .junk, .junk, .junk, .junk, .junk, .junk, .junk, .junk, .junk, .junk, .junk, .junk, .junk, .junk, .junk, .junk, .junk, .junk, .junk, .junk, .junk, .junk, .junk, .junk, .junk, .junk, .junk, .junk, .junk, .junk, .junk, .junk, .junk, .junk, .junk, .junk, .junk, .junk, .junk, .junk], [⟨true, .sl false 1 ((stK M0 S k).map row)⟩]⟩) ?_ (by simp [sub, slotsLe, clean, keep, refsL, refs, once, place, renL, ren, List.replicate, int, bool, prof, zk, lI]) ?_ ?_ ?_
    · omega
    · trivial
    · intro k hk _ hwk
      have hkI : (k : Int) < (S : Int) := by omega
      have sk := hsq.stK (k := k) (by omega)
      have hnk : stK M0 S (k + 1) = stA (stK M0 S k) k S S := rfl
      rw [hnk]
      generalize stK M0 S k = M1 at *
      have l1 := sk.len
      have za : stA M1 k S 0 = M1 := rfl
      simp [List.range, List.range.loop, ints, intss, int, bool, row, frac, fracs, ← List.map_take, ← List.map_drop, List.all, prof, hk, hkI, l1]
      refine awp_range (live := [true, true, true, true, true, true, true, true, true, true, false, false, true, false, false, false, false, true, false, false, false, false, false, false, true, true, true, false, false, false, false, true, false, false, false, false, false, false, false, false, false, false, false, false, false, true, true, true, false, false, true, true, true, false, false, true, true, true, false, false, false, true]) (ctx_ok eqOk hG) mixed [false, false, false, true, false, false, false, true, false, false, false, false, false, false, false, false, false, false, false, false, false, false, false, false, false, false, false, false, false, false, false, false, false, false, false, false, false, false, false, false, false, false, false, false, false, true, true, false, false, false, true, true] (S) (fun a => True) (fun a => ⟨[.junk, .junk, .junk, .ref 0 [] 0 S, .junk, .junk, .junk, int k, .junk, .junk, .junk, .junk, .junk, .junk, .junk, .junk, .junk, .junk, .junk, .junk, .junk, .junk, .junk, .junk, .junk, .junk, .junk, .junk, .junk, .junk, .junk, .junk, .junk, .junk, .junk, .junk, .junk, .junk, .junk, .junk, .junk, .junk, .junk, .junk, .junk, int (S : Int), int k, .junk, .junk, .junk, int (S : Int), int a, .junk, .junk, .junk, .junk, .junk, .junk, .junk, .junk, .junk, .junk, .junk, .junk, .junk, .junk, .junk, .junk, .junk, .junk, .junk, .junk, .junk, .junk, .junk, .junk, .junk, .junk, .junk, .junk, .junk, .junk, .junk, .junk, .junk, .junk, .junk, .junk, .junk, .junk, .junk, .junk, .junk, .junk, .junk], [⟨true, .sl false 1 ((stA M1 k S a).map row)⟩]⟩) ?_ (by simp [sub, slotsLe, clean, keep, refsL, refs, once, place, renL, ren, List.replicate, int, bool, prof, za, l1]) ?_ ?_ ?_
      · omega
      · trivial
      · intro a ha _ hwa
        have haI : (a : Int) < (S : Int) := by omega
        have sa := sk.stA hk (a := a) (by omega)
        have hna : stA M1 k S (a + 1) = stB (stA M1 k S a) k a S := rfl
        rw [hna]
        generalize stA M1 k S a = M3 at *
        have l3 := sa.len
        have zb : stB M3 k a 0 = M3 := rfl
        simp [List.range, List.range.loop, ints, intss, int, bool, row, frac, fracs, ← List.map_take, ← List.map_drop, List.all, prof, ha, haI, l3]
        refine awp_range (live := [true, true, true, true, true, true, true, true, true, true, false, false, true, false, false, false, false, true, false, false, false, false, false, false, true, true, true, false, false, false, false, true, false, false, false, false, false, false, false, false, false, false, false, false, false, true, true, true, false, false, true, true, true, false, false, true, true, true, false, false, false, true]) (ctx_ok eqOk hG) mixed [false, false, false, true, false, false, false, true, true, false, false, false, false, false, false, false, false, false, false, false, false, false, false, false, false, false, false, false, false, false, false, false, false, false, false, false, false, false, false, false, false, false, false, false, false, true, true, false, false, false, true, true, false, false, false, true, true] (S) (fun b => True) (fun b => ⟨[.junk, .junk, .junk, .ref 0 [] 0 S, .junk, .junk, .junk, int k, int a, .junk, .junk, .junk, .junk, .junk, .junk, .junk, .junk, .junk, .junk, .junk, .junk, .junk, .junk, .junk, .junk, .junk, .junk, .junk, .junk, .junk, .junk, .junk, .junk, .junk, .junk, .junk, .junk, .junk, .junk, .junk, .junk, .junk, .junk, .junk, .junk, int (S : Int), int k, .junk, .junk, .junk, int (S : Int), int a, .junk, .junk, .junk, int (S : Int), int b, .junk, .junk, .junk, .junk, .junk, .junk, .junk, .junk, .junk, .junk, .junk, .junk, .junk, .junk, .junk, .junk, .junk, .junk, .junk, .junk, .junk, .junk, .junk, .junk, .junk, .junk, .junk, .junk, .junk, .junk, .junk, .junk, .junk, .junk, .junk, .junk, .junk, .junk], [⟨true, .sl false 1 ((stB M3 k a b).map row)⟩]⟩) ?_ (by simp [sub, slotsLe, clean, keep, refsL, refs, once, place, renL, ren, List.replicate, int, bool, prof, zb, l3]) ?_ ?_ ?_
        · omega
        · trivial
        · intro b hb _ hwb
          have hbI : (b : Int) < (S : Int) := by omega
          have sb := sa.stB hk ha (b := b) (by omega)
          have sb1 := sa.stB hk ha (b := b + 1) (by omega)
          have hnb : stB M3 k a (b + 1) = st1 (stB M3 k a b) k a b := rfl
          generalize stB M3 k a (b + 1) = N at *
          generalize stB M3 k a b = M at *
          have lM := sb.len
          have lN := sb1.len
          by_cases e : a = b
          · have hNM : N = M := by rw [hnb]; unfold st1; rw [if_pos e]
            subst hNM
            subst e
            simp [List.range, List.range.loop, ints, intss, int, bool, row, frac, fracs, ← List.map_take, ← List.map_drop, List.all, prof, hb, hbI, lM, hwb]
          · have e' : ¬ (a : Int) = (b : Int) := by omega
            have e2 : ((a : Int) == (b : Int)) = false := by simpa using e'
            obtain ⟨r, r1, r2, r3, r4⟩ := sb.get ha
            obtain ⟨q, q1, q2, q3, q4⟩ := sb.get hk
            rw [st1_eq r1 e, r4, r4, q4] at hnb
            have haM : a < M.length := by omega
            have hkM : k < M.length := by omega
            rw [List.getElem?_eq_getElem haM] at r1
            rw [List.getElem?_eq_getElem hkM] at q1
            have r1 := Option.some.inj r1
            have q1 := Option.some.inj q1
            have hbr : b < r.length := by omega
            have hkr : k < r.length := by omega
            have hbq : b < q.length := by omega
            have g1 : r[b] = at0 r b := (at0_eq hbr).symm
            have g2 : r[k] = at0 r k := (at0_eq hkr).symm
            have g3 : q[b] = at0 q b := (at0_eq hbq).symm
            have hN : N.map row = (M.map row).set a (.sl false 1 ((r.map int).set b (.v (.int .i64 (max (at0 r b) (min (at0 r k) (at0 q b))))))) := by rw [hnb, List.map_set]; simp [row, List.map_set, int]
            clear hnb
            simp [List.range, List.range.loop, ints, intss, int, bool, row, frac, fracs, ← List.map_take, ← List.map_drop, List.all, prof, hb, hbI, ha, haI, hk, hkI, lM, lN, e, e', e2, r1, q1, r2, q2, row, g1, g2, g3, hbr, hkr, hbq, hN, hwb]
        · intro _
          have sb1 := sa.stB hk ha (b := S) (Nat.le_refl _)
          have lN := sb1.len
          simp [List.range, List.range.loop, ints, intss, int, bool, row, frac, fracs, ← List.map_take, ← List.map_drop, List.all, prof, lN, hwa]
      · intro _
        have sa1 := sk.stA hk (a := S) (Nat.le_refl _)
        have lN := sa1.len
        simp [List.range, List.range.loop, ints, intss, int, bool, row, frac, fracs, ← List.map_take, ← List.map_drop, List.all, prof, lN, hwk]
    · intro _
      have sk := hsq.stK (k := S) (Nat.le_refl _)
      have lN := sk.len
      generalize stK M0 S S = A at *
      have hAt : A.take S = A := List.take_of_length_le (by omega)
      simp [List.range, List.range.loop, ints, intss, int, bool, row, frac, fracs, ← List.map_take, ← List.map_drop, List.all, prof, lN, hAt, ← List.map_take]
theorem schulze1 (M : Mt) (s a b : Nat) (hM : Sq M s) (ha : a < s) (hb : b < s) : CallOk Tryz.prog 84 (.v (.int .i64 (a : Int)) :: .v (.int .i64 (b : Int)) :: [.fp (intss false M) 0]) (.v (.bool (szB M a b))) := by
  have hG : FnsOk Tryz.prog [] := .nil
  refine callOk_awp (ctx_ok eqOk hG) mixed (live := [true, true, true, false, false, true]) (dt := [(1, ⟨[], [], []⟩)]) Tryz.func84 rfl (by kernel_rfl) (by kernel_rfl) fun w0 hlens => ?_
  clear hlens
  obtain ⟨r, r1, r2, r3, r4⟩ := hM.get ha
  obtain ⟨q, q1, q2, q3, q4⟩ := hM.get hb
  have lM := hM.len
  have haM : a < M.length := by omega
  have hbM : b < M.length := by omega
  rw [List.getElem?_eq_getElem haM] at r1
  rw [List.getElem?_eq_getElem hbM] at q1
  have r1 := Option.some.inj r1
  have q1 := Option.some.inj q1
  have hbr : b < r.length := by omega
  have haq : a < q.length := by omega
  have g1 : r[b] = at0 r b := (at0_eq hbr).symm
  have g2 : q[a] = at0 q a := (at0_eq haq).symm
  have e : szB M a b = decide (at0 q a ≤ at0 r b) := by unfold szB; rw [Int.toNat_natCast, Int.toNat_natCast, q4, r4]
  rw [e]
  simp [Tryz.f84, List.range, List.range.loop, ints, intss, int, bool, row, frac, fracs, ← List.map_take, ← List.map_drop, intss, row, lM, ha, hb, r1, q1, hbr, haq, g1, g2]
noncomputable def mSzw : List AV → Option AV := mk (fun p => profB (p.1 : Int) p.2.2 = true) (fun (p : PrN) => [prof (p.1 : Int) p.2.1 p.2.2]) (fun p => .sl (szT p.2.2 p.1).isEmpty 1 ((szT p.2.2 p.1).map int))
theorem mSzw_at (s : Nat) (nl : Bool) (vs : List Vt) (h : profB (s : Int) vs = true) : mSzw [.agg [.v (.int .i64 (s : Int)), .sl nl 2 (vs.map vote)]] = some (.sl (szT vs s).isEmpty 1 ((szT vs s).map int)) :=
  mk_eq (enc := fun (p : PrN) => [prof (p.1 : Int) p.2.1 p.2.2]) (x := (s, nl, vs)) (fun x y h => by rw [PrN_inj h]) h
noncomputable def mSzs : List AV → Option AV := mk (fun p => profB (p.1 : Int) p.2.2 = true) (fun (p : PrN) => [prof (p.1 : Int) p.2.1 p.2.2]) (fun p => ints false (szT p.2.2 p.1))
theorem mSzs_at (s : Nat) (nl : Bool) (vs : List Vt) (h : profB (s : Int) vs = true) : mSzs [.agg [.v (.int .i64 (s : Int)), .sl nl 2 (vs.map vote)]] = some (.sl false 1 ((szT vs s).map int)) :=
  mk_eq (enc := fun (p : PrN) => [prof (p.1 : Int) p.2.1 p.2.2]) (x := (s, nl, vs)) (fun x y h => by rw [PrN_inj h]) h
set_option maxHeartbeats 2000000 in
theorem implSzw_ok : FnOk Tryz.prog 33 mSzw := by
  refine mk_ok fun ⟨S, nl, vs⟩ hp => ?_
  simp only at hp
  have hps := mPst_at S nl vs hp
  have hsq := psT_sq hp
  have hc := those_gen (g := 84) (pure_fp (a := intss false (psT vs S)) (j := 0) pure_nil) (szB (psT vs S)) S nl vs hp (by decide) (fun a b ha hb => schulze1 (psT vs S) S a b hsq ha hb)
  obtain ⟨m, hm, hz⟩ := as_model hc
  have hG : FnsOk Tryz.prog [(82, mPst), (83, m)] := (.cons implPst_ok (.cons hm .nil))
  refine callOk_awpZ [0] (ctx_ok eqOk hG) mixed (live := [true, true, true, true]) (dt := []) Tryz.func33 rfl (by kernel_rfl) (by kernel_rfl) fun w0 hlens => ?_
  clear hlens
  simp only [prof, int, intss] at hz
  unfold szT
  have lM := hsq.len
  generalize thT (szB (psT vs S)) S = L at *
  generalize psT vs S = M at *
  have hMt : M.take M.length = M := List.take_length
  cases L with
  | nil =>
    simp at hz
    simp [Tryz.f33, List.range, List.range.loop, ints, intss, int, bool, row, frac, fracs, ← List.map_take, ← List.map_drop, List.all, andThen_n, freeze, frzA, frzAL, sets, prof, hps, hMt, hz, ← List.map_take]
  | cons x L =>
    simp at hz
    simp [Tryz.f33, List.range, List.range.loop, ints, intss, int, bool, row, frac, fracs, ← List.map_take, ← List.map_drop, List.all, andThen_n, freeze, frzA, frzAL, sets, prof, hps, hMt, hz, ← List.map_take]
set_option maxHeartbeats 4000000 in
theorem specSzw_ok : FnOk Tryz.prog 53 mSzs := by
  refine mk_ok fun ⟨S, nl, vs⟩ hp => ?_
  simp only at hp
  obtain ⟨h1, h2, h3⟩ := prof_facts hp
  have hpp := mProf_at (S : Int) nl vs
  rw [hp] at hpp
  have hps := mPst_at S nl vs hp
  have hsq := psT_sq hp
  have hG : FnsOk Tryz.prog [(16, mProf), (107, mPst)] := (.cons specProf_ok (.cons specPst_ok .nil))
  refine callOk_awpZ [0] (ctx_ok eqOk hG) mixed (live := [true, true, true, true, true, true, true, true, false, false, true, false, false, false, false, true, true, true, false, false, true, true, true, false, false, false, false, false, false, false, false, false, false, false, false, false, false, false, false, false, false, false, false, true]) (dt := [(12, ⟨[], [], []⟩)]) Tryz.func53 rfl (by kernel_rfl) (by kernel_rfl) fun w0 hlens => ?_
  clear hlens
  have ez : szT vs S = selTo (fun a => tiTo (szB (psT vs S)) a S) S := rfl
  rw [ez]
  generalize psT vs S = M at *
  have lM := hsq.len
  have hMt : M.take S = M := List.take_of_length_le (by omega)
  have z0 : selTo (fun a => tiTo (szB M) a S) 0 = [] := rfl
  simp [Tryz.f53, List.range, List.range.loop, ints, intss, int, bool, row, frac, fracs, ← List.map_take, ← List.map_drop, andThen_n, freeze, frzA, frzAL, sets, prof, hpp, hps, lM, hMt]
  refine awp_range (live := [true, true, true, true, true, true, true, true, false, false, true, false, false, false, false, true, true, true, false, false, true, true, true, false, false, false, false, false, false, false, false, false, false, false, false, false, false, false, false, false, false, false, false, true]) (ctx_ok eqOk hG) mixed [false, false, false, true, true, false, false, false, false, false, false, false, false, false, false, true, true] (S) (fun a => True) (fun a => ⟨[.junk, .junk, .junk, .ref 0 [] 0 S, .ref 1 [] 0 (selTo (fun a => tiTo (szB M) a S) a).length, .junk, .junk, .junk, .junk, .junk, .junk, .junk, .junk, .junk, .junk, int (S : Int), int a, .junk, .junk, .junk, .junk, .junk, .junk, .junk, .junk, .junk, .junk, .junk, .junk, .junk, .junk, .junk, .junk, .junk, .junk, .junk, .junk, .junk, .junk, .junk, .junk, .junk, .junk, .junk, .junk, .junk, .junk, .junk, .junk, .junk], [⟨true, .sl false 1 (M.map row)⟩, ⟨true, .sl false 1 ((selTo (fun a => tiTo (szB M) a S) a).map int)⟩]⟩) ?_ (by simp [sub, slotsLe, clean, keep, refsL, refs, once, place, renL, ren, List.replicate, int, bool, z0, lM]) ?_ ?_ ?_
  · omega
  · trivial
  · intro a ha _ hwa
    have haI : (a : Int) < (S : Int) := by omega
    have hl := selTo_len (p := fun a => tiTo (szB M) a S) (k := a)
    have hy := selTo_yes (p := fun a => tiTo (szB M) a S) (k := a)
    have hn := selTo_no (p := fun a => tiTo (szB M) a S) (k := a)
    generalize selTo (fun a => tiTo (szB M) a S) (a + 1) = B at *
    generalize selTo (fun a => tiTo (szB M) a S) a = A at *
    obtain ⟨r, r1, r2, r3, r4⟩ := hsq.get ha
    have haM : a < M.length := by omega
    rw [List.getElem?_eq_getElem haM] at r1
    have r1 := Option.some.inj r1
    have zt : szTo M a 0 = true := rfl
    simp [List.range, List.range.loop, ints, intss, int, bool, row, frac, fracs, ← List.map_take, ← List.map_drop, haI, ha, lM]
    refine awp_range (live := [true, true, true, true, true, true, true, true, false, false, true, false, false, false, false, true, true, true, false, false, true, true, true, false, false, false, false, false, false, false, false, false, false, false, false, false, false, false, false, false, false, false, false, true]) (ctx_ok eqOk hG) mixed [false, false, false, true, true, true, true, false, false, false, false, false, false, false, false, true, true, false, false, false, true, true] (S) (fun b => True) (fun b => ⟨[.junk, .junk, .junk, .ref 0 [] 0 S, .ref 1 [] 0 A.length, int a, bool (szTo M a b), .junk, .junk, .junk, .junk, .junk, .junk, .junk, .junk, int (S : Int), int a, .junk, .junk, .junk, int (S : Int), int b, .junk, .junk, .junk, .junk, .junk, .junk, .junk, .junk, .junk, .junk, .junk, .junk, .junk, .junk, .junk, .junk, .junk, .junk, .junk, .junk, .junk, .junk, .junk, .junk, .junk, .junk, .junk, .junk], [⟨true, .sl false 1 (M.map row)⟩, ⟨true, .sl false 1 (A.map int)⟩]⟩) ?_ (by simp [sub, slotsLe, clean, keep, refsL, refs, once, place, renL, ren, List.replicate, int, bool, zt, lM]) ?_ ?_ ?_
    · omega
    · trivial
    · intro b hb _ hwb
      have hbI : (b : Int) < (S : Int) := by omega
      obtain ⟨q, q1, q2, q3, q4⟩ := hsq.get hb
      have hbM : b < M.length := by omega
      rw [List.getElem?_eq_getElem hbM] at q1
      have q1 := Option.some.inj q1
      have hbr : b < r.length := by omega
      have haq : a < q.length := by omega
      have g1 : r[b] = at0 r b := (at0_eq hbr).symm
      have g2 : q[a] = at0 q a := (at0_eq haq).symm
      have hs : szTo M a (b + 1) = (szTo M a b && decide (at0 q a ≤ at0 r b)) := by
        show (szTo M a b && szB M a b) = _
        unfold szB; rw [Int.toNat_natCast, Int.toNat_natCast, q4, r4]
      cases hc : szTo M a b <;> by_cases hle : at0 q a ≤ at0 r b <;> simp [hc, hle] at hs <;> simp [List.range, List.range.loop, ints, intss, int, bool, row, frac, fracs, ← List.map_take, ← List.map_drop, haI, ha, hb, hbI, lM, r1, q1, r2, q2, row, hbr, haq, g1, g2, hc, hle, hs, hwb]
    · intro _
      have e := szTo_eq (M := M) (a := a) (b := S)
      have hbb : (A.length + 1) * 8 ≤ 140737488355328 ∧ A.length + 1 ≤ 4611686018427387904 := by omega
      cases ht : tiTo (szB M) a S with
      | true =>
        rw [ht] at e
        have hB := hy ht
        subst hB
        simp [List.range, List.range.loop, ints, intss, int, bool, row, frac, fracs, ← List.map_take, ← List.map_drop, lM, e, hbb, hwa]
      | false =>
        rw [ht] at e
        have hB := hn ht
        subst hB
        simp [List.range, List.range.loop, ints, intss, int, bool, row, frac, fracs, ← List.map_take, ← List.map_drop, lM, e, hwa]
  · intro _
    generalize selTo (fun a => tiTo (szB M) a S) S = A at *
    have hAt : A.take A.length = A := List.take_length
    simp [List.range, List.range.loop, ints, intss, int, bool, row, frac, fracs, ← List.map_take, ← List.map_drop, lM, hAt]
end Go.Proofs.YtigepnpiofcooaaGreat.Ax
