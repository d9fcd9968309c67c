/-
  The strengths of paths, as plain functions. No condition.
-/
import Derived.Test.YtigepnpiofcooaaGreatCG15
namespace Go.Proofs.YtigepnpiofcooaaGreat.Ax
open Go Go.RowKit
abbrev Mt := List (Bool × List Int)
def m0 (vs : List Vt) (a b : Nat) : Int := if btB vs a b = true then prT vs a b else 0
def m0r (vs : List Vt) (s a : Nat) : List Int := (List.range s).map (m0 vs a)
def psI (vs : List Vt) (s a : Nat) : Mt := ((List.range a).map fun i => (false, m0r vs s i)) ++ List.replicate (s - a) (true, [])
def psJ (vs : List Vt) (s a : Nat) (r : List Int) : Mt := ((List.range a).map fun i => (false, m0r vs s i)) ++ (false, r) :: List.replicate (s - a - 1) (true, [])
theorem psI_len {vs : List Vt} {s a : Nat} (h : a ≤ s) : (psI vs s a).length = s := by simp [psI]; omega
theorem psJ_len {vs : List Vt} {s a : Nat} {r : List Int} (h : a < s) : (psJ vs s a r).length = s := by simp [psJ]; omega
theorem psI_set {vs : List Vt} {s a : Nat} {r : List Int} (h : a < s) : (psI vs s a).set a (false, r) = psJ vs s a r := by
  unfold psI psJ
  rw [List.set_append_right _ _ (by simp), List.length_map, List.length_range, Nat.sub_self, show s - a = (s - a - 1) + 1 by omega, List.replicate_succ, List.set_cons_zero]
  simp
theorem psJ_set {vs : List Vt} {s a : Nat} {r r' : List Int} : (psJ vs s a r).set a (false, r') = psJ vs s a r' := by
  unfold psJ
  rw [List.set_append_right _ _ (by simp), List.length_map, List.length_range, Nat.sub_self, List.set_cons_zero]
theorem psJ_at {vs : List Vt} {s a : Nat} {r : List Int} (h : a < (psJ vs s a r).length) : (psJ vs s a r)[a] = (false, r) := by
  simp only [psJ]
  rw [List.getElem_append_right (by simp)]
  simp
theorem psJ_next {vs : List Vt} {s a : Nat} : psJ vs s a (m0r vs s a) = psI vs s (a + 1) := by
  unfold psJ psI
  rw [List.range_succ, List.map_append, List.append_assoc, show s - a - 1 = s - (a + 1) by omega]
  rfl
theorem psI_zero {vs : List Vt} {s : Nat} : psI vs s 0 = List.replicate s (true, []) := by simp [psI]
def m2 (M : Mt) (a b : Nat) : Int := at0 (M.getD a (true, [])).2 b
def st1 (M : Mt) (k a b : Nat) : Mt := if a = b then M else M.set a (false, (M.getD a (true, [])).2.set b (max (m2 M a b) (min (m2 M a k) (m2 M k b))))
def stB (M : Mt) (k a : Nat) : Nat → Mt
  | 0 => M
  | b + 1 => st1 (stB M k a b) k a b
def stA (M : Mt) (k s : Nat) : Nat → Mt
  | 0 => M
  | a + 1 => stB (stA M k s a) k a s
def stK (M : Mt) (s : Nat) : Nat → Mt
  | 0 => M
  | k + 1 => stA (stK M s k) k s s
def psT (vs : List Vt) (s : Nat) : Mt := stK (psI vs s s) s s
structure Sq (M : Mt) (s : Nat) : Prop where
  len : M.length = s
  row : ∀ a (h : a < M.length), M[a].1 = false ∧ M[a].2.length = s ∧ ∀ x ∈ M[a].2, 0 ≤ x ∧ x ≤ 24000
theorem Sq.get {M : Mt} {s a : Nat} (h : Sq M s) (ha : a < s) : ∃ r, M[a]? = some (false, r) ∧ r.length = s ∧ (∀ x ∈ r, 0 ≤ x ∧ x ≤ 24000) ∧ ∀ b, m2 M a b = at0 r b := by
  have hl : a < M.length := by rw [h.len]; exact ha
  obtain ⟨h1, h2, h3⟩ := h.row a hl
  refine ⟨M[a].2, ?_, h2, h3, fun b => ?_⟩
  · rw [List.getElem?_eq_getElem hl, ← h1]
  · unfold m2; rw [List.getD_eq_getElem?_getD, List.getElem?_eq_getElem hl]; rfl
theorem st1_eq {M : Mt} {k a b : Nat} {r : List Int} (hr : M[a]? = some (false, r)) (hne : a ≠ b) : st1 M k a b = M.set a (false, r.set b (max (m2 M a b) (min (m2 M a k) (m2 M k b)))) := by
  unfold st1
  rw [if_neg hne, List.getD_eq_getElem?_getD, hr]; rfl
theorem Sq.st1 {M : Mt} {s k a b : Nat} (h : Sq M s) (hk : k < s) (ha : a < s) (hb : b < s) : Sq (st1 M k a b) s := by
  by_cases e : a = b
  · unfold Ax.st1; rw [if_pos e]; exact h
  · obtain ⟨r, h1, h2, h3, h4⟩ := h.get ha
    obtain ⟨rk, k1, k2, k3, k4⟩ := h.get hk
    rw [st1_eq h1 e]
    refine ⟨by rw [List.length_set]; exact h.len, fun i hi => ?_⟩
    rw [List.length_set] at hi
    rw [List.getElem_set]
    by_cases e2 : a = i
    · rw [if_pos e2]
      refine ⟨rfl, by simp [h2], fun x hx => ?_⟩
      rcases List.mem_or_eq_of_mem_set hx with hx | hx
      · exact h3 x hx
      · rw [hx, h4, h4, k4, at0_eq (by omega), at0_eq (by omega), at0_eq (by omega)]
        have q1 := h3 _ (List.getElem_mem (show b < r.length by omega))
        have q2 := h3 _ (List.getElem_mem (show k < r.length by omega))
        have q3 := k3 _ (List.getElem_mem (show b < rk.length by omega))
        omega
    · rw [if_neg e2]; exact h.row i hi
theorem Sq.stB {M : Mt} {s k a : Nat} (h : Sq M s) (hk : k < s) (ha : a < s) : ∀ {b : Nat}, b ≤ s → Sq (stB M k a b) s
  | 0, _ => h
  | b + 1, hb => (Sq.stB h hk ha (b := b) (by omega)).st1 hk ha (by omega)
theorem Sq.stA {M : Mt} {s k : Nat} (h : Sq M s) (hk : k < s) : ∀ {a : Nat}, a ≤ s → Sq (stA M k s a) s
  | 0, _ => h
  | a + 1, ha => (Sq.stA h hk (a := a) (by omega)).stB hk (by omega) (Nat.le_refl _)
theorem Sq.stK {M : Mt} {s : Nat} (h : Sq M s) : ∀ {k : Nat}, k ≤ s → Sq (stK M s k) s
  | 0, _ => h
  | k + 1, hk => (Sq.stK h (k := k) (by omega)).stA (by omega) (Nat.le_refl _)
theorem psI_sq {s : Nat} {vs : List Vt} (hp : profB (s : Int) vs = true) : Sq (psI vs s s) s := by
  refine ⟨psI_len (Nat.le_refl _), fun a ha => ?_⟩
  have e : psI vs s s = (List.range s).map fun i => (false, m0r vs s i) := by simp [psI]
  have hl : a < s := by rw [psI_len (Nat.le_refl _)] at ha; exact ha
  have e2 : (psI vs s s)[a] = (false, m0r vs s a) := by simp only [e]; simp
  rw [e2]
  refine ⟨rfl, by simp [m0r], fun x hx => ?_⟩
  simp only [m0r, List.mem_map, List.mem_range] at hx
  obtain ⟨b, _, rfl⟩ := hx
  have := prT_bd hp (a : Int) (b : Int)
  unfold m0
  split <;> omega
theorem psT_sq {s : Nat} {vs : List Vt} (hp : profB (s : Int) vs = true) : Sq (psT vs s) s := (psI_sq hp).stK (Nat.le_refl _)
def szB (M : Mt) (a b : Int) : Bool := decide (m2 M b.toNat a.toNat ≤ m2 M a.toNat b.toNat)
def szT (vs : List Vt) (s : Nat) : List Int := thT (szB (psT vs s)) s
def szTo (M : Mt) (a : Nat) : Nat → Bool
  | 0 => true
  | b + 1 => szTo M a b && szB M a b
theorem szTo_eq {M : Mt} {a : Nat} : ∀ {b : Nat}, szTo M a b = tiTo (szB M) a b
  | 0 => rfl
  | b + 1 => by
    unfold szTo tiTo
    rw [szTo_eq]
    by_cases e : (a : Int) = (b : Int)
    · rw [← e]; simp [szB]
    · simp [e]
end Go.Proofs.YtigepnpiofcooaaGreat.Ax
namespace Go.Proofs.YtigepnpiofcooaaGreat.Ax
open Go Go.RowKit
set_option linter.unusedSimpArgs false
noncomputable def mPst : List AV → Option AV := mk (fun p => profB (p.1 : Int) p.2.2 = true) (fun (p : PrN) => [prof (p.1 : Int) p.2.1 p.2.2]) (fun p => intss false (psT p.2.2 p.1))
theorem mPst_at (s : Nat) (nl : Bool) (vs : List Vt) (h : profB (s : Int) vs = true) : mPst [.agg [.v (.int .i64 (s : Int)), .sl nl 2 (vs.map vote)]] = some (.sl false 1 ((psT vs s).map row)) :=
  mk_eq (enc := fun (p : PrN) => [prof (p.1 : Int) p.2.1 p.2.2]) (x := (s, nl, vs)) (fun x y h => by rw [PrN_inj h]) h
set_option maxRecDepth 8000 in
set_option maxHeartbeats 8000000 in
theorem implPst_ok : FnOk Tryz.prog 82 mPst := by
  refine mk_ok fun ⟨S, nl, vs⟩ hp => ?_
  simp only at hp
  obtain ⟨h1, h2, h3⟩ := prof_facts hp
  have hpp := mProf_at (S : Int) nl vs
  rw [hp] at hpp
  have hbt := fun a b => mBeats_at (S : Int) nl vs a b hp
  have hpr := fun a b => mPair_at (S : Int) nl vs a b hp
  have hsq := psI_sq hp
  have hG : FnsOk Tryz.prog [(19, mProf), (73, mBeats), (71, mPair)] := (.cons implProf_ok (.cons beats_ok (.cons pair_ok .nil)))
  refine callOk_awpZ [0] (ctx_ok eqOk hG) mixed (live := [true, true, true, true, true, true, true, true, true, false, false, true, false, false, false, false, true, true, true, false, false, false, false, false, false, false, false, true, true, true, false, false, false, false, true, false, false, false, false, false, false, false, false, false, false, false, false, false, true, true, true, false, false, true, true, true, false, false, true, true, true, false, false, false, true]) (dt := [(12, ⟨[], [], []⟩), (25, ⟨[], [], []⟩)]) Tryz.func82 rfl (by kernel_rfl) (by kernel_rfl) fun w0 hlens => ?_
  clear hlens
  have hm6 : 8 * S ≤ 281474976710656 ∧ S ≤ 4611686018427387904 ∧ 24 * S ≤ 281474976710656 := by omega
  have zz : (psI vs S 0).map row = List.replicate S (AV.sl true 1 []) := by rw [psI_zero, List.map_replicate]; rfl
  simp [Tryz.f82, List.range, List.range.loop, ints, intss, int, bool, row, frac, fracs, ← List.map_take, ← List.map_drop, andThen_n, freeze, frzA, frzAL, sets, prof, hpp, hm6]
  refine awp_range (live := [true, true, true, true, true, true, true, true, true, false, false, true, false, false, false, false, true, true, true, false, false, false, false, false, false, false, false, true, true, true, false, false, false, false, true, false, false, false, false, false, false, false, false, false, false, false, false, false, true, true, true, false, false, true, true, true, false, false, true, true, true, false, false, false, true]) (ctx_ok eqOk hG) mixed [false, true, false, true, false, false, false, false, false, false, false, false, false, false, false, false, true, true] (S) (fun a => True) (fun a => ⟨[.junk, .fp (prof (S : Int) nl vs) 0, .junk, .ref 0 [] 0 S, .junk, .junk, .junk, .junk, .junk, .junk, .junk, .junk, .junk, .junk, .junk, .junk, int (S : Int), int a, .junk, .junk, .junk, .junk, .junk, .junk, .junk, .junk, .junk, .junk, .junk, .junk, .junk, .junk, .junk, .junk, .junk, .junk, .junk, .junk, .junk, .junk, .junk, .junk, .junk, .junk, .junk, .junk, .junk, .junk, .junk, .junk, .junk, .junk, .junk, .junk, .junk, .junk, .junk, .junk, .junk, .junk, .junk, .junk, .junk, .junk, .junk, .junk, .junk, .junk, .junk, .junk, .junk, .junk, .junk, .junk, .junk, .junk, .junk, .junk, .junk, .junk, .junk, .junk, .junk, .junk, .junk, .junk, .junk, .junk, .junk, .junk, .junk, .junk, .junk, .junk, .junk, .junk, .junk, .junk], [⟨true, .sl false 1 ((psI vs S a).map row)⟩]⟩) ?_ (by simp [sub, slotsLe, clean, keep, refsL, refs, once, place, renL, ren, List.replicate, int, bool, prof, zz]) ?_ ?_ ?_
  · omega
  · trivial
  · intro a ha _ hwa
    have haI : (a : Int) < (S : Int) := by omega
    have lI := psI_len (vs := vs) (s := S) (a := a) (by omega)
    have zr : List.replicate S (AV.v (.int .i64 0)) = (fiT (m0 vs a) 0 0 S 0).map int := by rw [fiT_zero, List.map_replicate]; rfl
    have hs1 : (psJ vs S a (fiT (m0 vs a) 0 0 S 0)).map row = ((psI vs S a).map row).set a (.sl false 1 ((fiT (m0 vs a) 0 0 S 0).map int)) := by rw [← psI_set ha, List.map_set]; rfl
    have lJ := fun r => psJ_len (vs := vs) (r := r) ha
    generalize hpi : psI vs S a = X at *
    have haX : a < X.length := by omega
    have lf := fiT_len (g := m0 vs a) (z := 0) (x := 0) (s := S) (a := 0)
    simp [List.range, List.range.loop, ints, intss, int, bool, row, frac, fracs, ← List.map_take, ← List.map_drop, List.all, prof, ha, haI, hm6, haX, lI, zr, lf]
    refine awp_range (live := [true, true, true, true, true, true, true, true, true, false, false, true, false, false, false, false, true, true, true, false, false, false, false, false, false, false, false, true, true, true, false, false, false, false, true, false, false, false, false, false, false, false, false, false, false, false, false, false, true, true, true, false, false, true, true, true, false, false, true, true, true, false, false, false, true]) (ctx_ok eqOk hG) mixed [false, true, false, true, true, false, false, false, false, false, false, false, false, false, false, false, true, true, false, false, false, false, false, false, false, false, false, true, true] (S) (fun b => True) (fun b => ⟨[.junk, .fp (prof (S : Int) nl vs) 0, .junk, .ref 0 [] 0 S, int a, .junk, .junk, .junk, .junk, .junk, .junk, .junk, .junk, .junk, .junk, .junk, int (S : Int), int a, .junk, .junk, .junk, .junk, .junk, .junk, .junk, .junk, .junk, int (S : Int), int b, .junk, .junk, .junk, .junk, .junk, .junk, .junk, .junk, .junk, .junk, .junk, .junk, .junk, .junk, .junk, .junk, .junk, .junk, .junk, .junk, .junk, .junk, .junk, .junk, .junk, .junk, .junk, .junk, .junk, .junk, .junk, .junk, .junk, .junk, .junk, .junk, .junk, .junk, .junk, .junk, .junk, .junk, .junk, .junk, .junk, .junk, .junk, .junk, .junk, .junk, .junk, .junk, .junk, .junk, .junk, .junk, .junk, .junk, .junk, .junk, .junk, .junk, .junk, .junk, .junk, .junk, .junk, .junk, .junk], [⟨true, .sl false 1 ((psJ vs S a (fiT (m0 vs a) 0 0 S b)).map row)⟩]⟩) ?_ (by simp [sub, slotsLe, clean, keep, refsL, refs, once, place, renL, ren, List.replicate, int, bool, prof, lI, lJ, hs1]) ?_ ?_ ?_
    · omega
    · trivial
    · intro b hb _ hwb
      have hbI : (b : Int) < (S : Int) := by omega
      have hz := hbt a b
      have hq := hpr a b
      have hset := fiT_set (g := m0 vs a) (z := 0) (x := 0) (y := m0 vs a b) (s := S) (a := b)
      rw [fiT_next] at hset
      have hJ := psJ_set (vs := vs) (s := S) (a := a) (r := fiT (m0 vs a) 0 0 S b) (r' := fiT (m0 vs a) 0 0 S (b + 1))
      have hat := fun h => psJ_at (vs := vs) (s := S) (a := a) (r := fiT (m0 vs a) 0 0 S b) h
      have l1 := fiT_len (g := m0 vs a) (z := 0) (x := 0) (s := S) (a := b)
      have lb := lJ (fiT (m0 vs a) 0 0 S b)
      have lb1 := lJ (fiT (m0 vs a) 0 0 S (b + 1))
      have hm0 : m0 vs a b = if btB vs a b = true then prT vs a b else 0 := rfl
      cases hc : btB vs a b with
      | true =>
        rw [hc] at hz
        rw [hc, if_pos rfl] at hm0
        have hJ2 : (psJ vs S a (fiT (m0 vs a) 0 0 S (b + 1))).map row = ((psJ vs S a (fiT (m0 vs a) 0 0 S b)).map row).set a (.sl false 1 (((fiT (m0 vs a) 0 0 S b).map int).set b (.v (.int .i64 (prT vs a b))))) := by
          rw [← hJ, List.map_set, ← hset, hm0]; simp [row, List.map_set, int]
        generalize fiT (m0 vs a) 0 0 S (b + 1) = B at *
        generalize fiT (m0 vs a) 0 0 S b = A at *
        generalize psJ vs S a B = Y at *
        generalize psJ vs S a A = X2 at *
        have haX2 : a < X2.length := by omega
        have hat2 := hat haX2
        have hbA : b < A.length := by omega
        simp [List.range, List.range.loop, ints, intss, int, bool, row, frac, fracs, ← List.map_take, ← List.map_drop, List.all, prof, ha, haI, hb, hbI, hz, hq, haX2, hat2, l1, lb, lb1, hbA, hJ2, row, hwb]
      | false =>
        rw [hc] at hz
        rw [hc] at hm0
        simp at hm0
        have e : fiT (m0 vs a) 0 0 S (b + 1) = fiT (m0 vs a) 0 0 S b := by
          have := fiT_next (g := m0 vs a) (z := 0) (s := S) (a := b)
          rw [hm0] at this
          exact this.symm
        simp [List.range, List.range.loop, ints, intss, int, bool, row, frac, fracs, ← List.map_take, ← List.map_drop, List.all, prof, ha, haI, hb, hbI, hz, lb, e, hwb]
    · intro _
      have e : psJ vs S a (fiT (m0 vs a) 0 0 S S) = psI vs S (a + 1) := by rw [fiT_all]; exact psJ_next
      have lI1 := psI_len (vs := vs) (s := S) (a := a + 1) (by omega)
      rw [e]
      simp [List.range, List.range.loop, ints, intss, int, bool, row, frac, fracs, ← List.map_take, ← List.map_drop, List.all, prof, lI1, hwa]
  · intro _
    have lI := psI_len (vs := vs) (s := S) (a := S) (Nat.le_refl _)
    have zk : stK (psI vs S S) S 0 = psI vs S S := rfl
    have ht : psT vs S = stK (psI vs S S) S S := rfl
    rw [ht]
    generalize psI vs S S = M0 at *
    simp [List.range, List.range.loop, ints, intss, int, bool, row, frac, fracs, ← List.map_take, ← List.map_drop, List.all, prof, lI]
    refine awp_range (live := [true, true, true, true, true, true, true, true, true, false, false, true, false, false, false, false, true, true, true, false, false, false, false, false, false, false, false, true, true, true, false, false, false, false, true, false, false, false, false, false, false, false, false, false, false, false, false, false, true, true, true, false, false, true, true, true, false, false, true, true, true, false, false, false, true]) (ctx_ok eqOk hG) mixed [false, true, false, true, false, false, false, false, false, false, false, false, false, false, false, false, false, false, false, false, false, false, false, false, false, false, false, false, false, false, false, false, false, false, false, false, false, false, false, false, false, false, false, false, false, false, false, false, true, true] (S) (fun k => True) (fun k => ⟨[.junk, .fp (prof (S : Int) nl vs) 0, .junk, .ref 0 [] 0 S, .junk, .junk, .junk, .junk, .junk, .junk, .junk, .junk, .junk, .junk, .junk, .junk, .junk, .junk, .junk, .junk, .junk, .junk, .junk, .junk, .junk, .junk, .junk, .junk, .junk, .junk, .junk, .junk, .junk, .junk, .junk, .junk, .junk, .junk, .junk, .junk, .junk, .junk, .junk, .junk, .junk, .junk, .junk, .junk, int (S : Int), int k, .junk, .junk, .junk, .junk, .junk, .junk, .junk, .junk, .junk, .junk, .junk, .junk, .junk, .junk, .junk, .junk, .junk, .junk, .junk, .junk, .junk, .junk, .junk, .junk, .junk, .junk, .junk, .junk, .junk, .junk, .junk, .junk, .junk, .junk, .junk, .junk, .junk, .junk, .junk, .junk, .junk, .junk, .junk, .junk, .junk, .junk, .junk, .junk], [⟨true, .sl false 1 ((stK M0 S k).map row)⟩]⟩) ?_ (by simp [sub, slotsLe, clean, keep, refsL, refs, once, place, renL, ren, List.replicate, int, bool, prof, zk, lI]) ?_ ?_ ?_
    · omega
    · trivial
    · intro k hk _ hwk
      have hkI : (k : Int) < (S : Int) := by omega
      have sk := hsq.stK (k := k) (by omega)
      have hnk : stK M0 S (k + 1) = stA (stK M0 S k) k S S := rfl
      rw [hnk]
      generalize stK M0 S k = M1 at *
      have l1 := sk.len
      have za : stA M1 k S 0 = M1 := rfl
      simp [List.range, List.range.loop, ints, intss, int, bool, row, frac, fracs, ← List.map_take, ← List.map_drop, List.all, prof, hk, hkI]
      refine awp_range (live := [true, true, true, true, true, true, true, true, true, false, false, true, false, false, false, false, true, true, true, false, false, false, false, false, false, false, false, true, true, true, false, false, false, false, true, false, false, false, false, false, false, false, false, false, false, false, false, false, true, true, true, false, false, true, true, true, false, false, true, true, true, false, false, false, true]) (ctx_ok eqOk hG) mixed [false, true, false, true, false, false, true, false, false, false, false, false, false, false, false, false, false, false, false, false, false, false, false, false, false, false, false, false, false, false, false, false, false, false, false, false, false, false, false, false, false, false, false, false, false, false, false, false, true, true, false, false, false, true, true] (S) (fun a => True) (fun a => ⟨[.junk, .fp (prof (S : Int) nl vs) 0, .junk, .ref 0 [] 0 S, .junk, .junk, int k, .junk, .junk, .junk, .junk, .junk, .junk, .junk, .junk, .junk, .junk, .junk, .junk, .junk, .junk, .junk, .junk, .junk, .junk, .junk, .junk, .junk, .junk, .junk, .junk, .junk, .junk, .junk, .junk, .junk, .junk, .junk, .junk, .junk, .junk, .junk, .junk, .junk, .junk, .junk, .junk, .junk, int (S : Int), int k, .junk, .junk, .junk, int (S : Int), int a, .junk, .junk, .junk, .junk, .junk, .junk, .junk, .junk, .junk, .junk, .junk, .junk, .junk, .junk, .junk, .junk, .junk, .junk, .junk, .junk, .junk, .junk, .junk, .junk, .junk, .junk, .junk, .junk, .junk, .junk, .junk, .junk, .junk, .junk, .junk, .junk, .junk, .junk, .junk, .junk, .junk, .junk, .junk], [⟨true, .sl false 1 ((stA M1 k S a).map row)⟩]⟩) ?_ (by simp [sub, slotsLe, clean, keep, refsL, refs, once, place, renL, ren, List.replicate, int, bool, prof, za, l1]) ?_ ?_ ?_
      · omega
      · trivial
      · intro a ha _ hwa
        have haI : (a : Int) < (S : Int) := by omega
        have sa := sk.stA hk (a := a) (by omega)
        have hna : stA M1 k S (a + 1) = stB (stA M1 k S a) k a S := rfl
        rw [hna]
        generalize stA M1 k S a = M3 at *
        have l3 := sa.len
        have zb : stB M3 k a 0 = M3 := rfl
        simp [List.range, List.range.loop, ints, intss, int, bool, row, frac, fracs, ← List.map_take, ← List.map_drop, List.all, prof, ha, haI]
        refine awp_range (live := [true, true, true, true, true, true, true, true, true, false, false, true, false, false, false, false, true, true, true, false, false, false, false, false, false, false, false, true, true, true, false, false, false, false, true, false, false, false, false, false, false, false, false, false, false, false, false, false, true, true, true, false, false, true, true, true, false, false, true, true, true, false, false, false, true]) (ctx_ok eqOk hG) mixed [false, true, false, true, false, false, true, true, false, false, false, false, false, false, false, false, false, false, false, false, false, false, false, false, false, false, false, false, false, false, false, false, false, false, false, false, false, false, false, false, false, false, false, false, false, false, false, false, true, true, false, false, false, true, true, false, false, false, true, true] (S) (fun b => True) (fun b => ⟨[.junk, .fp (prof (S : Int) nl vs) 0, .junk, .ref 0 [] 0 S, .junk, .junk, int k, int a, .junk, .junk, .junk, .junk, .junk, .junk, .junk, .junk, .junk, .junk, .junk, .junk, .junk, .junk, .junk, .junk, .junk, .junk, .junk, .junk, .junk, .junk, .junk, .junk, .junk, .junk, .junk, .junk, .junk, .junk, .junk, .junk, .junk, .junk, .junk, .junk, .junk, .junk, .junk, .junk, int (S : Int), int k, .junk, .junk, .junk, int (S : Int), int a, .junk, .junk, .junk, int (S : Int), int b, .junk, .junk, .junk, .junk, .junk, .junk, .junk, .junk, .junk, .junk, .junk, .junk, .junk, .junk, .junk, .junk, .junk, .junk, .junk, .junk, .junk, .junk, .junk, .junk, .junk, .junk, .junk, .junk, .junk, .junk, .junk, .junk, .junk, .junk, .junk, .junk, .junk, .junk], [⟨true, .sl false 1 ((stB M3 k a b).map row)⟩]⟩) ?_ (by simp [sub, slotsLe, clean, keep, refsL, refs, once, place, renL, ren, List.replicate, int, bool, prof, zb, l3]) ?_ ?_ ?_
        · omega
        · trivial
        · intro b hb _ hwb
          have hbI : (b : Int) < (S : Int) := by omega
          have sb := sa.stB hk ha (b := b) (by omega)
          have sb1 := sa.stB hk ha (b := b + 1) (by omega)
          have hnb : stB M3 k a (b + 1) = st1 (stB M3 k a b) k a b := rfl
          generalize stB M3 k a (b + 1) = N at *
          generalize stB M3 k a b = M at *
          have lM := sb.len
          have lN := sb1.len
          by_cases e : a = b
          · have hNM : N = M := by rw [hnb]; unfold st1; rw [if_pos e]
            subst hNM
            subst e
            simp [List.range, List.range.loop, ints, intss, int, bool, row, frac, fracs, ← List.map_take, ← List.map_drop, List.all, prof, hb, hbI, lM, hwb]
          · have e' : ¬ (a : Int) = (b : Int) := by omega
            have e2 : ((a : Int) == (b : Int)) = false := by simpa using e'
            obtain ⟨r, r1, r2, r3, r4⟩ := sb.get ha
            obtain ⟨q, q1, q2, q3, q4⟩ := sb.get hk
            rw [st1_eq r1 e, r4, r4, q4] at hnb
            have haM : a < M.length := by omega
            have hkM : k < M.length := by omega
            rw [List.getElem?_eq_getElem haM] at r1
            rw [List.getElem?_eq_getElem hkM] at q1
            have r1 := Option.some.inj r1
            have q1 := Option.some.inj q1
            have hbr : b < r.length := by omega
            have hkr : k < r.length := by omega
            have hbq : b < q.length := by omega
            have g1 : r[b] = at0 r b := (at0_eq hbr).symm
            have g2 : r[k] = at0 r k := (at0_eq hkr).symm
            have g3 : q[b] = at0 q b := (at0_eq hbq).symm
            have hN : N.map row = (M.map row).set a (.sl false 1 ((r.map int).set b (.v (.int .i64 (max (at0 r b) (min (at0 r k) (at0 q b))))))) := by rw [hnb, List.map_set]; simp [row, List.map_set, int]
            clear hnb
            simp [List.range, List.range.loop, ints, intss, int, bool, row, frac, fracs, ← List.map_take, ← List.map_drop, List.all, prof, hb, hbI, ha, haI, hk, hkI, lM, lN, e, e', e2, r1, q1, r2, q2, row, g1, g2, g3, hbr, hkr, hbq, hN, hwb]
        · intro _
          have sb1 := sa.stB hk ha (b := S) (Nat.le_refl _)
          have lN := sb1.len
          simp [List.range, List.range.loop, ints, intss, int, bool, row, frac, fracs, ← List.map_take, ← List.map_drop, List.all, prof, lN, hwa]
      · intro _
        have sa1 := sk.stA hk (a := S) (Nat.le_refl _)
        have lN := sa1.len
        simp [List.range, List.range.loop, ints, intss, int, bool, row, frac, fracs, ← List.map_take, ← List.map_drop, List.all, prof, lN, hwk]
    · intro _
      have sk := hsq.stK (k := S) (Nat.le_refl _)
      have lN := sk.len
      generalize stK M0 S S = A at *
      have hAt : A.take S = A := List.take_of_length_le (by omega)
      simp [List.range, List.range.loop, ints, intss, int, bool, row, frac, fracs, ← List.map_take, ← List.map_drop, List.all, prof, lN, hAt, ← List.map_take]
end Go.Proofs.YtigepnpiofcooaaGreat.Ax
