/-
  The top cycle of both programs. No condition.
-/
import Derived.Test.YtkfmhpgnhkdebaaGreatDoorCG10
namespace Go.Proofs.YtkfmhpgnhkdebaaGreatDoor.Ax
open Go Go.RowKit
set_option linter.unusedSimpArgs false
def bsT (f : Int → Int → Bool) (s : Nat) : Nat → Nat
  | 0 => 2 ^ s - 1
  | j + 1 => if szI (j + 1) < szI (bsT f s j) ∧ gdAll f (j + 1) s s = true then j + 1 else bsT f s j
theorem bsT_bd {f : Int → Int → Bool} {s : Nat} (hs : 1 ≤ s) : ∀ {j : Nat}, j < 2 ^ s → 1 ≤ bsT f s j ∧ bsT f s j < 2 ^ s
  | 0, _ => by
    have := Nat.pow_le_pow_right (n := 2) (by omega) hs
    unfold bsT; omega
  | j + 1, h => by
    unfold bsT
    split
    · omega
    · exact bsT_bd hs (by omega)
theorem pow_small {s : Nat} (h : s ≤ 5) : 2 ^ s ≤ 32 := Nat.pow_le_pow_right (n := 2) (by omega) h
def topT (s : Nat) (vs : List Vt) : List Int := mbr (bsT (btB vs) s (2 ^ s - 1)) s
theorem topT_len {s : Nat} {vs : List Vt} : (topT s vs).length ≤ s := mbr_len
noncomputable def mTop : List AV → Option AV := mk (fun p => profB p.1 p.2.2 = true) (fun (p : (Int) × (Bool) × (List Vt)) => [prof p.1 p.2.1 p.2.2]) (fun p => .sl false 1 ((topT p.1.toNat p.2.2).map int))
theorem mTop_at (s : Int) (nl : Bool) (vs : List Vt) (hpre : profB s vs = true) : mTop [.agg [.v (.int .i64 s), .sl nl 2 (vs.map vote)]] = some (.sl false 1 ((topT s.toNat vs).map int)) :=
  mk_eq (enc := fun (p : (Int) × (Bool) × (List Vt)) => [prof p.1 p.2.1 p.2.2]) (x := (s, nl, vs)) (by rintro ⟨a0, a1, a2⟩ ⟨b0, b1, b2⟩ h; simp [ints, intss, int, bool, row, frac, fracs, map_int_inj, map_row_inj, frac_inj, map_frac_inj, vts, prof, map_vote_inj] at h; simp [h]) hpre
set_option maxHeartbeats 2000000 in
theorem implTop_ok : FnOk Tryz.prog 20 mTop := by
  refine mk_ok fun ⟨s, nl, vs⟩ hp => ?_
  simp only at hp
  obtain ⟨h1, h2, h3⟩ := prof_facts hp
  obtain ⟨S, rfl⟩ : ∃ S : Nat, s = S := ⟨s.toNat, by omega⟩
  have hpp := mProf_at (S : Int) nl vs
  rw [hp] at hpp
  have hbr := fun m : Int => mBr_at (S : Int) nl vs m
  have hbd := fun j => bsT_bd (f := btB vs) (s := S) (by omega) (j := j)
  have hpw := pow_small (s := S) (by omega)
  have hz : bsT (btB vs) S 0 = 2 ^ S - 1 := rfl
  have hms := fun m h => mbr_small m h S (by omega)
  have hshl := (shr_small 0 (by omega) S (by omega)).2.2.1
  have hto : topT S vs = mbr (bsT (btB vs) S (2 ^ S - 1)) S := rfl
  obtain ⟨N, hN⟩ : ∃ N, 2 ^ S = N + 1 := ⟨2 ^ S - 1, by have := Nat.pow_pos (n := S) (show 0 < 2 by omega); omega⟩
  rw [hN] at hbd hpw hz hms hshl hto
  simp only [Nat.add_sub_cancel] at hz hto
  simp at hshl
  have hw0 : IntKind.i64.wrap (N : Int) = N := wrapI (by omega) (by omega)
  have hG : FnsOk Tryz.prog [(66, mProf), (81, mSize), (82, mBr), (83, mMemb)] := (.cons implProf_ok (.cons sizeOf_ok (.cons beatsRest_ok (.cons membersOf_ok .nil))))
  refine callOk_awpZ [0] (ctx_ok eqOk hG) mixed (live := [true, true, true, true, true, false, false, true, false, false, false, false, false, false, false, false, true, false, false, false, false, false, false, false, false, false, false, false, true]) (dt := []) Tryz.func20 rfl (by kernel_rfl) (by kernel_rfl) fun w0 hlens => ?_
  clear hlens
  simp only [Int.toNat_natCast]
  rw [hto]
  simp [Tryz.f20, List.range, List.range.loop, ints, intss, int, bool, row, frac, fracs, ← List.map_take, ← List.map_drop, nlt0, andThen_n, freeze, frzA, frzAL, sets, prof, hpp, hshl, hw0]
  refine awp_range (live := [true, true, true, true, true, false, false, true, false, false, false, false, false, false, false, false, true, false, false, false, false, false, false, false, false, false, false, false, true]) (ctx_ok eqOk hG) mixed [false, true, false, true, true] (N) (fun j => True) (fun j => ⟨[.junk, .fp (prof (S : Int) nl vs) 0, .junk, int (bsT (btB vs) S j : Int), int ((j : Int) + 1), .junk, .junk, .junk, .junk, .junk, .junk, .junk, .junk, .junk, .junk, .junk, .junk, .junk, .junk, .junk, .junk, .junk, .junk, .junk, .junk, .junk, .junk, .junk, .junk, .junk, .junk, .junk], []⟩) ?_ (by simp [sub, slotsLe, clean, keep, refsL, refs, once, place, renL, ren, List.replicate, int, bool, prof, hz]) ?_ ?_ ?_
  · omega
  · trivial
  · intro j hj _ hwj
    have hjN : (j : Int) < (N : Int) := by omega
    have hw1 : IntKind.i64.wrap ((j : Int) + 1 + 1) = (j : Int) + 1 + 1 := wrapI (by omega) (by omega)
    obtain ⟨b1, b2⟩ := hbd j (by omega)
    have z1 := mSize_at ((j : Int) + 1) ⟨by omega, by omega⟩
    rw [show ((j : Int) + 1).toNat = j + 1 by omega] at z1
    have z2 := mSize_at ((bsT (btB vs) S j : Nat) : Int) ⟨by omega, by omega⟩
    have z3 := hbr ((j : Int) + 1) ⟨hp, by omega, by omega⟩
    rw [show ((j : Int) + 1).toNat = j + 1 by omega] at z3
    have hs : bsT (btB vs) S (j + 1) = if szI (j + 1) < szI (bsT (btB vs) S j) ∧ gdAll (btB vs) (j + 1) S S = true then j + 1 else bsT (btB vs) S j := rfl
    simp only [Int.toNat_natCast] at z2 z3
    generalize bsT (btB vs) S (j + 1) = B' at *
    generalize bsT (btB vs) S j = B at *
    by_cases c1 : szI (j + 1) < szI B
    · cases g : gdAll (btB vs) (j + 1) S S with
      | true =>
        rw [if_pos ⟨c1, g⟩] at hs
        rw [g] at z3
        subst hs
        simp [List.range, List.range.loop, ints, intss, int, bool, row, frac, fracs, ← List.map_take, ← List.map_drop, nlt0, prof, hj, hjN, hshl, z1, z2, z3, c1, hw1]
      | false =>
        rw [if_neg (by rw [g]; simp)] at hs
        rw [g] at z3
        subst hs
        simp [List.range, List.range.loop, ints, intss, int, bool, row, frac, fracs, ← List.map_take, ← List.map_drop, nlt0, prof, hj, hjN, hshl, z1, z2, z3, c1, hw1]
    · rw [if_neg (fun c => c1 c.1)] at hs
      subst hs
      simp [List.range, List.range.loop, ints, intss, int, bool, row, frac, fracs, ← List.map_take, ← List.map_drop, nlt0, prof, hj, hjN, hshl, z1, z2, c1, hw1]
  · intro _
    obtain ⟨b1, b2⟩ := hbd N (by omega)
    have z := mMemb_at ((bsT (btB vs) S N : Nat) : Int) ⟨by omega, by omega⟩
    simp only [Int.toNat_natCast] at z
    obtain ⟨_, e1, e2, _⟩ := hms (bsT (btB vs) S N) (by omega) (by omega)
    rw [e1] at z
    have ne : mbr (bsT (btB vs) S N) S ≠ [] := fun e => by
      have := e2 (by omega)
      rw [e] at this; simp at this
    have ne2 : (mbr (bsT (btB vs) S N) S).isEmpty = false := by simpa using ne
    rw [ne2] at z
    generalize mbr (bsT (btB vs) S N) S = A at *
    have tA : A.take A.length = A := List.take_length
    simp [List.range, List.range.loop, ints, intss, int, bool, row, frac, fracs, ← List.map_take, ← List.map_drop, nlt0, prof, hshl, z, tA]
end Go.Proofs.YtkfmhpgnhkdebaaGreatDoor.Ax
namespace Go.Proofs.YtkfmhpgnhkdebaaGreatDoor.Ax
open Go Go.RowKit
set_option linter.unusedSimpArgs false
def cI (q : Nat → Nat → Bool) (i : Nat) : Nat → Nat
  | 0 => 0
  | m + 1 => cI q i m + if q i (i + 1 + m) = true then 1 else 0
def cS (q : Nat → Nat → Bool) (n : Nat) : Nat → Nat
  | 0 => 0
  | k + 1 => cS q n k + if q k n = true then 1 else 0
def T1 (q : Nat → Nat → Bool) (n : Nat) : Nat → Nat
  | 0 => 0
  | k + 1 => T1 q n k + cI q k (n - (k + 1))
def T2 (q : Nat → Nat → Bool) : Nat → Nat
  | 0 => 0
  | n + 1 => T2 q n + cS q n n
theorem T1_up {q : Nat → Nat → Bool} {n : Nat} : ∀ k, k ≤ n → T1 q (n + 1) k = T1 q n k + cS q n k
  | 0, _ => rfl
  | k + 1, h => by
    have ih := T1_up (q := q) (n := n) k (by omega)
    have e : n + 1 - (k + 1) = n - (k + 1) + 1 := by omega
    have e2 : k + 1 + (n - (k + 1)) = n := by omega
    show T1 q (n + 1) k + cI q k (n + 1 - (k + 1)) = T1 q n k + cI q k (n - (k + 1)) + (cS q n k + if q k n = true then 1 else 0)
    rw [ih, e]
    show _ + (cI q k (n - (k + 1)) + if q k (k + 1 + (n - (k + 1))) = true then 1 else 0) = _
    rw [e2]
    omega
theorem T_eq {q : Nat → Nat → Bool} : ∀ n, T1 q n n = T2 q n
  | 0 => rfl
  | n + 1 => by
    have e : n + 1 - (n + 1) = 0 := by omega
    show T1 q (n + 1) n + cI q n (n + 1 - (n + 1)) = T2 q n + cS q n n
    rw [T1_up n (Nat.le_refl _), T_eq n, e]
    rfl
theorem cI_le {q : Nat → Nat → Bool} {i : Nat} : ∀ m, cI q i m ≤ m
  | 0 => Nat.le_refl _
  | m + 1 => by
    have := cI_le (q := q) (i := i) m
    unfold cI
    split <;> omega
theorem T1_le {q : Nat → Nat → Bool} {n : Nat} : ∀ k, T1 q n k ≤ n * k
  | 0 => Nat.le_refl _
  | k + 1 => by
    have h1 := T1_le (q := q) (n := n) k
    have h2 := cI_le (q := q) (i := k) (n - (k + 1))
    have : n * (k + 1) = n * k + n := Nat.mul_succ n k
    unfold T1
    omega
def swQ (a b : List Int) (i j : Nat) : Bool := pfB b (at0 a j) (at0 a i)
def swN (a b : List Int) : Int := (T2 (swQ a b) a.length : Nat)
theorem swN_bd {a b : List Int} (h : a.length ≤ 5) : 0 ≤ swN a b ∧ swN a b ≤ 25 := by
  have := T1_le (q := swQ a b) (n := a.length) a.length
  have h5 : a.length * a.length ≤ 5 * 5 := Nat.mul_le_mul h h
  rw [T_eq] at this
  unfold swN
  omega
theorem swQ_at {a b : List Int} {i j : Nat} (hi : i < a.length) (hj : j < a.length) : swQ a b i j = pfB b a[j] a[i] := by unfold swQ; rw [at0_eq hi, at0_eq hj]
noncomputable def mSwd : List AV → Option AV := mk (fun p => rankB p.2.1.length p.2.1 = true ∧ rankB p.2.2.2.length p.2.2.2 = true ∧ p.2.1.length = p.2.2.2.length) (fun (p : (Bool) × (List Int) × (Bool) × (List Int)) => [ints p.1 p.2.1, ints p.2.2.1 p.2.2.2]) (fun p => int (swN p.2.1 p.2.2.2))
theorem mSwd_at (nl : Bool) (a : List Int) (nk : Bool) (b : List Int) (hpre : rankB a.length a = true ∧ rankB b.length b = true ∧ a.length = b.length) : mSwd [.sl nl 1 (a.map int), .sl nk 1 (b.map int)] = some (.v (.int .i64 (swN a b))) :=
  mk_eq (enc := fun (p : (Bool) × (List Int) × (Bool) × (List Int)) => [ints p.1 p.2.1, ints p.2.2.1 p.2.2.2]) (x := (nl, a, nk, b)) (by rintro ⟨a0, a1, a2, a3⟩ ⟨b0, b1, b2, b3⟩ h; simp [ints, intss, int, bool, row, frac, fracs, map_int_inj, map_row_inj, frac_inj, map_frac_inj] at h; simp [h]) hpre
set_option maxHeartbeats 2000000 in
theorem implSwd_ok : FnOk Tryz.prog 160 mSwd := by
  refine mk_ok fun ⟨nl, a, nk, b⟩ hp => ?_
  simp only at hp
  obtain ⟨ha, hb, hab⟩ := hp
  obtain ⟨n1, n5, _⟩ := rank_facts ha
  have r1 := mIsRk_at nl a
  have r2 := mIsRk_at nk b
  rw [ha] at r1
  rw [hb] at r2
  have hpf := mPref_at nk b
  have hsw : swN a b = (T1 (swQ a b) a.length a.length : Nat) := by unfold swN; rw [T_eq]
  have hle := fun k => T1_le (q := swQ a b) (n := a.length) k
  have hba : b.length = a.length := hab.symm
  have hG : FnsOk Tryz.prog [(84, mIsRk), (222, mPref)] := (.cons isRank_ok (.cons implPref_ok .nil))
  refine callOk_awp (ctx_ok eqOk hG) mixed (live := [true, true, false, false, true, true, true, true, false, true, false, false, false, false, false, false, false, false, false, false, false, false, false, false, true, true, true, true, true, false, false, false, false, false, false, true, true, true, true, false, false, false, false, false, true]) (dt := []) Tryz.func160 rfl (by kernel_rfl) (by kernel_rfl) fun w0 hlens => ?_
  clear hlens
  rw [hsw]
  simp [Tryz.f160, List.range, List.range.loop, ints, intss, int, bool, row, frac, fracs, ← List.map_take, ← List.map_drop, nlt0, r1, r2, hba]
  refine awp_range (live := [true, true, false, false, true, true, true, true, false, true, false, false, false, false, false, false, false, false, false, false, false, false, false, false, true, true, true, true, true, false, false, false, false, false, false, true, true, true, true, false, false, false, false, false, true]) (ctx_ok eqOk hG) mixed [true, true, false, false, false, true, false, false, false, false, false, false, false, false, false, false, false, false, false, false, false, false, false, false, false, true, true, true] (a.length) (fun i => True) (fun i => ⟨[ints nl a, ints nk b, .junk, .junk, .junk, int (T1 (swQ a b) a.length i : Nat), .junk, .junk, .junk, .junk, .junk, .junk, .junk, .junk, .junk, .junk, .junk, .junk, .junk, .junk, .junk, .junk, .junk, .junk, .junk, ints nl a, int a.length, int i, .junk, .junk, .junk, .junk, .junk, .junk, .junk, .junk, .junk, .junk, .junk, .junk, .junk, .junk, .junk, .junk, .junk, .junk, .junk, .junk, .junk, .junk], []⟩) ?_ (by simp [sub, slotsLe, clean, keep, refsL, refs, once, place, renL, ren, List.replicate, int, bool, T1, ints]) ?_ ?_ ?_
  · omega
  · trivial
  · intro i hi _ hwi
    have hiI : (i : Int) < (a.length : Int) := by omega
    have hi1 : i + 1 ≤ a.length := by omega
    have hD : (a.drop (i + 1)).length = a.length - (i + 1) := List.length_drop
    have htk : List.take (a.length - (i + 1)) (List.drop (i + 1) a) = List.drop (i + 1) a := List.take_of_length_le (by omega)
    have hget : ∀ m (hm : m < (a.drop (i + 1)).length) (h2 : i + 1 + m < a.length), (a.drop (i + 1))[m] = a[i + 1 + m] := fun m hm _ => List.getElem_drop
    have hs : T1 (swQ a b) a.length (i + 1) = T1 (swQ a b) a.length i + cI (swQ a b) i (a.length - (i + 1)) := rfl
    have hle1 : T1 (swQ a b) a.length i ≤ 25 := Nat.le_trans (hle i) (Nat.le_trans (Nat.mul_le_mul (show a.length ≤ 5 by omega) (show i ≤ 5 by omega)) (by decide))
    have zc : cI (swQ a b) i 0 = 0 := rfl
    rw [← hD] at hs
    have htk2 : List.take (List.drop (i + 1) a).length (List.drop (i + 1) (a.map int)) = (List.drop (i + 1) a).map int := by rw [hD, ← List.map_drop, ← List.map_take, htk]
    have hD2 := hD.symm
    generalize a.drop (i + 1) = D at *
    simp [List.range, List.range.loop, ints, intss, int, bool, row, frac, fracs, ← List.map_take, ← List.map_drop, nlt0, hi, hiI, hi1, hwi, htk]
    refine awp_range (live := [true, true, false, false, true, true, true, true, false, true, false, false, false, false, false, false, false, false, false, false, false, false, false, false, true, true, true, true, true, false, false, false, false, false, false, true, true, true, true, false, false, false, false, false, true]) (ctx_ok eqOk hG) mixed [true, true, false, false, false, true, false, true, false, false, false, false, false, false, false, false, false, false, false, false, false, false, false, false, false, true, true, true, false, false, false, false, false, false, false, true, true, true] (D.length) (fun m => True) (fun m => ⟨[ints nl a, ints nk b, .junk, .junk, .junk, int (T1 (swQ a b) a.length i + cI (swQ a b) i m : Nat), .junk, int a[i], .junk, .junk, .junk, .junk, .junk, .junk, .junk, .junk, .junk, .junk, .junk, .junk, .junk, .junk, .junk, .junk, .junk, ints nl a, int a.length, int i, .junk, .junk, .junk, .junk, .junk, .junk, .junk, .sl nl 1 (D.map int), int D.length, int m, .junk, .junk, .junk, .junk, .junk, .junk, .junk, .junk, .junk, .junk, .junk, .junk], []⟩) ?_ (by simp [sub, slotsLe, clean, keep, refsL, refs, once, place, renL, ren, List.replicate, int, bool, zc, ints, htk2, hD2]) ?_ ?_ ?_
    · omega
    · trivial
    · intro m hm _ hwm
      have hmI : (m : Int) < (D.length : Int) := by omega
      have hq := swQ_at (b := b) hi (show i + 1 + m < a.length by omega)
      rw [← hget m hm (by omega)] at hq
      have hz := hpf D[m] a[i]
      rw [← hq] at hz
      have hc : cI (swQ a b) i (m + 1) = cI (swQ a b) i m + if swQ a b i (i + 1 + m) = true then 1 else 0 := rfl
      have hcl := cI_le (q := swQ a b) (i := i) m
      have hw : IntKind.i64.wrap ((T1 (swQ a b) a.length i : Int) + (cI (swQ a b) i m : Int) + 1) = (T1 (swQ a b) a.length i : Int) + ((cI (swQ a b) i m : Int) + 1) := by rw [Int.add_assoc]; exact wrapI (by omega) (by omega)
      cases t : swQ a b i (i + 1 + m) <;> rw [t] at hz hc <;> simp at hc <;> simp [List.range, List.range.loop, ints, intss, int, bool, row, frac, fracs, ← List.map_take, ← List.map_drop, nlt0, hm, hmI, hz, hc, hwm, hw]
    · intro _
      simp [List.range, List.range.loop, ints, intss, int, bool, row, frac, fracs, ← List.map_take, ← List.map_drop, nlt0, hwi, hs]
  · intro _
    simp [List.range, List.range.loop, ints, intss, int, bool, row, frac, fracs, ← List.map_take, ← List.map_drop, nlt0]
end Go.Proofs.YtkfmhpgnhkdebaaGreatDoor.Ax
