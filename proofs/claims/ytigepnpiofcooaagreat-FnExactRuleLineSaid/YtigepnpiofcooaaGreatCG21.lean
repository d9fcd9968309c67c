/-
  Contracts: the pairs that are kept, and the order by them (the reference). No condition.
-/
import Derived.Test.YtigepnpiofcooaaGreatCG20
import Derived.Test.YtigepnpiofcooaaGreatCG9
import Derived.Test.YtigepnpiofcooaaGreatCG1
namespace Go.Proofs.YtigepnpiofcooaaGreat.Ax
open Go Go.RowKit
set_option linter.unusedSimpArgs false
noncomputable def mLkS : List AV → Option AV := mk (fun p => profB (p.1 : Int) p.2.2 = true) (fun (p : PrN) => [prof (p.1 : Int) p.2.1 p.2.2]) (fun p => .sl false 1 ((kpA p.2.2 p.1).map pcA))
theorem mLkS_at (s : Nat) (nl : Bool) (vs : List Vt) (h : profB (s : Int) vs = true) : mLkS [.agg [.v (.int .i64 (s : Int)), .sl nl 2 (vs.map vote)]] = some (.sl false 1 ((kpA vs s).map pcA)) :=
  mk_eq (enc := fun (p : PrN) => [prof (p.1 : Int) p.2.1 p.2.2]) (x := (s, nl, vs)) (fun x y h => by rw [PrN_inj h]) h
theorem prsB.five {S : Nat} {K : List Int} (h : prsB S K) (hs : S ≤ 5) : prsB 5 K := fun e he => by
  obtain ⟨i, j, h1, h2, h3, h4⟩ := h e he
  exact ⟨i, j, h1, by omega, by omega, h4⟩
set_option maxRecDepth 8000 in
set_option maxHeartbeats 4000000 in
theorem specLkP_ok : FnFrz Tryz.prog 108 true mLkS := by
  refine mk_frz fun ⟨S, nl, vs⟩ hp => ?_
  simp only at hp
  obtain ⟨h1, h2, h3⟩ := prof_facts hp
  have hpp := mProf_at (S : Int) nl vs
  rw [hp] at hpp
  have hl8 := mL8p_at S nl vs hp
  have hPl := pcT_len (vs := vs) (s := S) (by omega)
  have hPr := pcT_prs (vs := vs) (s := S) (by omega)
  have hKr := fun i h => (kp_prs (vs := vs) (s := S) (i := i) (by omega) h).five (by omega)
  have hkp : kpA vs S = kpT (pcT vs S) (pcT vs S).length := rfl
  rw [hkp]
  generalize pcT vs S = P at *
  have zk : kpT P 0 = [] := rfl
  have hG : FnsOk Tryz.prog [(16, mProf), (140, mWay)] := (.cons specProf_ok (.cons l08Way_ok .nil))
  have hM : FnsMut Tryz.prog [] := .nil
  have hV : FnsMov Tryz.prog [] := .nil
  have hK : FnsFrz Tryz.prog [(139, true, mL8p)] := (.cons l08Pairs_ok .nil)
  refine frzOk_of_tr (C := _) (ctxH_ok eqOk hG hM hV hK) (dt := [(7, ⟨[], [], []⟩)]) Tryz.func108 rfl (by kernel_rfl) (by kernel_rfl) fun A w0 => ?_
  refine tr_seq (tr_awp (live := [true, true, true, true, false, true, false, false, true, false, false, true, true, true, true, false, false, false, false, false, false, false, false, false, false, true]) (ctxH_ok eqOk hG hM hV hK) mixed _ _ _ ?_)
  simp [Tryz.f108, List.range, List.range.loop, ints, intss, int, bool, row, frac, fracs, ← List.map_take, ← List.map_drop, andThen_n, prof]
  refine Tr.pre ?_ (le_freeze [0])
  refine tr_awp (live := [true, true, true, true, false, true, false, false, true, false, false, true, true, true, true, false, false, false, false, false, false, false, false, false, false, true]) (ctxH_ok eqOk hG hM hV hK) mixed _ _ _ ?_
  simp [List.range, List.range.loop, ints, intss, int, bool, row, frac, fracs, ← List.map_take, ← List.map_drop, List.all, freeze, frzA, frzAL, sets, prof, hpp, hl8]
  refine awp_range (live := [true, true, true, true, false, true, false, false, true, false, false, true, true, true, true, false, false, false, false, false, false, false, false, false, false, true]) (ctxH_ok eqOk hG hM hV hK) mixed [false, false, false, true, false, false, false, false, false, false, false, true, true, true] (P.length) (fun i => True) (fun i => ⟨[.junk, .junk, .junk, .ref 0 [] 0 (kpT P i).length, .junk, .junk, .junk, .junk, .junk, .junk, .junk, .sl false 1 (P.map pcA), int P.length, int i, .junk, .junk, .junk, .junk, .junk, .junk, .junk, .junk, .junk, .junk, .junk, .junk, .junk, .junk, .junk, .junk, .junk, .junk], [⟨(kpT P i).isEmpty, .sl false 1 ((kpT P i).map pcA)⟩]⟩) ?_ (by simp [sub, slotsLe, clean, keep, refsL, refs, once, place, renL, ren, List.replicate, int, bool, prof, zk]) ?_ ?_ ?_
  · omega
  · trivial
  · intro i hi _ hwi
    have hiI : (i : Int) < (P.length : Int) := by omega
    obtain ⟨_, hkl⟩ := kpT_mem (P := P) (i := i) (by omega)
    obtain ⟨p, q, q1, q2, q3, q4⟩ := hPr _ (List.getElem_mem hi)
    have hwy := mWay_at false (kpT P i) (P[i] % 8) (P[i] / 8) ⟨hKr i (by omega), by omega, by omega, by omega⟩
    have hs : kpT P (i + 1) = if rcB (kpT P i) (at0 P i % 8) (at0 P i / 8) = true then kpT P i else kpT P i ++ [at0 P i] := rfl
    rw [at0_eq hi] at hs
    generalize kpT P (i + 1) = K1 at *
    generalize kpT P i = K at *
    obtain ⟨e, he⟩ : ∃ e, P[i]'hi = e := ⟨_, rfl⟩
    rw [he] at hs hwy
    have epc : pcA e = .sl false 1 [.v (.int .i64 (e / 8)), .v (.int .i64 (e % 8))] := rfl
    have hbb : (K.length + 1) * 24 ≤ 140737488355328 ∧ K.length + 1 ≤ 4611686018427387904 ∧ K.length ≤ 4611686018427387904 ∧ K.length ≤ 4611686018427387903 ∧ K.length * 24 ≤ 140737488355328 := by omega
    have hKt : K.take K.length = K := List.take_length
    cases hc : rcB K (e % 8) (e / 8) with
    | true =>
      rw [hc, if_pos rfl] at hs
      subst hs
      rw [hc] at hwy
      simp [List.range, List.range.loop, ints, intss, int, bool, row, frac, fracs, ← List.map_take, ← List.map_drop, List.all, hi, hiI, he, epc, hwy, hwi, hKt]
    | false =>
      rw [hc, if_neg (by simp)] at hs
      subst hs
      rw [hc] at hwy
      simp [List.range, List.range.loop, ints, intss, int, bool, row, frac, fracs, ← List.map_take, ← List.map_drop, List.all, hi, hiI, he, epc, hwy, hwi, hbb, hKt]
  · intro _
    simp [List.range, List.range.loop, ints, intss, int, bool, row, frac, fracs, ← List.map_take, ← List.map_drop, prof]
def frTo (K out : List Int) (a : Nat) : Nat → Bool
  | 0 => !decide ((a : Int) ∈ out)
  | i + 1 => frTo K out a i && (decide (at0 K i % 8 ≠ (a : Int)) || decide (at0 K i / 8 ∈ out))
theorem frTo_all {K out : List Int} {a : Nat} : frTo K out a K.length = frE K out a := by
  have h : ∀ i, i ≤ K.length → frTo K out a i = (!decide ((a : Int) ∈ out) && (K.take i).all fun e => decide (e % 8 ≠ (a : Int)) || decide (e / 8 ∈ out)) := by
    intro i
    induction i with
    | zero => intro _; simp [frTo]
    | succ i ih =>
      intro hi
      unfold frTo
      rw [ih (by omega), List.take_add_one, List.getElem?_eq_getElem (by omega), at0_eq (by omega), List.all_append, Bool.and_assoc]
      simp
  rw [h _ (Nat.le_refl _), List.take_length]
  rfl
set_option maxRecDepth 8000 in
set_option maxHeartbeats 8000000 in
theorem specPkR_ok : FnOk Tryz.prog 54 mPkR := by
  refine mk_ok fun ⟨S, nl, vs⟩ hp => ?_
  simp only at hp
  obtain ⟨h1, h2, h3⟩ := prof_facts hp
  have hpp := mProf_at (S : Int) nl vs
  rw [hp] at hpp
  have hlk := mLkS_at S nl vs hp
  obtain ⟨hac, hpr⟩ := kpA_facts (S := S) (vs := vs) (by omega)
  have hKl : (kpA vs S).length ≤ 30 := by
    have := (kpT_mem (P := pcT vs S) (i := (pcT vs S).length) (Nat.le_refl _)).2
    have h := pcT_len (vs := vs) (s := S) (by omega)
    unfold kpA; omega
  have hpk : pkA vs S = pkT (kpA vs S) S S := rfl
  rw [hpk]
  generalize kpA vs S = K at *
  have hG : FnsOk Tryz.prog [(16, mProf), (109, mOut)] := (.cons specProf_ok (.cons l07Out_ok .nil))
  have hM : FnsMut Tryz.prog [] := .nil
  have hV : FnsMov Tryz.prog [] := .nil
  have hK : FnsFrz Tryz.prog [(108, true, mLkS)] := (.cons specLkP_ok .nil)
  refine callOk_awpZ [0] (ctxH_ok eqOk hG hM hV hK) mixed (live := [true, true, true, true, true, true, true, false, true, false, false, true, false, false, false, false, false, false, false, true, false, false, false, true, false, false, false, false, false, false, true, true, true, true, false, false, false, false, false, false, false, false, false, false, false, false, false, false, false, false, false, false, true]) (dt := []) Tryz.func54 rfl (by kernel_rfl) (by kernel_rfl) fun w0 hlens => ?_
  clear hlens
  have z0 : pkT K S 0 = [] := rfl
  simp [Tryz.f54, List.range, List.range.loop, ints, intss, int, bool, row, frac, fracs, ← List.map_take, ← List.map_drop, List.all, andThen_n, freeze, frzA, frzAL, sets, prof, hpp, hlk]
  refine awp_loop_of (live := [true, true, true, true, true, true, true, false, true, false, false, true, false, false, false, false, false, false, false, true, false, false, false, true, false, false, false, false, false, false, true, true, true, true, false, false, false, false, false, false, false, false, false, false, false, false, false, false, false, false, false, false, true]) (ctxH_ok eqOk hG hM hV hK) mixed [false, true, false, true, true] (α := {k : Nat // k ≤ S}) (fun k => ⟨[.junk, .fp (prof (S : Int) nl vs) 0, .junk, .sl false 1 (K.map pcA), .ref 0 [] 0 k.1, .junk, .junk, .junk, .junk, .junk, .junk, .junk, .junk, .junk, .junk, .junk, .junk, .junk, .junk, .junk, .junk, .junk, .junk, .junk, .junk, .junk, .junk, .junk, .junk, .junk, .junk, .junk, .junk, .junk, .junk, .junk, .junk, .junk, .junk, .junk, .junk, .junk, .junk, .junk, .junk, .junk, .junk, .junk, .junk, .junk, .junk, .junk, .junk, .junk, .junk, .junk, .junk, .junk], [⟨true, .sl false 1 ((pkT K S k.1).map int)⟩]⟩) (fun k => S - k.1) ⟨0, Nat.zero_le _⟩ (by simp [sub, slotsLe, clean, keep, refsL, refs, once, place, renL, ren, List.replicate, int, bool, prof, z0]) ?_
  rintro ⟨k, hk⟩
  simp only
  obtain ⟨f1, f2, f3, f4⟩ := pkT_facts hac hpr (k := k) hk
  by_cases hks : k < S
  · have hkI : (k : Int) < (S : Int) := by omega
    have hnx : pkT K S (k + 1) = pkT K S k ++ [(((fsTo (frE K (pkT K S k)) S).getD 0 : Nat) : Int)] := rfl
    obtain ⟨i0, hi0⟩ := f4 hks
    rw [hi0] at hnx
    obtain ⟨g1, g2, g3⟩ := fsTo_get hi0
    generalize hO : pkT K S k = out at *
    have hot : out.take k = out := List.take_of_length_le (by omega)
    have ho := fun x => mOut_at false out x
    simp [List.range, List.range.loop, ints, intss, int, bool, row, frac, fracs, ← List.map_take, ← List.map_drop, List.all, prof, hks, hkI, f1]
    refine awp_range (live := [true, true, true, true, true, true, true, false, true, false, false, true, false, false, false, false, false, false, false, true, false, false, false, true, false, false, false, false, false, false, true, true, true, true, false, false, false, false, false, false, false, false, false, false, false, false, false, false, false, false, false, false, true]) (ctxH_ok eqOk hG hM hV hK) mixed [false, true, false, true, true, true] (S) (fun a => a ≤ i0) (fun a => ⟨[.junk, .fp (prof (S : Int) nl vs) 0, .junk, .sl false 1 (K.map pcA), .ref 0 [] 0 k, int a, .junk, .junk, .junk, .junk, .junk, .junk, .junk, .junk, .junk, .junk, .junk, .junk, .junk, .junk, .junk, .junk, .junk, .junk, .junk, .junk, .junk, .junk, .junk, .junk, .junk, .junk, .junk, .junk, .junk, .junk, .junk, .junk, .junk, .junk, .junk, .junk, .junk, .junk, .junk, .junk, .junk, .junk, .junk, .junk, .junk, .junk, .junk, .junk, .junk, .junk, .junk, .junk], [⟨true, .sl false 1 (out.map int)⟩]⟩) ?_ (by simp [sub, slotsLe, clean, keep, refsL, refs, once, place, renL, ren, List.replicate, int, bool, prof, f1]) ?_ ?_ ?_
    · omega
    · omega
    · intro a ha hai hwa
      have haI : (a : Int) < (S : Int) := by omega
      have hoa := ho (a : Int)
      have zf : frTo K out a 0 = !decide ((a : Int) ∈ out) := rfl
      simp [List.range, List.range.loop, ints, intss, int, bool, row, frac, fracs, ← List.map_take, ← List.map_drop, List.all, prof, haI, ha, f1, hot, hoa]
      refine awp_range (live := [true, true, true, true, true, true, true, false, true, false, false, true, false, false, false, false, false, false, false, true, false, false, false, true, false, false, false, false, false, false, true, true, true, true, false, false, false, false, false, false, false, false, false, false, false, false, false, false, false, false, false, false, true]) (ctxH_ok eqOk hG hM hV hK) mixed [false, true, false, true, true, true, true, false, false, false, false, false, false, false, false, false, false, false, false, false, false, false, false, false, false, false, false, false, false, false, true, true, true] (K.length) (fun i => True) (fun i => ⟨[.junk, .fp (prof (S : Int) nl vs) 0, .junk, .sl false 1 (K.map pcA), .ref 0 [] 0 k, int a, bool (frTo K out a i), .junk, .junk, .junk, .junk, .junk, .junk, .junk, .junk, .junk, .junk, .junk, .junk, .junk, .junk, .junk, .junk, .junk, .junk, .junk, .junk, .junk, .junk, .junk, .sl false 1 (K.map pcA), int K.length, int i, .junk, .junk, .junk, .junk, .junk, .junk, .junk, .junk, .junk, .junk, .junk, .junk, .junk, .junk, .junk, .junk, .junk, .junk, .junk, .junk, .junk, .junk, .junk, .junk, .junk], [⟨true, .sl false 1 (out.map int)⟩]⟩) ?_ (by simp [sub, slotsLe, clean, keep, refsL, refs, once, place, renL, ren, List.replicate, int, bool, prof, f1, zf]) ?_ ?_ ?_
      · omega
      · trivial
      · intro i hi _ hwi
        have hiI : (i : Int) < (K.length : Int) := by omega
        have hs : frTo K out a (i + 1) = (frTo K out a i && (decide (at0 K i % 8 ≠ (a : Int)) || decide (at0 K i / 8 ∈ out))) := rfl
        rw [at0_eq hi] at hs
        obtain ⟨e, he⟩ : ∃ e, K[i]'hi = e := ⟨_, rfl⟩
        rw [he] at hs
        have hoe := ho (e / 8)
        have epc : pcA e = .sl false 1 [.v (.int .i64 (e / 8)), .v (.int .i64 (e % 8))] := rfl
        generalize frTo K out a (i + 1) = B at *
        generalize frTo K out a i = A at *
        subst hs
        cases A with
        | false => simp [List.range, List.range.loop, ints, intss, int, bool, row, frac, fracs, ← List.map_take, ← List.map_drop, List.all, prof, hi, hiI, he, epc, f1, hot, hwi]
        | true =>
          by_cases h8 : e % 8 = (a : Int)
          · simp [List.range, List.range.loop, ints, intss, int, bool, row, frac, fracs, ← List.map_take, ← List.map_drop, List.all, prof, hi, hiI, he, epc, f1, hot, hwi, h8, hoe]
          · have h8b : (e % 8 == (a : Int)) = false := by simpa using h8
            have h8c : (e % 8 != (a : Int)) = true := by simpa using h8
            simp [List.range, List.range.loop, ints, intss, int, bool, row, frac, fracs, ← List.map_take, ← List.map_drop, List.all, prof, hi, hiI, he, epc, f1, hot, hwi, h8, h8b, h8c]
      · intro _
        rw [frTo_all]
        by_cases hae : a = i0
        · subst hae
          have hbb : (k + 1) * 8 ≤ 140737488355328 ∧ k + 1 ≤ 4611686018427387904 := by omega
          simp [List.range, List.range.loop, ints, intss, int, bool, row, frac, fracs, ← List.map_take, ← List.map_drop, List.all, prof, g2, f1, hbb]
          refine ⟨⟨k + 1, by omega⟩, ?_, by simp; omega⟩
          simp [sub, slotsLe, clean, keep, refsL, refs, once, place, renL, ren, List.replicate, int, bool, prof, hnx]
        · have hg := g3 a (by omega)
          simp [List.range, List.range.loop, ints, intss, int, bool, row, frac, fracs, ← List.map_take, ← List.map_drop, List.all, prof, hg, f1, hwa]
          omega
    · intro h
      omega
  · obtain rfl : k = S := by omega
    generalize pkT K k k = out at *
    have hot : out.take k = out := List.take_of_length_le (by omega)
    simp [List.range, List.range.loop, ints, intss, int, bool, row, frac, fracs, ← List.map_take, ← List.map_drop, List.all, prof, f1, hot]
end Go.Proofs.YtigepnpiofcooaaGreat.Ax
namespace Go.Proofs.YtigepnpiofcooaaGreat.Ax
open Go Go.RowKit
set_option linter.unusedSimpArgs false
def cI (q : Nat → Nat → Bool) (i : Nat) : Nat → Nat
  | 0 => 0
  | m + 1 => cI q i m + if q i (i + 1 + m) = true then 1 else 0
def cS (q : Nat → Nat → Bool) (n : Nat) : Nat → Nat
  | 0 => 0
  | k + 1 => cS q n k + if q k n = true then 1 else 0
def T1 (q : Nat → Nat → Bool) (n : Nat) : Nat → Nat
  | 0 => 0
  | k + 1 => T1 q n k + cI q k (n - (k + 1))
def T2 (q : Nat → Nat → Bool) : Nat → Nat
  | 0 => 0
  | n + 1 => T2 q n + cS q n n
theorem T1_up {q : Nat → Nat → Bool} {n : Nat} : ∀ k, k ≤ n → T1 q (n + 1) k = T1 q n k + cS q n k
  | 0, _ => rfl
  | k + 1, h => by
    have ih := T1_up (q := q) (n := n) k (by omega)
    have e : n + 1 - (k + 1) = n - (k + 1) + 1 := by omega
    have e2 : k + 1 + (n - (k + 1)) = n := by omega
    show T1 q (n + 1) k + cI q k (n + 1 - (k + 1)) = T1 q n k + cI q k (n - (k + 1)) + (cS q n k + if q k n = true then 1 else 0)
    rw [ih, e]
    show _ + (cI q k (n - (k + 1)) + if q k (k + 1 + (n - (k + 1))) = true then 1 else 0) = _
    rw [e2]
    omega
theorem T_eq {q : Nat → Nat → Bool} : ∀ n, T1 q n n = T2 q n
  | 0 => rfl
  | n + 1 => by
    have e : n + 1 - (n + 1) = 0 := by omega
    show T1 q (n + 1) n + cI q n (n + 1 - (n + 1)) = T2 q n + cS q n n
    rw [T1_up n (Nat.le_refl _), T_eq n, e]
    rfl
theorem cI_le {q : Nat → Nat → Bool} {i : Nat} : ∀ m, cI q i m ≤ m
  | 0 => Nat.le_refl _
  | m + 1 => by
    have := cI_le (q := q) (i := i) m
    unfold cI
    split <;> omega
theorem cS_le {q : Nat → Nat → Bool} {i : Nat} : ∀ m, cS q i m ≤ m
  | 0 => Nat.le_refl _
  | m + 1 => by
    have := cS_le (q := q) (i := i) m
    unfold cS
    split <;> omega
theorem T1_le {q : Nat → Nat → Bool} {n : Nat} : ∀ k, T1 q n k ≤ n * k
  | 0 => Nat.le_refl _
  | k + 1 => by
    have h1 := T1_le (q := q) (n := n) k
    have h2 := cI_le (q := q) (i := k) (n - (k + 1))
    have : n * (k + 1) = n * k + n := Nat.mul_succ n k
    unfold T1
    omega
def swQ (a b : List Int) (i j : Nat) : Bool := pfB b (at0 a j) (at0 a i)
def swN (a b : List Int) : Int := (T2 (swQ a b) a.length : Nat)
theorem swN_bd {a b : List Int} (h : a.length ≤ 5) : 0 ≤ swN a b ∧ swN a b ≤ 25 := by
  have := T1_le (q := swQ a b) (n := a.length) a.length
  have h5 : a.length * a.length ≤ 5 * 5 := Nat.mul_le_mul h h
  rw [T_eq] at this
  unfold swN
  omega
theorem swQ_at {a b : List Int} {i j : Nat} (hi : i < a.length) (hj : j < a.length) : swQ a b i j = pfB b a[j] a[i] := by unfold swQ; rw [at0_eq hi, at0_eq hj]
noncomputable def mSwd : List AV → Option AV := mk (fun p => rankB p.2.1.length p.2.1 = true ∧ rankB p.2.2.2.length p.2.2.2 = true ∧ p.2.1.length = p.2.2.2.length) (fun (p : (Bool) × (List Int) × (Bool) × (List Int)) => [ints p.1 p.2.1, ints p.2.2.1 p.2.2.2]) (fun p => int (swN p.2.1 p.2.2.2))
theorem mSwd_at (nl : Bool) (a : List Int) (nk : Bool) (b : List Int) (hpre : rankB a.length a = true ∧ rankB b.length b = true ∧ a.length = b.length) : mSwd [.sl nl 1 (a.map int), .sl nk 1 (b.map int)] = some (.v (.int .i64 (swN a b))) :=
  mk_eq (enc := fun (p : (Bool) × (List Int) × (Bool) × (List Int)) => [ints p.1 p.2.1, ints p.2.2.1 p.2.2.2]) (x := (nl, a, nk, b)) (by rintro ⟨a0, a1, a2, a3⟩ ⟨b0, b1, b2, b3⟩ h; simp [ints, intss, int, bool, row, frac, fracs, map_int_inj, map_row_inj, frac_inj, map_frac_inj] at h; simp [h]) hpre
set_option maxHeartbeats 2000000 in
theorem implSwd_ok : FnOk Tryz.prog 134 mSwd := by
  refine mk_ok fun ⟨nl, a, nk, b⟩ hp => ?_
  simp only at hp
  obtain ⟨ha, hb, hab⟩ := hp
  obtain ⟨n1, n5, _⟩ := rank_facts ha
  have r1 := mIsRk_at nl a
  have r2 := mIsRk_at nk b
  rw [ha] at r1
  rw [hb] at r2
  have hpf := mPref_at nk b
  have hsw : swN a b = (T1 (swQ a b) a.length a.length : Nat) := by unfold swN; rw [T_eq]
  have hle := fun k => T1_le (q := swQ a b) (n := a.length) k
  have hba : b.length = a.length := hab.symm
  have hG : FnsOk Tryz.prog [(153, mIsRk), (118, mPref)] := (.cons isRank_ok (.cons implPref_ok .nil))
  refine callOk_awp (ctx_ok eqOk hG) mixed (live := [true, true, false, false, true, true, true, true, false, true, false, false, false, false, false, false, false, false, false, false, false, false, false, false, true, true, true, true, true, false, false, false, false, false, false, true, true, true, true, false, false, false, false, false, true]) (dt := []) Tryz.func134 rfl (by kernel_rfl) (by kernel_rfl) fun w0 hlens => ?_
  clear hlens
  rw [hsw]
  simp [Tryz.f134, List.range, List.range.loop, ints, intss, int, bool, row, frac, fracs, ← List.map_take, ← List.map_drop, nlt0, r1, r2, hba]
  refine awp_range (live := [true, true, false, false, true, true, true, true, false, true, false, false, false, false, false, false, false, false, false, false, false, false, false, false, true, true, true, true, true, false, false, false, false, false, false, true, true, true, true, false, false, false, false, false, true]) (ctx_ok eqOk hG) mixed [true, true, false, false, false, true, false, false, false, false, false, false, false, false, false, false, false, false, false, false, false, false, false, false, false, true, true, true] (a.length) (fun i => True) (fun i => ⟨[ints nl a, ints nk b, .junk, .junk, .junk, int (T1 (swQ a b) a.length i : Nat), .junk, .junk, .junk, .junk, .junk, .junk, .junk, .junk, .junk, .junk, .junk, .junk, .junk, .junk, .junk, .junk, .junk, .junk, .junk, ints nl a, int a.length, int i, .junk, .junk, .junk, .junk, .junk, .junk, .junk, .junk, .junk, .junk, .junk, .junk, .junk, .junk, .junk, .junk, .junk, .junk, .junk, .junk, .junk, .junk], []⟩) ?_ (by simp [sub, slotsLe, clean, keep, refsL, refs, once, place, renL, ren, List.replicate, int, bool, T1, ints]) ?_ ?_ ?_
  · omega
  · trivial
  · intro i hi _ hwi
    have hiI : (i : Int) < (a.length : Int) := by omega
    have hi1 : i + 1 ≤ a.length := by omega
    have hD : (a.drop (i + 1)).length = a.length - (i + 1) := List.length_drop
    have htk : List.take (a.length - (i + 1)) (List.drop (i + 1) a) = List.drop (i + 1) a := List.take_of_length_le (by omega)
    have hget : ∀ m (hm : m < (a.drop (i + 1)).length) (h2 : i + 1 + m < a.length), (a.drop (i + 1))[m] = a[i + 1 + m] := fun m hm _ => List.getElem_drop
    have hs : T1 (swQ a b) a.length (i + 1) = T1 (swQ a b) a.length i + cI (swQ a b) i (a.length - (i + 1)) := rfl
    have hle1 : T1 (swQ a b) a.length i ≤ 25 := Nat.le_trans (hle i) (Nat.le_trans (Nat.mul_le_mul (show a.length ≤ 5 by omega) (show i ≤ 5 by omega)) (by decide))
    have zc : cI (swQ a b) i 0 = 0 := rfl
    rw [← hD] at hs
    have htk2 : List.take (List.drop (i + 1) a).length (List.drop (i + 1) (a.map int)) = (List.drop (i + 1) a).map int := by rw [hD, ← List.map_drop, ← List.map_take, htk]
    have hD2 := hD.symm
    generalize a.drop (i + 1) = D at *
    simp [List.range, List.range.loop, ints, intss, int, bool, row, frac, fracs, ← List.map_take, ← List.map_drop, nlt0, hi, hiI, hi1, hwi, htk]
    refine awp_range (live := [true, true, false, false, true, true, true, true, false, true, false, false, false, false, false, false, false, false, false, false, false, false, false, false, true, true, true, true, true, false, false, false, false, false, false, true, true, true, true, false, false, false, false, false, true]) (ctx_ok eqOk hG) mixed [true, true, false, false, false, true, false, true, false, false, false, false, false, false, false, false, false, false, false, false, false, false, false, false, false, true, true, true, false, false, false, false, false, false, false, true, true, true] (D.length) (fun m => True) (fun m => ⟨[ints nl a, ints nk b, .junk, .junk, .junk, int (T1 (swQ a b) a.length i + cI (swQ a b) i m : Nat), .junk, int a[i], .junk, .junk, .junk, .junk, .junk, .junk, .junk, .junk, .junk, .junk, .junk, .junk, .junk, .junk, .junk, .junk, .junk, ints nl a, int a.length, int i, .junk, .junk, .junk, .junk, .junk, .junk, .junk, .sl nl 1 (D.map int), int D.length, int m, .junk, .junk, .junk, .junk, .junk, .junk, .junk, .junk, .junk, .junk, .junk, .junk], []⟩) ?_ (by simp [sub, slotsLe, clean, keep, refsL, refs, once, place, renL, ren, List.replicate, int, bool, zc, ints, htk2, hD2]) ?_ ?_ ?_
    · omega
    · trivial
    · intro m hm _ hwm
      have hmI : (m : Int) < (D.length : Int) := by omega
      have hq := swQ_at (b := b) hi (show i + 1 + m < a.length by omega)
      rw [← hget m hm (by omega)] at hq
      have hz := hpf D[m] a[i]
      rw [← hq] at hz
      have hc : cI (swQ a b) i (m + 1) = cI (swQ a b) i m + if swQ a b i (i + 1 + m) = true then 1 else 0 := rfl
      have hcl := cI_le (q := swQ a b) (i := i) m
      have hw : IntKind.i64.wrap ((T1 (swQ a b) a.length i : Int) + (cI (swQ a b) i m : Int) + 1) = (T1 (swQ a b) a.length i : Int) + ((cI (swQ a b) i m : Int) + 1) := by rw [Int.add_assoc]; exact wrapI (by omega) (by omega)
      cases t : swQ a b i (i + 1 + m) <;> rw [t] at hz hc <;> simp at hc <;> simp [List.range, List.range.loop, ints, intss, int, bool, row, frac, fracs, ← List.map_take, ← List.map_drop, nlt0, hm, hmI, hz, hc, hwm, hw]
    · intro _
      simp [List.range, List.range.loop, ints, intss, int, bool, row, frac, fracs, ← List.map_take, ← List.map_drop, nlt0, hwi, hs]
  · intro _
    simp [List.range, List.range.loop, ints, intss, int, bool, row, frac, fracs, ← List.map_take, ← List.map_drop, nlt0]
set_option maxHeartbeats 2000000 in
theorem specSwd_ok : FnOk Tryz.prog 158 mSwd := by
  refine mk_ok fun ⟨nl, a, nk, b⟩ hp => ?_
  simp only at hp
  obtain ⟨ha, hb, hab⟩ := hp
  obtain ⟨n1, n5, _⟩ := rank_facts ha
  have hpf := mPref_at nk b
  have hsw : swN a b = (T2 (swQ a b) a.length : Nat) := rfl
  have zt : T2 (swQ a b) 0 = 0 := rfl
  have hle : ∀ k, k ≤ 5 → T2 (swQ a b) k ≤ 25 := fun k hk => by
    have := T1_le (q := swQ a b) (n := k) k
    rw [T_eq] at this
    exact Nat.le_trans this (Nat.le_trans (Nat.mul_le_mul hk hk) (by decide))
  have hG : FnsOk Tryz.prog [(136, mPref)] := (.cons specPref_ok .nil)
  refine callOk_awp (ctx_ok eqOk hG) mixed (live := [true, true, false, false, true, true, true, true, false, true, true, true, true, true, false, false, false, false, false, true, true, true, true, false, false, false, false, false, true]) (dt := []) Tryz.func158 rfl (by kernel_rfl) (by kernel_rfl) fun w0 hlens => ?_
  clear hlens
  rw [hsw]
  simp [Tryz.f158, List.range, List.range.loop, ints, intss, int, bool, row, frac, fracs, ← List.map_take, ← List.map_drop, nlt0]
  refine awp_range (live := [true, true, false, false, true, true, true, true, false, true, true, true, true, true, false, false, false, false, false, true, true, true, true, false, false, false, false, false, true]) (ctx_ok eqOk hG) mixed [true, true, false, false, false, true, false, false, false, false, true, true, true] (a.length) (fun i => True) (fun i => ⟨[ints nl a, ints nk b, .junk, .junk, .junk, int (T2 (swQ a b) i : Nat), .junk, .junk, .junk, .junk, ints nl a, int a.length, int i, .junk, .junk, .junk, .junk, .junk, .junk, .junk, .junk, .junk, .junk, .junk, .junk, .junk, .junk, .junk, .junk, .junk, .junk, .junk, .junk, .junk], []⟩) ?_ (by simp [sub, slotsLe, clean, keep, refsL, refs, once, place, renL, ren, List.replicate, int, bool, zt, ints]) ?_ ?_ ?_
  · omega
  · trivial
  · intro i hi _ hwi
    have hiI : (i : Int) < (a.length : Int) := by omega
    have hi0 : i ≤ a.length := by omega
    have hD : (a.take i).length = i := by rw [List.length_take]; omega
    have hget : ∀ m (hm : m < (a.take i).length) (h2 : m < a.length), (a.take i)[m] = a[m] := fun m hm _ => List.getElem_take
    have hs : T2 (swQ a b) (i + 1) = T2 (swQ a b) i + cS (swQ a b) i i := rfl
    have hle1 := hle i (by omega)
    have zc : cS (swQ a b) i 0 = 0 := rfl
    simp [List.range, List.range.loop, ints, intss, int, bool, row, frac, fracs, ← List.map_take, ← List.map_drop, nlt0, hi, hiI, hi0, hwi, hD]
    generalize a.take i = D at *
    refine awp_range (live := [true, true, false, false, true, true, true, true, false, true, true, true, true, true, false, false, false, false, false, true, true, true, true, false, false, false, false, false, true]) (ctx_ok eqOk hG) mixed [true, true, false, false, false, true, false, true, false, false, true, true, true, false, false, false, false, false, false, true, true, true] (i) (fun m => True) (fun m => ⟨[ints nl a, ints nk b, .junk, .junk, .junk, int (T2 (swQ a b) i + cS (swQ a b) i m : Nat), .junk, int a[i], .junk, .junk, ints nl a, int a.length, int i, .junk, .junk, .junk, .junk, .junk, .junk, .sl nl 1 (D.map int), int i, int m, .junk, .junk, .junk, .junk, .junk, .junk, .junk, .junk, .junk, .junk, .junk, .junk], []⟩) ?_ (by simp [sub, slotsLe, clean, keep, refsL, refs, once, place, renL, ren, List.replicate, int, bool, zc, ints]) ?_ ?_ ?_
    · omega
    · trivial
    · intro m hm _ hwm
      have hmI : (m : Int) < (i : Int) := by omega
      have hmD : m < D.length := by omega
      have hq := swQ_at (b := b) (show m < a.length by omega) hi
      rw [← hget m hmD (by omega)] at hq
      have hz := hpf a[i] D[m]
      rw [← hq] at hz
      have hc : cS (swQ a b) i (m + 1) = cS (swQ a b) i m + if swQ a b m i = true then 1 else 0 := rfl
      have hcl := cS_le (q := swQ a b) (i := i) m
      have hw : IntKind.i64.wrap ((T2 (swQ a b) i : Int) + (cS (swQ a b) i m : Int) + 1) = (T2 (swQ a b) i : Int) + ((cS (swQ a b) i m : Int) + 1) := by rw [Int.add_assoc]; exact wrapI (by omega) (by omega)
      cases t : swQ a b m i <;> rw [t] at hz hc <;> simp at hc <;> simp [List.range, List.range.loop, ints, intss, int, bool, row, frac, fracs, ← List.map_take, ← List.map_drop, nlt0, hm, hmI, hmD, hz, hc, hwm, hw]
    · intro _
      simp [List.range, List.range.loop, ints, intss, int, bool, row, frac, fracs, ← List.map_take, ← List.map_drop, nlt0, hwi, hs]
  · intro _
    simp [List.range, List.range.loop, ints, intss, int, bool, row, frac, fracs, ← List.map_take, ← List.map_drop, nlt0]
end Go.Proofs.YtigepnpiofcooaaGreat.Ax
namespace Go.Proofs.YtigepnpiofcooaaGreat.Ax
open Go Go.RowKit
set_option linter.unusedSimpArgs false
def kmT (l : List Int) (vs : List Vt) : Int := (vs.map fun v => v.2 * swN v.1.2 l).sum
theorem kmT_zero {l : List Int} : kmT l [] = 0 := rfl
theorem kmT_succ {l : List Int} {vs : List Vt} {k : Nat} (h : k < vs.length) : kmT l (vs.take (k + 1)) = kmT l (vs.take k) + vs[k].2 * swN vs[k].1.2 l := by
  unfold kmT
  rw [List.take_succ_eq_append_getElem h, List.map_append, List.sum_append]
  simp
theorem kmT_bd {s : Int} {l : List Int} : ∀ {vs : List Vt}, (∀ v ∈ vs, rankB s v.1.2 = true ∧ 1 ≤ v.2 ∧ v.2 ≤ 1000) → 0 ≤ kmT l vs ∧ kmT l vs ≤ 25000 * vs.length
  | [], _ => by simp [kmT]
  | v :: vs, h => by
    have ih := kmT_bd (l := l) (vs := vs) fun x hx => h x (List.mem_cons_of_mem _ hx)
    obtain ⟨hr, h1, h2⟩ := h v List.mem_cons_self
    obtain ⟨_, n5, hl, _⟩ := rank_facts hr
    obtain ⟨b1, b2⟩ := swN_bd (a := v.1.2) (b := l) (by omega)
    have m1 : 0 ≤ v.2 * swN v.1.2 l := Int.mul_nonneg (by omega) b1
    have m2 : v.2 * swN v.1.2 l ≤ 1000 * 25 := Int.mul_le_mul h2 b2 b1 (by omega)
    have e : kmT l (v :: vs) = v.2 * swN v.1.2 l + kmT l vs := by unfold kmT; simp
    rw [e, List.length_cons]
    omega
noncomputable def mKs : List AV → Option AV := mk (fun p => profB p.1 p.2.2.1 = true ∧ rankB p.1 p.2.2.2.2 = true) (fun (p : (Int) × (Bool) × (List Vt) × (Bool) × (List Int)) => [prof p.1 p.2.1 p.2.2.1, ints p.2.2.2.1 p.2.2.2.2]) (fun p => int (kmT p.2.2.2.2 p.2.2.1))
theorem mKs_at (s : Int) (nl : Bool) (vs : List Vt) (nk : Bool) (l : List Int) (hpre : profB s vs = true ∧ rankB s l = true) : mKs [.agg [.v (.int .i64 s), .sl nl 2 (vs.map vote)], .sl nk 1 (l.map int)] = some (.v (.int .i64 (kmT l vs))) :=
  mk_eq (enc := fun (p : (Int) × (Bool) × (List Vt) × (Bool) × (List Int)) => [prof p.1 p.2.1 p.2.2.1, ints p.2.2.2.1 p.2.2.2.2]) (x := (s, nl, vs, nk, l)) (by rintro ⟨a0, a1, a2, a3, a4⟩ ⟨b0, b1, b2, b3, b4⟩ h; simp [ints, intss, int, bool, row, frac, fracs, map_int_inj, map_row_inj, frac_inj, map_frac_inj, vts, prof, map_vote_inj] at h; simp [h]) hpre
set_option maxHeartbeats 2000000 in
theorem implKs_ok : FnOk Tryz.prog 95 mKs := by
  refine mk_ok fun ⟨s, nl, vs, nk, l⟩ hp => ?_
  simp only at hp
  obtain ⟨hp, hr⟩ := hp
  obtain ⟨h1, h2, h3⟩ := prof_facts hp
  obtain ⟨_, n5, hl, _⟩ := rank_facts hr
  have hpp := mProf_at s nl vs
  rw [hp] at hpp
  have hrr := mRank_at s nk l
  rw [hr] at hrr
  have hsw := fun v (h : v ∈ vs) => mSwd_at v.1.1 v.1.2 nk l ⟨by rw [(rank_facts (h3 v h).1).2.2.1]; exact (h3 v h).1, by rw [hl]; exact hr, by have := (rank_facts (h3 v h).1).2.2.1; omega⟩
  have hG : FnsOk Tryz.prog [(19, mProf), (60, mRank), (134, mSwd)] := (.cons implProf_ok (.cons implRankingOk_ok (.cons implSwd_ok .nil)))
  refine callOk_awpZ [0] (ctx_ok eqOk hG) mixed (live := [true, true, true, false, true, true, false, true, false, false, false, false, false, false, false, false, false, true, false, true, true, true, true]) (dt := [(7, ⟨[], [], []⟩)]) Tryz.func95 rfl (by kernel_rfl) (by kernel_rfl) fun w0 hlens => ?_
  clear hlens
  have z0 := kmT_zero (l := l)
  simp [Tryz.f95, List.range, List.range.loop, ints, intss, int, bool, row, frac, fracs, ← List.map_take, ← List.map_drop, andThen_n, freeze, frzA, frzAL, sets, prof, hpp, hrr]
  refine awp_range (live := [true, true, true, false, true, true, false, true, false, false, false, false, false, false, false, false, false, true, false, true, true, true, true]) (ctx_ok eqOk hG) mixed [false, true, false, false, false, true, false, false, false, false, false, false, false, false, false, false, false, false, false, true, true, true] (vs.length) (fun k => True) (fun k => ⟨[.junk, ints nk l, .junk, .junk, .junk, int (kmT l (vs.take k)), .junk, .junk, .junk, .junk, .junk, .junk, .junk, .junk, .junk, .junk, .junk, .junk, .junk, vts nl vs, int vs.length, int k, .junk, .junk, .junk, .junk, .junk, .junk, .junk, .junk, .junk, .junk, .junk, .junk, .junk, .junk], []⟩) ?_ (by simp [sub, slotsLe, clean, keep, refsL, refs, once, place, renL, ren, List.replicate, int, bool, prof, vts, z0, ints]) ?_ ?_ ?_
  · omega
  · trivial
  · intro k hk _ hwk
    have hz := hsw _ (List.getElem_mem hk)
    have hs := kmT_succ (l := l) hk
    have hb := kmT_bd (s := s) (l := l) (vs := vs.take k) fun v hv => h3 v (List.mem_of_mem_take hv)
    obtain ⟨hvr, hv1, hv2⟩ := h3 _ (List.getElem_mem hk)
    have hvl := (rank_facts hvr).2.2.1
    obtain ⟨b1, b2⟩ := swN_bd (a := vs[k].1.2) (b := l) (by omega)
    have m1 : 0 ≤ vs[k].2 * swN vs[k].1.2 l := Int.mul_nonneg (by omega) b1
    have m2 : vs[k].2 * swN vs[k].1.2 l ≤ 1000 * 25 := Int.mul_le_mul hv2 b2 b1 (by omega)
    rw [List.length_take] at hb
    have hw1 : IntKind.i64.wrap (vs[k].2 * swN vs[k].1.2 l) = vs[k].2 * swN vs[k].1.2 l := wrapI (by omega) (by omega)
    have hw : IntKind.i64.wrap (kmT l (vs.take k) + vs[k].2 * swN vs[k].1.2 l) = kmT l (vs.take k) + vs[k].2 * swN vs[k].1.2 l := wrapI (by omega) (by omega)
    generalize kmT l (vs.take (k + 1)) = B at *
    generalize kmT l (vs.take k) = A at *
    subst hs
    simp [List.range, List.range.loop, ints, intss, int, bool, row, frac, fracs, ← List.map_take, ← List.map_drop, prof, vts, vote, hk, hwk, hz, hw1, hw]
  · intro _
    simp [List.range, List.range.loop, ints, intss, int, bool, row, frac, fracs, ← List.map_take, ← List.map_drop, prof, vts]
set_option maxHeartbeats 2000000 in
theorem specKs_ok : FnOk Tryz.prog 143 mKs := by
  refine mk_ok fun ⟨s, nl, vs, nk, l⟩ hp => ?_
  simp only at hp
  obtain ⟨hp, hr⟩ := hp
  obtain ⟨h1, h2, h3⟩ := prof_facts hp
  obtain ⟨_, n5, hl, _⟩ := rank_facts hr
  have hpp := mProf_at s nl vs
  rw [hp] at hpp
  have hrr := mRank_at s nk l
  rw [hr] at hrr
  have hsw := fun v (h : v ∈ vs) => mSwd_at v.1.1 v.1.2 nk l ⟨by rw [(rank_facts (h3 v h).1).2.2.1]; exact (h3 v h).1, by rw [hl]; exact hr, by have := (rank_facts (h3 v h).1).2.2.1; omega⟩
  have hG : FnsOk Tryz.prog [(158, mSwd)] := (.cons specSwd_ok .nil)
  refine callOk_awpZ [0] (ctx_ok eqOk hG) mixed (live := [true, true, true, false, true, true, false, true, false, true, true, true, true]) (dt := [(5, ⟨[], [], []⟩)]) Tryz.func143 rfl (by kernel_rfl) (by kernel_rfl) fun w0 hlens => ?_
  clear hlens
  have z0 := kmT_zero (l := l)
  simp [Tryz.f143, List.range, List.range.loop, ints, intss, int, bool, row, frac, fracs, ← List.map_take, ← List.map_drop, andThen_n, freeze, frzA, frzAL, sets, prof, hpp, hrr]
  refine awp_range (live := [true, true, true, false, true, true, false, true, false, true, true, true, true]) (ctx_ok eqOk hG) mixed [false, true, false, false, false, true, false, false, false, true, true, true] (vs.length) (fun k => True) (fun k => ⟨[.junk, ints nk l, .junk, .junk, .junk, int (kmT l (vs.take k)), .junk, .junk, .junk, vts nl vs, int vs.length, int k, .junk, .junk, .junk, .junk, .junk, .junk, .junk, .junk, .junk, .junk, .junk, .junk, .junk, .junk], []⟩) ?_ (by simp [sub, slotsLe, clean, keep, refsL, refs, once, place, renL, ren, List.replicate, int, bool, prof, vts, z0, ints]) ?_ ?_ ?_
  · omega
  · trivial
  · intro k hk _ hwk
    have hz := hsw _ (List.getElem_mem hk)
    have hs := kmT_succ (l := l) hk
    have hb := kmT_bd (s := s) (l := l) (vs := vs.take k) fun v hv => h3 v (List.mem_of_mem_take hv)
    obtain ⟨hvr, hv1, hv2⟩ := h3 _ (List.getElem_mem hk)
    have hvl := (rank_facts hvr).2.2.1
    obtain ⟨b1, b2⟩ := swN_bd (a := vs[k].1.2) (b := l) (by omega)
    have m1 : 0 ≤ vs[k].2 * swN vs[k].1.2 l := Int.mul_nonneg (by omega) b1
    have m2 : vs[k].2 * swN vs[k].1.2 l ≤ 1000 * 25 := Int.mul_le_mul hv2 b2 b1 (by omega)
    rw [List.length_take] at hb
    have hw1 : IntKind.i64.wrap (vs[k].2 * swN vs[k].1.2 l) = vs[k].2 * swN vs[k].1.2 l := wrapI (by omega) (by omega)
    have hw : IntKind.i64.wrap (kmT l (vs.take k) + vs[k].2 * swN vs[k].1.2 l) = kmT l (vs.take k) + vs[k].2 * swN vs[k].1.2 l := wrapI (by omega) (by omega)
    generalize kmT l (vs.take (k + 1)) = B at *
    generalize kmT l (vs.take k) = A at *
    subst hs
    simp [List.range, List.range.loop, ints, intss, int, bool, row, frac, fracs, ← List.map_take, ← List.map_drop, prof, vts, vote, hk, hwk, hz, hw1, hw]
  · intro _
    simp [List.range, List.range.loop, ints, intss, int, bool, row, frac, fracs, ← List.map_take, ← List.map_drop, prof, vts]
end Go.Proofs.YtigepnpiofcooaaGreat.Ax
