/-
  Contracts: all rankings (both programs), the worth of a choice of rooms (both programs). No condition.
-/
import Derived.Test.YtkfmhpgnhkdebaaGreatDoorCG12
import Derived.Test.YtkfmhpgnhkdebaaGreatDoorCG2
import Derived.Test.YtkfmhpgnhkdebaaGreatDoorCK4
import Derived.Test.YtkfmhpgnhkdebaaGreatDoorCG1
import Derived.Ground.NamesProg
import Derived.Shelf.LaysM
import Derived.Shelf.Strconv.Itoa3
namespace Go.Proofs.YtkfmhpgnhkdebaaGreatDoor.Ax
open Go Go.RowKit
set_option linter.unusedSimpArgs false
theorem orders_all : ∀ n, n ≤ 5 → FnOk Tryz.prog 165 (mOrd n)
  | 0, _ => orders_zero
  | n + 1, h => orders_succ (by omega) (orders_all n (by omega))
def l03L (m : Nat) : Nat → List Int → List (Bool × List Int)
  | 0, l => [(false, l)]
  | r + 1, l => (List.range m).flatMap fun (i : Nat) => if pos l (i : Int) < 0 then l03L m r (l ++ [(i : Int)]) else []
theorem rankings_eq : ∀ m, m ≤ 5 → 1 ≤ m → ordR m (idx m) = l03L m m []
  | 1, _, _ => by decide +kernel
  | 2, _, _ => by decide +kernel
  | 3, _, _ => by decide +kernel
  | 4, _, _ => by decide +kernel
  | 5, _, _ => by decide +kernel
  | 0, _, h => by omega
  | m + 6, h, _ => by omega
end Go.Proofs.YtkfmhpgnhkdebaaGreatDoor.Ax
namespace Go.Proofs.YtkfmhpgnhkdebaaGreatDoor.Ax
open Go Go.RowKit
set_option linter.unusedSimpArgs false
def allRk (m : Int) : List (Bool × List Int) := if inR 1 5 m = true then l03L m.toNat m.toNat [] else []
noncomputable def mOrdA : List AV → Option AV := mk (fun p => 1 ≤ p.length ∧ p.length ≤ 5) (fun p => [ints false p]) (fun p => .sl false 1 ((ordR p.length p).map row))
theorem mOrdA_at (l : List Int) (h : 1 ≤ l.length ∧ l.length ≤ 5) : mOrdA [.sl false 1 (l.map int)] = some (.sl false 1 ((ordR l.length l).map row)) :=
  mk_eq (enc := fun (p : List Int) => [ints false p]) (x := l) (by intro a b h; simp [ints, map_int_inj] at h; rw [h]) h
theorem ordersA_ok : FnOk Tryz.prog 165 mOrdA := by
  refine mk_ok fun l h => ?_
  exact orders_all l.length h.2 _ _ (mOrd_at l.length false l ⟨rfl, h.2, fun h => by simp at h⟩)
def rkB (m : Nat) : Bool := decide ((l03L m m []).length ≤ 120) && decide ((l03L m m []).length ≠ 0) && (l03L m m []).all fun r => !r.1 && rankB m r.2
theorem rkB_at : ∀ m, 1 ≤ m → m ≤ 5 → rkB m = true
  | 1, _, _ => by decide +kernel
  | 2, _, _ => by decide +kernel
  | 3, _, _ => by decide +kernel
  | 4, _, _ => by decide +kernel
  | 5, _, _ => by decide +kernel
  | 0, h, _ => by omega
  | m + 6, _, h => by omega
theorem l03L_facts {m : Nat} (h1 : 1 ≤ m) (h5 : m ≤ 5) : (l03L m m []).length ≤ 120 ∧ (l03L m m []).length ≠ 0 ∧ ∀ r ∈ l03L m m [], r.1 = false ∧ rankB m r.2 = true := by
  have := rkB_at m h1 h5
  simp only [rkB, Bool.and_eq_true, decide_eq_true_eq, List.all_eq_true, Bool.not_eq_true'] at this
  exact ⟨this.1.1, this.1.2, this.2⟩
noncomputable def mAllRk : List AV → Option AV := mk (fun _ => True) (fun (p : (Int)) => [int p]) (fun p => .sl (!inR 1 5 p) 1 ((allRk p).map row))
theorem mAllRk_at (m : Int) : mAllRk [.v (.int .i64 m)] = some (.sl (!inR 1 5 m) 1 ((allRk m).map row)) :=
  mk_eq (enc := fun (p : (Int)) => [int p]) (x := (m)) (by rintro a0 b0 h; simp [ints, intss, int, bool, row, frac, fracs, map_int_inj, map_row_inj, frac_inj, map_frac_inj] at h; simp [h]) trivial
theorem implAllRankings_ok : FnOk Tryz.prog 92 mAllRk := by
  refine mk_ok fun m _ => ?_
  have hG : FnsOk Tryz.prog [(99, mWithin), (166, mIdx), (165, mOrdA)] := (.cons within_ok (.cons indices_ok (.cons ordersA_ok .nil)))
  refine callOk_awp (ctx_ok eqOk hG) mixed (live := [true, false, true, false, false, true]) (dt := []) Tryz.func92 rfl (by kernel_rfl) (by kernel_rfl) fun w0 hlens => ?_
  clear hlens
  cases h : inR 1 5 m with
  | false => simp (config := {contextual := true}) [Tryz.f92, List.range, List.range.loop, ints, intss, int, bool, row, frac, fracs, ← List.map_take, ← List.map_drop, mWithin_in, h, allRk]
  | true =>
    have h2 : 1 ≤ m ∧ m ≤ 5 := by simpa [inR] using h
    obtain ⟨n, rfl⟩ : ∃ n : Nat, m = (n : Int) := ⟨m.toNat, by omega⟩
    have hi := mIdx_at n (by omega)
    have ho := mOrdA_at (idx n) (by rw [idx_len]; omega)
    rw [idx_len, rankings_eq n (by omega) (by omega)] at ho
    have htk : List.take n ((idx n).map int) = (idx n).map int := List.take_of_length_le (by simp [idx_len])
    simp (config := {contextual := true}) [Tryz.f92, List.range, List.range.loop, ints, intss, int, bool, row, frac, fracs, ← List.map_take, ← List.map_drop, mWithin_in, h, allRk, hi, ho, idx_len, htk]
def bstep (W : Nat → Int) (k : Nat) : Option (Nat × Int) → Option (Nat × Int)
  | none => some (k, 1)
  | some (i, n) => if W i < W k then some (k, 1) else if W k = W i then some (i, n + 1) else some (i, n)
def bstTo (W : Nat → Int) : Nat → Option (Nat × Int)
  | 0 => none
  | k + 1 => bstep W k (bstTo W k)
theorem bstTo_succ {W : Nat → Int} {k : Nat} : bstTo W (k + 1) = bstep W k (bstTo W k) := rfl
theorem bstTo_facts {W : Nat → Int} : ∀ {k : Nat}, (k = 0 ∧ bstTo W k = none) ∨ ∃ i n, bstTo W k = some (i, n) ∧ 0 ≤ n ∧ n ≤ k ∧ i < k
  | 0 => .inl ⟨rfl, rfl⟩
  | k + 1 => by
    right
    rcases bstTo_facts (W := W) (k := k) with ⟨_, h0⟩ | ⟨b, n, h0, h1, h2, h3⟩
    · simp only [bstTo, bstep, h0]; exact ⟨_, _, rfl, by omega, by omega, by omega⟩
    · simp only [bstTo, bstep, h0]
      split
      · exact ⟨_, _, rfl, by omega, by omega, by omega⟩
      · split
        · exact ⟨_, _, rfl, by omega, by omega, by omega⟩
        · exact ⟨_, _, rfl, by omega, by omega, by omega⟩
def nth (L : List (Bool × List Int)) (k : Nat) : List Int := (L.getD k (true, [])).2
theorem nth_at {L : List (Bool × List Int)} {k : Nat} (h : k < L.length) : nth L k = L[k].2 := by simp [nth, List.getD_eq_getElem?_getD, h]
def wR (xss : List (Bool × List Int)) (l : List Int) : Int := awTo xss l l.length
def wK (xss L : List (Bool × List Int)) (k : Nat) : Int := wR xss (nth L k)
def brOf (L : List (Bool × List Int)) : Option (Nat × Int) → List Int × Int
  | none => ([], 0)
  | some (i, n) => (nth L i, n)
def apRm (m : Nat) : Option (Nat × Int) → AV
  | none => .sl true 1 []
  | some (i, _) => .ref 0 [(i, 0)] 0 m
def apN : Option (Nat × Int) → AV
  | none => int 0
  | some (_, n) => int n
end Go.Proofs.YtkfmhpgnhkdebaaGreatDoor.Ax
namespace Go.Proofs.YtkfmhpgnhkdebaaGreatDoor.Ax
open Go Go.RowKit
set_option linter.unusedSimpArgs false
def vK (c : List Int → Int) (L : List (Bool × List Int)) (k : Nat) : Int := c (nth L k)
def apL (V : Nat → Int) : Option (Nat × Int) → AV
  | none => int 0
  | some (i, _) => int (V i)
def lsV (V : Nat → Int) : Option (Nat × Int) → Int
  | none => 0
  | some (i, _) => V i
def lsR (c : List Int → Int) (s : Int) : Option (Nat × Int) := bstTo (fun k => - vK c (allRk s) k) (allRk s).length
def lsB (c : List Int → Int) (s : Int) : List Int := (brOf (allRk s) (lsR c s)).1
theorem allRk_in {s : Int} (h1 : 1 ≤ s) (h5 : s ≤ 5) : (allRk s).length ≤ 120 ∧ (allRk s).length ≠ 0 ∧ ∀ r ∈ allRk s, r.1 = false ∧ rankB s r.2 = true := by
  obtain ⟨S, rfl⟩ : ∃ S : Nat, s = S := ⟨s.toNat, by omega⟩
  have h : allRk (S : Int) = l03L S S [] := by
    have : inR 1 5 (S : Int) = true := by simp [inR]; omega
    simp [allRk, this]
  rw [h]
  exact l03L_facts (by omega) (by omega)
set_option maxHeartbeats 2000000 in
theorem least_gen {g : FuncId} {caps : List AV} (hc : Pure caps) (c : List Int → Int) (s : Int) (nl : Bool) (vs : List Vt) (hp : profB s vs = true) (hgn : ¬ g = 66) (hgn2 : ¬ g = 92) (hg : ∀ l : List Int, rankB s l = true → CallOk Tryz.prog g (ints false l :: caps) (int (c l))) :
    CallOk Tryz.prog 85 [prof s nl vs, .fn g caps] (.tup [.sl false 1 ((lsB c s).map int), int (lsV (vK c (allRk s)) (lsR c s)), int (brOf (allRk s) (lsR c s)).2]) := by
  have hGg : FnOk Tryz.prog g (mk (fun l => rankB s l = true) (fun l : List Int => ints false l :: caps) (fun l => int (c l))) := mk_ok fun l hl => hg l hl
  have hat : ∀ l : List Int, rankB s l = true → mk (fun l => rankB s l = true) (fun l : List Int => ints false l :: caps) (fun l => int (c l)) (.sl false 1 (l.map int) :: caps) = some (.v (.int .i64 (c l))) := fun l hl =>
    mk_eq (enc := fun l : List Int => ints false l :: caps) (f := fun l => int (c l)) (x := l) (by
      intro x y h
      simp [ints, map_int_inj] at h
      rw [h]) hl
  generalize mk (fun l => rankB s l = true) (fun l : List Int => ints false l :: caps) (fun l => int (c l)) = m at hGg hat
  have hG : FnsOk Tryz.prog [(66, mProf), (92, mAllRk), (g, m)] := .cons implProf_ok (.cons implAllRankings_ok (.cons hGg .nil))
  obtain ⟨h1, h2, h3⟩ := prof_facts hp
  obtain ⟨q1, q2, q3⟩ := allRk_in h1.1 h1.2
  have hpp := mProf_at s nl vs
  rw [hp] at hpp
  have hin : inR 1 5 s = true := (inR_iff ..).2 h1
  have hall := mAllRk_at s
  rw [hin] at hall
  unfold lsB lsR
  generalize allRk s = L at *
  have hfac := fun (k : Nat) => bstTo_facts (W := fun k => - vK c L k) (k := k)
  refine callOk_awpZ [0] (ctx_ok eqOk hG) mixed (live := [true, true, true, false, true, true, true, true, true, true, false, true, true, false, false, true, false, false, true, true, true, true, false, false, false, false, false, true, false, false, false, false, false, false, false, false, false, true]) (dt := []) Tryz.func85 rfl (by kernel_rfl) (by kernel_rfl) fun w0 hlens => ?_
  clear hlens
  simp [Tryz.f85, List.range, List.range.loop, ints, intss, int, bool, row, frac, fracs, ← List.map_take, ← List.map_drop, andThen_n, freeze, frzA, frzAL, sets, prof, hpp, hall, hc.res, hc.refs, hc.ren, hc.killN, frzAL_pure hc]
  refine awp_range (live := [true, true, true, false, true, true, true, true, true, true, false, true, true, false, false, true, false, false, true, true, true, true, false, false, false, false, false, true, false, false, false, false, false, false, false, false, false, true]) (ctx_ok eqOk hG) mixed [false, true, false, false, false, false, false, true, true, true, false, false, false, false, false, false, false, false, true, true, true] (L.length) (fun k => True) (fun k => ⟨[.junk, .fn g caps, .junk, .junk, .junk, .junk, .junk, apRm s.toNat (bstTo (fun k => - vK c L k) k), apL (vK c L) (bstTo (fun k => - vK c L k) k), apN (bstTo (fun k => - vK c L k) k), .junk, .junk, .junk, .junk, .junk, .junk, .junk, .junk, .ref 0 [] 0 L.length, int L.length, int k, .junk, .junk, .junk, .junk, .junk, .junk, .junk, .junk, .junk, .junk, .junk, .junk, .junk, .junk, .junk, .junk, .junk, .junk, .junk, .junk, .junk, .junk, .junk, .junk, .junk, .junk], [⟨true, .sl false 1 (L.map row)⟩]⟩) ?_ (by simp [sub, slotsLe, clean, keep, refsL, refs, once, place, renL, ren, List.replicate, int, bool, apRm, apN, apL, bstTo, hc.refs, hc.ren, hc.killN]) ?_ ?_ ?_
  · omega
  · trivial
  · intro k hk _ hwk
    have hr := q3 _ (List.getElem_mem hk)
    have hrl := hr.1
    have hv := hat L[k].2 hr.2
    have hvw : c L[k].2 = vK c L k := by rw [vK, nth_at hk]
    have hlk := (rank_facts hr.2).2.2.1
    have hlk' : L[k].2.length = s.toNat := by omega
    rw [hvw] at hv
    have htk : List.take s.toNat (L[k].2.map int) = L[k].2.map int := List.take_of_length_le (by simp; omega)
    have hs := bstTo_succ (W := fun k => - vK c L k) (k := k)
    rcases hfac k with ⟨_, h0⟩ | ⟨i, n, h0, hn1, hn2, hi⟩
    · simp only [h0, bstep] at hs
      simp [List.range, List.range.loop, ints, intss, int, bool, row, frac, fracs, ← List.map_take, ← List.map_drop, hk, hwk, h0, hs, apRm, apN, apL, hrl, hv, hgn, hgn2, hlk', htk, hc.res, hc.refs, hc.ren, hc.killN]
    · have hiL : i < L.length := by omega
      have hri := q3 _ (List.getElem_mem hiL)
      have hril := hri.1
      have hli := (rank_facts hri.2).2.2.1
      have hli' : L[i].2.length = s.toNat := by omega
      have htki : List.take s.toNat (L[i].2.map int) = L[i].2.map int := List.take_of_length_le (by simp; omega)
      have hwn : IntKind.i64.wrap (n + 1) = n + 1 := wrapI (by omega) (by omega)
      simp only [h0, bstep] at hs
      by_cases e1 : vK c L k < vK c L i
      · rw [if_pos (show - vK c L i < - vK c L k by omega)] at hs
        simp [List.range, List.range.loop, ints, intss, int, bool, row, frac, fracs, ← List.map_take, ← List.map_drop, hk, hwk, h0, hs, apRm, apN, apL, hrl, hv, hgn, hgn2, e1, hlk', htk, hli', htki, hiL, hril, hc.res, hc.refs, hc.ren, hc.killN]
      · rw [if_neg (show ¬ - vK c L i < - vK c L k by omega)] at hs
        by_cases e2 : vK c L k = vK c L i
        · rw [if_pos (show - vK c L k = - vK c L i by omega)] at hs
          have e4 : ¬ vK c L i < vK c L i := by omega
          simp [List.range, List.range.loop, ints, intss, int, bool, row, frac, fracs, ← List.map_take, ← List.map_drop, hk, hwk, h0, hs, apRm, apN, apL, hrl, hv, hgn, hgn2, e2, e4, hwn, hlk', htk, hli', htki, hiL, hril, hc.res, hc.refs, hc.ren, hc.killN]
        · rw [if_neg (show ¬ - vK c L k = - vK c L i by omega)] at hs
          have e3 : (vK c L k == vK c L i) = false := by simpa using e2
          simp [List.range, List.range.loop, ints, intss, int, bool, row, frac, fracs, ← List.map_take, ← List.map_drop, hk, hwk, h0, hs, apRm, apN, apL, hrl, hv, hgn, hgn2, e1, e2, e3, hlk', htk, hli', htki, hiL, hril, hc.res, hc.refs, hc.ren, hc.killN]
  · intro _
    rcases hfac L.length with ⟨hz, _⟩ | ⟨i, n, h0, _, _, hi⟩
    · omega
    have hri := q3 _ (List.getElem_mem hi)
    have hril := hri.1
    have hli := (rank_facts hri.2).2.2.1
    have hli' : L[i].2.length = s.toNat := by omega
    have htki : List.take s.toNat (L[i].2.map int) = L[i].2.map int := List.take_of_length_le (by simp; omega)
    simp [List.range, List.range.loop, ints, intss, int, bool, row, frac, fracs, ← List.map_take, ← List.map_drop, h0, brOf, lsV, nth_at hi, apRm, apN, apL, hi, hril, hli', htki, hc.res, hc.refs, hc.ren, hc.killN]
end Go.Proofs.YtkfmhpgnhkdebaaGreatDoor.Ax
namespace Go.Proofs.YtkfmhpgnhkdebaaGreatDoor.Ax
open Go Go.RowKit
set_option linter.unusedSimpArgs false
theorem kr1 (s : Int) (nl : Bool) (vs : List Vt) (hp : profB s vs = true) (l : List Int) (hl : rankB s l = true) : CallOk Tryz.prog 86 [ints false l, .fp (prof s nl vs) 0] (int (kmT l vs)) := by
  have hG : FnsOk Tryz.prog [(87, mKs)] := (.cons implKs_ok .nil)
  refine callOk_awp (ctx_ok eqOk hG) mixed (live := [true, true, false, true]) (dt := []) Tryz.func86 rfl (by kernel_rfl) (by kernel_rfl) fun w0 hlens => ?_
  clear hlens
  have h := mKs_at s nl vs false l ⟨hp, hl⟩
  simp [Tryz.f86, List.range, List.range.loop, ints, intss, int, bool, row, frac, fracs, ← List.map_take, ← List.map_drop, prof, h]
noncomputable def mKr : List AV → Option AV := mk (fun p => profB p.1 p.2.2 = true) (fun (p : (Int) × (Bool) × (List Vt)) => [prof p.1 p.2.1 p.2.2]) (fun p => .sl false 1 ((lsB (fun l => kmT l p.2.2) p.1).map int))
theorem mKr_at (s : Int) (nl : Bool) (vs : List Vt) (hpre : profB s vs = true) : mKr [.agg [.v (.int .i64 s), .sl nl 2 (vs.map vote)]] = some (.sl false 1 ((lsB (fun l => kmT l vs) s).map int)) :=
  mk_eq (enc := fun (p : (Int) × (Bool) × (List Vt)) => [prof p.1 p.2.1 p.2.2]) (x := (s, nl, vs)) (by rintro ⟨a0, a1, a2⟩ ⟨b0, b1, b2⟩ h; simp [ints, intss, int, bool, row, frac, fracs, map_int_inj, map_row_inj, frac_inj, map_frac_inj, vts, prof, map_vote_inj] at h; simp [h]) hpre
set_option maxHeartbeats 2000000 in
theorem implKr_ok : FnOk Tryz.prog 22 mKr := by
  refine mk_ok fun ⟨s, nl, vs⟩ hp => ?_
  simp only at hp
  have hc := least_gen (g := 86) (pure_fp (a := prof s nl vs) (j := 0) pure_nil) (fun l => kmT l vs) s nl vs hp (by decide) (by decide) (kr1 s nl vs hp)
  obtain ⟨m, hm, hz⟩ := as_model hc
  have hG : FnsOk Tryz.prog [(85, m)] := (.cons hm .nil)
  refine callOk_awpZ [0] (ctx_ok eqOk hG) mixed (live := [true, true, true, true]) (dt := []) Tryz.func22 rfl (by kernel_rfl) (by kernel_rfl) fun w0 hlens => ?_
  clear hlens
  generalize lsB (fun l => kmT l vs) s = A at *
  have tA : A.take A.length = A := List.take_length
  simp only [prof, int] at hz
  simp [Tryz.f22, List.range, List.range.loop, ints, intss, int, bool, row, frac, fracs, ← List.map_take, ← List.map_drop, andThen_n, freeze, frzA, frzAL, sets, prof, hz, tA]
end Go.Proofs.YtkfmhpgnhkdebaaGreatDoor.Ax
namespace Go.Proofs
open Go.Shelf
def Tryz.laysM171_ren : Go.Shelf.Ren := ⟨fun | 171 => 75 | 243 => 156 | 246 => 218 | 283 => 255 | 284 => 256 | 285 => 257 | 286 => 258 | 129 => 285 | 317 => 284 | 318 => 286 | 319 => 287 | 320 => 288 | 337 => 295 | 338 => 296 | n => n, fun | 3 => 3 | 9 => 9 | 2 => 2 | 4 => 4 | 171 => 227 | 0 => 0 | 53 => 208 | 37 => 33 | 5 => 5 | 173 => 229 | 212 => 250 | 51 => 206 | 20 => 20 | 213 => 251 | 46 => 167 | 232 => 267 | 233 => 268 | n => n, fun | 17 => 1 | 18 => 6 | 19 => 7 | n => n⟩
theorem Tryz.laysM171 : Go.Proofs.LaysM.n171 Tryz.prog Tryz.laysM171_ren := {
  mixed := by kernel_rfl
  f129 := Tryz.func285.trans (congrArg some (by kernel_rfl))
  f171 := Tryz.func75.trans (congrArg some (by kernel_rfl))
  f243 := Tryz.func156.trans (congrArg some (by kernel_rfl))
  f246 := Tryz.func218.trans (congrArg some (by kernel_rfl))
  f283 := Tryz.func255.trans (congrArg some (by kernel_rfl))
  f284 := Tryz.func256.trans (congrArg some (by kernel_rfl))
  f285 := Tryz.func257.trans (congrArg some (by kernel_rfl))
  f286 := Tryz.func258.trans (congrArg some (by kernel_rfl))
  f317 := Tryz.func284.trans (congrArg some (by kernel_rfl))
  f318 := Tryz.func286.trans (congrArg some (by kernel_rfl))
  f319 := Tryz.func287.trans (congrArg some (by kernel_rfl))
  f320 := Tryz.func288.trans (congrArg some (by kernel_rfl))
  f337 := Tryz.func295.trans (congrArg some (by kernel_rfl))
  f338 := Tryz.func296.trans (congrArg some (by kernel_rfl))
  t0 := Tryz.underlying0
  a0 := Tryz.isAgg0
  z0 := Tryz.sizeOf0
  v0 := Tryz.zeroValue0
  t2 := Tryz.underlying2
  a2 := Tryz.isAgg2
  z2 := Tryz.sizeOf2
  v2 := Tryz.zeroValue2
  t3 := Tryz.underlying3
  a3 := Tryz.isAgg3
  z3 := Tryz.sizeOf3
  v3 := Tryz.zeroValue3
  t4 := Tryz.underlying4
  a4 := Tryz.isAgg4
  z4 := Tryz.sizeOf4
  v4 := Tryz.zeroValue4
  t5 := Tryz.underlying5
  a5 := Tryz.isAgg5
  z5 := Tryz.sizeOf5
  v5 := Tryz.zeroValue5
  t9 := Tryz.underlying9
  a9 := Tryz.isAgg9
  z9 := Tryz.sizeOf9
  v9 := Tryz.zeroValue9
  t20 := Tryz.underlying20
  a20 := Tryz.isAgg20
  z20 := Tryz.sizeOf20
  v20 := Tryz.zeroValue20
  t37 := Tryz.underlying33
  a37 := Tryz.isAgg33
  z37 := Tryz.sizeOf33
  v37 := Tryz.zeroValue33
  t46 := Tryz.underlying167
  a46 := Tryz.isAgg167
  z46 := Tryz.sizeOf167
  v46 := Tryz.zeroValue167
  t51 := Tryz.underlying206
  a51 := Tryz.isAgg206
  z51 := Tryz.sizeOf206
  v51 := Tryz.zeroValue206
  t53 := Tryz.underlying208
  a53 := Tryz.isAgg208
  z53 := Tryz.sizeOf208
  v53 := Tryz.zeroValue208
  t171 := Tryz.underlying227
  a171 := Tryz.isAgg227
  z171 := Tryz.sizeOf227
  v171 := Tryz.zeroValue227
  t173 := Tryz.underlying229
  a173 := Tryz.isAgg229
  z173 := Tryz.sizeOf229
  v173 := Tryz.zeroValue229
  t212 := Tryz.underlying250
  a212 := Tryz.isAgg250
  z212 := Tryz.sizeOf250
  v212 := Tryz.zeroValue250
  t213 := Tryz.underlying251
  a213 := Tryz.isAgg251
  z213 := Tryz.sizeOf251
  t232 := Tryz.underlying267
  a232 := Tryz.isAgg267
  z232 := Tryz.sizeOf267
  v232 := Tryz.zeroValue267
  t233 := Tryz.underlying268
  a233 := Tryz.isAgg268
  z233 := Tryz.sizeOf268
  v233 := Tryz.zeroValue268
  g17 := by kernel_rfl
  g18 := by kernel_rfl
  g19 := by kernel_rfl
  i0 := by kernel_rfl
  i2 := by kernel_rfl
  i3 := by kernel_rfl
  i4 := by kernel_rfl
  i5 := by kernel_rfl
  i9 := by kernel_rfl
  i20 := by kernel_rfl
  i37 := by kernel_rfl
  i46 := by kernel_rfl
  i51 := by kernel_rfl
  i53 := by kernel_rfl
  i171 := by kernel_rfl
  i173 := by kernel_rfl
  i212 := by kernel_rfl
  i232 := by kernel_rfl
  i233 := by kernel_rfl
  m17 := by kernel_rfl
  m18 := by kernel_rfl
  m19 := by kernel_rfl }
end Go.Proofs
namespace Go.Proofs.YtkfmhpgnhkdebaaGreatDoor.Ax
open Go Go.RowKit
set_option linter.unusedSimpArgs false
def inI (n : Int) : Prop := -9223372036854775808 ≤ n ∧ n ≤ 9223372036854775807
def itoaS (n : Int) : ByteArray := ⟨(Lib.itoa n).toArray⟩
theorem tab_of {F : Nat → Prop} {w : World} (h : Gl F w) : Lib.TabIs Tryz.prog w "internal/strconv.uint64pow10" .u64 Lib.pow10Tab := by
  cases hg : Tryz.prog.globalNamed "internal/strconv.uint64pow10" with
  | none => exact absurd (show (Tryz.prog.globalNamed "internal/strconv.uint64pow10").isSome = true by kernel_rfl) (by rw [hg]; simp)
  | some g =>
    obtain ⟨_, x, y, h2⟩ := h.1 g hg
    unfold Lib.TabIs World.var?
    rw [hg]
    simp [h2]
noncomputable def mItoa : List AV → Option AV := mk inI (fun (n : Int) => [int n]) (fun n => .v (.string (itoaS n)))
theorem mItoa_at (n : Int) (h : inI n) : mItoa [.v (.int .i64 n)] = some (.v (.string (itoaS n))) :=
  mk_eq (enc := fun (n : Int) => [int n]) (x := n) (by intro a b h; simp [int] at h; rw [h]) h
theorem itoa_ok : FnOk Tryz.prog 75 mItoa := by
  refine mk_ok fun n hn => ?_
  refine ⟨⟨_, Tryz.func75, by kernel_rfl, by kernel_rfl⟩, fun w F vals hF hv => ?_⟩
  simp only [RepL, Rep, int] at hv
  obtain ⟨a, r1, e1, ⟨rfl, _⟩, rfl⟩ := hv
  have hvals : vals = #[.int .i64 n] := by apply Array.ext'; rw [e1]
  subst hvals
  refine (Go.Proofs.Any.strconv_Itoa Tryz.laysM171 n hn.1 hn.2 w (tab_of hF.gl)).mono fun e w' h => ?_
  obtain ⟨rfl, k, os, rfl⟩ := h
  refine ⟨_, fun _ => False, rfl, ⟨rfl, rfl, rfl, by simp [Go.Sort.grow, World.drewN], fun b hb _ => ?_⟩, fun _ h => h.elim, ?_⟩
  · simp [Go.Sort.grow, World.drewN, Array.getElem?_append, hb]
  · simp only [Own]; exact ⟨rfl, rfl⟩
theorem implFormatInt_ok : FnOk Tryz.prog 17 mItoa := by
  refine mk_ok fun n hn => ?_
  have hG : FnsOk Tryz.prog [(75, mItoa)] := (.cons itoa_ok .nil)
  refine callOk_awp (ctx_ok eqOk hG) mixed (live := [true, false, true]) (dt := []) Tryz.func17 rfl (by kernel_rfl) (by kernel_rfl) fun w0 hlens => ?_
  clear hlens
  have hm := mItoa_at n hn
  simp (config := {contextual := true}) [Tryz.f17, List.range, List.range.loop, ints, intss, int, bool, row, frac, fracs, ← List.map_take, ← List.map_drop, hm]
  done
end Go.Proofs.YtkfmhpgnhkdebaaGreatDoor.Ax
