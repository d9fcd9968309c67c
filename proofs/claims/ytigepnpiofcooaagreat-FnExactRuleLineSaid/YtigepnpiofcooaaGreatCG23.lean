/-
  Contracts: all rankings, the best choice of rooms (both programs). No condition.
-/
import Derived.Test.YtigepnpiofcooaaGreatCG22
import Derived.Test.YtigepnpiofcooaaGreatCG21
namespace Go.Proofs.YtigepnpiofcooaaGreat.Ax
open Go Go.RowKit
set_option linter.unusedSimpArgs false
def allRk (m : Int) : List (Bool × List Int) := if inR 1 5 m = true then l03L m.toNat m.toNat [] else []
noncomputable def mOrdA : List AV → Option AV := mk (fun p => 1 ≤ p.length ∧ p.length ≤ 5) (fun p => [ints false p]) (fun p => .sl false 1 ((ordR p.length p).map row))
theorem mOrdA_at (l : List Int) (h : 1 ≤ l.length ∧ l.length ≤ 5) : mOrdA [.sl false 1 (l.map int)] = some (.sl false 1 ((ordR l.length l).map row)) :=
  mk_eq (enc := fun (p : List Int) => [ints false p]) (x := l) (by intro a b h; simp [ints, map_int_inj] at h; rw [h]) h
theorem ordersA_ok : FnOk Tryz.prog 152 mOrdA := by
  refine mk_ok fun l h => ?_
  exact orders_all l.length h.2 _ _ (mOrd_at l.length false l ⟨rfl, h.2, fun h => by simp at h⟩)
noncomputable def mL03S : List AV → Option (List Nat × AV) := mkV (fun m => 0 ≤ m ∧ m ≤ 5) (fun (m : Int) => [intss false [], ints false [], int m]) [0, 1] (fun m => intss false (l03L m.toNat m.toNat []))
theorem mL03S_at (m : Int) (h : 0 ≤ m ∧ m ≤ 5) : mL03S [.sl false 1 [], .sl false 1 [], .v (.int .i64 m)] = some ([0, 1], .sl false 1 ((l03L m.toNat m.toNat []).map row)) :=
  mkV_eq (enc := fun (m : Int) => [intss false [], ints false [], int m]) (x := m) (by intro a b h; simp [int] at h; rw [h]) h
theorem l03All_all : ∀ r, FnMov Tryz.prog 157 (mL03 r)
  | 0 => l03All_zero
  | r + 1 => l03All_succ (l03All_all r)
def rkB (m : Nat) : Bool := decide ((l03L m m []).length ≤ 120) && decide ((l03L m m []).length ≠ 0) && (l03L m m []).all fun r => !r.1 && rankB m r.2
theorem rkB_at : ∀ m, 1 ≤ m → m ≤ 5 → rkB m = true
  | 1, _, _ => by decide +kernel
  | 2, _, _ => by decide +kernel
  | 3, _, _ => by decide +kernel
  | 4, _, _ => by decide +kernel
  | 5, _, _ => by decide +kernel
  | 0, h, _ => by omega
  | m + 6, _, h => by omega
theorem l03L_facts {m : Nat} (h1 : 1 ≤ m) (h5 : m ≤ 5) : (l03L m m []).length ≤ 120 ∧ (l03L m m []).length ≠ 0 ∧ ∀ r ∈ l03L m m [], r.1 = false ∧ rankB m r.2 = true := by
  have := rkB_at m h1 h5
  simp only [rkB, Bool.and_eq_true, decide_eq_true_eq, List.all_eq_true, Bool.not_eq_true'] at this
  exact ⟨this.1.1, this.1.2, this.2⟩
theorem l03AllS_ok : FnMov Tryz.prog 157 mL03S := by
  refine mkV_ok fun m h => ?_
  have hl : (l03L m.toNat m.toNat []).length ≤ 100000 := by
    rcases Int.lt_or_le 0 m with h0 | h0
    · have := (l03L_facts (m := m.toNat) (by omega) (by omega)).1; omega
    · rw [show m.toNat = 0 by omega]; simp [l03L]
  exact l03All_all m.toNat _ _ _ (mL03_at m.toNat [] [] m ⟨by simp; omega, h.2, by simpa using hl⟩)
noncomputable def mAllRk : List AV → Option AV := mk (fun _ => True) (fun (p : (Int)) => [int p]) (fun p => .sl (!inR 1 5 p) 1 ((allRk p).map row))
theorem mAllRk_at (m : Int) : mAllRk [.v (.int .i64 m)] = some (.sl (!inR 1 5 m) 1 ((allRk m).map row)) :=
  mk_eq (enc := fun (p : (Int)) => [int p]) (x := (m)) (by rintro a0 b0 h; simp [ints, intss, int, bool, row, frac, fracs, map_int_inj, map_row_inj, frac_inj, map_frac_inj] at h; simp [h]) trivial
theorem implAllRankings_ok : FnOk Tryz.prog 133 mAllRk := by
  refine mk_ok fun m _ => ?_
  have hG : FnsOk Tryz.prog [(57, mWithin), (86, mIdx), (152, mOrdA)] := (.cons within_ok (.cons indices_ok (.cons ordersA_ok .nil)))
  refine callOk_awp (ctx_ok eqOk hG) mixed (live := [true, false, true, false, false, true]) (dt := []) Tryz.func133 rfl (by kernel_rfl) (by kernel_rfl) fun w0 hlens => ?_
  clear hlens
  cases h : inR 1 5 m with
  | false => simp (config := {contextual := true}) [Tryz.f133, List.range, List.range.loop, ints, intss, int, bool, row, frac, fracs, ← List.map_take, ← List.map_drop, mWithin_in, h, allRk]
  | true =>
    have h2 : 1 ≤ m ∧ m ≤ 5 := by simpa [inR] using h
    obtain ⟨n, rfl⟩ : ∃ n : Nat, m = (n : Int) := ⟨m.toNat, by omega⟩
    have hi := mIdx_at n (by omega)
    have ho := mOrdA_at (idx n) (by rw [idx_len]; omega)
    rw [idx_len, rankings_eq n (by omega) (by omega)] at ho
    have htk : List.take n ((idx n).map int) = (idx n).map int := List.take_of_length_le (by simp [idx_len])
    simp (config := {contextual := true}) [Tryz.f133, List.range, List.range.loop, ints, intss, int, bool, row, frac, fracs, ← List.map_take, ← List.map_drop, mWithin_in, h, allRk, hi, ho, idx_len, htk]
theorem specAllRankings_ok : FnOk Tryz.prog 142 mAllRk := by
  refine mk_ok fun m _ => ?_
  have hG : FnsOk Tryz.prog [(38, mWithin)] := (.cons l01In_ok .nil)
  have hM : FnsMut Tryz.prog [] := .nil
  have hV : FnsMov Tryz.prog [(157, mL03S)] := (.cons l03AllS_ok .nil)
  refine callOk_awp (ctxV_ok eqOk hG hM hV) mixed (live := [true, false, true, false, false, true]) (dt := []) Tryz.func142 rfl (by kernel_rfl) (by kernel_rfl) fun w0 hlens => ?_
  clear hlens
  cases h : inR 1 5 m with
  | false => simp (config := {contextual := true}) [Tryz.f142, List.range, List.range.loop, ints, intss, int, bool, row, frac, fracs, ← List.map_take, ← List.map_drop, List.all, mWithin_in, h, allRk]
  | true =>
    have h2 : 1 ≤ m ∧ m ≤ 5 := by simpa [inR] using h
    have ho := mL03S_at m (by omega)
    simp (config := {contextual := true}) [Tryz.f142, List.range, List.range.loop, ints, intss, int, bool, row, frac, fracs, ← List.map_take, ← List.map_drop, List.all, mWithin_in, h, allRk, ho]
def bstep (W : Nat → Int) (k : Nat) : Option (Nat × Int) → Option (Nat × Int)
  | none => some (k, 1)
  | some (i, n) => if W i < W k then some (k, 1) else if W k = W i then some (i, n + 1) else some (i, n)
def bstTo (W : Nat → Int) : Nat → Option (Nat × Int)
  | 0 => none
  | k + 1 => bstep W k (bstTo W k)
theorem bstTo_succ {W : Nat → Int} {k : Nat} : bstTo W (k + 1) = bstep W k (bstTo W k) := rfl
theorem bstTo_facts {W : Nat → Int} : ∀ {k : Nat}, (k = 0 ∧ bstTo W k = none) ∨ ∃ i n, bstTo W k = some (i, n) ∧ 0 ≤ n ∧ n ≤ k ∧ i < k
  | 0 => .inl ⟨rfl, rfl⟩
  | k + 1 => by
    right
    rcases bstTo_facts (W := W) (k := k) with ⟨_, h0⟩ | ⟨b, n, h0, h1, h2, h3⟩
    · simp only [bstTo, bstep, h0]; exact ⟨_, _, rfl, by omega, by omega, by omega⟩
    · simp only [bstTo, bstep, h0]
      split
      · exact ⟨_, _, rfl, by omega, by omega, by omega⟩
      · split
        · exact ⟨_, _, rfl, by omega, by omega, by omega⟩
        · exact ⟨_, _, rfl, by omega, by omega, by omega⟩
def nth (L : List (Bool × List Int)) (k : Nat) : List Int := (L.getD k (true, [])).2
theorem nth_at {L : List (Bool × List Int)} {k : Nat} (h : k < L.length) : nth L k = L[k].2 := by simp [nth, List.getD_eq_getElem?_getD, h]
def brOf (L : List (Bool × List Int)) : Option (Nat × Int) → List Int × Int
  | none => ([], 0)
  | some (i, n) => (nth L i, n)
def apRm (m : Nat) : Option (Nat × Int) → AV
  | none => .sl true 1 []
  | some (i, _) => .ref 0 [(i, 0)] 0 m
def apQm (m : Nat) : Option (Nat × Int) → AV
  | none => .ref 0 [] 0 0
  | some (i, _) => .ref 0 [(i, 0)] 0 m
def apR (n : Nat) : Option (Nat × Int) → AV
  | none => .ref 1 [] 0 n
  | some _ => .ref 0 [] 0 n
def apQt (L : List (Bool × List Int)) : Option (Nat × Int) → List Tok
  | none => [⟨true, .sl false 1 []⟩, ⟨true, .sl false 1 (L.map row)⟩]
  | some _ => [⟨true, .sl false 1 (L.map row)⟩]
def apN : Option (Nat × Int) → AV
  | none => int 0
  | some (_, n) => int n
end Go.Proofs.YtigepnpiofcooaaGreat.Ax
namespace Go.Proofs.YtigepnpiofcooaaGreat.Ax
open Go Go.RowKit
set_option linter.unusedSimpArgs false
def vK (c : List Int → Int) (L : List (Bool × List Int)) (k : Nat) : Int := c (nth L k)
def apL (V : Nat → Int) : Option (Nat × Int) → AV
  | none => int 0
  | some (i, _) => int (V i)
def lsV (V : Nat → Int) : Option (Nat × Int) → Int
  | none => 0
  | some (i, _) => V i
def lsR (c : List Int → Int) (s : Int) : Option (Nat × Int) := bstTo (fun k => - vK c (allRk s) k) (allRk s).length
def lsB (c : List Int → Int) (s : Int) : List Int := (brOf (allRk s) (lsR c s)).1
theorem allRk_in {s : Int} (h1 : 1 ≤ s) (h5 : s ≤ 5) : (allRk s).length ≤ 120 ∧ (allRk s).length ≠ 0 ∧ ∀ r ∈ allRk s, r.1 = false ∧ rankB s r.2 = true := by
  obtain ⟨S, rfl⟩ : ∃ S : Nat, s = S := ⟨s.toNat, by omega⟩
  have h : allRk (S : Int) = l03L S S [] := by
    have : inR 1 5 (S : Int) = true := by simp [inR]; omega
    simp [allRk, this]
  rw [h]
  exact l03L_facts (by omega) (by omega)
set_option maxHeartbeats 2000000 in
theorem least_gen {g : FuncId} {caps : List AV} (hc : Pure caps) (c : List Int → Int) (s : Int) (nl : Bool) (vs : List Vt) (hp : profB s vs = true) (hgn : ¬ g = 19) (hgn2 : ¬ g = 133) (hg : ∀ l : List Int, rankB s l = true → CallOk Tryz.prog g (ints false l :: caps) (int (c l))) :
    CallOk Tryz.prog 93 [prof s nl vs, .fn g caps] (.tup [.sl false 1 ((lsB c s).map int), int (lsV (vK c (allRk s)) (lsR c s)), int (brOf (allRk s) (lsR c s)).2]) := by
  have hGg : FnOk Tryz.prog g (mk (fun l => rankB s l = true) (fun l : List Int => ints false l :: caps) (fun l => int (c l))) := mk_ok fun l hl => hg l hl
  have hat : ∀ l : List Int, rankB s l = true → mk (fun l => rankB s l = true) (fun l : List Int => ints false l :: caps) (fun l => int (c l)) (.sl false 1 (l.map int) :: caps) = some (.v (.int .i64 (c l))) := fun l hl =>
    mk_eq (enc := fun l : List Int => ints false l :: caps) (f := fun l => int (c l)) (x := l) (by
      intro x y h
      simp [ints, map_int_inj] at h
      rw [h]) hl
  generalize mk (fun l => rankB s l = true) (fun l : List Int => ints false l :: caps) (fun l => int (c l)) = m at hGg hat
  have hG : FnsOk Tryz.prog [(19, mProf), (133, mAllRk), (g, m)] := .cons implProf_ok (.cons implAllRankings_ok (.cons hGg .nil))
  obtain ⟨h1, h2, h3⟩ := prof_facts hp
  obtain ⟨q1, q2, q3⟩ := allRk_in h1.1 h1.2
  have hpp := mProf_at s nl vs
  rw [hp] at hpp
  have hin : inR 1 5 s = true := (inR_iff ..).2 h1
  have hall := mAllRk_at s
  rw [hin] at hall
  unfold lsB lsR
  generalize allRk s = L at *
  have hfac := fun (k : Nat) => bstTo_facts (W := fun k => - vK c L k) (k := k)
  refine callOk_awpZ [0] (ctx_ok eqOk hG) mixed (live := [true, true, true, false, true, true, true, true, true, true, false, true, true, false, false, true, false, false, true, true, true, true, false, false, false, false, false, true, false, false, false, false, false, false, false, false, false, true]) (dt := []) Tryz.func93 rfl (by kernel_rfl) (by kernel_rfl) fun w0 hlens => ?_
  clear hlens
  simp [Tryz.f93, List.range, List.range.loop, ints, intss, int, bool, row, frac, fracs, ← List.map_take, ← List.map_drop, andThen_n, freeze, frzA, frzAL, sets, prof, hpp, hall, hc.res, hc.refs, hc.ren, hc.killN, frzAL_pure hc]
  refine awp_range (live := [true, true, true, false, true, true, true, true, true, true, false, true, true, false, false, true, false, false, true, true, true, true, false, false, false, false, false, true, false, false, false, false, false, false, false, false, false, true]) (ctx_ok eqOk hG) mixed [false, true, false, false, false, false, false, true, true, true, false, false, false, false, false, false, false, false, true, true, true] (L.length) (fun k => True) (fun k => ⟨[.junk, .fn g caps, .junk, .junk, .junk, .junk, .junk, apRm s.toNat (bstTo (fun k => - vK c L k) k), apL (vK c L) (bstTo (fun k => - vK c L k) k), apN (bstTo (fun k => - vK c L k) k), .junk, .junk, .junk, .junk, .junk, .junk, .junk, .junk, .ref 0 [] 0 L.length, int L.length, int k, .junk, .junk, .junk, .junk, .junk, .junk, .junk, .junk, .junk, .junk, .junk, .junk, .junk, .junk, .junk, .junk, .junk, .junk, .junk, .junk, .junk, .junk, .junk, .junk, .junk, .junk], [⟨true, .sl false 1 (L.map row)⟩]⟩) ?_ (by simp [sub, slotsLe, clean, keep, refsL, refs, once, place, renL, ren, List.replicate, int, bool, apRm, apN, apL, bstTo, hc.refs, hc.ren, hc.killN]) ?_ ?_ ?_
  · omega
  · trivial
  · intro k hk _ hwk
    have hr := q3 _ (List.getElem_mem hk)
    have hrl := hr.1
    have hv := hat L[k].2 hr.2
    have hvw : c L[k].2 = vK c L k := by rw [vK, nth_at hk]
    have hlk := (rank_facts hr.2).2.2.1
    have hlk' : L[k].2.length = s.toNat := by omega
    rw [hvw] at hv
    have htk : List.take s.toNat (L[k].2.map int) = L[k].2.map int := List.take_of_length_le (by simp; omega)
    have hs := bstTo_succ (W := fun k => - vK c L k) (k := k)
    rcases hfac k with ⟨_, h0⟩ | ⟨i, n, h0, hn1, hn2, hi⟩
    · simp only [h0, bstep] at hs
      simp [List.range, List.range.loop, ints, intss, int, bool, row, frac, fracs, ← List.map_take, ← List.map_drop, hk, hwk, h0, hs, apRm, apN, apL, hrl, hv, hgn, hgn2, hlk', htk, hc.res, hc.refs, hc.ren, hc.killN]
    · have hiL : i < L.length := by omega
      have hri := q3 _ (List.getElem_mem hiL)
      have hril := hri.1
      have hli := (rank_facts hri.2).2.2.1
      have hli' : L[i].2.length = s.toNat := by omega
      have htki : List.take s.toNat (L[i].2.map int) = L[i].2.map int := List.take_of_length_le (by simp; omega)
      have hwn : IntKind.i64.wrap (n + 1) = n + 1 := wrapI (by omega) (by omega)
      simp only [h0, bstep] at hs
      by_cases e1 : vK c L k < vK c L i
      · rw [if_pos (show - vK c L i < - vK c L k by omega)] at hs
        simp [List.range, List.range.loop, ints, intss, int, bool, row, frac, fracs, ← List.map_take, ← List.map_drop, hk, hwk, h0, hs, apRm, apN, apL, hrl, hv, hgn, hgn2, e1, hlk', htk, hli', htki, hiL, hril, hc.res, hc.refs, hc.ren, hc.killN]
      · rw [if_neg (show ¬ - vK c L i < - vK c L k by omega)] at hs
        by_cases e2 : vK c L k = vK c L i
        · rw [if_pos (show - vK c L k = - vK c L i by omega)] at hs
          have e4 : ¬ vK c L i < vK c L i := by omega
          simp [List.range, List.range.loop, ints, intss, int, bool, row, frac, fracs, ← List.map_take, ← List.map_drop, hk, hwk, h0, hs, apRm, apN, apL, hrl, hv, hgn, hgn2, e2, e4, hwn, hlk', htk, hli', htki, hiL, hril, hc.res, hc.refs, hc.ren, hc.killN]
        · rw [if_neg (show ¬ - vK c L k = - vK c L i by omega)] at hs
          have e3 : (vK c L k == vK c L i) = false := by simpa using e2
          simp [List.range, List.range.loop, ints, intss, int, bool, row, frac, fracs, ← List.map_take, ← List.map_drop, hk, hwk, h0, hs, apRm, apN, apL, hrl, hv, hgn, hgn2, e1, e2, e3, hlk', htk, hli', htki, hiL, hril, hc.res, hc.refs, hc.ren, hc.killN]
  · intro _
    rcases hfac L.length with ⟨hz, _⟩ | ⟨i, n, h0, _, _, hi⟩
    · omega
    have hri := q3 _ (List.getElem_mem hi)
    have hril := hri.1
    have hli := (rank_facts hri.2).2.2.1
    have hli' : L[i].2.length = s.toNat := by omega
    have htki : List.take s.toNat (L[i].2.map int) = L[i].2.map int := List.take_of_length_le (by simp; omega)
    simp [List.range, List.range.loop, ints, intss, int, bool, row, frac, fracs, ← List.map_take, ← List.map_drop, h0, brOf, lsV, nth_at hi, apRm, apN, apL, hi, hril, hli', htki, hc.res, hc.refs, hc.ren, hc.killN]
end Go.Proofs.YtigepnpiofcooaaGreat.Ax
namespace Go.Proofs.YtigepnpiofcooaaGreat.Ax
open Go Go.RowKit
set_option linter.unusedSimpArgs false
theorem kr1 (s : Int) (nl : Bool) (vs : List Vt) (hp : profB s vs = true) (l : List Int) (hl : rankB s l = true) : CallOk Tryz.prog 94 [ints false l, .fp (prof s nl vs) 0] (int (kmT l vs)) := by
  have hG : FnsOk Tryz.prog [(95, mKs)] := (.cons implKs_ok .nil)
  refine callOk_awp (ctx_ok eqOk hG) mixed (live := [true, true, false, true]) (dt := []) Tryz.func94 rfl (by kernel_rfl) (by kernel_rfl) fun w0 hlens => ?_
  clear hlens
  have h := mKs_at s nl vs false l ⟨hp, hl⟩
  simp [Tryz.f94, List.range, List.range.loop, ints, intss, int, bool, row, frac, fracs, ← List.map_take, ← List.map_drop, prof, h]
noncomputable def mKr : List AV → Option AV := mk (fun p => profB p.1 p.2.2 = true) (fun (p : (Int) × (Bool) × (List Vt)) => [prof p.1 p.2.1 p.2.2]) (fun p => .sl false 1 ((lsB (fun l => kmT l p.2.2) p.1).map int))
theorem mKr_at (s : Int) (nl : Bool) (vs : List Vt) (hpre : profB s vs = true) : mKr [.agg [.v (.int .i64 s), .sl nl 2 (vs.map vote)]] = some (.sl false 1 ((lsB (fun l => kmT l vs) s).map int)) :=
  mk_eq (enc := fun (p : (Int) × (Bool) × (List Vt)) => [prof p.1 p.2.1 p.2.2]) (x := (s, nl, vs)) (by rintro ⟨a0, a1, a2⟩ ⟨b0, b1, b2⟩ h; simp [ints, intss, int, bool, row, frac, fracs, map_int_inj, map_row_inj, frac_inj, map_frac_inj, vts, prof, map_vote_inj] at h; simp [h]) hpre
set_option maxHeartbeats 2000000 in
theorem implKr_ok : FnOk Tryz.prog 35 mKr := by
  refine mk_ok fun ⟨s, nl, vs⟩ hp => ?_
  simp only at hp
  have hc := least_gen (g := 94) (pure_fp (a := prof s nl vs) (j := 0) pure_nil) (fun l => kmT l vs) s nl vs hp (by decide) (by decide) (kr1 s nl vs hp)
  obtain ⟨m, hm, hz⟩ := as_model hc
  have hG : FnsOk Tryz.prog [(93, m)] := (.cons hm .nil)
  refine callOk_awpZ [0] (ctx_ok eqOk hG) mixed (live := [true, true, true, true]) (dt := []) Tryz.func35 rfl (by kernel_rfl) (by kernel_rfl) fun w0 hlens => ?_
  clear hlens
  generalize lsB (fun l => kmT l vs) s = A at *
  have tA : A.take A.length = A := List.take_length
  simp only [prof, int] at hz
  simp [Tryz.f35, List.range, List.range.loop, ints, intss, int, bool, row, frac, fracs, ← List.map_take, ← List.map_drop, andThen_n, freeze, frzA, frzAL, sets, prof, hz, tA]
noncomputable def mL08 : List AV → Option AV := mk (fun (p : Int × Bool × List Vt) => profB p.1 p.2.2 = true) (fun p => [prof p.1 p.2.1 p.2.2]) (fun p => .tup [.sl false 1 ((lsB (fun l => kmT l p.2.2) p.1).map int), int (brOf (allRk p.1) (lsR (fun l => kmT l p.2.2) p.1)).2])
theorem mL08_at (s : Int) (nl : Bool) (vs : List Vt) (h : profB s vs = true) : mL08 [.agg [.v (.int .i64 s), .sl nl 2 (vs.map vote)]] = some (.tup [.sl false 1 ((lsB (fun l => kmT l vs) s).map int), .v (.int .i64 (brOf (allRk s) (lsR (fun l => kmT l vs) s)).2)]) :=
  mk_eq (enc := fun (p : Int × Bool × List Vt) => [prof p.1 p.2.1 p.2.2]) (x := (s, nl, vs)) (by
    rintro ⟨a, b, c⟩ ⟨a', b', c'⟩ h
    simp [prof, vts, int, map_vote_inj] at h
    obtain ⟨rfl, rfl, rfl⟩ := h
    rfl) h
set_option maxHeartbeats 2000000 in
theorem l08Best_ok : FnOk Tryz.prog 110 mL08 := by
  refine mk_ok fun ⟨s, nl, vs⟩ hp => ?_
  simp only at hp
  obtain ⟨h1, h2, h3⟩ := prof_facts hp
  obtain ⟨q1, q2, q3⟩ := allRk_in h1.1 h1.2
  have hin : inR 1 5 s = true := (inR_iff ..).2 h1
  have hall := mAllRk_at s
  rw [hin] at hall
  obtain ⟨c, hcd⟩ : ∃ c : List Int → Int, c = fun l => kmT l vs := ⟨_, rfl⟩
  have hat : ∀ l, rankB s l = true → mKs [.agg [.v (.int .i64 s), .sl nl 2 (vs.map vote)], .sl false 1 (l.map int)] = some (.v (.int .i64 (c l))) := fun l h => by rw [hcd]; exact mKs_at s nl vs false l ⟨hp, h⟩
  have hG : FnsOk Tryz.prog [(142, mAllRk), (143, mKs)] := (.cons specAllRankings_ok (.cons specKs_ok .nil))
  refine callOk_awpZ [0] (ctx_ok eqOk hG) mixed (live := [true, true, true, true, true, true, true, true, true, true, false, false, false, true, true, true, true, false, false, false, false, false, false, false, false, false, false, false, false, true, false, false, false, false, true]) (dt := []) Tryz.func110 rfl (by kernel_rfl) (by kernel_rfl) fun w0 hlens => ?_
  clear hlens
  unfold lsB lsR
  rw [← hcd]
  generalize allRk s = L at *
  have hfac := fun (k : Nat) => bstTo_facts (W := fun k => - vK c L k) (k := k)
  simp [Tryz.f110, List.range, List.range.loop, ints, intss, int, bool, row, frac, fracs, ← List.map_take, ← List.map_drop, andThen_n, freeze, frzA, frzAL, sets, prof, hall]
  refine awp_range (live := [true, true, true, true, true, true, true, true, true, true, false, false, false, true, true, true, true, false, false, false, false, false, false, false, false, false, false, false, false, true, false, false, false, false, true]) (ctx_ok eqOk hG) mixed [false, true, false, false, true, true, true, false, false, false, false, false, false, true, true, true] (L.length) (fun k => True) (fun k => ⟨[.junk, .fp (prof s nl vs) 0, .junk, .junk, apQm s.toNat (bstTo (fun k => - vK c L k) k), apL (vK c L) (bstTo (fun k => - vK c L k) k), apN (bstTo (fun k => - vK c L k) k), .junk, .junk, .junk, .junk, .junk, .junk, apR L.length (bstTo (fun k => - vK c L k) k), int L.length, int k, .junk, .junk, .junk, .junk, .junk, .junk, .junk, .junk, .junk, .junk, .junk, .junk, .junk, .junk, .junk, .junk, .junk, .junk, .junk, .junk, .junk, .junk, .junk, .junk], apQt L (bstTo (fun k => - vK c L k) k)⟩) ?_ (by simp [sub, slotsLe, clean, keep, refsL, refs, once, place, renL, ren, List.replicate, int, bool, prof, apQm, apR, apQt, apN, apL, bstTo]) ?_ ?_ ?_
  · omega
  · trivial
  · intro k hk _ hwk
    have hr := q3 _ (List.getElem_mem hk)
    have hrl := hr.1
    have hv := hat L[k].2 hr.2
    have hvw : c L[k].2 = vK c L k := by rw [vK, nth_at hk]
    have hlk := (rank_facts hr.2).2.2.1
    have hlk' : L[k].2.length = s.toNat := by omega
    have hs0 : ¬ s.toNat = 0 := by omega
    have hw1 : IntKind.i64.wrap 1 = 1 := by decide
    rw [hvw] at hv
    have htk : List.take s.toNat (L[k].2.map int) = L[k].2.map int := List.take_of_length_le (by simp; omega)
    have hs := bstTo_succ (W := fun k => - vK c L k) (k := k)
    rcases hfac k with ⟨hk0, h0⟩ | ⟨i, n, h0, hn1, hn2, hi⟩
    · simp only [h0, bstep] at hs
      subst hk0
      simp [List.range, List.range.loop, ints, intss, int, bool, row, frac, fracs, ← List.map_take, ← List.map_drop, prof, hk, hwk, h0, hs, apQm, apR, apQt, apN, apL, hrl, hv, hlk', htk, hs0, hw1]
    · have hiL : i < L.length := by omega
      have hri := q3 _ (List.getElem_mem hiL)
      have hril := hri.1
      have hli := (rank_facts hri.2).2.2.1
      have hli' : L[i].2.length = s.toNat := by omega
      have htki : List.take s.toNat (L[i].2.map int) = L[i].2.map int := List.take_of_length_le (by simp; omega)
      have hwn : IntKind.i64.wrap (n + 1) = n + 1 := wrapI (by omega) (by omega)
      have hk0 : ¬ k = 0 := by omega
      have hk1 : ((k : Int) == 0) = false := by simpa using hk0
      simp only [h0, bstep] at hs
      by_cases e1 : vK c L k < vK c L i
      · rw [if_pos (show - vK c L i < - vK c L k by omega)] at hs
        simp [List.range, List.range.loop, ints, intss, int, bool, row, frac, fracs, ← List.map_take, ← List.map_drop, prof, hk, hwk, h0, hs, hk0, hk1, apQm, apR, apQt, apN, apL, hrl, hv, e1, hlk', htk, hli', htki, hiL, hril, hs0, hw1]
      · rw [if_neg (show ¬ - vK c L i < - vK c L k by omega)] at hs
        by_cases e2 : vK c L k = vK c L i
        · rw [if_pos (show - vK c L k = - vK c L i by omega)] at hs
          have e4 : ¬ vK c L i < vK c L i := by omega
          simp [List.range, List.range.loop, ints, intss, int, bool, row, frac, fracs, ← List.map_take, ← List.map_drop, prof, hk, hwk, h0, hs, hk0, hk1, apQm, apR, apQt, apN, apL, hrl, hv, e2, e4, hwn, hlk', htk, hli', htki, hiL, hril, hs0, hw1]
        · rw [if_neg (show ¬ - vK c L k = - vK c L i by omega)] at hs
          have e3 : (vK c L k == vK c L i) = false := by simpa using e2
          simp [List.range, List.range.loop, ints, intss, int, bool, row, frac, fracs, ← List.map_take, ← List.map_drop, prof, hk, hwk, h0, hs, hk0, hk1, apQm, apR, apQt, apN, apL, hrl, hv, e1, e2, e3, hlk', htk, hli', htki, hiL, hril, hs0, hw1]
  · intro _
    rcases hfac L.length with ⟨hz, _⟩ | ⟨i, n, h0, _, _, hi⟩
    · omega
    have hri := q3 _ (List.getElem_mem hi)
    have hril := hri.1
    have hli := (rank_facts hri.2).2.2.1
    have hli' : L[i].2.length = s.toNat := by omega
    have htki : List.take s.toNat (L[i].2.map int) = L[i].2.map int := List.take_of_length_le (by simp; omega)
    simp [List.range, List.range.loop, ints, intss, int, bool, row, frac, fracs, ← List.map_take, ← List.map_drop, prof, h0, brOf, nth_at hi, apQm, apR, apQt, apN, apL, hi, hril, hli', htki]
theorem specKr_ok : FnOk Tryz.prog 55 mKr := by
  refine mk_ok fun ⟨s, nl, vs⟩ hp => ?_
  simp only at hp
  have hpp := mProf_at s nl vs
  rw [hp] at hpp
  have hz := mL08_at s nl vs hp
  have hG : FnsOk Tryz.prog [(16, mProf), (110, mL08)] := (.cons specProf_ok (.cons l08Best_ok .nil))
  refine callOk_awpZ [0] (ctx_ok eqOk hG) mixed (live := [true, true, true, true, false, false, false, true]) (dt := []) Tryz.func55 rfl (by kernel_rfl) (by kernel_rfl) fun w0 hlens => ?_
  clear hlens
  generalize lsB (fun l => kmT l vs) s = A at *
  have tA : A.take A.length = A := List.take_length
  simp [Tryz.f55, List.range, List.range.loop, ints, intss, int, bool, row, frac, fracs, ← List.map_take, ← List.map_drop, andThen_n, freeze, frzA, frzAL, sets, prof, hpp, hz, tA]
end Go.Proofs.YtigepnpiofcooaaGreat.Ax
namespace Go.Proofs.YtigepnpiofcooaaGreat.Ax
open Go Go.RowKit
set_option linter.unusedSimpArgs false
noncomputable def wnT (vs : List Vt) (s : Nat) (k : Int) : List Int :=
  if k = 1 then grT (scV (plW s) s vs) else if k = 2 then grT (scV (boW s) s vs) else if k = 3 then grT (scV (veW s) s vs)
  else if k = 4 then grT (coT vs s) else if k = 5 then grT (mmT vs s) else if k = 6 then [ruT vs s]
  else if k = 7 then [at0 (elT (wkT vs 0) s s) (s - 1)] else if k = 8 then [at0 (elT (wkT vs 1) s s) (s - 1)] else if k = 9 then [at0 (elT (wkT vs 2) s s) (s - 1)]
  else if k = 10 then [bwT vs s] else if k = 11 then szT vs s else if k = 12 then [at0 (pkA vs s) 0] else if k = 13 then [at0 (lsB (fun l => kmT l vs) (s : Int)) 0] else []
noncomputable def wnA (s : Int) (vs : List Vt) (k : Int) : List Int := if profB s vs = true then wnT vs s.toNat k else []
def cnB (l : List Int) : Prop := l.length ≤ 5 ∧ ∀ x ∈ l, 0 ≤ x ∧ x < 5
theorem cnB_gr {l : List Int} (h : l.length ≤ 5) : cnB (grT l) := ⟨by have := grT_len (l := l); omega, fun x hx => by
  obtain ⟨i, h1, h2⟩ := grT_mem hx
  omega⟩
theorem cnB_one {x : Int} (h : 0 ≤ x ∧ x < 5) : cnB [x] := ⟨by simp, fun y hy => by rw [List.mem_singleton] at hy; rw [hy]; exact h⟩
theorem cnB_at {l : List Int} {i : Nat} (h : ∀ x ∈ l, 0 ≤ x ∧ x < 5) : cnB [at0 l i] := cnB_one (by
  by_cases hi : i < l.length
  · rw [at0_eq hi]; exact h _ (List.getElem_mem hi)
  · have : at0 l i = 0 := by unfold at0; rw [List.getD_eq_getElem?_getD, List.getElem?_eq_none (by omega)]; rfl
    omega)
theorem kr_in {s : Int} {vs : List Vt} (hp : profB s vs = true) : rankB s (lsB (fun l => kmT l vs) s) = true := by
  obtain ⟨h1, h2, h3⟩ := prof_facts hp
  obtain ⟨q1, q2, q3⟩ := allRk_in h1.1 h1.2
  unfold lsB lsR
  rcases bstTo_facts (W := fun k => - vK (fun l => kmT l vs) (allRk s) k) (k := (allRk s).length) with ⟨hz, _⟩ | ⟨i, n, h0, _, _, hi⟩
  · omega
  · rw [h0]
    simp only [brOf, nth_at hi]
    exact (q3 _ (List.getElem_mem hi)).2
theorem wnT_cn {s : Nat} {vs : List Vt} (hp : profB (s : Int) vs = true) (k : Int) : cnB (wnT vs s k) := by
  obtain ⟨hS, -, -⟩ := prof_facts hp
  have he := fun k => (elT_facts (W := wkT vs k) (s := s) (Nat.le_refl s)).2.2
  have hel : ∀ k, ∀ x ∈ elT (wkT vs k) s s, 0 ≤ x ∧ x < 5 := fun k x hx => by
    obtain ⟨i, e, hi⟩ := he k x hx
    omega
  unfold wnT
  by_cases h1 : k = 1
  · rw [if_pos h1]
    exact cnB_gr (by rw [scV_len]; omega)
  rw [if_neg h1]
  by_cases h2 : k = 2
  · rw [if_pos h2]
    exact cnB_gr (by rw [scV_len]; omega)
  rw [if_neg h2]
  by_cases h3 : k = 3
  · rw [if_pos h3]
    exact cnB_gr (by rw [scV_len]; omega)
  rw [if_neg h3]
  by_cases h4 : k = 4
  · rw [if_pos h4]
    exact cnB_gr (by simp [coT]; omega)
  rw [if_neg h4]
  by_cases h5 : k = 5
  · rw [if_pos h5]
    exact cnB_gr (by simp [mmT]; omega)
  rw [if_neg h5]
  by_cases h6 : k = 6
  · rw [if_pos h6]
    exact cnB_one (by have := ruT_bd (vs := vs) (s := s) (by omega); omega)
  rw [if_neg h6]
  by_cases h7 : k = 7
  · rw [if_pos h7]
    exact cnB_at (hel 0)
  rw [if_neg h7]
  by_cases h8 : k = 8
  · rw [if_pos h8]
    exact cnB_at (hel 1)
  rw [if_neg h8]
  by_cases h9 : k = 9
  · rw [if_pos h9]
    exact cnB_at (hel 2)
  rw [if_neg h9]
  by_cases h10 : k = 10
  · rw [if_pos h10]
    exact cnB_at (cnB_gr (by rw [afT_len]; omega)).2
  rw [if_neg h10]
  by_cases h11 : k = 11
  · rw [if_pos h11]
    refine ⟨?_, fun x hx => ?_⟩
    · have : (szT vs s).length ≤ s := selTo_len
      omega
    · obtain ⟨i, e, hi, _⟩ := selTo_mem (hx : x ∈ selTo _ _)
      omega
  rw [if_neg h11]
  by_cases h12 : k = 12
  · rw [if_pos h12]
    obtain ⟨hac, hpr⟩ := kpA_facts (S := s) (vs := vs) (by omega)
    refine cnB_at fun x hx => ?_
    obtain ⟨i, e, hi⟩ := (pkT_facts hac hpr (k := s) (Nat.le_refl _)).2.2.1 x hx
    omega
  rw [if_neg h12]
  by_cases h13 : k = 13
  · rw [if_pos h13]
    refine cnB_at fun x hx => ?_
    obtain ⟨j, hj, e⟩ := List.getElem_of_mem hx
    obtain ⟨i, e2, hi⟩ := (rk_nat (kr_in hp)).2 j hj
    omega
  rw [if_neg h13]
  exact ⟨by simp, by simp⟩
theorem wnA_cn (s : Int) (vs : List Vt) (k : Int) : cnB (wnA s vs k) := by
  unfold wnA
  split
  · rename_i hp
    obtain ⟨S, rfl⟩ : ∃ S : Nat, s = S := ⟨s.toNat, by have := (prof_facts hp).1; omega⟩
    exact wnT_cn hp k
  · exact ⟨by simp, by simp⟩
end Go.Proofs.YtigepnpiofcooaaGreat.Ax
