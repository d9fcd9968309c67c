/-
  Contracts: all rankings, the best choice of rooms (both programs). No condition.
-/
import Derived.Test.YtkfmhpgnhkdebaaGreatDoorCG18
import Derived.Test.YtkfmhpgnhkdebaaGreatDoorCG8
import Derived.Test.YtkfmhpgnhkdebaaGreatDoorCB2
import Derived.Test.YtkfmhpgnhkdebaaGreatDoorCG12
import Derived.Test.YtkfmhpgnhkdebaaGreatDoorCG17
namespace Go.Proofs.YtkfmhpgnhkdebaaGreatDoor.Ax
open Go Go.RowKit
set_option linter.unusedSimpArgs false
def allRk (m : Int) : List (Bool × List Int) := if inR 1 5 m = true then l03L m.toNat m.toNat [] else []
noncomputable def mOrdA : List AV → Option AV := mk (fun p => 1 ≤ p.length ∧ p.length ≤ 5) (fun p => [ints false p]) (fun p => .sl false 1 ((ordR p.length p).map row))
theorem mOrdA_at (l : List Int) (h : 1 ≤ l.length ∧ l.length ≤ 5) : mOrdA [.sl false 1 (l.map int)] = some (.sl false 1 ((ordR l.length l).map row)) :=
  mk_eq (enc := fun (p : List Int) => [ints false p]) (x := l) (by intro a b h; simp [ints, map_int_inj] at h; rw [h]) h
theorem ordersA_ok : FnOk Tryz.prog 165 mOrdA := by
  refine mk_ok fun l h => ?_
  exact orders_all l.length h.2 _ _ (mOrd_at l.length false l ⟨rfl, h.2, fun h => by simp at h⟩)
def rkB (m : Nat) : Bool := decide ((l03L m m []).length ≤ 120) && decide ((l03L m m []).length ≠ 0) && (l03L m m []).all fun r => !r.1 && rankB m r.2
theorem rkB_at : ∀ m, 1 ≤ m → m ≤ 5 → rkB m = true
  | 1, _, _ => by decide +kernel
  | 2, _, _ => by decide +kernel
  | 3, _, _ => by decide +kernel
  | 4, _, _ => by decide +kernel
  | 5, _, _ => by decide +kernel
  | 0, h, _ => by omega
  | m + 6, _, h => by omega
theorem l03L_facts {m : Nat} (h1 : 1 ≤ m) (h5 : m ≤ 5) : (l03L m m []).length ≤ 120 ∧ (l03L m m []).length ≠ 0 ∧ ∀ r ∈ l03L m m [], r.1 = false ∧ rankB m r.2 = true := by
  have := rkB_at m h1 h5
  simp only [rkB, Bool.and_eq_true, decide_eq_true_eq, List.all_eq_true, Bool.not_eq_true'] at this
  exact ⟨this.1.1, this.1.2, this.2⟩
noncomputable def mAllRk : List AV → Option AV := mk (fun _ => True) (fun (p : (Int)) => [int p]) (fun p => .sl (!inR 1 5 p) 1 ((allRk p).map row))
theorem mAllRk_at (m : Int) : mAllRk [.v (.int .i64 m)] = some (.sl (!inR 1 5 m) 1 ((allRk m).map row)) :=
  mk_eq (enc := fun (p : (Int)) => [int p]) (x := (m)) (by rintro a0 b0 h; simp [ints, intss, int, bool, row, frac, fracs, map_int_inj, map_row_inj, frac_inj, map_frac_inj] at h; simp [h]) trivial
theorem implAllRankings_ok : FnOk Tryz.prog 92 mAllRk := by
  refine mk_ok fun m _ => ?_
  have hG : FnsOk Tryz.prog [(99, mWithin), (166, mIdx), (165, mOrdA)] := (.cons within_ok (.cons indices_ok (.cons ordersA_ok .nil)))
  refine callOk_awp (ctx_ok eqOk hG) mixed (live := [true, false, true, false, false, true]) (dt := []) Tryz.func92 rfl (by kernel_rfl) (by kernel_rfl) fun w0 hlens => ?_
  clear hlens
  cases h : inR 1 5 m with
  | false => simp (config := {contextual := true}) [Tryz.f92, List.range, List.range.loop, ints, intss, int, bool, row, frac, fracs, ← List.map_take, ← List.map_drop, mWithin_in, h, allRk]
  | true =>
    have h2 : 1 ≤ m ∧ m ≤ 5 := by simpa [inR] using h
    obtain ⟨n, rfl⟩ : ∃ n : Nat, m = (n : Int) := ⟨m.toNat, by omega⟩
    have hi := mIdx_at n (by omega)
    have ho := mOrdA_at (idx n) (by rw [idx_len]; omega)
    rw [idx_len, rankings_eq n (by omega) (by omega)] at ho
    have htk : List.take n ((idx n).map int) = (idx n).map int := List.take_of_length_le (by simp [idx_len])
    simp (config := {contextual := true}) [Tryz.f92, List.range, List.range.loop, ints, intss, int, bool, row, frac, fracs, ← List.map_take, ← List.map_drop, mWithin_in, h, allRk, hi, ho, idx_len, htk]
end Go.Proofs.YtkfmhpgnhkdebaaGreatDoor.Ax
namespace Go.Proofs.YtkfmhpgnhkdebaaGreatDoor.Ax
open Go Go.RowKit
set_option linter.unusedSimpArgs false
end Go.Proofs.YtkfmhpgnhkdebaaGreatDoor.Ax
namespace Go.Proofs.YtkfmhpgnhkdebaaGreatDoor.Ax
open Go Go.RowKit
set_option linter.unusedSimpArgs false
noncomputable def mEqI : List AV → Option AV := mk (fun _ => True) (fun (p : (Bool) × (List Int) × (Bool) × (List Int)) => [ints p.1 p.2.1, ints p.2.2.1 p.2.2.2]) (fun p => bool (decide (p.2.1 = p.2.2.2)))
theorem mEqI_at (nl : Bool) (a : List Int) (nl2 : Bool) (b : List Int) : mEqI [.sl nl 1 (a.map int), .sl nl2 1 (b.map int)] = some (.v (.bool (decide (a = b)))) :=
  mk_eq (enc := fun (p : (Bool) × (List Int) × (Bool) × (List Int)) => [ints p.1 p.2.1, ints p.2.2.1 p.2.2.2]) (x := (nl, a, nl2, b)) (by rintro ⟨a0, a1, a2, a3⟩ ⟨b0, b1, b2, b3⟩ h; simp [ints, intss, int, bool, row, frac, fracs, map_int_inj, map_row_inj, frac_inj, map_frac_inj] at h; simp [h]) trivial
theorem eqI_ok : FnOk Tryz.prog 193 mEqI := by
  refine mk_ok fun ⟨nl, a, nl2, b⟩ _ => ?_
  have hG : FnsOk Tryz.prog [] := .nil
  refine callOk_awp (ctx_ok eqOk hG) mixed (live := [true, true, false, false, true, true, false, false, false, false, true, false, true, true, true, false, false, false, false, false, false, false, false, false, true]) (dt := [(6, ⟨[], [], []⟩)]) Tryz.func193 rfl (by kernel_rfl) (by kernel_rfl) fun w0 hlens => ?_
  generalize hr : decide (a = b) = r
  have hbl := (lens_ints.1 hlens.2.1).1
  clear hlens
  by_cases hl : a.length = b.length
  rotate_left
  · have hli : ¬ (a.length : Int) = (b.length : Int) := by omega
    have hrf : r = false := by rw [← hr]; simp; intro h; exact hl (by rw [h])
    subst hrf
    simp [Tryz.f193, List.range, List.range.loop, ints, intss, int, bool, row, frac, fracs, ← List.map_take, ← List.map_drop, hl, hli]
  have hli : (a.length : Int) = (b.length : Int) := by omega
  simp [Tryz.f193, List.range, List.range.loop, ints, intss, int, bool, row, frac, fracs, ← List.map_take, ← List.map_drop, hl, hli]
  refine awp_range (live := [true, true, false, false, true, true, false, false, false, false, true, false, true, true, true, false, false, false, false, false, false, false, false, false, true]) (ctx_ok eqOk hG) mixed [true, true, false, false, false, false, false, false, false, false, false, false, true, true] (b.length) (fun k => ∀ i (h : i < a.length), i < k → a[i] = b[i]'(by omega)) (fun k => ⟨[ints nl a, ints nl2 b, .junk, .junk, .junk, .junk, .junk, .junk, .junk, .junk, .junk, .junk, int b.length, int k, .junk, .junk, .junk, .junk, .junk, .junk, .junk, .junk, .junk, .junk, .junk, .junk], []⟩) ?_ (by simp [sub, slotsLe, clean, keep, refsL, refs, once, place, renL, ren, List.replicate, int, bool, ints, hl]) ?_ ?_ ?_
  · omega
  · intro i h hi; omega
  · intro k hk hp hwk
    have hka : k < a.length := by omega
    by_cases he : a[k] = b[k]
    · have hp' : ∀ i (h : i < a.length), i < k + 1 → a[i] = b[i]'(by omega) := fun i h hi => by
        by_cases e : i = k
        · subst e; exact he
        · exact hp i h (by omega)
      simp [List.range, List.range.loop, ints, intss, int, bool, row, frac, fracs, ← List.map_take, ← List.map_drop, hk, hka, hwk, he]
      exact hp'
    · have hrf : r = false := by rw [← hr]; simp; intro h; subst h; exact he rfl
      subst hrf
      simp [List.range, List.range.loop, ints, intss, int, bool, row, frac, fracs, ← List.map_take, ← List.map_drop, hk, hka, hwk, he]
  · intro hp
    have hrt : r = true := by rw [← hr]; simp; exact List.ext_getElem hl fun i h1 _ => hp i h1 (by omega)
    subst hrt
    simp [List.range, List.range.loop, ints, intss, int, bool, row, frac, fracs, ← List.map_take, ← List.map_drop]
theorem rkn1 (r : Bool × List Int) (nl : Bool) (l : List Int) : CallOk Tryz.prog 245 [row r, .fp (ints nl l) 0] (.v (.bool (decide (r.2 = l)))) := by
  have h := mEqI_at r.1 r.2 nl l
  have hG : FnsOk Tryz.prog [(193, mEqI)] := (.cons eqI_ok .nil)
  refine callOk_awp (ctx_ok eqOk hG) mixed (live := [true, true, false, true]) (dt := []) Tryz.func245 rfl (by kernel_rfl) (by kernel_rfl) fun w0 hlens => ?_
  clear hlens
  simp [Tryz.f245, List.range, List.range.loop, ints, intss, int, bool, row, frac, fracs, ← List.map_take, ← List.map_drop, h]
def rknT (l : List Int) : Int := idxOf (fun r : Bool × List Int => decide (r.2 = l)) (allRk l.length)
noncomputable def mRkn : List AV → Option AV := mk (fun _ => True) (fun (p : (Bool) × (List Int)) => [ints p.1 p.2]) (fun p => int (rknT p.2))
theorem mRkn_at (nl : Bool) (l : List Int) : mRkn [.sl nl 1 (l.map int)] = some (.v (.int .i64 (rknT l))) :=
  mk_eq (enc := fun (p : (Bool) × (List Int)) => [ints p.1 p.2]) (x := (nl, l)) (by rintro ⟨a0, a1⟩ ⟨b0, b1⟩ h; simp [ints, intss, int, bool, row, frac, fracs, map_int_inj, map_row_inj, frac_inj, map_frac_inj] at h; simp [h]) trivial
theorem rkn_ok : FnOk Tryz.prog 190 mRkn := by
  refine mk_ok fun ⟨nl, l⟩ _ => ?_
  have hA := mAllRk_at l.length
  have hx : CallOk Tryz.prog 106 [intss (!inR 1 5 l.length) (allRk l.length), .fn 245 [.fp (ints nl l) 0]] (int (rknT l)) :=
    indexIntss (pure_fp (a := ints nl l) (j := 0) pure_nil) (fun r => decide (r.2 = l)) _ _ (fun r _ => rkn1 r nl l)
  obtain ⟨m, hm, hz⟩ := as_model hx
  simp only [ints, intss] at hz
  have hG : FnsOk Tryz.prog [(92, mAllRk), (106, m)] := (.cons implAllRankings_ok (.cons hm .nil))
  refine callOk_awp (ctx_ok eqOk hG) mixed (live := [true, true, true]) (dt := []) Tryz.func190 rfl (by kernel_rfl) (by kernel_rfl) fun w0 hlens => ?_
  clear hlens
  have ht : List.take l.length l = l := List.take_length
  simp [Tryz.f190, List.range, List.range.loop, ints, intss, int, bool, row, frac, fracs, ← List.map_take, ← List.map_drop, hA, hz, ht]
theorem all4' : ((List.range 4).all fun a => (List.range 4).all fun b => (List.range 4).all fun c => (List.range 4).all fun d => a == b || a == c || a == d || b == c || b == d || c == d || decide ((false, [(a : Int), (b : Int), (c : Int), (d : Int)]) ∈ allRk 4)) = true := by decide +kernel
theorem all3' : ((List.range 3).all fun a => (List.range 3).all fun b => (List.range 3).all fun c => a == b || a == c || b == c || decide ((false, [(a : Int), (b : Int), (c : Int)]) ∈ allRk 3)) = true := by decide +kernel
theorem all2' : ((List.range 2).all fun a => (List.range 2).all fun b => a == b || decide ((false, [(a : Int), (b : Int)]) ∈ allRk 2)) = true := by decide +kernel
theorem all1' : (false, [(0 : Int)]) ∈ allRk 1 := by decide +kernel
theorem rk_all {l : List Int} (h : rankB l.length l = true) (h4 : l.length ≤ 4) : (false, l) ∈ allRk l.length := by
  obtain ⟨n1, _, _, hb, hn⟩ := rank_facts h
  have key : ∀ x ∈ l, ∃ a : Nat, x = a ∧ a < l.length := fun x hx => by
    obtain ⟨i, hi, rfl⟩ := List.getElem_of_mem hx
    have := hb i hi
    exact ⟨l[i].toNat, by omega, by omega⟩
  clear h hb
  match l, key, hn with
  | [x], key, _ =>
    obtain ⟨a, rfl, ha⟩ := key x (by simp)
    simp at ha; subst ha
    exact all1'
  | [x, y], key, hn =>
    obtain ⟨a, rfl, ha⟩ := key x (by simp)
    obtain ⟨b, rfl, hb⟩ := key y (by simp)
    simp at hn ha hb
    have := List.all_eq_true.1 (List.all_eq_true.1 all2' a (List.mem_range.2 ha)) b (List.mem_range.2 hb)
    simpa [show a ≠ b by omega] using this
  | [x, y, z], key, hn =>
    obtain ⟨a, rfl, ha⟩ := key x (by simp)
    obtain ⟨b, rfl, hb⟩ := key y (by simp)
    obtain ⟨c, rfl, hc⟩ := key z (by simp)
    simp at hn ha hb hc
    have := List.all_eq_true.1 (List.all_eq_true.1 (List.all_eq_true.1 all3' a (List.mem_range.2 ha)) b (List.mem_range.2 hb)) c (List.mem_range.2 hc)
    simpa [show a ≠ b by omega, show a ≠ c by omega, show b ≠ c by omega] using this
  | [x, y, z, u], key, hn =>
    obtain ⟨a, rfl, ha⟩ := key x (by simp)
    obtain ⟨b, rfl, hb⟩ := key y (by simp)
    obtain ⟨c, rfl, hc⟩ := key z (by simp)
    obtain ⟨d, rfl, hd⟩ := key u (by simp)
    simp at hn ha hb hc hd
    have := List.all_eq_true.1 (List.all_eq_true.1 (List.all_eq_true.1 (List.all_eq_true.1 all4' a (List.mem_range.2 ha)) b (List.mem_range.2 hb)) c (List.mem_range.2 hc)) d (List.mem_range.2 hd)
    simpa [show a ≠ b by omega, show a ≠ c by omega, show a ≠ d by omega, show b ≠ c by omega, show b ≠ d by omega, show c ≠ d by omega] using this
  | [], _, _ => simp at n1
  | _ :: _ :: _ :: _ :: _ :: _, _, _ => simp at h4
theorem rkn_nat {l : List Int} (h : rankB l.length l = true) (h4 : l.length ≤ 4) : ∃ b : Nat, rknT l = b ∧ b < (allRk l.length).length := by
  have hm := rk_all h h4
  unfold rknT idxOf
  cases hf : (allRk l.length).findIdx? fun r => decide (r.2 = l) with
  | some b =>
    obtain ⟨hb, _, _⟩ := List.findIdx?_eq_some_iff_getElem.1 hf
    exact ⟨b, rfl, hb⟩
  | none =>
    rw [List.findIdx?_eq_none_iff] at hf
    have := hf _ hm
    simp at this
end Go.Proofs.YtkfmhpgnhkdebaaGreatDoor.Ax
namespace Go.Proofs.YtkfmhpgnhkdebaaGreatDoor.Ax
open Go Go.RowKit
set_option linter.unusedSimpArgs false
def mcF (c : List Int) (v : Vt) : List Int := c.set (rknT v.1.2).toNat (at0 c (rknT v.1.2).toNat + v.2)
def mcT (M : Nat) (vs : List Vt) : List Int := vs.foldl mcF (List.replicate M 0)
theorem mcT_nil {M : Nat} : mcT M [] = List.replicate M 0 := rfl
theorem mcT_snoc {M : Nat} {vs : List Vt} {v : Vt} : mcT M (vs ++ [v]) = mcF (mcT M vs) v := by simp [mcT]
theorem mcF_len {c : List Int} {v : Vt} : (mcF c v).length = c.length := by simp [mcF]
theorem mcFold_len : ∀ {vs : List Vt} {c : List Int}, (vs.foldl mcF c).length = c.length
  | [], _ => rfl
  | v :: vs, c => by rw [List.foldl_cons, mcFold_len (vs := vs), mcF_len]
theorem mcT_len {M : Nat} {vs : List Vt} : (mcT M vs).length = M := by unfold mcT; rw [mcFold_len]; simp
theorem set_at0' {o : List Int} {i j : Nat} {v : Int} (h : i < o.length) : at0 (o.set i v) j = if i = j then v else at0 o j := by
  unfold at0
  rw [List.getD_eq_getElem?_getD, List.getElem?_set]
  split
  · rename_i e; subst e; simp [h]
  · rw [← List.getD_eq_getElem?_getD]
def okV (M : Nat) (v : Vt) : Prop := 1 ≤ v.2 ∧ v.2 ≤ 6 ∧ 0 ≤ rknT v.1.2 ∧ (rknT v.1.2).toNat < M
theorem mcFold_bd {M : Nat} : ∀ {vs : List Vt} {c : List Int} {B : Int}, c.length = M → (∀ j, 0 ≤ at0 c j ∧ at0 c j ≤ B) → (∀ v ∈ vs, okV M v) → ∀ j, 0 ≤ at0 (vs.foldl mcF c) j ∧ at0 (vs.foldl mcF c) j ≤ B + 6 * vs.length
  | [], c, B, _, h, _, j => by simpa using h j
  | v :: vs, c, B, hl, h, hv, j => by
    have hv0 := hv v (by simp)
    obtain ⟨h1, h2, _, h4⟩ := hv0
    have := mcFold_bd (vs := vs) (c := mcF c v) (B := B + 6) (by rw [mcF_len, hl]) (fun j => by
      unfold mcF
      rw [set_at0' (by omega)]
      split
      · have := h (rknT v.1.2).toNat; omega
      · have := h j; omega) (fun w hw => hv w (by simp [hw])) j
    rw [List.foldl_cons]
    simp only [List.length_cons]
    omega
theorem mcFold_mono {M : Nat} : ∀ {vs : List Vt} {c : List Int}, c.length = M → (∀ v ∈ vs, okV M v) → ∀ j, at0 c j ≤ at0 (vs.foldl mcF c) j
  | [], _, _, _, _ => Int.le_refl _
  | v :: vs, c, hl, hv, j => by
    obtain ⟨h1, h2, _, h4⟩ := hv v (by simp)
    have := mcFold_mono (vs := vs) (c := mcF c v) (by rw [mcF_len, hl]) (fun w hw => hv w (by simp [hw])) j
    rw [List.foldl_cons]
    have h5 : at0 c j ≤ at0 (mcF c v) j := by
      unfold mcF
      rw [set_at0' (by omega)]
      split
      · rename_i e; subst e; omega
      · exact Int.le_refl _
    omega
theorem rep_at0 {M j : Nat} : at0 (List.replicate M (0 : Int)) j = 0 := by
  unfold at0
  rw [List.getD_eq_getElem?_getD, List.getElem?_replicate]
  split <;> rfl
theorem mcT_bd {M : Nat} {vs : List Vt} (hv : ∀ v ∈ vs, okV M v) (h5 : vs.length ≤ 5) (j : Nat) : 0 ≤ at0 (mcT M vs) j ∧ at0 (mcT M vs) j ≤ 30 := by
  have := mcFold_bd (vs := vs) (c := List.replicate M 0) (B := 0) (by simp) (fun j => by rw [rep_at0]; omega) hv j
  unfold mcT
  omega
theorem mcT_pos {M : Nat} {vs : List Vt} (hv : ∀ v ∈ vs, okV M v) (hne : vs ≠ []) : ∃ j, j < M ∧ 0 < at0 (mcT M vs) j := by
  cases vs with
  | nil => exact absurd rfl hne
  | cons v vs =>
    obtain ⟨h1, h2, h3, h4⟩ := hv v (by simp)
    refine ⟨_, h4, ?_⟩
    have := mcFold_mono (vs := vs) (c := mcF (List.replicate M 0) v) (by rw [mcF_len]; simp) (fun w hw => hv w (by simp [hw])) (rknT v.1.2).toNat
    have h5 : at0 (mcF (List.replicate M 0) v) (rknT v.1.2).toNat = v.2 := by
      unfold mcF
      rw [set_at0' (by simpa using h4), if_pos rfl, rep_at0]; omega
    show 0 < at0 ((v :: vs).foldl mcF (List.replicate M 0)) _
    rw [List.foldl_cons]
    omega
def mgV (R : List (Bool × List Int)) (c : List Int) (k : Nat) : List Vt := ((List.range k).filter fun j => decide (0 < at0 c j)).map fun j => (R.getD j (false, []), at0 c j)
theorem mgV_zero {R : List (Bool × List Int)} {c : List Int} : mgV R c 0 = [] := rfl
theorem mgV_yes {R : List (Bool × List Int)} {c : List Int} {k : Nat} (hk : k < R.length) (h : 0 < at0 c k) : mgV R c (k + 1) = mgV R c k ++ [(R[k], at0 c k)] := by
  unfold mgV
  rw [List.range_succ, List.filter_append, List.map_append]
  simp [h, List.getD_eq_getElem?_getD, List.getElem?_eq_getElem hk]
theorem mgV_no {R : List (Bool × List Int)} {c : List Int} {k : Nat} (h : ¬ 0 < at0 c k) : mgV R c (k + 1) = mgV R c k := by
  unfold mgV
  rw [List.range_succ, List.filter_append, List.map_append]
  simp [h]
theorem mgV_len {R : List (Bool × List Int)} {c : List Int} {k : Nat} : (mgV R c k).length ≤ k := by
  unfold mgV
  rw [List.length_map]
  exact Nat.le_trans (List.length_filter_le _ _) (by simp)
theorem mgV_ne {R : List (Bool × List Int)} {c : List Int} {k j : Nat} (hj : j < k) (h : 0 < at0 c j) : mgV R c k ≠ [] := by
  unfold mgV
  intro e
  have := List.map_eq_nil_iff.1 e
  have hm : j ∈ (List.range k).filter fun j => decide (0 < at0 c j) := by
    rw [List.mem_filter]; exact ⟨List.mem_range.2 hj, by simpa using h⟩
  rw [this] at hm
  simp at hm
theorem allRk_4 {s : Nat} (h1 : 1 ≤ s) (h4 : s ≤ 4) : (allRk s).length ≤ 24 := by
  match s, h1, h4 with
  | 1, _, _ => decide +kernel
  | 2, _, _ => decide +kernel
  | 3, _, _ => decide +kernel
  | 4, _, _ => decide +kernel
  | 0, h, _ => omega
  | s + 5, _, h => omega
theorem allRk_facts {s : Nat} (h1 : 1 ≤ s) (h5 : s ≤ 5) : (allRk s).length ≠ 0 ∧ ∀ r ∈ allRk s, r.1 = false ∧ rankB s r.2 = true := by
  have hi : inR 1 5 (s : Int) = true := by simp [inR]; omega
  have e : allRk s = l03L s s [] := by unfold allRk; rw [if_pos hi]; simp
  rw [e]
  exact ⟨(l03L_facts h1 h5).2.1, (l03L_facts h1 h5).2.2⟩
theorem mgV_ok {s : Nat} (h1 : 1 ≤ s) (h4 : s ≤ 4) {c : List Int} (hc : ∀ j, 0 ≤ at0 c j ∧ at0 c j ≤ 30) : profB s (mgV (allRk s) c (allRk s).length) = true := by
  have hl := mgV_len (R := allRk s) (c := c) (k := (allRk s).length)
  have hm := allRk_4 h1 h4
  simp only [profB, Bool.and_eq_true, inR_iff, decide_eq_true_eq, List.all_eq_true]
  refine ⟨⟨⟨by omega, by omega⟩, by omega⟩, fun v hv => ?_⟩
  unfold mgV at hv
  obtain ⟨j, hj, rfl⟩ := List.mem_map.1 hv
  rw [List.mem_filter, List.mem_range] at hj
  obtain ⟨hj1, hj2⟩ := hj
  simp only [decide_eq_true_eq] at hj2
  have hr := (allRk_facts h1 (by omega)).2 (allRk s)[j] (List.getElem_mem hj1)
  simp only [vtB, Bool.and_eq_true, inR_iff, List.getD_eq_getElem?_getD, List.getElem?_eq_getElem hj1, Option.getD_some]
  have := hc j
  exact ⟨hr.2, by omega, by omega⟩
theorem mx_le {xs : List Int} {B : Int} (h : ∀ j, j < xs.length → at0 xs j ≤ B) (h0 : 0 < xs.length) : mx xs ≤ B := by
  have key : ∀ k, 1 ≤ k → k ≤ xs.length → mxTo xs k ≤ B := by
    intro k h1
    induction k with
    | zero => omega
    | succ k ih =>
      intro hk
      by_cases hk0 : k = 0
      · subst hk0
        rw [mxTo_one h0]
        have := h 0 h0
        rwa [at0_eq h0] at this
      · rw [mxTo_succ (by omega)]
        have h2 := ih (by omega) (by omega)
        have h3 := h k (by omega)
        rw [at0_eq (by omega)] at h3
        omega
  exact key _ h0 (Nat.le_refl _)
def smP (s : Nat) (vs : List Vt) : Prop := 1 ≤ s ∧ s ≤ 4 ∧ profB s vs = true ∧ vs ≠ [] ∧ vs.length ≤ 5 ∧ ∀ v ∈ vs, 1 ≤ v.2 ∧ v.2 ≤ 6
theorem smP_okV {s : Nat} {vs : List Vt} (h : smP s vs) : ∀ v ∈ vs, okV (allRk s).length v := fun v hv => by
  obtain ⟨h1, h4, hp, _, _, hb⟩ := h
  obtain ⟨_, _, hall⟩ := prof_facts hp
  obtain ⟨hr, _⟩ := hall v hv
  have hl := (rank_facts hr).2.2.1
  have e : v.1.2.length = s := by omega
  obtain ⟨b, e1, e2⟩ := rkn_nat (l := v.1.2) (by rw [hl]; exact hr) (by omega)
  refine ⟨(hb v hv).1, (hb v hv).2, by omega, ?_⟩
  rw [hl] at e2
  omega
def mgd (s : Nat) (vs : List Vt) : List Vt := mgV (allRk s) (mcT (allRk s).length vs) (allRk s).length
theorem mgd_ne {s : Nat} {vs : List Vt} (h : smP s vs) : mgd s vs ≠ [] := by
  obtain ⟨j, h1, h2⟩ := mcT_pos (smP_okV h) h.2.2.2.1
  exact mgV_ne h1 h2
theorem mgd_ok {s : Nat} {vs : List Vt} (h : smP s vs) : profB s (mgd s vs) = true := mgV_ok h.1 h.2.1 (mcT_bd (smP_okV h) h.2.2.2.2.1)
end Go.Proofs.YtkfmhpgnhkdebaaGreatDoor.Ax
