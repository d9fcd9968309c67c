/-
  Fractions of a common divisor: sums, differences and quotients of them. No condition.
-/
import Derived.Test.YtkfmhpgnhkdebaaGreatDoorCG18
import Derived.Test.YtkfmhpgnhkdebaaGreatDoorCG2
import Derived.Test.YtkfmhpgnhkdebaaGreatDoorCG3
import Derived.Test.YtkfmhpgnhkdebaaGreatDoorCG8
import Derived.Test.YtkfmhpgnhkdebaaGreatDoorCK4
import Derived.Test.YtkfmhpgnhkdebaaGreatDoorCB2
import Derived.Deep.QuietTactic
import Derived.BigQuiet
namespace Go.Proofs.YtkfmhpgnhkdebaaGreatDoor.Ax
open Go Go.RowKit
set_option linter.unusedSimpArgs false
end Go.Proofs.YtkfmhpgnhkdebaaGreatDoor.Ax
namespace Go.Proofs.YtkfmhpgnhkdebaaGreatDoor.Ax
open Go Go.RowKit
set_option linter.unusedSimpArgs false
theorem insFrom_perm {c : Int → Int → Int} {ys : List Int} {x : Int} : ∀ {k : Nat}, (insFrom c ys x k).Perm (x :: ys)
  | 0 => .refl _
  | k + 1 => by
    unfold insFrom
    split
    · exact insFrom_perm
    · have := List.perm_middle (a := x) (l₁ := ys.take (k + 1)) (l₂ := ys.drop (k + 1))
      rwa [List.take_append_drop] at this
theorem isort_perm {c : Int → Int → Int} (xs : List Int) : (isort c xs).Perm xs := by
  unfold isort
  suffices h : ∀ (xs ys : List Int), (xs.foldl (ins c) ys).Perm (ys ++ xs) by simpa using h xs []
  intro xs
  induction xs with
  | nil => intro ys; simp
  | cons x xs ih =>
    intro ys
    simp only [List.foldl_cons]
    refine (ih _).trans ?_
    have h1 : (ins c ys x ++ xs).Perm ((x :: ys) ++ xs) := List.Perm.append_right _ insFrom_perm
    refine h1.trans ?_
    exact (List.perm_middle (a := x) (l₁ := ys) (l₂ := xs)).symm
abbrev DSt := Int × Int × List (Int × Int)
section
variable {u v : List Int} {fr : Int} {n : Nat} {ord : List Int} {sh : List (Int × Int)} {R : List (Int × Int)} {k : Nat} {s : DSt}
end
end Go.Proofs.YtkfmhpgnhkdebaaGreatDoor.Ax
namespace Go.Proofs.YtkfmhpgnhkdebaaGreatDoor.Ax
open Go Go.RowKit
theorem at0_set {o : List Int} {i j : Nat} {v : Int} (h : i < o.length) : at0 (o.set i v) j = if i = j then v else at0 o j := by
  unfold at0
  rw [List.getD_eq_getElem?_getD, List.getElem?_set]
  split
  · rename_i e; subst e; simp [h]
  · rw [← List.getD_eq_getElem?_getD]
theorem at0_incsH {m : Nat} {j : Nat} : ∀ {l : List Int} {o : List Int}, o.length = m → (∀ i ∈ l, ∃ b : Nat, b < m ∧ i = b) → at0 (incs o l) j = at0 o j + (l.count (j : Int) : Nat)
  | [], o, _, _ => by simp [incs]
  | i :: l, o, ho, h => by
    obtain ⟨b, hb, rfl⟩ := h i (by simp)
    have ih := at0_incsH (m := m) (j := j) (l := l) (o := inc1 o (b : Int)) (by rw [inc1_len]; exact ho) fun x hx => h x (by simp [hx])
    have e : incs o ((b : Int) :: l) = incs (inc1 o b) l := rfl
    rw [e, ih]
    have e1 : at0 (inc1 o (b : Int)) j = if b = j then at0 o b + 1 else at0 o j := by
      unfold inc1
      rw [Int.toNat_natCast, at0_set (by omega)]
    rw [e1, List.count_cons]
    by_cases hbj : b = j
    · subst hbj; simp; omega
    · have : ¬ (b : Int) = (j : Int) := by omega
      simp [hbj, this]
theorem sum_perm {l l' : List Int} (h : l.Perm l') : l.sum = l'.sum := by
  induction h with
  | nil => rfl
  | cons x _ ih => simp [ih]
  | swap x y l => simp; omega
  | trans _ _ h1 h2 => rw [h1, h2]
theorem idx_map {rs : List Int} : (idx rs.length).map (fun i => at0 rs i.toNat) = rs := by
  apply List.ext_getElem
  · simp [idx]
  · intro i h1 h2
    simp [idx, at0_eq h2]
theorem sum_le_pos {c : Int} : ∀ {l : List Int} {p : Nat}, (∀ x ∈ l, x ≤ c) → (∀ j (h : j < l.length), p ≤ j → l[j] ≤ 0) → 0 ≤ c → l.sum ≤ c * p
  | [], _, _, _, hc => by simp; exact Int.mul_nonneg hc (by omega)
  | x :: l, 0, h1, h2, hc => by
    have := sum_le_pos (c := c) (l := l) (p := 0) (fun y hy => h1 y (by simp [hy])) (fun j hj _ => h2 (j + 1) (by simp; omega) (by omega)) hc
    have h0 := h2 0 (by simp) (by omega)
    simp at h0 this ⊢
    omega
  | x :: l, p + 1, h1, h2, hc => by
    have := sum_le_pos (c := c) (l := l) (p := p) (fun y hy => h1 y (by simp [hy])) (fun j hj hpj => h2 (j + 1) (by simp; omega) (by omega)) hc
    have h0 := h1 x (by simp)
    rw [List.sum_cons, Int.natCast_add, Int.mul_add]
    simp
    omega
theorem rem_pos {xs : List Int} {n : Int} (h : qtB xs n = true) {i : Nat} (hi : (i : Int) ∈ (ordH (qR xs n)).take (hamK xs n)) : 0 < at0 (qR xs n) i := by
  obtain ⟨h1, h2, h3, h4⟩ := q_facts h
  have hq := h
  simp only [qtB, Bool.and_eq_true, inR_iff] at hq
  obtain ⟨hc, hn⟩ := hq
  obtain ⟨c1, c2, c3, c4, c5⟩ := cnt_facts hc
  have hs := q_sum (S := xs.sum) (n := n) (l := xs)
  change xs.sum * (qL xs n).sum + (qR xs n).sum = xs.sum * n at hs
  have e : xs.sum * (n - (qL xs n).sum) = (qR xs n).sum := by rw [Int.mul_sub]; omega
  have eK : (hamK xs n : Int) = n - (qL xs n).sum := by unfold hamK; omega
  rw [← eK] at e
  generalize hamK xs n = K at *
  generalize qR xs n = rs at *
  obtain ⟨p, hp, ep⟩ := List.getElem_of_mem hi
  have hpK : p < K ∧ p < (ordH rs).length := by simp at hp; omega
  rw [List.getElem_take] at ep
  have him : ∃ b : Nat, b < rs.length ∧ (i : Int) = b := ordH_mem.1 (List.mem_of_mem_take hi)
  obtain ⟨b, hb, eb⟩ := him
  have hib : i = b := by omega
  subst hib
  have hnn := (h1 _ (List.getElem_mem hb)).1
  rw [← at0_eq hb] at hnn
  rcases Int.lt_or_le 0 (at0 rs i) with hpos | hz
  · exact hpos
  exfalso
  have hlex := List.pairwise_iff_getElem.1 (isort_lex (rs := rs) rs.length)
  change ∀ (i j : Nat) (hi : i < (ordH rs).length) (hj : j < (ordH rs).length), i < j → lexS rs (ordH rs)[i] (ordH rs)[j] at hlex
  have hsum : ((ordH rs).map (fun i => at0 rs i.toNat)).sum = rs.sum := by
    have hp : (ordH rs).Perm (idx rs.length) := isort_perm (c := rstC rs) (idx rs.length)
    rw [sum_perm (hp.map (fun i => at0 rs i.toNat)), idx_map]
  have hle : ((ordH rs).map (fun i => at0 rs i.toNat)).sum ≤ (xs.sum - 1) * p := by
    refine sum_le_pos (fun x hx => ?_) (fun j hj hpj => ?_) (by omega)
    · obtain ⟨y, hy, rfl⟩ := List.mem_map.1 hx
      obtain ⟨b, hb, rfl⟩ := ordH_mem.1 hy
      have := h1 _ (List.getElem_mem hb)
      rw [← at0_eq hb] at this
      simp; omega
    · rw [List.getElem_map]
      by_cases ej : p = j
      · subst ej; rw [ep]; simpa using hz
      · have hj' : j < (ordH rs).length := by simpa using hj
        have := hlex p j hpK.2 hj' (by omega)
        rw [ep] at this
        unfold lexS at this
        simp only [Int.toNat_natCast] at this
        omega
  rw [hsum, ← e] at hle
  have k1 : (xs.sum - 1) * (p : Int) ≤ (xs.sum - 1) * ((K : Int) - 1) := Int.mul_le_mul_of_nonneg_left (by omega) (by omega)
  rw [Int.sub_mul, Int.sub_mul, Int.mul_sub] at k1
  rw [Int.sub_mul] at hle
  omega
theorem idx_nodup {m : Nat} : (idx m).Nodup := by
  unfold idx
  rw [List.nodup_iff_pairwise_ne, List.pairwise_map]
  refine (List.nodup_iff_pairwise_ne.1 List.nodup_range).imp fun h e => h (by omega)
theorem ordH_nodup {rs : List Int} : (ordH rs).Nodup := (isort_perm _).nodup_iff.2 idx_nodup
theorem ham_keeps {xs : List Int} {n : Int} (h : qtB xs n = true) : kqB xs (hamT xs n) = true := by
  obtain ⟨h1, h2, h3, h4⟩ := q_facts h
  obtain ⟨l1, l2, l3⟩ := hamT_facts h
  have hq := h
  simp only [qtB, Bool.and_eq_true, inR_iff] at hq
  obtain ⟨hc, hn⟩ := hq
  obtain ⟨c1, c2, c3, c4, c5⟩ := cnt_facts hc
  unfold kqB seB
  rw [l2, hc]
  simp only [Bool.true_and, Bool.and_eq_true, decide_eq_true_eq, List.all_eq_true, inR_iff]
  have hle : ∀ x ∈ hamT xs n, x ≤ n := fun x hx => by
    obtain ⟨a, b, e⟩ := List.append_of_mem hx
    have ha := sum_bd (l := a) (c := 106) fun y hy => l3 y (by rw [e]; simp [hy])
    have hb := sum_bd (l := b) (c := 106) fun y hy => l3 y (by rw [e]; simp [hy])
    rw [e] at l2
    simp only [List.sum_append, List.sum_cons] at l2
    omega
  refine ⟨⟨⟨l1, fun x hx => ⟨(l3 x hx).1, by have := hle x hx; omega⟩⟩, by omega⟩, ?_⟩
  rw [l1]
  refine kqTo_all fun i hi => ?_
  rw [inR_iff]
  have hl : (qL xs n).length = xs.length := by simp [qL]
  have hr : (qR xs n).length = xs.length := by simp [qR]
  have hu : (qU xs n).length = xs.length := by simp [qU]
  have ha : at0 (hamT xs n) i = at0 (qL xs n) i + (((ordH (qR xs n)).take (hamK xs n)).count (i : Int) : Nat) :=
    at0_incsH (m := xs.length) hl fun j hj => by
      obtain ⟨b, hb, rfl⟩ := ordH_mem.1 (List.mem_of_mem_take hj)
      exact ⟨b, by omega, rfl⟩
  have hnd : ((ordH (qR xs n)).take (hamK xs n)).Nodup := (ordH_nodup).sublist (List.take_sublist _ _)
  have hct : ((ordH (qR xs n)).take (hamK xs n)).count (i : Int) ≤ 1 := List.nodup_iff_count.1 hnd _
  have hpos : 0 < ((ordH (qR xs n)).take (hamK xs n)).count (i : Int) → 0 < at0 (qR xs n) i := fun hp => rem_pos h (List.count_pos_iff.1 hp)
  rw [ha]
  generalize ((ordH (qR xs n)).take (hamK xs n)).count (i : Int) = c at *
  have eL : at0 (qL xs n) i = (xs[i] * n).tdiv xs.sum := by rw [at0_eq (by omega)]; simp [qL]
  have eR : at0 (qR xs n) i = (xs[i] * n).tmod xs.sum := by rw [at0_eq (by omega)]; simp [qR]
  have eU : at0 (qU xs n) i = (xs[i] * n + xs.sum - 1).tdiv xs.sum := by rw [at0_eq (by omega)]; simp [qU]
  rw [eR] at hpos
  rw [eL, eU]
  have hx := c3 _ (List.getElem_mem hi)
  have h0 : 0 ≤ xs[i] * n := Int.mul_nonneg hx.1 hn.1
  rw [Int.tmod_eq_emod_of_nonneg h0] at hpos
  rw [Int.tdiv_eq_ediv_of_nonneg h0, Int.tdiv_eq_ediv_of_nonneg (by omega)]
  generalize xs[i] * n = a at *
  generalize xs.sum = S at *
  have m1 := Int.emod_add_mul_ediv a S
  have m2 := Int.emod_add_mul_ediv (a + S - 1) S
  have m3 := Int.emod_nonneg a (b := S) (by omega)
  have m4 := Int.emod_lt_of_pos a c4
  have m5 := Int.emod_nonneg (a + S - 1) (b := S) (by omega)
  have m6 := Int.emod_lt_of_pos (a + S - 1) c4
  refine ⟨by omega, ?_⟩
  by_cases hc0 : c = 0
  · subst hc0
    simp
    exact Int.ediv_le_ediv c4 (by omega)
  · have hp := hpos (by omega)
    have hc1 : c = 1 := by omega
    subst hc1
    have : (a / S + 1) ≤ (a + S - 1) / S := by
      rw [Int.le_ediv_iff_mul_le c4, Int.add_mul, Int.mul_comm]
      omega
    simpa using this
end Go.Proofs.YtkfmhpgnhkdebaaGreatDoor.Ax
namespace Go.Proofs.YtkfmhpgnhkdebaaGreatDoor.Ax
open Go Go.RowKit
set_option linter.unusedSimpArgs false
def bAV (n : Int) : AV := .v (.int .u8 n)
def byts (nl : Bool) (l : List Int) : AV := .sl nl 1 (l.map bAV)
def stB (h : Int) : Int := wrap64 (wrap64 (h * 6364136223846793005) + 1442695040888963407)
def byB (h : Int) : Int := bits .and .i64 (bits .xor .i64 (stB h / 8589934592) (stB h / 35184372088832)) 255
def crX (by' : List Int) (s : Int × Int) : Int := if s.1 < (by'.length : Int) then bits .and .i64 (wrap64 (byB s.2 + wrap64 (by'.getD s.1.toNat 0))) 255 else byB s.2
def crS (by' : List Int) (s : Int × Int) : Int × Int := if s.1 < (by'.length : Int) then (wrap64 (s.1 + 1), stB s.2) else (s.1, stB s.2)
theorem and255 (x : Int) : 0 ≤ bits .and .i64 x 255 ∧ bits .and .i64 x 255 ≤ 255 := by
  have h : (BitVec.ofInt IntKind.i64.bits x &&& BitVec.ofInt IntKind.i64.bits 255).toNat ≤ 255 := by
    rw [BitVec.toNat_and]
    exact Nat.le_trans Nat.and_le_right (by decide)
  have e : bits .and .i64 x 255 = IntKind.i64.wrap ((BitVec.ofInt IntKind.i64.bits x &&& BitVec.ofInt IntKind.i64.bits 255).toNat : Int) := rfl
  rw [e, wrapI (by omega) (by omega)]
  omega
theorem crX_bd {by' : List Int} {s : Int × Int} : 0 ≤ crX by' s ∧ crX by' s ≤ 255 := by
  unfold crX byB; split <;> exact and255 _
structure CrOk (by' : List Int) (s : Int × Int) : Prop where
  few : by'.length ≤ 1048576
  i0 : 0 ≤ s.1
  il : s.1 ≤ (by'.length : Int)
theorem CrOk.next {by' : List Int} {s : Int × Int} (h : CrOk by' s) : CrOk by' (crS by' s) := by
  have h1 := h.few; have h2 := h.i0; have h3 := h.il
  unfold crS
  split
  · have e : wrap64 (s.1 + 1) = s.1 + 1 := by unfold wrap64; omega
    exact ⟨h1, by simp only [e]; omega, by simp only [e]; omega⟩
  · exact ⟨h1, h2, h3⟩
theorem cur_heap {code : Value} {T : TypeId} {b : Nat} {w : World} {i h u v : Int} {n : Nat} (hb : w.heap[b]? = some (curC code T (i, h))) :
    ((((w.setCell ⟨b, 2, none⟩ (.int .i64 u)).drewN n).setCell ⟨b, 1, none⟩ (.int .i64 v)).heap[b]? = some (curC code T (v, u)) ∧ Frm (fun x => x = b) w (((w.setCell ⟨b, 2, none⟩ (.int .i64 u)).drewN n).setCell ⟨b, 1, none⟩ (.int .i64 v))) ∧
    (((w.setCell ⟨b, 2, none⟩ (.int .i64 u)).drewN n).heap[b]? = some (curC code T (i, u)) ∧ Frm (fun x => x = b) w ((w.setCell ⟨b, 2, none⟩ (.int .i64 u)).drewN n)) := by
  refine ⟨⟨?_, rfl, rfl, rfl, ?_, fun k _ hk => ?_⟩, ?_, rfl, rfl, rfl, ?_, fun k _ hk => ?_⟩
  · simp [World.setCell, World.drewN, Array.getElem?_modify, hb, curC]
  · simp [World.setCell, World.drewN]
  · have : ¬ b = k := fun e => hk e.symm
    simp [World.setCell, World.drewN, Array.getElem?_modify, this]
  · simp [World.setCell, World.drewN, Array.getElem?_modify, hb, curC]
  · simp [World.setCell, World.drewN]
  · have : ¬ b = k := fun e => hk e.symm
    simp [World.setCell, World.drewN, Array.getElem?_modify, this]
theorem cur_heap2 {code : Value} {T : TypeId} {b : Nat} {w : World} {i h u : Int} {m n : Nat} (hb : w.heap[b]? = some (curC code T (i, h))) :
    (((w.setCell ⟨b, 2, none⟩ (.int .i64 u)).drewN m).drewN n).heap[b]? = some (curC code T (i, u)) ∧ Frm (fun x => x = b) w (((w.setCell ⟨b, 2, none⟩ (.int .i64 u)).drewN m).drewN n) := by
  refine ⟨?_, rfl, rfl, rfl, ?_, fun k _ hk => ?_⟩
  · simp [World.setCell, World.drewN, Array.getElem?_modify, hb, curC]
  · simp [World.setCell, World.drewN]
  · have : ¬ b = k := fun e => hk e.symm
    simp [World.setCell, World.drewN, Array.getElem?_modify, this]
section
variable (b : Nat) (w : World) (ad : Option Addr) (len cap : Nat)
theorem l01Byte_in (i : Nat) (h : Int) (hb : w.heap[b]? = some (curC (.slice ad len cap) 179 (i, h))) (v : Int) (cb co : Nat) (had : ad = some ⟨cb, co, none⟩) (hne : cb ≠ b) (hcv : w.cell? ⟨cb, co + i, none⟩ = some (.int .u8 v)) (hlt : i < len) :
    Calls Tryz.prog 115 #[ptrV b] w fun e w' => e = .returned (.int .i64 (bits .and .i64 (wrap64 (byB h + wrap64 v)) 255)) ∧ Frm (fun x => x = b) w w' ∧ w'.heap[b]? = some (curC (.slice ad len cap) 179 (wrap64 (i + 1), stB h)) := by
  have hc0 : w.cell? ⟨b, 0, none⟩ = some (.slice ad len cap) := by simp [World.cell?, hb, curC]
  have hc1 : w.cell? ⟨b, 1, none⟩ = some (.int .i64 i) := by simp [World.cell?, hb, curC]
  have hc2 : w.cell? ⟨b, 2, none⟩ = some (.int .i64 h) := by simp [World.cell?, hb, curC]
  have hf1 : w.frozen? ⟨b, 1, none⟩ = false := by simp [World.frozen?, hb, curC]
  have hf2 : w.frozen? ⟨b, 2, none⟩ = false := by simp [World.frozen?, hb, curC]
  unfold ptrV byB stB
  subst had
  have hlt' : (i : Int) < (len : Int) := by omega
  go_enter Tryz.func115, Tryz.ntmps115
  go_wp2
  go_quiet (fail)
  go_wp2
  go_quiet (fail)
  go_wp2
  go_quiet (fail)
  go_wp2
  go_ret
  exact ⟨rfl, (cur_heap hb).1.2, (cur_heap hb).1.1⟩
theorem l01Byte_out (i h : Int) (hb : w.heap[b]? = some (curC (.slice ad len cap) 179 (i, h))) (hlt : ¬ i < (len : Int)) :
    Calls Tryz.prog 115 #[ptrV b] w fun e w' => e = .returned (.int .i64 (byB h)) ∧ Frm (fun x => x = b) w w' ∧ w'.heap[b]? = some (curC (.slice ad len cap) 179 (i, stB h)) := by
  have hc0 : w.cell? ⟨b, 0, none⟩ = some (.slice ad len cap) := by simp [World.cell?, hb, curC]
  have hc1 : w.cell? ⟨b, 1, none⟩ = some (.int .i64 i) := by simp [World.cell?, hb, curC]
  have hc2 : w.cell? ⟨b, 2, none⟩ = some (.int .i64 h) := by simp [World.cell?, hb, curC]
  have hf1 : w.frozen? ⟨b, 1, none⟩ = false := by simp [World.frozen?, hb, curC]
  have hf2 : w.frozen? ⟨b, 2, none⟩ = false := by simp [World.frozen?, hb, curC]
  unfold ptrV byB stB
  go_enter Tryz.func115, Tryz.ntmps115
  go_wp2
  go_quiet (fail)
  go_wp2
  go_quiet (fail)
  go_wp2
  all_goals (go_ret; exact ⟨rfl, (cur_heap2 hb).2, (cur_heap2 hb).1⟩)
end
theorem l01Byte_cur {nl : Bool} {by' : List Int} {s : Int × Int} (hs : CrOk by' s) : CurOk Tryz.prog 115 (byts nl by') 179 [] s (crS by' s) (.v (.int .i64 (crX by' s))) := by
  refine ⟨⟨_, Tryz.func115, by kernel_rfl, by kernel_rfl⟩, fun code b w F vals hbytes hb hF hbF hvals => ?_⟩
  simp only [RepL] at hvals
  subst hvals
  obtain ⟨i, h⟩ := s
  have h0 := hs.i0
  simp only at h0
  simp only [byts, Rep, List.length_map] at hbytes
  obtain ⟨ad, len, cap, rfl, hlen, _, _, hrow⟩ := hbytes
  subst hlen
  by_cases hi : i < (by'.length : Int)
  · have hin : i.toNat < by'.length := by omega
    rcases hrow with ⟨_, _, hz, _⟩ | ⟨cb, co, rfl, _, hrow⟩ | ⟨_, _, hz⟩
    · omega
    · obtain ⟨z, h1, _, _, hFb, h4⟩ := RepRow.get hrow i.toNat (bAV by'[i.toNat]) (by rw [List.getElem?_map, List.getElem?_eq_getElem hin]; rfl)
      simp only [Rep, bAV] at h1
      obtain ⟨rfl, _⟩ := h1
      have hcv : w.cell? ⟨cb, co + i.toNat, none⟩ = some (.int .u8 (by'.getD i.toNat 0)) := by
        rw [List.getD_eq_getElem?_getD, List.getElem?_eq_getElem hin]
        simpa using h4 0 (.int .u8 by'[i.toNat]) (by simp [Value.cells])
      obtain ⟨i, rfl⟩ := Int.eq_ofNat_of_zero_le h0
      rw [Int.toNat_natCast] at hin hcv
      refine (l01Byte_in b w _ by'.length cap i h hb _ cb co rfl (fun e => hbF (e ▸ hFb)) hcv hin).mono fun e w' he => ?_
      obtain ⟨rfl, hfr, hw⟩ := he
      refine ⟨_, fun _ => False, rfl, hfr, ?_, fun _ h => h.elim, ?_⟩
      · rw [hw]; simp only [crS, if_pos hi]
      · simp only [Own, crX, if_pos hi, Int.toNat_natCast, Value.oneCell', and_self]
    · simp only [List.map_eq_nil_iff] at hz
      subst hz; simp at hin
  · refine (l01Byte_out b w ad by'.length cap i h hb hi).mono fun e w' he => ?_
    obtain ⟨rfl, hfr, hw⟩ := he
    refine ⟨_, fun _ => False, rfl, hfr, ?_, fun _ h => h.elim, ?_⟩
    · rw [hw]; simp only [crS, if_neg hi]
    · simp only [Own, crX, if_neg hi, Value.oneCell', and_self]
end Go.Proofs.YtkfmhpgnhkdebaaGreatDoor.Ax
namespace Go.Proofs.YtkfmhpgnhkdebaaGreatDoor.Ax
open Go Go.RowKit
set_option linter.unusedSimpArgs false
def bw (by' : List Int) (s : Int × Int) (n : Nat) : Int := (crX by' s).tmod (n : Int)
theorem bw_bd {by' : List Int} {s : Int × Int} {n : Nat} (h : 0 < n) : 0 ≤ bw by' s n ∧ bw by' s n < n := by
  have := crX_bd (by' := by') (s := s)
  unfold bw
  rw [Int.tmod_eq_emod_of_nonneg this.1]
  exact ⟨Int.emod_nonneg _ (by omega), Int.emod_lt_of_pos _ (by omega)⟩
theorem l01Below_cur {nl : Bool} {by' : List Int} {s : Int × Int} (hs : CrOk by' s) {n : Nat} (h0 : 0 < n) (hn : n ≤ 256) : CurOk Tryz.prog 148 (byts nl by') 179 [int n] s (crS by' s) (.v (.int .i64 (bw by' s n))) := by
  have hcur := l01Byte_cur (nl := nl) hs
  have hx := crX_bd (by' := by') (s := s)
  have hG : FnsOk Tryz.prog [] := .nil
  refine curOk_of_ty (dt := []) (ctx_ok eqOk hG) Tryz.func148 rfl (by kernel_rfl) (by kernel_rfl) fun w F0 code b hbytes hF0 hbF => ?_
  refine ty_seq (ty_awp (ctx_ok eqOk hG) mixed curJ_stable (live := [true, true, false, false, true, true, true, true, true, false, true, false, true]) fun X A w1 => ?_)
  simp [Tryz.f148, List.range, List.range.loop, ints, intss, int, bool, row, frac, fracs, ← List.map_take, ← List.map_drop, thenY_normal]
  refine ty_seq (ty_awp (ctx_ok eqOk hG) mixed curJ_stable (live := [true, true, false, false, true, true, true, true, true, false, true, false, true]) fun X A w1 => ?_)
  have hn0 : ¬ (n : Int) ≤ 0 := by omega
  have hn1 : ¬ n = 0 := by omega
  simp [List.range, List.range.loop, ints, intss, int, bool, row, frac, fracs, ← List.map_take, ← List.map_drop, thenY_normal, hn0, hn1]
  refine ty_seq (ty_seq (ty_awp (ctx_ok eqOk hG) mixed curJ_stable (live := [true, true, false, false, true, true, true, true, true, false, true, false, true]) fun X A w1 => ?_))
  have hn2 : (n : Int) ≤ 256 := by omega
  simp [List.range, List.range.loop, ints, intss, int, bool, row, frac, fracs, ← List.map_take, ← List.map_drop, thenY_normal, hn, hn2]
  refine ty_cond (t := true) (by rfl) (fun _ => ?_) (fun h => by cases h)
  refine ty_seq (ty_reg (tyo_ops 1 (ctx_ok eqOk hG) curJ_stable (by simp) ?_))
  simp [List.range, List.range.loop, ints, intss, int, bool, row, frac, fracs, ← List.map_take, ← List.map_drop]
  refine tyo_cur hbytes hF0 hbF hcur rfl rfl rfl (by rfl) (by rfl) (by rfl) ?_
  simp [List.range, List.range.loop, ints, intss, int, bool, row, frac, fracs, ← List.map_take, ← List.map_drop]
  refine tyo_ops 3 (ctx_ok eqOk hG) curJ_stable (by simp) ?_
  simp [List.range, List.range.loop, ints, intss, int, bool, row, frac, fracs, ← List.map_take, ← List.map_drop, hn1]
  refine tyo_end (by simp) ?_
  simp only [thenY_normal]
  refine ty_awp (ctx_ok eqOk hG) mixed curJ_stable (live := [true, true, false, false, true, true, true, true, true, false, true, false, true]) fun X A w1 => ?_
  simp [List.range, List.range.loop, ints, intss, int, bool, row, frac, fracs, ← List.map_take, ← List.map_drop, thenY_ret, bw]
def crN (by' : List Int) (s : Int × Int) : Nat → Int × Int
  | 0 => s
  | k + 1 => crS by' (crN by' s k)
theorem crN_ok {by' : List Int} {s : Int × Int} (h : CrOk by' s) : ∀ k, CrOk by' (crN by' s k)
  | 0 => h
  | k + 1 => (crN_ok h k).next
end Go.Proofs.YtkfmhpgnhkdebaaGreatDoor.Ax
