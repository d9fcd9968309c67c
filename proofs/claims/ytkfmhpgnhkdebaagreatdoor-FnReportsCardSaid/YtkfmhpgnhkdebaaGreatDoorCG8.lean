/-
  Seats: what the two programs answer, as plain functions. No condition.
-/
import Derived.Test.YtkfmhpgnhkdebaaGreatDoorCG7
import Derived.Test.YtkfmhpgnhkdebaaGreatDoorCG1
import Derived.Test.YtkfmhpgnhkdebaaGreatDoorCG6
namespace Go.Proofs.YtkfmhpgnhkdebaaGreatDoor.Ax
open Go Go.RowKit
def cntB (xs : List Int) : Bool := inR 1 6 xs.length && xs.all (inR 0 1000000) && decide (0 < xs.sum)
def qtB (xs : List Int) (n : Int) : Bool := cntB xs && inR 0 100 n
def seB (xs ss : List Int) : Bool := cntB xs && decide (ss.length = xs.length) && ss.all (inR 0 100) && decide (ss.sum ≤ 100)
theorem sum_bd {c : Int} : ∀ {l : List Int}, (∀ x ∈ l, 0 ≤ x ∧ x ≤ c) → 0 ≤ l.sum ∧ l.sum ≤ c * l.length
  | [], _ => by simp
  | x :: l, h => by
    have h1 := h x (by simp)
    have h2 := sum_bd (l := l) fun y hy => h y (by simp [hy])
    simp only [List.sum_cons, List.length_cons]
    rw [Int.natCast_add, Int.mul_add]
    omega
theorem inR_iff {lo hi x : Int} : inR lo hi x = true ↔ lo ≤ x ∧ x ≤ hi := by simp [inR]
theorem cnt_facts {xs : List Int} (h : cntB xs = true) : 1 ≤ xs.length ∧ xs.length ≤ 6 ∧ (∀ x ∈ xs, 0 ≤ x ∧ x ≤ 1000000) ∧ 0 < xs.sum ∧ xs.sum ≤ 6000000 := by
  simp only [cntB, Bool.and_eq_true, inR_iff, List.all_eq_true, decide_eq_true_eq] at h
  obtain ⟨⟨h1, h2⟩, h3⟩ := h
  have := sum_bd h2
  exact ⟨by omega, by omega, h2, h3, by omega⟩
theorem sumW_sum {xs : List Int} (h : ∀ x ∈ xs, 0 ≤ x ∧ x ≤ 1000000) (hl : xs.length ≤ 1000000) : ∀ k, k ≤ xs.length → sumW (xs.take k) = (xs.take k).sum
  | 0, _ => rfl
  | k + 1, hk => by
    have hs := sum_bd (l := xs.take k) (c := 1000000) fun x hx => h x (List.mem_of_mem_take hx)
    have hx := h _ (List.getElem_mem (show k < xs.length by omega))
    rw [List.length_take] at hs
    rw [sumW_succ (by omega), sumW_sum h hl k (by omega), List.take_succ_eq_append_getElem (by omega), List.sum_append, List.sum_singleton]
    exact wrapI (by omega) (by omega)
theorem sumW_all {xs : List Int} (h : ∀ x ∈ xs, 0 ≤ x ∧ x ≤ 1000000) (hl : xs.length ≤ 1000000) : sumW xs = xs.sum := by
  have := sumW_sum h hl xs.length (Nat.le_refl _)
  rwa [List.take_length] at this
def qL (xs : List Int) (n : Int) : List Int := xs.map fun x => (x * n).tdiv xs.sum
def qR (xs : List Int) (n : Int) : List Int := xs.map fun x => (x * n).tmod xs.sum
def qU (xs : List Int) (n : Int) : List Int := xs.map fun x => (x * n + xs.sum - 1).tdiv xs.sum
theorem q_sum {S n : Int} : ∀ {l : List Int}, S * (l.map fun x => (x * n).tdiv S).sum + (l.map fun x => (x * n).tmod S).sum = l.sum * n
  | [] => by simp
  | x :: l => by
    have h1 := Int.mul_tdiv_add_tmod (x * n) S
    have h2 := q_sum (S := S) (n := n) (l := l)
    simp only [List.map_cons, List.sum_cons]
    rw [Int.mul_add, Int.add_mul]
    omega
theorem q_facts {xs : List Int} {n : Int} (h : qtB xs n = true) : (∀ x ∈ qR xs n, 0 ≤ x ∧ x < xs.sum) ∧ (∀ x ∈ qL xs n, 0 ≤ x ∧ x ≤ 100) ∧ 0 ≤ n - (qL xs n).sum ∧ n - (qL xs n).sum ≤ xs.length := by
  simp only [qtB, Bool.and_eq_true, inR_iff] at h
  obtain ⟨h, hn⟩ := h
  obtain ⟨h1, h2, h3, h4, h5⟩ := cnt_facts h
  have hr : ∀ x ∈ qR xs n, 0 ≤ x ∧ x ≤ xs.sum - 1 := fun x hx => by
    obtain ⟨y, hy, rfl⟩ := List.mem_map.1 hx
    have hy' := h3 y hy
    have := Int.tmod_lt_of_pos (y * n) h4
    have := Int.tmod_nonneg xs.sum (Int.mul_nonneg hy'.1 hn.1)
    omega
  have hle : ∀ x ∈ xs, x ≤ xs.sum := fun x hx => by
    obtain ⟨a, b, rfl⟩ := List.append_of_mem hx
    have ha := sum_bd (l := a) (c := 1000000) fun y hy => h3 y (by simp [hy])
    have hb := sum_bd (l := b) (c := 1000000) fun y hy => h3 y (by simp [hy])
    simp only [List.sum_append, List.sum_cons]
    omega
  have hs := q_sum (S := xs.sum) (n := n) (l := xs)
  have hb := sum_bd hr
  have hlen : (qR xs n).length = xs.length := by simp [qR]
  rw [hlen] at hb
  change xs.sum * (qL xs n).sum + (qR xs n).sum = xs.sum * n at hs
  have e : xs.sum * (n - (qL xs n).sum) = (qR xs n).sum := by rw [Int.mul_sub]; omega
  refine ⟨fun x hx => ⟨(hr x hx).1, by have := (hr x hx).2; omega⟩, fun x hx => ?_, ?_, ?_⟩
  · obtain ⟨y, hy, rfl⟩ := List.mem_map.1 hx
    have hy' := h3 y hy
    have hyle := hle y hy
    refine ⟨Int.tdiv_nonneg (Int.mul_nonneg hy'.1 hn.1) (by omega), ?_⟩
    have hm : y * n ≤ xs.sum * 100 := Int.le_trans (Int.mul_le_mul_of_nonneg_right hyle hn.1) (Int.mul_le_mul_of_nonneg_left hn.2 (by omega))
    have h0 := Int.mul_nonneg hy'.1 hn.1
    rw [Int.tdiv_eq_ediv_of_nonneg h0]
    exact Int.ediv_le_of_le_mul h4 (by rw [Int.mul_comm 100]; exact hm)
  · rcases Int.lt_or_le (n - (qL xs n).sum) 0 with hneg | h
    · have : xs.sum * (n - (qL xs n).sum) ≤ xs.sum * (-1) := Int.mul_le_mul_of_nonneg_left (by omega) (by omega)
      omega
    · exact h
  · rcases Int.lt_or_le (xs.length : Int) (n - (qL xs n).sum) with hgt | h
    · have k1 : xs.sum * ((xs.length : Int) + 1) ≤ xs.sum * (n - (qL xs n).sum) := Int.mul_le_mul_of_nonneg_left (by omega) (by omega)
      have k2 : (xs.sum - 1) * (xs.length : Int) ≤ xs.sum * (xs.length : Int) := Int.mul_le_mul_of_nonneg_right (by omega) (by omega)
      rw [Int.mul_add] at k1
      omega
    · exact h
def inc1 (o : List Int) (i : Int) : List Int := o.set i.toNat (at0 o i.toNat + 1)
def incs (o : List Int) (l : List Int) : List Int := l.foldl inc1 o
theorem inc1_len {o : List Int} {i : Int} : (inc1 o i).length = o.length := by simp [inc1]
theorem incs_snoc {o l : List Int} {i : Int} : incs o (l ++ [i]) = inc1 (incs o l) i := by simp [incs, List.foldl_append]
theorem incs_take {o l : List Int} {k : Nat} (h : k < l.length) : incs o (l.take (k + 1)) = inc1 (incs o (l.take k)) l[k] := by rw [List.take_succ_eq_append_getElem h, incs_snoc]
theorem incs_len {o : List Int} : ∀ {l : List Int}, (incs o l).length = o.length := by
  intro l
  unfold incs
  induction l generalizing o with
  | nil => rfl
  | cons x l ih => rw [List.foldl_cons, ih, inc1_len]
theorem set_sum {v : Int} : ∀ {o : List Int} {i : Nat}, i < o.length → (o.set i (at0 o i + v)).sum = o.sum + v
  | x :: o, 0, _ => by simp [at0]; omega
  | x :: o, i + 1, h => by
    have := set_sum (v := v) (o := o) (i := i) (by simpa using h)
    simp only [List.set_cons_succ, List.sum_cons, at0, List.getD_cons_succ] at this ⊢
    omega
theorem inc1_sum {o : List Int} {i : Int} (h : i.toNat < o.length) : (inc1 o i).sum = o.sum + 1 := set_sum h
theorem inc1_bd {o : List Int} {i : Int} {c : Int} (h : ∀ x ∈ o, 0 ≤ x ∧ x ≤ c) (hi : i.toNat < o.length) : ∀ x ∈ inc1 o i, 0 ≤ x ∧ x ≤ c + 1 := fun x hx => by
  rcases List.mem_or_eq_of_mem_set hx with hx | rfl
  · have := h x hx; omega
  · have := h _ (List.getElem_mem hi)
    rw [at0_eq hi]; omega
theorem incs_facts {o : List Int} {c : Int} (h : ∀ x ∈ o, 0 ≤ x ∧ x ≤ c) : ∀ {l : List Int}, (∀ i ∈ l, i.toNat < o.length) → (incs o l).sum = o.sum + l.length ∧ ∀ x ∈ incs o l, 0 ≤ x ∧ x ≤ c + l.length := by
  intro l
  unfold incs
  induction l generalizing o c with
  | nil => intro _; exact ⟨by simp, fun x hx => by have := h x hx; simp; omega⟩
  | cons i l ih =>
    intro hl
    have hi := hl i (by simp)
    obtain ⟨h1, h2⟩ := ih (o := inc1 o i) (c := c + 1) (inc1_bd h hi) fun j hj => by rw [inc1_len]; exact hl j (by simp [hj])
    rw [List.foldl_cons, List.length_cons]
    refine ⟨by rw [h1, inc1_sum hi]; omega, fun x hx => ?_⟩
    have := h2 x hx
    omega
def lexS (rs : List Int) (x y : Int) : Prop := at0 rs y.toNat < at0 rs x.toNat ∨ (at0 rs x.toNat = at0 rs y.toNat ∧ x < y)
def rstC (rs : List Int) (a b : Int) : Int := at0 rs b.toNat - at0 rs a.toNat
def ordH (rs : List Int) : List Int := isort (rstC rs) (idx rs.length)
theorem ins_lex {rs : List Int} {ys : List Int} {x : Int} (h : ys.Pairwise (lexS rs)) (hx : ∀ y ∈ ys, y < x) : (ins (rstC rs) ys x).Pairwise (lexS rs) := by
  obtain ⟨k, h1, h2, h3⟩ := split_at (fun a b => at0 rs b.toNat ≤ at0 rs a.toNat) x ys
  have e := ins_split (c := rstC rs) (le := fun a b => at0 rs b.toNat ≤ at0 rs a.toNat) (D := fun _ => True) (fun x y _ _ => by unfold rstC; omega) (fun x y z _ _ _ h h' => Int.le_trans h' h) (ys := ys) (x := x) (k := k) (fun _ _ => trivial) trivial
    (h.imp fun h => by rcases h with h | ⟨h, _⟩ <;> omega) h1 h2 h3
  rw [e, List.pairwise_append, List.pairwise_cons]
  have hge : ∀ j (hj : j < ys.length), k ≤ j → at0 rs ys[j].toNat < at0 rs x.toNat := fun j hj hkj => by
    rcases h3 with h3 | ⟨hkl, h3⟩
    · omega
    · by_cases e : k = j
      · subst e; omega
      · rcases List.pairwise_iff_getElem.1 h k j hkl hj (by omega) with h | ⟨h, _⟩ <;> omega
  refine ⟨h.take, ⟨fun y hy => ?_, h.drop⟩, fun a ha b hb => ?_⟩
  · obtain ⟨i, hi, rfl⟩ := List.getElem_of_mem hy
    rw [List.getElem_drop]
    exact .inl (hge _ _ (by omega))
  · obtain ⟨i, hi, rfl⟩ := List.getElem_of_mem ha
    rw [List.getElem_take]
    have hik : i < k := by simp at hi; omega
    have hil : i < ys.length := by omega
    rcases List.mem_cons.1 hb with rfl | hb
    · have := h2 i hil hik
      have := hx _ (List.getElem_mem hil)
      unfold lexS; omega
    · obtain ⟨j, hj, rfl⟩ := List.getElem_of_mem hb
      rw [List.getElem_drop]
      exact List.pairwise_iff_getElem.1 h i (k + j) hil (by simp at hj; omega) (by omega)
theorem idx_succ {m : Nat} : idx (m + 1) = idx m ++ [(m : Int)] := by simp [idx, List.range_succ]
theorem isort_lex {rs : List Int} : ∀ m : Nat, (isort (rstC rs) (idx m)).Pairwise (lexS rs)
  | 0 => by simp [idx, isort]
  | m + 1 => by
    rw [idx_succ, isort_snoc]
    refine ins_lex (isort_lex m) fun y hy => ?_
    rw [isort_mem] at hy
    simp only [idx, List.mem_map, List.mem_range] at hy
    obtain ⟨i, hi, rfl⟩ := hy
    omega
theorem ordH_len {rs : List Int} : (ordH rs).length = rs.length := by simp [ordH, isort_len, idx]
theorem ordH_mem {rs : List Int} {x : Int} : x ∈ ordH rs ↔ ∃ i : Nat, i < rs.length ∧ x = i := by
  unfold ordH
  rw [isort_mem]
  simp only [idx, List.mem_map, List.mem_range]
  exact ⟨fun ⟨i, h, e⟩ => ⟨i, h, e.symm⟩, fun ⟨i, h, e⟩ => ⟨i, h, e.symm⟩⟩
def hamK (xs : List Int) (n : Int) : Nat := (n - (qL xs n).sum).toNat
def hamT (xs : List Int) (n : Int) : List Int := incs (qL xs n) ((ordH (qR xs n)).take (hamK xs n))
def clm (me x a : Int) : Int × Int := if me = 1 then (x, a) else if me = 2 then (x * (2 * a + 1), 2 * a * (a + 1)) else if me = 3 then (x * x, a * (a + 1)) else if me = 4 then (2 * x, 2 * a + 1) else (x, a + 1)
def cmpT (me x a y b : Int) : Int :=
  if x = 0 ∨ y = 0 then cmpI x y else if (clm me x a).2 = 0 ∧ (clm me y b).2 = 0 then cmpI x y else if (clm me x a).2 = 0 then 1 else if (clm me y b).2 = 0 then -1 else cmpI ((clm me x a).1 * (clm me y b).2) ((clm me y b).1 * (clm me x a).2)
def bcTo (me : Int) (xs ss : List Int) : Nat → Int
  | 0 => 0
  | i + 1 => if 0 < cmpT me (at0 xs i) (at0 ss i) (at0 xs (bcTo me xs ss i).toNat) (at0 ss (bcTo me xs ss i).toNat) then (i : Int) else bcTo me xs ss i
theorem bcTo_nat {me : Int} {xs ss : List Int} : ∀ k, ∃ b : Nat, bcTo me xs ss k = b ∧ (b = 0 ∨ b < k)
  | 0 => ⟨0, rfl, .inl rfl⟩
  | k + 1 => by
    obtain ⟨b, h1, h2⟩ := bcTo_nat (me := me) (xs := xs) (ss := ss) k
    unfold bcTo
    split
    · exact ⟨k, rfl, .inr (by omega)⟩
    · exact ⟨b, h1, by omega⟩
def ordS (me : Int) (xs : List Int) : Nat → List Int
  | 0 => []
  | j + 1 => ordS me xs j ++ [bcTo me xs (incs (List.replicate xs.length 0) (ordS me xs j)) xs.length]
theorem ordS_len {me : Int} {xs : List Int} : ∀ j, (ordS me xs j).length = j
  | 0 => rfl
  | j + 1 => by unfold ordS; rw [List.length_append, ordS_len j]; rfl
theorem ordS_mem {me : Int} {xs : List Int} (h : 1 ≤ xs.length) : ∀ j, ∀ x ∈ ordS me xs j, ∃ b : Nat, x = b ∧ b < xs.length
  | 0, x, hx => by simp [ordS] at hx
  | j + 1, x, hx => by
    unfold ordS at hx
    rcases List.mem_append.1 hx with hx | hx
    · exact ordS_mem h j x hx
    · rw [List.mem_singleton] at hx
      obtain ⟨b, h1, h2⟩ := bcTo_nat (me := me) (xs := xs) (ss := incs (List.replicate xs.length 0) (ordS me xs j)) xs.length
      exact ⟨b, by rw [hx, h1], by omega⟩
def seatT (me : Int) (xs : List Int) (j : Nat) : List Int := incs (List.replicate xs.length 0) (ordS me xs j)
theorem seatT_facts {me : Int} {xs : List Int} (h : 1 ≤ xs.length) (j : Nat) : (seatT me xs j).length = xs.length ∧ (seatT me xs j).sum = j ∧ ∀ x ∈ seatT me xs j, 0 ≤ x ∧ x ≤ j := by
  have hz : ∀ x ∈ List.replicate xs.length (0 : Int), 0 ≤ x ∧ x ≤ 0 := fun x hx => by rw [List.mem_replicate] at hx; omega
  obtain ⟨h1, h2⟩ := incs_facts hz (l := ordS me xs j) fun i hi => by
    obtain ⟨b, rfl, hb⟩ := ordS_mem h j i hi
    simpa using hb
  refine ⟨by simp [seatT, incs_len], ?_, fun x hx => ?_⟩
  · unfold seatT; rw [h1, ordS_len]; simp
  · have := h2 x hx
    rw [ordS_len] at this
    omega
theorem seatT_succ {me : Int} {xs : List Int} {j : Nat} : seatT me xs (j + 1) = inc1 (seatT me xs j) (bcTo me xs (seatT me xs j) xs.length) := by
  unfold seatT
  rw [ordS, incs_snoc]
def givV (me : Int) (xs : List Int) (n : Int) : Bool := qtB xs n && (decide (me = 0) || inR 1 5 me)
def givT (me : Int) (xs : List Int) (n : Int) : List Int := if givV me xs n = true then (if me = 0 then hamT xs n else seatT me xs n.toNat) else []
def kqTo (L U ss : List Int) : Nat → Bool
  | 0 => true
  | k + 1 => kqTo L U ss k && inR (at0 L k) (at0 U k) (at0 ss k)
theorem kqTo_no {L U ss : List Int} {k : Nat} (h : inR (at0 L k) (at0 U k) (at0 ss k) = false) : ∀ {n : Nat}, k < n → kqTo L U ss n = false
  | 0, hn => by omega
  | n + 1, hn => by
    unfold kqTo
    by_cases e : k = n
    · subst e; rw [h, Bool.and_false]
    · rw [kqTo_no h (by omega), Bool.false_and]
theorem kqTo_all {L U ss : List Int} : ∀ {n : Nat}, (∀ i, i < n → inR (at0 L i) (at0 U i) (at0 ss i) = true) → kqTo L U ss n = true
  | 0, _ => rfl
  | n + 1, h => by
    unfold kqTo
    rw [kqTo_all fun i hi => h i (by omega), h n (by omega)]; rfl
def kqB (xs ss : List Int) : Bool := seB xs ss && kqTo (qL xs ss.sum) (qU xs ss.sum) ss ss.length
theorem hamT_facts {xs : List Int} {n : Int} (h : qtB xs n = true) : (hamT xs n).length = xs.length ∧ (hamT xs n).sum = n ∧ ∀ x ∈ hamT xs n, 0 ≤ x ∧ x ≤ 106 := by
  obtain ⟨h1, h2, h3, h4⟩ := q_facts h
  simp only [qtB, Bool.and_eq_true, inR_iff] at h
  obtain ⟨c1, c2, _⟩ := cnt_facts h.1
  have hk : (ordH (qR xs n)).length = xs.length := by rw [ordH_len]; simp [qR]
  have hkl : ((ordH (qR xs n)).take (hamK xs n)).length = hamK xs n := by rw [List.length_take, hk]; unfold hamK; omega
  obtain ⟨g1, g2⟩ := incs_facts h2 (l := (ordH (qR xs n)).take (hamK xs n)) fun i hi => by
    obtain ⟨b, hb, rfl⟩ := ordH_mem.1 (List.mem_of_mem_take hi)
    simpa [qR, qL] using hb
  rw [hkl] at g1 g2
  refine ⟨by simp [hamT, incs_len, qL], ?_, fun x hx => ?_⟩
  · unfold hamT; rw [g1]; unfold hamK; omega
  · have := g2 x hx
    unfold hamK at this; omega
end Go.Proofs.YtkfmhpgnhkdebaaGreatDoor.Ax
namespace Go.Proofs.YtkfmhpgnhkdebaaGreatDoor.Ax
open Go Go.RowKit
set_option linter.unusedSimpArgs false
def vtB (s : Int) (v : Vt) : Bool := rankB s v.1.2 && inR 1 1000 v.2
def profB (s : Int) (vs : List Vt) : Bool := inR 1 5 s && decide (vs.length ≤ 24) && vs.all (vtB s)
set_option maxHeartbeats 1000000 in
theorem indexVotes {g : FuncId} {caps : List AV} (hc : Pure caps) (p : Vt → Bool) (nl : Bool) (xs : List Vt) (hg : ∀ x ∈ xs, CallOk Tryz.prog g (vote x :: caps) (.v (.bool (p x)))) :
    CallOk Tryz.prog 206 [vts nl xs, .fn g caps] (int (idxOf p xs)) := by
  have hG : FnsOk Tryz.prog [(g, mk (fun x => x ∈ xs) (fun x : Vt => vote x :: caps) (fun x => .v (.bool (p x))))] := .cons (mk_ok fun x hx => hg x hx) .nil
  have hat : ∀ k (h : k < xs.length), mk (fun x => x ∈ xs) (fun x : Vt => vote x :: caps) (fun x => AV.v (.bool (p x))) (vote xs[k] :: caps) = some (.v (.bool (p xs[k]))) := fun k h =>
    mk_eq (enc := fun x : Vt => vote x :: caps) (x := xs[k]) (by intro x y h; simp only [List.cons.injEq, and_true] at h; rw [vote_inj h]) (List.getElem_mem h)
  generalize mk (fun x => x ∈ xs) (fun x : Vt => vote x :: caps) (fun x => AV.v (.bool (p x))) = m at hG hat
  refine callOk_awp (ctx_ok eqOk hG) mixed (live := [true, true, false, false, true, true, false, true, true, true, false, false, false, false, false, false, true]) (dt := []) Tryz.func206 rfl (by kernel_rfl) (by kernel_rfl) fun w0 hlens => ?_
  have hlen : xs.length ≤ 9223372036854775807 := by
    have := hlens.1
    simp only [vts, lens, List.length_map] at this
    exact this.1.1
  clear hlens
  simp [Tryz.f206, List.range, List.range.loop, ints, intss, int, bool, row, frac, fracs, ← List.map_take, ← List.map_drop, vts, hc.res, hc.refs, hc.ren]
  refine awp_range (live := [true, true, false, false, true, true, false, true, true, true, false, false, false, false, false, false, true]) (ctx_ok eqOk hG) mixed [true, true, false, false, false, false, false, true, true] (xs.length) (fun k => ∀ j (hj : j < xs.length), j < k → p xs[j] = false) (fun k => ⟨[vts nl xs, .fn g caps, .junk, .junk, .junk, .junk, .junk, int xs.length, int k, .junk, .junk, .junk, .junk, .junk, .junk, .junk, .junk, .junk, .junk], []⟩) ?_ (by simp [sub, slotsLe, clean, keep, refsL, refs, once, place, renL, ren, List.replicate, int, bool, vts, hc.refs, hc.ren]) ?_ ?_ ?_
  · exact hlen
  · intro j hj h; omega
  · intro k hk hno hwk
    have hz := hat k hk
    simp only [vote] at hz
    cases hp : p xs[k] with
    | true =>
      rw [hp] at hz
      simp [List.range, List.range.loop, ints, intss, int, bool, row, frac, fracs, ← List.map_take, ← List.map_drop, vts, vote, hk, hc.res, hc.refs, hc.ren, hz, idxOf_found hk hno hp]
    | false =>
      rw [hp] at hz
      simp [List.range, List.range.loop, ints, intss, int, bool, row, frac, fracs, ← List.map_take, ← List.map_drop, vts, vote, hk, hwk, hc.res, hc.refs, hc.ren, hz]
      intro j hj hjk
      by_cases e : j = k
      · subst e; exact hp
      · exact hno j hj (by omega)
  · intro hno
    simp [List.range, List.range.loop, ints, intss, int, bool, row, frac, fracs, ← List.map_take, ← List.map_drop, vts, idxOf_none hno]
mutual
theorem frzA_pure (L : List Nat) (toks : List Tok) : ∀ c : AV, refs c = [] → frzA L toks c = c
  | .v _, _ => rfl
  | .agg cs, h => by simp only [frzA]; rw [frzAL_pure' L toks cs (by simpa [refs] using h)]
  | .tup cs, h => by simp only [frzA]; rw [frzAL_pure' L toks cs (by simpa [refs] using h)]
  | .fn _ cs, h => by simp only [frzA]; rw [frzAL_pure' L toks cs (by simpa [refs] using h)]
  | .sl _ _ _, _ => rfl
  | .fp _ _, _ => rfl
  | .junk, _ => rfl
  | .ref _ _ _ _, h => by simp [refs] at h
  | .ptr _ _ _ _, h => by simp [refs] at h
theorem frzAL_pure' (L : List Nat) (toks : List Tok) : ∀ cs : List AV, refsL cs = [] → frzAL L toks cs = cs
  | [], _ => rfl
  | c :: cs, h => by
    simp only [refsL, List.append_eq_nil_iff] at h
    simp only [frzAL]
    rw [frzA_pure L toks c h.1, frzAL_pure' L toks cs h.2]
end
theorem frzAL_pure {caps : List AV} (hc : Pure caps) {L : List Nat} {toks : List Tok} : frzAL L toks caps = caps := frzAL_pure' L toks caps hc.refs
theorem containsVotes {g : FuncId} {caps : List AV} (hc : Pure caps) (p : Vt → Bool) (nl : Bool) (xs : List Vt) (hg : ∀ x ∈ xs, CallOk Tryz.prog g (vote x :: caps) (.v (.bool (p x)))) :
    CallOk Tryz.prog 143 [vts nl xs, .fn g caps] (bool (xs.any p)) := by
  obtain ⟨m, hm, hz⟩ := as_model (indexVotes hc p nl xs hg)
  have hG : FnsOk Tryz.prog [(206, m)] := .cons hm .nil
  refine callOk_awp (ctx_ok eqOk hG) mixed (live := [true, true, false, false, true]) (dt := []) Tryz.func143 rfl (by kernel_rfl) (by kernel_rfl) fun w0 hlens => ?_
  clear hlens
  simp only [vts] at hz
  simp [Tryz.f143, List.range, List.range.loop, ints, intss, int, bool, row, frac, fracs, ← List.map_take, ← List.map_drop, vts, hc.res, hc.refs, hc.ren, hz, ge_zero, idxOf_nonneg]
theorem profileOk1 (v : Vt) (s : Int) (nl : Bool) (vs : List Vt) : CallOk Tryz.prog 144 [vote v, .fp (prof s nl vs) 0] (.v (.bool (!vtB s v))) := by
  have hG : FnsOk Tryz.prog [(110, mRank), (99, mWithin)] := (.cons implRankingOk_ok (.cons within_ok .nil))
  refine callOk_awp (ctx_ok eqOk hG) mixed (live := [true, true, true, true]) (dt := []) Tryz.func144 rfl (by kernel_rfl) (by kernel_rfl) fun w0 hlens => ?_
  clear hlens
  have h := mRank_at s v.1.1 v.1.2
  cases hr : rankB s v.1.2 with
  | false => rw [hr] at h; simp [Tryz.f144, List.range, List.range.loop, ints, intss, int, bool, row, frac, fracs, ← List.map_take, ← List.map_drop, vote, prof, h, vtB, hr]
  | true => rw [hr] at h; simp [Tryz.f144, List.range, List.range.loop, ints, intss, int, bool, row, frac, fracs, ← List.map_take, ← List.map_drop, vote, prof, h, vtB, hr, mWithin_in]
noncomputable def mProf : List AV → Option AV := mk (fun _ => True) (fun (p : (Int) × (Bool) × (List Vt)) => [prof p.1 p.2.1 p.2.2]) (fun p => bool (profB p.1 p.2.2))
theorem mProf_at (s : Int) (nl : Bool) (vs : List Vt) : mProf [.agg [.v (.int .i64 s), .sl nl 2 (vs.map vote)]] = some (.v (.bool (profB s vs))) :=
  mk_eq (enc := fun (p : (Int) × (Bool) × (List Vt)) => [prof p.1 p.2.1 p.2.2]) (x := (s, nl, vs)) (by rintro ⟨a0, a1, a2⟩ ⟨b0, b1, b2⟩ h; simp [ints, intss, int, bool, row, frac, fracs, map_int_inj, map_row_inj, frac_inj, map_frac_inj, vts, prof, map_vote_inj] at h; simp [h]) trivial
set_option maxHeartbeats 1000000 in
theorem implProf_ok : FnOk Tryz.prog 66 mProf := by
  refine mk_ok fun ⟨s, nl, vs⟩ _ => ?_
  have hc := containsVotes (g := 144) (pure_fp (a := prof s nl vs) (j := 0) pure_nil) (fun v => !vtB s v) nl vs (fun v _ => profileOk1 v s nl vs)
  obtain ⟨m, hm, hz⟩ := as_model hc
  have hG : FnsOk Tryz.prog [(99, mWithin), (143, m)] := (.cons within_ok (.cons hm .nil))
  refine callOk_awp (ctx_ok eqOk hG) mixed (live := [true, true, true, false, false, false, false, false, false, false, false, false, true]) (dt := []) Tryz.func66 rfl (by kernel_rfl) (by kernel_rfl) fun w0 hlens => ?_
  clear hlens
  simp only [vts, prof, bool] at hz
  cases h1 : inR 1 5 s with
  | false => simp [Tryz.f66, List.range, List.range.loop, ints, intss, int, bool, row, frac, fracs, ← List.map_take, ← List.map_drop, prof, mWithin_in, h1, profB]
  | true =>
    by_cases h2 : (24 : Int) < vs.length
    · have h2' : ¬ vs.length ≤ 24 := by omega
      simp [Tryz.f66, List.range, List.range.loop, ints, intss, int, bool, row, frac, fracs, ← List.map_take, ← List.map_drop, prof, mWithin_in, h1, h2, h2', profB]
    · have h2' : vs.length ≤ 24 := by omega
      simp [Tryz.f66, List.range, List.range.loop, ints, intss, int, bool, row, frac, fracs, ← List.map_take, ← List.map_drop, prof, mWithin_in, h1, h2, h2', hz, profB, not_any_not]
def vtrs (p : List Int → Bool) (vs : List Vt) : Int := ((vs.filter fun v => p v.1.2).map (·.2)).sum
theorem vtrs_zero {p : List Int → Bool} : vtrs p [] = 0 := rfl
theorem vtrs_succ {p : List Int → Bool} {vs : List Vt} {k : Nat} (h : k < vs.length) : vtrs p (vs.take (k + 1)) = vtrs p (vs.take k) + if p vs[k].1.2 = true then vs[k].2 else 0 := by
  unfold vtrs
  rw [List.take_succ_eq_append_getElem h, List.filter_append, List.map_append, List.sum_append]
  congr 1
  by_cases hp : p vs[k].1.2 = true
  · simp [hp]
  · simp [hp]
theorem prof_facts {s : Int} {vs : List Vt} (h : profB s vs = true) : (1 ≤ s ∧ s ≤ 5) ∧ vs.length ≤ 24 ∧ ∀ v ∈ vs, rankB s v.1.2 = true ∧ 1 ≤ v.2 ∧ v.2 ≤ 1000 := by
  simp only [profB, Bool.and_eq_true, inR_iff, decide_eq_true_eq, List.all_eq_true, vtB] at h
  exact ⟨h.1.1, h.1.2, fun v hv => ⟨(h.2 v hv).1, (h.2 v hv).2.1, (h.2 v hv).2.2⟩⟩
theorem vtrs_bd {p : List Int → Bool} {vs : List Vt} (h : ∀ v ∈ vs, 1 ≤ v.2 ∧ v.2 ≤ 1000) : 0 ≤ vtrs p vs ∧ vtrs p vs ≤ 1000 * vs.length := by
  have h1 := sum_bd (c := 1000) (l := (vs.filter fun v => p v.1.2).map (·.2)) fun x hx => by
    obtain ⟨v, hv, rfl⟩ := List.mem_map.1 hx
    have := h v (List.mem_filter.1 hv).1
    omega
  have h2 := List.length_filter_le (fun v : Vt => p v.1.2) vs
  rw [List.length_map] at h1
  unfold vtrs
  omega
set_option maxHeartbeats 2000000 in
theorem voters_gen {g : FuncId} {caps : List AV} (hc : Pure caps) (p : List Int → Bool) (s : Int) (nl : Bool) (vs : List Vt) (hp : profB s vs = true) (hg : ∀ v ∈ vs, CallOk Tryz.prog g (row v.1 :: caps) (.v (.bool (p v.1.2)))) :
    CallOk Tryz.prog 76 [prof s nl vs, .fn g caps] (int (vtrs p vs)) := by
  have hG : FnsOk Tryz.prog [(g, mk (fun x => x ∈ vs) (fun x : Vt => row x.1 :: caps) (fun x => .v (.bool (p x.1.2))))] := .cons (mk_ok fun x hx => hg x hx) .nil
  have hat : ∀ k (h : k < vs.length), mk (fun x => x ∈ vs) (fun x : Vt => row x.1 :: caps) (fun x => AV.v (.bool (p x.1.2))) (.sl vs[k].1.1 1 (vs[k].1.2.map int) :: caps) = some (.v (.bool (p vs[k].1.2))) := fun k h =>
    mk_eq (enc := fun x : Vt => row x.1 :: caps) (f := fun x => AV.v (.bool (p x.1.2))) (x := vs[k]) (by
      intro x y h
      simp only [List.cons.injEq, and_true] at h
      have : x.1.2 = y.1.2 := by
        have := h
        simp [row, map_int_inj] at this
        exact this.2
      rw [this]) (List.getElem_mem h)
  generalize mk (fun x => x ∈ vs) (fun x : Vt => row x.1 :: caps) (fun x => AV.v (.bool (p x.1.2))) = m at hG hat
  obtain ⟨h1, h2, h3⟩ := prof_facts hp
  refine callOk_awpZ [0] (ctx_ok eqOk hG) mixed (live := [true, true, true, false, true, true, false, true, false, true, true, true, true, false, false, false, false, false, true]) (dt := []) Tryz.func76 rfl (by kernel_rfl) (by kernel_rfl) fun w0 hlens => ?_
  clear hlens
  have z0 := vtrs_zero (p := p)
  simp [Tryz.f76, List.range, List.range.loop, ints, intss, int, bool, row, frac, fracs, ← List.map_take, ← List.map_drop, andThen_n, freeze, frzA, frzAL, sets, prof, hc.res, hc.refs, hc.ren, hc.killN, frzAL_pure hc]
  refine awp_range (live := [true, true, true, false, true, true, false, true, false, true, true, true, true, false, false, false, false, false, true]) (ctx_ok eqOk hG) mixed [false, true, false, false, false, true, false, false, false, true, true, true] (vs.length) (fun k => True) (fun k => ⟨[.junk, .fn g caps, .junk, .junk, .junk, int (vtrs p (vs.take k)), .junk, .junk, .junk, vts nl vs, int vs.length, int k, .junk, .junk, .junk, .junk, .junk, .junk, .junk, .junk, .junk, .junk, .junk, .junk, .junk], []⟩) ?_ (by simp [sub, slotsLe, clean, keep, refsL, refs, once, place, renL, ren, List.replicate, int, bool, prof, vts, z0, hc.refs, hc.ren, hc.killN]) ?_ ?_ ?_
  · omega
  · trivial
  · intro k hk _ hwk
    have hz := hat k hk
    have hs := vtrs_succ (p := p) hk
    have hb := vtrs_bd (p := p) (vs := vs.take k) fun v hv => (h3 v (List.mem_of_mem_take hv)).2
    have hv := (h3 _ (List.getElem_mem hk)).2
    rw [List.length_take] at hb
    have hw : IntKind.i64.wrap (vtrs p (vs.take k) + vs[k].2) = vtrs p (vs.take k) + vs[k].2 := wrapI (by omega) (by omega)
    generalize vtrs p (vs.take (k + 1)) = B at *
    generalize vtrs p (vs.take k) = A at *
    subst hs
    cases hpk : p vs[k].1.2 with
    | true =>
      rw [hpk] at hz
      simp [List.range, List.range.loop, ints, intss, int, bool, row, frac, fracs, ← List.map_take, ← List.map_drop, prof, vts, vote, hk, hwk, hz, hw, hc.res, hc.refs, hc.ren, hc.killN]
    | false =>
      rw [hpk] at hz
      simp [List.range, List.range.loop, ints, intss, int, bool, row, frac, fracs, ← List.map_take, ← List.map_drop, prof, vts, vote, hk, hwk, hz, hw, hc.res, hc.refs, hc.ren, hc.killN]
  · intro _
    simp [List.range, List.range.loop, ints, intss, int, bool, row, frac, fracs, ← List.map_take, ← List.map_drop, prof, vts]
end Go.Proofs.YtkfmhpgnhkdebaaGreatDoor.Ax
namespace Go.Proofs.YtkfmhpgnhkdebaaGreatDoor.Ax
open Go Go.RowKit
set_option linter.unusedSimpArgs false
def liA (t : Nat) : List Int → AV
  | [] => .sl true 1 []
  | _ :: l => .ref t [] 0 (l.length + 1)
def liT : List Int → List Tok
  | [] => []
  | x :: l => [⟨true, .sl false 1 ((x :: l).map int)⟩]
end Go.Proofs.YtkfmhpgnhkdebaaGreatDoor.Ax
