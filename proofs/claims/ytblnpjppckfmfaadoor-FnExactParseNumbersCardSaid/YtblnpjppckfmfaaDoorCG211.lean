/-
  Decimal numerals, read back. No condition.
-/
import Derived.Test.YtblnpjppckfmfaaDoorCG210
import Derived.Test.YtblnpjppckfmfaaDoorCG188
namespace Go.Proofs.YtblnpjppckfmfaaDoor.Ax
open Go Go.RowKit
set_option linter.unusedSimpArgs false

/-- The value of digits. -/
def dvL (l : List UInt8) : Nat := l.foldl (fun a c => 10 * a + (c.toNat - 48)) 0
theorem dvL_snoc {l : List UInt8} {c : UInt8} : dvL (l ++ [c]) = 10 * dvL l + (c.toNat - 48) := by simp [dvL]
theorem dec_facts : ∀ u, dvL (Lib.decDigits u) = u ∧ (∀ c ∈ Lib.decDigits u, 48 ≤ c.toNat ∧ c.toNat ≤ 57) ∧ 0 < (Lib.decDigits u).length := by
  intro u
  induction u using Nat.strongRecOn with
  | _ u ih =>
    by_cases h : u < 10
    · rw [dec_lt h]
      have e : (UInt8.ofNat (48 + u)).toNat = 48 + u := by simp; omega
      refine ⟨?_, ?_, by simp⟩
      · have := dvL_snoc (l := []) (c := UInt8.ofNat (48 + u))
        rw [List.nil_append, e] at this
        rw [this]; simp [dvL]
      · intro c hc
        rw [List.mem_singleton] at hc
        subst hc
        rw [e]; omega
    · rw [dec_ge (by omega)]
      obtain ⟨i1, i2, i3⟩ := ih (u / 10) (by omega)
      have e : (UInt8.ofNat (48 + u % 10)).toNat = 48 + u % 10 := by simp; omega
      refine ⟨?_, ?_, by simp⟩
      · rw [dvL_snoc, i1, e]; omega
      · intro c hc
        rw [List.mem_append, List.mem_singleton] at hc
        rcases hc with hc | rfl
        · exact i2 c hc
        · rw [e]; omega

/-- The value of a numeral. -/
def vL : List UInt8 → Int
  | [] => 0
  | c :: r => if c.toNat = 45 then -(dvL r : Int) else dvL (c :: r)
theorem vL_itoa (n : Int) : vL (Lib.itoa n) = n := by
  unfold Lib.itoa
  split
  · obtain ⟨i1, _, _⟩ := dec_facts n.natAbs
    show (if (45 : UInt8).toNat = 45 then -(dvL (Lib.decDigits n.natAbs) : Int) else dvL (45 :: Lib.decDigits n.natAbs)) = n
    rw [if_pos (by decide), i1]; omega
  · obtain ⟨i1, i2, i3⟩ := dec_facts n.toNat
    generalize Lib.decDigits n.toNat = l at *
    cases l with
    | nil => simp at i3
    | cons c r =>
      show (if c.toNat = 45 then -(dvL r : Int) else dvL (c :: r)) = n
      have := i2 c (by simp)
      rw [if_neg (by omega), i1]; omega
theorem itoaS_inj {a b : Int} (h : itoaS a = itoaS b) : a = b := by
  have h1 : bl (itoaS a) = bl (itoaS b) := by rw [h]
  unfold itoaS at h1
  rw [bl_mk, bl_mk] at h1
  rw [← vL_itoa a, h1, vL_itoa]

open Classical in
/-- What ParseInt finds. -/
noncomputable def pI (s : ByteArray) : Int × Bool := if h : ∃ n, inI n ∧ itoaS n = s then (Classical.choose h, true) else (0, false)
theorem pI_of {n : Int} (h : inI n) : pI (itoaS n) = (n, true) := by
  unfold pI
  have hx : ∃ m, inI m ∧ itoaS m = itoaS n := ⟨n, h, rfl⟩
  rw [dif_pos hx]
  have := Classical.choose_spec hx
  rw [itoaS_inj this.2]
theorem pI_no {s : ByteArray} (h : ∀ n, inI n → itoaS n = s → False) : pI s = (0, false) := by
  unfold pI
  rw [dif_neg]
  rintro ⟨n, h1, h2⟩
  exact h n h1 h2

theorem by1_mk {l : List UInt8} {i : Nat} : by1 ⟨l.toArray⟩ i = (l[i]?.getD 0).toNat := by
  unfold by1
  have hs : (⟨l.toArray⟩ : ByteArray).size = l.length := by simp [ByteArray.size]
  by_cases h : i < l.length
  · rw [getElem?_pos (⟨l.toArray⟩ : ByteArray) i (by rw [hs]; exact h), List.getElem?_eq_getElem h]
    rfl
  · rw [getElem?_neg (⟨l.toArray⟩ : ByteArray) i (by rw [hs]; exact h), List.getElem?_eq_none (by omega)]
theorem mk_bl (s : ByteArray) : s = ⟨(bl s).toArray⟩ := by unfold bl; rw [Array.toArray_toList]
theorem bl_size (s : ByteArray) : (bl s).length = s.size := by simp [bl]
theorem by1_bl {s : ByteArray} {i : Nat} : by1 s i = ((bl s)[i]?.getD 0).toNat := by
  conv => lhs; rw [mk_bl s]
  exact by1_mk

/-- The sign, and what is behind it. -/
def negS (s : ByteArray) : Bool := decide (0 < s.size) && decide (by1 s 0 = 45)
def tlS (s : ByteArray) : ByteArray := if negS s = true then s.extract 1 s.size else s
theorem tlS_bl (s : ByteArray) : bl (tlS s) = if negS s = true then (bl s).drop 1 else bl s := by
  unfold tlS
  split
  · unfold bl
    rw [ByteArray.data_extract, Array.toList_extract, List.extract_eq_take_drop]
    exact List.take_of_length_le (by rw [List.length_drop, Array.length_toList]; exact Nat.le_refl _)
  · rfl
/-- The value of a string's first digits. -/
def dv (s : ByteArray) (k : Nat) : Nat := dvL ((bl s).take k)
theorem dv_zero {s : ByteArray} : dv s 0 = 0 := rfl
theorem dv_succ {s : ByteArray} {k : Nat} (h : k < s.size) : dv s (k + 1) = 10 * dv s k + (by1 s k - 48) := by
  have h' : k < (bl s).length := by rw [bl_size]; exact h
  unfold dv
  rw [List.take_succ_eq_append_getElem h', dvL_snoc, by1_bl, List.getElem?_eq_getElem h']
  rfl
theorem dv_mono {s : ByteArray} {k : Nat} : ∀ {j : Nat}, k ≤ j → j ≤ s.size → dv s k ≤ dv s j
  | 0, h, _ => by obtain rfl : k = 0 := by omega
                  exact Nat.le_refl _
  | j + 1, h, hj => by
    rcases Nat.lt_or_ge k (j + 1) with h1 | h1
    · have := dv_mono (s := s) (k := k) (j := j) (by omega) (by omega)
      have e := dv_succ (s := s) (k := j) (by omega)
      omega
    · obtain rfl : k = j + 1 := by omega
      exact Nat.le_refl _

structure NumF (n : Int) : Prop where
  neg : negS (itoaS n) = decide (n < 0)
  dig : digS (tlS (itoaS n)) = true
  len : (tlS (itoaS n)).size ≤ 19
  val : dv (tlS (itoaS n)) (tlS (itoaS n)).size = n.natAbs
theorem numF {n : Int} (h : inI n) : NumF n := by
  have h1 := h.1
  have h2 := h.2
  have h3 : (9223372036854775808 : Nat) < 10 ^ 19 := by decide
  have hb : bl (itoaS n) = Lib.itoa n := by unfold itoaS; rw [bl_mk]
  have hneg : negS (itoaS n) = decide (n < 0) := by
    unfold negS
    rw [by1_bl, ← bl_size, hb]
    unfold Lib.itoa
    split
    · rename_i g; simp [g]
    · rename_i g
      obtain ⟨_, i2, i3⟩ := dec_facts n.toNat
      generalize Lib.decDigits n.toNat = l at *
      cases l with
      | nil => simp at i3
      | cons c r =>
        have := i2 c (by simp)
        simp [g]; intro hc; rw [hc] at this; simp at this
  have ht : bl (tlS (itoaS n)) = Lib.decDigits n.natAbs := by
    rw [tlS_bl, hneg, hb]
    unfold Lib.itoa
    by_cases g : n < 0
    · simp [g]
    · simp [g]; congr 1; omega
  have hl := dec_len10 19 n.natAbs (by omega) (by omega)
  obtain ⟨i1, i2, i3⟩ := dec_facts n.natAbs
  have hsz : (tlS (itoaS n)).size = (Lib.decDigits n.natAbs).length := by rw [← bl_size, ht]
  refine ⟨hneg, ?_, by omega, ?_⟩
  · unfold digS
    rw [Bool.and_eq_true]
    refine ⟨allR_yes fun j hj => ?_, by simp; omega⟩
    unfold digAt
    have hj' : j < (Lib.decDigits n.natAbs).length := by omega
    rw [by1_bl, ht, List.getElem?_eq_getElem hj']
    have := i2 _ (List.getElem_mem hj')
    simp; omega
  · unfold dv
    rw [hsz, ht, List.take_length, i1]

theorem dig_by {t : ByteArray} (h : digS t = true) {k : Nat} (hk : k < t.size) : 48 ≤ by1 t k ∧ by1 t k ≤ 57 := by
  unfold digS at h
  rw [Bool.and_eq_true] at h
  have := h.1
  unfold allR at this
  rw [List.all_eq_true] at this
  have := this k (by simpa using hk)
  unfold digAt at this
  simpa using this

end Go.Proofs.YtblnpjppckfmfaaDoor.Ax
