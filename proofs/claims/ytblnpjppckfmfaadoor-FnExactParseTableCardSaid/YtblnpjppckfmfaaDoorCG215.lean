/-
  What strconv.Atoi answers for a number's own numeral. No condition.
-/
import Derived.Test.YtblnpjppckfmfaaDoorCG214
import Derived.Lib.AtoiAllCases
namespace Go.Proofs.YtblnpjppckfmfaaDoor.Ax
open Go Go.RowKit

def dvA (a : Nat) (l : List UInt8) : Nat := l.foldl (fun a c => 10 * a + (c.toNat - 48)) a
theorem dvA_cons {a : Nat} {c : UInt8} {l : List UInt8} : dvA a (c :: l) = dvA (10 * a + (c.toNat - 48)) l := by simp [dvA]
theorem dvA_nil {a : Nat} : dvA a [] = a := by simp [dvA]
theorem dvA_ge (l : List UInt8) : ∀ a, a ≤ dvA a l := by
  induction l with
  | nil => intro a; rw [dvA_nil]; exact Nat.le_refl _
  | cons c l ih =>
    intro a
    rw [dvA_cons]
    exact Nat.le_trans (by omega) (ih (10 * a + (c.toNat - 48)))
theorem parse_digits (l : List UInt8) : ∀ a, (∀ c ∈ l, 48 ≤ c.toNat ∧ c.toNat ≤ 57) → dvA a l < 18446744073709551616 → Lib.parseUint10 a l = .ok (dvA a l) := by
  induction l with
  | nil => intro a _ _; rw [dvA_nil]; simp [Lib.parseUint10]
  | cons c l ih =>
    intro a hd h
    rw [dvA_cons] at h ⊢
    have hc := hd c (by simp)
    have hg := dvA_ge l (10 * a + (c.toNat - 48))
    simp only [Lib.parseUint10]
    rw [if_pos hc, if_neg (by omega), if_neg (by omega), Nat.mul_comm a 10]
    exact ih _ (fun x hx => hd x (by simp [hx])) h
theorem parse_dec {u : Nat} (h : u < 18446744073709551616) : Lib.parseMag (Lib.decDigits u) = .ok u := by
  obtain ⟨i1, i2, i3⟩ := dec_facts u
  have e : dvA 0 (Lib.decDigits u) = u := i1
  unfold Lib.parseMag
  rw [if_neg (by intro h; rw [h] at i3; simp at i3), parse_digits _ 0 i2 (by omega), e]
theorem atoi_itoa {n : Int} (h : inI n) : Lib.atoiAll (Lib.itoa n) = .ok n := by
  have h1 := h.1
  have h2 := h.2
  unfold Lib.itoa
  split
  · rw [Lib.atoiAll_minus, parse_dec (by omega)]
    unfold Lib.signed
    simp only
    rw [if_neg (by omega)]
    congr 1; omega
  · have hp := parse_dec (u := n.toNat) (by omega)
    obtain ⟨_, i2, i3⟩ := dec_facts n.toNat
    generalize Lib.decDigits n.toNat = l at *
    cases l with
    | nil => simp at i3
    | cons c r =>
      have := i2 c (by simp)
      rw [Lib.atoiAll_plain c r (by omega) (by omega), hp]
      unfold Lib.signless
      simp only
      rw [if_neg (by omega)]
      congr 1; omega
/-- What the program's ParseInt makes of what Atoi answers. -/
theorem pI_atoi {s : ByteArray} : (∃ v, Lib.atoiAll s.data.toList = .ok v ∧ inI v ∧ pI s = if itoaS v = s then (v, true) else (0, false)) ∨ ((Lib.atoiAll s.data.toList = .syntax ∨ Lib.atoiAll s.data.toList = .range) ∧ pI s = (0, false)) := by
  have key : ∀ n, inI n → itoaS n = s → Lib.atoiAll s.data.toList = .ok n := fun n hn e => by
    subst e
    exact (show Lib.atoiAll (Lib.itoa n) = .ok n from atoi_itoa hn)
  cases h : Lib.atoiAll s.data.toList with
  | ok v =>
    have hv := Lib.atoiAll_bounds h
    refine .inl ⟨v, rfl, hv, ?_⟩
    split
    · rename_i e; rw [← e]; exact pI_of hv
    · rename_i e
      refine pI_no fun n hn e' => e ?_
      have := key n hn e'
      rw [h] at this
      injection this with this
      rw [this]; exact e'
  | «syntax» => exact .inr ⟨.inl rfl, pI_no fun n hn e => by have := key n hn e; rw [h] at this; cases this⟩
  | range => exact .inr ⟨.inr rfl, pI_no fun n hn e => by have := key n hn e; rw [h] at this; cases this⟩

end Go.Proofs.YtblnpjppckfmfaaDoor.Ax
