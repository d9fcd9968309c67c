/-
  A table of numbers of at least 0 whose rows and columns come to the same has an exchange of numbers above 0 (up to four rows). Plain Lean, no program in sight.
-/
import Derived.Test.YtkfmhpgnhkdebaaGreatDoorCG17
import Derived.Test.YtkfmhpgnhkdebaaGreatDoorCG13
import Derived.Test.YtkfmhpgnhkdebaaGreatDoorCG15
namespace Go.Proofs.YtkfmhpgnhkdebaaGreatDoor.Ax
open Go Go.RowKit
set_option linter.unusedSimpArgs false
def m1 (a v : Nat) : Bool := !(Nat.beq (Nat.land a v) 0)
def m2 (a b v : Nat) : Bool :=
  (cond (Nat.beq (Nat.land (Nat.land a v) 1) 0) false (m1 b (Nat.xor v 1))) || (cond (Nat.beq (Nat.land (Nat.land a v) 2) 0) false (m1 b (Nat.xor v 2))) ||
  (cond (Nat.beq (Nat.land (Nat.land a v) 4) 0) false (m1 b (Nat.xor v 4))) || (cond (Nat.beq (Nat.land (Nat.land a v) 8) 0) false (m1 b (Nat.xor v 8)))
def m3 (a b c v : Nat) : Bool :=
  (cond (Nat.beq (Nat.land (Nat.land a v) 1) 0) false (m2 b c (Nat.xor v 1))) || (cond (Nat.beq (Nat.land (Nat.land a v) 2) 0) false (m2 b c (Nat.xor v 2))) ||
  (cond (Nat.beq (Nat.land (Nat.land a v) 4) 0) false (m2 b c (Nat.xor v 4))) || (cond (Nat.beq (Nat.land (Nat.land a v) 8) 0) false (m2 b c (Nat.xor v 8)))
def m4 (a b c d v : Nat) : Bool :=
  (cond (Nat.beq (Nat.land (Nat.land a v) 1) 0) false (m3 b c d (Nat.xor v 1))) || (cond (Nat.beq (Nat.land (Nat.land a v) 2) 0) false (m3 b c d (Nat.xor v 2))) ||
  (cond (Nat.beq (Nat.land (Nat.land a v) 4) 0) false (m3 b c d (Nat.xor v 4))) || (cond (Nat.beq (Nat.land (Nat.land a v) 8) 0) false (m3 b c d (Nat.xor v 8)))
def pc (x : Nat) : Nat := Nat.land (Nat.shiftRight 0x4332322132212110 (Nat.shiftLeft x 2)) 15
def bt (v k : Nat) : Bool := Nat.beq (Nat.land (Nat.shiftRight v k) 1) 1
def nb (a b c d S : Nat) : Nat := Nat.lor (cond (bt S 0) a 0) (Nat.lor (cond (bt S 1) b 0) (Nat.lor (cond (bt S 2) c 0) (cond (bt S 3) d 0)))
def vio (a b c d : Nat) : Bool := Nat.rec false (fun S r => cond (Nat.ble (Nat.succ (pc (nb a b c d S))) (pc S)) true r) 16
def evTo (p : Nat → Bool) (n : Nat) : Bool := Nat.rec true (fun k r => cond (p k) r false) n
theorem evTo_at {p : Nat → Bool} : ∀ {n : Nat}, evTo p n = true → ∀ k, k < n → p k = true
  | 0, _, k, hk => by omega
  | n + 1, h, k, hk => by
    have h' : cond (p n) (evTo p n) false = true := h
    cases hp : p n with
    | false => rw [hp] at h'; simp at h'
    | true =>
      rw [hp] at h'
      by_cases e : k = n
      · rw [e]; exact hp
      · exact evTo_at h' k (by omega)
theorem hall4 {a b c d : Nat} (ha : a < 16) (hb : b < 16) (hc : c < 16) (hd : d < 16) : m4 a b c d 15 = true ∨ vio a b c d = true := by
  have h : evTo (fun a => evTo (fun b => evTo (fun c => evTo (fun d => m4 a b c d 15 || vio a b c d) 16) 16) 16) 16 = true := by decide +kernel
  simpa using evTo_at (evTo_at (evTo_at (evTo_at h a ha) b hb) c hc) d hd
theorem bit_and : ∀ a, a < 16 → ∀ v, v < 16 → ∀ k, k < 4 → Nat.beq (Nat.land (Nat.land a v) (2 ^ k)) 0 = false → bt a k = true ∧ bt v k = true := by decide +kernel
theorem bit_xor1 : ∀ v, v < 16 → ∀ k, k < 4 → Nat.xor v (2 ^ k) < 16 := by decide +kernel
theorem bit_xor2 : ∀ v, v < 16 → ∀ k, k < 4 → ∀ j, j < 4 → (!(bt v k) || !(bt (Nat.xor v (2 ^ k)) j) || (bt v j && !(Nat.beq j k))) = true := by decide +kernel
theorem bit_xor {v : Nat} (hv : v < 16) {k : Nat} (hk : k < 4) (h : bt v k = true) : Nat.xor v (2 ^ k) < 16 ∧ ∀ j, j < 4 → bt (Nat.xor v (2 ^ k)) j = true → bt v j = true ∧ j ≠ k := by
  refine ⟨bit_xor1 v hv k hk, fun j hj hb => ?_⟩
  have := bit_xor2 v hv k hk j hj
  rw [h, hb] at this
  simp only [Bool.not_true, Bool.false_or, Bool.and_eq_true, Bool.not_eq_true'] at this
  exact ⟨this.1, fun e => by rw [e, Nat.beq_refl] at this; exact Bool.noConfusion this.2⟩
theorem bit_one : ∀ a, a < 16 → ∀ v, v < 16 → m1 a v = true → ∃ k, k < 4 ∧ bt a k = true ∧ bt v k = true := by decide +kernel
theorem step_of {a v : Nat} (ha : a < 16) (hv : v < 16) {f : Nat → Bool} (h : ((cond (Nat.beq (Nat.land (Nat.land a v) 1) 0) false (f (Nat.xor v 1))) || (cond (Nat.beq (Nat.land (Nat.land a v) 2) 0) false (f (Nat.xor v 2))) ||
    (cond (Nat.beq (Nat.land (Nat.land a v) 4) 0) false (f (Nat.xor v 4))) || (cond (Nat.beq (Nat.land (Nat.land a v) 8) 0) false (f (Nat.xor v 8)))) = true) :
    ∃ k v', k < 4 ∧ bt a k = true ∧ bt v k = true ∧ v' < 16 ∧ (∀ j, j < 4 → bt v' j = true → bt v j = true ∧ j ≠ k) ∧ f v' = true := by
  have key : ∀ k, k < 4 → cond (Nat.beq (Nat.land (Nat.land a v) (2 ^ k)) 0) false (f (Nat.xor v (2 ^ k))) = true → ∃ k v', k < 4 ∧ bt a k = true ∧ bt v k = true ∧ v' < 16 ∧ (∀ j, j < 4 → bt v' j = true → bt v j = true ∧ j ≠ k) ∧ f v' = true := by
    intro k hk hc
    cases hb : Nat.beq (Nat.land (Nat.land a v) (2 ^ k)) 0 with
    | true => rw [hb] at hc; simp at hc
    | false =>
      rw [hb] at hc
      obtain ⟨h1, h2⟩ := bit_and a ha v hv k hk hb
      obtain ⟨h3, h4⟩ := bit_xor hv hk h2
      exact ⟨k, _, hk, h1, h2, h3, h4, hc⟩
  simp only [Bool.or_eq_true] at h
  rcases h with ((h | h) | h) | h
  · exact key 0 (by omega) h
  · exact key 1 (by omega) h
  · exact key 2 (by omega) h
  · exact key 3 (by omega) h
theorem m4_some {a b c d : Nat} (ha : a < 16) (hb : b < 16) (hc : c < 16) (hd : d < 16) (h : m4 a b c d 15 = true) :
    ∃ x y z t, (x < 4 ∧ y < 4 ∧ z < 4 ∧ t < 4) ∧ (x ≠ y ∧ x ≠ z ∧ x ≠ t ∧ y ≠ z ∧ y ≠ t ∧ z ≠ t) ∧ bt a x = true ∧ bt b y = true ∧ bt c z = true ∧ bt d t = true := by
  obtain ⟨x, v1, x4, ax, _, hv1, n1, h⟩ := step_of (f := m3 b c d) ha (by omega) h
  obtain ⟨y, v2, y4, b_y, vy, hv2, n2, h⟩ := step_of (f := m2 c d) hb hv1 h
  obtain ⟨z, v3, z4, cz, vz, hv3, n3, h⟩ := step_of (f := m1 d) hc hv2 h
  obtain ⟨t, t4, dt, vt⟩ := bit_one d hd v3 hv3 h
  have e1 := n1 y y4 vy
  have e2 := n2 z z4 vz
  have e3 := n1 z z4 e2.1
  have e4 := n3 t t4 vt
  have e5 := n2 t t4 e4.1
  have e6 := n1 t t4 e5.1
  exact ⟨x, y, z, t, ⟨x4, y4, z4, t4⟩, ⟨fun e => e1.2 e.symm, fun e => e3.2 e.symm, fun e => e6.2 e.symm, fun e => e2.2 e.symm, fun e => e5.2 e.symm, fun e => e4.2 e.symm⟩, ax, b_y, cz, dt⟩
theorem vio_some {a b c d : Nat} (h : vio a b c d = true) : ∃ S, S < 16 ∧ pc (nb a b c d S) < pc S := by
  have key : ∀ n, (Nat.rec false (fun S r => cond (Nat.ble (Nat.succ (pc (nb a b c d S))) (pc S)) true r) n : Bool) = true → ∃ S, S < n ∧ pc (nb a b c d S) < pc S := by
    intro n
    induction n with
    | zero => intro h; simp at h
    | succ n ih =>
      intro h
      cases hb : Nat.ble (Nat.succ (pc (nb a b c d n))) (pc n) with
      | true => exact ⟨n, by omega, Nat.le_of_ble_eq_true hb⟩
      | false =>
        simp only [hb, cond_false] at h
        obtain ⟨S, h1, h2⟩ := ih h
        exact ⟨S, by omega, h2⟩
  exact key 16 h
def msk (p : Nat → Bool) : Nat := cond (p 0) 1 0 + cond (p 1) 2 0 + cond (p 2) 4 0 + cond (p 3) 8 0
theorem msk_lt {p : Nat → Bool} : msk p < 16 := by
  unfold msk; cases p 0 <;> cases p 1 <;> cases p 2 <;> cases p 3 <;> decide
theorem msk_bt {p : Nat → Bool} {k : Nat} (hk : k < 4) : bt (msk p) k = p k := by
  have h : k = 0 ∨ k = 1 ∨ k = 2 ∨ k = 3 := by omega
  unfold msk
  generalize h0 : p 0 = a
  generalize h1 : p 1 = b
  generalize h2 : p 2 = c
  generalize h3 : p 3 = d
  rcases h with rfl | rfl | rfl | rfl
  · rw [h0]; cases a <;> cases b <;> cases c <;> cases d <;> decide
  · rw [h1]; cases a <;> cases b <;> cases c <;> cases d <;> decide
  · rw [h2]; cases a <;> cases b <;> cases c <;> cases d <;> decide
  · rw [h3]; cases a <;> cases b <;> cases c <;> cases d <;> decide
def b1 (b : Bool) : Nat := cond b 1 0
theorem pc_eq : ∀ S, S < 16 → pc S = b1 (bt S 0) + b1 (bt S 1) + b1 (bt S 2) + b1 (bt S 3) := by decide +kernel
theorem bt_lor : ∀ x, x < 16 → ∀ y, y < 16 → Nat.lor x y < 16 ∧ ∀ k, k < 4 → bt (Nat.lor x y) k = (bt x k || bt y k) := by decide +kernel
def su4 (f : Nat → Rat) : Rat := f 0 + f 1 + f 2 + f 3
theorem su4_le {f g : Nat → Rat} (h : ∀ i, i < 4 → f i ≤ g i) : su4 f ≤ su4 g := by
  have h0 := h 0 (by omega)
  have h1 := h 1 (by omega)
  have h2 := h 2 (by omega)
  have h3 := h 3 (by omega)
  unfold su4; grind
theorem su4_swap {f : Nat → Nat → Rat} : su4 (fun i => su4 (f i)) = su4 fun j => su4 fun i => f i j := by unfold su4; grind
theorem su4_if {b : Bool} {f : Nat → Rat} : su4 (fun i => if b = true then f i else 0) = if b = true then su4 f else 0 := by
  cases b <;> simp [su4, Rat.add_zero]
theorem su4_cnt {S : Nat} (hS : S < 16) {s : Rat} : su4 (fun i => if bt S i = true then s else 0) = (pc S : Rat) * s := by
  rw [pc_eq S hS]
  unfold b1
  show (if bt S 0 = true then s else 0) + (if bt S 1 = true then s else 0) + (if bt S 2 = true then s else 0) + (if bt S 3 = true then s else 0) = _
  cases bt S 0 <;> cases bt S 1 <;> cases bt S 2 <;> cases bt S 3 <;> simp <;> grind
theorem no_vio {A : Nat → Nat → Rat} {s : Rat} (hs : 0 < s) (h0 : ∀ i j, i < 4 → j < 4 → 0 ≤ A i j) (hr : ∀ i, i < 4 → su4 (A i) = s) (hc : ∀ j, j < 4 → su4 (fun i => A i j) = s) {S N : Nat} (hS : S < 16) (hN : N < 16)
    (hx : ∀ i j, i < 4 → j < 4 → bt S i = true → bt N j = false → A i j = 0) : ¬ pc N < pc S := by
  intro hlt
  have k1 : su4 (fun i => if bt S i = true then su4 (A i) else 0) ≤ su4 (fun i => su4 fun j => if bt N j = true then A i j else 0) := su4_le fun i hi => by
    by_cases hb : bt S i = true
    · rw [if_pos hb]
      refine su4_le fun j hj => ?_
      by_cases hn : bt N j = true
      · rw [if_pos hn]; exact Rat.le_refl
      · rw [if_neg hn, hx i j hi hj hb (by simpa using hn)]; exact Rat.le_refl
    · rw [if_neg hb]
      have : (0 : Rat) = su4 fun _ => 0 := by simp [su4, Rat.add_zero]
      refine Rat.le_trans (b := su4 fun _ => 0) (by rw [← this]; exact Rat.le_refl) ?_
      refine su4_le fun j hj => ?_
      split
      · exact h0 i j hi hj
      · exact Rat.le_refl
  rw [su4_swap] at k1
  have k2 : su4 (fun i => if bt S i = true then su4 (A i) else 0) = (pc S : Rat) * s := by
    rw [← su4_cnt hS]
    have e0 := hr 0 (by omega); have e1 := hr 1 (by omega); have e2 := hr 2 (by omega); have e3 := hr 3 (by omega)
    show (if bt S 0 = true then su4 (A 0) else 0) + (if bt S 1 = true then su4 (A 1) else 0) + (if bt S 2 = true then su4 (A 2) else 0) + (if bt S 3 = true then su4 (A 3) else 0) = _
    rw [e0, e1, e2, e3]; rfl
  have k3 : (su4 fun j => su4 fun i => if bt N j = true then A i j else 0) = (pc N : Rat) * s := by
    rw [← su4_cnt hN]
    have e0 := hc 0 (by omega); have e1 := hc 1 (by omega); have e2 := hc 2 (by omega); have e3 := hc 3 (by omega)
    have f : ∀ j, (su4 fun i => if bt N j = true then A i j else 0) = if bt N j = true then su4 (fun i => A i j) else 0 := fun j => su4_if
    rw [show (fun j => su4 fun i => if bt N j = true then A i j else 0) = fun j => if bt N j = true then su4 (fun i => A i j) else 0 from funext f]
    show (if bt N 0 = true then su4 (fun i => A i 0) else 0) + (if bt N 1 = true then su4 (fun i => A i 1) else 0) + (if bt N 2 = true then su4 (fun i => A i 2) else 0) + (if bt N 3 = true then su4 (fun i => A i 3) else 0) = _
    rw [e0, e1, e2, e3]; rfl
  rw [k2, k3] at k1
  have h1 : (pc N : Rat) + 1 ≤ (pc S : Rat) := by
    have : ((pc N + 1 : Nat) : Rat) ≤ ((pc S : Nat) : Rat) := by exact_mod_cast hlt
    simpa using this
  have h2 : ((pc N : Rat) + 1) * s ≤ (pc S : Rat) * s := Rat.mul_le_mul_of_nonneg_right h1 (Rat.le_of_lt hs)
  grind
def suR (f : Nat → Rat) : Nat → Rat
  | 0 => 0
  | n + 1 => suR f n + f n
theorem suR_congr {f g : Nat → Rat} : ∀ {n : Nat}, (∀ i, i < n → f i = g i) → suR f n = suR g n
  | 0, _ => rfl
  | n + 1, h => by rw [suR, suR, suR_congr fun i hi => h i (by omega), h n (by omega)]
def padA (n : Nat) (s : Rat) (a : Nat → Nat → Rat) (i j : Nat) : Rat := if i < n ∧ j < n then a i j else if i = j then s else 0
theorem padA_row {n : Nat} {s : Rat} {a : Nat → Nat → Rat} (h1 : 1 ≤ n) (h4 : n ≤ 4) (hr : ∀ i, i < n → suR (a i) n = s) : ∀ i, i < 4 → su4 (padA n s a i) = s := by
  intro i hi
  have hn : n = 1 ∨ n = 2 ∨ n = 3 ∨ n = 4 := by omega
  have hi' : i = 0 ∨ i = 1 ∨ i = 2 ∨ i = 3 := by omega
  rcases hn with rfl | rfl | rfl | rfl <;> rcases hi' with rfl | rfl | rfl | rfl <;>
    first
    | (have e := hr 0 (by omega); have e1 := hr 1 (by omega); have e2 := hr 2 (by omega); have e3 := hr 3 (by omega); simp only [suR] at e e1 e2 e3; simp [su4, padA]; grind)
    | (have e := hr 0 (by omega); have e1 := hr 1 (by omega); have e2 := hr 2 (by omega); simp only [suR] at e e1 e2; simp [su4, padA]; grind)
    | (have e := hr 0 (by omega); have e1 := hr 1 (by omega); simp only [suR] at e e1; simp [su4, padA]; grind)
    | (have e := hr 0 (by omega); simp only [suR] at e; simp [su4, padA]; grind)
theorem padA_turn {n : Nat} {s : Rat} {a : Nat → Nat → Rat} {i j : Nat} : padA n s a i j = padA n s (fun i j => a j i) j i := by
  show (if i < n ∧ j < n then a i j else if i = j then s else 0) = if j < n ∧ i < n then a i j else if j = i then s else 0
  by_cases h : i < n ∧ j < n
  · rw [if_pos h, if_pos (show j < n ∧ i < n from ⟨h.2, h.1⟩)]
  · rw [if_neg h, if_neg (show ¬ (j < n ∧ i < n) from fun k => h ⟨k.2, k.1⟩)]
    by_cases e : i = j
    · rw [if_pos e, if_pos e.symm]
    · rw [if_neg e, if_neg (show ¬ j = i from fun k => e k.symm)]
theorem exch_memB : ∀ x, x < 4 → ∀ y, y < 4 → ∀ z, z < 4 → ∀ t, t < 4 → (Nat.beq x y || Nat.beq x z || Nat.beq x t || Nat.beq y z || Nat.beq y t || Nat.beq z t ||
    ((!(Nat.beq t 3 && Nat.beq z 2 && Nat.beq y 1) || decide ((false, [(x : Int)]) ∈ allRk 1)) && (!(Nat.beq t 3 && Nat.beq z 2) || decide ((false, [(x : Int), y]) ∈ allRk 2)) && (!(Nat.beq t 3) || decide ((false, [(x : Int), y, z]) ∈ allRk 3)) && decide ((false, [(x : Int), y, z, t]) ∈ allRk 4))) = true := by decide +kernel
theorem exch_mem {x : Nat} (hx : x < 4) {y : Nat} (hy : y < 4) {z : Nat} (hz : z < 4) {t : Nat} (ht : t < 4) (h : x ≠ y ∧ x ≠ z ∧ x ≠ t ∧ y ≠ z ∧ y ≠ t ∧ z ≠ t) :
    (t = 3 → z = 2 → y = 1 → (false, [(x : Int)]) ∈ allRk 1) ∧ (t = 3 → z = 2 → (false, [(x : Int), y]) ∈ allRk 2) ∧ (t = 3 → (false, [(x : Int), y, z]) ∈ allRk 3) ∧ (false, [(x : Int), y, z, t]) ∈ allRk 4 := by
  have hb := exch_memB x hx y hy z hz t ht
  have ne : ∀ {a b : Nat}, a ≠ b → Nat.beq a b = false := fun {a b} h => by
    cases e : Nat.beq a b with
    | false => rfl
    | true => exact absurd (Nat.eq_of_beq_eq_true e) h
  rw [ne h.1, ne h.2.1, ne h.2.2.1, ne h.2.2.2.1, ne h.2.2.2.2.1, ne h.2.2.2.2.2] at hb
  simp only [Bool.false_or, Bool.and_eq_true, Bool.or_eq_true, decide_eq_true_eq] at hb
  obtain ⟨⟨⟨q1, q2⟩, q3⟩, q4⟩ := hb
  refine ⟨fun e1 e2 e3 => ?_, fun e1 e2 => ?_, fun e1 => ?_, q4⟩
  · subst e1; subst e2; subst e3
    rcases q1 with q | q
    · exact absurd q (by decide)
    · exact q
  · subst e1; subst e2
    rcases q2 with q | q
    · exact absurd q (by decide)
    · exact q
  · subst e1
    rcases q3 with q | q
    · exact absurd q (by decide)
    · exact q
theorem exch_some {n : Nat} {s : Rat} {a : Nat → Nat → Rat} (h1 : 1 ≤ n) (h4 : n ≤ 4) (hs : 0 < s) (h0 : ∀ i j, i < n → j < n → 0 ≤ a i j) (hr : ∀ i, i < n → suR (a i) n = s) (hc : ∀ j, j < n → suR (fun i => a i j) n = s) :
    ∃ o ∈ allRk n, ∀ i, i < n → ∃ x : Nat, at0 o.2 i = x ∧ x < n ∧ 0 < a i x := by
  let A := padA n s a
  have hA0 : ∀ i j, i < 4 → j < 4 → 0 ≤ A i j := fun i j _ _ => by
    show 0 ≤ padA n s a i j
    unfold padA
    split
    · rename_i h; exact h0 i j h.1 h.2
    · split
      · exact Rat.le_of_lt hs
      · exact Rat.le_refl
  have hAr : ∀ i, i < 4 → su4 (A i) = s := padA_row h1 h4 hr
  have hAc : ∀ j, j < 4 → su4 (fun i => A i j) = s := fun j hj => by
    have := padA_row (a := fun i j => a j i) h1 h4 hc j hj
    rw [← this]
    congr 1
    funext i
    exact padA_turn
  let r : Nat → Nat := fun i => msk fun j => decide (0 < A i j)
  have hb : ∀ i j, j < 4 → bt (r i) j = decide (0 < A i j) := fun i j hj => msk_bt hj
  rcases hall4 (a := r 0) (b := r 1) (c := r 2) (d := r 3) msk_lt msk_lt msk_lt msk_lt with h | h
  · obtain ⟨x, y, z, t, ⟨x4, y4, z4, t4⟩, hd, bx, by', bz, bt'⟩ := m4_some msk_lt msk_lt msk_lt msk_lt h
    rw [hb 0 x x4] at bx
    rw [hb 1 y y4] at by'
    rw [hb 2 z z4] at bz
    rw [hb 3 t t4] at bt'
    simp only [decide_eq_true_eq] at bx by' bz bt'
    have diag : ∀ i j, i < 4 → n ≤ i → 0 < A i j → j = i := fun i j _ hi hp => by
      have hp' : 0 < padA n s a i j := hp
      unfold padA at hp'
      rw [if_neg (by omega)] at hp'
      by_cases e : i = j
      · exact e.symm
      · rw [if_neg e] at hp'; exact absurd hp' (by decide)
    have ins : ∀ i j, i < n → 0 < A i j → j < n ∧ 0 < a i j := fun i j hi hp => by
      have hp' : 0 < padA n s a i j := hp
      unfold padA at hp'
      by_cases hj : j < n
      · rw [if_pos ⟨hi, hj⟩] at hp'; exact ⟨hj, hp'⟩
      · rw [if_neg (by omega), if_neg (by omega)] at hp'
        exact absurd hp' (by decide)
    obtain ⟨q1, q2, q3, q4⟩ := exch_mem x4 y4 z4 t4 hd
    have hn : n = 1 ∨ n = 2 ∨ n = 3 ∨ n = 4 := by omega
    rcases hn with rfl | rfl | rfl | rfl
    · refine ⟨_, q1 (diag 3 t (by omega) (by omega) bt') (diag 2 z (by omega) (by omega) bz) (diag 1 y (by omega) (by omega) by'), fun i hi => ?_⟩
      obtain rfl : i = 0 := by omega
      exact ⟨x, rfl, ins 0 x (by omega) bx⟩
    · refine ⟨_, q2 (diag 3 t (by omega) (by omega) bt') (diag 2 z (by omega) (by omega) bz), fun i hi => ?_⟩
      have hi' : i = 0 ∨ i = 1 := by omega
      rcases hi' with rfl | rfl
      · exact ⟨x, rfl, ins 0 x (by omega) bx⟩
      · exact ⟨y, rfl, ins 1 y (by omega) by'⟩
    · refine ⟨_, q3 (diag 3 t (by omega) (by omega) bt'), fun i hi => ?_⟩
      have hi' : i = 0 ∨ i = 1 ∨ i = 2 := by omega
      rcases hi' with rfl | rfl | rfl
      · exact ⟨x, rfl, ins 0 x (by omega) bx⟩
      · exact ⟨y, rfl, ins 1 y (by omega) by'⟩
      · exact ⟨z, rfl, ins 2 z (by omega) bz⟩
    · refine ⟨_, q4, fun i hi => ?_⟩
      have hi' : i = 0 ∨ i = 1 ∨ i = 2 ∨ i = 3 := by omega
      rcases hi' with rfl | rfl | rfl | rfl
      · exact ⟨x, rfl, ins 0 x (by omega) bx⟩
      · exact ⟨y, rfl, ins 1 y (by omega) by'⟩
      · exact ⟨z, rfl, ins 2 z (by omega) bz⟩
      · exact ⟨t, rfl, ins 3 t (by omega) bt'⟩
  · exfalso
    obtain ⟨S, hS, hv⟩ := vio_some h
    have hcnd : ∀ (b : Bool) (v : Nat), v < 16 → cond b v 0 < 16 := fun b v hv => by cases b <;> simp [hv]
    obtain ⟨l3, g3⟩ := bt_lor (cond (bt S 2) (r 2) 0) (hcnd _ _ msk_lt) (cond (bt S 3) (r 3) 0) (hcnd _ _ msk_lt)
    obtain ⟨l2, g2⟩ := bt_lor (cond (bt S 1) (r 1) 0) (hcnd _ _ msk_lt) _ l3
    obtain ⟨l1, g1⟩ := bt_lor (cond (bt S 0) (r 0) 0) (hcnd _ _ msk_lt) _ l2
    refine no_vio hs hA0 hAr hAc hS l1 (fun i j hi hj hSi hN => ?_) hv
    rw [g1 j hj, g2 j hj, g3 j hj] at hN
    simp only [Bool.or_eq_false_iff] at hN
    have hz : bt (r i) j = false := by
      have hi' : i = 0 ∨ i = 1 ∨ i = 2 ∨ i = 3 := by omega
      rcases hi' with rfl | rfl | rfl | rfl
      · have := hN.1; rw [hSi] at this; exact this
      · have := hN.2.1; rw [hSi] at this; exact this
      · have := hN.2.2.1; rw [hSi] at this; exact this
      · have := hN.2.2.2; rw [hSi] at this; exact this
    rw [hb i j hj] at hz
    simp only [decide_eq_false_iff_not] at hz
    exact Rat.le_antisymm (Rat.not_lt.1 hz) (hA0 i j hi hj)
end Go.Proofs.YtkfmhpgnhkdebaaGreatDoor.Ax
namespace Go.Proofs.YtkfmhpgnhkdebaaGreatDoor.Ax
open Go Go.RowKit
set_option linter.unusedSimpArgs false
abbrev Tab := List (Bool × List (Int × Int))
def cel0 (m : Tab) (i j : Nat) : Int × Int := (m.getD i (true, [])).2.getD j (0, 0)
def vlR (m : Tab) (i j : Nat) : Rat := val (cel0 m i j)
def posL (m : Tab) (l : List Int) : Bool := allR m.length fun i => decide (0 < (cel0 m i (at0 l i).toNat).1)
def lstTo (m : Tab) (l : List Int) : Nat → Int × Int
  | 0 => cel0 m 0 (at0 l 0).toNat
  | k + 1 => lesF (lstTo m l k) (cel0 m k (at0 l k).toNat)
def lstF (m : Tab) (l : List Int) : Int × Int := lstTo m l m.length
structure TabOk (m : Tab) (s : Rat) : Prop where
  n1 : 1 ≤ m.length
  n4 : m.length ≤ 4
  row : ∀ i (h : i < m.length), m[i].1 = false ∧ m[i].2.length = m.length
  ok : ∀ i j, i < m.length → j < m.length → fracOk (cel0 m i j) = true ∧ 0 ≤ (cel0 m i j).1
  rs : ∀ i, i < m.length → suR (fun j => vlR m i j) m.length = s
  cs : ∀ j, j < m.length → suR (fun i => vlR m i j) m.length = s
theorem cel0_at {m : Tab} {i j : Nat} (hi : i < m.length) (hj : j < m[i].2.length) : cel0 m i j = m[i].2[j] := by simp [cel0, List.getD_eq_getElem?_getD, hi, hj]
theorem val_pos {x : Int × Int} (h : fracOk x = true) : 0 < val x ↔ 0 < x.1 := by
  have b := fracOk_bd h
  have e : val x ≤ 0 ↔ x.1 ≤ 0 := by
    have h1 : val x ≤ 0 ↔ 0 ≤ -val x := by constructor <;> intro h <;> grind
    rw [h1]
    unfold val
    rw [Rat.neg_divInt, Rat.divInt_nonneg_iff_of_pos_right (by omega)]
    omega
  constructor
  · intro h1
    rcases Int.lt_or_le 0 x.1 with h2 | h2
    · exact h2
    · exact absurd (e.2 h2) (Rat.not_le.2 h1)
  · intro h1
    refine Rat.not_le.1 fun h2 => ?_
    have := e.1 h2
    omega
theorem subF_val {x y : Int × Int} (h : (subF x y).2 = true) : fracOk x = true ∧ fracOk y = true ∧ fracOk (subF x y).1 = true ∧ val (subF x y).1 = val x - val y := by
  unfold subF at h ⊢
  obtain ⟨h1, h2, h3, h4⟩ := addF_val h
  rw [fracOk_neg] at h2
  refine ⟨h1, h2, h3, ?_⟩
  rw [h4]
  have : val (-y.1, y.2) = -val y := by unfold val; rw [Rat.neg_divInt]
  rw [this]; grind
theorem val_sub {x y : Int × Int} (hx : fracOk x = true) (hy : fracOk y = true) : val x - val y = Rat.divInt (x.1 * y.2 - y.1 * x.2) (x.2 * y.2) := by
  have b1 := fracOk_bd hx
  have b2 := fracOk_bd hy
  unfold val
  rw [Rat.divInt_sub_divInt _ _ (by omega) (by omega)]
theorem lesF_val {x y : Int × Int} (hx : fracOk x = true) (hy : fracOk y = true) : (lesF x y = x ∨ lesF x y = y) ∧ val (lesF x y) ≤ val x ∧ val (lesF x y) ≤ val y := by
  have b1 := fracOk_bd hx
  have b2 := fracOk_bd hy
  have hp : 0 < y.2 * x.2 := Int.mul_pos (by omega) (by omega)
  have hs := val_sub hy hx
  have hc : cmpF y x = cmpI (y.1 * x.2) (x.1 * y.2) := by unfold cmpF; simp [hx, hy]; rfl
  have hn : cmpF y x < 0 ↔ y.1 * x.2 < x.1 * y.2 := by rw [hc]; unfold cmpI; split <;> (try split) <;> omega
  unfold lesF
  by_cases h : cmpF y x < 0
  · rw [if_pos h]
    refine ⟨.inr rfl, ?_, Rat.le_refl⟩
    have h1 := hn.1 h
    have h2 : val y - val x ≤ 0 := by
      rw [hs]
      have h3 : 0 ≤ -(Rat.divInt (y.1 * x.2 - x.1 * y.2) (y.2 * x.2)) := by
        rw [Rat.neg_divInt, Rat.divInt_nonneg_iff_of_pos_right hp]; omega
      grind
    grind
  · rw [if_neg h]
    refine ⟨.inl rfl, Rat.le_refl, ?_⟩
    have h1 : ¬ y.1 * x.2 < x.1 * y.2 := fun k => h (hn.2 k)
    have h2 : 0 ≤ val y - val x := by
      rw [hs, Rat.divInt_nonneg_iff_of_pos_right hp]; omega
    grind
theorem suR_dec {f : Nat → Rat} {c : Rat} {k : Nat} : ∀ {n : Nat}, suR (fun j => if j = k then f j - c else f j) n = if k < n then suR f n - c else suR f n
  | 0 => by simp [suR]
  | n + 1 => by
    rw [suR, suR_dec (n := n), suR]
    by_cases h1 : n = k
    · subst h1
      rw [if_neg (by omega), if_pos rfl, if_pos (by omega)]; grind
    · rw [if_neg h1]
      by_cases h2 : k < n
      · rw [if_pos h2, if_pos (by omega)]; grind
      · rw [if_neg h2, if_neg (by omega)]
theorem suR_ge {f : Nat → Rat} : ∀ {n : Nat}, (∀ i, i < n → 0 ≤ f i) → 0 ≤ suR f n ∧ ∀ k, k < n → f k ≤ suR f n
  | 0, _ => ⟨by rw [suR]; exact Rat.le_refl, fun k hk => by omega⟩
  | n + 1, h => by
    obtain ⟨h1, h2⟩ := suR_ge (f := f) (n := n) fun i hi => h i (by omega)
    have h3 := h n (by omega)
    rw [suR]
    refine ⟨by grind, fun k hk => ?_⟩
    by_cases e : k = n
    · subst e; grind
    · have := h2 k (by omega); grind
def subTab (m : Tab) (l : List Int) (w : Int × Int) (k : Nat) : Tab := (List.range m.length).map fun i => if i < k then (false, (m.getD i (true, [])).2.set (at0 l i).toNat (subF (cel0 m i (at0 l i).toNat) w).1) else m.getD i (true, [])
def subOk (m : Tab) (l : List Int) (w : Int × Int) : Bool := allR m.length fun i => (subF (cel0 m i (at0 l i).toNat) w).2
def stepT (m : Tab) (l : List Int) : Tab := subTab m l (lstF m l) m.length
theorem subTab_len {m : Tab} {l : List Int} {w : Int × Int} {k : Nat} : (subTab m l w k).length = m.length := by simp [subTab]
theorem subTab_zero {m : Tab} {l : List Int} {w : Int × Int} : subTab m l w 0 = m := by
  apply List.ext_getElem
  · simp [subTab]
  · intro i h1 h2
    simp [subTab, List.getD_eq_getElem?_getD, h2]
theorem subTab_get {m : Tab} {l : List Int} {w : Int × Int} {k i : Nat} (h : i < (subTab m l w k).length) : (subTab m l w k)[i] = if i < k then (false, (m.getD i (true, [])).2.set (at0 l i).toNat (subF (cel0 m i (at0 l i).toNat) w).1) else m.getD i (true, []) := by simp [subTab]
theorem subTab_old {m : Tab} {l : List Int} {w : Int × Int} {k : Nat} (h : k < m.length) (h' : k < (subTab m l w k).length) : (subTab m l w k)[k] = m[k] := by
  rw [subTab_get, if_neg (Nat.lt_irrefl _)]; simp [List.getD_eq_getElem?_getD, h]
theorem subTab_set {m : Tab} {l : List Int} {w : Int × Int} {k : Nat} (h : k < m.length) : ((subTab m l w k).map frow).set k (.sl false 2 ((m[k].2.set (at0 l k).toNat (subF (cel0 m k (at0 l k).toNat) w).1).map frac)) = (subTab m l w (k + 1)).map frow := by
  have : AV.sl false 2 ((m[k].2.set (at0 l k).toNat (subF (cel0 m k (at0 l k).toNat) w).1).map frac) = frow (false, m[k].2.set (at0 l k).toNat (subF (cel0 m k (at0 l k).toNat) w).1) := rfl
  rw [this, ← List.map_set]
  congr 1
  apply List.ext_getElem
  · simp [subTab]
  · intro i h1 h2
    rw [List.getElem_set, subTab_get, subTab_get]
    by_cases e : k = i
    · subst e
      rw [if_pos rfl, if_pos (by omega)]
      simp [List.getD_eq_getElem?_getD, h]
    · rw [if_neg e]
      by_cases h3 : i < k
      · rw [if_pos h3, if_pos (by omega)]
      · rw [if_neg h3, if_neg (by omega)]
section
variable {m : Tab} {s : Rat} {l : List Int}
theorem tab_cel (h : TabOk m s) {i j : Nat} (hi : i < m.length) (hj : j < m.length) : cel0 m i j = m[i].2[j]'(by rw [(h.row i hi).2]; exact hj) := cel0_at hi _
theorem rk_at (hr : rankB m.length l = true) {i : Nat} (hi : i < m.length) : ∃ x : Nat, at0 l i = x ∧ x < m.length := by
  obtain ⟨_, _, h3, h4, _⟩ := rank_facts hr
  have hil : i < l.length := by omega
  have := h4 i hil
  rw [at0_eq hil]
  exact ⟨l[i].toNat, by omega, by omega⟩
theorem lst_facts (h : TabOk m s) (hr : rankB m.length l = true) : ∀ {k : Nat}, k ≤ m.length → (∃ i, i < m.length ∧ lstTo m l k = cel0 m i (at0 l i).toNat) ∧ ∀ i, i < k → val (lstTo m l k) ≤ vlR m i (at0 l i).toNat
  | 0, _ => ⟨⟨0, h.n1, rfl⟩, fun i hi => by omega⟩
  | k + 1, hk => by
    obtain ⟨⟨i0, h1, h2⟩, h3⟩ := lst_facts h hr (k := k) (by omega)
    obtain ⟨x, e, hx⟩ := rk_at hr (i := i0) h1
    obtain ⟨y, e', hy⟩ := rk_at hr (i := k) (by omega)
    have o1 : fracOk (lstTo m l k) = true := by rw [h2, e]; exact (h.ok i0 x h1 hx).1
    have o2 : fracOk (cel0 m k (at0 l k).toNat) = true := by rw [e']; exact (h.ok k y (by omega) hy).1
    obtain ⟨g1, g2, g3⟩ := lesF_val o1 o2
    refine ⟨?_, fun i hi => ?_⟩
    · rw [lstTo]
      rcases g1 with g | g
      · exact ⟨i0, h1, g.trans h2⟩
      · exact ⟨k, by omega, g⟩
    · rw [lstTo]
      by_cases e2 : i = k
      · subst e2; exact g3
      · exact Rat.le_trans g2 (h3 i (by omega))
theorem lst_ok (h : TabOk m s) (hr : rankB m.length l = true) : fracOk (lstF m l) = true ∧ 0 ≤ (lstF m l).1 ∧ ∃ i, i < m.length ∧ lstF m l = cel0 m i (at0 l i).toNat := by
  obtain ⟨⟨i, h1, h2⟩, _⟩ := lst_facts h hr (Nat.le_refl _)
  obtain ⟨x, e, hx⟩ := rk_at hr h1
  have := h.ok i x h1 hx
  refine ⟨?_, ?_, i, h1, h2⟩
  · unfold lstF; rw [h2, e]; exact this.1
  · unfold lstF; rw [h2, e]; exact this.2
theorem lst_pos (h : TabOk m s) (hr : rankB m.length l = true) : decide (0 < (lstF m l).1) = posL m l := by
  obtain ⟨o1, _, i, h1, h2⟩ := lst_ok h hr
  rw [Bool.eq_iff_iff, decide_eq_true_eq]
  constructor
  · intro hp
    refine allR_yes fun j hj => ?_
    obtain ⟨x, e, hx⟩ := rk_at hr hj
    have hle := (lst_facts h hr (Nat.le_refl _)).2 j hj
    have hok := (h.ok j x hj hx).1
    rw [e] at hle ⊢
    have : 0 < vlR m j x := by
      have hv := (val_pos o1).2 hp
      unfold lstF at hv
      simp only [Int.toNat_natCast] at hle
      grind
    simp only [Int.toNat_natCast]
    exact decide_eq_true ((val_pos hok).1 this)
  · intro hp
    have := allR_at hp h1
    rw [← h2] at this
    simpa using this
theorem sub_cel (h : TabOk m s) (hr : rankB m.length l = true) {w : Int × Int} {i j : Nat} (hi : i < m.length) (hj : j < m.length) :
    cel0 (subTab m l w m.length) i j = if j = (at0 l i).toNat then (subF (cel0 m i (at0 l i).toNat) w).1 else cel0 m i j := by
  obtain ⟨x, e, hx⟩ := rk_at hr hi
  have hil : i < (subTab m l w m.length).length := by rw [subTab_len]; exact hi
  have hrl := (h.row i hi).2
  have hg : m.getD i (true, []) = m[i] := by simp [List.getD_eq_getElem?_getD, hi]
  have hrow : (subTab m l w m.length)[i] = (false, m[i].2.set x (subF (cel0 m i x) w).1) := by
    rw [subTab_get, if_pos hi, hg, e]; rfl
  rw [cel0_at hil (by rw [hrow]; simp [hrl, hj])]
  have : ∀ (r : Bool × List (Int × Int)) (hr1 : r = (false, m[i].2.set x (subF (cel0 m i x) w).1)) (hj' : j < r.2.length), r.2[j] = if j = x then (subF (cel0 m i x) w).1 else m[i].2[j]'(by rw [hrl]; exact hj) := by
    rintro r rfl hj'
    rw [List.getElem_set]
    by_cases e2 : x = j
    · rw [if_pos e2, if_pos e2.symm]
    · rw [if_neg e2, if_neg fun k => e2 k.symm]
  rw [this _ hrow, e, tab_cel h hi hj]
  rfl
theorem step_vl (h : TabOk m s) (hr : rankB m.length l = true) (hok : subOk m l (lstF m l) = true) {i j : Nat} (hi : i < m.length) (hj : j < m.length) :
    (fracOk (cel0 (stepT m l) i j) = true ∧ 0 ≤ (cel0 (stepT m l) i j).1) ∧ vlR (stepT m l) i j = if j = (at0 l i).toNat then vlR m i j - val (lstF m l) else vlR m i j := by
  have hc := sub_cel h hr (w := lstF m l) hi hj
  unfold vlR stepT
  rw [hc]
  by_cases e : j = (at0 l i).toNat
  · rw [if_pos e, if_pos e]
    obtain ⟨g1, g2, g3, g4⟩ := subF_val (allR_at hok hi)
    have hle := (lst_facts h hr (Nat.le_refl _)).2 i hi
    rw [e]
    refine ⟨⟨g3, ?_⟩, g4⟩
    have : 0 ≤ val (subF (cel0 m i (at0 l i).toNat) (lstF m l)).1 := by
      rw [g4]; unfold lstF vlR at *; grind
    have b := fracOk_bd g3
    unfold val at this
    rwa [Rat.divInt_nonneg_iff_of_pos_right (by omega)] at this
  · rw [if_neg e, if_neg e]
    exact ⟨h.ok i j hi hj, rfl⟩
theorem stepT_len : (stepT m l).length = m.length := subTab_len
theorem stepT_get {i : Nat} (hi : i < m.length) (h : i < (stepT m l).length) : (stepT m l)[i] = (false, m[i].2.set (at0 l i).toNat (subF (cel0 m i (at0 l i).toNat) (lstF m l)).1) := by
  have := subTab_get (m := m) (l := l) (w := lstF m l) (k := m.length) (i := i) h
  rw [if_pos hi, show m.getD i (true, []) = m[i] by simp [List.getD_eq_getElem?_getD, hi]] at this
  exact this
theorem step_ok (h : TabOk m s) (hr : rankB m.length l = true) (hok : subOk m l (lstF m l) = true) : TabOk (stepT m l) (s - val (lstF m l)) := by
  refine ⟨by rw [stepT_len]; exact h.n1, by rw [stepT_len]; exact h.n4, fun i hi => ?_, fun i j hi hj => ?_, fun i hi => ?_, fun j hj => ?_⟩
  · have hi' : i < m.length := by rw [stepT_len] at hi; exact hi
    rw [stepT_get hi' hi]
    simp only [List.length_set, (h.row i hi').2, stepT_len, and_self]
  · rw [stepT_len] at hi hj
    exact (step_vl h hr hok hi hj).1
  · rw [stepT_len] at hi ⊢
    obtain ⟨x, e, hx⟩ := rk_at hr hi
    rw [suR_congr (g := fun j => if j = x then vlR m i j - val (lstF m l) else vlR m i j) fun j hj => by
      rw [(step_vl h hr hok hi hj).2, e]; rfl]
    rw [suR_dec, if_pos hx, h.rs i hi]
  · rw [stepT_len] at hj ⊢
    obtain ⟨_, _, h3, h4, h5⟩ := rank_facts hr
    obtain ⟨k, hk, e⟩ := rank_all hr (i := j) (by omega)
    have hkm : k < m.length := by omega
    rw [suR_congr (g := fun i => if i = k then vlR m i j - val (lstF m l) else vlR m i j) fun i hi => by
      rw [(step_vl h hr hok hi hj).2]
      have hil : i < l.length := by omega
      by_cases e2 : i = k
      · subst e2
        rw [at0_eq hil, e]; simp
      · rw [if_neg e2, if_neg]
        rw [at0_eq hil]
        intro e3
        have hb := h4 i hil
        have : l[i] = l[k] := by rw [e]; omega
        rcases Nat.lt_or_gt_of_ne e2 with hlt | hlt
        · exact (List.pairwise_iff_getElem.1 h5) i k hil hk hlt this
        · exact (List.pairwise_iff_getElem.1 h5) k i hk hil hlt this.symm]
    rw [suR_dec, if_pos hkm, h.cs j hj]
end
def cntN (m : Tab) : Nat → Nat
  | 0 => 0
  | k + 1 => cntN m k + (m.getD k (true, [])).2.countP fun f => decide (0 < f.1)
def cntP (m : Tab) : Nat := cntN m m.length
theorem cntN_le {m m' : Tab} : ∀ {n : Nat}, (∀ i, i < n → (m'.getD i (true, [])).2.countP (fun f => decide (0 < f.1)) ≤ (m.getD i (true, [])).2.countP fun f => decide (0 < f.1)) → cntN m' n ≤ cntN m n ∧ ∀ k, k < n → (m'.getD k (true, [])).2.countP (fun f => decide (0 < f.1)) < (m.getD k (true, [])).2.countP (fun f => decide (0 < f.1)) → cntN m' n < cntN m n
  | 0, _ => ⟨Nat.le_refl _, fun k hk => by omega⟩
  | n + 1, h => by
    obtain ⟨h1, h2⟩ := cntN_le (m := m) (m' := m') (n := n) fun i hi => h i (by omega)
    have h3 := h n (by omega)
    simp only [cntN]
    refine ⟨by omega, fun k hk hl => ?_⟩
    by_cases e : k = n
    · subst e; omega
    · have := h2 k (by omega) hl; omega
theorem cntN_bd {m : Tab} (h : ∀ i (hi : i < m.length), m[i].2.length ≤ 4) : ∀ {n : Nat}, n ≤ m.length → cntN m n ≤ 4 * n
  | 0, _ => by simp [cntN]
  | n + 1, hn => by
    have ih := cntN_bd h (n := n) (by omega)
    have hg : m.getD n (true, []) = m[n] := by simp [List.getD_eq_getElem?_getD, show n < m.length from hn]
    have := List.countP_le_length (p := fun f : Int × Int => decide (0 < f.1)) (l := m[n].2)
    have := h n (by omega)
    rw [cntN, hg]; omega
theorem cnt_step {m : Tab} {s : Rat} {l : List Int} (h : TabOk m s) (hr : rankB m.length l = true) (hp : posL m l = true) (hok : subOk m l (lstF m l) = true) : cntP (stepT m l) < cntP m := by
  unfold cntP
  rw [stepT_len]
  have hrow : ∀ i, i < m.length → ∃ x : Nat, at0 l i = x ∧ ∃ hx : x < (m.getD i (true, [])).2.length, ((stepT m l).getD i (true, [])).2 = (m.getD i (true, [])).2.set x (subF (cel0 m i x) (lstF m l)).1 ∧ 0 < ((m.getD i (true, [])).2[x]).1 := fun i hi => by
    obtain ⟨x, e, hx⟩ := rk_at hr hi
    have hg : m.getD i (true, []) = m[i] := by simp [List.getD_eq_getElem?_getD, hi]
    have hi' : i < (stepT m l).length := by rw [stepT_len]; exact hi
    have hg' : (stepT m l).getD i (true, []) = (stepT m l)[i] := by simp [List.getD_eq_getElem?_getD, hi']
    have hxl : x < m[i].2.length := by rw [(h.row i hi).2]; exact hx
    have hpi := allR_at hp hi
    rw [e] at hpi
    simp only [Int.toNat_natCast, decide_eq_true_eq] at hpi
    rw [cel0_at hi hxl] at hpi
    refine ⟨x, e, by rw [hg]; exact hxl, ?_, ?_⟩
    · rw [hg', hg, stepT_get hi hi', e]; rfl
    · simp only [hg]; exact hpi
  have hcnt : ∀ i (hi : i < m.length) (x : Nat) (hx : x < (m.getD i (true, [])).2.length), ((stepT m l).getD i (true, [])).2 = (m.getD i (true, [])).2.set x (subF (cel0 m i x) (lstF m l)).1 → 0 < ((m.getD i (true, [])).2[x]).1 →
      1 ≤ (m.getD i (true, [])).2.countP (fun f => decide (0 < f.1)) ∧ ((stepT m l).getD i (true, [])).2.countP (fun f => decide (0 < f.1)) = (m.getD i (true, [])).2.countP (fun f => decide (0 < f.1)) - 1 + if 0 < (subF (cel0 m i x) (lstF m l)).1.1 then 1 else 0 := fun i hi x hx e hpx => by
    refine ⟨List.countP_pos_iff.2 ⟨_, List.getElem_mem hx, decide_eq_true hpx⟩, ?_⟩
    rw [e, List.countP_set hx, if_pos (decide_eq_true hpx)]
    simp only [decide_eq_true_eq]
  refine (cntN_le fun i hi => ?_).2 ?_ ?_ ?_
  · obtain ⟨x, _, hx, e, hpx⟩ := hrow i hi
    obtain ⟨c1, c2⟩ := hcnt i hi x hx e hpx
    rw [c2]; split <;> omega
  · exact Classical.choose (lst_ok h hr).2.2
  · exact (Classical.choose_spec (lst_ok h hr).2.2).1
  · obtain ⟨hi, e0⟩ := Classical.choose_spec (lst_ok h hr).2.2
    generalize Classical.choose (lst_ok h hr).2.2 = i at *
    obtain ⟨x, e1, hx, e, hpx⟩ := hrow i hi
    obtain ⟨c1, c2⟩ := hcnt i hi x hx e hpx
    rw [e1] at e0
    simp only [Int.toNat_natCast] at e0
    have hs := allR_at hok hi
    rw [e1] at hs
    simp only [Int.toNat_natCast] at hs
    obtain ⟨g1, g2, g3, g4⟩ := subF_val hs
    have hz : ¬ 0 < (subF (cel0 m i x) (lstF m l)).1.1 := fun hc => by
      have := (val_pos g3).2 hc
      rw [g4, e0] at this
      grind
    rw [c2, if_neg hz]; omega
def takB (m : Tab) : Bool := !((m.flatMap (·.2)).any fun f => decide (0 < f.1))
def exO (m : Tab) : Option (List Int) := ((allRk m.length).find? fun o => posL m o.2).map (·.2)
theorem allRk_rk {n : Nat} (h1 : 1 ≤ n) (h4 : n ≤ 4) : ∀ o ∈ allRk n, o.1 = false ∧ rankB n o.2 = true := by
  have h : n = 1 ∨ n = 2 ∨ n = 3 ∨ n = 4 := by omega
  rcases h with rfl | rfl | rfl | rfl <;> decide +kernel
theorem exO_some {m : Tab} {s : Rat} {l : List Int} (h : TabOk m s) (he : exO m = some l) : rankB m.length l = true ∧ posL m l = true := by
  unfold exO at he
  rw [Option.map_eq_some_iff] at he
  obtain ⟨o, h1, rfl⟩ := he
  exact ⟨(allRk_rk h.n1 h.n4 o (List.mem_of_find?_eq_some h1)).2, by simpa using List.find?_some h1⟩
theorem tak_ex {m : Tab} {s : Rat} (h : TabOk m s) : takB m = (exO m).isNone := by
  cases ht : takB m with
  | true =>
    cases he : exO m with
    | none => rfl
    | some l =>
      obtain ⟨hr, hp⟩ := exO_some h he
      have hp0 := allR_at hp (show 0 < m.length from h.n1)
      obtain ⟨x, e, hx⟩ := rk_at hr (show 0 < m.length from h.n1)
      rw [e] at hp0
      simp only [Int.toNat_natCast, decide_eq_true_eq] at hp0
      rw [tab_cel h h.n1 hx] at hp0
      simp only [takB, Bool.not_eq_true', List.any_eq_false, decide_eq_true_eq] at ht
      exact absurd hp0 (ht _ (List.mem_flatMap.2 ⟨m[0]'h.n1, List.getElem_mem _, List.getElem_mem _⟩))
  | false =>
    have hx : ∃ i j, i < m.length ∧ j < m.length ∧ 0 < (cel0 m i j).1 := by
      simp only [takB, Bool.not_eq_false', List.any_eq_true, decide_eq_true_eq] at ht
      obtain ⟨f, hf, hp⟩ := ht
      obtain ⟨r, hr, hfr⟩ := List.mem_flatMap.1 hf
      obtain ⟨i, hi, rfl⟩ := List.getElem_of_mem hr
      obtain ⟨j, hj, rfl⟩ := List.getElem_of_mem hfr
      exact ⟨i, j, hi, by rw [(h.row i hi).2] at hj; exact hj, by rw [cel0_at hi hj]; exact hp⟩
    obtain ⟨i, j, hi, hj, hp⟩ := hx
    have hnn : ∀ i j, i < m.length → j < m.length → 0 ≤ vlR m i j := fun i j hi hj => val_nn (h.ok i j hi hj).1 (h.ok i j hi hj).2
    have hs : 0 < s := by
      have h1 := (suR_ge (f := fun j => vlR m i j) (n := m.length) fun j hj => hnn i j hi hj).2 j hj
      rw [h.rs i hi] at h1
      have h2 := (val_pos (h.ok i j hi hj).1).2 hp
      unfold vlR at h1
      grind
    obtain ⟨o, ho, hpos⟩ := exch_some h.n1 h.n4 hs hnn h.rs h.cs
    have hpl : posL m o.2 = true := allR_yes fun i hi => by
      obtain ⟨x, e, hx, hv⟩ := hpos i hi
      rw [e]
      simp only [Int.toNat_natCast]
      exact decide_eq_true ((val_pos (h.ok i x hi hx).1).1 hv)
    cases he : exO m with
    | some l => rfl
    | none =>
      unfold exO at he
      rw [Option.map_eq_none_iff, List.find?_eq_none] at he
      exact absurd hpl (he o ho)
theorem cnt_zero {m : Tab} {s : Rat} (h : TabOk m s) (hc : cntP m = 0) : exO m = none := by
  have key : ∀ n, n ≤ m.length → cntN m n = 0 → ∀ i, i < n → (m.getD i (true, [])).2.countP (fun f => decide (0 < f.1)) = 0 := by
    intro n
    induction n with
    | zero => intro _ _ i hi; omega
    | succ n ih =>
      intro hn hz i hi
      rw [cntN] at hz
      by_cases e : i = n
      · subst e; omega
      · exact ih (by omega) (by omega) i (by omega)
  have hz := key m.length (Nat.le_refl _) hc
  have ht : takB m = true := by
    simp only [takB, Bool.not_eq_true', List.any_eq_false, decide_eq_true_eq]
    intro f hf
    obtain ⟨r, hr, hfr⟩ := List.mem_flatMap.1 hf
    obtain ⟨i, hi, rfl⟩ := List.getElem_of_mem hr
    have h0 := hz i hi
    rw [show m.getD i (true, []) = m[i] by simp [List.getD_eq_getElem?_getD, hi], List.countP_eq_zero] at h0
    simpa using h0 f hfr
  rw [tak_ex h] at ht
  simpa using ht
def splR : Nat → Tab → List Tk → List Tk × Bool
  | 0, _, out => (out, true)
  | f + 1, m, out => match exO m with
    | none => (out, true)
    | some l => if subOk m l (lstF m l) = true then splR f (stepT m l) (out ++ [(lstF m l, false, l)]) else ([], false)
structure SplP (n : Nat) (R : List Tk × Bool) (m : Tab) (out : List Tk) : Prop where
  ln : m.length = n
  tab : ∃ s, TabOk m s
  few : out.length + cntP m ≤ 16
  fu : ∃ f, cntP m ≤ f ∧ splR f m out = R
  lsn : ∀ t ∈ out, t.2.1 = false ∧ t.2.2.length = n
section
variable {n : Nat} {R : List Tk × Bool} {m : Tab} {out : List Tk} {l : List Int}
theorem spl_done (h : SplP n R m out) (he : exO m = none) : R = (out, true) := by
  obtain ⟨f, _, hf⟩ := h.fu
  rw [← hf]
  cases f with
  | zero => rfl
  | succ f => rw [splR, he]
theorem spl_pos (h : SplP n R m out) (he : exO m = some l) : 0 < cntP m := by
  rcases Nat.eq_zero_or_pos (cntP m) with h0 | h0
  · obtain ⟨s, hs⟩ := h.tab
    rw [cnt_zero hs h0] at he; simp at he
  · exact h0
theorem spl_fail (h : SplP n R m out) (he : exO m = some l) (hok : subOk m l (lstF m l) = false) : R = ([], false) := by
  have h0 := spl_pos h he
  obtain ⟨f, hf1, hf⟩ := h.fu
  rw [← hf]
  cases f with
  | zero => omega
  | succ f => rw [splR, he]; simp [hok]
theorem spl_next (h : SplP n R m out) (he : exO m = some l) (hok : subOk m l (lstF m l) = true) : SplP n R (stepT m l) (out ++ [(lstF m l, false, l)]) ∧ cntP (stepT m l) < cntP m := by
  have h0 := spl_pos h he
  obtain ⟨s, hs⟩ := h.tab
  obtain ⟨hr, hp⟩ := exO_some hs he
  have hc := cnt_step hs hr hp hok
  have hln := h.ln
  have hfew := h.few
  refine ⟨⟨by rw [stepT_len]; exact h.ln, ⟨_, step_ok hs hr hok⟩, by simp; omega, ?_, fun t ht => ?_⟩, hc⟩
  · obtain ⟨f, hf1, hf⟩ := h.fu
    cases f with
    | zero => omega
    | succ f =>
      refine ⟨f, by omega, ?_⟩
      rw [splR, he] at hf
      simpa [hok] using hf
  · rcases List.mem_append.1 ht with ht | ht
    · exact h.lsn t ht
    · simp only [List.mem_singleton] at ht
      subst ht
      exact ⟨rfl, by have := (rank_facts hr).2.2.1; show l.length = n; omega⟩
theorem spl_rank (h : SplP n R m out) (he : exO m = some l) : rankB n l = true ∧ posL m l = true := by
  obtain ⟨s, hs⟩ := h.tab
  have := exO_some hs he
  rw [h.ln] at this; exact this
end
end Go.Proofs.YtkfmhpgnhkdebaaGreatDoor.Ax
