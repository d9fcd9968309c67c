/-
  Contracts: IsDigits (the reference's). No condition.
-/
import Derived.Test.YtblnpjppckfmfaaDoorCG74
namespace Go.Proofs.YtblnpjppckfmfaaDoor.Ax
open Go Go.RowKit
set_option linter.unusedSimpArgs false

/-- A string's byte, as a number. -/
def by1 (s : ByteArray) (i : Nat) : Nat := (s[i]?.getD 0).toNat
theorem by1_at {s : ByteArray} {i : Nat} (h : i < s.size) : s[i]? = some s[i] ∧ by1 s i = s[i].toNat := by
  have e : s[i]? = some s[i] := getElem?_pos s i h
  exact ⟨e, by unfold by1; rw [e]; rfl⟩
def digAt (s : ByteArray) (i : Nat) : Bool := decide (48 ≤ by1 s i) && decide (by1 s i ≤ 57)
def digS (s : ByteArray) : Bool := allR s.size (digAt s) && decide (0 < s.size)
theorem str_inj {a b : ByteArray} (h : [str a] = [str b]) : a = b := by simpa [str] using h
noncomputable def mDig : List AV → Option AV := mk (fun s => s.size ≤ 4611686018427387904) (fun (s : ByteArray) => [str s]) (fun s => bool (digS s))
theorem mDig_at (s : ByteArray) (h : s.size ≤ 4611686018427387904) : mDig [.v (.string s)] = some (.v (.bool (digS s))) :=
  mk_eq (enc := fun (s : ByteArray) => [str s]) (x := s) (fun a b h => by rw [str_inj h]) h

set_option maxHeartbeats 1000000 in
theorem specDig_ok : FnOk Tryd.prog 34 mDig := by
  refine mk_ok fun s hs => ?_
  have hG : FnsOk Tryd.prog [] := .nil
  refine callOk_awp (ctx_ok eqOk hG) mixed (live := [true, false, true, true, false, false, false, true, false, false, false, false, false, false, false, false, false, false, false, true]) (dt := []) Tryd.func34 rfl (by kernel_rfl) (by kernel_rfl) fun w0 hlens => ?_
  generalize hr : digS s = r
  clear hlens
  simp [Tryd.f34, List.range, List.range.loop, ints, intss, int, bool, row, frac, fracs, ← List.map_take, ← List.map_drop, str]
  refine awp_range (live := [true, false, true, true, false, false, false, true, false, false, false, false, false, false, false, false, false, false, false, true]) (ctx_ok eqOk hG) mixed [true, false, false, true] (s.size) (fun k => upto (digAt s) k) (fun k => ⟨[str s, .junk, .junk, int k, .junk, .junk, .junk, .junk, .junk, .junk, .junk, .junk, .junk, .junk, .junk, .junk, .junk, .junk, .junk, .junk, .junk, .junk, .junk], []⟩) ?_ (by simp [sub, slotsLe, clean, keep, refsL, refs, once, place, renL, ren, List.replicate, int, bool, str]) ?_ ?_ ?_
  · omega
  · exact upto_zero
  · intro k hk hp hwk
    obtain ⟨e1, e2⟩ := by1_at hk
    have hf : digAt s k = false → r = false := fun hf => by rw [← hr]; unfold digS; rw [allR_no hk hf]; rfl
    have ht := upto_succ hp
    have hd : digAt s k = (decide (48 ≤ s[k].toNat) && decide (s[k].toNat ≤ 57)) := by unfold digAt; rw [e2]
    by_cases h1 : s[k].toNat < 48
    · have hr' : r = false := hf (by rw [hd]; simp; omega)
      subst hr'
      have i1 : (s[k].toNat : Int) < 48 := by omega
      have i2 : ¬ 48 ≤ (s[k].toNat : Int) := by omega
      simp [List.range, List.range.loop, ints, intss, int, bool, row, frac, fracs, ← List.map_take, ← List.map_drop, str, hk, hwk, e1, i1, i2]
    · have i1 : ¬ (s[k].toNat : Int) < 48 := by omega
      have i2 : 48 ≤ (s[k].toNat : Int) := by omega
      by_cases h2 : 57 < s[k].toNat
      · have hr' : r = false := hf (by rw [hd]; simp; omega)
        subst hr'
        have i3 : 57 < (s[k].toNat : Int) := by omega
        have i4 : ¬ (s[k].toNat : Int) ≤ 57 := by omega
        simp [List.range, List.range.loop, ints, intss, int, bool, row, frac, fracs, ← List.map_take, ← List.map_drop, str, hk, hwk, e1, i1, i2, i3, i4]
      · have ht' := ht (by rw [hd]; simp; omega)
        have i3 : ¬ 57 < (s[k].toNat : Int) := by omega
        have i4 : (s[k].toNat : Int) ≤ 57 := by omega
        simp [List.range, List.range.loop, ints, intss, int, bool, row, frac, fracs, ← List.map_take, ← List.map_drop, str, hk, hwk, e1, i1, i2, i3, i4, ht']
  · intro hp
    have := allR_yes hp
    have hr' : r = decide (0 < s.size) := by rw [← hr]; unfold digS; rw [this]; rfl
    subst hr'
    simp [List.range, List.range.loop, ints, intss, int, bool, row, frac, fracs, ← List.map_take, ← List.map_drop, str]

end Go.Proofs.YtblnpjppckfmfaaDoor.Ax
