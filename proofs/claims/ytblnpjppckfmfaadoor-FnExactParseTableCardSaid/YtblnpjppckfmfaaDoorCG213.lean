/-
  Contracts: SplitAny (the reference's, by one byte). No condition.
-/
import Derived.Test.YtblnpjppckfmfaaDoorCG212
namespace Go.Proofs.YtblnpjppckfmfaaDoor.Ax
open Go Go.RowKit
set_option linter.unusedSimpArgs false

/-- Where the word begins that the byte of a number lies in; the words ahead of it. -/
def spF (s : ByteArray) (c : UInt8) : Nat → Nat
  | 0 => 0
  | i + 1 => if by1 s i = c.toNat then i + 1 else spF s c i
def spL (s : ByteArray) (c : UInt8) : Nat → List ByteArray
  | 0 => []
  | i + 1 => if by1 s i = c.toNat then spL s c i ++ [s.extract (spF s c i) i] else spL s c i
theorem spF_le {s : ByteArray} {c : UInt8} : ∀ {i : Nat}, spF s c i ≤ i
  | 0 => Nat.le_refl _
  | i + 1 => by
    have := spF_le (s := s) (c := c) (i := i)
    unfold spF
    split <;> omega
theorem spL_len {s : ByteArray} {c : UInt8} : ∀ {i : Nat}, (spL s c i).length ≤ i
  | 0 => Nat.le_refl _
  | i + 1 => by
    have := spL_len (s := s) (c := c) (i := i)
    unfold spL
    split
    · rw [List.length_append, List.length_singleton]; omega
    · omega
def splitS (s : ByteArray) (c : UInt8) : List ByteArray := spL s c s.size ++ [s.extract (spF s c s.size) s.size]
theorem ex_size {s : ByteArray} {a b : Nat} : (s.extract a b).size ≤ s.size := by
  rw [ByteArray.size_extract]; omega
theorem spL_size {s : ByteArray} {c : UInt8} : ∀ {i : Nat}, ∀ x ∈ spL s c i, x.size ≤ s.size
  | 0, x, hx => by simp [spL] at hx
  | i + 1, x, hx => by
    have ih := spL_size (s := s) (c := c) (i := i)
    unfold spL at hx
    split at hx
    · rw [List.mem_append, List.mem_singleton] at hx
      rcases hx with hx | rfl
      · exact ih x hx
      · exact ex_size
    · exact ih x hx
theorem splitS_facts {s : ByteArray} {c : UInt8} : (splitS s c).length ≤ s.size + 1 ∧ ∀ x ∈ splitS s c, x.size ≤ s.size := by
  unfold splitS
  refine ⟨?_, fun x hx => ?_⟩
  · have := spL_len (s := s) (c := c) (i := s.size)
    rw [List.length_append, List.length_singleton]; omega
  · rw [List.mem_append, List.mem_singleton] at hx
    rcases hx with hx | rfl
    · exact spL_size x hx
    · exact ex_size

noncomputable def mSpl : List AV → Option AV := mk (fun p => p.1.size ≤ 2097152) (fun (p : ByteArray × UInt8) => [str p.1, str ⟨#[p.2]⟩]) (fun p => .sl false 1 ((splitS p.1 p.2).map str))
theorem mSpl_at (s : ByteArray) (c : UInt8) (h : s.size ≤ 2097152) : mSpl [.v (.string s), .v (.string ⟨#[c]⟩)] = some (.sl false 1 ((splitS s c).map str)) :=
  mk_eq (enc := fun (p : ByteArray × UInt8) => [str p.1, str ⟨#[p.2]⟩]) (x := (s, c)) (by
    rintro ⟨a, b⟩ ⟨a', b'⟩ h
    simp [str] at h
    rw [h.1, h.2]) h

set_option maxHeartbeats 2000000 in
theorem specSpl_ok : FnOk Tryd.prog 20 mSpl := by
  refine mk_ok fun ⟨s, c⟩ hs => ?_
  simp only at hs
  have hG : FnsOk Tryd.prog [] := .nil
  refine callOk_awp (ctx_ok eqOk hG) mixed (live := [true, true, false, false, true, true, true, true, true, false, false, false, false, true, false, false, false, false, false, true, false, false, false, false, false, false, false, false, true]) (dt := [(9, ⟨[], [], []⟩)]) Tryd.func20 rfl (by kernel_rfl) (by kernel_rfl) fun w0 hlens => ?_
  clear hlens
  have zF : spF s c 0 = 0 := rfl
  have zL : spL s c 0 = [] := rfl
  have c0 : (⟨#[c]⟩ : ByteArray)[0]? = some c := rfl
  have c1 : (⟨#[c]⟩ : ByteArray).size = 1 := rfl
  have c2 : ∀ h, (⟨#[c]⟩ : ByteArray)[0]'h = c := fun _ => rfl
  have w1 : IntKind.i64.wrap 1 = 1 := by decide
  simp [Tryd.f20, List.range, List.range.loop, ints, intss, int, bool, row, frac, fracs, ← List.map_take, ← List.map_drop, str]
  refine awp_range (live := [true, true, false, false, true, true, true, true, true, false, false, false, false, true, false, false, false, false, false, true, false, false, false, false, false, false, false, false, true]) (ctx_ok eqOk hG) mixed [true, true, false, false, false, true, true, true] (s.size) (fun i => True) (fun i => ⟨[str s, str ⟨#[c]⟩, .junk, .junk, .junk, .ref 0 [] 0 (spL s c i).length, int (spF s c i), int i, .junk, .junk, .junk, .junk, .junk, .junk, .junk, .junk, .junk, .junk, .junk, .junk, .junk, .junk, .junk, .junk, .junk, .junk, .junk, .junk, .junk, .junk, .junk, .junk, .junk, .junk, .junk, .junk, .junk, .junk, .junk, .junk, .junk, .junk, .junk, .junk], [⟨true, .sl false 1 ((spL s c i).map str)⟩]⟩) ?_ (by simp [sub, slotsLe, clean, keep, refsL, refs, once, place, renL, ren, List.replicate, int, bool, str, zF, zL]) ?_ ?_ ?_
  · omega
  · trivial
  · intro i hi _ hwi
    obtain ⟨e1, e2⟩ := by1_at hi
    have lF := spF_le (s := s) (c := c) (i := i)
    have lL := spL_len (s := s) (c := c) (i := i)
    have sF : spF s c (i + 1) = if by1 s i = c.toNat then i + 1 else spF s c i := rfl
    have sL : spL s c (i + 1) = if by1 s i = c.toNat then spL s c i ++ [s.extract (spF s c i) i] else spL s c i := rfl
    rw [e2] at sF sL
    have hb : (spL s c i).length + 1 ≤ 4611686018427387904 ∧ ((spL s c i).length + 1) * 16 ≤ 140737488355328 := by omega
    have hii : i ≤ s.size := by omega
    by_cases hc : s[i].toNat = c.toNat
    · rw [if_pos hc] at sF sL
      have hci : (s[i].toNat : Int) = (c.toNat : Int) := by omega
      rw [sF, sL]
      generalize spL s c i = W at *
      generalize spF s c i = f at *
      simp [List.range, List.range.loop, ints, intss, int, bool, row, frac, fracs, ← List.map_take, ← List.map_drop, str, hi]
      refine awp_range (live := [true, true, false, false, true, true, true, true, true, false, false, false, false, true, false, false, false, false, false, true, false, false, false, false, false, false, false, false, true]) (ctx_ok eqOk hG) mixed [true, true, false, false, false, true, true, true, true] (1) (fun k => k = 0) (fun k => ⟨[str s, str ⟨#[c]⟩, .junk, .junk, .junk, .ref 0 [] 0 W.length, int f, int i, int k, .junk, .junk, .junk, .junk, .junk, .junk, .junk, .junk, .junk, .junk, .junk, .junk, .junk, .junk, .junk, .junk, .junk, .junk, .junk, .junk, .junk, .junk, .junk, .junk, .junk, .junk, .junk, .junk, .junk, .junk, .junk, .junk, .junk, .junk, .junk], [⟨true, .sl false 1 (W.map str)⟩]⟩) ?_ (by simp [sub, slotsLe, clean, keep, refsL, refs, once, place, renL, ren, List.replicate, int, bool, str]) ?_ ?_ ?_
      · omega
      · rfl
      · intro k hk hk0 hwk
        subst hk0
        simp [List.range, List.range.loop, ints, intss, int, bool, row, frac, fracs, ← List.map_take, ← List.map_drop, str, hi, hii, hwi, c0, c1, c2, w1, e1, hci, lF, hb]
      · intro h; omega
    · rw [if_neg hc] at sF sL
      have hci : ¬ (s[i].toNat : Int) = (c.toNat : Int) := by omega
      have hcb : ((s[i].toNat : Int) == (c.toNat : Int)) = false := by simp; omega
      rw [sF, sL]
      generalize spL s c i = W at *
      generalize spF s c i = f at *
      simp [List.range, List.range.loop, ints, intss, int, bool, row, frac, fracs, ← List.map_take, ← List.map_drop, str, hi]
      refine awp_range (live := [true, true, false, false, true, true, true, true, true, false, false, false, false, true, false, false, false, false, false, true, false, false, false, false, false, false, false, false, true]) (ctx_ok eqOk hG) mixed [true, true, false, false, false, true, true, true, true] (1) (fun k => True) (fun k => ⟨[str s, str ⟨#[c]⟩, .junk, .junk, .junk, .ref 0 [] 0 W.length, int f, int i, int k, .junk, .junk, .junk, .junk, .junk, .junk, .junk, .junk, .junk, .junk, .junk, .junk, .junk, .junk, .junk, .junk, .junk, .junk, .junk, .junk, .junk, .junk, .junk, .junk, .junk, .junk, .junk, .junk, .junk, .junk, .junk, .junk, .junk, .junk, .junk], [⟨true, .sl false 1 (W.map str)⟩]⟩) ?_ (by simp [sub, slotsLe, clean, keep, refsL, refs, once, place, renL, ren, List.replicate, int, bool, str]) ?_ ?_ ?_
      · omega
      · trivial
      · intro k hk _ hwk
        obtain rfl : k = 0 := by omega
        simp [List.range, List.range.loop, ints, intss, int, bool, row, frac, fracs, ← List.map_take, ← List.map_drop, str, hi, hii, hwi, hwk, c0, c1, c2, w1, e1, hci, hcb, lF, hb]
      · intro _
        simp [List.range, List.range.loop, ints, intss, int, bool, row, frac, fracs, ← List.map_take, ← List.map_drop, str, hi, hii, hwi, c0, c1]
  · intro _
    have lF := spF_le (s := s) (c := c) (i := s.size)
    have lL := spL_len (s := s) (c := c) (i := s.size)
    have hb : (spL s c s.size).length + 1 ≤ 4611686018427387904 ∧ ((spL s c s.size).length + 1) * 16 ≤ 140737488355328 := by omega
    unfold splitS
    generalize spL s c s.size = W at *
    generalize spF s c s.size = f at *
    simp [List.range, List.range.loop, ints, intss, int, bool, row, frac, fracs, ← List.map_take, ← List.map_drop, str, lF, hb]

end Go.Proofs.YtblnpjppckfmfaaDoor.Ax
