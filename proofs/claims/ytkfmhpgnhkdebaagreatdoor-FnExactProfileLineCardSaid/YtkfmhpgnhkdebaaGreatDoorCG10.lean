/-
  Contract: the Condorcet winner (the reference). No condition.
-/
import Derived.Test.YtkfmhpgnhkdebaaGreatDoorCG9
namespace Go.Proofs.YtkfmhpgnhkdebaaGreatDoor.Ax
open Go Go.RowKit
set_option linter.unusedSimpArgs false
def wnAt (f : Int → Int → Bool) (s a b : Nat) : List Int := incs (List.replicate s 0) ((bpAll f s a ++ bpTo f a b).map (·.1))
def lsAt (f : Int → Int → Bool) (s a b : Nat) : List Int := incs (List.replicate s 0) ((bpAll f s a ++ bpTo f a b).map (·.2))
theorem wnAt_next {f : Int → Int → Bool} {s a : Nat} : wnAt f s a s = wnAt f s (a + 1) 0 := by simp [wnAt, bpAll, bpTo]
theorem lsAt_next {f : Int → Int → Bool} {s a : Nat} : lsAt f s a s = lsAt f s (a + 1) 0 := by simp [lsAt, bpAll, bpTo]
theorem wnAt_all {f : Int → Int → Bool} {s : Nat} : wnAt f s s 0 = wonT f s := by simp [wnAt, wonT, bpTo]
theorem lsAt_all {f : Int → Int → Bool} {s : Nat} : lsAt f s s 0 = lostT f s := by simp [lsAt, lostT, bpTo]
theorem wnAt_len {f : Int → Int → Bool} {s a b : Nat} : (wnAt f s a b).length = s := by simp [wnAt, incs_len]
theorem lsAt_len {f : Int → Int → Bool} {s a b : Nat} : (lsAt f s a b).length = s := by simp [lsAt, incs_len]
theorem wnAt_zero {f : Int → Int → Bool} {s : Nat} : wnAt f s 0 0 = List.replicate s 0 := rfl
theorem lsAt_zero {f : Int → Int → Bool} {s : Nat} : lsAt f s 0 0 = List.replicate s 0 := rfl
theorem wlAt_yes {f : Int → Int → Bool} {s a b : Nat} (h : f a b = true) : wnAt f s a (b + 1) = (wnAt f s a b).set a (at0 (wnAt f s a b) a + 1) ∧ lsAt f s a (b + 1) = (lsAt f s a b).set b (at0 (lsAt f s a b) b + 1) := by
  unfold wnAt lsAt
  simp only [bpTo, h, if_true, ← List.append_assoc, List.map_append, List.map_cons, List.map_nil]
  exact ⟨by rw [← List.map_append, incs_snoc, inc1]; rfl, by rw [← List.map_append, incs_snoc, inc1]; rfl⟩
theorem wlAt_no {f : Int → Int → Bool} {s a b : Nat} (h : f a b = false) : wnAt f s a (b + 1) = wnAt f s a b ∧ lsAt f s a (b + 1) = lsAt f s a b := by
  unfold wnAt lsAt
  simp [bpTo, h]
theorem wlAt_bd {f : Int → Int → Bool} {s a b : Nat} (ha : a < s) (hb : b ≤ s) : (∀ x ∈ wnAt f s a b, 0 ≤ x ∧ x ≤ (s * s + s : Nat)) ∧ ∀ x ∈ lsAt f s a b, 0 ≤ x ∧ x ≤ (s * s + s : Nat) := by
  have hz : ∀ x ∈ List.replicate s (0 : Int), 0 ≤ x ∧ x ≤ 0 := fun x hx => by rw [List.mem_replicate] at hx; omega
  have hl : (bpAll f s a ++ bpTo f a b).length ≤ s * s + s := by
    have h1 := bpAll_len (f := f) (s := s) (a := a)
    have h2 := bpTo_len (f := f) (a := a) (b := b)
    have h3 : s * a ≤ s * s := Nat.mul_le_mul_left _ (by omega)
    rw [List.length_append]; omega
  have hm : ∀ x ∈ bpAll f s a ++ bpTo f a b, x.1.toNat < s ∧ x.2.toNat < s := fun x hx => by
    rcases List.mem_append.1 hx with hx | hx
    · obtain ⟨⟨i, h1, h2⟩, ⟨j, h3, h4⟩⟩ := bpAll_mem x hx
      rw [h1, h3]; simp; omega
    · obtain ⟨h1, j, h3, h4⟩ := bpTo_mem x hx
      rw [h1, h3]; simp; omega
  constructor
  · have := (incs_facts hz (l := (bpAll f s a ++ bpTo f a b).map (·.1)) fun i hi => by
      obtain ⟨x, hx, rfl⟩ := List.mem_map.1 hi
      simpa using (hm x hx).1).2
    intro x hx
    have := this x hx
    rw [List.length_map] at this
    omega
  · have := (incs_facts hz (l := (bpAll f s a ++ bpTo f a b).map (·.2)) fun i hi => by
      obtain ⟨x, hx, rfl⟩ := List.mem_map.1 hi
      simpa using (hm x hx).2).2
    intro x hx
    have := this x hx
    rw [List.length_map] at this
    omega
noncomputable def mSums : List AV → Option AV := mk (fun p => profB p.1 p.2.2 = true) (fun (p : Pr0) => [prof p.1 p.2.1 p.2.2]) (fun p => .tup [ints false (wonT (btB p.2.2) p.1.toNat), ints false (lostT (btB p.2.2) p.1.toNat)])
theorem mSums_at (s : Nat) (nl : Bool) (vs : List Vt) (h : profB (s : Int) vs = true) : mSums [.agg [.v (.int .i64 (s : Int)), .sl nl 2 (vs.map vote)]] = some (.tup [.sl false 1 ((wonT (btB vs) s).map int), .sl false 1 ((lostT (btB vs) s).map int)]) :=
  mk_eq (enc := fun (p : Pr0) => [prof p.1 p.2.1 p.2.2]) (x := ((s : Int), nl, vs)) (fun x y h => by simp only [List.cons.injEq, and_true] at h; rw [prof_inj h]) h
set_option maxHeartbeats 4000000 in
theorem l06Sums_ok : FnOk Tryz.prog 136 mSums := by
  refine mk_ok fun ⟨s, nl, vs⟩ hp => ?_
  simp only at hp
  obtain ⟨h1, h2, h3⟩ := prof_facts hp
  obtain ⟨S, rfl⟩ : ∃ S : Nat, s = S := ⟨s.toNat, by omega⟩
  simp only [Int.toNat_natCast]
  have hG : FnsOk Tryz.prog [(139, mBeats)] := (.cons l06Beats_ok .nil)
  refine callOk_awpZ [0] (ctx_ok eqOk hG) mixed (live := [true, true, true, true, true, true, true, true, false, false, false, false, false, false, false, true, true, true, false, false, true, true, true, false, false, false, false, true]) (dt := []) Tryz.func136 rfl (by kernel_rfl) (by kernel_rfl) fun w0 hlens => ?_
  clear hlens
  have hb := fun a b => mBeats_at (S : Int) nl vs a b hp
  generalize btB vs = f at *
  have hm6 : 8 * S ≤ 281474976710656 := by omega
  have hm7 : S ≤ 4611686018427387904 := by omega
  have zw := wnAt_zero (f := f) (s := S)
  have zl := lsAt_zero (f := f) (s := S)
  simp [Tryz.f136, List.range, List.range.loop, ints, intss, int, bool, row, frac, fracs, ← List.map_take, ← List.map_drop, andThen_n, freeze, frzA, frzAL, sets, prof, hm6, hm7]
  refine awp_range (live := [true, true, true, true, true, true, true, true, false, false, false, false, false, false, false, true, true, true, false, false, true, true, true, false, false, false, false, true]) (ctx_ok eqOk hG) mixed [false, true, false, false, true, true, false, false, false, false, false, false, false, false, false, true, true] (S) (fun a => True) (fun a => ⟨[.junk, .fp (prof (S : Int) nl vs) 0, .junk, .junk, .ref 0 [] 0 S, .ref 1 [] 0 S, .junk, .junk, .junk, .junk, .junk, .junk, .junk, .junk, .junk, int (S : Int), int a, .junk, .junk, .junk, .junk, .junk, .junk, .junk, .junk, .junk, .junk, .junk, .junk, .junk, .junk, .junk, .junk, .junk, .junk, .junk, .junk, .junk, .junk, .junk, .junk, .junk, .junk, .junk], [⟨true, .sl false 1 ((wnAt f S a 0).map int)⟩, ⟨true, .sl false 1 ((lsAt f S a 0).map int)⟩]⟩) ?_ (by simp [sub, slotsLe, clean, keep, refsL, refs, once, place, renL, ren, List.replicate, int, bool, prof, zw, zl]) ?_ ?_ ?_
  · omega
  · trivial
  · intro a ha _ hwa
    have nw := wnAt_next (f := f) (s := S) (a := a)
    have nls := lsAt_next (f := f) (s := S) (a := a)
    have hwl := wnAt_len (f := f) (s := S) (a := a) (b := 0)
    have haS : (a : Int) < (S : Int) := by omega
    simp [List.range, List.range.loop, ints, intss, int, bool, row, frac, fracs, ← List.map_take, ← List.map_drop, prof, ha, haS, hwl]
    refine awp_range (live := [true, true, true, true, true, true, true, true, false, false, false, false, false, false, false, true, true, true, false, false, true, true, true, false, false, false, false, true]) (ctx_ok eqOk hG) mixed [false, true, false, false, true, true, true, false, false, false, false, false, false, false, false, true, true, false, false, false, true, true] (S) (fun b => True) (fun b => ⟨[.junk, .fp (prof (S : Int) nl vs) 0, .junk, .junk, .ref 0 [] 0 S, .ref 1 [] 0 S, int (a : Int), .junk, .junk, .junk, .junk, .junk, .junk, .junk, .junk, int (S : Int), int a, .junk, .junk, .junk, int (S : Int), int b, .junk, .junk, .junk, .junk, .junk, .junk, .junk, .junk, .junk, .junk, .junk, .junk, .junk, .junk, .junk, .junk, .junk, .junk, .junk, .junk, .junk, .junk], [⟨true, .sl false 1 ((wnAt f S a b).map int)⟩, ⟨true, .sl false 1 ((lsAt f S a b).map int)⟩]⟩) ?_ (by simp [sub, slotsLe, clean, keep, refsL, refs, once, place, renL, ren, List.replicate, int, bool, prof, hwl]) ?_ ?_ ?_
    · omega
    · trivial
    · intro b hbS _ hwb
      have hz := hb a b
      have hbI : (b : Int) < (S : Int) := by omega
      have l1 := wnAt_len (f := f) (s := S) (a := a) (b := b)
      have l2 := lsAt_len (f := f) (s := S) (a := a) (b := b)
      obtain ⟨bd1, bd2⟩ := wlAt_bd (f := f) (b := b) ha (by omega)
      have hsq : S * S ≤ 25 := by
        have : S * S ≤ 5 * 5 := Nat.mul_le_mul (by omega) (by omega)
        omega
      cases hf : f a b with
      | true =>
        obtain ⟨e1, e2⟩ := wlAt_yes (s := S) hf
        rw [hf] at hz
        generalize wnAt f S a (b + 1) = B1 at *
        generalize lsAt f S a (b + 1) = B2 at *
        generalize wnAt f S a b = A1 at *
        generalize lsAt f S a b = A2 at *
        subst e1
        subst e2
        have ha1 : a < A1.length := by omega
        have hb1 : b < A2.length := by omega
        have c1 : A1[a] = at0 A1 a := (at0_eq ha1).symm
        have c2 : A2[b] = at0 A2 b := (at0_eq hb1).symm
        have d1 := bd1 _ (List.getElem_mem ha1)
        have d2 := bd2 _ (List.getElem_mem hb1)
        rw [c1] at d1
        rw [c2] at d2
        have w1 : IntKind.i64.wrap (at0 A1 a + 1) = at0 A1 a + 1 := wrapI (by omega) (by omega)
        have w2 : IntKind.i64.wrap (at0 A2 b + 1) = at0 A2 b + 1 := wrapI (by omega) (by omega)
        simp [List.range, List.range.loop, ints, intss, int, bool, row, frac, fracs, ← List.map_take, ← List.map_drop, prof, hbS, hbI, hwb, hz, ha1, hb1, c1, c2, w1, w2, l1, l2, ha]
      | false =>
        obtain ⟨e1, e2⟩ := wlAt_no (s := S) hf
        rw [hf] at hz
        simp [List.range, List.range.loop, ints, intss, int, bool, row, frac, fracs, ← List.map_take, ← List.map_drop, prof, hbS, hbI, hwb, hz, l1, l2, e1, e2]
    · intro _
      have l1 := wnAt_len (f := f) (s := S) (a := a + 1) (b := 0)
      rw [nw, nls]
      simp [List.range, List.range.loop, ints, intss, int, bool, row, frac, fracs, ← List.map_take, ← List.map_drop, prof, hwa]
  · intro _
    have l1 := wnAt_len (f := f) (s := S) (a := S) (b := 0)
    have l2 := lsAt_len (f := f) (s := S) (a := S) (b := 0)
    have e1 := wnAt_all (f := f) (s := S)
    have e2 := lsAt_all (f := f) (s := S)
    rw [← e1, ← e2]
    generalize wnAt f S S 0 = A1 at *
    generalize lsAt f S S 0 = A2 at *
    have t1 : A1.take S = A1 := List.take_of_length_le (by omega)
    have t2 : A2.take S = A2 := List.take_of_length_le (by omega)
    simp [List.range, List.range.loop, ints, intss, int, bool, row, frac, fracs, ← List.map_take, ← List.map_drop, prof, l1, l2, t1, t2]
set_option maxHeartbeats 1000000 in
theorem specCw_ok : FnOk Tryz.prog 60 mCw := by
  refine mk_ok fun ⟨s, nl, vs⟩ hp => ?_
  simp only at hp
  obtain ⟨h1, h2, h3⟩ := prof_facts hp
  obtain ⟨S, rfl⟩ : ∃ S : Nat, s = S := ⟨s.toNat, by omega⟩
  have hpp := mProf_at (S : Int) nl vs
  rw [hp] at hpp
  have hG : FnsOk Tryz.prog [(57, mProf), (136, mSums), (137, mFul)] := (.cons specProf_ok (.cons l06Sums_ok (.cons l06Full_ok .nil)))
  refine callOk_awpZ [0] (ctx_ok eqOk hG) mixed (live := [true, true, true, true, false, false, false, true]) (dt := []) Tryz.func60 rfl (by kernel_rfl) (by kernel_rfl) fun w0 hlens => ?_
  clear hlens
  have hz := mSums_at S nl vs hp
  have hl := wonT_len (f := btB vs) (s := S)
  have hf := mFul_at false (wonT (btB vs) S) (by omega)
  have e : cwT (S : Int) vs = fulT (wonT (btB vs) S) := by
    unfold cwT
    rw [if_pos hp, ful_on (fun a => btB_irr _) (fun a b => btB_asym _ _)]; rfl
  have ht : (wonT (btB vs) S).take S = wonT (btB vs) S := List.take_of_length_le (by omega)
  rw [e]
  simp [Tryz.f60, List.range, List.range.loop, ints, intss, int, bool, row, frac, fracs, ← List.map_take, ← List.map_drop, andThen_n, freeze, frzA, frzAL, sets, prof, hpp, hz, hf, hl, ht]
end Go.Proofs.YtkfmhpgnhkdebaaGreatDoor.Ax
namespace Go.Proofs.YtkfmhpgnhkdebaaGreatDoor.Ax
open Go Go.RowKit
set_option linter.unusedSimpArgs false
def bitI (b : Bool) : Int := if b then 1 else 0
def mbr (m k : Nat) : List Int := selTo (fun a => m.testBit a) k
def szI (m : Nat) : Int := ((mbr m 5).length : Int)
def blN (m : Nat) : Nat := if m = 0 then 0 else m.log2 + 1
theorem shr_small : ∀ m : Nat, m < 32 → ∀ a : Nat, a < 6 → shrI .i64 (m : Int) (a : Int) = ((m >>> a : Nat) : Int) ∧ andI .i64 ((m >>> a : Nat) : Int) 1 = bitI (m.testBit a) ∧ shlI .i64 1 (a : Int) = ((2 ^ a : Nat) : Int) ∧ andI .i64 (m : Int) ((2 ^ a : Nat) : Int) = bitI (m.testBit a) * (2 ^ a : Nat) := by decide +kernel
theorem bl_small : ∀ m : Nat, m < 32 → blN m ≤ 5 ∧ m >>> blN m = 0 ∧ ∀ a : Nat, a < blN m → 0 < m >>> a := by decide +kernel
def mbrB (m s : Nat) : Bool := decide (mbr m (blN m) = mbr m s) && decide (mbr m 5 = mbr m s) && (decide (m = 0) || decide (0 < (mbr m s).length)) && (decide ((mbr m s).length < s) || decide (m = 2 ^ s - 1))
theorem mbrB_small : ∀ m : Nat, m < 32 → ∀ s : Nat, s < 6 → (decide (2 ^ s ≤ m) || mbrB m s) = true := by decide +kernel
theorem mbr_small (m : Nat) (hm : m < 32) (s : Nat) (hs : s < 6) (h : m < 2 ^ s) : mbr m (blN m) = mbr m s ∧ mbr m 5 = mbr m s ∧ (1 ≤ m → 0 < (mbr m s).length) ∧ (s ≤ (mbr m s).length → m = 2 ^ s - 1) := by
  have := mbrB_small m hm s hs
  rw [Bool.or_eq_true, decide_eq_true_eq] at this
  have := this.resolve_left (by omega)
  simp only [mbrB, Bool.and_eq_true, Bool.or_eq_true, decide_eq_true_eq] at this
  exact ⟨this.1.1.1, this.1.1.2, fun h1 => this.1.2.resolve_left (by omega), fun h1 => this.2.resolve_left (by omega)⟩
theorem nlt0 (k : Nat) : ((k : Int) < 0) = False := by simp
theorem mbr_len {m k : Nat} : (mbr m k).length ≤ k := selTo_len
noncomputable def mOc64 : List AV → Option AV := mk (fun p => 0 ≤ p ∧ p < 32) (fun (p : (Int)) => [.v (.int .u64 p)]) (fun p => int (szI p.toNat))
theorem mOc64_at (m : Int) (hpre : 0 ≤ m ∧ m < 32) : mOc64 [.v (.int .u64 m)] = some (.v (.int .i64 (szI m.toNat))) :=
  mk_eq (enc := fun (p : (Int)) => [.v (.int .u64 p)]) (x := (m)) (by rintro a0 b0 h; simp [ints, intss, int, bool, row, frac, fracs, map_int_inj, map_row_inj, frac_inj, map_frac_inj] at h; simp [h]) hpre
theorem oc64_ok : FnOk Tryz.prog 221 mOc64 := by
  refine mk_ok fun m hp => ?_
  obtain ⟨M, rfl⟩ : ∃ M : Nat, m = M := ⟨m.toNat, by omega⟩
  have hM : M < 32 := by omega
  have hG : FnsOk Tryz.prog [] := .nil
  refine callOk_awp (ctx_ok eqOk hG) mixed (live := [true, false, true]) (dt := []) Tryz.func221 rfl (by kernel_rfl) (by kernel_rfl) fun w0 hlens => ?_
  clear hlens
  simp [Tryz.f221, List.range, List.range.loop, ints, intss, int, bool, row, frac, fracs, ← List.map_take, ← List.map_drop, nlt0]
  clear hp
  revert M
  decide +kernel
noncomputable def mOc : List AV → Option AV := mk (fun p => 0 ≤ p ∧ p < 32) (fun (p : (Int)) => [.v (.int .u64 p)]) (fun p => int (szI p.toNat))
theorem mOc_at (m : Int) (hpre : 0 ≤ m ∧ m < 32) : mOc [.v (.int .u64 m)] = some (.v (.int .i64 (szI m.toNat))) :=
  mk_eq (enc := fun (p : (Int)) => [.v (.int .u64 p)]) (x := (m)) (by rintro a0 b0 h; simp [ints, intss, int, bool, row, frac, fracs, map_int_inj, map_row_inj, frac_inj, map_frac_inj] at h; simp [h]) hpre
theorem oc_ok : FnOk Tryz.prog 159 mOc := by
  refine mk_ok fun m hp => ?_
  obtain ⟨M, rfl⟩ : ∃ M : Nat, m = M := ⟨m.toNat, by omega⟩
  have hG : FnsOk Tryz.prog [(221, mOc64)] := (.cons oc64_ok .nil)
  refine callOk_awp (ctx_ok eqOk hG) mixed (live := [true, false, true]) (dt := []) Tryz.func159 rfl (by kernel_rfl) (by kernel_rfl) fun w0 hlens => ?_
  clear hlens
  have hz := mOc64_at (M : Int) hp
  simp only [Int.toNat_natCast] at hz
  simp [Tryz.f159, List.range, List.range.loop, ints, intss, int, bool, row, frac, fracs, ← List.map_take, ← List.map_drop, nlt0, hz]
noncomputable def mSize : List AV → Option AV := mk (fun p => 0 ≤ p ∧ p < 32) (fun (p : (Int)) => [int p]) (fun p => int (szI p.toNat))
theorem mSize_at (m : Int) (hpre : 0 ≤ m ∧ m < 32) : mSize [.v (.int .i64 m)] = some (.v (.int .i64 (szI m.toNat))) :=
  mk_eq (enc := fun (p : (Int)) => [int p]) (x := (m)) (by rintro a0 b0 h; simp [ints, intss, int, bool, row, frac, fracs, map_int_inj, map_row_inj, frac_inj, map_frac_inj] at h; simp [h]) hpre
theorem sizeOf_ok : FnOk Tryz.prog 81 mSize := by
  refine mk_ok fun m hp => ?_
  obtain ⟨M, rfl⟩ : ∃ M : Nat, m = M := ⟨m.toNat, by omega⟩
  have hG : FnsOk Tryz.prog [(99, mWithin), (159, mOc)] := (.cons within_ok (.cons oc_ok .nil))
  refine callOk_awp (ctx_ok eqOk hG) mixed (live := [true, false, true, false, false, true]) (dt := []) Tryz.func81 rfl (by kernel_rfl) (by kernel_rfl) fun w0 hlens => ?_
  clear hlens
  have hi : inR 0 63 (M : Int) = true := (inR_iff ..).2 (by omega)
  have hw : IntKind.u64.wrap (M : Int) = (M : Int) := by
    have := hp.2
    exact (by decide +kernel : ∀ m : Nat, m < 32 → IntKind.u64.wrap (m : Int) = (m : Int)) M (by omega)
  have hz := mOc_at (M : Int) hp
  simp only [Int.toNat_natCast] at hz
  simp [Tryz.f81, List.range, List.range.loop, ints, intss, int, bool, row, frac, fracs, ← List.map_take, ← List.map_drop, nlt0, mWithin_in, hi, hw, hz]
noncomputable def mMemb : List AV → Option AV := mk (fun p => 0 ≤ p ∧ p < 32) (fun (p : (Int)) => [int p]) (fun p => .sl (mbr p.toNat 5).isEmpty 1 ((mbr p.toNat 5).map int))
theorem mMemb_at (m : Int) (hpre : 0 ≤ m ∧ m < 32) : mMemb [.v (.int .i64 m)] = some (.sl (mbr m.toNat 5).isEmpty 1 ((mbr m.toNat 5).map int)) :=
  mk_eq (enc := fun (p : (Int)) => [int p]) (x := (m)) (by rintro a0 b0 h; simp [ints, intss, int, bool, row, frac, fracs, map_int_inj, map_row_inj, frac_inj, map_frac_inj] at h; simp [h]) hpre
theorem membersOf_ok : FnOk Tryz.prog 83 mMemb := by
  refine mk_ok fun m hp => ?_
  obtain ⟨M, rfl⟩ : ∃ M : Nat, m = M := ⟨m.toNat, by omega⟩
  have hM : M < 32 := by omega
  have hG : FnsOk Tryz.prog [] := .nil
  refine callOk_awp (ctx_ok eqOk hG) mixed (live := [true, false, true, true, true, false, false, false, true, false, false, false, false, false, false, true]) (dt := []) Tryz.func83 rfl (by kernel_rfl) (by kernel_rfl) fun w0 hlens => ?_
  clear hlens
  obtain ⟨b1, b2, b3⟩ := bl_small M hM
  have zs : mbr M 0 = [] := rfl
  simp [Tryz.f83, List.range, List.range.loop, ints, intss, int, bool, row, frac, fracs, ← List.map_take, ← List.map_drop, nlt0]
  refine awp_range (live := [true, false, true, true, true, false, false, false, true, false, false, false, false, false, false, true]) (ctx_ok eqOk hG) mixed [true, false, false, true, true] (blN M) (fun k => True) (fun k => ⟨[int (M : Int), .junk, .junk, liA 0 (mbr M k), int k, .junk, .junk, .junk, .junk, .junk, .junk, .junk, .junk, .junk, .junk, .junk, .junk, .junk, .junk, .junk, .junk], liT (mbr M k)⟩) ?_ (by simp [sub, slotsLe, clean, keep, refsL, refs, once, place, renL, ren, List.replicate, int, bool, zs, liA, liT]) ?_ ?_ ?_
  · omega
  · trivial
  · intro k hk _ hwk
    have hl := mbr_len (m := M) (k := k)
    have hy := selTo_yes (p := fun a => M.testBit a) (k := k)
    have hn := selTo_no (p := fun a => M.testBit a) (k := k)
    obtain ⟨f1, f2, f3, f4⟩ := shr_small M hM k (by omega)
    have f5 := b3 k hk
    unfold mbr at *
    generalize selTo (fun a => M.testBit a) (k + 1) = B at *
    generalize selTo (fun a => M.testBit a) k = A at *
    have hb : (A.length + 1) * 8 ≤ 140737488355328 ∧ A.length + 1 ≤ 4611686018427387904 := by omega
    generalize M >>> k = x at *
    cases A with
    | nil =>
      simp only [List.length_cons, List.length_nil] at hb
      cases ht : M.testBit k with
      | true =>
        have hB := hy ht
        subst hB
        rw [ht] at f2
        simp [bitI] at f2
        simp [List.range, List.range.loop, ints, intss, int, bool, row, frac, fracs, ← List.map_take, ← List.map_drop, nlt0, liA, liT, f1, f2, f5, hb, hwk]
      | false =>
        have hB := hn ht
        subst hB
        rw [ht] at f2
        simp [bitI] at f2
        simp [List.range, List.range.loop, ints, intss, int, bool, row, frac, fracs, ← List.map_take, ← List.map_drop, nlt0, liA, liT, f1, f2, f5, hb, hwk]
    | cons o A =>
      simp only [List.length_cons, List.length_nil] at hb
      cases ht : M.testBit k with
      | true =>
        have hB := hy ht
        subst hB
        rw [ht] at f2
        simp [bitI] at f2
        simp [List.range, List.range.loop, ints, intss, int, bool, row, frac, fracs, ← List.map_take, ← List.map_drop, nlt0, liA, liT, f1, f2, f5, hb, hwk]
      | false =>
        have hB := hn ht
        subst hB
        rw [ht] at f2
        simp [bitI] at f2
        simp [List.range, List.range.loop, ints, intss, int, bool, row, frac, fracs, ← List.map_take, ← List.map_drop, nlt0, liA, liT, f1, f2, f5, hb, hwk]
  · intro _
    obtain ⟨f1, _⟩ := shr_small M hM (blN M) (by omega)
    rw [b2] at f1
    simp at f1
    have e := (mbr_small M hM 5 (by omega) (by omega)).1
    rw [← e]
    generalize mbr M (blN M) = A at *
    cases A <;> simp [List.range, List.range.loop, ints, intss, int, bool, row, frac, fracs, ← List.map_take, ← List.map_drop, nlt0, liA, liT, f1]
def gdTo (f : Int → Int → Bool) (m a : Nat) : Nat → Bool
  | 0 => true
  | b + 1 => gdTo f m a b && (!m.testBit a || m.testBit b || f a b)
def gdAll (f : Int → Int → Bool) (m s : Nat) : Nat → Bool
  | 0 => true
  | a + 1 => gdAll f m s a && gdTo f m a s
theorem gdTo_no {f : Int → Int → Bool} {m a b : Nat} (h : gdTo f m a b = false) : ∀ k, gdTo f m a (b + k) = false
  | 0 => h
  | k + 1 => by
    have := gdTo_no h k
    show (gdTo f m a (b + k) && _) = false
    rw [this]; rfl
theorem gdAll_no {f : Int → Int → Bool} {m s a : Nat} (h : gdAll f m s a = false) : ∀ k, gdAll f m s (a + k) = false
  | 0 => h
  | k + 1 => by
    have := gdAll_no h k
    show (gdAll f m s (a + k) && _) = false
    rw [this]; rfl
noncomputable def mBr : List AV → Option AV := mk (fun p => profB p.1 p.2.2.1 = true ∧ 0 ≤ p.2.2.2 ∧ p.2.2.2 < 32) (fun (p : (Int) × (Bool) × (List Vt) × (Int)) => [prof p.1 p.2.1 p.2.2.1, int p.2.2.2]) (fun p => bool (gdAll (btB p.2.2.1) p.2.2.2.toNat p.1.toNat p.1.toNat))
theorem mBr_at (s : Int) (nl : Bool) (vs : List Vt) (m : Int) (hpre : profB s vs = true ∧ 0 ≤ m ∧ m < 32) : mBr [.agg [.v (.int .i64 s), .sl nl 2 (vs.map vote)], .v (.int .i64 m)] = some (.v (.bool (gdAll (btB vs) m.toNat s.toNat s.toNat))) :=
  mk_eq (enc := fun (p : (Int) × (Bool) × (List Vt) × (Int)) => [prof p.1 p.2.1 p.2.2.1, int p.2.2.2]) (x := (s, nl, vs, m)) (by rintro ⟨a0, a1, a2, a3⟩ ⟨b0, b1, b2, b3⟩ h; simp [ints, intss, int, bool, row, frac, fracs, map_int_inj, map_row_inj, frac_inj, map_frac_inj, vts, prof, map_vote_inj] at h; simp [h]) hpre
set_option maxHeartbeats 2000000 in
theorem beatsRest_ok : FnOk Tryz.prog 82 mBr := by
  refine mk_ok fun ⟨s, nl, vs, m⟩ hp => ?_
  simp only at hp
  obtain ⟨hp, hm1, hm2⟩ := hp
  obtain ⟨h1, h2, h3⟩ := prof_facts hp
  obtain ⟨S, rfl⟩ : ∃ S : Nat, s = S := ⟨s.toNat, by omega⟩
  obtain ⟨M, rfl⟩ : ∃ M : Nat, m = M := ⟨m.toNat, by omega⟩
  have hM : M < 32 := by omega
  have hb := fun a b : Int => mBeats_at (S : Int) nl vs a b hp
  have hG : FnsOk Tryz.prog [(80, mBeats)] := (.cons beats_ok .nil)
  refine callOk_awpZ [0] (ctx_ok eqOk hG) mixed (live := [true, true, true, false, true, true, true, false, true, true, true, false, false, true, true, true, false, false, false, false, false, false, false, false, false, false, false, false, false, false, false, false, false, false, false, true]) (dt := []) Tryz.func82 rfl (by kernel_rfl) (by kernel_rfl) fun w0 hlens => ?_
  clear hlens
  simp [Tryz.f82, List.range, List.range.loop, ints, intss, int, bool, row, frac, fracs, ← List.map_take, ← List.map_drop, nlt0, andThen_n, freeze, frzA, frzAL, sets, prof]
  refine awp_range (live := [true, true, true, false, true, true, true, false, true, true, true, false, false, true, true, true, false, false, false, false, false, false, false, false, false, false, false, false, false, false, false, false, false, false, false, true]) (ctx_ok eqOk hG) mixed [false, true, true, false, false, false, false, false, true, true] (S) (fun a => gdAll (btB vs) M S a = true) (fun a => ⟨[.junk, int (M : Int), .fp (prof (S : Int) nl vs) 0, .junk, .junk, .junk, .junk, .junk, int (S : Int), int a, .junk, .junk, .junk, .junk, .junk, .junk, .junk, .junk, .junk, .junk, .junk, .junk, .junk, .junk, .junk, .junk, .junk, .junk, .junk, .junk, .junk, .junk, .junk, .junk, .junk, .junk, .junk, .junk], []⟩) ?_ (by simp [sub, slotsLe, clean, keep, refsL, refs, once, place, renL, ren, List.replicate, int, bool, prof]) ?_ ?_ ?_
  · omega
  · rfl
  · intro a ha hpa hwa
    have haS : (a : Int) < (S : Int) := by omega
    obtain ⟨f1, f2, _⟩ := shr_small M hM a (by omega)
    simp [List.range, List.range.loop, ints, intss, int, bool, row, frac, fracs, ← List.map_take, ← List.map_drop, nlt0, prof, ha, haS]
    refine awp_range (live := [true, true, true, false, true, true, true, false, true, true, true, false, false, true, true, true, false, false, false, false, false, false, false, false, false, false, false, false, false, false, false, false, false, false, false, true]) (ctx_ok eqOk hG) mixed [false, true, true, false, false, true, false, false, true, true, false, false, false, true, true] (S) (fun b => gdTo (btB vs) M a b = true) (fun b => ⟨[.junk, int (M : Int), .fp (prof (S : Int) nl vs) 0, .junk, .junk, int (a : Int), .junk, .junk, int (S : Int), int a, .junk, .junk, .junk, int (S : Int), int b, .junk, .junk, .junk, .junk, .junk, .junk, .junk, .junk, .junk, .junk, .junk, .junk, .junk, .junk, .junk, .junk, .junk, .junk, .junk, .junk, .junk, .junk, .junk], []⟩) ?_ (by simp [sub, slotsLe, clean, keep, refsL, refs, once, place, renL, ren, List.replicate, int, bool, prof]) ?_ ?_ ?_
    · omega
    · rfl
    · intro b hbS hpb hwb
      have hz := hb a b
      have hbI : (b : Int) < (S : Int) := by omega
      obtain ⟨e1, e2, _⟩ := shr_small M hM b (by omega)
      have hs : gdTo (btB vs) M a (b + 1) = (gdTo (btB vs) M a b && (!M.testBit a || M.testBit b || btB vs a b)) := rfl
      have hno := gdTo_no (f := btB vs) (m := M) (a := a) (b := b + 1)
      have hno2 := gdAll_no (f := btB vs) (m := M) (s := S) (a := a + 1)
      have hs2 : gdAll (btB vs) M S (a + 1) = (gdAll (btB vs) M S a && gdTo (btB vs) M a S) := rfl
      rw [hpb] at hs
      cases ta : M.testBit a <;> cases tb : M.testBit b <;> cases tf : btB vs a b <;> rw [ta] at f2 <;> rw [tb] at e2 <;> rw [tf] at hz <;> rw [ta, tb, tf] at hs <;> simp [bitI] at f2 e2 <;> simp at hs <;> first
        | (simp [List.range, List.range.loop, ints, intss, int, bool, row, frac, fracs, ← List.map_take, ← List.map_drop, nlt0, prof, hbS, hbI, hwb, hz, f1, f2, e1, e2, hs]; done)
        | (have q1 := hno hs (S - (b + 1))
           rw [show b + 1 + (S - (b + 1)) = S by omega] at q1
           rw [q1, Bool.and_false] at hs2
           have q2 := hno2 hs2 (S - (a + 1))
           rw [show a + 1 + (S - (a + 1)) = S by omega] at q2
           simp [List.range, List.range.loop, ints, intss, int, bool, row, frac, fracs, ← List.map_take, ← List.map_drop, nlt0, prof, hbS, hbI, hwb, hz, f1, f2, e1, e2, hs, q2])
    · intro hpb
      have hs2 : gdAll (btB vs) M S (a + 1) = (gdAll (btB vs) M S a && gdTo (btB vs) M a S) := rfl
      rw [hpa, hpb] at hs2
      simp at hs2
      simp [List.range, List.range.loop, ints, intss, int, bool, row, frac, fracs, ← List.map_take, ← List.map_drop, nlt0, prof, hwa, hs2]
  · intro hpa
    simp [List.range, List.range.loop, ints, intss, int, bool, row, frac, fracs, ← List.map_take, ← List.map_drop, nlt0, prof, hpa]
end Go.Proofs.YtkfmhpgnhkdebaaGreatDoor.Ax
