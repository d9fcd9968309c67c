/-
  Contract: the Condorcet winner (the reference). No condition.
-/
import Derived.Test.YtkfmhpgnhkdebaaGreatDoorCG9
namespace Go.Proofs.YtkfmhpgnhkdebaaGreatDoor.Ax
open Go Go.RowKit
set_option linter.unusedSimpArgs false
end Go.Proofs.YtkfmhpgnhkdebaaGreatDoor.Ax
namespace Go.Proofs.YtkfmhpgnhkdebaaGreatDoor.Ax
open Go Go.RowKit
set_option linter.unusedSimpArgs false
def bitI (b : Bool) : Int := if b then 1 else 0
def mbr (m k : Nat) : List Int := selTo (fun a => m.testBit a) k
def szI (m : Nat) : Int := ((mbr m 5).length : Int)
def blN (m : Nat) : Nat := if m = 0 then 0 else m.log2 + 1
theorem shr_small : ∀ m : Nat, m < 32 → ∀ a : Nat, a < 6 → shrI .i64 (m : Int) (a : Int) = ((m >>> a : Nat) : Int) ∧ andI .i64 ((m >>> a : Nat) : Int) 1 = bitI (m.testBit a) ∧ shlI .i64 1 (a : Int) = ((2 ^ a : Nat) : Int) ∧ andI .i64 (m : Int) ((2 ^ a : Nat) : Int) = bitI (m.testBit a) * (2 ^ a : Nat) := by decide +kernel
theorem bl_small : ∀ m : Nat, m < 32 → blN m ≤ 5 ∧ m >>> blN m = 0 ∧ ∀ a : Nat, a < blN m → 0 < m >>> a := by decide +kernel
def mbrB (m s : Nat) : Bool := decide (mbr m (blN m) = mbr m s) && decide (mbr m 5 = mbr m s) && (decide (m = 0) || decide (0 < (mbr m s).length)) && (decide ((mbr m s).length < s) || decide (m = 2 ^ s - 1))
theorem mbrB_small : ∀ m : Nat, m < 32 → ∀ s : Nat, s < 6 → (decide (2 ^ s ≤ m) || mbrB m s) = true := by decide +kernel
theorem mbr_small (m : Nat) (hm : m < 32) (s : Nat) (hs : s < 6) (h : m < 2 ^ s) : mbr m (blN m) = mbr m s ∧ mbr m 5 = mbr m s ∧ (1 ≤ m → 0 < (mbr m s).length) ∧ (s ≤ (mbr m s).length → m = 2 ^ s - 1) := by
  have := mbrB_small m hm s hs
  rw [Bool.or_eq_true, decide_eq_true_eq] at this
  have := this.resolve_left (by omega)
  simp only [mbrB, Bool.and_eq_true, Bool.or_eq_true, decide_eq_true_eq] at this
  exact ⟨this.1.1.1, this.1.1.2, fun h1 => this.1.2.resolve_left (by omega), fun h1 => this.2.resolve_left (by omega)⟩
theorem nlt0 (k : Nat) : ((k : Int) < 0) = False := by simp
theorem mbr_len {m k : Nat} : (mbr m k).length ≤ k := selTo_len
noncomputable def mOc64 : List AV → Option AV := mk (fun p => 0 ≤ p ∧ p < 32) (fun (p : (Int)) => [.v (.int .u64 p)]) (fun p => int (szI p.toNat))
theorem mOc64_at (m : Int) (hpre : 0 ≤ m ∧ m < 32) : mOc64 [.v (.int .u64 m)] = some (.v (.int .i64 (szI m.toNat))) :=
  mk_eq (enc := fun (p : (Int)) => [.v (.int .u64 p)]) (x := (m)) (by rintro a0 b0 h; simp [ints, intss, int, bool, row, frac, fracs, map_int_inj, map_row_inj, frac_inj, map_frac_inj] at h; simp [h]) hpre
theorem oc64_ok : FnOk Tryz.prog 221 mOc64 := by
  refine mk_ok fun m hp => ?_
  obtain ⟨M, rfl⟩ : ∃ M : Nat, m = M := ⟨m.toNat, by omega⟩
  have hM : M < 32 := by omega
  have hG : FnsOk Tryz.prog [] := .nil
  refine callOk_awp (ctx_ok eqOk hG) mixed (live := [true, false, true]) (dt := []) Tryz.func221 rfl (by kernel_rfl) (by kernel_rfl) fun w0 hlens => ?_
  clear hlens
  simp [Tryz.f221, List.range, List.range.loop, ints, intss, int, bool, row, frac, fracs, ← List.map_take, ← List.map_drop, nlt0]
  clear hp
  revert M
  decide +kernel
noncomputable def mOc : List AV → Option AV := mk (fun p => 0 ≤ p ∧ p < 32) (fun (p : (Int)) => [.v (.int .u64 p)]) (fun p => int (szI p.toNat))
theorem mOc_at (m : Int) (hpre : 0 ≤ m ∧ m < 32) : mOc [.v (.int .u64 m)] = some (.v (.int .i64 (szI m.toNat))) :=
  mk_eq (enc := fun (p : (Int)) => [.v (.int .u64 p)]) (x := (m)) (by rintro a0 b0 h; simp [ints, intss, int, bool, row, frac, fracs, map_int_inj, map_row_inj, frac_inj, map_frac_inj] at h; simp [h]) hpre
theorem oc_ok : FnOk Tryz.prog 159 mOc := by
  refine mk_ok fun m hp => ?_
  obtain ⟨M, rfl⟩ : ∃ M : Nat, m = M := ⟨m.toNat, by omega⟩
  have hG : FnsOk Tryz.prog [(221, mOc64)] := (.cons oc64_ok .nil)
  refine callOk_awp (ctx_ok eqOk hG) mixed (live := [true, false, true]) (dt := []) Tryz.func159 rfl (by kernel_rfl) (by kernel_rfl) fun w0 hlens => ?_
  clear hlens
  have hz := mOc64_at (M : Int) hp
  simp only [Int.toNat_natCast] at hz
  simp [Tryz.f159, List.range, List.range.loop, ints, intss, int, bool, row, frac, fracs, ← List.map_take, ← List.map_drop, nlt0, hz]
noncomputable def mSize : List AV → Option AV := mk (fun p => 0 ≤ p ∧ p < 32) (fun (p : (Int)) => [int p]) (fun p => int (szI p.toNat))
theorem mSize_at (m : Int) (hpre : 0 ≤ m ∧ m < 32) : mSize [.v (.int .i64 m)] = some (.v (.int .i64 (szI m.toNat))) :=
  mk_eq (enc := fun (p : (Int)) => [int p]) (x := (m)) (by rintro a0 b0 h; simp [ints, intss, int, bool, row, frac, fracs, map_int_inj, map_row_inj, frac_inj, map_frac_inj] at h; simp [h]) hpre
theorem sizeOf_ok : FnOk Tryz.prog 81 mSize := by
  refine mk_ok fun m hp => ?_
  obtain ⟨M, rfl⟩ : ∃ M : Nat, m = M := ⟨m.toNat, by omega⟩
  have hG : FnsOk Tryz.prog [(99, mWithin), (159, mOc)] := (.cons within_ok (.cons oc_ok .nil))
  refine callOk_awp (ctx_ok eqOk hG) mixed (live := [true, false, true, false, false, true]) (dt := []) Tryz.func81 rfl (by kernel_rfl) (by kernel_rfl) fun w0 hlens => ?_
  clear hlens
  have hi : inR 0 63 (M : Int) = true := (inR_iff ..).2 (by omega)
  have hw : IntKind.u64.wrap (M : Int) = (M : Int) := by
    have := hp.2
    exact (by decide +kernel : ∀ m : Nat, m < 32 → IntKind.u64.wrap (m : Int) = (m : Int)) M (by omega)
  have hz := mOc_at (M : Int) hp
  simp only [Int.toNat_natCast] at hz
  simp [Tryz.f81, List.range, List.range.loop, ints, intss, int, bool, row, frac, fracs, ← List.map_take, ← List.map_drop, nlt0, mWithin_in, hi, hw, hz]
noncomputable def mMemb : List AV → Option AV := mk (fun p => 0 ≤ p ∧ p < 32) (fun (p : (Int)) => [int p]) (fun p => .sl (mbr p.toNat 5).isEmpty 1 ((mbr p.toNat 5).map int))
theorem mMemb_at (m : Int) (hpre : 0 ≤ m ∧ m < 32) : mMemb [.v (.int .i64 m)] = some (.sl (mbr m.toNat 5).isEmpty 1 ((mbr m.toNat 5).map int)) :=
  mk_eq (enc := fun (p : (Int)) => [int p]) (x := (m)) (by rintro a0 b0 h; simp [ints, intss, int, bool, row, frac, fracs, map_int_inj, map_row_inj, frac_inj, map_frac_inj] at h; simp [h]) hpre
theorem membersOf_ok : FnOk Tryz.prog 83 mMemb := by
  refine mk_ok fun m hp => ?_
  obtain ⟨M, rfl⟩ : ∃ M : Nat, m = M := ⟨m.toNat, by omega⟩
  have hM : M < 32 := by omega
  have hG : FnsOk Tryz.prog [] := .nil
  refine callOk_awp (ctx_ok eqOk hG) mixed (live := [true, false, true, true, true, false, false, false, true, false, false, false, false, false, false, true]) (dt := []) Tryz.func83 rfl (by kernel_rfl) (by kernel_rfl) fun w0 hlens => ?_
  clear hlens
  obtain ⟨b1, b2, b3⟩ := bl_small M hM
  have zs : mbr M 0 = [] := rfl
  simp [Tryz.f83, List.range, List.range.loop, ints, intss, int, bool, row, frac, fracs, ← List.map_take, ← List.map_drop, nlt0]
  refine awp_range (live := [true, false, true, true, true, false, false, false, true, false, false, false, false, false, false, true]) (ctx_ok eqOk hG) mixed [true, false, false, true, true] (blN M) (fun k => True) (fun k => ⟨[int (M : Int), .junk, .junk, liA 0 (mbr M k), int k, .junk, .junk, .junk, .junk, .junk, .junk, .junk, .junk, .junk, .junk, .junk, .junk, .junk, .junk, .junk, .junk], liT (mbr M k)⟩) ?_ (by simp [sub, slotsLe, clean, keep, refsL, refs, once, place, renL, ren, List.replicate, int, bool, zs, liA, liT]) ?_ ?_ ?_
  · omega
  · trivial
  · intro k hk _ hwk
    have hl := mbr_len (m := M) (k := k)
    have hy := selTo_yes (p := fun a => M.testBit a) (k := k)
    have hn := selTo_no (p := fun a => M.testBit a) (k := k)
    obtain ⟨f1, f2, f3, f4⟩ := shr_small M hM k (by omega)
    have f5 := b3 k hk
    unfold mbr at *
    generalize selTo (fun a => M.testBit a) (k + 1) = B at *
    generalize selTo (fun a => M.testBit a) k = A at *
    have hb : (A.length + 1) * 8 ≤ 140737488355328 ∧ A.length + 1 ≤ 4611686018427387904 := by omega
    generalize M >>> k = x at *
    cases A with
    | nil =>
      simp only [List.length_cons, List.length_nil] at hb
      cases ht : M.testBit k with
      | true =>
        have hB := hy ht
        subst hB
        rw [ht] at f2
        simp [bitI] at f2
        simp [List.range, List.range.loop, ints, intss, int, bool, row, frac, fracs, ← List.map_take, ← List.map_drop, nlt0, liA, liT, f1, f2, f5, hb, hwk]
      | false =>
        have hB := hn ht
        subst hB
        rw [ht] at f2
        simp [bitI] at f2
        simp [List.range, List.range.loop, ints, intss, int, bool, row, frac, fracs, ← List.map_take, ← List.map_drop, nlt0, liA, liT, f1, f2, f5, hb, hwk]
    | cons o A =>
      simp only [List.length_cons, List.length_nil] at hb
      cases ht : M.testBit k with
      | true =>
        have hB := hy ht
        subst hB
        rw [ht] at f2
        simp [bitI] at f2
        simp [List.range, List.range.loop, ints, intss, int, bool, row, frac, fracs, ← List.map_take, ← List.map_drop, nlt0, liA, liT, f1, f2, f5, hb, hwk]
      | false =>
        have hB := hn ht
        subst hB
        rw [ht] at f2
        simp [bitI] at f2
        simp [List.range, List.range.loop, ints, intss, int, bool, row, frac, fracs, ← List.map_take, ← List.map_drop, nlt0, liA, liT, f1, f2, f5, hb, hwk]
  · intro _
    obtain ⟨f1, _⟩ := shr_small M hM (blN M) (by omega)
    rw [b2] at f1
    simp at f1
    have e := (mbr_small M hM 5 (by omega) (by omega)).1
    rw [← e]
    generalize mbr M (blN M) = A at *
    cases A <;> simp [List.range, List.range.loop, ints, intss, int, bool, row, frac, fracs, ← List.map_take, ← List.map_drop, nlt0, liA, liT, f1]
def gdTo (f : Int → Int → Bool) (m a : Nat) : Nat → Bool
  | 0 => true
  | b + 1 => gdTo f m a b && (!m.testBit a || m.testBit b || f a b)
def gdAll (f : Int → Int → Bool) (m s : Nat) : Nat → Bool
  | 0 => true
  | a + 1 => gdAll f m s a && gdTo f m a s
theorem gdTo_no {f : Int → Int → Bool} {m a b : Nat} (h : gdTo f m a b = false) : ∀ k, gdTo f m a (b + k) = false
  | 0 => h
  | k + 1 => by
    have := gdTo_no h k
    show (gdTo f m a (b + k) && _) = false
    rw [this]; rfl
theorem gdAll_no {f : Int → Int → Bool} {m s a : Nat} (h : gdAll f m s a = false) : ∀ k, gdAll f m s (a + k) = false
  | 0 => h
  | k + 1 => by
    have := gdAll_no h k
    show (gdAll f m s (a + k) && _) = false
    rw [this]; rfl
noncomputable def mBr : List AV → Option AV := mk (fun p => profB p.1 p.2.2.1 = true ∧ 0 ≤ p.2.2.2 ∧ p.2.2.2 < 32) (fun (p : (Int) × (Bool) × (List Vt) × (Int)) => [prof p.1 p.2.1 p.2.2.1, int p.2.2.2]) (fun p => bool (gdAll (btB p.2.2.1) p.2.2.2.toNat p.1.toNat p.1.toNat))
theorem mBr_at (s : Int) (nl : Bool) (vs : List Vt) (m : Int) (hpre : profB s vs = true ∧ 0 ≤ m ∧ m < 32) : mBr [.agg [.v (.int .i64 s), .sl nl 2 (vs.map vote)], .v (.int .i64 m)] = some (.v (.bool (gdAll (btB vs) m.toNat s.toNat s.toNat))) :=
  mk_eq (enc := fun (p : (Int) × (Bool) × (List Vt) × (Int)) => [prof p.1 p.2.1 p.2.2.1, int p.2.2.2]) (x := (s, nl, vs, m)) (by rintro ⟨a0, a1, a2, a3⟩ ⟨b0, b1, b2, b3⟩ h; simp [ints, intss, int, bool, row, frac, fracs, map_int_inj, map_row_inj, frac_inj, map_frac_inj, vts, prof, map_vote_inj] at h; simp [h]) hpre
set_option maxHeartbeats 2000000 in
theorem beatsRest_ok : FnOk Tryz.prog 82 mBr := by
  refine mk_ok fun ⟨s, nl, vs, m⟩ hp => ?_
  simp only at hp
  obtain ⟨hp, hm1, hm2⟩ := hp
  obtain ⟨h1, h2, h3⟩ := prof_facts hp
  obtain ⟨S, rfl⟩ : ∃ S : Nat, s = S := ⟨s.toNat, by omega⟩
  obtain ⟨M, rfl⟩ : ∃ M : Nat, m = M := ⟨m.toNat, by omega⟩
  have hM : M < 32 := by omega
  have hb := fun a b : Int => mBeats_at (S : Int) nl vs a b hp
  have hG : FnsOk Tryz.prog [(80, mBeats)] := (.cons beats_ok .nil)
  refine callOk_awpZ [0] (ctx_ok eqOk hG) mixed (live := [true, true, true, false, true, true, true, false, true, true, true, false, false, true, true, true, false, false, false, false, false, false, false, false, false, false, false, false, false, false, false, false, false, false, false, true]) (dt := []) Tryz.func82 rfl (by kernel_rfl) (by kernel_rfl) fun w0 hlens => ?_
  clear hlens
  simp [Tryz.f82, List.range, List.range.loop, ints, intss, int, bool, row, frac, fracs, ← List.map_take, ← List.map_drop, nlt0, andThen_n, freeze, frzA, frzAL, sets, prof]
  refine awp_range (live := [true, true, true, false, true, true, true, false, true, true, true, false, false, true, true, true, false, false, false, false, false, false, false, false, false, false, false, false, false, false, false, false, false, false, false, true]) (ctx_ok eqOk hG) mixed [false, true, true, false, false, false, false, false, true, true] (S) (fun a => gdAll (btB vs) M S a = true) (fun a => ⟨[.junk, int (M : Int), .fp (prof (S : Int) nl vs) 0, .junk, .junk, .junk, .junk, .junk, int (S : Int), int a, .junk, .junk, .junk, .junk, .junk, .junk, .junk, .junk, .junk, .junk, .junk, .junk, .junk, .junk, .junk, .junk, .junk, .junk, .junk, .junk, .junk, .junk, .junk, .junk, .junk, .junk, .junk, .junk], []⟩) ?_ (by simp [sub, slotsLe, clean, keep, refsL, refs, once, place, renL, ren, List.replicate, int, bool, prof]) ?_ ?_ ?_
  · omega
  · rfl
  · intro a ha hpa hwa
    have haS : (a : Int) < (S : Int) := by omega
    obtain ⟨f1, f2, _⟩ := shr_small M hM a (by omega)
    simp [List.range, List.range.loop, ints, intss, int, bool, row, frac, fracs, ← List.map_take, ← List.map_drop, nlt0, prof, ha, haS]
    refine awp_range (live := [true, true, true, false, true, true, true, false, true, true, true, false, false, true, true, true, false, false, false, false, false, false, false, false, false, false, false, false, false, false, false, false, false, false, false, true]) (ctx_ok eqOk hG) mixed [false, true, true, false, false, true, false, false, true, true, false, false, false, true, true] (S) (fun b => gdTo (btB vs) M a b = true) (fun b => ⟨[.junk, int (M : Int), .fp (prof (S : Int) nl vs) 0, .junk, .junk, int (a : Int), .junk, .junk, int (S : Int), int a, .junk, .junk, .junk, int (S : Int), int b, .junk, .junk, .junk, .junk, .junk, .junk, .junk, .junk, .junk, .junk, .junk, .junk, .junk, .junk, .junk, .junk, .junk, .junk, .junk, .junk, .junk, .junk, .junk], []⟩) ?_ (by simp [sub, slotsLe, clean, keep, refsL, refs, once, place, renL, ren, List.replicate, int, bool, prof]) ?_ ?_ ?_
    · omega
    · rfl
    · intro b hbS hpb hwb
      have hz := hb a b
      have hbI : (b : Int) < (S : Int) := by omega
      obtain ⟨e1, e2, _⟩ := shr_small M hM b (by omega)
      have hs : gdTo (btB vs) M a (b + 1) = (gdTo (btB vs) M a b && (!M.testBit a || M.testBit b || btB vs a b)) := rfl
      have hno := gdTo_no (f := btB vs) (m := M) (a := a) (b := b + 1)
      have hno2 := gdAll_no (f := btB vs) (m := M) (s := S) (a := a + 1)
      have hs2 : gdAll (btB vs) M S (a + 1) = (gdAll (btB vs) M S a && gdTo (btB vs) M a S) := rfl
      rw [hpb] at hs
      cases ta : M.testBit a <;> cases tb : M.testBit b <;> cases tf : btB vs a b <;> rw [ta] at f2 <;> rw [tb] at e2 <;> rw [tf] at hz <;> rw [ta, tb, tf] at hs <;> simp [bitI] at f2 e2 <;> simp at hs <;> first
        | (simp [List.range, List.range.loop, ints, intss, int, bool, row, frac, fracs, ← List.map_take, ← List.map_drop, nlt0, prof, hbS, hbI, hwb, hz, f1, f2, e1, e2, hs]; done)
        | (have q1 := hno hs (S - (b + 1))
           rw [show b + 1 + (S - (b + 1)) = S by omega] at q1
           rw [q1, Bool.and_false] at hs2
           have q2 := hno2 hs2 (S - (a + 1))
           rw [show a + 1 + (S - (a + 1)) = S by omega] at q2
           simp [List.range, List.range.loop, ints, intss, int, bool, row, frac, fracs, ← List.map_take, ← List.map_drop, nlt0, prof, hbS, hbI, hwb, hz, f1, f2, e1, e2, hs, q2])
    · intro hpb
      have hs2 : gdAll (btB vs) M S (a + 1) = (gdAll (btB vs) M S a && gdTo (btB vs) M a S) := rfl
      rw [hpa, hpb] at hs2
      simp at hs2
      simp [List.range, List.range.loop, ints, intss, int, bool, row, frac, fracs, ← List.map_take, ← List.map_drop, nlt0, prof, hwa, hs2]
  · intro hpa
    simp [List.range, List.range.loop, ints, intss, int, bool, row, frac, fracs, ← List.map_take, ← List.map_drop, nlt0, prof, hpa]
end Go.Proofs.YtkfmhpgnhkdebaaGreatDoor.Ax
