/-
  Contracts: nobody envies anybody, the product of what the goods are worth (both programs). No condition.
-/
import Derived.Test.YtakladjlnkojjaaDoorCG170
import Derived.Test.YtakladjlnkojjaaDoorCG171
namespace Go.Proofs.YtakladjlnkojjaaDoor.Ax
open Go Go.RowKit
set_option linter.unusedSimpArgs false

theorem wo6_bd {xss : List (Bool × List Int)} (h : rectB xss 3 6 100 = true) {i : Nat} (hi : i < xss.length) {l : List Int} {v : Int} : ∀ {m : Nat}, m ≤ wid xss → 0 ≤ woTo xss l i v m ∧ woTo xss l i v m ≤ 100 * m
  | 0, _ => by simp [woTo]
  | m + 1, hm => by
    obtain ⟨h1, h2⟩ := wo6_bd h hi (l := l) (v := v) (m := m) (by omega)
    have h4 := ent_bd h hi (k := m) (by omega)
    have hw := rect_len h
    rw [woTo]
    split
    · rw [wrapI (by omega) (by omega)]; omega
    · omega
theorem wo6 {xss : List (Bool × List Int)} (h : rectB xss 3 6 100 = true) {i : Nat} (hi : i < xss.length) {l : List Int} (hl : l.length ≤ wid xss) {v : Int} : 0 ≤ wo xss l i v ∧ wo xss l i v ≤ 600 := by
  have := wo6_bd h hi (l := l) (v := v) hl
  have hw := rect_len h
  unfold wo; omega
theorem wo6_pre {xss : List (Bool × List Int)} (h : rectB xss 3 6 100 = true) {l : List Int} (hl : l.length ≤ wid xss) {i : Nat} (hi : i < xss.length) : (0 : Int) ≤ (i : Int) ∧ ((i : Int)).toNat < xss.length ∧ l.length ≤ (xss.getD ((i : Int)).toNat (true, [])).2.length := by
  have hr := (rect_row h hi).1
  refine ⟨by omega, by simpa using hi, ?_⟩
  rw [Int.toNat_natCast, List.getD_eq_getElem?_getD, List.getElem?_eq_getElem hi]
  simp only [Option.getD_some]; omega

noncomputable def mEnvies : List AV → Option AV := mk (fun p => 0 ≤ p.2.2.2.2.1 ∧ p.2.2.2.2.1.toNat < p.2.1.length ∧ p.2.2.2.1.length ≤ (p.2.1.getD p.2.2.2.2.1.toNat (true, [])).2.length) (fun (p : (Bool) × (List (Bool × List Int)) × (Bool) × (List Int) × (Int) × (Int)) => [intss p.1 p.2.1, ints p.2.2.1 p.2.2.2.1, int p.2.2.2.2.1, int p.2.2.2.2.2]) (fun p => bool (decide (wo p.2.1 p.2.2.2.1 p.2.2.2.2.1.toNat p.2.2.2.2.1 < wo p.2.1 p.2.2.2.1 p.2.2.2.2.1.toNat p.2.2.2.2.2)))
theorem mEnvies_at (nl : Bool) (xss : List (Bool × List Int)) (nl' : Bool) (l : List Int) (i : Int) (k : Int) (hpre : 0 ≤ i ∧ i.toNat < xss.length ∧ l.length ≤ (xss.getD i.toNat (true, [])).2.length) : mEnvies [.sl nl 1 (xss.map row), .sl nl' 1 (l.map int), .v (.int .i64 i), .v (.int .i64 k)] = some (.v (.bool (decide (wo xss l i.toNat i < wo xss l i.toNat k)))) :=
  mk_eq (enc := fun (p : (Bool) × (List (Bool × List Int)) × (Bool) × (List Int) × (Int) × (Int)) => [intss p.1 p.2.1, ints p.2.2.1 p.2.2.2.1, int p.2.2.2.2.1, int p.2.2.2.2.2]) (x := (nl, xss, nl', l, i, k)) (by rintro ⟨a0, a1, a2, a3, a4, a5⟩ ⟨b0, b1, b2, b3, b4, b5⟩ h; simp [ints, intss, int, bool, row, frac, fracs, map_int_inj, map_row_inj, frac_inj, map_frac_inj] at h; simp [h]) hpre

theorem envies_ok : FnOk Tryd.prog 103 mEnvies := by
  refine mk_ok fun ⟨nl, xss, nl', l, i, k⟩ hp => ?_
  have hG : FnsOk Tryd.prog [(65, mWorth)] := (.cons worth_ok .nil)
  refine callOk_awp (ctx_ok eqOk hG) mixed (live := [true, true, true, true, false, false, false, false, true]) (dt := []) Tryd.func103 rfl (by kernel_rfl) (by kernel_rfl) fun w0 hlens => ?_
  have h1 := mWorth_at nl xss nl' l i k hp
  have h2 := mWorth_at nl xss nl' l i i hp
  simp [Tryd.f103, List.range, List.range.loop, ints, intss, int, bool, row, frac, fracs, ← List.map_take, ← List.map_drop, h1, h2]

noncomputable def mFree : List AV → Option AV := mk (fun p => rectB p.2.1 3 6 100 = true ∧ p.2.2.2.length ≤ wid p.2.1) (fun (p : (Bool) × (List (Bool × List Int)) × (Bool) × (List Int)) => [intss p.1 p.2.1, ints p.2.2.1 p.2.2.2]) (fun p => bool (frB p.2.1 p.2.2.2))
theorem mFree_at (nl : Bool) (xss : List (Bool × List Int)) (nl' : Bool) (l : List Int) (hpre : rectB xss 3 6 100 = true ∧ l.length ≤ wid xss) : mFree [.sl nl 1 (xss.map row), .sl nl' 1 (l.map int)] = some (.v (.bool (frB xss l))) :=
  mk_eq (enc := fun (p : (Bool) × (List (Bool × List Int)) × (Bool) × (List Int)) => [intss p.1 p.2.1, ints p.2.2.1 p.2.2.2]) (x := (nl, xss, nl', l)) (by rintro ⟨a0, a1, a2, a3⟩ ⟨b0, b1, b2, b3⟩ h; simp [ints, intss, int, bool, row, frac, fracs, map_int_inj, map_row_inj, frac_inj, map_frac_inj] at h; simp [h]) hpre

set_option maxHeartbeats 1000000 in
theorem isFree_ok : FnOk Tryd.prog 70 mFree := by
  refine mk_ok fun ⟨nl, xss, nl', l⟩ ⟨h1, h2⟩ => ?_
  simp only at h1 h2
  have hG : FnsOk Tryd.prog [(103, mEnvies)] := (.cons envies_ok .nil)
  refine callOk_awp (ctx_ok eqOk hG) mixed (live := [true, true, false, false, true, true, true, false, true, true, true, false, false, true, true, true, false, false, false, false, false, true]) (dt := []) Tryd.func70 rfl (by kernel_rfl) (by kernel_rfl) fun w0 hlens => ?_
  clear hlens
  have hlen := rect_len h1
  generalize hr : frB xss l = r
  simp [Tryd.f70, List.range, List.range.loop, ints, intss, int, bool, row, frac, fracs, ← List.map_take, ← List.map_drop]
  refine awp_range (live := [true, true, false, false, true, true, true, false, true, true, true, false, false, true, true, true, false, false, false, false, false, true]) (ctx_ok eqOk hG) mixed [true, true, false, false, false, false, false, false, true, true] (xss.length) (fun i => upto (fun i => allR xss.length (frR xss l i)) i) (fun i => ⟨[intss nl xss, ints nl' l, .junk, .junk, .junk, .junk, .junk, .junk, int xss.length, int i, .junk, .junk, .junk, .junk, .junk, .junk, .junk, .junk, .junk, .junk, .junk, .junk, .junk, .junk], []⟩) ?_ (by simp [sub, slotsLe, clean, keep, refsL, refs, once, place, renL, ren, List.replicate, int, bool, intss, ints]) ?_ ?_ ?_
  · omega
  · exact upto_zero
  · intro i hi hp hwi
    have hf : allR xss.length (frR xss l i) = false → r = false := fun hf => by rw [← hr]; exact allR_no hi hf
    simp [List.range, List.range.loop, ints, intss, int, bool, row, frac, fracs, ← List.map_take, ← List.map_drop, hi, hwi]
    refine awp_range (live := [true, true, false, false, true, true, true, false, true, true, true, false, false, true, true, true, false, false, false, false, false, true]) (ctx_ok eqOk hG) mixed [true, true, false, false, false, true, false, false, true, true, false, false, false, true, true] (xss.length) (fun k => upto (frR xss l i) k) (fun k => ⟨[intss nl xss, ints nl' l, .junk, .junk, .junk, int i, .junk, .junk, int xss.length, int i, .junk, .junk, .junk, int xss.length, int k, .junk, .junk, .junk, .junk, .junk, .junk, .junk, .junk, .junk], []⟩) ?_ (by simp [sub, slotsLe, clean, keep, refsL, refs, once, place, renL, ren, List.replicate, int, bool, intss, ints]) ?_ ?_ ?_
    · omega
    · exact upto_zero
    · intro k hk hq hwk
      have hw := wo6_pre h1 h2 hi
      have hc := mEnvies_at nl xss nl' l i k hw
      have b1 := wo6 h1 hi h2 (v := (k : Int))
      have b2 := wo6 h1 hi h2 (v := (i : Int))
      have hwr : IntKind.i64.wrap (wo xss l i k - wo xss l i i) = wo xss l i k - wo xss l i i := wrapI (by omega) (by omega)
      have e : frR xss l i k = decide (wo xss l i k ≤ wo xss l i i) := rfl
      by_cases hle : wo xss l i k ≤ wo xss l i i
      · have e1 : ¬ wo xss l i i < wo xss l i k := by omega
        have e2 : ¬ 0 < wo xss l i k - wo xss l i i := by omega
        have e3 : max 0 (wo xss l i k - wo xss l i i) = 0 := by omega
        have hu : upto (frR xss l i) (k + 1) := upto_succ hq (by rw [e]; simpa using hle)
        simp [List.range, List.range.loop, ints, intss, int, bool, row, frac, fracs, ← List.map_take, ← List.map_drop, hk, hwk, hc, hwr, e1, e2, e3, hu]
      · have e1 : wo xss l i i < wo xss l i k := by omega
        have e3 : max 0 (wo xss l i k - wo xss l i i) = wo xss l i k - wo xss l i i := by omega
        have e2 : 0 < wo xss l i k - wo xss l i i := by omega
        have hrf : r = false := hf (allR_no hk (by rw [e]; simpa using hle))
        simp [List.range, List.range.loop, ints, intss, int, bool, row, frac, fracs, ← List.map_take, ← List.map_drop, hk, hwk, hc, hwr, e1, e2, e3, hrf]
    · intro hq
      have hu : upto (fun i => allR xss.length (frR xss l i)) (i + 1) := upto_succ hp (allR_yes hq)
      simp [List.range, List.range.loop, ints, intss, int, bool, row, frac, fracs, ← List.map_take, ← List.map_drop, hi, hwi, hu]
  · intro hp
    have : r = true := by rw [← hr]; exact allR_yes hp
    simp [List.range, List.range.loop, ints, intss, int, bool, row, frac, fracs, ← List.map_take, ← List.map_drop, this]

set_option maxHeartbeats 1000000 in
theorem l23Free_ok : FnOk Tryd.prog 59 mFree := by
  refine mk_ok fun ⟨nl, xss, nl', l⟩ ⟨h1, h2⟩ => ?_
  simp only at h1 h2
  have hG : FnsOk Tryd.prog [(90, mEnvy)] := (.cons l23Envy_ok .nil)
  refine callOk_awp (ctx_ok eqOk hG) mixed (live := [true, true, false, false, true, true, true, false, true, true, true, false, false, true, true, true, false, false, false, false, false, false, true]) (dt := []) Tryd.func59 rfl (by kernel_rfl) (by kernel_rfl) fun w0 hlens => ?_
  clear hlens
  have hlen := rect_len h1
  generalize hr : frB xss l = r
  simp [Tryd.f59, List.range, List.range.loop, ints, intss, int, bool, row, frac, fracs, ← List.map_take, ← List.map_drop]
  refine awp_range (live := [true, true, false, false, true, true, true, false, true, true, true, false, false, true, true, true, false, false, false, false, false, false, true]) (ctx_ok eqOk hG) mixed [true, true, false, false, false, false, false, false, true, true] (xss.length) (fun i => upto (fun i => allR xss.length (frR xss l i)) i) (fun i => ⟨[intss nl xss, ints nl' l, .junk, .junk, .junk, .junk, .junk, .junk, int xss.length, int i, .junk, .junk, .junk, .junk, .junk, .junk, .junk, .junk, .junk, .junk, .junk, .junk, .junk, .junk, .junk], []⟩) ?_ (by simp [sub, slotsLe, clean, keep, refsL, refs, once, place, renL, ren, List.replicate, int, bool, intss, ints]) ?_ ?_ ?_
  · omega
  · exact upto_zero
  · intro i hi hp hwi
    have hf : allR xss.length (frR xss l i) = false → r = false := fun hf => by rw [← hr]; exact allR_no hi hf
    simp [List.range, List.range.loop, ints, intss, int, bool, row, frac, fracs, ← List.map_take, ← List.map_drop, hi, hwi]
    refine awp_range (live := [true, true, false, false, true, true, true, false, true, true, true, false, false, true, true, true, false, false, false, false, false, false, true]) (ctx_ok eqOk hG) mixed [true, true, false, false, false, true, false, false, true, true, false, false, false, true, true] (xss.length) (fun k => upto (frR xss l i) k) (fun k => ⟨[intss nl xss, ints nl' l, .junk, .junk, .junk, int i, .junk, .junk, int xss.length, int i, .junk, .junk, .junk, int xss.length, int k, .junk, .junk, .junk, .junk, .junk, .junk, .junk, .junk, .junk, .junk], []⟩) ?_ (by simp [sub, slotsLe, clean, keep, refsL, refs, once, place, renL, ren, List.replicate, int, bool, intss, ints]) ?_ ?_ ?_
    · omega
    · exact upto_zero
    · intro k hk hq hwk
      have hw := wo6_pre h1 h2 hi
      have hc := mEnvy_at nl xss nl' l i k hw
      have b1 := wo6 h1 hi h2 (v := (k : Int))
      have b2 := wo6 h1 hi h2 (v := (i : Int))
      have hwr : IntKind.i64.wrap (wo xss l i k - wo xss l i i) = wo xss l i k - wo xss l i i := wrapI (by omega) (by omega)
      have e : frR xss l i k = decide (wo xss l i k ≤ wo xss l i i) := rfl
      by_cases hle : wo xss l i k ≤ wo xss l i i
      · have e1 : ¬ wo xss l i i < wo xss l i k := by omega
        have e2 : ¬ 0 < wo xss l i k - wo xss l i i := by omega
        have e3 : max 0 (wo xss l i k - wo xss l i i) = 0 := by omega
        have hu : upto (frR xss l i) (k + 1) := upto_succ hq (by rw [e]; simpa using hle)
        simp [List.range, List.range.loop, ints, intss, int, bool, row, frac, fracs, ← List.map_take, ← List.map_drop, hk, hwk, hc, hwr, e1, e2, e3, hu]
      · have e1 : wo xss l i i < wo xss l i k := by omega
        have e3 : max 0 (wo xss l i k - wo xss l i i) = wo xss l i k - wo xss l i i := by omega
        have e2 : 0 < wo xss l i k - wo xss l i i := by omega
        have hrf : r = false := hf (allR_no hk (by rw [e]; simpa using hle))
        simp [List.range, List.range.loop, ints, intss, int, bool, row, frac, fracs, ← List.map_take, ← List.map_drop, hk, hwk, hc, hwr, e1, e2, e3, hrf]
    · intro hq
      have hu : upto (fun i => allR xss.length (frR xss l i)) (i + 1) := upto_succ hp (allR_yes hq)
      simp [List.range, List.range.loop, ints, intss, int, bool, row, frac, fracs, ← List.map_take, ← List.map_drop, hi, hwi, hu]
  · intro hp
    have : r = true := by rw [← hr]; exact allR_yes hp
    simp [List.range, List.range.loop, ints, intss, int, bool, row, frac, fracs, ← List.map_take, ← List.map_drop, this]

theorem prT_bd {xss : List (Bool × List Int)} (h : rectB xss 3 6 100 = true) {l : List Int} (hl : l.length ≤ wid xss) : ∀ {k : Nat}, k ≤ xss.length → 0 ≤ (prT xss l k).1 ∧ (prT xss l k).1 ≤ k ∧ 1 ≤ (prT xss l k).2 ∧ (prT xss l k).2 ≤ 600 ^ k
  | 0, _ => by simp [prT]
  | k + 1, hk => by
    obtain ⟨h1, h2, h3, h4⟩ := prT_bd h hl (k := k) (by omega)
    have hb := wo6 h (i := k) (by omega) hl (v := (k : Int))
    rw [prT]
    split
    · rename_i hp
      have p1 := Int.mul_le_mul h4 hb.2 hb.1 (show (0 : Int) ≤ 600 ^ k from Int.pow_nonneg (by omega))
      have p2 := Int.mul_le_mul h3 (show (1 : Int) ≤ wo xss l k k by omega) (by omega) (by omega)
      simp only [Int.pow_succ]
      omega
    · refine ⟨h1, by omega, h3, ?_⟩
      have p0 : (0 : Int) ≤ 600 ^ k := Int.pow_nonneg (by omega)
      simp only [Int.pow_succ]
      omega
theorem prT_small {xss : List (Bool × List Int)} (h : rectB xss 3 6 100 = true) {l : List Int} (hl : l.length ≤ wid xss) {k : Nat} (hk : k ≤ xss.length) : 0 ≤ (prT xss l k).1 ∧ (prT xss l k).1 ≤ 3 ∧ 1 ≤ (prT xss l k).2 ∧ (prT xss l k).2 ≤ 216000000 := by
  have h0 := prT_bd h hl hk
  have hn := (rect_len h).1
  have hk3 : k = 0 ∨ k = 1 ∨ k = 2 ∨ k = 3 := by omega
  rcases hk3 with rfl | rfl | rfl | rfl <;> simp only [Int.pow_succ, Int.pow_zero] at h0 <;> omega

end Go.Proofs.YtakladjlnkojjaaDoor.Ax
