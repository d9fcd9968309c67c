/-
 The plain side of the goods: all full allocations by their last good, the greatest product, taking turns. Plain Lean, no program in sight.
-/
import Derived.Test.YtompijgfpeibnaaGreatDoorCG14
import Derived.Test.YtompijgfpeibnaaGreatDoorCG17
import Derived.Test.YtompijgfpeibnaaGreatDoorCB8
import Derived.Test.YtompijgfpeibnaaGreatDoorCG9
import Derived.Shelf.Bits.Mul64
namespace Go.Proofs.YtompijgfpeibnaaGreatDoor.Ax
open Go Go.RowKit
set_option linter.unusedSimpArgs false
set_option linter.unusedVariables false
def snocs (l : List Int) (k : Nat) : List (List Int) := (List.range k).map fun (i : Nat) => l ++ [(i : Int)]
theorem snocs_len {l : List Int} {k : Nat} : (snocs l k).length = k := by simp [snocs]
def snocL (n : Nat) (L : List (List Int)) : List (List Int) := L.flatMap fun l => snocs l n
theorem flatMap_cg {α β : Type} {f g : α → List β} : ∀ {l : List α}, (∀ x ∈ l, f x = g x) → l.flatMap f = l.flatMap g
 | [], _ => rfl
 | a :: l, h => by rw [List.flatMap_cons, List.flatMap_cons, h a (by simp), flatMap_cg fun x hx => h x (by simp [hx])]
theorem blocks_app {L : List (List Int)} : ∀ (m : Nat) (x : Int), blocks L x m = (List.range m).flatMap fun (i : Nat) => L.map ((x + (i : Int)) :: ·)
 | 0, _ => rfl
 | m + 1, x => by
  rw [blocks, blocks_app m, List.range_succ_eq_map, List.flatMap_cons, List.flatMap_map]
  congr 1
  ·simp
  ·apply flatMap_cg
   intro i _
   have : x + 1 + (i : Int) = x + ((i + 1 : Nat) : Int) := by omega
   rw [this]
theorem snoc_cons {n : Nat} {L : List (List Int)} {y : Int} : snocL n (L.map (y :: ·)) = (snocL n L).map (y :: ·) := by
 unfold snocL
 rw [List.flatMap_map, List.map_flatMap]
 apply flatMap_cg
 intro l _
 simp [snocs]
theorem snoc_flat {n : Nat} {l : List Nat} {f : Nat → List (List Int)} : snocL n (l.flatMap f) = l.flatMap fun i => snocL n (f i) := by
 unfold snocL
 rw [List.flatMap_assoc]
theorem allL_rng {n k : Nat} : allL 0 ((n : Int) - 1) (k + 1) = (List.range n).flatMap fun (i : Nat) => (allL 0 ((n : Int) - 1) k).map ((0 + (i : Int)) :: ·) := by
 have : ((n : Int) - 1 + 1 - 0).toNat = n := by omega
 rw [allL, this, blocks_app]
theorem allL_snoc {n : Nat} : ∀ m, allL 0 ((n : Int) - 1) (m + 1) = snocL n (allL 0 ((n : Int) - 1) m)
 | 0 => by
  rw [allL_rng]
  simp only [allL, snocL, List.flatMap_cons, List.flatMap_nil, List.append_nil, snocs, List.map_cons, List.map_nil, Int.zero_add, List.nil_append]
  rw [← List.map_eq_flatMap]
 | m + 1 => by
  have ih := allL_snoc (n := n) m
  have e1 : allL 0 ((n : Int) - 1) (m + 1 + 1) = (List.range n).flatMap fun (i : Nat) => (snocL n (allL 0 ((n : Int) - 1) m)).map ((0 + (i : Int)) :: ·) := by rw [← ih]; exact allL_rng
  have e2 : snocL n (allL 0 ((n : Int) - 1) (m + 1)) = (List.range n).flatMap fun (i : Nat) => snocL n ((allL 0 ((n : Int) - 1) m).map ((0 + (i : Int)) :: ·)) := by rw [allL_rng (k := m), snoc_flat]
  rw [e1, e2]
  apply flatMap_cg
  intro i _
  rw [snoc_cons]
theorem snocL_len {n : Nat} {L : List (List Int)} : (snocL n L).length = n * L.length := by
 unfold snocL
 induction L with
 | nil => simp
 | cons a l ih => rw [List.flatMap_cons, List.length_append, ih, snocs_len, List.length_cons, Nat.mul_add, Nat.mul_one, Nat.add_comm]
theorem allL_len {n : Nat} : ∀ m, (allL 0 ((n : Int) - 1) m).length = n ^ m
 | 0 => rfl
 | m + 1 => by rw [allL_snoc, snocL_len, allL_len m, Nat.pow_succ, Nat.mul_comm]
def frR (xss : List (Bool × List Int)) (l : List Int) (i k : Nat) : Bool := decide (wo xss l i k ≤ wo xss l i i)
def frB (xss : List (Bool × List Int)) (l : List Int) : Bool := allR xss.length fun i => allR xss.length (frR xss l i)
def prT (xss : List (Bool × List Int)) (l : List Int) : Nat → Int × Int
 | 0 => (0, 1)
 | k + 1 => if 0 < wo xss l k k then ((prT xss l k).1 + 1, (prT xss l k).2 * wo xss l k k) else prT xss l k
def prA (xss : List (Bool × List Int)) (l : List Int) : Int × Int := prT xss l xss.length
def prGt (a b : Int × Int) : Bool := decide (b.1 < a.1) || (decide (a.1 = b.1) && decide (b.2 < a.2))
def pickP (xss : List (Bool × List Int)) (o : Option (List Int)) (l : List Int) : Option (List Int) :=
 match o with
 | none => some l
 | some b => if prGt (prA xss l) (prA xss b) = true then some l else some b
def bestP (xss : List (Bool × List Int)) (L : List (List Int)) : Option (List Int) := L.foldl (pickP xss) none
theorem bestP_take {xss : List (Bool × List Int)} {L : List (List Int)} {k : Nat} (h : k < L.length) : bestP xss (L.take (k + 1)) = pickP xss (bestP xss (L.take k)) L[k] := by
 unfold bestP; rw [List.take_succ_eq_append_getElem h, List.foldl_append]; rfl
theorem bestP_mem {xss : List (Bool × List Int)} {L : List (List Int)} : ∀ {o : Option (List Int)}, ∀ b, L.foldl (pickP xss) o = some b → b ∈ L ∨ o = some b := by
 induction L with
 | nil => intro o b h; exact .inr h
 | cons a l ih =>
  intro o b h
  rw [List.foldl_cons] at h
  rcases ih b h with h | h
  ·exact .inl (List.mem_cons_of_mem _ h)
  ·unfold pickP at h
   split at h
   ·cases h; exact .inl (by simp)
   ·split at h
    ·cases h; exact .inl (by simp)
    ·exact .inr h
def cntF (xss : List (Bool × List Int)) (L : List (List Int)) : Nat := L.countP (frB xss)
theorem cntF_take {xss : List (Bool × List Int)} {L : List (List Int)} {k : Nat} (h : k < L.length) : cntF xss (L.take (k + 1)) = cntF xss (L.take k) + if frB xss L[k] = true then 1 else 0 := by
 unfold cntF; rw [List.take_succ_eq_append_getElem h, List.countP_append]; simp
theorem cntF_le {xss : List (Bool × List Int)} {L : List (List Int)} : cntF xss L ≤ L.length := List.countP_le_length
open Go Go.RowKit
set_option linter.unusedSimpArgs false
theorem implValuesOk_ok : FnOk Tryz.prog 128 (mGrid 3 6 100) := by
 refine mk_ok fun ⟨nl, xss⟩ _ => ?_
 have hG : FnsOk Tryz.prog [(219, mRect)] := .cons rectangle_ok .nil
 refine callOk_of_awp (ctx_ok eqOk hG) mixed (live := [true, false, true]) (dt := []) Tryz.func128 rfl (by kernel_rfl) (by kernel_rfl) fun w0 => ?_
 simp [Tryz.f128, List.range, List.range.loop, intss, bool, mRect_at nl xss _ _ _]
open Go Go.RowKit
set_option linter.unusedSimpArgs false
theorem wo6_bd {xss : List (Bool × List Int)} (h : rectB xss 3 6 100 = true) {i : Nat} (hi : i < xss.length) {l : List Int} {v : Int} : ∀ {m : Nat}, m ≤ wid xss → 0 ≤ woTo xss l i v m ∧ woTo xss l i v m ≤ 100 * m
 | 0, _ => by simp [woTo]
 | m + 1, hm => by
  obtain ⟨h1, h2⟩ := wo6_bd h hi (l := l) (v := v) (m := m) (by omega)
  have h4 := ent_bd h hi (k := m) (by omega)
  have hw := rect_len h
  rw [woTo]
  split
  ·rw [wrapI (by omega) (by omega)]; omega
  ·omega
theorem wo6 {xss : List (Bool × List Int)} (h : rectB xss 3 6 100 = true) {i : Nat} (hi : i < xss.length) {l : List Int} (hl : l.length ≤ wid xss) {v : Int} : 0 ≤ wo xss l i v ∧ wo xss l i v ≤ 600 := by
 have := wo6_bd h hi (l := l) (v := v) hl
 have hw := rect_len h
 unfold wo; omega
theorem wo6_pre {xss : List (Bool × List Int)} (h : rectB xss 3 6 100 = true) {l : List Int} (hl : l.length ≤ wid xss) {i : Nat} (hi : i < xss.length) : (0 : Int) ≤ (i : Int) ∧ ((i : Int)).toNat < xss.length ∧ l.length ≤ (xss.getD ((i : Int)).toNat (true, [])).2.length := by
 have hr := (rect_row h hi).1
 refine ⟨by omega, by simpa using hi, ?_⟩
 rw [Int.toNat_natCast, List.getD_eq_getElem?_getD, List.getElem?_eq_getElem hi]
 simp only [Option.getD_some]; omega
noncomputable def mEnvies : List AV → Option AV := mk (fun p => 0 ≤ p.2.2.2.2.1 ∧ p.2.2.2.2.1.toNat < p.2.1.length ∧ p.2.2.2.1.length ≤ (p.2.1.getD p.2.2.2.2.1.toNat (true, [])).2.length) (fun (p : (Bool) × (List (Bool × List Int)) × (Bool) × (List Int) × (Int) × (Int)) => [intss p.1 p.2.1, ints p.2.2.1 p.2.2.2.1, int p.2.2.2.2.1, int p.2.2.2.2.2]) (fun p => bool (decide (wo p.2.1 p.2.2.2.1 p.2.2.2.2.1.toNat p.2.2.2.2.1 < wo p.2.1 p.2.2.2.1 p.2.2.2.2.1.toNat p.2.2.2.2.2)))
theorem mEnvies_at (nl : Bool) (xss : List (Bool × List Int)) (nl' : Bool) (l : List Int) (i : Int) (k : Int) (hpre : 0 ≤ i ∧ i.toNat < xss.length ∧ l.length ≤ (xss.getD i.toNat (true, [])).2.length) : mEnvies [.sl nl 1 (xss.map row), .sl nl' 1 (l.map int), .v (.int .i64 i), .v (.int .i64 k)] = some (.v (.bool (decide (wo xss l i.toNat i < wo xss l i.toNat k)))) :=
 mk_eq (enc := fun (p : (Bool) × (List (Bool × List Int)) × (Bool) × (List Int) × (Int) × (Int)) => [intss p.1 p.2.1, ints p.2.2.1 p.2.2.2.1, int p.2.2.2.2.1, int p.2.2.2.2.2]) (x := (nl, xss, nl', l, i, k)) (by rintro ⟨a0, a1, a2, a3, a4, a5⟩ ⟨b0, b1, b2, b3, b4, b5⟩ h; simp [ints, intss, int, bool, row, frac, fracs, map_int_inj, map_row_inj, frac_inj, map_frac_inj] at h; simp [h]) hpre
theorem envies_ok : FnOk Tryz.prog 308 mEnvies := by
 refine mk_ok fun ⟨nl, xss, nl', l, i, k⟩ hp => ?_
 have hG : FnsOk Tryz.prog [(222, mWorth)] := (.cons worth_ok .nil)
 refine callOk_awp (ctx_ok eqOk hG) mixed (live := [true, true, true, true, false, false, false, false, true]) (dt := []) Tryz.func308 rfl (by kernel_rfl) (by kernel_rfl) fun w0 hlens => ?_
 have h1 := mWorth_at nl xss nl' l i k hp
 have h2 := mWorth_at nl xss nl' l i i hp
 simp [Tryz.f308, List.range, List.range.loop, ints, intss, int, bool, row, frac, fracs, ← List.map_take, ← List.map_drop, h1, h2]
noncomputable def mFree : List AV → Option AV := mk (fun p => rectB p.2.1 3 6 100 = true ∧ p.2.2.2.length ≤ wid p.2.1) (fun (p : (Bool) × (List (Bool × List Int)) × (Bool) × (List Int)) => [intss p.1 p.2.1, ints p.2.2.1 p.2.2.2]) (fun p => bool (frB p.2.1 p.2.2.2))
theorem mFree_at (nl : Bool) (xss : List (Bool × List Int)) (nl' : Bool) (l : List Int) (hpre : rectB xss 3 6 100 = true ∧ l.length ≤ wid xss) : mFree [.sl nl 1 (xss.map row), .sl nl' 1 (l.map int)] = some (.v (.bool (frB xss l))) :=
 mk_eq (enc := fun (p : (Bool) × (List (Bool × List Int)) × (Bool) × (List Int)) => [intss p.1 p.2.1, ints p.2.2.1 p.2.2.2]) (x := (nl, xss, nl', l)) (by rintro ⟨a0, a1, a2, a3⟩ ⟨b0, b1, b2, b3⟩ h; simp [ints, intss, int, bool, row, frac, fracs, map_int_inj, map_row_inj, frac_inj, map_frac_inj] at h; simp [h]) hpre
set_option maxHeartbeats 1000000 in
theorem isFree_ok : FnOk Tryz.prog 225 mFree := by
 refine mk_ok fun ⟨nl, xss, nl', l⟩ ⟨h1, h2⟩ => ?_
 simp only at h1 h2
 have hG : FnsOk Tryz.prog [(308, mEnvies)] := (.cons envies_ok .nil)
 refine callOk_awp (ctx_ok eqOk hG) mixed (live := [true, true, false, false, true, true, true, false, true, true, true, false, false, true, true, true, false, false, false, false, false, true]) (dt := []) Tryz.func225 rfl (by kernel_rfl) (by kernel_rfl) fun w0 hlens => ?_
 clear hlens
 have hlen := rect_len h1
 generalize hr : frB xss l = r
 simp [Tryz.f225, List.range, List.range.loop, ints, intss, int, bool, row, frac, fracs, ← List.map_take, ← List.map_drop]
 refine awp_range (live := [true, true, false, false, true, true, true, false, true, true, true, false, false, true, true, true, false, false, false, false, false, true]) (ctx_ok eqOk hG) mixed [true, true, false, false, false, false, false, false, true, true] (xss.length) (fun i => upto (fun i => allR xss.length (frR xss l i)) i) (fun i => ⟨[intss nl xss, ints nl' l, .junk, .junk, .junk, .junk, .junk, .junk, int xss.length, int i, .junk, .junk, .junk, .junk, .junk, .junk, .junk, .junk, .junk, .junk, .junk, .junk, .junk, .junk], []⟩) ?_ (by simp [sub, slotsLe, clean, keep, refsL, refs, once, place, renL, ren, List.replicate, int, bool, intss, ints]) ?_ ?_ ?_
 ·omega
 ·exact upto_zero
 ·intro i hi hp hwi
  have hf : allR xss.length (frR xss l i) = false → r = false := fun hf => by rw [← hr]; exact allR_no hi hf
  simp [List.range, List.range.loop, ints, intss, int, bool, row, frac, fracs, ← List.map_take, ← List.map_drop, hi, hwi]
  refine awp_range (live := [true, true, false, false, true, true, true, false, true, true, true, false, false, true, true, true, false, false, false, false, false, true]) (ctx_ok eqOk hG) mixed [true, true, false, false, false, true, false, false, true, true, false, false, false, true, true] (xss.length) (fun k => upto (frR xss l i) k) (fun k => ⟨[intss nl xss, ints nl' l, .junk, .junk, .junk, int i, .junk, .junk, int xss.length, int i, .junk, .junk, .junk, int xss.length, int k, .junk, .junk, .junk, .junk, .junk, .junk, .junk, .junk, .junk], []⟩) ?_ (by simp [sub, slotsLe, clean, keep, refsL, refs, once, place, renL, ren, List.replicate, int, bool, intss, ints]) ?_ ?_ ?_
  ·omega
  ·exact upto_zero
  ·intro k hk hq hwk
   have hw := wo6_pre h1 h2 hi
   have hc := mEnvies_at nl xss nl' l i k hw
   have b1 := wo6 h1 hi h2 (v := (k : Int))
   have b2 := wo6 h1 hi h2 (v := (i : Int))
   have hwr : IntKind.i64.wrap (wo xss l i k - wo xss l i i) = wo xss l i k - wo xss l i i := wrapI (by omega) (by omega)
   have e : frR xss l i k = decide (wo xss l i k ≤ wo xss l i i) := rfl
   by_cases hle : wo xss l i k ≤ wo xss l i i
   ·have e1 : ¬ wo xss l i i < wo xss l i k := by omega
    have e2 : ¬ 0 < wo xss l i k - wo xss l i i := by omega
    have e3 : max 0 (wo xss l i k - wo xss l i i) = 0 := by omega
    have hu : upto (frR xss l i) (k + 1) := upto_succ hq (by rw [e]; simpa using hle)
    simp [List.range, List.range.loop, ints, intss, int, bool, row, frac, fracs, ← List.map_take, ← List.map_drop, hk, hwk, hc, hwr, e1, e2, e3, hu]
   ·have e1 : wo xss l i i < wo xss l i k := by omega
    have e3 : max 0 (wo xss l i k - wo xss l i i) = wo xss l i k - wo xss l i i := by omega
    have e2 : 0 < wo xss l i k - wo xss l i i := by omega
    have hrf : r = false := hf (allR_no hk (by rw [e]; simpa using hle))
    simp [List.range, List.range.loop, ints, intss, int, bool, row, frac, fracs, ← List.map_take, ← List.map_drop, hk, hwk, hc, hwr, e1, e2, e3, hrf]
  ·intro hq
   have hu : upto (fun i => allR xss.length (frR xss l i)) (i + 1) := upto_succ hp (allR_yes hq)
   simp [List.range, List.range.loop, ints, intss, int, bool, row, frac, fracs, ← List.map_take, ← List.map_drop, hi, hwi, hu]
 ·intro hp
  have : r = true := by rw [← hr]; exact allR_yes hp
  simp [List.range, List.range.loop, ints, intss, int, bool, row, frac, fracs, ← List.map_take, ← List.map_drop, this]
theorem prT_bd {xss : List (Bool × List Int)} (h : rectB xss 3 6 100 = true) {l : List Int} (hl : l.length ≤ wid xss) : ∀ {k : Nat}, k ≤ xss.length → 0 ≤ (prT xss l k).1 ∧ (prT xss l k).1 ≤ k ∧ 1 ≤ (prT xss l k).2 ∧ (prT xss l k).2 ≤ 600 ^ k
 | 0, _ => by simp [prT]
 | k + 1, hk => by
  obtain ⟨h1, h2, h3, h4⟩ := prT_bd h hl (k := k) (by omega)
  have hb := wo6 h (i := k) (by omega) hl (v := (k : Int))
  rw [prT]
  split
  ·rename_i hp
   have p1 := Int.mul_le_mul h4 hb.2 hb.1 (show (0 : Int) ≤ 600 ^ k from Int.pow_nonneg (by omega))
   have p2 := Int.mul_le_mul h3 (show (1 : Int) ≤ wo xss l k k by omega) (by omega) (by omega)
   simp only [Int.pow_succ]
   omega
  ·refine ⟨h1, by omega, h3, ?_⟩
   have p0 : (0 : Int) ≤ 600 ^ k := Int.pow_nonneg (by omega)
   simp only [Int.pow_succ]
   omega
theorem prT_small {xss : List (Bool × List Int)} (h : rectB xss 3 6 100 = true) {l : List Int} (hl : l.length ≤ wid xss) {k : Nat} (hk : k ≤ xss.length) : 0 ≤ (prT xss l k).1 ∧ (prT xss l k).1 ≤ 3 ∧ 1 ≤ (prT xss l k).2 ∧ (prT xss l k).2 ≤ 216000000 := by
 have h0 := prT_bd h hl hk
 have hn := (rect_len h).1
 have hk3 : k = 0 ∨ k = 1 ∨ k = 2 ∨ k = 3 := by omega
 rcases hk3 with rfl | rfl | rfl | rfl <;> simp only [Int.pow_succ, Int.pow_zero] at h0 <;> omega
open Go Go.RowKit
set_option linter.unusedSimpArgs false
noncomputable def mProdS : List AV → Option AV := mk (fun p => rectB p.2.1 3 6 100 = true ∧ p.2.2.2.length ≤ wid p.2.1) (fun (p : (Bool) × (List (Bool × List Int)) × (Bool) × (List Int)) => [intss p.1 p.2.1, ints p.2.2.1 p.2.2.2]) (fun p => .tup [.v (.int .i64 (prA p.2.1 p.2.2.2).1), .v (.int .i64 (prA p.2.1 p.2.2.2).2)])
theorem mProdS_at (nl : Bool) (xss : List (Bool × List Int)) (nl' : Bool) (l : List Int) (hpre : rectB xss 3 6 100 = true ∧ l.length ≤ wid xss) : mProdS [.sl nl 1 (xss.map row), .sl nl' 1 (l.map int)] = some (.tup [.v (.int .i64 (prA xss l).1), .v (.int .i64 (prA xss l).2)]) :=
 mk_eq (enc := fun (p : (Bool) × (List (Bool × List Int)) × (Bool) × (List Int)) => [intss p.1 p.2.1, ints p.2.2.1 p.2.2.2]) (x := (nl, xss, nl', l)) (by rintro ⟨a0, a1, a2, a3⟩ ⟨b0, b1, b2, b3⟩ h; simp [ints, intss, int, bool, row, frac, fracs, map_int_inj, map_row_inj, frac_inj, map_frac_inj] at h; simp [h]) hpre
noncomputable def mProdC : List AV → Option AV := mk (fun p => rectB p.2.2.2 3 6 100 = true ∧ p.2.1.length ≤ wid p.2.2.2) (fun (p : Bool × List Int × Bool × List (Bool × List Int)) => [ints p.1 p.2.1, .fp (intss p.2.2.1 p.2.2.2) 0]) (fun p => ints false [(prA p.2.2.2 p.2.1).1, (prA p.2.2.2 p.2.1).2])
theorem mProdC_at (nl' : Bool) (l : List Int) (nl : Bool) (xss : List (Bool × List Int)) (h : rectB xss 3 6 100 = true ∧ l.length ≤ wid xss) : mProdC [.sl nl' 1 (l.map int), .fp (.sl nl 1 (xss.map row)) 0] = some (.sl false 1 [.v (.int .i64 (prA xss l).1), .v (.int .i64 (prA xss l).2)]) :=
 mk_eq (enc := fun (p : Bool × List Int × Bool × List (Bool × List Int)) => [ints p.1 p.2.1, .fp (intss p.2.2.1 p.2.2.2) 0]) (x := (nl', l, nl, xss)) (by rintro ⟨a, b, c, d⟩ ⟨e, f, g, i⟩ h; simp [ints, intss, map_int_inj, map_row_inj] at h; simp [h]) h
set_option maxHeartbeats 1000000 in
theorem mostProduct1_ok : FnOk Tryz.prog 221 mProdC := by
 refine mk_ok fun ⟨nl',l,nl,xss⟩ ⟨h1, h2⟩ => ?_
 simp only at h1 h2
 have hG : FnsOk Tryz.prog [(222, mWorth)] := (.cons worth_ok .nil)
 refine callOk_awp (ctx_ok eqOk hG) mixed (live := [true, true, false, true, true, true, true, true, false, true, true, true, false, false, false, false, false, false, false, true]) (dt := []) Tryz.func221 rfl (by kernel_rfl) (by kernel_rfl) fun w0 hlens => ?_
 clear hlens
 have hlen := rect_len h1
 have hA : prA xss l = prT xss l xss.length := rfl
 rw [hA]
 simp [Tryz.f221, List.range, List.range.loop, ints, intss, int, bool, row, frac, fracs, ← List.map_take, ← List.map_drop]
 refine awp_range (live := [true, true, false, true, true, true, true, true, false, true, true, true, false, false, false, false, false, false, false, true]) (ctx_ok eqOk hG) mixed [true, true, false, false, true, true, false, false, false, true, true] (xss.length) (fun k => True) (fun k => ⟨[ints nl' l, .fp (intss nl xss) 0, .junk, .junk, int (prT xss l k).1, int (prT xss l k).2, .junk, .junk, .junk, int xss.length, int k, .junk, .junk, .junk, .junk, .junk, .junk, .junk, .junk, .junk, .junk, .junk, .junk, .junk, .junk, .junk, .junk, .junk, .junk], []⟩) ?_ (by simp [sub, slotsLe, clean, keep, refsL, refs, once, place, renL, ren, List.replicate, int, bool, intss, ints, prT]) ?_ ?_ ?_
 ·omega
 ·trivial
 ·intro k hk _ hwk
  have hw := mWorth_at nl xss nl' l k k (wo6_pre h1 h2 hk)
  have hb := wo6 h1 hk h2 (v := (k : Int))
  obtain ⟨b1, b2, b3, b4⟩ := prT_small h1 h2 (k := k) (by omega)
  obtain ⟨c1, c2, c3, c4⟩ := prT_small h1 h2 (k := k + 1) (by omega)
  by_cases hp : 0 < wo xss l k k
  ·have e : prT xss l (k + 1) = ((prT xss l k).1 + 1, (prT xss l k).2 * wo xss l k k) := by rw [prT, if_pos hp]
   rw [e] at c1 c2 c3 c4
   have w1 : IntKind.i64.wrap ((prT xss l k).1 + 1) = (prT xss l k).1 + 1 := wrapI (by omega) (by omega)
   simp only at c3 c4
   have w2 : IntKind.i64.wrap ((prT xss l k).2 * wo xss l k k) = (prT xss l k).2 * wo xss l k k := wrapI (by omega) (by omega)
   simp [List.range, List.range.loop, ints, intss, int, bool, row, frac, fracs, ← List.map_take, ← List.map_drop, hk, hwk, hw, hp, w1, w2, e]
  ·have e : prT xss l (k + 1) = prT xss l k := by rw [prT, if_neg hp]
   simp [List.range, List.range.loop, ints, intss, int, bool, row, frac, fracs, ← List.map_take, ← List.map_drop, hk, hwk, hw, hp, e]
 ·intro _
  simp [List.range, List.range.loop, ints, intss, int, bool, row, frac, fracs, ← List.map_take, ← List.map_drop]
noncomputable def mFreeC : List AV → Option AV := mk (fun p => rectB p.2.2.2 3 6 100 = true ∧ p.2.1.length ≤ wid p.2.2.2) (fun (p : Bool × List Int × Bool × List (Bool × List Int)) => [ints p.1 p.2.1, .fp (intss p.2.2.1 p.2.2.2) 0]) (fun p => bool (frB p.2.2.2 p.2.1))
theorem mFreeC_at (nl' : Bool) (l : List Int) (nl : Bool) (xss : List (Bool × List Int)) (h : rectB xss 3 6 100 = true ∧ l.length ≤ wid xss) : mFreeC [.sl nl' 1 (l.map int), .fp (.sl nl 1 (xss.map row)) 0] = some (.v (.bool (frB xss l))) :=
 mk_eq (enc := fun (p : Bool × List Int × Bool × List (Bool × List Int)) => [ints p.1 p.2.1, .fp (intss p.2.2.1 p.2.2.2) 0]) (x := (nl', l, nl, xss)) (by rintro ⟨a, b, c, d⟩ ⟨e, f, g, i⟩ h; simp [ints, intss, map_int_inj, map_row_inj] at h; simp [h]) h
theorem countFree1_ok : FnOk Tryz.prog 224 mFreeC := by
 refine mk_ok fun ⟨nl', l, nl, xss⟩ h => ?_
 simp only at h
 have hG : FnsOk Tryz.prog [(225, mFree)] := (.cons isFree_ok .nil)
 refine callOk_awp (ctx_ok eqOk hG) mixed (live := [true, true, false, true]) (dt := []) Tryz.func224 rfl (by kernel_rfl) (by kernel_rfl) fun w0 hlens => ?_
 clear hlens
 have hf := mFree_at nl xss nl' l h
 simp [Tryz.f224, List.range, List.range.loop, ints, intss, int, bool, row, frac, fracs, ← List.map_take, ← List.map_drop, hf]
open Go Go.RowKit
set_option linter.unusedSimpArgs false
def renMul : Go.Shelf.Ren := ⟨fun _ => 333, fun x => if x = 46 then 64 else 149, fun x => x⟩
theorem lay_mul : Go.Proofs.Lays.n264 Tryz.prog renMul := {
 mixed := by kernel_rfl
 f264 := Tryz.func333.trans (congrArg some (by kernel_rfl))
 t46 := by kernel_rfl
 a46 := fun _ => run_isAgg (tyOf_ok ty64)
 z46 := fun _ => run_size (tyOf_ok ty64)
 v46 := fun _ => run_zero (tyOf_ok ty64)
 t53 := by kernel_rfl
 a53 := fun _ => run_isAgg (tyOf_ok ty149)
 z53 := fun _ => run_size (tyOf_ok ty149)
 v53 := fun _ => run_zero (tyOf_ok ty149) }
noncomputable def mMul64 : List AV → Option AV := mk (fun p => p.1 < 18446744073709551616 ∧ p.2 < 18446744073709551616) (fun (p : Nat × Nat) => [.v (.int .u64 (p.1 : Int)), .v (.int .u64 (p.2 : Int))])
 (fun p => .tup [.v (.int .u64 ((p.1 * p.2 / 18446744073709551616 : Nat) : Int)), .v (.int .u64 ((p.1 * p.2 % 18446744073709551616 : Nat) : Int))])
theorem mMul64_at (x y : Nat) (h : x < 18446744073709551616 ∧ y < 18446744073709551616) : mMul64 [.v (.int .u64 (x : Int)), .v (.int .u64 (y : Int))] = some (.tup [.v (.int .u64 ((x * y / 18446744073709551616 : Nat) : Int)), .v (.int .u64 ((x * y % 18446744073709551616 : Nat) : Int))]) :=
 mk_eq (enc := fun (p : Nat × Nat) => [.v (.int .u64 (p.1 : Int)), .v (.int .u64 (p.2 : Int))]) (x := (x, y)) (by rintro ⟨a, b⟩ ⟨c, d⟩ h; simp at h; simp [h]) h
theorem mul64_ok : FnOk Tryz.prog 333 mMul64 := by
 refine mk_ok fun ⟨x, y⟩ ⟨hx, hy⟩ => ?_
 refine ⟨⟨_, Tryz.func333, by kernel_rfl, by kernel_rfl⟩, fun w F vals hF hv => ?_⟩
 simp only [RepL, Rep] at hv
 obtain ⟨a, r1, e1, ⟨rfl, _⟩, b, r2, rfl, ⟨rfl, _⟩, rfl⟩ := hv
 have hvals : vals = #[.int .u64 (x : Int), .int .u64 (y : Int)] := by apply Array.ext'; rw [e1]
 subst hvals
 refine (Go.Proofs.Any.bits_Mul64 lay_mul x y hx hy w).mono fun e w' h => ?_
 obtain ⟨rfl, rfl⟩ := h
 refine ⟨_, fun _ => False, rfl, Frm.refl _ _, fun _ h => h.elim, ?_⟩
 simp only [Own, OwnL]
 exact ⟨_, rfl, _, _, fun _ => False, fun _ => False, rfl, fun _ h => h.elim, fun _ h => h.elim, fun _ h => h.elim, ⟨rfl, rfl⟩, _, _, fun _ => False, fun _ => False, rfl, fun _ h => h.elim, fun _ h => h.elim, fun _ h => h.elim, ⟨rfl, rfl⟩, rfl⟩
noncomputable def mMul : List AV → Option AV := mMul64
theorem mMul_at (x y : Nat) (h : x < 18446744073709551616 ∧ y < 18446744073709551616) : mMul [.v (.int .u64 (x : Int)), .v (.int .u64 (y : Int))] = some (.tup [.v (.int .u64 ((x * y / 18446744073709551616 : Nat) : Int)), .v (.int .u64 ((x * y % 18446744073709551616 : Nat) : Int))]) := mMul64_at x y h
theorem mul_ok : FnOk Tryz.prog 263 mMul := by
 unfold mMul mMul64
 refine mk_ok fun ⟨x, y⟩ h => ?_
 simp only at h
 have hG : FnsOk Tryz.prog [(333, mMul64)] := (.cons mul64_ok .nil)
 refine callOk_awp (ctx_ok eqOk hG) mixed (live := [true, true, false, false, true, true, true, true, true, true]) (dt := []) Tryz.func263 rfl (by kernel_rfl) (by kernel_rfl) fun w0 hlens => ?_
 clear hlens
 simp (config := {contextual := true}) [Tryz.f263, List.range, List.range.loop, ints, intss, int, bool, row, frac, fracs, ← List.map_take, ← List.map_drop, mMul64_at, h]
def repTo (x : Int) (n m : Nat) : List AV := List.replicate m (int x) ++ List.replicate (n - m) (int 0)
theorem repTo_len {x : Int} {n m : Nat} (h : m ≤ n) : (repTo x n m).length = n := by simp [repTo]; omega
theorem repTo_scal {x : Int} {n m : Nat} : allS (repTo x n m) = true := by
 rw [allS, List.all_eq_true]
 intro e he
 simp only [repTo, List.mem_append, List.mem_replicate] at he
 rcases he with ⟨_, rfl⟩ | ⟨_, rfl⟩ <;> rfl
theorem repTo_step {x : Int} {n m k : Nat} (_h : m + k ≤ n) (hk : k ≤ m) : (repTo x n m).take m ++ (viewEs (repTo x n m) 0 m).take k ++ (repTo x n m).drop (m + k) = repTo x n (m + k) := by
 have e1 : (repTo x n m).take m = List.replicate m (int x) := by simp [repTo]
 have e2 : viewEs (repTo x n m) 0 m = List.replicate m (int x) := by simp [viewEs, e1]
 have e3 : (repTo x n m).drop (m + k) = List.replicate (n - (m + k)) (int 0) := by
  simp [repTo, List.drop_append]; omega
 rw [e1, e2, e3, List.take_replicate, Nat.min_eq_left hk]
 simp [repTo, List.replicate_append_replicate]
theorem rep1 {a : AV} {n : Nat} : List.replicate (min 1 n) a = List.take (min 1 n) [a] := by
 rcases Nat.eq_zero_or_pos n with rfl | h
 ·simp
 ·rw [Nat.min_eq_left h]; simp
noncomputable def mRepeatI : List AV → Option AV := mk (fun p => p.2.2 ≤ 1000) (fun (p : Bool × Int × Nat) => [ints p.1 [p.2.1], int (p.2.2 : Int)]) (fun p => ints false (List.replicate p.2.2 p.2.1))
theorem mRepeatI_at (nl : Bool) (x : Int) (n : Nat) (h : n ≤ 1000) : mRepeatI [.sl nl 1 [.v (.int .i64 x)], .v (.int .i64 (n : Int))] = some (.sl false 1 ((List.replicate n x).map int)) :=
 mk_eq (enc := fun (p : Bool × Int × Nat) => [ints p.1 [p.2.1], int (p.2.2 : Int)]) (x := (nl, x, n)) (by rintro ⟨a, b, c⟩ ⟨d, e, f⟩ h; simp [ints, int] at h; obtain ⟨⟨rfl, rfl⟩, h⟩ := h; exact (by omega : c = f) ▸ rfl) h
theorem repeatI_ok : FnOk Tryz.prog 165 mRepeatI := by
 refine mk_ok fun ⟨nl, x, n⟩ hn => ?_
 simp only at hn
 have hG : FnsOk Tryz.prog [(263, mMul)] := (.cons mul_ok .nil)
 refine callOk_awp (ctx_ok eqOk hG) mixed (live := [true, true, false, false, true, true, true, true, true, false, true, false, false, false, false, false, false, false, false, false, false, false, false, false, false, false, true, false, false, false, false, false, false, false, false, false, false, true]) (dt := [(9, ⟨[], [], []⟩)]) Tryz.func165 rfl (by kernel_rfl) (by kernel_rfl) fun w0 hlens => ?_
 clear hlens
 have hw1 : IntKind.u64.wrap (n : Int) = (n : Int) := by rw [IntKind.wrap_u64]; omega
 have hw0 : IntKind.u64.wrap 1 = 1 := by decide
 have hn0 : ¬ ((n : Int) < 0) := by omega
 have hn1 : ¬ ((9223372036854775807 : Int) < (n : Int)) := by omega
 have hb : 8 * n ≤ 281474976710656 := by omega
 have hb2 : n ≤ 4611686018427387904 := by omega
 have hw2 : IntKind.i64.wrap (n : Int) = (n : Int) := wrapI (by omega) (by omega)
 have hd : (1 * n / 18446744073709551616) = 0 := by omega
 have he : (1 * n % 18446744073709551616) = n := by omega
 have hm : mMul [.v (.int .u64 1), .v (.int .u64 (n : Int))] = some (.tup [.v (.int .u64 0), .v (.int .u64 (n : Int))]) := by
  have := mMul_at 1 n (by omega)
  rw [hd, he] at this; exact this
 simp (config := {contextual := true}) [Tryz.f165, List.range, List.range.loop, ints, intss, int, bool, row, frac, fracs, ← List.map_take, ← List.map_drop, hw0, hw1, hw2, hn0, hn1, hb, hb2, hm, hn]
 refine awp_loop_of (live := [true, true, false, false, true, true, true, true, true, false, true, false, false, false, false, false, false, false, false, false, false, false, false, false, false, false, true, false, false, false, false, false, false, false, false, false, false, true]) (ctx_ok eqOk hG) mixed [false, false, false, false, false, false, false, true, true] (α := {m : Nat // m ≤ n ∧ (0 < n → 0 < m)}) (fun m => ⟨[.junk, .junk, .junk, .junk, .junk, .junk, .junk, .ref 0 [] 0 n, int (m.1 : Int), .junk, .junk, .junk, .junk, .junk, .junk, .junk, .junk, .junk, .junk, .junk, .junk, .junk, .junk, .junk, .junk, .junk, .junk, .junk, .junk, .junk, .junk, .junk, .junk, .junk, .junk, .junk, .junk, .junk, .junk, .junk, .junk, .junk, .junk, .junk, .junk, .junk, .junk, .junk], [⟨true, .sl false 1 (repTo x n m.1)⟩]⟩) (fun m => n - m.1) ⟨min 1 n, by omega⟩ (by simp [sub, slotsLe, clean, keep, refsL, refs, once, place, renL, ren, List.replicate, int, bool, repTo, rep1]) ?_
 rintro ⟨m, hmn, hm0⟩
 have hl := repTo_len (x := x) hmn
 have hsc := repTo_scal (x := x) (n := n) (m := m)
 have hst := repTo_step (x := x) (n := n) (m := m) (k := min m (n - m)) (by omega) (by omega)
 have hsc2 := allS_take (n := m) hsc
 simp only [viewEs, List.drop_zero, List.append_assoc] at hst
 have hwm : IntKind.i64.wrap ((m : Int) + ((min m (n - m) : Nat) : Int)) = ((m + min m (n - m) : Nat) : Int) := by rw [wrapI (by omega) (by omega)]; omega
 simp (config := {contextual := true}) [List.range, List.range.loop, ints, intss, int, bool, row, frac, fracs, ← List.map_take, ← List.map_drop, hl, hsc, hsc2, hmn]
 refine ⟨fun hlt => ⟨⟨m + min m (n - m), by omega⟩, ?_, ?_⟩, fun hle => ?_⟩
 ·simp only [hst, hwm]
  simp [sub, slotsLe, clean, keep, refsL, refs, once, place, renL, ren, List.replicate, int, bool]
 ·have := hm0 (by omega)
  simp only []
  omega
 ·have : m = n := by omega
  subst this
  simp [repTo, int]
end Go.Proofs.YtompijgfpeibnaaGreatDoor.Ax
