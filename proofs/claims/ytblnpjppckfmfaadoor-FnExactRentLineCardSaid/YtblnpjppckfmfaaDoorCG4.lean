/-
  Contracts: all rankings, the best choice of rooms (both programs). No condition.
-/
import Derived.Test.YtblnpjppckfmfaaDoorCG3
namespace Go.Proofs.YtblnpjppckfmfaaDoor.Ax
open Go Go.RowKit
set_option linter.unusedSimpArgs false

/-- All rankings of m, when m is in its range. -/
def allRk (m : Int) : List (Bool × List Int) := if inR 1 5 m = true then l03L m.toNat m.toNat [] else []

noncomputable def mOrdA : List AV → Option AV := mk (fun p => 1 ≤ p.length ∧ p.length ≤ 5) (fun p => [ints false p]) (fun p => .sl false 1 ((ordR p.length p).map row))
theorem mOrdA_at (l : List Int) (h : 1 ≤ l.length ∧ l.length ≤ 5) : mOrdA [.sl false 1 (l.map int)] = some (.sl false 1 ((ordR l.length l).map row)) :=
  mk_eq (enc := fun (p : List Int) => [ints false p]) (x := l) (by intro a b h; simp [ints, map_int_inj] at h; rw [h]) h
theorem ordersA_ok : FnOk Tryd.prog 91 mOrdA := by
  refine mk_ok fun l h => ?_
  exact orders_all l.length h.2 _ _ (mOrd_at l.length false l ⟨rfl, h.2, fun h => by simp at h⟩)

noncomputable def mL03S : List AV → Option (List Nat × AV) := mkV (fun m => 0 ≤ m ∧ m ≤ 5) (fun (m : Int) => [intss false [], ints false [], int m]) [0, 1] (fun m => intss false (l03L m.toNat m.toNat []))
theorem mL03S_at (m : Int) (h : 0 ≤ m ∧ m ≤ 5) : mL03S [.sl false 1 [], .sl false 1 [], .v (.int .i64 m)] = some ([0, 1], .sl false 1 ((l03L m.toNat m.toNat []).map row)) :=
  mkV_eq (enc := fun (m : Int) => [intss false [], ints false [], int m]) (x := m) (by intro a b h; simp [int] at h; rw [h]) h

theorem l03All_all : ∀ r, FnMov Tryd.prog 83 (mL03 r)
  | 0 => l03All_zero
  | r + 1 => l03All_succ (l03All_all r)

def rkB (m : Nat) : Bool := decide ((l03L m m []).length ≤ 120) && decide ((l03L m m []).length ≠ 0) && (l03L m m []).all fun r => !r.1 && rankB m r.2
theorem rkB_at : ∀ m, 1 ≤ m → m ≤ 5 → rkB m = true
  | 1, _, _ => by decide +kernel
  | 2, _, _ => by decide +kernel
  | 3, _, _ => by decide +kernel
  | 4, _, _ => by decide +kernel
  | 5, _, _ => by decide +kernel
  | 0, h, _ => by omega
  | m + 6, _, h => by omega

theorem l03L_facts {m : Nat} (h1 : 1 ≤ m) (h5 : m ≤ 5) : (l03L m m []).length ≤ 120 ∧ (l03L m m []).length ≠ 0 ∧ ∀ r ∈ l03L m m [], r.1 = false ∧ rankB m r.2 = true := by
  have := rkB_at m h1 h5
  simp only [rkB, Bool.and_eq_true, decide_eq_true_eq, List.all_eq_true, Bool.not_eq_true'] at this
  exact ⟨this.1.1, this.1.2, this.2⟩

theorem l03AllS_ok : FnMov Tryd.prog 83 mL03S := by
  refine mkV_ok fun m h => ?_
  have hl : (l03L m.toNat m.toNat []).length ≤ 100000 := by
    rcases Int.lt_or_le 0 m with h0 | h0
    · have := (l03L_facts (m := m.toNat) (by omega) (by omega)).1; omega
    · rw [show m.toNat = 0 by omega]; simp [l03L]
  exact l03All_all m.toNat _ _ _ (mL03_at m.toNat [] [] m ⟨by simp; omega, h.2, by simpa using hl⟩)

noncomputable def mAllRk : List AV → Option AV := mk (fun _ => True) (fun (p : (Int)) => [int p]) (fun p => .sl (!inR 1 5 p) 1 ((allRk p).map row))
theorem mAllRk_at (m : Int) : mAllRk [.v (.int .i64 m)] = some (.sl (!inR 1 5 m) 1 ((allRk m).map row)) :=
  mk_eq (enc := fun (p : (Int)) => [int p]) (x := (m)) (by rintro a0 b0 h; simp [ints, intss, int, bool, row, frac, fracs, map_int_inj, map_row_inj, frac_inj, map_frac_inj] at h; simp [h]) trivial

theorem implAllRankings_ok : FnOk Tryd.prog 71 mAllRk := by
  refine mk_ok fun m _ => ?_
  have hG : FnsOk Tryd.prog [(48, mWithin), (92, mIdx), (91, mOrdA)] := (.cons within_ok (.cons indices_ok (.cons ordersA_ok .nil)))
  refine callOk_awp (ctx_ok eqOk hG) mixed (live := [true, false, true, false, false, true]) (dt := []) Tryd.func71 rfl (by kernel_rfl) (by kernel_rfl) fun w0 hlens => ?_
  clear hlens
  cases h : inR 1 5 m with
  | false => simp (config := {contextual := true}) [Tryd.f71, List.range, List.range.loop, ints, intss, int, bool, row, frac, fracs, ← List.map_take, ← List.map_drop, mWithin_in, h, allRk]
  | true =>
    have h2 : 1 ≤ m ∧ m ≤ 5 := by simpa [inR] using h
    obtain ⟨n, rfl⟩ : ∃ n : Nat, m = (n : Int) := ⟨m.toNat, by omega⟩
    have hi := mIdx_at n (by omega)
    have ho := mOrdA_at (idx n) (by rw [idx_len]; omega)
    rw [idx_len, rankings_eq n (by omega) (by omega)] at ho
    have htk : List.take n ((idx n).map int) = (idx n).map int := List.take_of_length_le (by simp [idx_len])
    simp (config := {contextual := true}) [Tryd.f71, List.range, List.range.loop, ints, intss, int, bool, row, frac, fracs, ← List.map_take, ← List.map_drop, mWithin_in, h, allRk, hi, ho, idx_len, htk]

theorem specAllRankings_ok : FnOk Tryd.prog 64 mAllRk := by
  refine mk_ok fun m _ => ?_
  have hG : FnsOk Tryd.prog [(40, mWithin)] := (.cons l01In_ok .nil)
  have hM : FnsMut Tryd.prog [] := .nil
  have hV : FnsMov Tryd.prog [(83, mL03S)] := (.cons l03AllS_ok .nil)
  refine callOk_awp (ctxV_ok eqOk hG hM hV) mixed (live := [true, false, true, false, false, true]) (dt := []) Tryd.func64 rfl (by kernel_rfl) (by kernel_rfl) fun w0 hlens => ?_
  clear hlens
  cases h : inR 1 5 m with
  | false => simp (config := {contextual := true}) [Tryd.f64, List.range, List.range.loop, ints, intss, int, bool, row, frac, fracs, ← List.map_take, ← List.map_drop, List.all, mWithin_in, h, allRk]
  | true =>
    have h2 : 1 ≤ m ∧ m ≤ 5 := by simpa [inR] using h
    have ho := mL03S_at m (by omega)
    simp (config := {contextual := true}) [Tryd.f64, List.range, List.range.loop, ints, intss, int, bool, row, frac, fracs, ← List.map_take, ← List.map_drop, List.all, mWithin_in, h, allRk, ho]

/-- The place of the first best so far and how many are as good. -/
def bstep (W : Nat → Int) (k : Nat) : Option (Nat × Int) → Option (Nat × Int)
  | none => some (k, 1)
  | some (i, n) => if W i < W k then some (k, 1) else if W k = W i then some (i, n + 1) else some (i, n)
def bstTo (W : Nat → Int) : Nat → Option (Nat × Int)
  | 0 => none
  | k + 1 => bstep W k (bstTo W k)
theorem bstTo_succ {W : Nat → Int} {k : Nat} : bstTo W (k + 1) = bstep W k (bstTo W k) := rfl
theorem bstTo_facts {W : Nat → Int} : ∀ {k : Nat}, (k = 0 ∧ bstTo W k = none) ∨ ∃ i n, bstTo W k = some (i, n) ∧ 0 ≤ n ∧ n ≤ k ∧ i < k
  | 0 => .inl ⟨rfl, rfl⟩
  | k + 1 => by
    right
    rcases bstTo_facts (W := W) (k := k) with ⟨_, h0⟩ | ⟨b, n, h0, h1, h2, h3⟩
    · simp only [bstTo, bstep, h0]; exact ⟨_, _, rfl, by omega, by omega, by omega⟩
    · simp only [bstTo, bstep, h0]
      split
      · exact ⟨_, _, rfl, by omega, by omega, by omega⟩
      · split
        · exact ⟨_, _, rfl, by omega, by omega, by omega⟩
        · exact ⟨_, _, rfl, by omega, by omega, by omega⟩

/-- The k-th ranking; what it is worth. -/
def nth (L : List (Bool × List Int)) (k : Nat) : List Int := (L.getD k (true, [])).2
theorem nth_at {L : List (Bool × List Int)} {k : Nat} (h : k < L.length) : nth L k = L[k].2 := by simp [nth, List.getD_eq_getElem?_getD, h]
def wR (xss : List (Bool × List Int)) (l : List Int) : Int := awTo xss l l.length
def wK (xss L : List (Bool × List Int)) (k : Nat) : Int := wR xss (nth L k)
/-- The first best choice of rooms and how many are as good. -/
def brOf (L : List (Bool × List Int)) : Option (Nat × Int) → List Int × Int
  | none => ([], 0)
  | some (i, n) => (nth L i, n)
def bR (xss : List (Bool × List Int)) : List Int × Int := if rentB xss = true then brOf (allRk xss.length) (bstTo (wK xss (allRk xss.length)) (allRk xss.length).length) else ([], 0)

theorem rent_rm {xss : List (Bool × List Int)} (h : rentB xss = true) {l : List Int} (hl : rankB xss.length l = true) : rmPre xss l := by
  obtain ⟨h1, h2, h3⟩ := rent_facts h
  have hlen := rank_len hl
  refine ⟨by omega, fun i hi => ?_⟩
  have hr := (h3 i (by omega)).1
  have := rank_in hl hi
  rw [getD_at hi, List.getD_eq_getElem?_getD, List.getElem?_eq_getElem (by omega)]
  simp only [Option.getD_some]; omega

noncomputable def mBestRms : List AV → Option AV := mk (fun _ => True) (fun (p : (Bool) × (List (Bool × List Int))) => [intss p.1 p.2]) (fun p => .tup [.sl (!rentB p.2) 1 ((bR p.2).1.map int), .v (.int .i64 (bR p.2).2)])
theorem mBestRms_at (nl : Bool) (xss : List (Bool × List Int)) : mBestRms [.sl nl 1 (xss.map row)] = some (.tup [.sl (!rentB xss) 1 ((bR xss).1.map int), .v (.int .i64 (bR xss).2)]) :=
  mk_eq (enc := fun (p : (Bool) × (List (Bool × List Int))) => [intss p.1 p.2]) (x := (nl, xss)) (by rintro ⟨a0, a1⟩ ⟨b0, b1⟩ h; simp [ints, intss, int, bool, row, frac, fracs, map_int_inj, map_row_inj, frac_inj, map_frac_inj] at h; simp [h]) trivial
noncomputable def mL25Best : List AV → Option AV := mk (fun p => rentB p.2 = true) (fun (p : (Bool) × (List (Bool × List Int))) => [intss p.1 p.2]) (fun p => .tup [.sl (!rentB p.2) 1 ((bR p.2).1.map int), .v (.int .i64 (bR p.2).2)])
theorem mL25Best_at (nl : Bool) (xss : List (Bool × List Int)) (hpre : rentB xss = true) : mL25Best [.sl nl 1 (xss.map row)] = some (.tup [.sl (!rentB xss) 1 ((bR xss).1.map int), .v (.int .i64 (bR xss).2)]) :=
  mk_eq (enc := fun (p : (Bool) × (List (Bool × List Int))) => [intss p.1 p.2]) (x := (nl, xss)) (by rintro ⟨a0, a1⟩ ⟨b0, b1⟩ h; simp [ints, intss, int, bool, row, frac, fracs, map_int_inj, map_row_inj, frac_inj, map_frac_inj] at h; simp [h]) hpre
noncomputable def mBestRooms : List AV → Option AV := mk (fun _ => True) (fun (p : (Bool) × (List (Bool × List Int))) => [intss p.1 p.2]) (fun p => .sl (!rentB p.2) 1 ((bR p.2).1.map int))
theorem mBestRooms_at (nl : Bool) (xss : List (Bool × List Int)) : mBestRooms [.sl nl 1 (xss.map row)] = some (.sl (!rentB xss) 1 ((bR xss).1.map int)) :=
  mk_eq (enc := fun (p : (Bool) × (List (Bool × List Int))) => [intss p.1 p.2]) (x := (nl, xss)) (by rintro ⟨a0, a1⟩ ⟨b0, b1⟩ h; simp [ints, intss, int, bool, row, frac, fracs, map_int_inj, map_row_inj, frac_inj, map_frac_inj] at h; simp [h]) trivial

def apRm (m : Nat) : Option (Nat × Int) → AV
  | none => .sl true 1 []
  | some (i, _) => .ref 0 [(i, 0)] 0 m
def apQm (m : Nat) : Option (Nat × Int) → AV
  | none => .ref 0 [] 0 0
  | some (i, _) => .ref 0 [(i, 0)] 0 m
def apR (n : Nat) : Option (Nat × Int) → AV
  | none => .ref 1 [] 0 n
  | some _ => .ref 0 [] 0 n
def apQt (L : List (Bool × List Int)) : Option (Nat × Int) → List Tok
  | none => [⟨true, .sl false 1 []⟩, ⟨true, .sl false 1 (L.map row)⟩]
  | some _ => [⟨true, .sl false 1 (L.map row)⟩]
def apN : Option (Nat × Int) → AV
  | none => int 0
  | some (_, n) => int n

theorem best_facts {xss : List (Bool × List Int)} (h1 : rentB xss = true) : (allRk xss.length).length ≤ 120 ∧ (allRk xss.length).length ≠ 0 ∧ ∀ r ∈ allRk xss.length, r.1 = false ∧ rankB xss.length r.2 = true := by
  obtain ⟨r1, r2, _⟩ := rent_facts h1
  have h : allRk xss.length = l03L xss.length xss.length [] := by
    have : inR 1 5 (xss.length : Int) = true := by simp [inR]; omega
    simp [allRk, this]
  rw [h]
  exact l03L_facts r1 (by omega)

set_option maxHeartbeats 2000000 in
theorem implBestRms_ok : FnOk Tryd.prog 53 mBestRms := by
  refine mk_ok fun ⟨nl, xss⟩ _ => ?_
  have hG : FnsOk Tryd.prog [(47, mRent), (71, mAllRk), (72, mRoomV)] := (.cons implRentOk_ok (.cons implAllRankings_ok (.cons roomValue_ok .nil)))
  refine callOk_awp (ctx_ok eqOk hG) mixed (live := [true, false, true, true, true, true, false, true, false, false, true, false, false, true, true, true, true, false, false, true, false, false, false, false, false, false, false, false, false, false, false, false, true]) (dt := []) Tryd.func53 rfl (by kernel_rfl) (by kernel_rfl) fun w0 hlens => ?_
  clear hlens
  cases h1 : rentB xss with
  | false => simp (config := {contextual := true}) [Tryd.f53, List.range, List.range.loop, ints, intss, int, bool, row, frac, fracs, ← List.map_take, ← List.map_drop, mRent_at, h1, bR]
  | true =>
  obtain ⟨r1, r2, _⟩ := rent_facts h1
  obtain ⟨q1, q2, q3⟩ := best_facts h1
  have hin : inR 1 5 (xss.length : Int) = true := by simp [inR]; omega
  have hall := mAllRk_at (xss.length : Int)
  rw [hin] at hall
  have hbR : bR xss = brOf (allRk xss.length) (bstTo (wK xss (allRk xss.length)) (allRk xss.length).length) := by simp [bR, h1]
  generalize allRk xss.length = L at *
  have hfac := fun (k : Nat) => bstTo_facts (W := wK xss L) (k := k)
  simp (config := {contextual := true}) [Tryd.f53, List.range, List.range.loop, ints, intss, int, bool, row, frac, fracs, ← List.map_take, ← List.map_drop, mRent_at, h1, hall]
  refine awp_range (live := [true, false, true, true, true, true, false, true, false, false, true, false, false, true, true, true, true, false, false, true, false, false, false, false, false, false, false, false, false, false, false, false, true]) (ctx_ok eqOk hG) mixed [true, false, false, false, true, true, false, false, false, false, false, false, false, true, true, true] (L.length) (fun k => True) (fun k => ⟨[intss nl xss, .junk, .junk, .junk, apRm xss.length (bstTo (wK xss L) k), apN (bstTo (wK xss L) k), .junk, .junk, .junk, .junk, .junk, .junk, .junk, .ref 0 [] 0 L.length, int L.length, int k, .junk, .junk, .junk, .junk, .junk, .junk, .junk, .junk, .junk, .junk, .junk, .junk, .junk, .junk, .junk, .junk, .junk, .junk, .junk, .junk, .junk, .junk, .junk, .junk, .junk, .junk, .junk, .junk, .junk], [⟨true, .sl false 1 (L.map row)⟩]⟩) ?_ (by simp [sub, slotsLe, clean, keep, refsL, refs, once, place, renL, ren, List.replicate, int, bool, apRm, apN, bstTo, intss]) ?_ ?_ ?_
  · omega
  · trivial
  · intro k hk _ hwk
    have hr := q3 _ (List.getElem_mem hk)
    have hrl := hr.1
    have hv := mRoomV_at nl xss false L[k].2 (rent_rm h1 hr.2)
    have hvw : awTo xss L[k].2 L[k].2.length = wK xss L k := by rw [wK, nth_at hk]; rfl
    have hlk := rank_len hr.2
    have hlk' : L[k].2.length = xss.length := by omega
    rw [hvw] at hv
    have htk : List.take xss.length (L[k].2.map int) = L[k].2.map int := List.take_of_length_le (by simp; omega)
    have hs := bstTo_succ (W := wK xss L) (k := k)
    rcases hfac k with ⟨_, h0⟩ | ⟨i, n, h0, hn1, hn2, hi⟩
    · simp only [h0, bstep] at hs
      simp (config := {contextual := true}) [List.range, List.range.loop, ints, intss, int, bool, row, frac, fracs, ← List.map_take, ← List.map_drop, hk, hwk, h0, hs, apRm, apN, hrl, hv, hlk', htk]
      done
    · have hiL : i < L.length := by omega
      have hri := q3 _ (List.getElem_mem hiL)
      have hril := hri.1
      have hvb := mRoomV_at nl xss false L[i].2 (rent_rm h1 hri.2)
      have hvw : awTo xss L[i].2 L[i].2.length = wK xss L i := by rw [wK, nth_at hiL]; rfl
      have hli := rank_len hri.2
      have hli' : L[i].2.length = xss.length := by omega
      have htki : List.take xss.length (L[i].2.map int) = L[i].2.map int := List.take_of_length_le (by simp; omega)
      rw [hvw] at hvb
      have hwn : IntKind.i64.wrap (n + 1) = n + 1 := wrapI (by omega) (by omega)
      simp only [h0, bstep] at hs
      by_cases e1 : wK xss L i < wK xss L k
      · rw [if_pos e1] at hs
        simp (config := {contextual := true}) [List.range, List.range.loop, ints, intss, int, bool, row, frac, fracs, ← List.map_take, ← List.map_drop, hk, hwk, h0, hs, apRm, apN, hrl, hv, hvb, e1, hlk', htk, hli', htki, hiL, hril]
        done
      · rw [if_neg e1] at hs
        by_cases e2 : wK xss L k = wK xss L i
        · rw [if_pos e2] at hs
          simp (config := {contextual := true}) [List.range, List.range.loop, ints, intss, int, bool, row, frac, fracs, ← List.map_take, ← List.map_drop, hk, hwk, h0, hs, apRm, apN, hrl, hv, hvb, e1, e2, hwn, hlk', htk, hli', htki, hiL, hril]
          done
        · rw [if_neg e2] at hs
          simp (config := {contextual := true}) [List.range, List.range.loop, ints, intss, int, bool, row, frac, fracs, ← List.map_take, ← List.map_drop, hk, hwk, h0, hs, apRm, apN, hrl, hv, hvb, e1, e2, hlk', htk, hli', htki, hiL, hril]
          done
  · intro _
    rcases hfac L.length with ⟨hz, _⟩ | ⟨i, n, h0, _, _, hi⟩
    · omega
    simp only [h0, brOf, nth_at hi] at hbR
    have hri := q3 _ (List.getElem_mem hi)
    have hril := hri.1
    have hli := rank_len hri.2
    have hli' : L[i].2.length = xss.length := by omega
    have htki : List.take xss.length (L[i].2.map int) = L[i].2.map int := List.take_of_length_le (by simp; omega)
    simp (config := {contextual := true}) [List.range, List.range.loop, ints, intss, int, bool, row, frac, fracs, ← List.map_take, ← List.map_drop, h0, hbR, apRm, apN, hi, hril, hli', htki]
    done

end Go.Proofs.YtblnpjppckfmfaaDoor.Ax

/-
  Contracts: the best choice of rooms (the reference), BestRooms (both programs). No condition.
-/
namespace Go.Proofs.YtblnpjppckfmfaaDoor.Ax
open Go Go.RowKit
set_option linter.unusedSimpArgs false

set_option maxHeartbeats 2000000 in
theorem l25Best_ok : FnOk Tryd.prog 45 mL25Best := by
  refine mk_ok fun ⟨nl, xss⟩ h1 => ?_
  simp only at h1
  have hG : FnsOk Tryd.prog [(64, mAllRk), (65, mRoomV)] := (.cons specAllRankings_ok (.cons l25Value_ok .nil))
  refine callOk_awp (ctx_ok eqOk hG) mixed (live := [true, false, true, true, true, true, false, true, false, false, false, true, true, true, true, false, false, false, false, false, false, false, false, false, false, false, false, false, true, false, false, false, false, false, false, false, true]) (dt := []) Tryd.func45 rfl (by kernel_rfl) (by kernel_rfl) fun w0 hlens => ?_
  clear hlens
  obtain ⟨r1, r2, _⟩ := rent_facts h1
  obtain ⟨q1, q2, q3⟩ := best_facts h1
  have hin : inR 1 5 (xss.length : Int) = true := by simp [inR]; omega
  have hall := mAllRk_at (xss.length : Int)
  rw [hin] at hall
  have hbR : bR xss = brOf (allRk xss.length) (bstTo (wK xss (allRk xss.length)) (allRk xss.length).length) := by simp [bR, h1]
  generalize allRk xss.length = L at *
  have hfac := fun (k : Nat) => bstTo_facts (W := wK xss L) (k := k)
  simp (config := {contextual := true}) [Tryd.f45, List.range, List.range.loop, ints, intss, int, bool, row, frac, fracs, ← List.map_take, ← List.map_drop, mRent_at, h1, hall]
  refine awp_range (live := [true, false, true, true, true, true, false, true, false, false, false, true, true, true, true, false, false, false, false, false, false, false, false, false, false, false, false, false, true, false, false, false, false, false, false, false, true]) (ctx_ok eqOk hG) mixed [true, false, false, false, true, true, false, false, false, false, false, true, true, true] (L.length) (fun k => True) (fun k => ⟨[intss nl xss, .junk, .junk, .junk, apQm xss.length (bstTo (wK xss L) k), apN (bstTo (wK xss L) k), .junk, .junk, .junk, .junk, .junk, apR L.length (bstTo (wK xss L) k), int L.length, int k, .junk, .junk, .junk, .junk, .junk, .junk, .junk, .junk, .junk, .junk, .junk, .junk, .junk, .junk, .junk, .junk, .junk, .junk, .junk, .junk, .junk, .junk, .junk, .junk, .junk, .junk, .junk, .junk], apQt L (bstTo (wK xss L) k)⟩) ?_ (by simp [sub, slotsLe, clean, keep, refsL, refs, once, place, renL, ren, List.replicate, int, bool, apQm, apR, apQt, apN, bstTo, intss]) ?_ ?_ ?_
  · omega
  · trivial
  · intro k hk _ hwk
    have hr := q3 _ (List.getElem_mem hk)
    have hrl := hr.1
    have hv := mRoomV_at nl xss false L[k].2 (rent_rm h1 hr.2)
    have hvw : awTo xss L[k].2 L[k].2.length = wK xss L k := by rw [wK, nth_at hk]; rfl
    have hlk := rank_len hr.2
    have hlk' : L[k].2.length = xss.length := by omega
    rw [hvw] at hv
    have htk : List.take xss.length (L[k].2.map int) = L[k].2.map int := List.take_of_length_le (by simp; omega)
    have hx0 : ¬ xss.length = 0 := by omega
    have hw1 : IntKind.i64.wrap 1 = 1 := by decide
    have hs := bstTo_succ (W := wK xss L) (k := k)
    rcases hfac k with ⟨_, h0⟩ | ⟨i, n, h0, hn1, hn2, hi⟩
    · simp only [h0, bstep] at hs
      simp (config := {contextual := true}) [List.range, List.range.loop, ints, intss, int, bool, row, frac, fracs, ← List.map_take, ← List.map_drop, hk, hwk, h0, hs, apQm, apR, apQt, apN, hrl, hv, hlk', htk, hx0, hw1]
      done
    · have hiL : i < L.length := by omega
      have hri := q3 _ (List.getElem_mem hiL)
      have hril := hri.1
      have hvb := mRoomV_at nl xss false L[i].2 (rent_rm h1 hri.2)
      have hvw : awTo xss L[i].2 L[i].2.length = wK xss L i := by rw [wK, nth_at hiL]; rfl
      have hli := rank_len hri.2
      have hli' : L[i].2.length = xss.length := by omega
      have htki : List.take xss.length (L[i].2.map int) = L[i].2.map int := List.take_of_length_le (by simp; omega)
      rw [hvw] at hvb
      have hwn : IntKind.i64.wrap (n + 1) = n + 1 := wrapI (by omega) (by omega)
      simp only [h0, bstep] at hs
      by_cases e1 : wK xss L i < wK xss L k
      · rw [if_pos e1] at hs
        simp (config := {contextual := true}) [List.range, List.range.loop, ints, intss, int, bool, row, frac, fracs, ← List.map_take, ← List.map_drop, hk, hwk, h0, hs, apQm, apR, apQt, apN, hrl, hv, hvb, e1, hlk', htk, hli', htki, hiL, hril, hx0, hw1]
        done
      · rw [if_neg e1] at hs
        by_cases e2 : wK xss L k = wK xss L i
        · rw [if_pos e2] at hs
          simp (config := {contextual := true}) [List.range, List.range.loop, ints, intss, int, bool, row, frac, fracs, ← List.map_take, ← List.map_drop, hk, hwk, h0, hs, apQm, apR, apQt, apN, hrl, hv, hvb, e1, e2, hwn, hlk', htk, hli', htki, hiL, hril, hx0, hw1]
          done
        · rw [if_neg e2] at hs
          simp (config := {contextual := true}) [List.range, List.range.loop, ints, intss, int, bool, row, frac, fracs, ← List.map_take, ← List.map_drop, hk, hwk, h0, hs, apQm, apR, apQt, apN, hrl, hv, hvb, e1, e2, hlk', htk, hli', htki, hiL, hril, hx0, hw1]
          done
  · intro _
    rcases hfac L.length with ⟨hz, _⟩ | ⟨i, n, h0, _, _, hi⟩
    · omega
    simp only [h0, brOf, nth_at hi] at hbR
    have hri := q3 _ (List.getElem_mem hi)
    have hril := hri.1
    have hli := rank_len hri.2
    have hli' : L[i].2.length = xss.length := by omega
    have htki : List.take xss.length (L[i].2.map int) = L[i].2.map int := List.take_of_length_le (by simp; omega)
    simp (config := {contextual := true}) [List.range, List.range.loop, ints, intss, int, bool, row, frac, fracs, ← List.map_take, ← List.map_drop, h0, hbR, apQm, apR, apQt, apN, hi, hril, hli', htki]
    done

theorem implBestRooms_ok : FnOk Tryd.prog 32 mBestRooms := by
  refine mk_ok fun ⟨nl, xss⟩ _ => ?_
  have hG : FnsOk Tryd.prog [(53, mBestRms)] := (.cons implBestRms_ok .nil)
  refine callOk_awp (ctx_ok eqOk hG) mixed (live := [true, false, true, true]) (dt := []) Tryd.func32 rfl (by kernel_rfl) (by kernel_rfl) fun w0 hlens => ?_
  clear hlens
  simp (config := {contextual := true}) [Tryd.f32, List.range, List.range.loop, ints, intss, int, bool, row, frac, fracs, ← List.map_take, ← List.map_drop, mBestRms_at]
  done

theorem specBestRooms_ok : FnOk Tryd.prog 27 mBestRooms := by
  refine mk_ok fun ⟨nl, xss⟩ _ => ?_
  have hG : FnsOk Tryd.prog [(39, mRent), (45, mL25Best)] := (.cons specRentOk_ok (.cons l25Best_ok .nil))
  refine callOk_awp (ctx_ok eqOk hG) mixed (live := [true, false, true, true, false, false, false, true]) (dt := []) Tryd.func27 rfl (by kernel_rfl) (by kernel_rfl) fun w0 hlens => ?_
  clear hlens
  cases h1 : rentB xss with
  | false => simp (config := {contextual := true}) [Tryd.f27, List.range, List.range.loop, ints, intss, int, bool, row, frac, fracs, ← List.map_take, ← List.map_drop, mRent_at, h1, bR]
  | true =>
    have hb := mL25Best_at nl xss h1
    rw [h1] at hb
    simp (config := {contextual := true}) [Tryd.f27, List.range, List.range.loop, ints, intss, int, bool, row, frac, fracs, ← List.map_take, ← List.map_drop, mRent_at, h1, hb]
    done

theorem bR_len {xss : List (Bool × List Int)} : (bR xss).1.length ≤ 4 := by
  cases h1 : rentB xss with
  | false => simp [bR, h1]
  | true =>
    obtain ⟨r1, r2, _⟩ := rent_facts h1
    obtain ⟨q1, q2, q3⟩ := best_facts h1
    simp only [bR, h1, if_true]
    rcases bstTo_facts (W := wK xss (allRk xss.length)) (k := (allRk xss.length).length) with ⟨_, h0⟩ | ⟨i, n, h0, _, _, hi⟩
    · rw [h0]; simp [brOf]
    · rw [h0]
      simp only [brOf, nth_at hi]
      have := rank_len (q3 _ (List.getElem_mem hi)).2
      omega
def brP (xss : List (Bool × List Int)) : Bool × List Int := (!rentB xss, (bR xss).1)
theorem brP_at (nl : Bool) (xss : List (Bool × List Int)) : mBestRooms [.sl nl 1 (xss.map row)] = some (.sl (brP xss).1 1 ((brP xss).2.map int)) := mBestRooms_at nl xss
theorem brP_len {xss : List (Bool × List Int)} : (brP xss).2.length ≤ 2 ^ 40 := by have := bR_len (xss := xss); simp only [brP]; omega

end Go.Proofs.YtblnpjppckfmfaaDoor.Ax

/-
  The plain law of LeastRaises: if no exchange along a cycle is worth more, the raises are quiet behind as many rounds as there are people. No condition.
-/
namespace Go.Proofs.YtblnpjppckfmfaaDoor.Ax
open Go Go.RowKit
set_option linter.unusedSimpArgs false
set_option linter.unusedVariables false

/-- What a person's rent and values ask of room x at least. -/
def rlv (V : Nat → Nat → Int) (o i x : Nat) (r : List Int) : Int := IntKind.i64.wrap (IntKind.i64.wrap (at0 r o + V i x) - V i o)
def relax (V : Nat → Nat → Int) (o i x : Nat) (s : List Int × Bool) : List Int × Bool := if at0 s.1 x < rlv V o i x s.1 then (s.1.set x (rlv V o i x s.1), true) else s
def rlx (V : Nat → Nat → Int) (o i : Nat) (s : List Int × Bool) : Nat → List Int × Bool
  | 0 => s
  | k + 1 => relax V o i k (rlx V o i s k)
def rnd (V : Nat → Nat → Int) (O : Nat → Nat) (n : Nat) (s : List Int × Bool) : Nat → List Int × Bool
  | 0 => s
  | i + 1 => rlx V (O i) i (rnd V O n s i) n
def rs (V : Nat → Nat → Int) (O : Nat → Nat) (n : Nat) : Nat → List Int
  | 0 => List.replicate n 0
  | k + 1 => (rnd V O n (rs V O n k, false) n).1
def quiet (V : Nat → Nat → Int) (O : Nat → Nat) (n k : Nat) : Bool := !(rnd V O n (rs V O n k, false) n).2
/-- The raises, if they become quiet. -/
def lrF (V : Nat → Nat → Int) (O : Nat → Nat) (n : Nat) : Option (List Int) := ((List.range (n + 1)).find? (quiet V O n)).map fun k => rs V O n (k + 1)

theorem relax_len {V : Nat → Nat → Int} {o i x : Nat} {s : List Int × Bool} : (relax V o i x s).1.length = s.1.length := by unfold relax; split <;> simp
theorem rlx_len {V : Nat → Nat → Int} {o i : Nat} {s : List Int × Bool} : ∀ {k : Nat}, (rlx V o i s k).1.length = s.1.length
  | 0 => rfl
  | k + 1 => by rw [rlx, relax_len, rlx_len]
theorem rnd_len {V : Nat → Nat → Int} {O : Nat → Nat} {n : Nat} {s : List Int × Bool} : ∀ {k : Nat}, (rnd V O n s k).1.length = s.1.length
  | 0 => rfl
  | k + 1 => by rw [rnd, rlx_len, rnd_len]
theorem rs_len {V : Nat → Nat → Int} {O : Nat → Nat} {n : Nat} : ∀ {k : Nat}, (rs V O n k).length = n
  | 0 => by simp [rs]
  | k + 1 => by rw [rs, rnd_len]; exact rs_len
theorem at0_set {l : List Int} {x y : Nat} {v : Int} (hx : x < l.length) : at0 (l.set x v) y = if x = y then v else at0 l y := by
  unfold at0
  rw [List.getD_eq_getElem?_getD, List.getD_eq_getElem?_getD]
  by_cases h : x = y
  · subst h; rw [if_pos rfl, List.getElem?_set_self hx]; rfl
  · rw [if_neg h, List.getElem?_set_ne h]
theorem lrF_at {V : Nat → Nat → Int} {O : Nat → Nat} {n k : Nat} (hk : k ≤ n) (hno : ∀ j, j < k → quiet V O n j = false) (hq : quiet V O n k = true) : lrF V O n = some (rs V O n (k + 1)) := by
  unfold lrF
  have : (List.range (n + 1)).find? (quiet V O n) = some k := by
    rw [List.find?_range_eq_some]
    exact ⟨hq, by simp; omega, fun j hj => by simp [hno j hj]⟩
  rw [this]; rfl
theorem lrF_none {V : Nat → Nat → Int} {O : Nat → Nat} {n : Nat} (hno : ∀ j, j < n + 1 → quiet V O n j = false) : lrF V O n = none := by
  unfold lrF
  have : (List.range (n + 1)).find? (quiet V O n) = none := by
    rw [List.find?_eq_none]
    intro j hj
    simp [hno j (by simpa using hj)]
  rw [this]; rfl

/-- The greatest of f 0 .. f k. -/
def mxs (f : Nat → Int) : Nat → Int
  | 0 => f 0
  | k + 1 => max (mxs f k) (f (k + 1))
theorem mxs_ge {f : Nat → Int} : ∀ {k i : Nat}, i ≤ k → f i ≤ mxs f k
  | 0, i, h => by obtain rfl : i = 0 := by omega
                  exact Int.le_refl _
  | k + 1, i, h => by
    unfold mxs
    by_cases e : i = k + 1
    · subst e; omega
    · have := mxs_ge (f := f) (k := k) (i := i) (by omega)
      omega
theorem mxs_att {f : Nat → Int} : ∀ {k : Nat}, ∃ i, i ≤ k ∧ mxs f k = f i
  | 0 => ⟨0, Nat.le_refl _, rfl⟩
  | k + 1 => by
    obtain ⟨i, h1, h2⟩ := mxs_att (f := f) (k := k)
    unfold mxs
    rcases Int.le_total (mxs f k) (f (k + 1)) with h | h
    · exact ⟨k + 1, Nat.le_refl _, by omega⟩
    · exact ⟨i, by omega, by omega⟩

/-- The greatest sum of raises along so many steps. -/
def Lw (V : Nat → Nat → Int) (O : Nat → Nat) (n : Nat) : Nat → Nat → Int
  | 0, _ => 0
  | k + 1, x => mxs (fun i => Lw V O n k (O i) + (V i x - V i (O i))) (n - 1)

structure Ex (V : Nat → Nat → Int) (O : Nat → Nat) (n : Nat) : Prop where
  n1 : 1 ≤ n
  n4 : n ≤ 4
  lt : ∀ i, i < n → O i < n
  sur : ∀ x, x < n → ∃ i, i < n ∧ O i = x
  bd : ∀ i x, i < n → x < n → 0 ≤ V i x ∧ V i x ≤ 1000
  cyc : ∀ i j k l, i < n → j < n → k < n → l < n → (V i (O j) - V i (O i)) + (V j (O k) - V j (O j)) + (V k (O l) - V k (O k)) + (V l (O i) - V l (O l)) ≤ 0

section
variable {V : Nat → Nat → Int} {O : Nat → Nat} {n : Nat}
theorem Lw_ge (h : Ex V O n) {k i x : Nat} (hi : i < n) : Lw V O n k (O i) + (V i x - V i (O i)) ≤ Lw V O n (k + 1) x := mxs_ge (f := fun i => Lw V O n k (O i) + (V i x - V i (O i))) (by omega)
theorem Lw_att (h : Ex V O n) {k x : Nat} : ∃ i, i < n ∧ Lw V O n (k + 1) x = Lw V O n k (O i) + (V i x - V i (O i)) := by
  obtain ⟨i, h1, h2⟩ := mxs_att (f := fun i => Lw V O n k (O i) + (V i x - V i (O i))) (k := n - 1)
  exact ⟨i, by have := h.n1; omega, h2⟩
theorem Lw_mono (h : Ex V O n) {k x : Nat} (hx : x < n) : Lw V O n k x ≤ Lw V O n (k + 1) x := by
  obtain ⟨i, hi, rfl⟩ := h.sur x hx
  have := Lw_ge h (k := k) (x := O i) hi
  omega
theorem Lw_nonneg (h : Ex V O n) {x : Nat} (hx : x < n) : ∀ {k : Nat}, 0 ≤ Lw V O n k x
  | 0 => Int.le_refl _
  | k + 1 => Int.le_trans (Lw_nonneg h hx) (Lw_mono h hx)
theorem Lw_le (h : Ex V O n) : ∀ {k x : Nat}, x < n → Lw V O n k x ≤ 1000 * k
  | 0, _, _ => by simp [Lw]
  | k + 1, x, hx => by
    obtain ⟨i, hi, e⟩ := Lw_att h (k := k) (x := x)
    have h1 := Lw_le h (k := k) (x := O i) (h.lt i hi)
    have h2 := h.bd i x hi hx
    have h3 := h.bd i (O i) hi (h.lt i hi)
    rw [e]; push_cast; omega

/-- Longer ways are not worth more. -/
theorem Lw_fix (h : Ex V O n) {x : Nat} (hx : x < n) : Lw V O n n x ≤ Lw V O n (n - 1) x := by
  obtain ⟨i5, h5, rfl⟩ := h.sur x hx
  have hc := h.cyc
  have hge0 : ∀ i x, i < n → Lw V O n 0 (O i) + (V i x - V i (O i)) ≤ Lw V O n 1 x := fun i x hi => Lw_ge h (k := 0) (x := x) hi
  have hat0 : ∀ x, ∃ i, i < n ∧ Lw V O n 1 x = Lw V O n 0 (O i) + (V i x - V i (O i)) := fun x => Lw_att h (k := 0) (x := x)
  have hge1 : ∀ i x, i < n → Lw V O n 1 (O i) + (V i x - V i (O i)) ≤ Lw V O n 2 x := fun i x hi => Lw_ge h (k := 1) (x := x) hi
  have hat1 : ∀ x, ∃ i, i < n ∧ Lw V O n 2 x = Lw V O n 1 (O i) + (V i x - V i (O i)) := fun x => Lw_att h (k := 1) (x := x)
  have hge2 : ∀ i x, i < n → Lw V O n 2 (O i) + (V i x - V i (O i)) ≤ Lw V O n 3 x := fun i x hi => Lw_ge h (k := 2) (x := x) hi
  have hat2 : ∀ x, ∃ i, i < n ∧ Lw V O n 3 x = Lw V O n 2 (O i) + (V i x - V i (O i)) := fun x => Lw_att h (k := 2) (x := x)
  have hge3 : ∀ i x, i < n → Lw V O n 3 (O i) + (V i x - V i (O i)) ≤ Lw V O n 4 x := fun i x hi => Lw_ge h (k := 3) (x := x) hi
  have hat3 : ∀ x, ∃ i, i < n ∧ Lw V O n 4 x = Lw V O n 3 (O i) + (V i x - V i (O i)) := fun x => Lw_att h (k := 3) (x := x)
  have hz : ∀ x, Lw V O n 0 x = 0 := fun _ => rfl
  have h1 := h.n1
  have h4 := h.n4
  clear h hx
  rcases (show n = 1 ∨ n = 2 ∨ n = 3 ∨ n = 4 by omega) with rfl | rfl | rfl | rfl
  · obtain ⟨i1, g1, e1⟩ := hat0 (O i5)
    obtain rfl : i1 = i5 := by omega
    have := hz (O i1)
    show Lw V O 1 1 (O i1) ≤ Lw V O 1 0 (O i1)
    omega
  · obtain ⟨i2, g2, e2⟩ := hat1 (O i5)
    obtain ⟨i1, g1, e1⟩ := hat0 (O i2)
    have z1 := hz (O i1)
    have a1 := hge0 i1 (O i5) g1
    have a2 := hge0 i2 (O i5) g2
    have z2 := hz (O i2)
    have c1 := hc i1 i2 i1 i2 g1 g2 g1 g2
    show Lw V O 2 2 (O i5) ≤ Lw V O 2 1 (O i5)
    by_cases q1 : i1 = i2
    · subst q1; omega
    by_cases q2 : i2 = i5
    · subst q2; omega
    obtain rfl : i1 = i5 := by omega
    have a3 := hge0 i1 (O i1) g1
    omega
  · obtain ⟨i3, g3, e3⟩ := hat2 (O i5)
    obtain ⟨i2, g2, e2⟩ := hat1 (O i3)
    obtain ⟨i1, g1, e1⟩ := hat0 (O i2)
    have z1 := hz (O i1)
    show Lw V O 3 3 (O i5) ≤ Lw V O 3 2 (O i5)
    have hw : ∀ a b, a < 3 → b < 3 → (V a (O b) - V a (O a)) + (V b (O i5) - V b (O b)) ≤ Lw V O 3 2 (O i5) := fun a b ha hb => by
      have b1 := hge0 a (O b) ha
      have b2 := hge1 b (O i5) hb
      have := hz (O a)
      omega
    by_cases q1 : i1 = i2
    · subst q1; have := hw i1 i3 g1 g3; omega
    by_cases q2 : i2 = i3
    · subst q2; have := hw i1 i2 g1 g2; omega
    by_cases q3 : i3 = i5
    · subst q3; have := hw i1 i2 g1 g2; omega
    by_cases q4 : i1 = i3
    · subst q4; have := hw i1 i1 g1 g1; have := hc i1 i2 i1 i2 g1 g2 g1 g2; omega
    by_cases q5 : i2 = i5
    · subst q5; have := hw i1 i1 g1 g1; have := hc i2 i3 i2 i3 g2 g3 g2 g3; omega
    by_cases q6 : i1 = i5
    · subst q6; have := hw i1 i1 g1 g1; have := hc i1 i1 i2 i3 g1 g1 g2 g3; omega
    omega
  · obtain ⟨i4, g4, e4⟩ := hat3 (O i5)
    obtain ⟨i3, g3, e3⟩ := hat2 (O i4)
    obtain ⟨i2, g2, e2⟩ := hat1 (O i3)
    obtain ⟨i1, g1, e1⟩ := hat0 (O i2)
    have z1 := hz (O i1)
    show Lw V O 4 4 (O i5) ≤ Lw V O 4 3 (O i5)
    have hw : ∀ a b c, a < 4 → b < 4 → c < 4 → (V a (O b) - V a (O a)) + (V b (O c) - V b (O b)) + (V c (O i5) - V c (O c)) ≤ Lw V O 4 3 (O i5) := fun a b c ha hb hc => by
      have b1 := hge0 a (O b) ha
      have b2 := hge1 b (O c) hb
      have b3 := hge2 c (O i5) hc
      have := hz (O a)
      omega
    by_cases q1 : i1 = i2
    · subst q1; have := hw i1 i3 i4 g1 g3 g4; omega
    by_cases q2 : i2 = i3
    · subst q2; have := hw i1 i2 i4 g1 g2 g4; omega
    by_cases q3 : i3 = i4
    · subst q3; have := hw i1 i2 i3 g1 g2 g3; omega
    by_cases q4 : i4 = i5
    · subst q4; have := hw i1 i2 i3 g1 g2 g3; omega
    by_cases q5 : i1 = i3
    · subst q5; have := hw i1 i1 i4 g1 g1 g4; have := hc i1 i2 i1 i2 g1 g2 g1 g2; omega
    by_cases q6 : i2 = i4
    · subst q6; have := hw i1 i1 i2 g1 g1 g2; have := hc i2 i3 i2 i3 g2 g3 g2 g3; omega
    by_cases q7 : i3 = i5
    · subst q7; have := hw i1 i1 i2 g1 g1 g2; have := hc i3 i4 i3 i4 g3 g4 g3 g4; omega
    by_cases q8 : i1 = i4
    · subst q8; have := hw i1 i1 i1 g1 g1 g1; have := hc i1 i1 i2 i3 g1 g1 g2 g3; omega
    by_cases q9 : i2 = i5
    · subst q9; have := hw i1 i1 i1 g1 g1 g1; have := hc i2 i2 i3 i4 g2 g2 g3 g4; omega
    by_cases q10 : i1 = i5
    · subst q10; have := hw i1 i1 i1 g1 g1 g1; have := hc i1 i2 i3 i4 g1 g2 g3 g4; omega
    omega

/-- Between what was and what can be. -/
structure Btw (V : Nat → Nat → Int) (O : Nat → Nat) (n : Nat) (r : List Int) : Prop where
  len : r.length = n
  bd : ∀ x, x < n → 0 ≤ at0 r x ∧ at0 r x ≤ Lw V O n (n - 1) x

theorem rlv_eq (h : Ex V O n) {i x : Nat} (hi : i < n) (hx : x < n) {r : List Int} (hr : Btw V O n r) : rlv V (O i) i x r = at0 r (O i) + V i x - V i (O i) ∧ rlv V (O i) i x r ≤ Lw V O n (n - 1) x := by
  have b1 := hr.bd (O i) (h.lt i hi)
  have b2 := Lw_le h (k := n - 1) (h.lt i hi)
  have b3 := h.bd i x hi hx
  have b4 := h.bd i (O i) hi (h.lt i hi)
  have b5 := h.n4
  have e : rlv V (O i) i x r = at0 r (O i) + V i x - V i (O i) := by
    unfold rlv
    have w1 : IntKind.i64.wrap (at0 r (O i) + V i x) = at0 r (O i) + V i x := wrapI (by omega) (by omega)
    rw [w1]
    exact wrapI (by omega) (by omega)
  refine ⟨e, ?_⟩
  have c1 := Lw_ge h (k := n - 1) (x := x) hi
  have c2 := Lw_fix h hx
  have e2 : n - 1 + 1 = n := by have := h.n1; omega
  rw [e2] at c1
  rw [e]; omega

theorem relax_ok (h : Ex V O n) {i x : Nat} (hi : i < n) (hx : x < n) {s : List Int × Bool} (hr : Btw V O n s.1) :
    Btw V O n (relax V (O i) i x s).1 ∧ (∀ y, at0 s.1 y ≤ at0 (relax V (O i) i x s).1 y) ∧ at0 s.1 (O i) + (V i x - V i (O i)) ≤ at0 (relax V (O i) i x s).1 x := by
  obtain ⟨e1, e2⟩ := rlv_eq h hi hx hr
  unfold relax
  split
  · rename_i hlt
    have hxl : x < s.1.length := by rw [hr.len]; exact hx
    have hset := fun y => at0_set (l := s.1) (x := x) (y := y) (v := rlv V (O i) i x s.1) hxl
    refine ⟨⟨by simpa using hr.len, fun y hy => ?_⟩, fun y => ?_, ?_⟩
    · simp only [hset y]
      have := hr.bd y hy
      have := hr.bd x hx
      split
      · rename_i e; subst e; omega
      · omega
    · simp only [hset y]
      split
      · rename_i e; subst e; omega
      · omega
    · simp only [hset x, if_true]; omega
  · exact ⟨hr, fun y => Int.le_refl _, by omega⟩

theorem rlx_ok (h : Ex V O n) {i : Nat} (hi : i < n) {s : List Int × Bool} (hr : Btw V O n s.1) : ∀ {k : Nat}, k ≤ n →
    Btw V O n (rlx V (O i) i s k).1 ∧ (∀ y, at0 s.1 y ≤ at0 (rlx V (O i) i s k).1 y) ∧ ∀ x, x < k → at0 s.1 (O i) + (V i x - V i (O i)) ≤ at0 (rlx V (O i) i s k).1 x
  | 0, _ => ⟨hr, fun _ => Int.le_refl _, fun x hx => by omega⟩
  | k + 1, hk => by
    obtain ⟨a1, a2, a3⟩ := rlx_ok h hi hr (k := k) (by omega)
    obtain ⟨b1, b2, b3⟩ := relax_ok h hi (x := k) (by omega) a1
    refine ⟨b1, fun y => Int.le_trans (a2 y) (b2 y), fun x hx => ?_⟩
    by_cases e : x = k
    · subst e
      have := a2 (O i)
      exact Int.le_trans (by omega) b3
    · exact Int.le_trans (a3 x (by omega)) (b2 x)

theorem rnd_ok (h : Ex V O n) {s : List Int × Bool} (hr : Btw V O n s.1) : ∀ {k : Nat}, k ≤ n →
    Btw V O n (rnd V O n s k).1 ∧ (∀ y, at0 s.1 y ≤ at0 (rnd V O n s k).1 y) ∧ ∀ i x, i < k → x < n → at0 s.1 (O i) + (V i x - V i (O i)) ≤ at0 (rnd V O n s k).1 x
  | 0, _ => ⟨hr, fun _ => Int.le_refl _, fun i x hi => by omega⟩
  | k + 1, hk => by
    obtain ⟨a1, a2, a3⟩ := rnd_ok h hr (k := k) (by omega)
    obtain ⟨b1, b2, b3⟩ := rlx_ok h (i := k) (by omega) a1 (Nat.le_refl n)
    refine ⟨b1, fun y => Int.le_trans (a2 y) (b2 y), fun i x hi hx => ?_⟩
    by_cases e : i = k
    · subst e
      have := a2 (O i)
      exact Int.le_trans (by omega) (b3 x hx)
    · exact Int.le_trans (a3 i x (by omega) hx) (b2 x)

theorem rs_ok (h : Ex V O n) : ∀ k, Btw V O n (rs V O n k) ∧ ∀ x, x < n → Lw V O n k x ≤ at0 (rs V O n k) x
  | 0 => by
    have hz : ∀ x, x < n → at0 (rs V O n 0) x = 0 := fun x hx => by
      unfold rs at0
      rw [List.getD_eq_getElem?_getD, List.getElem?_replicate, if_pos hx]; rfl
    exact ⟨⟨rs_len, fun x hx => by rw [hz x hx]; exact ⟨Int.le_refl _, Lw_nonneg h hx⟩⟩, fun x hx => by rw [hz x hx]; exact Int.le_refl _⟩
  | k + 1 => by
    obtain ⟨a1, a2⟩ := rs_ok h k
    obtain ⟨b1, b2, b3⟩ := rnd_ok h (s := (rs V O n k, false)) a1 (Nat.le_refl n)
    refine ⟨b1, fun x hx => ?_⟩
    obtain ⟨i, hi, e⟩ := Lw_att h (k := k) (x := x)
    rw [e]
    have := a2 (O i) (h.lt i hi)
    have b4 : at0 (rs V O n k) (O i) + (V i x - V i (O i)) ≤ at0 (rs V O n (k + 1)) x := b3 i x hi hx
    omega

theorem rlx_stay (h : Ex V O n) {i : Nat} (hi : i < n) {s : List Int × Bool} (hr : Btw V O n s.1) (he : ∀ x, x < n → at0 s.1 x = Lw V O n (n - 1) x) : ∀ {k : Nat}, k ≤ n → rlx V (O i) i s k = s
  | 0, _ => rfl
  | k + 1, hk => by
    have hkn : k < n := hk
    rw [rlx, rlx_stay h hi hr he (k := k) (by omega)]
    have := (rlv_eq h hi hkn hr).2
    unfold relax
    rw [if_neg (by have := he k hkn; omega)]
theorem rnd_stay (h : Ex V O n) {s : List Int × Bool} (hr : Btw V O n s.1) (he : ∀ x, x < n → at0 s.1 x = Lw V O n (n - 1) x) : ∀ {k : Nat}, k ≤ n → rnd V O n s k = s
  | 0, _ => rfl
  | k + 1, hk => by
    rw [rnd, rnd_stay h hr he (k := k) (by omega)]
    exact rlx_stay h (i := k) (by omega) hr he (Nat.le_refl n)

theorem quiet_at (h : Ex V O n) : quiet V O n (n - 1) = true := by
  obtain ⟨a1, a2⟩ := rs_ok h (n - 1)
  have he : ∀ x, x < n → at0 (rs V O n (n - 1)) x = Lw V O n (n - 1) x := fun x hx => by
    have h1 := a2 x hx
    have h2 := (a1.bd x hx).2
    omega
  unfold quiet
  rw [rnd_stay h (s := (rs V O n (n - 1), false)) a1 he (Nat.le_refl n)]
  rfl

/-- Behind a best choice the raises become quiet. -/
theorem lrF_some (h : Ex V O n) : ∃ r, lrF V O n = some r ∧ r.length = n ∧ ∀ x, x < n → 0 ≤ at0 r x ∧ at0 r x ≤ 4000 := by
  have hq := quiet_at h
  unfold lrF
  cases hf : (List.range (n + 1)).find? (quiet V O n) with
  | none =>
    rw [List.find?_eq_none] at hf
    exact absurd hq (hf (n - 1) (by simp; omega))
  | some k =>
    refine ⟨rs V O n (k + 1), rfl, rs_len, fun x hx => ?_⟩
    have h1 := (rs_ok h (k + 1)).1.bd x hx
    have h2 := Lw_le h (k := n - 1) hx
    have h3 := h.n4
    omega
end

end Go.Proofs.YtblnpjppckfmfaaDoor.Ax
