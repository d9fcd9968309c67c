/-
  Contracts: all rankings, the best choice of rooms (both programs). No condition.
-/
import Derived.Test.YtpjejdebdhgngaaCG62
namespace Go.Proofs.Ytpjejdebdhgngaa.Ax
open Go Go.RowKit
set_option linter.unusedSimpArgs false

/-- All rankings of m, when m is in its range. -/
def allRk (m : Int) : List (Bool × List Int) := if inR 1 5 m = true then l03L m.toNat m.toNat [] else []

noncomputable def mOrdA : List AV → Option AV := mk (fun p => 1 ≤ p.length ∧ p.length ≤ 5) (fun p => [ints false p]) (fun p => .sl false 1 ((ordR p.length p).map row))
theorem mOrdA_at (l : List Int) (h : 1 ≤ l.length ∧ l.length ≤ 5) : mOrdA [.sl false 1 (l.map int)] = some (.sl false 1 ((ordR l.length l).map row)) :=
  mk_eq (enc := fun (p : List Int) => [ints false p]) (x := l) (by intro a b h; simp [ints, map_int_inj] at h; rw [h]) h
theorem ordersA_ok : FnOk Try.prog 120 mOrdA := by
  refine mk_ok fun l h => ?_
  exact orders_all l.length h.2 _ _ (mOrd_at l.length false l ⟨rfl, h.2, fun h => by simp at h⟩)

noncomputable def mL03S : List AV → Option (List Nat × AV) := mkV (fun m => 0 ≤ m ∧ m ≤ 5) (fun (m : Int) => [intss false [], ints false [], int m]) [0, 1] (fun m => intss false (l03L m.toNat m.toNat []))
theorem mL03S_at (m : Int) (h : 0 ≤ m ∧ m ≤ 5) : mL03S [.sl false 1 [], .sl false 1 [], .v (.int .i64 m)] = some ([0, 1], .sl false 1 ((l03L m.toNat m.toNat []).map row)) :=
  mkV_eq (enc := fun (m : Int) => [intss false [], ints false [], int m]) (x := m) (by intro a b h; simp [int] at h; rw [h]) h

theorem l03All_all : ∀ r, FnMov Try.prog 118 (mL03 r)
  | 0 => l03All_zero
  | r + 1 => l03All_succ (l03All_all r)

def rkB (m : Nat) : Bool := decide ((l03L m m []).length ≤ 120) && decide ((l03L m m []).length ≠ 0) && (l03L m m []).all fun r => !r.1 && rankB m r.2
theorem rkB_at : ∀ m, 1 ≤ m → m ≤ 5 → rkB m = true
  | 1, _, _ => by decide +kernel
  | 2, _, _ => by decide +kernel
  | 3, _, _ => by decide +kernel
  | 4, _, _ => by decide +kernel
  | 5, _, _ => by decide +kernel
  | 0, h, _ => by omega
  | m + 6, _, h => by omega

theorem l03L_facts {m : Nat} (h1 : 1 ≤ m) (h5 : m ≤ 5) : (l03L m m []).length ≤ 120 ∧ (l03L m m []).length ≠ 0 ∧ ∀ r ∈ l03L m m [], r.1 = false ∧ rankB m r.2 = true := by
  have := rkB_at m h1 h5
  simp only [rkB, Bool.and_eq_true, decide_eq_true_eq, List.all_eq_true, Bool.not_eq_true'] at this
  exact ⟨this.1.1, this.1.2, this.2⟩

theorem l03AllS_ok : FnMov Try.prog 118 mL03S := by
  refine mkV_ok fun m h => ?_
  have hl : (l03L m.toNat m.toNat []).length ≤ 100000 := by
    rcases Int.lt_or_le 0 m with h0 | h0
    · have := (l03L_facts (m := m.toNat) (by omega) (by omega)).1; omega
    · rw [show m.toNat = 0 by omega]; simp [l03L]
  exact l03All_all m.toNat _ _ _ (mL03_at m.toNat [] [] m ⟨by simp; omega, h.2, by simpa using hl⟩)

noncomputable def mAllRk : List AV → Option AV := mk (fun _ => True) (fun (p : (Int)) => [int p]) (fun p => .sl (!inR 1 5 p) 1 ((allRk p).map row))
theorem mAllRk_at (m : Int) : mAllRk [.v (.int .i64 m)] = some (.sl (!inR 1 5 m) 1 ((allRk m).map row)) :=
  mk_eq (enc := fun (p : (Int)) => [int p]) (x := (m)) (by rintro a0 b0 h; simp [ints, intss, int, bool, row, frac, fracs, map_int_inj, map_row_inj, frac_inj, map_frac_inj] at h; simp [h]) trivial

theorem implAllRankings_ok : FnOk Try.prog 79 mAllRk := by
  refine mk_ok fun m _ => ?_
  have hG : FnsOk Try.prog [(50, mWithin), (89, mIdx), (120, mOrdA)] := (.cons within_ok (.cons indices_ok (.cons ordersA_ok .nil)))
  refine callOk_awp (ctx_ok eqOk hG) mixed (live := [true, false, true, false, false, true]) (dt := []) Try.func79 rfl (by kernel_rfl) (by kernel_rfl) fun w0 hlens => ?_
  clear hlens
  cases h : inR 1 5 m with
  | false => simp (config := {contextual := true}) [Try.f79, List.range, List.range.loop, ints, intss, int, bool, row, frac, fracs, ← List.map_take, ← List.map_drop, mWithin_in, h, allRk]
  | true =>
    have h2 : 1 ≤ m ∧ m ≤ 5 := by simpa [inR] using h
    obtain ⟨n, rfl⟩ : ∃ n : Nat, m = (n : Int) := ⟨m.toNat, by omega⟩
    have hi := mIdx_at n (by omega)
    have ho := mOrdA_at (idx n) (by rw [idx_len]; omega)
    rw [idx_len, rankings_eq n (by omega) (by omega)] at ho
    have htk : List.take n ((idx n).map int) = (idx n).map int := List.take_of_length_le (by simp [idx_len])
    simp (config := {contextual := true}) [Try.f79, List.range, List.range.loop, ints, intss, int, bool, row, frac, fracs, ← List.map_take, ← List.map_drop, mWithin_in, h, allRk, hi, ho, idx_len, htk]

theorem specAllRankings_ok : FnOk Try.prog 76 mAllRk := by
  refine mk_ok fun m _ => ?_
  have hG : FnsOk Try.prog [(43, mWithin)] := (.cons l01In_ok .nil)
  have hM : FnsMut Try.prog [] := .nil
  have hV : FnsMov Try.prog [(118, mL03S)] := (.cons l03AllS_ok .nil)
  refine callOk_awp (ctxV_ok eqOk hG hM hV) mixed (live := [true, false, true, false, false, true]) (dt := []) Try.func76 rfl (by kernel_rfl) (by kernel_rfl) fun w0 hlens => ?_
  clear hlens
  cases h : inR 1 5 m with
  | false => simp (config := {contextual := true}) [Try.f76, List.range, List.range.loop, ints, intss, int, bool, row, frac, fracs, ← List.map_take, ← List.map_drop, List.all, mWithin_in, h, allRk]
  | true =>
    have h2 : 1 ≤ m ∧ m ≤ 5 := by simpa [inR] using h
    have ho := mL03S_at m (by omega)
    simp (config := {contextual := true}) [Try.f76, List.range, List.range.loop, ints, intss, int, bool, row, frac, fracs, ← List.map_take, ← List.map_drop, List.all, mWithin_in, h, allRk, ho]

/-- The place of the first best so far and how many are as good. -/
def bstep (W : Nat → Int) (k : Nat) : Option (Nat × Int) → Option (Nat × Int)
  | none => some (k, 1)
  | some (i, n) => if W i < W k then some (k, 1) else if W k = W i then some (i, n + 1) else some (i, n)
def bstTo (W : Nat → Int) : Nat → Option (Nat × Int)
  | 0 => none
  | k + 1 => bstep W k (bstTo W k)
theorem bstTo_succ {W : Nat → Int} {k : Nat} : bstTo W (k + 1) = bstep W k (bstTo W k) := rfl
theorem bstTo_facts {W : Nat → Int} : ∀ {k : Nat}, (k = 0 ∧ bstTo W k = none) ∨ ∃ i n, bstTo W k = some (i, n) ∧ 0 ≤ n ∧ n ≤ k ∧ i < k
  | 0 => .inl ⟨rfl, rfl⟩
  | k + 1 => by
    right
    rcases bstTo_facts (W := W) (k := k) with ⟨_, h0⟩ | ⟨b, n, h0, h1, h2, h3⟩
    · simp only [bstTo, bstep, h0]; exact ⟨_, _, rfl, by omega, by omega, by omega⟩
    · simp only [bstTo, bstep, h0]
      split
      · exact ⟨_, _, rfl, by omega, by omega, by omega⟩
      · split
        · exact ⟨_, _, rfl, by omega, by omega, by omega⟩
        · exact ⟨_, _, rfl, by omega, by omega, by omega⟩

/-- The k-th ranking; what it is worth. -/
def nth (L : List (Bool × List Int)) (k : Nat) : List Int := (L.getD k (true, [])).2
theorem nth_at {L : List (Bool × List Int)} {k : Nat} (h : k < L.length) : nth L k = L[k].2 := by simp [nth, List.getD_eq_getElem?_getD, h]
def wR (xss : List (Bool × List Int)) (l : List Int) : Int := awTo xss l l.length
def wK (xss L : List (Bool × List Int)) (k : Nat) : Int := wR xss (nth L k)
/-- The first best choice of rooms and how many are as good. -/
def brOf (L : List (Bool × List Int)) : Option (Nat × Int) → List Int × Int
  | none => ([], 0)
  | some (i, n) => (nth L i, n)
def bR (xss : List (Bool × List Int)) : List Int × Int := if rentB xss = true then brOf (allRk xss.length) (bstTo (wK xss (allRk xss.length)) (allRk xss.length).length) else ([], 0)

theorem rent_rm {xss : List (Bool × List Int)} (h : rentB xss = true) {l : List Int} (hl : rankB xss.length l = true) : rmPre xss l := by
  obtain ⟨h1, h2, h3⟩ := rent_facts h
  have hlen := rank_len hl
  refine ⟨by omega, fun i hi => ?_⟩
  have hr := (h3 i (by omega)).1
  have := rank_in hl hi
  rw [getD_at hi, List.getD_eq_getElem?_getD, List.getElem?_eq_getElem (by omega)]
  simp only [Option.getD_some]; omega

noncomputable def mBestRms : List AV → Option AV := mk (fun _ => True) (fun (p : (Bool) × (List (Bool × List Int))) => [intss p.1 p.2]) (fun p => .tup [.sl (!rentB p.2) 1 ((bR p.2).1.map int), .v (.int .i64 (bR p.2).2)])
theorem mBestRms_at (nl : Bool) (xss : List (Bool × List Int)) : mBestRms [.sl nl 1 (xss.map row)] = some (.tup [.sl (!rentB xss) 1 ((bR xss).1.map int), .v (.int .i64 (bR xss).2)]) :=
  mk_eq (enc := fun (p : (Bool) × (List (Bool × List Int))) => [intss p.1 p.2]) (x := (nl, xss)) (by rintro ⟨a0, a1⟩ ⟨b0, b1⟩ h; simp [ints, intss, int, bool, row, frac, fracs, map_int_inj, map_row_inj, frac_inj, map_frac_inj] at h; simp [h]) trivial
noncomputable def mL25Best : List AV → Option AV := mk (fun p => rentB p.2 = true) (fun (p : (Bool) × (List (Bool × List Int))) => [intss p.1 p.2]) (fun p => .tup [.sl (!rentB p.2) 1 ((bR p.2).1.map int), .v (.int .i64 (bR p.2).2)])
theorem mL25Best_at (nl : Bool) (xss : List (Bool × List Int)) (hpre : rentB xss = true) : mL25Best [.sl nl 1 (xss.map row)] = some (.tup [.sl (!rentB xss) 1 ((bR xss).1.map int), .v (.int .i64 (bR xss).2)]) :=
  mk_eq (enc := fun (p : (Bool) × (List (Bool × List Int))) => [intss p.1 p.2]) (x := (nl, xss)) (by rintro ⟨a0, a1⟩ ⟨b0, b1⟩ h; simp [ints, intss, int, bool, row, frac, fracs, map_int_inj, map_row_inj, frac_inj, map_frac_inj] at h; simp [h]) hpre
noncomputable def mBestRooms : List AV → Option AV := mk (fun _ => True) (fun (p : (Bool) × (List (Bool × List Int))) => [intss p.1 p.2]) (fun p => .sl (!rentB p.2) 1 ((bR p.2).1.map int))
theorem mBestRooms_at (nl : Bool) (xss : List (Bool × List Int)) : mBestRooms [.sl nl 1 (xss.map row)] = some (.sl (!rentB xss) 1 ((bR xss).1.map int)) :=
  mk_eq (enc := fun (p : (Bool) × (List (Bool × List Int))) => [intss p.1 p.2]) (x := (nl, xss)) (by rintro ⟨a0, a1⟩ ⟨b0, b1⟩ h; simp [ints, intss, int, bool, row, frac, fracs, map_int_inj, map_row_inj, frac_inj, map_frac_inj] at h; simp [h]) trivial

def apP (m : Nat) : Option (Nat × Int) → AV
  | none => .sl true 1 []
  | some (i, _) => .ref 0 [(i, 0)] 0 m
def apQ (m : Nat) : Option (Nat × Int) → AV
  | none => .ref 0 [] 0 0
  | some (i, _) => .ref 0 [(i, 0)] 0 m
def apR (n : Nat) : Option (Nat × Int) → AV
  | none => .ref 1 [] 0 n
  | some _ => .ref 0 [] 0 n
def apQt (L : List (Bool × List Int)) : Option (Nat × Int) → List Tok
  | none => [⟨true, .sl false 1 []⟩, ⟨true, .sl false 1 (L.map row)⟩]
  | some _ => [⟨true, .sl false 1 (L.map row)⟩]
def apN : Option (Nat × Int) → AV
  | none => int 0
  | some (_, n) => int n

theorem best_facts {xss : List (Bool × List Int)} (h1 : rentB xss = true) : (allRk xss.length).length ≤ 120 ∧ (allRk xss.length).length ≠ 0 ∧ ∀ r ∈ allRk xss.length, r.1 = false ∧ rankB xss.length r.2 = true := by
  obtain ⟨r1, r2, _⟩ := rent_facts h1
  have h : allRk xss.length = l03L xss.length xss.length [] := by
    have : inR 1 5 (xss.length : Int) = true := by simp [inR]; omega
    simp [allRk, this]
  rw [h]
  exact l03L_facts r1 (by omega)

set_option maxHeartbeats 2000000 in
theorem implBestRms_ok : FnOk Try.prog 101 mBestRms := by
  refine mk_ok fun ⟨nl, xss⟩ _ => ?_
  have hG : FnsOk Try.prog [(49, mRent), (79, mAllRk), (138, mRoomV)] := (.cons implRentOk_ok (.cons implAllRankings_ok (.cons roomValue_ok .nil)))
  refine callOk_awp (ctx_ok eqOk hG) mixed (live := [true, false, true, true, true, true, false, true, false, false, true, false, false, true, true, true, true, false, false, true, false, false, false, false, false, false, false, false, false, false, false, false, true]) (dt := []) Try.func101 rfl (by kernel_rfl) (by kernel_rfl) fun w0 hlens => ?_
  clear hlens
  cases h1 : rentB xss with
  | false => simp (config := {contextual := true}) [Try.f101, List.range, List.range.loop, ints, intss, int, bool, row, frac, fracs, ← List.map_take, ← List.map_drop, mRent_at, h1, bR]
  | true =>
  obtain ⟨r1, r2, _⟩ := rent_facts h1
  obtain ⟨q1, q2, q3⟩ := best_facts h1
  have hin : inR 1 5 (xss.length : Int) = true := by simp [inR]; omega
  have hall := mAllRk_at (xss.length : Int)
  rw [hin] at hall
  have hbR : bR xss = brOf (allRk xss.length) (bstTo (wK xss (allRk xss.length)) (allRk xss.length).length) := by simp [bR, h1]
  generalize allRk xss.length = L at *
  have hfac := fun (k : Nat) => bstTo_facts (W := wK xss L) (k := k)
  simp (config := {contextual := true}) [Try.f101, List.range, List.range.loop, ints, intss, int, bool, row, frac, fracs, ← List.map_take, ← List.map_drop, mRent_at, h1, hall]
  refine awp_range (live := [true, false, true, true, true, true, false, true, false, false, true, false, false, true, true, true, true, false, false, true, false, false, false, false, false, false, false, false, false, false, false, false, true]) (ctx_ok eqOk hG) mixed [true, false, false, false, true, true, false, false, false, false, false, false, false, true, true, true] (L.length) (fun k => True) (fun k => ⟨[intss nl xss, .junk, .junk, .junk, apP xss.length (bstTo (wK xss L) k), apN (bstTo (wK xss L) k), .junk, .junk, .junk, .junk, .junk, .junk, .junk, .ref 0 [] 0 L.length, int L.length, int k, .junk, .junk, .junk, .junk, .junk, .junk, .junk, .junk, .junk, .junk, .junk, .junk, .junk, .junk, .junk, .junk, .junk, .junk, .junk, .junk, .junk, .junk, .junk, .junk, .junk, .junk, .junk, .junk, .junk], [⟨true, .sl false 1 (L.map row)⟩]⟩) ?_ (by simp [sub, slotsLe, clean, keep, refsL, refs, once, place, renL, ren, List.replicate, int, bool, apP, apN, bstTo, intss]) ?_ ?_ ?_
  · omega
  · trivial
  · intro k hk _ hwk
    have hr := q3 _ (List.getElem_mem hk)
    have hrl := hr.1
    have hv := mRoomV_at nl xss false L[k].2 (rent_rm h1 hr.2)
    have hvw : awTo xss L[k].2 L[k].2.length = wK xss L k := by rw [wK, nth_at hk]; rfl
    have hlk := rank_len hr.2
    have hlk' : L[k].2.length = xss.length := by omega
    rw [hvw] at hv
    have htk : List.take xss.length (L[k].2.map int) = L[k].2.map int := List.take_of_length_le (by simp; omega)
    have hs := bstTo_succ (W := wK xss L) (k := k)
    rcases hfac k with ⟨_, h0⟩ | ⟨i, n, h0, hn1, hn2, hi⟩
    · simp only [h0, bstep] at hs
      simp (config := {contextual := true}) [List.range, List.range.loop, ints, intss, int, bool, row, frac, fracs, ← List.map_take, ← List.map_drop, hk, hwk, h0, hs, apP, apN, hrl, hv, hlk', htk]
      done
    · have hiL : i < L.length := by omega
      have hri := q3 _ (List.getElem_mem hiL)
      have hril := hri.1
      have hvb := mRoomV_at nl xss false L[i].2 (rent_rm h1 hri.2)
      have hvw : awTo xss L[i].2 L[i].2.length = wK xss L i := by rw [wK, nth_at hiL]; rfl
      have hli := rank_len hri.2
      have hli' : L[i].2.length = xss.length := by omega
      have htki : List.take xss.length (L[i].2.map int) = L[i].2.map int := List.take_of_length_le (by simp; omega)
      rw [hvw] at hvb
      have hwn : IntKind.i64.wrap (n + 1) = n + 1 := wrapI (by omega) (by omega)
      simp only [h0, bstep] at hs
      by_cases e1 : wK xss L i < wK xss L k
      · rw [if_pos e1] at hs
        simp (config := {contextual := true}) [List.range, List.range.loop, ints, intss, int, bool, row, frac, fracs, ← List.map_take, ← List.map_drop, hk, hwk, h0, hs, apP, apN, hrl, hv, hvb, e1, hlk', htk, hli', htki, hiL, hril]
        done
      · rw [if_neg e1] at hs
        by_cases e2 : wK xss L k = wK xss L i
        · rw [if_pos e2] at hs
          simp (config := {contextual := true}) [List.range, List.range.loop, ints, intss, int, bool, row, frac, fracs, ← List.map_take, ← List.map_drop, hk, hwk, h0, hs, apP, apN, hrl, hv, hvb, e1, e2, hwn, hlk', htk, hli', htki, hiL, hril]
          done
        · rw [if_neg e2] at hs
          simp (config := {contextual := true}) [List.range, List.range.loop, ints, intss, int, bool, row, frac, fracs, ← List.map_take, ← List.map_drop, hk, hwk, h0, hs, apP, apN, hrl, hv, hvb, e1, e2, hlk', htk, hli', htki, hiL, hril]
          done
  · intro _
    rcases hfac L.length with ⟨hz, _⟩ | ⟨i, n, h0, _, _, hi⟩
    · omega
    simp only [h0, brOf, nth_at hi] at hbR
    have hri := q3 _ (List.getElem_mem hi)
    have hril := hri.1
    have hli := rank_len hri.2
    have hli' : L[i].2.length = xss.length := by omega
    have htki : List.take xss.length (L[i].2.map int) = L[i].2.map int := List.take_of_length_le (by simp; omega)
    simp (config := {contextual := true}) [List.range, List.range.loop, ints, intss, int, bool, row, frac, fracs, ← List.map_take, ← List.map_drop, h0, hbR, apP, apN, hi, hril, hli', htki]
    done

end Go.Proofs.Ytpjejdebdhgngaa.Ax
