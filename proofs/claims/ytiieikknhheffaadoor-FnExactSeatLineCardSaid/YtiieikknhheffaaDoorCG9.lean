/-
  Contract: SeatOrder (the program's). No condition.
-/
import Derived.Test.YtiieikknhheffaaDoorCG8
import Derived.Test.YtiieikknhheffaaDoorCG4
namespace Go.Proofs.YtiieikknhheffaaDoor.Ax
open Go Go.RowKit
set_option linter.unusedSimpArgs false

set_option maxHeartbeats 4000000 in
theorem implOrder_ok : FnOk Tryd.prog 42 mOrdP := by
  refine mk_ok fun ⟨me, nl, xs, n⟩ _ => ?_
  simp only
  have hG : FnsOk Tryd.prog [(29, mWithin), (39, mQt), (55, mCmpT)] := (.cons within_ok (.cons implQt_ok (.cons implCmpT_ok .nil)))
  refine callOk_awp (ctx_ok eqOk hG) mixed (live := [true, true, true, false, false, false, true, true, true, true, true, false, false, false, false, false, false, false, false, true, false, false, false, true, true, true, false, true, true, true, false, false, false, false, false, false, false, false, false, false, false, false, false, false, false, false, false, false, false, true]) (dt := [(11, ⟨[], [], []⟩)]) Tryd.func42 rfl (by kernel_rfl) (by kernel_rfl) fun w0 hlens => ?_
  clear hlens
  have h1 := mQt_at nl xs n
  by_cases hv : (qtB xs n && inR 1 5 me) = true
  case neg =>
    rw [if_neg hv]
    cases hm : inR 1 5 me with
    | false => simp [Tryd.f42, List.range, List.range.loop, ints, intss, int, bool, row, frac, fracs, ← List.map_take, ← List.map_drop, mWithin_in, hm]
    | true =>
      have hq : qtB xs n = false := by simpa [hm] using hv
      rw [hq] at h1
      simp [Tryd.f42, List.range, List.range.loop, ints, intss, int, bool, row, frac, fracs, ← List.map_take, ← List.map_drop, mWithin_in, hm, h1]
  rw [if_pos hv]
  have hv0 := hv
  have hcl := fun (j : Nat) (hj : j < n.toNat) (i : Nat) (hi : i < xs.length) => seat_cl hv hj hi
  simp only [Bool.and_eq_true, inR_iff] at hv
  obtain ⟨hq, hm⟩ := hv
  rw [hq] at h1
  have hmi : inR 1 5 me = true := inR_iff.2 hm
  obtain ⟨hc, hn⟩ := qt_facts hq
  obtain ⟨c1, c2, c3, c4, c5⟩ := cnt_facts hc
  obtain ⟨N, rfl⟩ : ∃ N : Nat, n = N := ⟨n.toNat, by omega⟩
  simp only [Int.toNat_natCast] at *
  have hm6 : 8 * xs.length ≤ 281474976710656 := by omega
  have hm7 : xs.length * 8 ≤ 281474976710656 ∧ xs.length ≤ 4611686018427387904 := by omega
  have z0 : ordS me xs 0 = [] := rfl
  have z1 : seatT me xs 0 = List.replicate xs.length 0 := rfl
  simp [Tryd.f42, List.range, List.range.loop, ints, intss, int, bool, row, frac, fracs, ← List.map_take, ← List.map_drop, mWithin_in, hmi, h1, hm6, hm7]
  refine awp_range (live := [true, true, true, false, false, false, true, true, true, true, true, false, false, false, false, false, false, false, false, true, false, false, false, true, true, true, false, true, true, true, false, false, false, false, false, false, false, false, false, false, false, false, false, false, false, false, false, false, false, true]) (ctx_ok eqOk hG) mixed [true, true, false, false, false, false, false, true, true, false, false, false, false, false, false, false, false, false, false, false, false, false, false, true, true] (N) (fun j => True) (fun j => ⟨[int me, ints nl xs, .junk, .junk, .junk, .junk, .junk, .ref 0 [] 0 xs.length, liA 1 (ordS me xs j), .junk, .junk, .junk, .junk, .junk, .junk, .junk, .junk, .junk, .junk, .junk, .junk, .junk, .junk, int N, int j, .junk, .junk, .junk, .junk, .junk, .junk, .junk, .junk, .junk, .junk, .junk, .junk, .junk, .junk, .junk, .junk, .junk, .junk, .junk, .junk, .junk, .junk, .junk, .junk, .junk, .junk, .junk, .junk, .junk, .junk, .junk, .junk, .junk, .junk, .junk, .junk, .junk, .junk, .junk], [⟨true, .sl false 1 ((seatT me xs j).map int)⟩] ++ liT (ordS me xs j)⟩) ?_ (by simp [sub, slotsLe, clean, keep, refsL, refs, once, place, renL, ren, List.replicate, int, bool, z0, z1, liA, liT, ints]) ?_ ?_ ?_
  · omega
  · trivial
  case refine_4 =>
    intro _
    have hol := ordS_len (me := me) (xs := xs) N
    generalize ordS me xs N = O at *
    cases O with
    | nil =>
      simp at hol
      simp [List.range, List.range.loop, ints, intss, int, bool, row, frac, fracs, ← List.map_take, ← List.map_drop, liA, liT, ← hol]
    | cons o O =>
      simp at hol
      simp [List.range, List.range.loop, ints, intss, int, bool, row, frac, fracs, ← List.map_take, ← List.map_drop, liA, liT, ← hol]
  intro j hjN _ hwj
  have hol := ordS_len (me := me) (xs := xs) j
  obtain ⟨g1, g2, g3⟩ := seatT_facts (me := me) c1 j
  have hcl := hcl j hjN
  have hst := seatT_succ (me := me) (xs := xs) (j := j)
  have hos : ordS me xs (j + 1) = ordS me xs j ++ [bcTo me xs (seatT me xs j) xs.length] := rfl
  generalize seatT me xs j = A at *
  generalize ordS me xs j = O at *
  have zb : bcTo me xs A 0 = 0 := rfl
  cases O with
  | nil =>
    have hol' : j = 0 := by simp at hol; omega
    subst hol'
    simp [List.range, List.range.loop, ints, intss, int, bool, row, frac, fracs, ← List.map_take, ← List.map_drop, liA, liT, hjN]
    refine awp_range (live := [true, true, true, false, false, false, true, true, true, true, true, false, false, false, false, false, false, false, false, true, false, false, false, true, true, true, false, true, true, true, false, false, false, false, false, false, false, false, false, false, false, false, false, false, false, false, false, false, false, true]) (ctx_ok eqOk hG) mixed [true, true, false, false, false, false, false, true, true, true, false, false, false, false, false, false, false, false, false, false, false, false, false, true, true, false, false, true, true] (xs.length) (fun i => True) (fun i => ⟨[int me, ints nl xs, .junk, .junk, .junk, .junk, .junk, .ref 0 [] 0 xs.length, .sl true 1 [], int (bcTo me xs A i), .junk, .junk, .junk, .junk, .junk, .junk, .junk, .junk, .junk, .junk, .junk, .junk, .junk, int N, int ((0 : Nat) : Int), .junk, .junk, int xs.length, int i, .junk, .junk, .junk, .junk, .junk, .junk, .junk, .junk, .junk, .junk, .junk, .junk, .junk, .junk, .junk, .junk, .junk, .junk, .junk, .junk, .junk, .junk, .junk, .junk, .junk, .junk, .junk, .junk, .junk, .junk, .junk, .junk, .junk, .junk, .junk], [⟨true,.sl false 1 (A.map int)⟩]⟩) ?_ (by simp [sub, slotsLe, clean, keep, refsL, refs, once, place, renL, ren, List.replicate, int, bool, zb, ints, g1, liA, liT]) ?_ ?_ ?_
    · omega
    · trivial
    · intro i hi _ hwi
      have hiA : i < A.length := by omega
      obtain ⟨b, hb1, hb2⟩ := bcTo_bd (me := me) (xs := xs) (ss := A) hi
      have hbA : b < A.length := by omega
      have a1 : xs[i] = at0 xs i := (at0_eq hi).symm
      have a2 : A[i] = at0 A i := (at0_eq hiA).symm
      have a3 : xs[b] = at0 xs b := (at0_eq hb2).symm
      have a4 : A[b] = at0 A b := (at0_eq hbA).symm
      have hm := mCmpT_at me (at0 xs i) (at0 A i) (at0 xs b) (at0 A b) ⟨hcl i hi, hcl b hb2⟩
      have hbs : bcTo me xs A (i + 1) = if 0 < cmpT me (at0 xs i) (at0 A i) (at0 xs (bcTo me xs A i).toNat) (at0 A (bcTo me xs A i).toNat) then (i : Int) else bcTo me xs A i := rfl
      rw [hb1] at hbs ⊢
      simp only [Int.toNat_natCast] at hbs
      by_cases hc : 0 < cmpT me (at0 xs i) (at0 A i) (at0 xs b) (at0 A b)
      · rw [if_pos hc] at hbs
        simp [List.range, List.range.loop, ints, intss, int, bool, row, frac, fracs, ← List.map_take, ← List.map_drop, hi, hiA, hb2, hbA, g1, a1, a2, a3, a4, hm, hc, hbs, hwi]
      · rw [if_neg hc] at hbs
        simp [List.range, List.range.loop, ints, intss, int, bool, row, frac, fracs, ← List.map_take, ← List.map_drop, hi, hiA, hb2, hbA, g1, a1, a2, a3, a4, hm, hc, hbs, hwi]
    · intro _
      obtain ⟨b, hb1, hb2⟩ := bcTo_nat (me := me) (xs := xs) (ss := A) xs.length
      have hbx : b < xs.length := by omega
      rw [hb1] at hst hos ⊢
      rw [inc1_nat] at hst
      have hbA : b < A.length := by omega
      have e3 : A[b] = at0 A b := (at0_eq hbA).symm
      have hbd := g3 _ (List.getElem_mem hbA)
      rw [e3] at hbd
      have hw : IntKind.i64.wrap (at0 A b + 1) = at0 A b + 1 := wrapI (by omega) (by omega)
      have hb8 : 0 + 1 ≤ 4611686018427387904 ∧ (0 + 1) * 8 ≤ 140737488355328 := by omega
      simp [List.range, List.range.loop, ints, intss, int, bool, row, frac, fracs, ← List.map_take, ← List.map_drop, hbA, hbx, e3, hw, g1, hb8, hst, hos, liA, liT, hwj]
      exact wrapI (by omega) (by omega)

  | cons o O =>
    have hol' : j = O.length + 1 := by simp at hol; omega
    subst hol'
    simp [List.range, List.range.loop, ints, intss, int, bool, row, frac, fracs, ← List.map_take, ← List.map_drop, liA, liT, hjN]
    refine awp_range (live := [true, true, true, false, false, false, true, true, true, true, true, false, false, false, false, false, false, false, false, true, false, false, false, true, true, true, false, true, true, true, false, false, false, false, false, false, false, false, false, false, false, false, false, false, false, false, false, false, false, true]) (ctx_ok eqOk hG) mixed [true, true, false, false, false, false, false, true, true, true, false, false, false, false, false, false, false, false, false, false, false, false, false, true, true, false, false, true, true] (xs.length) (fun i => True) (fun i => ⟨[int me, ints nl xs, .junk, .junk, .junk, .junk, .junk, .ref 0 [] 0 xs.length, .ref 1 [] 0 (O.length + 1), int (bcTo me xs A i), .junk, .junk, .junk, .junk, .junk, .junk, .junk, .junk, .junk, .junk, .junk, .junk, .junk, int N, int ((O.length + 1 : Nat) : Int), .junk, .junk, int xs.length, int i, .junk, .junk, .junk, .junk, .junk, .junk, .junk, .junk, .junk, .junk, .junk, .junk, .junk, .junk, .junk, .junk, .junk, .junk, .junk, .junk, .junk, .junk, .junk, .junk, .junk, .junk, .junk, .junk, .junk, .junk, .junk, .junk, .junk, .junk, .junk], [⟨true,.sl false 1 (A.map int)⟩,⟨true,.sl false 1 ((o :: O).map int)⟩]⟩) ?_ (by simp [sub, slotsLe, clean, keep, refsL, refs, once, place, renL, ren, List.replicate, int, bool, zb, ints, g1, liA, liT]) ?_ ?_ ?_
    · omega
    · trivial
    · intro i hi _ hwi
      have hiA : i < A.length := by omega
      obtain ⟨b, hb1, hb2⟩ := bcTo_bd (me := me) (xs := xs) (ss := A) hi
      have hbA : b < A.length := by omega
      have a1 : xs[i] = at0 xs i := (at0_eq hi).symm
      have a2 : A[i] = at0 A i := (at0_eq hiA).symm
      have a3 : xs[b] = at0 xs b := (at0_eq hb2).symm
      have a4 : A[b] = at0 A b := (at0_eq hbA).symm
      have hm := mCmpT_at me (at0 xs i) (at0 A i) (at0 xs b) (at0 A b) ⟨hcl i hi, hcl b hb2⟩
      have hbs : bcTo me xs A (i + 1) = if 0 < cmpT me (at0 xs i) (at0 A i) (at0 xs (bcTo me xs A i).toNat) (at0 A (bcTo me xs A i).toNat) then (i : Int) else bcTo me xs A i := rfl
      rw [hb1] at hbs ⊢
      simp only [Int.toNat_natCast] at hbs
      by_cases hc : 0 < cmpT me (at0 xs i) (at0 A i) (at0 xs b) (at0 A b)
      · rw [if_pos hc] at hbs
        simp [List.range, List.range.loop, ints, intss, int, bool, row, frac, fracs, ← List.map_take, ← List.map_drop, hi, hiA, hb2, hbA, g1, a1, a2, a3, a4, hm, hc, hbs, hwi]
      · rw [if_neg hc] at hbs
        simp [List.range, List.range.loop, ints, intss, int, bool, row, frac, fracs, ← List.map_take, ← List.map_drop, hi, hiA, hb2, hbA, g1, a1, a2, a3, a4, hm, hc, hbs, hwi]
    · intro _
      obtain ⟨b, hb1, hb2⟩ := bcTo_nat (me := me) (xs := xs) (ss := A) xs.length
      have hbx : b < xs.length := by omega
      rw [hb1] at hst hos ⊢
      rw [inc1_nat] at hst
      have hbA : b < A.length := by omega
      have e3 : A[b] = at0 A b := (at0_eq hbA).symm
      have hbd := g3 _ (List.getElem_mem hbA)
      rw [e3] at hbd
      have hw : IntKind.i64.wrap (at0 A b + 1) = at0 A b + 1 := wrapI (by omega) (by omega)
      have hb8 : O.length + 1 + 1 ≤ 4611686018427387904 ∧ (O.length + 1 + 1) * 8 ≤ 140737488355328 := by omega
      simp [List.range, List.range.loop, ints, intss, int, bool, row, frac, fracs, ← List.map_take, ← List.map_drop, hbA, hbx, e3, hw, g1, hb8, hst, hos, liA, liT, hwj]
      exact wrapI (by omega) (by omega)


end Go.Proofs.YtiieikknhheffaaDoor.Ax

/-
  Sizes of the texts of numbers; two texts with a blank between them. Plain Lean, no program in sight.
-/
namespace Go.Proofs.YtiieikknhheffaaDoor.Ax
open Go Go.RowKit
set_option linter.unusedSimpArgs false

theorem inI_small {x : Int} (h : -1000000 ≤ x ∧ x ≤ 1000000) : inI x := by unfold inI; omega

theorem numS_size {xs : List Int} (h : ∀ n ∈ xs, inI n) : (numS xs).size ≤ 21 * xs.length + 1 := by
  unfold numS
  split
  · have : (⟨#[45]⟩ : ByteArray).size = 1 := rfl
    omega
  · have hl := join_len (c := 20) (sep := bl ⟨#[44]⟩) (ws := (xs.map itoaS).map bl) (by
      intro w hw
      simp only [List.map_map, List.mem_map, Function.comp_apply] at hw
      obtain ⟨n, hn, rfl⟩ := hw
      unfold itoaS; rw [bl_mk]
      exact itoa_len (h n hn))
    have e1 : (bl ⟨#[44]⟩).length = 1 := rfl
    rw [List.length_map, List.length_map, e1] at hl
    have e2 : (joinS (xs.map itoaS) ⟨#[44]⟩).size = (bl (joinS (xs.map itoaS) ⟨#[44]⟩)).length := by unfold bl; rw [Array.length_toList]; rfl
    rw [e2]
    unfold joinS
    rw [bl_mk]
    omega

/-- Two texts with a blank between them. -/
def linkS (a b : ByteArray) : ByteArray := a ++ ⟨#[32]⟩ ++ b
theorem link_size {a : ByteArray} : (a ++ (⟨#[32]⟩ : ByteArray)).size = a.size + 1 := by rw [ByteArray.size_append]; rfl

end Go.Proofs.YtiieikknhheffaaDoor.Ax

/-
  Contracts: FormatTable (both programs). No condition.
-/
namespace Go.Proofs.YtiieikknhheffaaDoor.Ax
open Go Go.RowKit
set_option linter.unusedSimpArgs false

theorem numS_len {xs : List Int} (h : ∀ n ∈ xs, inI n) : (bl (numS xs)).length ≤ 21 * xs.length + 1 := by
  unfold numS
  split
  · exact Nat.le_add_left _ _
  · unfold joinS
    rw [bl_mk]
    have hl := join_len (c := 20) (sep := bl ⟨#[44]⟩) (ws := (xs.map itoaS).map bl) (by
      intro w hw
      simp only [List.map_map, List.mem_map, Function.comp_apply] at hw
      obtain ⟨n, hn, rfl⟩ := hw
      unfold itoaS; rw [bl_mk]
      exact itoa_len (h n hn))
    have e1 : (bl ⟨#[44]⟩).length = 1 := rfl
    rw [List.length_map, List.length_map, e1] at hl
    omega

def rowS (r : Bool × List Int) : ByteArray := numS r.2
def wr (r : Bool × List Int) : AV := .v (.string (rowS r))
def tabS (xss : List (Bool × List Int)) : ByteArray := if xss = [] then ⟨#[61]⟩ else joinS (xss.map rowS) ⟨#[59]⟩
def tabOk (xss : List (Bool × List Int)) : Prop := xss.length ≤ 1048576 ∧ ∀ r ∈ xss, r.2.length ≤ 1048576 ∧ ∀ n ∈ r.2, inI n
noncomputable def mFTab : List AV → Option AV := mk (fun p => tabOk p.2) (fun (p : (Bool) × (List (Bool × List Int))) => [intss p.1 p.2]) (fun p => .v (.string (tabS p.2)))
theorem mFTab_at (nl : Bool) (xss : List (Bool × List Int)) (hpre : tabOk xss) : mFTab [.sl nl 1 (xss.map row)] = some (.v (.string (tabS xss))) :=
  mk_eq (enc := fun (p : (Bool) × (List (Bool × List Int))) => [intss p.1 p.2]) (x := (nl, xss)) (by rintro ⟨a0, a1⟩ ⟨b0, b1⟩ h; simp [ints, intss, int, bool, row, frac, fracs, map_int_inj, map_row_inj, frac_inj, map_frac_inj] at h; simp [h]) hpre

theorem tab_join {xss : List (Bool × List Int)} (h : tabOk xss) : mJoin [.sl false 1 (xss.map wr), .v (.string ⟨#[59]⟩)] = some (.v (.string (joinS (xss.map rowS) ⟨#[59]⟩))) := by
  have h1 := h.1
  have hl := join_len (c := 22020097) (sep := bl ⟨#[59]⟩) (ws := (xss.map rowS).map bl) (by
    intro w hw
    simp only [List.map_map, List.mem_map, Function.comp_apply] at hw
    obtain ⟨r, hr, rfl⟩ := hw
    have := numS_len (h.2 r hr).2
    have := (h.2 r hr).1
    unfold rowS
    omega)
  have e1 : (bl ⟨#[59]⟩).length = 1 := rfl
  rw [List.length_map, List.length_map, e1] at hl
  have := mJoin_at false (xss.map rowS) ⟨#[59]⟩ ⟨by rw [List.length_map]; omega, by omega⟩
  rw [List.map_map] at this
  exact this

theorem row_need {xss : List (Bool × List Int)} {r : Bool × List Int} (h : r ∈ xss) : r.2.length ≤ rowSum xss xss.length := by
  obtain ⟨k, hk, rfl⟩ := List.getElem_of_mem h
  have h1 := rowSum_succ hk
  have h2 := rowSum_mono (xss := xss) (show k + 1 ≤ xss.length by omega)
  omega
theorem tab_own {xss : List (Bool × List Int)} (h : need xss ≤ 1048576) (hx : ∀ r ∈ xss, ∀ n ∈ r.2, inI n) : tabOk (own xss) := by
  unfold need at h
  refine ⟨by simp only [own, List.length_map]; omega, fun r hr => ?_⟩
  simp only [own, List.mem_map] at hr
  obtain ⟨p, hp, rfl⟩ := hr
  have h9 := row_need hp
  have h8 : p.2.length ≤ 1048576 := by omega
  exact ⟨h8, fun n hn => hx p hp n hn⟩

end Go.Proofs.YtiieikknhheffaaDoor.Ax

/-
  Six words joined. Plain Lean, no program in sight.
-/
namespace Go.Proofs.YtiieikknhheffaaDoor.Ax
open Go Go.RowKit
set_option linter.unusedSimpArgs false

theorem bl_inj {a b : ByteArray} (h : bl a = bl b) : a = b := by
  obtain ⟨⟨a⟩⟩ := a
  obtain ⟨⟨b⟩⟩ := b
  simp [bl] at h
  rw [h]
theorem bl_app {a b : ByteArray} : bl (a ++ b) = bl a ++ bl b := by
  simp [bl, ByteArray.data_append]
theorem join6 {a b c d e f s : ByteArray} : joinS [a, b, c, d, e, f] s = a ++ s ++ b ++ s ++ c ++ s ++ d ++ s ++ e ++ s ++ f := by
  apply bl_inj
  simp only [bl_app]
  unfold joinS
  rw [bl_mk]
  simp [Lib.join_cons, Lib.joinTail, List.append_assoc]


end Go.Proofs.YtiieikknhheffaaDoor.Ax

/-
  Contracts: SeatsBy, GiveSeats, SeatLine (both programs). No condition.
-/
namespace Go.Proofs.YtiieikknhheffaaDoor.Ax
open Go Go.RowKit
set_option linter.unusedSimpArgs false

noncomputable def mSby : List AV → Option AV := mk (fun _ => True) (fun (p : (Int) × (Bool) × (List Int) × (Int)) => [int p.1, ints p.2.1 p.2.2.1, int p.2.2.2]) (fun p => if (qtB p.2.2.1 p.2.2.2 && inR 1 5 p.1) = true then ints false (seatT p.1 p.2.2.1 p.2.2.2.toNat) else ints true [])
theorem mSby_at (me : Int) (nl : Bool) (xs : List Int) (n : Int) : mSby [.v (.int .i64 me), .sl nl 1 (xs.map int), .v (.int .i64 n)] = some (if (qtB xs n && inR 1 5 me) = true then ints false (seatT me xs n.toNat) else ints true []) :=
  mk_eq (enc := fun (p : (Int) × (Bool) × (List Int) × (Int)) => [int p.1, ints p.2.1 p.2.2.1, int p.2.2.2]) (x := (me, nl, xs, n)) (by rintro ⟨a0, a1, a2, a3⟩ ⟨b0, b1, b2, b3⟩ h; simp [ints, intss, int, bool, row, frac, fracs, map_int_inj, map_row_inj, frac_inj, map_frac_inj] at h; simp [h]) trivial
theorem seats_step {me : Int} {xs : List Int} {n : Int} (hv : (qtB xs n && inR 1 5 me) = true) {k : Nat} (hk' : k < n.toNat) :
    (incs (List.replicate xs.length 0) ((ordS me xs n.toNat).take k)).length = xs.length ∧ ∃ b : Nat, (ordS me xs n.toNat)[k]? = some (b : Int) ∧ b < xs.length ∧ (0 ≤ at0 (incs (List.replicate xs.length 0) ((ordS me xs n.toNat).take k)) b ∧ at0 (incs (List.replicate xs.length 0) ((ordS me xs n.toNat).take k)) b ≤ 200) ∧
      incs (List.replicate xs.length 0) ((ordS me xs n.toNat).take (k + 1)) = (incs (List.replicate xs.length 0) ((ordS me xs n.toNat).take k)).set b (at0 (incs (List.replicate xs.length 0) ((ordS me xs n.toNat).take k)) b + 1) := by
  have hk : k < (ordS me xs n.toNat).length := by rw [ordS_len]; exact hk'
  simp only [Bool.and_eq_true, inR_iff] at hv
  obtain ⟨hq, hm⟩ := hv
  obtain ⟨hc, hn⟩ := qt_facts hq
  obtain ⟨c1, c2, c3, c4, c5⟩ := cnt_facts hc
  have hz : ∀ x ∈ List.replicate xs.length (0 : Int), 0 ≤ x ∧ x ≤ 0 := fun x hx => by rw [List.mem_replicate] at hx; omega
  have hl : (incs (List.replicate xs.length 0) ((ordS me xs n.toNat).take k)).length = xs.length := by simp [incs_len]
  obtain ⟨b, e1, e2⟩ := ordS_mem c1 n.toNat _ (List.getElem_mem hk)
  obtain ⟨_, h2⟩ := incs_facts hz (l := (ordS me xs n.toNat).take k) fun i hi => by
    obtain ⟨b, rfl, hb⟩ := ordS_mem c1 n.toNat i (List.mem_of_mem_take hi)
    simpa using hb
  have hst := incs_take (o := List.replicate xs.length 0) hk
  rw [e1, inc1_nat] at hst
  rw [List.length_take, ordS_len] at h2
  have hb := h2 _ (List.getElem_mem (show b < (incs (List.replicate xs.length 0) ((ordS me xs n.toNat).take k)).length by omega))
  rw [← at0_eq] at hb
  exact ⟨hl, b, by rw [List.getElem?_eq_getElem hk, e1], e2, ⟨hb.1, by omega⟩, hst⟩

theorem ne_of_cons {o : Int} {O : List Int} {n : Nat} (h : (o :: O).length = n) : ¬ n = 0 := by simp at h; omega
set_option maxHeartbeats 2000000 in
theorem implSby_ok : FnOk Tryd.prog 24 mSby := by
  refine mk_ok fun ⟨me, nl, xs, n⟩ _ => ?_
  simp only
  have hG : FnsOk Tryd.prog [(29, mWithin), (39, mQt), (42, mOrdP)] := (.cons within_ok (.cons implQt_ok (.cons implOrder_ok .nil)))
  refine callOk_awp (ctx_ok eqOk hG) mixed (live := [true, true, true, false, false, false, true, true, false, true, false, false, false, false, false, false, false, false, true, false, false, false, false, false, false, true, true, true, true]) (dt := []) Tryd.func24 rfl (by kernel_rfl) (by kernel_rfl) fun w0 hlens => ?_
  clear hlens
  have h1 := mQt_at nl xs n
  have h2 := mOrdP_at me nl xs n
  by_cases hv : (qtB xs n && inR 1 5 me) = true
  case neg =>
    rw [if_neg hv]
    cases hm : inR 1 5 me with
    | false => simp [Tryd.f24, List.range, List.range.loop, ints, intss, int, bool, row, frac, fracs, ← List.map_take, ← List.map_drop, mWithin_in, hm]
    | true =>
      have hq : qtB xs n = false := by simpa [hm] using hv
      rw [hq] at h1
      simp [Tryd.f24, List.range, List.range.loop, ints, intss, int, bool, row, frac, fracs, ← List.map_take, ← List.map_drop, mWithin_in, hm, h1]
  rw [if_pos hv]
  rw [if_pos hv] at h2
  have hstep := fun (k : Nat) (hk : k < n.toNat) => seats_step hv hk
  have hol := ordS_len (me := me) (xs := xs) n.toNat
  have hv0 := hv
  simp only [Bool.and_eq_true] at hv
  obtain ⟨hq, hm⟩ := hv
  rw [hq] at h1
  obtain ⟨hc, hn⟩ := qt_facts hq
  obtain ⟨c1, c2, c3, c4, c5⟩ := cnt_facts hc
  have hm6 : 8 * xs.length ≤ 281474976710656 := by omega
  have hm7 : xs.length ≤ 4611686018427387904 := by omega
  have z1 : incs (List.replicate xs.length 0) [] = List.replicate xs.length 0 := rfl
  unfold seatT
  obtain ⟨N, rfl⟩ : ∃ N : Nat, n = N := ⟨n.toNat, by omega⟩
  simp only [Int.toNat_natCast] at *
  generalize ordS me xs N = O at *
  simp only [ints] at h2
  generalize decide (N = 0) = bb at *
  simp [Tryd.f24, List.range, List.range.loop, ints, intss, int, bool, row, frac, fracs, ← List.map_take, ← List.map_drop, mWithin_in, hm, h1, h2, hm6, hm7, hol]
  refine awp_range (live := [true, true, true, false, false, false, true, true, false, true, false, false, false, false, false, false, false, false, true, false, false, false, false, false, false, true, true, true, true]) (ctx_ok eqOk hG) mixed [false, false, false, false, false, false, false, true, false, false, false, false, false, false, false, false, false, false, false, false, false, false, false, false, false, true, true, true] (N) (fun k => True) (fun k => ⟨[.junk, .junk, .junk, .junk, .junk, .junk, .junk, .ref 0 [] 0 xs.length, .junk, .junk, .junk, .junk, .junk, .junk, .junk, .junk, .junk, .junk, .junk, .junk, .junk, .junk, .junk, .junk, .junk, .ref 1 [] 0 N, int (N : Int), int k, .junk, .junk, .junk, .junk, .junk, .junk, .junk, .junk, .junk, .junk, .junk], [⟨true, .sl false 1 ((incs (List.replicate xs.length 0) (O.take k)).map int)⟩, ⟨true, .sl bb 1 (O.map int)⟩]⟩) ?_ (by simp [sub, slotsLe, clean, keep, refsL, refs, once, place, renL, ren, List.replicate, int, bool, z1, hol]) ?_ ?_ ?_
  · omega
  · trivial
  · intro k hk _ hwk
    obtain ⟨g1, b, e0, e2, hb, hst⟩ := hstep k hk
    obtain ⟨hkO, e1⟩ := List.getElem?_eq_some_iff.1 e0
    generalize incs (List.replicate xs.length 0) (O.take (k + 1)) = B at *
    generalize incs (List.replicate xs.length 0) (O.take k) = A at *
    subst hst
    have hbA : b < A.length := by omega
    have e3 : A[b] = at0 A b := (at0_eq hbA).symm
    have hw : IntKind.i64.wrap (at0 A b + 1) = at0 A b + 1 := wrapI (by omega) (by omega)
    simp [List.range, List.range.loop, ints, intss, int, bool, row, frac, fracs, ← List.map_take, ← List.map_drop, hk, hwk, e0, e1, e2, e3, hw, hbA, g1, hol]
  · intro _
    have hl := incs_len (o := List.replicate xs.length (0 : Int)) (l := O)
    have hkl2 : O.take N = O := List.take_of_length_le (by omega)
    simp only [hkl2]
    generalize incs (List.replicate xs.length 0) O = A at *
    simp at hl
    have hAt : A.take xs.length = A := List.take_of_length_le (by omega)
    simp [List.range, List.range.loop, ints, intss, int, bool, row, frac, fracs, ← List.map_take, ← List.map_drop, hl, hAt]

noncomputable def mCol : List AV → Option AV := mk (fun p => (∀ i ∈ p.2.1, ∃ b : Nat, i = (b : Int) ∧ (b : Int) < p.2.2) ∧ p.2.1.length ≤ 1000 ∧ (0 ≤ p.2.2 ∧ p.2.2 ≤ 6)) (fun (p : (Bool) × (List Int) × (Int)) => [ints p.1 p.2.1, int p.2.2]) (fun p => ints false (incs (List.replicate p.2.2.toNat 0) p.2.1))
theorem mCol_at (nl : Bool) (O : List Int) (m : Int) (hpre : (∀ i ∈ O, ∃ b : Nat, i = (b : Int) ∧ (b : Int) < m) ∧ O.length ≤ 1000 ∧ (0 ≤ m ∧ m ≤ 6)) : mCol [.sl nl 1 (O.map int), .v (.int .i64 m)] = some (.sl false 1 (((incs (List.replicate m.toNat 0) O)).map int)) :=
  mk_eq (enc := fun (p : (Bool) × (List Int) × (Int)) => [ints p.1 p.2.1, int p.2.2]) (x := (nl, O, m)) (by rintro ⟨a0, a1, a2⟩ ⟨b0, b1, b2⟩ h; simp [ints, intss, int, bool, row, frac, fracs, map_int_inj, map_row_inj, frac_inj, map_frac_inj] at h; simp [h]) hpre
set_option maxHeartbeats 2000000 in
theorem col_ok : FnOk Tryd.prog 36 mCol := by
  refine mk_ok fun ⟨nl, O, m⟩ ⟨h1, h2, h3⟩ => ?_
  simp only at h1 h2 h3
  have hG : FnsOk Tryd.prog [] := .nil
  refine callOk_awp (ctx_ok eqOk hG) mixed (live := [true, true, false, false, true, true, false, true, false, false, true, true, true, true]) (dt := []) Tryd.func36 rfl (by kernel_rfl) (by kernel_rfl) fun w0 hlens => ?_
  clear hlens
  obtain ⟨M, rfl⟩ : ∃ M : Nat, m = M := ⟨m.toNat, by omega⟩
  simp only [Int.toNat_natCast] at *
  have hm6 : 8 * M ≤ 281474976710656 := by omega
  have hm7 : M ≤ 4611686018427387904 := by omega
  have z1 : incs (List.replicate M 0) [] = List.replicate M 0 := rfl
  have hz : ∀ x ∈ List.replicate M (0 : Int), 0 ≤ x ∧ x ≤ 0 := fun x hx => by rw [List.mem_replicate] at hx; omega
  simp [Tryd.f36, List.range, List.range.loop, ints, intss, int, bool, row, frac, fracs, ← List.map_take, ← List.map_drop, hm6, hm7]
  refine awp_range (live := [true, true, false, false, true, true, false, true, false, false, true, true, true, true]) (ctx_ok eqOk hG) mixed [false, false, false, false, false, true, false, false, false, false, true, true, true] (O.length) (fun k => True) (fun k => ⟨[.junk, .junk, .junk, .junk, .junk, .ref 0 [] 0 M, .junk, .junk, .junk, .junk, ints nl O, int O.length, int k, .junk, .junk, .junk, .junk, .junk, .junk, .junk, .junk, .junk, .junk, .junk], [⟨true, .sl false 1 ((incs (List.replicate M 0) (O.take k)).map int)⟩]⟩) ?_ (by simp [sub, slotsLe, clean, keep, refsL, refs, once, place, renL, ren, List.replicate, int, bool, z1, ints]) ?_ ?_ ?_
  · omega
  · trivial
  · intro k hk _ hwk
    obtain ⟨b, e1, e2⟩ := h1 _ (List.getElem_mem hk)
    have hst := incs_take (o := List.replicate M 0) hk
    rw [e1, inc1_nat] at hst
    have g1 := incs_len (o := List.replicate M (0 : Int)) (l := O.take k)
    obtain ⟨_, hb⟩ := incs_facts hz (l := O.take k) fun i hi => by
      obtain ⟨b, rfl, hb⟩ := h1 i (List.mem_of_mem_take hi)
      simpa using hb
    rw [List.length_take] at hb
    simp only [List.length_replicate] at g1
    generalize incs (List.replicate M 0) (O.take (k + 1)) = B at *
    generalize incs (List.replicate M 0) (O.take k) = A at *
    subst hst
    have hbA : b < A.length := by omega
    have hbM : b < M := by omega
    have e3 : A[b] = at0 A b := (at0_eq hbA).symm
    have hbd := hb _ (List.getElem_mem hbA)
    rw [e3] at hbd
    have hw : IntKind.i64.wrap (at0 A b + 1) = at0 A b + 1 := wrapI (by omega) (by omega)
    simp [List.range, List.range.loop, ints, intss, int, bool, row, frac, fracs, ← List.map_take, ← List.map_drop, hk, hwk, e1, e3, hw, hbA, hbM, g1]
  · intro _
    have hl := incs_len (o := List.replicate M (0 : Int)) (l := O)
    simp only [List.take_length]
    generalize incs (List.replicate M 0) O = A at *
    simp at hl
    have hAt : A.take M = A := List.take_of_length_le (by omega)
    simp [List.range, List.range.loop, ints, intss, int, bool, row, frac, fracs, ← List.map_take, ← List.map_drop, hl, hAt]

theorem specSby_ok : FnOk Tryd.prog 15 mSby := by
  refine mk_ok fun ⟨me, nl, xs, n⟩ _ => ?_
  simp only
  have hG : FnsOk Tryd.prog [(35, mL14Ok), (37, mOrdS), (36, mCol)] := (.cons l14Ok_ok (.cons specOrder_ok (.cons col_ok .nil)))
  refine callOk_awp (ctx_ok eqOk hG) mixed (live := [true, true, true, false, false, false, true, false, false, false, false, true]) (dt := []) Tryd.func15 rfl (by kernel_rfl) (by kernel_rfl) fun w0 hlens => ?_
  clear hlens
  have h1 := mL14Ok_at me nl xs n
  have h2 := mOrdS_at me nl xs n
  by_cases hv : (qtB xs n && inR 1 5 me) = true
  case neg =>
    rw [if_neg hv]
    have hv' : (qtB xs n && inR 1 5 me) = false := by simpa using hv
    rw [hv'] at h1
    simp [Tryd.f15, List.range, List.range.loop, ints, intss, int, bool, row, frac, fracs, ← List.map_take, ← List.map_drop, h1]
  rw [if_pos hv] at h2 ⊢
  rw [hv] at h1
  simp only [Bool.and_eq_true] at hv
  obtain ⟨hq, hm⟩ := hv
  obtain ⟨hc, hn⟩ := qt_facts hq
  obtain ⟨c1, c2, c3, c4, c5⟩ := cnt_facts hc
  have hol := ordS_len (me := me) (xs := xs) n.toNat
  have h3 := mCol_at false (ordS me xs n.toNat) xs.length ⟨fun i hi => by
    obtain ⟨b, hb1, hb2⟩ := ordS_mem c1 n.toNat i hi
    exact ⟨b, hb1, by omega⟩, by omega, by omega⟩
  have ht : (ordS me xs n.toNat).take n.toNat = ordS me xs n.toNat := List.take_of_length_le (by omega)
  have hl := incs_len (o := List.replicate xs.length (0 : Int)) (l := ordS me xs n.toNat)
  unfold seatT
  simp only [Int.toNat_natCast] at h3
  simp only [List.length_replicate] at hl
  generalize ordS me xs n.toNat = O at *
  generalize incs (List.replicate xs.length 0) O = A at *
  have hAt : A.take xs.length = A := List.take_of_length_le (by omega)
  simp only [ints] at h2
  simp [Tryd.f15, List.range, List.range.loop, ints, intss, int, bool, row, frac, fracs, ← List.map_take, ← List.map_drop, h1, h2, h3, hol, ht, hl, hAt]

end Go.Proofs.YtiieikknhheffaaDoor.Ax

/-
  Contracts: GiveSeats, SeatLine (both programs). No condition.
-/
namespace Go.Proofs.YtiieikknhheffaaDoor.Ax
open Go Go.RowKit
set_option linter.unusedSimpArgs false

noncomputable def mGs : List AV → Option AV := mk (fun _ => True) (fun (p : (Int) × (Bool) × (List Int) × (Int)) => [int p.1, ints p.2.1 p.2.2.1, int p.2.2.2]) (fun p => if gsV p.1 p.2.2.1 p.2.2.2 = true then ints false (gsT p.1 p.2.2.1 p.2.2.2) else ints true [])
theorem mGs_at (me : Int) (nl : Bool) (xs : List Int) (n : Int) : mGs [.v (.int .i64 me), .sl nl 1 (xs.map int), .v (.int .i64 n)] = some (if gsV me xs n = true then ints false (gsT me xs n) else ints true []) :=
  mk_eq (enc := fun (p : (Int) × (Bool) × (List Int) × (Int)) => [int p.1, ints p.2.1 p.2.2.1, int p.2.2.2]) (x := (me, nl, xs, n)) (by rintro ⟨a0, a1, a2, a3⟩ ⟨b0, b1, b2, b3⟩ h; simp [ints, intss, int, bool, row, frac, fracs, map_int_inj, map_row_inj, frac_inj, map_frac_inj] at h; simp [h]) trivial
theorem gs_zero {xs : List Int} {n : Int} : gsV 0 xs n = qtB xs n := by simp [gsV]
theorem gs_some {me : Int} {xs : List Int} {n : Int} (h : ¬ me = 0) : gsV me xs n = (qtB xs n && inR 1 5 me) := by simp [gsV, h]
theorem gsT_facts {me : Int} {xs : List Int} {n : Int} (h : gsV me xs n = true) : (gsT me xs n).length = xs.length ∧ 1 ≤ xs.length ∧ xs.length ≤ 6 ∧ ∀ x ∈ gsT me xs n, 0 ≤ x ∧ x ≤ 200 := by
  have hq : qtB xs n = true := by simp only [gsV, Bool.and_eq_true] at h; exact h.1
  obtain ⟨hc, hn⟩ := qt_facts hq
  obtain ⟨c1, c2, _⟩ := cnt_facts hc
  unfold gsT
  rw [if_pos h]
  split
  · obtain ⟨h1, _, h3⟩ := hamT_facts hq
    exact ⟨h1, c1, c2, fun x hx => by have := h3 x hx; omega⟩
  · obtain ⟨h1, _, h3⟩ := seatT_facts (me := me) c1 n.toNat
    exact ⟨h1, c1, c2, fun x hx => by have := h3 x hx; omega⟩

theorem implGs_ok : FnOk Tryd.prog 11 mGs := by
  refine mk_ok fun ⟨me, nl, xs, n⟩ _ => ?_
  simp only
  have hG : FnsOk Tryd.prog [(23, mHam), (24, mSby)] := (.cons implHam_ok (.cons implSby_ok .nil))
  refine callOk_awp (ctx_ok eqOk hG) mixed (live := [true, true, true, false, false, false, true, false, true]) (dt := []) Tryd.func11 rfl (by kernel_rfl) (by kernel_rfl) fun w0 hlens => ?_
  clear hlens
  by_cases h0 : me = 0
  · subst h0
    have h1 := mHam_at nl xs n
    by_cases hv : gsV 0 xs n = true
    · have hl := (gsT_facts hv).1
      rw [if_pos hv]
      have e : gsT 0 xs n = hamT xs n := by unfold gsT; rw [if_pos hv, if_pos rfl]
      rw [gs_zero] at hv
      rw [if_pos hv] at h1
      rw [e] at hl ⊢
      generalize hamT xs n = A at *
      have hAt : A.take xs.length = A := List.take_of_length_le (by omega)
      simp only [ints] at h1
      simp [Tryd.f11, List.range, List.range.loop, ints, intss, int, bool, row, frac, fracs, ← List.map_take, ← List.map_drop, h1, hl, hAt]
    · rw [if_neg hv]
      rw [gs_zero] at hv
      rw [if_neg hv] at h1
      simp only [ints, List.map_nil] at h1
      simp [Tryd.f11, List.range, List.range.loop, ints, intss, int, bool, row, frac, fracs, ← List.map_take, ← List.map_drop, h1]
  · have h1 := mSby_at me nl xs n
    by_cases hv : gsV me xs n = true
    · have hl := (gsT_facts hv).1
      rw [if_pos hv]
      have e : gsT me xs n = seatT me xs n.toNat := by unfold gsT; rw [if_pos hv, if_neg h0]
      rw [gs_some h0] at hv
      rw [if_pos hv] at h1
      rw [e] at hl ⊢
      generalize seatT me xs n.toNat = A at *
      have hAt : A.take xs.length = A := List.take_of_length_le (by omega)
      simp only [ints] at h1
      simp [Tryd.f11, List.range, List.range.loop, ints, intss, int, bool, row, frac, fracs, ← List.map_take, ← List.map_drop, h0, h1, hl, hAt]
    · rw [if_neg hv]
      rw [gs_some h0] at hv
      rw [if_neg hv] at h1
      simp only [ints, List.map_nil] at h1
      simp [Tryd.f11, List.range, List.range.loop, ints, intss, int, bool, row, frac, fracs, ← List.map_take, ← List.map_drop, h0, h1]

theorem specGs_ok : FnOk Tryd.prog 8 mGs := by
  refine mk_ok fun ⟨me, nl, xs, n⟩ _ => ?_
  simp only
  have hG : FnsOk Tryd.prog [(14, mHam), (15, mSby)] := (.cons specHam_ok (.cons specSby_ok .nil))
  refine callOk_awp (ctx_ok eqOk hG) mixed (live := [true, true, true, false, false, false, true, false, true]) (dt := []) Tryd.func8 rfl (by kernel_rfl) (by kernel_rfl) fun w0 hlens => ?_
  clear hlens
  by_cases h0 : me = 0
  · subst h0
    have h1 := mHam_at nl xs n
    by_cases hv : gsV 0 xs n = true
    · have hl := (gsT_facts hv).1
      rw [if_pos hv]
      have e : gsT 0 xs n = hamT xs n := by unfold gsT; rw [if_pos hv, if_pos rfl]
      rw [gs_zero] at hv
      rw [if_pos hv] at h1
      rw [e] at hl ⊢
      generalize hamT xs n = A at *
      have hAt : A.take xs.length = A := List.take_of_length_le (by omega)
      simp only [ints] at h1
      simp [Tryd.f8, List.range, List.range.loop, ints, intss, int, bool, row, frac, fracs, ← List.map_take, ← List.map_drop, h1, hl, hAt]
    · rw [if_neg hv]
      rw [gs_zero] at hv
      rw [if_neg hv] at h1
      simp only [ints, List.map_nil] at h1
      simp [Tryd.f8, List.range, List.range.loop, ints, intss, int, bool, row, frac, fracs, ← List.map_take, ← List.map_drop, h1]
  · have h1 := mSby_at me nl xs n
    by_cases hv : gsV me xs n = true
    · have hl := (gsT_facts hv).1
      rw [if_pos hv]
      have e : gsT me xs n = seatT me xs n.toNat := by unfold gsT; rw [if_pos hv, if_neg h0]
      rw [gs_some h0] at hv
      rw [if_pos hv] at h1
      rw [e] at hl ⊢
      generalize seatT me xs n.toNat = A at *
      have hAt : A.take xs.length = A := List.take_of_length_le (by omega)
      simp only [ints] at h1
      simp [Tryd.f8, List.range, List.range.loop, ints, intss, int, bool, row, frac, fracs, ← List.map_take, ← List.map_drop, h0, h1, hl, hAt]
    · rw [if_neg hv]
      rw [gs_some h0] at hv
      rw [if_neg hv] at h1
      simp only [ints, List.map_nil] at h1
      simp [Tryd.f8, List.range, List.range.loop, ints, intss, int, bool, row, frac, fracs, ← List.map_take, ← List.map_drop, h0, h1]

/-- ' quota', 'none' -/
def quoS : ByteArray := ⟨#[32, 113, 117, 111, 116, 97]⟩
def nonS : ByteArray := ⟨#[110, 111, 110, 101]⟩
def slS (me : Int) (xs : List Int) (n : Int) : ByteArray := if gsV me xs n = true then (if kqB xs (gsT me xs n) = true then numS (gsT me xs n) ++ quoS else numS (gsT me xs n)) else nonS
noncomputable def mSl : List AV → Option AV := mk (fun _ => True) (fun (p : (Int) × (Bool) × (List Int) × (Int)) => [int p.1, ints p.2.1 p.2.2.1, int p.2.2.2]) (fun p => .v (.string (slS p.1 p.2.2.1 p.2.2.2)))
theorem mSl_at (me : Int) (nl : Bool) (xs : List Int) (n : Int) : mSl [.v (.int .i64 me), .sl nl 1 (xs.map int), .v (.int .i64 n)] = some (.v (.string (slS me xs n))) :=
  mk_eq (enc := fun (p : (Int) × (Bool) × (List Int) × (Int)) => [int p.1, ints p.2.1 p.2.2.1, int p.2.2.2]) (x := (me, nl, xs, n)) (by rintro ⟨a0, a1, a2, a3⟩ ⟨b0, b1, b2, b3⟩ h; simp [ints, intss, int, bool, row, frac, fracs, map_int_inj, map_row_inj, frac_inj, map_frac_inj] at h; simp [h]) trivial
theorem numS_sz {xs : List Int} (h : numOk xs) (hl : xs.length ≤ 10) : (numS xs).size ≤ 1000000 := by
  have := numS_size h.2
  omega

set_option maxHeartbeats 1000000 in
theorem implSl_ok : FnOk Tryd.prog 6 mSl := by
  refine mk_ok fun ⟨me, nl, xs, n⟩ _ => ?_
  have hG : FnsOk Tryd.prog [(11, mGs), (12, mKq), (13, mFNum)] := (.cons implGs_ok (.cons implKq_ok (.cons implFormatNumbers_ok .nil)))
  refine callOk_awp (ctx_ok eqOk hG) mixed (live := [true, true, true, false, false, false, true, true, false, false, false, false, false, true, false, false, true]) (dt := []) Tryd.func6 rfl (by kernel_rfl) (by kernel_rfl) fun w0 hlens => ?_
  clear hlens
  have h1 := mGs_at me nl xs n
  by_cases hv : gsV me xs n = true
  · obtain ⟨l1, l2, l3, l4⟩ := gsT_facts hv
    rw [if_pos hv] at h1
    have hs : slS me xs n = if kqB xs (gsT me xs n) = true then numS (gsT me xs n) ++ quoS else numS (gsT me xs n) := by unfold slS; rw [if_pos hv]
    generalize gsT me xs n = A at *
    have hok : numOk A := ⟨by omega, fun x hx => by have := l4 x hx; unfold inI; omega⟩
    have h2 := mKq_at nl xs false A
    have h3 := mFNum_at false A hok
    have hz := numS_sz hok (by omega)
    have hAt : A.take xs.length = A := List.take_of_length_le (by omega)
    have hne : ¬ xs.length = 0 := by omega
    have hnx : ¬ A = [] := by intro h; rw [h] at l1; simp at l1; omega
    have hq1 : quoS.size = 6 := rfl
    have hqe : ({ data := #[32, 113, 117, 111, 116, 97] } : ByteArray) = quoS := rfl
    simp only [ints] at h1
    cases hk : kqB xs A with
    | false =>
      rw [hk] at h2 hs
      simp at hs
      simp [Tryd.f6, List.range, List.range.loop, ints, intss, int, bool, row, frac, fracs, ← List.map_take, ← List.map_drop, h1, h2, h3, hs, l1, hAt, hne, hnx, hz]
    | true =>
      rw [hk] at h2 hs
      simp at hs
      have hz2 : (numS A).size + 6 ≤ 9223372036854775807 := by omega
      simp [Tryd.f6, List.range, List.range.loop, ints, intss, int, bool, row, frac, fracs, ← List.map_take, ← List.map_drop, h1, h2, h3, hs, l1, hAt, hne, hnx, hz, hz2, hqe, hq1]
  · rw [if_neg hv] at h1
    have hs : slS me xs n = nonS := by unfold slS; rw [if_neg hv]
    simp only [ints, List.map_nil] at h1
    simp [Tryd.f6, List.range, List.range.loop, ints, intss, int, bool, row, frac, fracs, ← List.map_take, ← List.map_drop, h1, hs, nonS]

set_option maxHeartbeats 1000000 in
theorem specSl_ok : FnOk Tryd.prog 4 mSl := by
  refine mk_ok fun ⟨me, nl, xs, n⟩ _ => ?_
  have hG : FnsOk Tryd.prog [(8, mGs), (9, mFNum), (10, mKq)] := (.cons specGs_ok (.cons specFormatNumbers_ok (.cons specKq_ok .nil)))
  refine callOk_awp (ctx_ok eqOk hG) mixed (live := [true, true, true, false, false, false, true, true, true, false, false, false, false, false, false, true, false, false, false, false, true]) (dt := []) Tryd.func4 rfl (by kernel_rfl) (by kernel_rfl) fun w0 hlens => ?_
  clear hlens
  have h1 := mGs_at me nl xs n
  by_cases hv : gsV me xs n = true
  · obtain ⟨l1, l2, l3, l4⟩ := gsT_facts hv
    rw [if_pos hv] at h1
    have hs : slS me xs n = if kqB xs (gsT me xs n) = true then numS (gsT me xs n) ++ quoS else numS (gsT me xs n) := by unfold slS; rw [if_pos hv]
    generalize gsT me xs n = A at *
    have hok : numOk A := ⟨by omega, fun x hx => by have := l4 x hx; unfold inI; omega⟩
    have h2 := mKq_at nl xs false A
    have h3 := mFNum_at false A hok
    have hz := numS_sz hok (by omega)
    have hAt : A.take xs.length = A := List.take_of_length_le (by omega)
    have hne : ¬ xs.length = 0 := by omega
    have hnx : ¬ A = [] := by intro h; rw [h] at l1; simp at l1; omega
    have hq1 : quoS.size = 6 := rfl
    have hqe : ({ data := #[32, 113, 117, 111, 116, 97] } : ByteArray) = quoS := rfl
    simp only [ints] at h1
    cases hk : kqB xs A with
    | false =>
      rw [hk] at h2 hs
      simp at hs
      simp [Tryd.f4, List.range, List.range.loop, ints, intss, int, bool, row, frac, fracs, ← List.map_take, ← List.map_drop, h1, h2, h3, hs, l1, hAt, hne, hnx, hz]
    | true =>
      rw [hk] at h2 hs
      simp at hs
      have hz2 : (numS A).size + 6 ≤ 9223372036854775807 := by omega
      simp [Tryd.f4, List.range, List.range.loop, ints, intss, int, bool, row, frac, fracs, ← List.map_take, ← List.map_drop, h1, h2, h3, hs, l1, hAt, hne, hnx, hz, hz2, hqe, hq1]
  · rw [if_neg hv] at h1
    have hs : slS me xs n = nonS := by unfold slS; rw [if_neg hv]
    simp only [ints, List.map_nil] at h1
    simp [Tryd.f4, List.range, List.range.loop, ints, intss, int, bool, row, frac, fracs, ← List.map_take, ← List.map_drop, h1, hs, nonS]

end Go.Proofs.YtiieikknhheffaaDoor.Ax
