/-
  Contracts: TransferOrder (the program). No condition.
-/
import Derived.Test.YtkfgmpmeipilnaaCG81
namespace Go.Proofs.Ytkfgmpmeipilnaa.Ax
open Go Go.RowKit
set_option linter.unusedSimpArgs false

noncomputable def mCmpR : List AV → Option AV := mk (fun p => (0 ≤ p.1 ∧ p.1 ≤ 100) ∧ (0 ≤ p.2.1 ∧ p.2.1 ≤ 100) ∧ (0 ≤ p.2.2.1 ∧ p.2.2.1 ≤ 100) ∧ (0 ≤ p.2.2.2 ∧ p.2.2.2 ≤ 100)) (fun (p : (Int) × (Int) × (Int) × (Int)) => [int p.1, int p.2.1, int p.2.2.1, int p.2.2.2]) (fun p => int (cmpR p.1 p.2.1 p.2.2.1 p.2.2.2))
theorem mCmpR_at (a : Int) (b : Int) (c : Int) (d : Int) (hpre : (0 ≤ a ∧ a ≤ 100) ∧ (0 ≤ b ∧ b ≤ 100) ∧ (0 ≤ c ∧ c ≤ 100) ∧ (0 ≤ d ∧ d ≤ 100)) : mCmpR [.v (.int .i64 a), .v (.int .i64 b), .v (.int .i64 c), .v (.int .i64 d)] = some (.v (.int .i64 (cmpR a b c d))) :=
  mk_eq (enc := fun (p : (Int) × (Int) × (Int) × (Int)) => [int p.1, int p.2.1, int p.2.2.1, int p.2.2.2]) (x := (a, b, c, d)) (by rintro ⟨a0, a1, a2, a3⟩ ⟨b0, b1, b2, b3⟩ h; simp [ints, intss, int, bool, row, frac, fracs, map_int_inj, map_row_inj, frac_inj, map_frac_inj] at h; simp [h]) hpre
set_option maxHeartbeats 1000000 in
theorem compareRatios_ok : FnOk Try.prog 128 mCmpR := by
  refine mk_ok fun ⟨a, b, c, d⟩ h => ?_
  obtain ⟨ha, hb, hc, hd⟩ := h
  simp only at ha hb hc hd
  have hG : FnsOk Try.prog [(149, mCmpI)] := (.cons cmpCompare_ok .nil)
  refine callOk_awp (ctx_ok eqOk hG) mixed (live := [true, true, true, true, false, false, false, false, true, false, false, false, false, false, true]) (dt := []) Try.func128 rfl (by kernel_rfl) (by kernel_rfl) fun w0 hlens => ?_
  have m1 := mul_bd (x := a) (y := d) (m := 100) (n := 100) (by omega) (by omega) (by omega) (by omega)
  have m2 := mul_bd (x := c) (y := b) (m := 100) (n := 100) (by omega) (by omega) (by omega) (by omega)
  have ww1 : IntKind.i64.wrap (a * d) = a * d := wrapI (by omega) (by omega)
  have w2 : IntKind.i64.wrap (c * b) = c * b := wrapI (by omega) (by omega)
  by_cases h1 : b = 0
  · have e : cmpR a b c d = IntKind.i64.wrap (cmpI d 0 - cmpI b 0) := by unfold cmpR; rw [if_pos (.inl h1)]
    rw [e]; subst h1
    simp (config := {contextual := true}) [Try.f128, List.range, List.range.loop, ints, intss, int, bool, row, frac, fracs, ← List.map_take, ← List.map_drop, mCmpI_at]
  · by_cases h2 : d = 0
    · have e : cmpR a b c d = IntKind.i64.wrap (cmpI d 0 - cmpI b 0) := by unfold cmpR; rw [if_pos (.inr h2)]
      rw [e]; subst h2
      simp (config := {contextual := true}) [Try.f128, List.range, List.range.loop, ints, intss, int, bool, row, frac, fracs, ← List.map_take, ← List.map_drop, mCmpI_at, h1]
    · have e : cmpR a b c d = cmpI (a * d) (c * b) := by unfold cmpR; rw [if_neg (fun h => h.elim h1 h2)]
      rw [e]
      simp (config := {contextual := true}) [Try.f128, List.range, List.range.loop, ints, intss, int, bool, row, frac, fracs, ← List.map_take, ← List.map_drop, mCmpI_at, h1, h2, ww1, w2]

/-- The slices that TransferOrder's closure holds. -/
def capR (u v : Bool × List Int) : List AV := [.fp (row u) 0, .fp (row v) 0]
theorem capR_pure {u v : Bool × List Int} : Pure (capR u v) := ⟨fun _ => rfl, rfl, fun _ => rfl⟩

theorem transfer1 (u v : Bool × List Int) (x y : Int) (hx : 0 ≤ x ∧ x.toNat < u.2.length ∧ x.toNat < v.2.length) (hy : 0 ≤ y ∧ y.toNat < u.2.length ∧ y.toNat < v.2.length) (hu : ∀ z ∈ u.2, 0 ≤ z ∧ z ≤ 100) (hv : ∀ z ∈ v.2, 0 ≤ z ∧ z ≤ 100) :
    CallOk Try.prog 127 (.v (.int .i64 x) :: .v (.int .i64 y) :: capR u v) (.v (.int .i64 (ratC u.2 v.2 x y))) := by
  have hG : FnsOk Try.prog [(128, mCmpR)] := (.cons compareRatios_ok .nil)
  refine callOk_awp (ctx_ok eqOk hG) mixed (live := [true, true, true, true, false, false, true]) (dt := [(1, ⟨[], [], []⟩)]) Try.func127 rfl (by kernel_rfl) (by kernel_rfl) fun w0 hlens => ?_
  obtain ⟨a, rfl⟩ : ∃ a : Nat, x = a := ⟨x.toNat, by omega⟩
  obtain ⟨b, rfl⟩ : ∃ b : Nat, y = b := ⟨y.toNat, by omega⟩
  simp only [Int.toNat_natCast] at hx hy
  have e1 : u.2[a]'hx.2.1 = at0 u.2 a := (at0_eq hx.2.1).symm
  have e2 : v.2[a]'hx.2.2 = at0 v.2 a := (at0_eq hx.2.2).symm
  have e3 : u.2[b]'hy.2.1 = at0 u.2 b := (at0_eq hy.2.1).symm
  have e4 : v.2[b]'hy.2.2 = at0 v.2 b := (at0_eq hy.2.2).symm
  have hm := mCmpR_at (at0 u.2 a) (at0 v.2 a) (at0 u.2 b) (at0 v.2 b) ⟨e1 ▸ hu _ (List.getElem_mem _), e2 ▸ hv _ (List.getElem_mem _), e3 ▸ hu _ (List.getElem_mem _), e4 ▸ hv _ (List.getElem_mem _)⟩
  simp (config := {contextual := true}) [Try.f127, List.range, List.range.loop, ints, intss, int, bool, row, frac, fracs, ← List.map_take, ← List.map_drop, capR, hx.2.1, hx.2.2, hy.2.1, hy.2.2, e1, e2, e3, e4, hm, ratC]

/-- A list that is nil until something is put into it, as row t. -/
def liA (t : Nat) : List Int → AV
  | [] => .sl true 1 []
  | _ :: l => .ref t [] 0 (l.length + 1)
def liT : List Int → List Tok
  | [] => []
  | x :: l => [⟨true, .sl false 1 ((x :: l).map int)⟩]

def liI (t : Nat) : List Int → Nat
  | [] => t
  | _ :: _ => t + 1
theorem liI_ne {t : Nat} {L : List Int} (h : L ≠ []) : liI t L = t + 1 := by cases L with | nil => exact (h rfl).elim | cons _ _ => rfl
theorem liA_ne {t : Nat} {L : List Int} (h : L ≠ []) : liA t L = .ref t [] 0 L.length := by cases L with | nil => exact (h rfl).elim | cons _ _ => rfl
theorem liT_ne {L : List Int} (h : L ≠ []) : liT L = [⟨true, .sl false 1 (L.map int)⟩] := by cases L with | nil => exact (h rfl).elim | cons _ _ => rfl

noncomputable def mTOi : List AV → Option AV := mk (fun _ => True) (fun (p : (Bool) × (List (Bool × List Int)) × (Int)) => [intss p.1 p.2.1, int p.2.2]) (fun p => .sl (tOrd p.2.1 p.2.2).isEmpty 1 ((tOrd p.2.1 p.2.2).map int))
theorem mTOi_at (nl : Bool) (xss : List (Bool × List Int)) (fr : Int) : mTOi [.sl nl 1 (xss.map row), .v (.int .i64 fr)] = some (.sl (tOrd xss fr).isEmpty 1 ((tOrd xss fr).map int)) :=
  mk_eq (enc := fun (p : (Bool) × (List (Bool × List Int)) × (Int)) => [intss p.1 p.2.1, int p.2.2]) (x := (nl, xss, fr)) (by rintro ⟨a0, a1, a2⟩ ⟨b0, b1, b2⟩ h; simp [ints, intss, int, bool, row, frac, fracs, map_int_inj, map_row_inj, frac_inj, map_frac_inj] at h; simp [h]) trivial

set_option maxRecDepth 8000 in
set_option maxHeartbeats 4000000 in
theorem transfer_run (nl : Bool) (r0 r1 u v : Bool × List Int) (fr : Int) (h1 : pointsB [r0, r1] = true) (hcase : (fr = 0 ∧ u = r0 ∧ v = r1) ∨ (fr = 1 ∧ u = r1 ∧ v = r0)) :
    CallOk Try.prog 79 [intss nl [r0, r1], int fr] (.sl (isort (ratC u.2 v.2) (selTo (selB r0.2 r1.2 fr) r0.2.length)).isEmpty 1 ((isort (ratC u.2 v.2) (selTo (selB r0.2 r1.2 fr) r0.2.length)).map int)) := by
  obtain ⟨h2, hr⟩ := points_facts h1
  have hl := rect_len hr
  have hr1 := rect_row hr (i := 1) (by simp)
  have hr0 := rect_row hr (i := 0) (by simp)
  simp only [wid, List.headD_cons] at hl hr1 hr0
  simp only [List.getElem_cons_succ, List.getElem_cons_zero] at hr1 hr0
  have hul : u.2.length = r0.2.length ∧ v.2.length = r0.2.length := by rcases hcase with ⟨_, rfl, rfl⟩ | ⟨_, rfl, rfl⟩ <;> omega
  have huv : (∀ z ∈ u.2, 0 ≤ z ∧ z ≤ 100) ∧ (∀ z ∈ v.2, 0 ≤ z ∧ z ≤ 100) := by rcases hcase with ⟨_, rfl, rfl⟩ | ⟨_, rfl, rfl⟩ <;> exact ⟨by first | exact hr0.2 | exact hr1.2, by first | exact hr0.2 | exact hr1.2⟩
  have hsum : ∀ k, at0 u.2 k + at0 v.2 k = at0 r0.2 k + at0 r1.2 k := fun k => by rcases hcase with ⟨_, rfl, rfl⟩ | ⟨_, rfl, rfl⟩ <;> omega
  have hfl : fr = 0 ∨ fr = 1 := by omega
  have hP := mPoints_at nl [r0, r1]
  rw [h1] at hP
  simp only [List.map_cons, List.map_nil, row] at hP
  have hW : mWithin [.v (.int .i64 fr), .v (.int .i64 0), .v (.int .i64 1)] = some (.v (.bool true)) := by
    rw [mWithin_in]; simp [inR]; omega
  have hF := mFirst_at nl [r0, r1]
  have hf : firstL [r0, r1] = fsA r0.2 r1.2 r0.2.length := by simp [firstL, h1]
  rw [hf] at hF
  simp only [h1, Bool.not_true, List.map_cons, List.map_nil, row] at hF
  generalize hL : selTo (selB r0.2 r1.2 fr) r0.2.length = L
  have hLl : L.length ≤ r0.2.length := by rw [← hL]; exact selTo_len
  have hLm : ∀ x ∈ L, 0 ≤ x ∧ x.toNat < u.2.length ∧ x.toNat < v.2.length := fun x hx => by
    rw [← hL] at hx
    obtain ⟨i, rfl, h, _⟩ := selTo_mem hx
    omega
  have hS := sort_ok (g := 127) (capR_pure (u := u) (v := v)) (ratC u.2 v.2) L.isEmpty L (by omega) (fun x hx y hy => transfer1 u v x y (hLm x hx) (hLm y hy) huv.1 huv.2)
  have hi : FnMut Try.prog 126 (mkM (fun _ : Unit => True) (fun _ => [ints L.isEmpty L, .fn 127 (capR u v)]) (fun _ => (0, .tup [], ints L.isEmpty (isort (ratC u.2 v.2) L)))) := mkM_ok fun _ _ => hS
  have hat : mkM (fun _ : Unit => True) (fun _ => [ints L.isEmpty L, .fn 127 (capR u v)]) (fun _ => (0, .tup [], ints L.isEmpty (isort (ratC u.2 v.2) L))) [.sl L.isEmpty 1 (L.map int), .fn 127 [.fp (.sl u.1 1 (u.2.map int)) 0, .fp (.sl v.1 1 (v.2.map int)) 0]] = some (0, .tup [], .sl L.isEmpty 1 ((isort (ratC u.2 v.2) L).map int)) := mkM_eq (enc := fun _ : Unit => [ints L.isEmpty L, .fn 127 (capR u v)]) (x := ()) (fun _ _ _ => rfl) trivial
  generalize mkM (fun _ : Unit => True) (fun _ => [ints L.isEmpty L, .fn 127 (capR u v)]) (fun _ => (0, AV.tup [], ints L.isEmpty (isort (ratC u.2 v.2) L))) = m at hi hat
  have hM : FnsMut Try.prog [(126, m)] := .cons hi .nil
  have hlen := isort_len (c := ratC u.2 v.2) L
  have hem : (isort (ratC u.2 v.2) L).isEmpty = L.isEmpty := by
    cases L <;> cases hz : isort (ratC u.2 v.2) _ <;> simp_all
  rw [hem]
  have ww1 : IntKind.i64.wrap 1 = 1 := by decide
  have ww0 : IntKind.i64.wrap 0 = 0 := by decide
  have hix : ∃ a b : Nat, fr = a ∧ 1 - fr = b ∧ a < 2 ∧ b < 2 ∧ [r0, r1][a]? = some u ∧ [r0, r1][b]? = some v := by
    rcases hcase with ⟨rfl, rfl, rfl⟩ | ⟨rfl, rfl, rfl⟩
    · exact ⟨0, 1, rfl, rfl, by omega, by omega, rfl, rfl⟩
    · exact ⟨1, 0, rfl, rfl, by omega, by omega, rfl, rfl⟩
  have hG : FnsOk Try.prog [(76, mPoints), (61, mWithin), (77, mFirst)] := (.cons implPointsOk_ok (.cons within_ok (.cons implFirst_ok .nil)))
  refine callOk_awp (ctxM_ok eqOk hG hM) mixed (live := [true, true, false, false, true, true, true, true, true, true, false, false, false, false, false, false, false, true, false, false, false, false, false, false, false, false, false, false, true, true, true, true, false, false, false, false, false, false, false, false, false, false, false, false, false, false, false, false, false, false, false, true]) (dt := [(3, ⟨[(6, 11), (7, 11), (8, 11)], [0, 0, 0, 0, 0, 0, 0, 0, 0, 1, 1], []⟩), (8, ⟨[], [], []⟩)]) Try.func79 rfl (by kernel_rfl) (by kernel_rfl) fun w0 hlens => ?_
  clear hlens
  have hs0 : selTo (selB r0.2 r1.2 fr) 0 = [] := rfl
  rcases hcase with ⟨rfl, rfl, rfl⟩ | ⟨rfl, rfl, rfl⟩
  · simp (config := {contextual := true}) [Try.f79, List.range, List.range.loop, ints, intss, int, bool, row, frac, fracs, ← List.map_take, ← List.map_drop, hP, hW, hF, ww0, ww1]
    refine awp_range (live := [true, true, false, false, true, true, true, true, true, true, false, false, false, false, false, false, false, true, false, false, false, false, false, false, false, false, false, false, true, true, true, true, false, false, false, false, false, false, false, false, false, false, false, false, false, false, false, false, false, false, false, true]) (ctxM_ok eqOk hG hM) mixed [false, true, false, false, false, true, true, true, false, false, false, false, false, false, false, false, false, false, false, false, false, false, false, false, false, false, false, false, true, true, true] (u.2.length) (fun k => True) (fun k => ⟨[.junk, int 0, .junk, .junk, .junk, .ptr 0 [] 0 0, .ptr 1 [] 0 0, liA 2 (selTo (selB u.2 v.2 0) k), .junk, .junk, .junk, .junk, .junk, .junk, .junk, .junk, .junk, .junk, .junk, .junk, .junk, .junk, .junk, .junk, .junk, .junk, .junk, .junk, .ref (liI 2 (selTo (selB u.2 v.2 0) k)) [] 0 u.2.length, int u.2.length, int k, .junk, .junk, .junk, .junk, .junk, .junk, .junk, .junk, .junk, .junk, .junk, .junk, .junk, .junk, .junk, .junk, .junk, .junk, .junk, .junk, .junk, .junk, .junk, .junk, .junk, .junk, .junk, .junk, .junk, .junk], [⟨false, .sl false 1 [.sl u.1 1 (u.2.map int)]⟩, ⟨false, .sl false 1 [.sl v.1 1 (v.2.map int)]⟩] ++ liT (selTo (selB u.2 v.2 0) k) ++ [⟨true, .sl false 2 ((fsA u.2 v.2 u.2.length).map frac)⟩]⟩) ?_ (by simp [sub, slotsLe, clean, keep, refsL, refs, once, place, renL, ren, List.replicate, int, bool, hs0, liA, liT, liI, fsA_len]) ?_ ?_ ?_
    · omega
    · trivial
    · intro k hk _ hwk
      have hku : k < u.2.length := by omega
      have hkv : k < v.2.length := by omega
      have a1 : u.2[k] = at0 u.2 k := (at0_eq hku).symm
      have a2 : v.2[k] = at0 v.2 k := (at0_eq hkv).symm
      have b1 := huv.1 _ (List.getElem_mem hku)
      have b2 := huv.2 _ (List.getElem_mem hkv)
      have hw3 : IntKind.i64.wrap (at0 u.2 k + at0 v.2 k) = at0 u.2 k + at0 v.2 k := wrapI (by omega) (by omega)
      have hfk : (fsA u.2 v.2 u.2.length)[k]'(by rw [fsA_len]; exact hk) = (if at0 v.2 k ≤ at0 u.2 k then 1 else 0, 1) := by simp [fsA, fshare]
      have hsl := selTo_len (p := selB u.2 v.2 0) (k := k)
      have hy := selTo_yes (p := selB u.2 v.2 0) (k := k)
      have hn := selTo_no (p := selB u.2 v.2 0) (k := k)
      have hB : selB u.2 v.2 0 k = (decide ((if at0 v.2 k ≤ at0 u.2 k then (1 : Int) else 0) = 1 - 0) && decide (0 < at0 u.2 k + at0 v.2 k)) := by rw [hsum k]; rfl
      generalize selTo (selB u.2 v.2 0) k = L0 at hy hn hsl ⊢
      have hsz : (L0.length + 1) * 8 ≤ 140737488355328 ∧ L0.length + 1 ≤ 4611686018427387904 := by omega
      generalize selB u.2 v.2 0 k = bb at hy hn hB
      by_cases c1 : at0 v.2 k ≤ at0 u.2 k <;> by_cases c2 : 0 < at0 u.2 k + at0 v.2 k <;> simp [c1, c2] at hB <;> subst hB <;> (first | rw [hy rfl] | rw [hn rfl])
      all_goals clear hy hn
      all_goals cases L0
      all_goals simp only [List.length_cons, List.length_nil] at hsl hsz
      all_goals simp (config := {contextual := true}) [List.range, List.range.loop, ints, intss, int, bool, row, frac, fracs, ← List.map_take, ← List.map_drop, liA, liT, liI, hk, hku, hkv, a1, a2, hw3, hfk, c1, c2, hwk, ww0, ww1, fsA_len, hsz]
    · intro _
      rw [hL]
      by_cases hL0 : L = []
      · subst hL0
        simp only [List.isEmpty_nil, List.map_nil] at hat
        have hi0 : isort (ratC u.2 v.2) [] = [] := rfl
        rw [hi0] at hat
        simp (config := {contextual := true}) [List.range, List.range.loop, ints, intss, int, bool, row, frac, fracs, ← List.map_take, ← List.map_drop, List.eraseIdx, liA, liT, liI, hat, fsA_len, hi0]
      · have hie : L.isEmpty = false := by cases L with | nil => exact (hL0 rfl).elim | cons _ _ => rfl
        rw [hie] at hat ⊢
        simp (config := {contextual := true}) [List.range, List.range.loop, ints, intss, int, bool, row, frac, fracs, ← List.map_take, ← List.map_drop, List.eraseIdx, liA_ne hL0, liT_ne hL0, liI_ne hL0, hat, fsA_len, hlen]
  · simp (config := {contextual := true}) [Try.f79, List.range, List.range.loop, ints, intss, int, bool, row, frac, fracs, ← List.map_take, ← List.map_drop, hP, hW, hF, ww0, ww1]
    refine awp_range (live := [true, true, false, false, true, true, true, true, true, true, false, false, false, false, false, false, false, true, false, false, false, false, false, false, false, false, false, false, true, true, true, true, false, false, false, false, false, false, false, false, false, false, false, false, false, false, false, false, false, false, false, true]) (ctxM_ok eqOk hG hM) mixed [false, true, false, false, false, true, true, true, false, false, false, false, false, false, false, false, false, false, false, false, false, false, false, false, false, false, false, false, true, true, true] (v.2.length) (fun k => True) (fun k => ⟨[.junk, int 1, .junk, .junk, .junk, .ptr 0 [] 0 0, .ptr 1 [] 0 0, liA 2 (selTo (selB v.2 u.2 1) k), .junk, .junk, .junk, .junk, .junk, .junk, .junk, .junk, .junk, .junk, .junk, .junk, .junk, .junk, .junk, .junk, .junk, .junk, .junk, .junk, .ref (liI 2 (selTo (selB v.2 u.2 1) k)) [] 0 v.2.length, int v.2.length, int k, .junk, .junk, .junk, .junk, .junk, .junk, .junk, .junk, .junk, .junk, .junk, .junk, .junk, .junk, .junk, .junk, .junk, .junk, .junk, .junk, .junk, .junk, .junk, .junk, .junk, .junk, .junk, .junk, .junk, .junk], [⟨false, .sl false 1 [.sl u.1 1 (u.2.map int)]⟩, ⟨false, .sl false 1 [.sl v.1 1 (v.2.map int)]⟩] ++ liT (selTo (selB v.2 u.2 1) k) ++ [⟨true, .sl false 2 ((fsA v.2 u.2 v.2.length).map frac)⟩]⟩) ?_ (by simp [sub, slotsLe, clean, keep, refsL, refs, once, place, renL, ren, List.replicate, int, bool, hs0, liA, liT, liI, fsA_len]) ?_ ?_ ?_
    · omega
    · trivial
    · intro k hk _ hwk
      have hku : k < u.2.length := by omega
      have hkv : k < v.2.length := by omega
      have a1 : u.2[k] = at0 u.2 k := (at0_eq hku).symm
      have a2 : v.2[k] = at0 v.2 k := (at0_eq hkv).symm
      have b1 := huv.1 _ (List.getElem_mem hku)
      have b2 := huv.2 _ (List.getElem_mem hkv)
      have hw3 : IntKind.i64.wrap (at0 u.2 k + at0 v.2 k) = at0 u.2 k + at0 v.2 k := wrapI (by omega) (by omega)
      have hfk : (fsA v.2 u.2 v.2.length)[k]'(by rw [fsA_len]; exact hk) = (if at0 u.2 k ≤ at0 v.2 k then 1 else 0, 1) := by simp [fsA, fshare]
      have hsl := selTo_len (p := selB v.2 u.2 1) (k := k)
      have hy := selTo_yes (p := selB v.2 u.2 1) (k := k)
      have hn := selTo_no (p := selB v.2 u.2 1) (k := k)
      have hB : selB v.2 u.2 1 k = (decide ((if at0 u.2 k ≤ at0 v.2 k then (1 : Int) else 0) = 1 - 1) && decide (0 < at0 u.2 k + at0 v.2 k)) := by rw [hsum k]; rfl
      generalize selTo (selB v.2 u.2 1) k = L0 at hy hn hsl ⊢
      have hsz : (L0.length + 1) * 8 ≤ 140737488355328 ∧ L0.length + 1 ≤ 4611686018427387904 := by omega
      generalize selB v.2 u.2 1 k = bb at hy hn hB
      by_cases c1 : at0 u.2 k ≤ at0 v.2 k <;> by_cases c2 : 0 < at0 u.2 k + at0 v.2 k <;> simp [c1, c2] at hB <;> subst hB <;> (first | rw [hy rfl] | rw [hn rfl])
      all_goals clear hy hn
      all_goals cases L0
      all_goals simp only [List.length_cons, List.length_nil] at hsl hsz
      all_goals simp (config := {contextual := true}) [List.range, List.range.loop, ints, intss, int, bool, row, frac, fracs, ← List.map_take, ← List.map_drop, liA, liT, liI, hk, hku, hkv, a1, a2, hw3, hfk, c1, c2, hwk, ww0, ww1, fsA_len, hsz]
    · intro _
      rw [hL]
      by_cases hL0 : L = []
      · subst hL0
        simp only [List.isEmpty_nil, List.map_nil] at hat
        have hi0 : isort (ratC u.2 v.2) [] = [] := rfl
        rw [hi0] at hat
        simp (config := {contextual := true}) [List.range, List.range.loop, ints, intss, int, bool, row, frac, fracs, ← List.map_take, ← List.map_drop, List.eraseIdx, liA, liT, liI, hat, fsA_len, hi0]
      · have hie : L.isEmpty = false := by cases L with | nil => exact (hL0 rfl).elim | cons _ _ => rfl
        rw [hie] at hat ⊢
        simp (config := {contextual := true}) [List.range, List.range.loop, ints, intss, int, bool, row, frac, fracs, ← List.map_take, ← List.map_drop, List.eraseIdx, liA_ne hL0, liT_ne hL0, liI_ne hL0, hat, fsA_len, hlen]

theorem implTransfer_ok : FnOk Try.prog 79 mTOi := by
  refine mk_ok fun ⟨nl, xss, fr⟩ _ => ?_
  by_cases hc : pointsB xss = true ∧ 0 ≤ fr ∧ fr ≤ 1
  · obtain ⟨h1, hf0, hf1⟩ := hc
    obtain ⟨h2, hr⟩ := points_facts h1
    obtain ⟨r0, r1, rfl⟩ : ∃ r0 r1, xss = [r0, r1] := by
      match xss, h2 with
      | [a, b], _ => exact ⟨a, b, rfl⟩
    by_cases h0 : fr = 0
    · subst h0
      have := transfer_run nl r0 r1 r0 r1 0 h1 (.inl ⟨rfl, rfl, rfl⟩)
      have e : tOrd [r0, r1] 0 = isort (ratC r0.2 r1.2) (selTo (selB r0.2 r1.2 0) r0.2.length) := by simp [tOrd, h1]
      simp only [e]; exact this
    · obtain rfl : fr = 1 := by omega
      have := transfer_run nl r0 r1 r1 r0 1 h1 (.inr ⟨rfl, rfl, rfl⟩)
      have e : tOrd [r0, r1] 1 = isort (ratC r1.2 r0.2) (selTo (selB r0.2 r1.2 1) r0.2.length) := by simp [tOrd, h1]
      simp only [e]; exact this
  · simp only [tOrd_no hc, List.isEmpty_nil, List.map_nil]
    have hG : FnsOk Try.prog [(76, mPoints), (61, mWithin), (77, mFirst)] := (.cons implPointsOk_ok (.cons within_ok (.cons implFirst_ok .nil)))
    refine callOk_awp (ctx_ok eqOk hG) mixed (live := [true, true, false, false, true, true, true, true, true, true, false, false, false, false, false, false, false, true, false, false, false, false, false, false, false, false, false, false, true, true, true, true, false, false, false, false, false, false, false, false, false, false, false, false, false, false, false, false, false, false, false, true]) (dt := [(3, ⟨[(6, 11), (7, 11), (8, 11)], [0, 0, 0, 0, 0, 0, 0, 0, 0, 1, 1], []⟩), (8, ⟨[], [], []⟩)]) Try.func79 rfl (by kernel_rfl) (by kernel_rfl) fun w0 hlens => ?_
    cases h1 : pointsB xss with
    | false => simp (config := {contextual := true}) [Try.f79, List.range, List.range.loop, ints, intss, int, bool, row, frac, fracs, ← List.map_take, ← List.map_drop, mPoints_at, h1]
    | true =>
      have hin : inR 0 1 fr = false := by
        simp only [inR, Bool.and_eq_false_iff, decide_eq_false_iff_not]
        by_cases h : 0 ≤ fr
        · exact .inr fun h' => hc ⟨h1, h, h'⟩
        · exact .inl h
      simp (config := {contextual := true}) [Try.f79, List.range, List.range.loop, ints, intss, int, bool, row, frac, fracs, ← List.map_take, ← List.map_drop, mPoints_at, mWithin_in, h1, hin]

end Go.Proofs.Ytkfgmpmeipilnaa.Ax
