/-
  Bucklin's rule: what both programs count, and the program's contracts. No condition.
-/
import Derived.Test.YtigepnpiofcooaaGreatCG14
namespace Go.Proofs.YtigepnpiofcooaaGreat.Ax
open Go Go.RowKit
set_option linter.unusedSimpArgs false
def afN (vs : List Vt) (k : Int) (a : Nat) : Int := vtrs (fun l => decide (pos l (a : Int) < k)) vs
def afT (vs : List Vt) (s : Nat) (k : Int) : List Int := (List.range s).map (afN vs k)
theorem afT_len {vs : List Vt} {s : Nat} {k : Int} : (afT vs s k).length = s := by simp [afT]
theorem afT_at {vs : List Vt} {s : Nat} {k : Int} {i : Nat} (h : i < (afT vs s k).length) : (afT vs s k)[i] = afN vs k i := by simp [afT]
def buF (vs : List Vt) (s : Nat) (k : Int) : Bool := decide (vtrs (fun _ => true) vs < 2 * mx (afT vs s k))
def fsTo (p : Nat → Bool) : Nat → Option Nat
  | 0 => none
  | n + 1 => match fsTo p n with
    | some i => some i
    | none => if p n = true then some n else none
theorem fsTo_none {p : Nat → Bool} : ∀ {n : Nat}, (∀ j, j < n → p j = false) → fsTo p n = none
  | 0, _ => rfl
  | n + 1, h => by
    unfold fsTo
    rw [fsTo_none (n := n) fun j hj => h j (by omega)]
    simp [h n (by omega)]
theorem fsTo_some {p : Nat → Bool} {k : Nat} (hk : p k = true) (hno : ∀ j, j < k → p j = false) : ∀ {n : Nat}, k < n → fsTo p n = some k
  | 0, h => by omega
  | n + 1, h => by
    unfold fsTo
    by_cases e : k = n
    · subst e
      rw [fsTo_none hno]
      simp [hk]
    · rw [fsTo_some hk hno (n := n) (by omega)]
def lvT (vs : List Vt) (s : Nat) : Nat := match fsTo (fun i => buF vs s ((i : Int) + 1)) s with
  | some i => i + 1
  | none => 0
theorem lvT_some {vs : List Vt} {s k : Nat} (hk : k < s) (h : buF vs s ((k : Int) + 1) = true) (hno : ∀ j, j < k → buF vs s ((j : Int) + 1) = false) : lvT vs s = k + 1 := by
  unfold lvT
  rw [fsTo_some (p := fun i => buF vs s ((i : Int) + 1)) h hno hk]
theorem lvT_none {vs : List Vt} {s : Nat} (hno : ∀ j, j < s → buF vs s ((j : Int) + 1) = false) : lvT vs s = 0 := by
  unfold lvT
  rw [fsTo_none hno]
def bwT (vs : List Vt) (s : Nat) : Int := at0 (grT (afT vs s (lvT vs s))) 0
theorem pos_lt {x : Int} {l : List Int} : pos l x < l.length := by
  unfold pos
  by_cases h : x ∈ l
  · obtain ⟨p, h1, h2⟩ := pos_at (k := 0) h
    have := (List.getElem?_eq_some_iff.1 h2).1
    rw [h1]; omega
  · have := mt (pos_iff (v := x) (xs := l)).1 h
    unfold pos at this
    omega
theorem mx_ge {xs : List Int} {i : Nat} (h : i < xs.length) : xs[i] ≤ mx xs := le_mxTo (Nat.le_refl _) i h h
theorem mx_of {xs : List Int} (h : 0 < xs.length) : ∃ i, ∃ hi : i < xs.length, xs[i] = mx xs := by
  cases hg : grT xs with
  | nil => exact (grT_ne h hg).elim
  | cons x r =>
    obtain ⟨i, h1, h2, h3⟩ := posOf_mem (xs := xs) (m := mx xs) (k := xs.length) (z := x) (by show x ∈ grT xs; rw [hg]; simp)
    exact ⟨i, h2, by rw [List.getElem?_eq_getElem h2] at h3; exact Option.some.inj h3⟩
theorem buF_iff {vs : List Vt} {s : Nat} (hs : 0 < s) {k : Int} : buF vs s k = true ↔ ∃ a, a < s ∧ vtrs (fun _ => true) vs < 2 * afN vs k a := by
  unfold buF
  rw [decide_eq_true_eq]
  constructor
  · intro h
    obtain ⟨i, hi, e⟩ := mx_of (xs := afT vs s k) (by rw [afT_len]; exact hs)
    rw [afT_at] at e
    rw [afT_len] at hi
    exact ⟨i, hi, by rw [e]; exact h⟩
  · rintro ⟨a, ha, h⟩
    have := mx_ge (xs := afT vs s k) (i := a) (by rw [afT_len]; exact ha)
    rw [afT_at] at this
    omega
theorem vtrs_pos {vs : List Vt} (h : ∀ v ∈ vs, 1 ≤ v.2 ∧ v.2 ≤ 1000) (hne : vs ≠ []) : 1 ≤ vtrs (fun _ => true) vs := by
  cases vs with
  | nil => exact (hne rfl).elim
  | cons v vs =>
    have h1 := h v (by simp)
    have h2 := vtrs_bd (p := fun _ => true) (vs := vs) fun w hw => h w (by simp [hw])
    have e : vtrs (fun _ => true) (v :: vs) = v.2 + vtrs (fun _ => true) vs := by simp [vtrs]
    omega
theorem afN_all {s : Nat} {vs : List Vt} (hp : profB (s : Int) vs = true) (a : Nat) : afN vs (s : Int) a = vtrs (fun _ => true) vs := by
  obtain ⟨h1, h2, h3⟩ := prof_facts hp
  exact vtrs_congr fun v hv => by
    have hl := (rk_nat (h3 v hv).1).1
    have := pos_lt (x := (a : Int)) (l := v.1.2)
    exact decide_eq_true (by omega)
theorem afN_bd {s : Int} {vs : List Vt} (hp : profB s vs = true) (k : Int) (a : Nat) : 0 ≤ afN vs k a ∧ afN vs k a ≤ 24000 := by
  obtain ⟨h1, h2, h3⟩ := prof_facts hp
  have := vtrs_bd (p := fun l => decide (pos l (a : Int) < k)) fun v hv => (h3 v hv).2
  unfold afN; omega
theorem buF_last {s : Nat} {vs : List Vt} (hp : profB (s : Int) vs = true) (hne : vs ≠ []) : buF vs s (s : Int) = true := by
  obtain ⟨h1, h2, h3⟩ := prof_facts hp
  refine (buF_iff (by omega)).2 ⟨0, by omega, ?_⟩
  rw [afN_all hp]
  have := vtrs_pos (fun v hv => (h3 v hv).2) hne
  omega
theorem lvT_nil {s : Nat} : lvT [] s = 0 := lvT_none fun j _ => by
  by_cases hs : 0 < s
  · cases h : buF [] s ((j : Int) + 1) with
    | false => rfl
    | true =>
      obtain ⟨a, _, h⟩ := (buF_iff hs).1 h
      simp [afN, vtrs] at h
  · omega
theorem gr0 : ∀ s : Nat, s < 6 → s = 0 ∨ at0 (grT (List.replicate s (0 : Int))) 0 = 0 := by decide +kernel
theorem bwT_nil {s : Nat} (h1 : 1 ≤ s) (h5 : s ≤ 5) : bwT [] s = 0 := by
  unfold bwT
  have e : ∀ k, afT [] s k = List.replicate s 0 := fun k => by
    apply List.ext_getElem
    · simp [afT]
    · intro i h1 h2; rw [afT_at]; simp [afN, vtrs]
  rw [e]
  exact (gr0 s (by omega)).resolve_left (by omega)
theorem lvT_le {s : Nat} {vs : List Vt} (hp : profB (s : Int) vs = true) : lvT vs s ≤ s ∧ (lvT vs s = 0 → vs = []) := by
  obtain ⟨h1, h2, h3⟩ := prof_facts hp
  have hf : ∀ n, (∀ i, fsTo (fun i => buF vs s ((i : Int) + 1)) n = some i → i < n) ∧ (fsTo (fun i => buF vs s ((i : Int) + 1)) n = none → ∀ j, j < n → buF vs s ((j : Int) + 1) = false) := by
    intro n
    induction n with
    | zero => exact ⟨fun i h => by simp [fsTo] at h, fun _ j hj => by omega⟩
    | succ n ih =>
      unfold fsTo
      cases hz : fsTo (fun i => buF vs s ((i : Int) + 1)) n with
      | some i => exact ⟨fun i' h => by simp at h; subst h; have := ih.1 i hz; omega, fun h => by simp at h⟩
      | none =>
        by_cases hb : buF vs s ((n : Int) + 1) = true
        · exact ⟨fun i' h => by simp [hb] at h; omega, fun h => by simp [hb] at h⟩
        · refine ⟨fun i' h => by simp [hb] at h, fun _ j hj => ?_⟩
          by_cases e : j = n
          · subst e; simpa using hb
          · exact ih.2 hz j (by omega)
  obtain ⟨f1, f2⟩ := hf s
  unfold lvT
  cases hz : fsTo (fun i => buF vs s ((i : Int) + 1)) s with
  | some i => exact ⟨by have := f1 i hz; simp; omega, fun h => by simp at h⟩
  | none =>
    refine ⟨by simp, fun _ => ?_⟩
    apply Classical.byContradiction
    intro hne
    have := f2 hz (s - 1) (by omega)
    rw [show (((s - 1 : Nat) : Int) + 1) = (s : Int) by omega, buF_last hp hne] at this
    cases this
theorem among1 (nl : Bool) (l : List Int) (a k : Int) : CallOk Tryz.prog 126 (row (nl, l) :: [.fp (int a) 0, .fp (int k) 0]) (.v (.bool (decide (pos l a < k)))) := by
  have hG : FnsOk Tryz.prog [(127, mPos)] := (.cons implPlace_ok .nil)
  refine callOk_awp (ctx_ok eqOk hG) mixed (live := [true, true, true, false, true]) (dt := [(1, ⟨[], [], []⟩)]) Tryz.func126 rfl (by kernel_rfl) (by kernel_rfl) fun w0 hlens => ?_
  clear hlens
  have h := mPos_at nl l a
  simp [Tryz.f126, List.range, List.range.loop, ints, intss, int, bool, row, frac, fracs, ← List.map_take, ← List.map_drop, h]
noncomputable def mVoA (s : Int) (nl : Bool) (vs : List Vt) (k : Int) : List AV → Option AV := mk (fun _ => True) (fun (a : Nat) => [prof s nl vs, .fn 126 [.fp (int (a : Int)) 0, .fp (int k) 0]]) (fun a => int (afN vs k a))
theorem mVoA_ok {s : Int} {nl : Bool} {vs : List Vt} {k : Int} (hp : profB s vs = true) : (FnOk Tryz.prog 115 (mVoA s nl vs k)) := by
  exact mk_ok fun a _ => voters_gen (g := 126) (pure_fp (a := int (a : Int)) (j := 0) (pure_fp (a := int k) (j := 0) pure_nil)) (fun l => decide (pos l (a : Int) < k)) s nl vs hp (fun v _ => among1 v.1.1 v.1.2 (a : Int) k)
theorem mVoA_at (s : Int) (nl : Bool) (vs : List Vt) (k : Int) (a : Nat) : mVoA s nl vs k [.agg [.v (.int .i64 s), .sl nl 2 (vs.map vote)], .fn 126 [.fp (.v (.int .i64 (a : Int))) 0, .fp (.v (.int .i64 k)) 0]] = some (.v (.int .i64 (afN vs k a))) :=
  mk_eq (enc := fun (a : Nat) => [prof s nl vs, .fn 126 [.fp (int (a : Int)) 0, .fp (int k) 0]]) (x := a) (by
    intro x y h
    simp [int] at h
    rw [(by omega : x = y)]) trivial
noncomputable def mAmo : List AV → Option AV := mk (fun p => profB (p.1 : Int) p.2.2.1 = true) (fun (p : Nat × Bool × List Vt × Int) => [prof (p.1 : Int) p.2.1 p.2.2.1, int p.2.2.2]) (fun p => ints false (afT p.2.2.1 p.1 p.2.2.2))
theorem mAmo_at (s : Nat) (nl : Bool) (vs : List Vt) (k : Int) (h : profB (s : Int) vs = true) : mAmo [.agg [.v (.int .i64 (s : Int)), .sl nl 2 (vs.map vote)], .v (.int .i64 k)] = some (.sl false 1 ((afT vs s k).map int)) :=
  mk_eq (enc := fun (p : Nat × Bool × List Vt × Int) => [prof (p.1 : Int) p.2.1 p.2.2.1, int p.2.2.2]) (x := (s, nl, vs, k)) (by
    rintro ⟨a, b, c, d⟩ ⟨a', b', c', d'⟩ h
    simp [prof, int, map_vote_inj] at h
    obtain ⟨⟨h1, h2, h3⟩, h4⟩ := h
    rw [(by omega : a = a'), h2, h3, h4]) h
set_option maxHeartbeats 2000000 in
theorem amongFirst_ok : FnOk Tryz.prog 81 mAmo := by
  refine mk_ok fun ⟨S, nl, vs, k⟩ hp => ?_
  simp only at hp
  obtain ⟨h1, h2, h3⟩ := prof_facts hp
  have hM1 := mVoA_ok (nl := nl) (k := k) hp
  have hv := fun a => mVoA_at (S : Int) nl vs k a
  generalize mVoA (S : Int) nl vs k = md at *
  have hG : FnsOk Tryz.prog [(115, md)] := (.cons hM1 .nil)
  refine callOk_awpZ [0, 1] (ctx_ok eqOk hG) mixed (live := [true, true, true, true, true, true, true, false, false, false, false, true, true, true]) (dt := [(5, ⟨[], [], []⟩)]) Tryz.func81 rfl (by kernel_rfl) (by kernel_rfl) fun w0 hlens => ?_
  clear hlens
  have hm6 : 8 * S ≤ 281474976710656 ∧ S ≤ 4611686018427387904 := by omega
  have zz : (fiT (afN vs k) 0 0 S 0).map int = List.replicate S (AV.v (.int .i64 0)) := by rw [fiT_zero, List.map_replicate]; rfl
  simp [Tryz.f81, List.range, List.range.loop, ints, intss, int, bool, row, frac, fracs, ← List.map_take, ← List.map_drop, andThen_n, freeze, frzA, frzAL, sets, prof, hm6]
  refine awp_range (live := [true, true, true, true, true, true, true, false, false, false, false, true, true, true]) (ctx_ok eqOk hG) mixed [false, false, true, true, false, true, false, false, false, false, false, true, true] (S) (fun a => True) (fun a => ⟨[.junk, .junk, .fp (prof (S : Int) nl vs) 0, .fp (int k) 0, .junk, .ref 0 [] 0 S, .junk, .junk, .junk, .junk, .junk, int (S : Int), int a, .junk, .junk, .junk, .junk, .junk, .junk, .junk, .junk, .junk, .junk], [⟨true, .sl false 1 ((fiT (afN vs k) 0 0 S a).map int)⟩]⟩) ?_ (by simp [sub, slotsLe, clean, keep, refsL, refs, once, place, renL, ren, List.replicate, int, bool, prof, zz]) ?_ ?_ ?_
  · omega
  · trivial
  · intro a ha _ hwa
    have haI : (a : Int) < (S : Int) := by omega
    have hva := hv a
    have hset := fiT_set (g := afN vs k) (z := 0) (x := 0) (y := afN vs k a) (s := S) (a := a)
    rw [fiT_next] at hset
    have l1 := fiT_len (g := afN vs k) (z := 0) (x := 0) (s := S) (a := a)
    have l2 := fiT_len (g := afN vs k) (z := 0) (x := 0) (s := S) (a := a + 1)
    have hset2 : (fiT (afN vs k) 0 0 S (a + 1)).map int = ((fiT (afN vs k) 0 0 S a).map int).set a (.v (.int .i64 (afN vs k a))) := by rw [← hset, List.map_set]; rfl
    generalize fiT (afN vs k) 0 0 S (a + 1) = B at *
    generalize fiT (afN vs k) 0 0 S a = A at *
    have haA : a < A.length := by omega
    simp [List.range, List.range.loop, ints, intss, int, bool, row, frac, fracs, ← List.map_take, ← List.map_drop, prof, ha, haI, haA, hva, l1, l2, hset2, hwa]
  · intro _
    have e : fiT (afN vs k) 0 0 S S = afT vs S k := fiT_all
    have l1 := fiT_len (g := afN vs k) (z := 0) (x := 0) (s := S) (a := S)
    rw [e] at l1 ⊢
    generalize afT vs S k = A at *
    have hAt : A.take S = A := List.take_of_length_le (by omega)
    simp [List.range, List.range.loop, ints, intss, int, bool, row, frac, fracs, ← List.map_take, ← List.map_drop, prof, l1, hAt]
noncomputable def mLev : List AV → Option AV := mk (fun p => profB (p.1 : Int) p.2.2 = true) (fun (p : PrN) => [prof (p.1 : Int) p.2.1 p.2.2]) (fun p => int (lvT p.2.2 p.1 : Int))
theorem mLev_at (s : Nat) (nl : Bool) (vs : List Vt) (h : profB (s : Int) vs = true) : mLev [.agg [.v (.int .i64 (s : Int)), .sl nl 2 (vs.map vote)]] = some (.v (.int .i64 (lvT vs s : Int))) :=
  mk_eq (enc := fun (p : PrN) => [prof (p.1 : Int) p.2.1 p.2.2]) (x := (s, nl, vs)) (fun x y h => by rw [PrN_inj h]) h
set_option maxHeartbeats 2000000 in
theorem implLev_ok : FnOk Tryz.prog 80 mLev := by
  refine mk_ok fun ⟨S, nl, vs⟩ hp => ?_
  simp only at hp
  obtain ⟨h1, h2, h3⟩ := prof_facts hp
  have hpp := mProf_at (S : Int) nl vs
  rw [hp] at hpp
  have hcv := mCv_at (S : Int) nl vs
  have ecv : cvT (S : Int) vs = vtrs (fun _ => true) vs := by unfold cvT; rw [if_pos hp]
  rw [ecv] at hcv
  have ha := fun k => mAmo_at S nl vs k hp
  have hG : FnsOk Tryz.prog [(19, mProf), (81, mAmo), (66, mMax), (70, mCv)] := (.cons implProf_ok (.cons amongFirst_ok (.cons max_ok (.cons implCv_ok .nil))))
  refine callOk_awpZ [0] (ctx_ok eqOk hG) mixed (live := [true, true, true, true, false, false, true, false, false, false, true, false, false, false, false, false, false, false, true]) (dt := [(6, ⟨[], [0, 0, 1], []⟩)]) Tryz.func80 rfl (by kernel_rfl) (by kernel_rfl) fun w0 hlens => ?_
  clear hlens
  cases vs with
  | nil =>
    have e := lvT_nil (s := S)
    simp only [List.map_nil] at hpp
    simp [Tryz.f80, List.range, List.range.loop, ints, intss, int, bool, row, frac, fracs, ← List.map_take, ← List.map_drop, andThen_n, freeze, frzA, frzAL, sets, prof, hpp, e]
  | cons v vs0 =>
    have hne : v :: vs0 ≠ [] := by simp
    have hnI : ¬ ((vs0.length : Int) + 1 = 0) := by omega
    simp only [List.map_cons] at hpp hcv ha
    have hbl := buF_last hp hne
    have hlev := fun k => lvT_some (vs := v :: vs0) (s := S) (k := k)
    have hb : ∀ k, buF (v :: vs0) S k = decide (vtrs (fun _ => true) (v :: vs0) < 2 * mx (afT (v :: vs0) S k)) := fun _ => rfl
    have hmb : ∀ k, 0 ≤ mx (afT (v :: vs0) S k) ∧ mx (afT (v :: vs0) S k) ≤ 24000 := fun k => by
      obtain ⟨i, hi, e⟩ := mx_of (xs := afT (v :: vs0) S k) (by rw [afT_len]; omega)
      rw [afT_at] at e
      rw [← e]
      exact afN_bd hp k i
    simp [Tryz.f80, List.range, List.range.loop, ints, intss, int, bool, row, frac, fracs, ← List.map_take, ← List.map_drop, andThen_n, freeze, frzA, frzAL, sets, prof, hpp, hnI]
    refine awp_loop_of (live := [true, true, true, true, false, false, true, false, false, false, true, false, false, false, false, false, false, false, true]) (ctx_ok eqOk hG) mixed [false, true, false, true] (α := {k : Nat // k < S ∧ ∀ j, j < k → buF (v :: vs0) S ((j : Int) + 1) = false}) (fun k => ⟨[.junk, .fp (prof (S : Int) nl (v :: vs0)) 0, .junk, int ((k.1 : Int) + 1), .junk, .junk, .junk, .junk, .junk, .junk, .junk, .junk, .junk, .junk, .junk, .junk, .junk, .junk, .junk, .junk, .junk, .junk], []⟩) (fun k => S - k.1) ⟨0, by omega, fun j hj => by omega⟩ (by simp [sub, slotsLe, clean, keep, refsL, refs, once, place, renL, ren, List.replicate, int, bool, prof]) ?_
    rintro ⟨k, hk, hno⟩
    have hal := afT_len (vs := v :: vs0) (s := S) (k := (k : Int) + 1)
    have hak := ha ((k : Int) + 1)
    have hmk := hmb ((k : Int) + 1)
    have hmx := mMax_at false (afT (v :: vs0) S ((k : Int) + 1)) (by omega) (by omega)
    have hbk := hb ((k : Int) + 1)
    have hlk := hlev k hk
    generalize afT (v :: vs0) S ((k : Int) + 1) = A at *
    have hAt : A.take A.length = A := List.take_length
    have hw2 : IntKind.i64.wrap (2 * mx A) = 2 * mx A := wrapI (by omega) (by omega)
    generalize vtrs (fun _ => true) (v :: vs0) = N at *
    by_cases hle : 2 * mx A ≤ N
    · have hbf : buF (v :: vs0) S ((k : Int) + 1) = false := by rw [hbk]; exact decide_eq_false (by omega)
      have hkS : k + 1 < S := by
        by_cases e : k + 1 = S
        · rw [show ((k : Int) + 1) = (S : Int) by omega, hbl] at hbf; cases hbf
        · omega
      have hwk : IntKind.i64.wrap ((k : Int) + 1 + 1) = (k : Int) + 1 + 1 := wrapI (by omega) (by omega)
      simp [List.range, List.range.loop, ints, intss, int, bool, row, frac, fracs, ← List.map_take, ← List.map_drop, prof, hak, hAt, hmx, hw2, hcv, hle, hwk]
      refine ⟨⟨k + 1, hkS, fun j hj => ?_⟩, by simp [sub, slotsLe, clean, keep, refsL, refs, once, place, renL, ren, List.replicate, int, bool, prof], by simp; omega⟩
      by_cases e : j = k
      · subst e; exact hbf
      · exact hno j (by omega)
    · have hbf : buF (v :: vs0) S ((k : Int) + 1) = true := by rw [hbk]; exact decide_eq_true (by omega)
      have he := hlk hbf hno
      simp [List.range, List.range.loop, ints, intss, int, bool, row, frac, fracs, ← List.map_take, ← List.map_drop, prof, hak, hAt, hmx, hw2, hcv, hle, he]
noncomputable def mBuc : List AV → Option AV := mk (fun p => profB (p.1 : Int) p.2.2 = true) (fun (p : PrN) => [prof (p.1 : Int) p.2.1 p.2.2]) (fun p => int (bwT p.2.2 p.1))
theorem mBuc_at (s : Nat) (nl : Bool) (vs : List Vt) (h : profB (s : Int) vs = true) : mBuc [.agg [.v (.int .i64 (s : Int)), .sl nl 2 (vs.map vote)]] = some (.v (.int .i64 (bwT vs s))) :=
  mk_eq (enc := fun (p : PrN) => [prof (p.1 : Int) p.2.1 p.2.2]) (x := (s, nl, vs)) (fun x y h => by rw [PrN_inj h]) h
theorem implBuc_ok : FnOk Tryz.prog 32 mBuc := by
  refine mk_ok fun ⟨S, nl, vs⟩ hp => ?_
  simp only at hp
  obtain ⟨h1, h2, h3⟩ := prof_facts hp
  have hlv := mLev_at S nl vs hp
  have ha := mAmo_at S nl vs (lvT vs S : Int) hp
  have hal := afT_len (vs := vs) (s := S) (k := (lvT vs S : Int))
  obtain ⟨_, hz⟩ := lvT_le hp
  have hg := mGr_at false (afT vs S (lvT vs S : Int)) (by omega) (by omega)
  have hgn := grT_ne (l := afT vs S (lvT vs S : Int)) (by omega)
  have ebw : bwT vs S = at0 (grT (afT vs S (lvT vs S : Int))) 0 := rfl
  have hG : FnsOk Tryz.prog [(80, mLev), (81, mAmo), (24, mGreat)] := (.cons implLev_ok (.cons amongFirst_ok (.cons greatest_ok .nil)))
  refine callOk_awpZ [0] (ctx_ok eqOk hG) mixed (live := [true, true, true, true, false, false, false, true]) (dt := []) Tryz.func32 rfl (by kernel_rfl) (by kernel_rfl) fun w0 hlens => ?_
  clear hlens
  by_cases h0 : lvT vs S = 0
  · have e := hz h0
    have hb0 : bwT vs S = 0 := by rw [e]; exact bwT_nil (by omega) (by omega)
    have h0I : ((lvT vs S : Nat) : Int) = 0 := by omega
    rw [h0I] at hlv
    rw [hb0]
    simp [Tryz.f32, List.range, List.range.loop, ints, intss, int, bool, row, frac, fracs, ← List.map_take, ← List.map_drop, andThen_n, freeze, frzA, frzAL, sets, prof, hlv]
  · have hlt : ¬ ((lvT vs S : Nat) : Int) < 1 := by omega
    rw [ebw]
    generalize grT (afT vs S (lvT vs S : Int)) = G at *
    generalize afT vs S (lvT vs S : Int) = A at *
    have hAt : A.take A.length = A := List.take_length
    have hG0 : 0 < G.length := List.length_pos_iff.2 hgn
    have e0 : G[0] = at0 G 0 := (at0_eq hG0).symm
    simp [Tryz.f32, List.range, List.range.loop, ints, intss, int, bool, row, frac, fracs, ← List.map_take, ← List.map_drop, andThen_n, freeze, frzA, frzAL, sets, prof, hlv, ha, hlt, h0, hAt, hg, hG0, e0]
end Go.Proofs.YtigepnpiofcooaaGreat.Ax
namespace Go.Proofs.YtigepnpiofcooaaGreat.Ax
open Go Go.RowKit
set_option linter.unusedSimpArgs false
def rwT (vs : List Vt) (s a : Nat) : List Int := (List.range s).map fun (j : Nat) => vtrs (fun l => decide (pos l (a : Int) = (j : Int))) vs
theorem rwT_len {vs : List Vt} {s a : Nat} : (rwT vs s a).length = s := by simp [rwT]
theorem rwT_zero {s a : Nat} : (rwT [] s a).map int = List.replicate s (AV.v (.int .i64 0)) := by
  apply List.ext_getElem
  · simp [rwT]
  · intro i h1 h2; simp [rwT, vtrs, int]
theorem rwT_bd {vs : List Vt} {s a : Nat} (h : ∀ v ∈ vs, 1 ≤ v.2 ∧ v.2 ≤ 1000) (hl : vs.length ≤ 24) : ∀ x ∈ rwT vs s a, 0 ≤ x ∧ x ≤ 24000 := fun x hx => by
  simp only [rwT, List.mem_map, List.mem_range] at hx
  obtain ⟨j, _, rfl⟩ := hx
  have := vtrs_bd (p := fun l => decide (pos l (a : Int) = (j : Int))) h
  omega
theorem rwT_succ {vs : List Vt} {s a k q : Nat} (hk : k < vs.length) (hq : pos vs[k].1.2 (a : Int) = (q : Int)) (hqs : q < s) : rwT (vs.take (k + 1)) s a = (rwT (vs.take k) s a).set q (at0 (rwT (vs.take k) s a) q + vs[k].2) := by
  rw [at0_eq (by rw [rwT_len]; exact hqs)]
  apply List.ext_getElem
  · simp [rwT]
  · intro i h1 h2
    rw [List.getElem_set]
    simp only [rwT, List.getElem_map, List.getElem_range, vtrs_succ hk, hq]
    by_cases e : q = i
    · subst e; simp
    · rw [if_neg e, if_neg (by simp; omega), Int.add_zero]
def tbT (vs : List Vt) (s n : Nat) : List (Bool × List Int) := (List.range n).map fun a => (false, rwT vs s a)
theorem tbT_zero {vs : List Vt} {s : Nat} : tbT vs s 0 = [] := rfl
theorem tbT_succ {vs : List Vt} {s n : Nat} : tbT vs s (n + 1) = tbT vs s n ++ [(false, rwT vs s n)] := by simp [tbT, List.range_succ]
theorem tbT_len {vs : List Vt} {s n : Nat} : (tbT vs s n).length = n := by simp [tbT]
theorem tbT_at {vs : List Vt} {s n a : Nat} (h : a < (tbT vs s n).length) : (tbT vs s n)[a] = (false, rwT vs s a) := by simp [tbT]
theorem vtrs_or {p q : List Int → Bool} (hd : ∀ l, ¬ (p l = true ∧ q l = true)) : ∀ {vs : List Vt}, vtrs (fun l => p l || q l) vs = vtrs p vs + vtrs q vs
  | [] => rfl
  | v :: vs => by
    have ih := vtrs_or (p := p) (q := q) hd (vs := vs)
    have e : ∀ r : List Int → Bool, vtrs r (v :: vs) = (if r v.1.2 = true then v.2 else 0) + vtrs r vs := fun r => by
      unfold vtrs
      by_cases h : r v.1.2 = true <;> simp [h]
    rw [e, e, e, ih]
    have := hd v.1.2
    cases h1 : p v.1.2 <;> cases h2 : q v.1.2 <;> simp [h1, h2] at this ⊢ <;> omega
theorem rwT_sum {vs : List Vt} {s a : Nat} (hp : profB (s : Int) vs = true) (ha : a < s) : ∀ k, k ≤ s → ((rwT vs s a).take k).sum = afN vs (k : Int) a
  | 0, _ => by
    obtain ⟨_, _, h3⟩ := prof_facts hp
    have : afN vs 0 a = vtrs (fun _ => false) vs := vtrs_congr fun v hv => decide_eq_false (by have := pos_iff.2 (rank_in' (h3 v hv).1 ha); omega)
    rw [List.take_zero, Int.natCast_zero, this]
    unfold vtrs
    rw [List.filter_eq_nil_iff.2 (by simp)]; rfl
  | k + 1, hk => by
    have ih := rwT_sum hp ha k (by omega)
    have hkl : k < (rwT vs s a).length := by rw [rwT_len]; omega
    rw [List.take_succ_eq_append_getElem hkl, List.sum_append, ih]
    have e : afN vs ((k + 1 : Nat) : Int) a = vtrs (fun l => decide (pos l (a : Int) < (k : Int)) || decide (pos l (a : Int) = (k : Int))) vs := by
      unfold afN
      refine vtrs_congr fun v _ => ?_
      rw [← Bool.decide_or]
      exact decide_eq_decide.2 (by omega)
    rw [e, vtrs_or (p := fun l => decide (pos l (a : Int) < (k : Int))) (q := fun l => decide (pos l (a : Int) = (k : Int))) fun l h => by simp at h; omega]
    simp [rwT, afN]
noncomputable def mPlt : List AV → Option AV := mk (fun p => profB (p.1 : Int) p.2.2 = true) (fun (p : PrN) => [prof (p.1 : Int) p.2.1 p.2.2]) (fun p => intss false (tbT p.2.2 p.1 p.1))
theorem mPlt_at (s : Nat) (nl : Bool) (vs : List Vt) (h : profB (s : Int) vs = true) : mPlt [.agg [.v (.int .i64 (s : Int)), .sl nl 2 (vs.map vote)]] = some (.sl false 1 ((tbT vs s s).map row)) :=
  mk_eq (enc := fun (p : PrN) => [prof (p.1 : Int) p.2.1 p.2.2]) (x := (s, nl, vs)) (fun x y h => by rw [PrN_inj h]) h
set_option maxHeartbeats 4000000 in
theorem placeTable_ok : FnOk Tryz.prog 138 mPlt := by
  refine mk_ok fun ⟨S, nl, vs⟩ hp => ?_
  simp only at hp
  obtain ⟨h1, h2, h3⟩ := prof_facts hp
  have hpp := mProf_at (S : Int) nl vs
  rw [hp] at hpp
  have hG : FnsOk Tryz.prog [(16, mProf), (141, mPos)] := (.cons specProf_ok (.cons placeOf_ok .nil))
  refine callOk_awpZ [0] (ctx_ok eqOk hG) mixed (live := [true, true, true, true, true, true, false, true, true, false, false, true, false, false, false, false, true, false, false, false, false, false, false, true, true, true, true]) (dt := [(12, ⟨[], [], []⟩)]) Tryz.func138 rfl (by kernel_rfl) (by kernel_rfl) fun w0 hlens => ?_
  clear hlens
  have z0 := tbT_zero (vs := vs) (s := S)
  have hm6 : 8 * S ≤ 281474976710656 ∧ S ≤ 4611686018427387904 := by omega
  simp [Tryz.f138, List.range, List.range.loop, ints, intss, int, bool, row, frac, fracs, ← List.map_take, ← List.map_drop, andThen_n, freeze, frzA, frzAL, sets, prof, hpp]
  refine awp_range (live := [true, true, true, true, true, true, false, true, true, false, false, true, false, false, false, false, true, false, false, false, false, false, false, true, true, true, true]) (ctx_ok eqOk hG) mixed [false, true, false, true, true] (S) (fun a => True) (fun a => ⟨[.junk, .fp (prof (S : Int) nl vs) 0, .junk, .ref 0 [] 0 a, int a, .junk, .junk, .junk, .junk, .junk, .junk, .junk, .junk, .junk, .junk, .junk, .junk, .junk, .junk, .junk, .junk, .junk, .junk, .junk, .junk, .junk, .junk, .junk, .junk, .junk, .junk, .junk, .junk, .junk, .junk, .junk, .junk, .junk, .junk, .junk, .junk, .junk, .junk, .junk, .junk, .junk, .junk, .junk, .junk], [⟨true, .sl false 1 ((tbT vs S a).map row)⟩]⟩) ?_ (by simp [sub, slotsLe, clean, keep, refsL, refs, once, place, renL, ren, List.replicate, int, bool, prof, z0]) ?_ ?_ ?_
  · omega
  · trivial
  · intro a ha _ hwa
    have haI : (a : Int) < (S : Int) := by omega
    have hs := tbT_succ (vs := vs) (s := S) (n := a)
    have hl := tbT_len (vs := vs) (s := S) (n := a)
    generalize tbT vs S (a + 1) = B at *
    generalize tbT vs S a = A at *
    have zr := rwT_zero (s := S) (a := a)
    simp [List.range, List.range.loop, ints, intss, int, bool, row, frac, fracs, ← List.map_take, ← List.map_drop, prof, haI, ha, hm6]
    refine awp_range (live := [true, true, true, true, true, true, false, true, true, false, false, true, false, false, false, false, true, false, false, false, false, false, false, true, true, true, true]) (ctx_ok eqOk hG) mixed [false, true, false, true, true, true, false, false, false, false, false, false, false, false, false, false, false, false, false, false, false, false, false, true, true, true] (vs.length) (fun k => True) (fun k => ⟨[.junk, .fp (prof (S : Int) nl vs) 0, .junk, .ref 0 [] 0 a, int a, .ref 1 [] 0 S, .junk, .junk, .junk, .junk, .junk, .junk, .junk, .junk, .junk, .junk, .junk, .junk, .junk, .junk, .junk, .junk, .junk, vts nl vs, int vs.length, int k, .junk, .junk, .junk, .junk, .junk, .junk, .junk, .junk, .junk, .junk, .junk, .junk, .junk, .junk, .junk, .junk, .junk, .junk, .junk, .junk, .junk, .junk, .junk], [⟨true, .sl false 1 (A.map row)⟩, ⟨true, .sl false 1 ((rwT (vs.take k) S a).map int)⟩]⟩) ?_ (by simp [sub, slotsLe, clean, keep, refsL, refs, once, place, renL, ren, List.replicate, int, bool, prof, vts, zr]) ?_ ?_ ?_
    · omega
    · trivial
    · intro k hk _ hwk
      obtain ⟨hrk, hc1, hc2⟩ := h3 _ (List.getElem_mem hk)
      have hrl := (rk_nat hrk).1
      have hd : nilC (.sl vs[k].1.1 1 (vs[k].1.2.map int)) = false := nilC_row (fun e => by rw [e] at hrl; simp at hrl; omega)
      have hpos := mPos_at vs[k].1.1 vs[k].1.2 (a : Int)
      have hge := pos_iff.2 (rank_in' hrk ha)
      have hlt := pos_lt (x := (a : Int)) (l := vs[k].1.2)
      obtain ⟨q, hq⟩ : ∃ q : Nat, pos vs[k].1.2 (a : Int) = q := ⟨(pos vs[k].1.2 (a : Int)).toNat, by omega⟩
      have hqs : q < S := by omega
      have hsu := rwT_succ hk hq hqs
      have hbd := rwT_bd (vs := vs.take k) (s := S) (a := a) (fun v hv => (h3 v (List.mem_of_mem_take hv)).2) (by rw [List.length_take]; omega)
      have l1 := rwT_len (vs := vs.take k) (s := S) (a := a)
      have l2 := rwT_len (vs := vs.take (k + 1)) (s := S) (a := a)
      have hsu2 : (rwT (vs.take (k + 1)) S a).map int = ((rwT (vs.take k) S a).map int).set q (.v (.int .i64 (at0 (rwT (vs.take k) S a) q + vs[k].2))) := by rw [hsu, List.map_set]; rfl
      generalize rwT (vs.take (k + 1)) S a = R1 at *
      generalize rwT (vs.take k) S a = R at *
      have hqR : q < R.length := by omega
      have e3 : R[q] = at0 R q := (at0_eq hqR).symm
      have hb := hbd _ (List.getElem_mem hqR)
      rw [e3] at hb
      have hw : IntKind.i64.wrap (at0 R q + vs[k].2) = at0 R q + vs[k].2 := wrapI (by omega) (by omega)
      rw [hq] at hpos
      have htv : vs[k].1.2.take S = vs[k].1.2 := List.take_of_length_le (by omega)
      simp [List.range, List.range.loop, ints, intss, int, bool, row, frac, fracs, ← List.map_take, ← List.map_drop, prof, vts, vote, hk, hrl, htv, hpos, hqR, hqs, l1, e3, hw, hsu2, hwk, -nilC, hd]
    · intro _
      have l1 := rwT_len (vs := vs) (s := S) (a := a)
      have htk : List.take vs.length vs = vs := List.take_length
      rw [htk]
      generalize rwT vs S a = R at *
      have hbb : (a + 1) * 24 ≤ 140737488355328 ∧ a + 1 ≤ 4611686018427387904 := by omega
      subst hs
      have hRt : R.take S = R := List.take_of_length_le (by omega)
      simp [List.range, List.range.loop, ints, intss, int, bool, row, frac, fracs, ← List.map_take, ← List.map_drop, prof, vts, hl, l1, hRt, hbb, hwa]
  · intro _
    have hl := tbT_len (vs := vs) (s := S) (n := S)
    generalize tbT vs S S = A at *
    have hAt : A.take S = A := List.take_of_length_le (by omega)
    simp [List.range, List.range.loop, ints, intss, int, bool, row, frac, fracs, ← List.map_take, ← List.map_drop, prof, hl, hAt, List.map_take, ← List.map_take]
def afTo (vs : List Vt) (k : Int) (a : Nat) : List Int := (List.range a).map (afN vs k)
theorem afTo_zero {vs : List Vt} {k : Int} : afTo vs k 0 = [] := rfl
theorem afTo_succ {vs : List Vt} {k : Int} {a : Nat} : afTo vs k (a + 1) = afTo vs k a ++ [afN vs k a] := by simp [afTo, List.range_succ]
theorem afTo_len {vs : List Vt} {k : Int} {a : Nat} : (afTo vs k a).length = a := by simp [afTo]
noncomputable def mWit : List AV → Option AV := mk (fun p => profB (p.1 : Int) p.2.2.1 = true ∧ p.2.2.2 ≤ p.1) (fun (p : Nat × Bool × List Vt × Nat) => [prof (p.1 : Int) p.2.1 p.2.2.1, int (p.2.2.2 : Int)]) (fun p => ints false (afT p.2.2.1 p.1 (p.2.2.2 : Int)))
theorem mWit_at (s : Nat) (nl : Bool) (vs : List Vt) (k : Nat) (h : profB (s : Int) vs = true ∧ k ≤ s) : mWit [.agg [.v (.int .i64 (s : Int)), .sl nl 2 (vs.map vote)], .v (.int .i64 (k : Int))] = some (.sl false 1 ((afT vs s (k : Int)).map int)) :=
  mk_eq (enc := fun (p : Nat × Bool × List Vt × Nat) => [prof (p.1 : Int) p.2.1 p.2.2.1, int (p.2.2.2 : Int)]) (x := (s, nl, vs, k)) (by
    rintro ⟨a, b, c, d⟩ ⟨a', b', c', d'⟩ h
    simp [prof, int, map_vote_inj] at h
    obtain ⟨⟨h1, h2, h3⟩, h4⟩ := h
    rw [(by omega : a = a'), h2, h3, (by omega : d = d')]) h
set_option maxHeartbeats 4000000 in
theorem l07Within_ok : FnOk Tryz.prog 105 mWit := by
  refine mk_ok fun ⟨S, nl, vs, k⟩ ⟨hp, hk⟩ => ?_
  simp only at hp hk
  obtain ⟨h1, h2, h3⟩ := prof_facts hp
  have hpt := mPlt_at S nl vs hp
  have hG : FnsOk Tryz.prog [(138, mPlt)] := (.cons placeTable_ok .nil)
  refine callOk_awpZ [0] (ctx_ok eqOk hG) mixed (live := [true, true, true, false, true, true, false, true, true, false, true, false, false, true, true, true, true, false, false, false, false, true, true, true, true]) (dt := []) Tryz.func105 rfl (by kernel_rfl) (by kernel_rfl) fun w0 hlens => ?_
  clear hlens
  have z0 := afTo_zero (vs := vs) (k := (k : Int))
  have htl := tbT_len (vs := vs) (s := S) (n := S)
  have hta := fun a => tbT_at (vs := vs) (s := S) (n := S) (a := a)
  have hsum := fun a (ha : a < S) => rwT_sum hp ha k hk
  have hrl := fun a => rwT_len (vs := vs) (s := S) (a := a)
  have hrb := fun a => rwT_bd (vs := vs) (s := S) (a := a) (fun v hv => (h3 v hv).2) h2
  generalize tbT vs S S = T at *
  have hTt : T.take S = T := List.take_of_length_le (by omega)
  simp [Tryz.f105, List.range, List.range.loop, ints, intss, int, bool, row, frac, fracs, ← List.map_take, ← List.map_drop, andThen_n, freeze, frzA, frzAL, sets, prof, hpt, htl]
  refine awp_range (live := [true, true, true, false, true, true, false, true, true, false, true, false, false, true, true, true, true, false, false, false, false, true, true, true, true]) (ctx_ok eqOk hG) mixed [false, true, false, false, false, true, false, false, false, false, false, false, false, true, true, true] (S) (fun a => True) (fun a => ⟨[.junk, int (k : Int), .junk, .junk, .junk, .ref 0 [] 0 a, .junk, .junk, .junk, .junk, .junk, .junk, .junk, .ref 1 [] 0 S, int (S : Int), int a, .junk, .junk, .junk, .junk, .junk, .junk, .junk, .junk, .junk, .junk, .junk, .junk, .junk, .junk, .junk, .junk, .junk, .junk, .junk, .junk, .junk], [⟨true, .sl false 1 ((afTo vs (k : Int) a).map int)⟩, ⟨true, .sl false 1 (T.map row)⟩]⟩) ?_ (by simp [sub, slotsLe, clean, keep, refsL, refs, once, place, renL, ren, List.replicate, int, bool, prof, z0, htl]) ?_ ?_ ?_
  · omega
  · trivial
  · intro a ha _ hwa
    have haI : (a : Int) < (S : Int) := by omega
    have haT : a < T.length := by omega
    have hs := afTo_succ (vs := vs) (k := (k : Int)) (a := a)
    have hl := afTo_len (vs := vs) (k := (k : Int)) (a := a)
    have hTa := hta a haT
    have hsu := hsum a ha
    have hla := hrl a
    have hba := hrb a
    generalize afTo vs (k : Int) (a + 1) = B at *
    generalize afTo vs (k : Int) a = A at *
    generalize rwT vs S a = R at *
    have hkR : k ≤ R.length := by omega
    simp [List.range, List.range.loop, ints, intss, int, bool, row, frac, fracs, ← List.map_take, ← List.map_drop, prof, haI, ha, haT, htl, hl, hTa, hla, hk]
    refine awp_range (live := [true, true, true, false, true, true, false, true, true, false, true, false, false, true, true, true, true, false, false, false, false, true, true, true, true]) (ctx_ok eqOk hG) mixed [false, true, false, false, false, true, false, false, true, false, false, false, false, true, true, true, false, false, false, false, false, true, true, true] (k) (fun j => True) (fun j => ⟨[.junk, int (k : Int), .junk, .junk, .junk, .ref 0 [] 0 a, .junk, .junk, int ((R.take j).sum), .junk, .junk, .junk, .junk, .ref 1 [] 0 S, int (S : Int), int a, .junk, .junk, .junk, .junk, .junk, .ref 1 [(a, 0)] 0 k, int (k : Int), int j, .junk, .junk, .junk, .junk, .junk, .junk, .junk, .junk, .junk, .junk, .junk, .junk, .junk], [⟨true, .sl false 1 (A.map int)⟩, ⟨true, .sl false 1 (T.map row)⟩]⟩) ?_ (by simp [sub, slotsLe, clean, keep, refsL, refs, once, place, renL, ren, List.replicate, int, bool, prof, htl, hl, hTa, hla, haT]) ?_ ?_ ?_
    · omega
    · trivial
    · intro j hj _ hwj
      have hjR : j < R.length := by omega
      have hjI : (j : Int) < (k : Int) := by omega
      have hst := sum_take_succ hjR
      have hb1 := sum_bd (l := R.take j) (c := 24000) fun x hx => hba x (List.mem_of_mem_take hx)
      have hb2 := hba _ (List.getElem_mem hjR)
      rw [List.length_take] at hb1
      have hw : IntKind.i64.wrap ((R.take j).sum + R[j]) = (R.take j).sum + R[j] := wrapI (by omega) (by omega)
      have hjS : j < S := by omega
      generalize (R.take (j + 1)).sum = s1 at *
      generalize (R.take j).sum = s0 at *
      subst hst
      simp [List.range, List.range.loop, ints, intss, int, bool, row, frac, fracs, ← List.map_take, ← List.map_drop, prof, haI, ha, haT, htl, hl, hTa, hla, hk, hj, hjR, hjI, hjS, hw, hwj]
    · intro _
      have hbb : (a + 1) * 8 ≤ 140737488355328 ∧ a + 1 ≤ 4611686018427387904 := by omega
      rw [hsu]
      simp [List.range, List.range.loop, ints, intss, int, bool, row, frac, fracs, ← List.map_take, ← List.map_drop, prof, haI, ha, haT, htl, hl, hTa, hla, hk, hbb, hs, hwa]
  · intro _
    have hl := afTo_len (vs := vs) (k := (k : Int)) (a := S)
    have e : afT vs S (k : Int) = afTo vs (k : Int) S := rfl
    rw [e]
    generalize afTo vs (k : Int) S = A at *
    have hAt : A.take S = A := List.take_of_length_le (by omega)
    simp [List.range, List.range.loop, ints, intss, int, bool, row, frac, fracs, ← List.map_take, ← List.map_drop, prof, htl, hl, hAt]
set_option maxHeartbeats 4000000 in
theorem l07Level_ok : FnOk Tryz.prog 106 mLev := by
  refine mk_ok fun ⟨S, nl, vs⟩ hp => ?_
  simp only at hp
  obtain ⟨h1, h2, h3⟩ := prof_facts hp
  have hcv := mCvS_at (S : Int) nl vs hp
  have hwi := fun k (hk : k ≤ S) => mWit_at S nl vs k ⟨hp, hk⟩
  have hbu := fun k => buF_iff (vs := vs) (s := S) (k := k) (by omega)
  have hlv := fun k => lvT_some (vs := vs) (s := S) (k := k)
  have hln := lvT_none (vs := vs) (s := S)
  have hab := fun k a => afN_bd hp k a
  have hG : FnsOk Tryz.prog [(105, mWit), (100, mCvS)] := (.cons l07Within_ok (.cons l04Voters_ok .nil))
  refine callOk_awpZ [0] (ctx_ok eqOk hG) mixed (live := [true, true, true, true, false, true, false, false, false, true, false, false, false, false, true, true, true, true, false, false, false, false, false, false, true]) (dt := []) Tryz.func106 rfl (by kernel_rfl) (by kernel_rfl) fun w0 hlens => ?_
  clear hlens
  generalize hN : vtrs (fun _ => true) vs = N at *
  simp [Tryz.f106, List.range, List.range.loop, ints, intss, int, bool, row, frac, fracs, ← List.map_take, ← List.map_drop, andThen_n, freeze, frzA, frzAL, sets, prof]
  refine awp_range (live := [true, true, true, true, false, true, false, false, false, true, false, false, false, false, true, true, true, true, false, false, false, false, false, false, true]) (ctx_ok eqOk hG) mixed [false, true, false, true] (S) (fun k => ∀ j, j < k → buF vs S ((j : Int) + 1) = false) (fun k => ⟨[.junk, .fp (prof (S : Int) nl vs) 0, .junk, int ((k : Int) + 1), .junk, .junk, .junk, .junk, .junk, .junk, .junk, .junk, .junk, .junk, .junk, .junk, .junk, .junk, .junk, .junk, .junk, .junk, .junk, .junk, .junk, .junk, .junk], []⟩) ?_ (by simp [sub, slotsLe, clean, keep, refsL, refs, once, place, renL, ren, List.replicate, int, bool, prof]) ?_ ?_ ?_
  · omega
  · intro j hj; omega
  · intro k hk hno hwk
    have hkI : (k : Int) + 1 ≤ (S : Int) := by omega
    have hwk2 : IntKind.i64.wrap ((k : Int) + 1 + 1) = (k : Int) + 1 + 1 := wrapI (by omega) (by omega)
    have hz := hwi (k + 1) (by omega)
    push_cast at hz
    have hal := afT_len (vs := vs) (s := S) (k := (k : Int) + 1)
    have hat := fun i => afT_at (vs := vs) (s := S) (k := (k : Int) + 1) (i := i)
    have hbk := hbu ((k : Int) + 1)
    have hlk := fun h => hlv k hk h hno
    have habk := hab ((k : Int) + 1)
    generalize afT vs S ((k : Int) + 1) = A at *
    simp [List.range, List.range.loop, ints, intss, int, bool, row, frac, fracs, ← List.map_take, ← List.map_drop, prof, hkI, hz, hal]
    refine awp_range (live := [true, true, true, true, false, true, false, false, false, true, false, false, false, false, true, true, true, true, false, false, false, false, false, false, true]) (ctx_ok eqOk hG) mixed [false, true, false, true, false, false, false, false, false, false, false, false, false, false, true, true, true] (S) (fun i => ∀ j, j < i → ¬ N < 2 * afN vs ((k : Int) + 1) j) (fun i => ⟨[.junk, .fp (prof (S : Int) nl vs) 0, .junk, int ((k : Int) + 1), .junk, .junk, .junk, .junk, .junk, .junk, .junk, .junk, .junk, .junk, .ref 0 [] 0 S, int (S : Int), int i, .junk, .junk, .junk, .junk, .junk, .junk, .junk, .junk, .junk, .junk], [⟨true, .sl false 1 (A.map int)⟩]⟩) ?_ (by simp [sub, slotsLe, clean, keep, refsL, refs, once, place, renL, ren, List.replicate, int, bool, prof, hal]) ?_ ?_ ?_
    · omega
    · intro j hj; omega
    · intro i hi hni hwi2
      have hiA : i < A.length := by omega
      have hiI : (i : Int) < (S : Int) := by omega
      have e := hat i hiA
      have hb := habk i
      have hw : IntKind.i64.wrap (2 * afN vs ((k : Int) + 1) i) = 2 * afN vs ((k : Int) + 1) i := wrapI (by omega) (by omega)
      by_cases hgt : N < 2 * afN vs ((k : Int) + 1) i
      · have he := hlk (hbk.2 ⟨i, hi, hgt⟩)
        simp [List.range, List.range.loop, ints, intss, int, bool, row, frac, fracs, ← List.map_take, ← List.map_drop, prof, hkI, hi, hiI, hiA, hal, e, hw, hcv, hgt, he]
      · simp [List.range, List.range.loop, ints, intss, int, bool, row, frac, fracs, ← List.map_take, ← List.map_drop, prof, hkI, hi, hiI, hiA, hal, e, hw, hcv, hgt, hwi2]
        intro j hj
        by_cases e2 : j = i
        · subst e2; omega
        · have := hni j (by omega); omega
    · intro hni
      have hbf : buF vs S ((k : Int) + 1) = false := by
        cases h : buF vs S ((k : Int) + 1) with
        | false => rfl
        | true =>
          obtain ⟨a, ha, hh⟩ := hbk.1 h
          exact (hni a ha hh).elim
      simp [List.range, List.range.loop, ints, intss, int, bool, row, frac, fracs, ← List.map_take, ← List.map_drop, prof, hkI, hal, hwk2]
      intro j hj
      by_cases e2 : j = k
      · subst e2; exact hbf
      · exact hno j (by omega)
  · intro hno
    have e := hln hno
    have hlt : ¬ (S : Int) + 1 ≤ (S : Int) := by omega
    simp [List.range, List.range.loop, ints, intss, int, bool, row, frac, fracs, ← List.map_take, ← List.map_drop, prof, hlt, e]
theorem specBuc_ok : FnOk Tryz.prog 52 mBuc := by
  refine mk_ok fun ⟨S, nl, vs⟩ hp => ?_
  simp only at hp
  obtain ⟨h1, h2, h3⟩ := prof_facts hp
  have hpp := mProf_at (S : Int) nl vs
  rw [hp] at hpp
  have hlv := mLev_at S nl vs hp
  obtain ⟨hle, _⟩ := lvT_le hp
  have ha := mWit_at S nl vs (lvT vs S) ⟨hp, hle⟩
  have hal := afT_len (vs := vs) (s := S) (k := (lvT vs S : Int))
  have hg := mBe_at false (afT vs S (lvT vs S : Int)) (by omega)
  have hgn := grT_ne (l := afT vs S (lvT vs S : Int)) (by omega)
  have ebw : bwT vs S = at0 (grT (afT vs S (lvT vs S : Int))) 0 := rfl
  have hG : FnsOk Tryz.prog [(16, mProf), (106, mLev), (105, mWit), (44, mBest)] := (.cons specProf_ok (.cons l07Level_ok (.cons l07Within_ok (.cons l05Best_ok .nil))))
  refine callOk_awpZ [0] (ctx_ok eqOk hG) mixed (live := [true, true, true, false, false, true]) (dt := [(3, ⟨[], [0, 0, 0, 1, 1], []⟩)]) Tryz.func52 rfl (by kernel_rfl) (by kernel_rfl) fun w0 hlens => ?_
  clear hlens
  rw [ebw]
  generalize grT (afT vs S (lvT vs S : Int)) = G at *
  generalize afT vs S (lvT vs S : Int) = A at *
  have hAt : A.take A.length = A := List.take_length
  have hG0 : 0 < G.length := List.length_pos_iff.2 hgn
  have e0 : G[0] = at0 G 0 := (at0_eq hG0).symm
  simp [Tryz.f52, List.range, List.range.loop, ints, intss, int, bool, row, frac, fracs, ← List.map_take, ← List.map_drop, andThen_n, freeze, frzA, frzAL, sets, prof, hpp, hlv, ha, hAt, hg, hG0, e0]
end Go.Proofs.YtigepnpiofcooaaGreat.Ax
