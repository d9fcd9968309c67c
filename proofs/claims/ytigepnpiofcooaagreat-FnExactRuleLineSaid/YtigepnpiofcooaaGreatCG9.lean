/-
  Contract: the Condorcet winner (the reference). No condition.
-/
import Derived.Test.YtigepnpiofcooaaGreatCG8
import Derived.Test.YtigepnpiofcooaaGreatCG1
import Derived.Test.YtigepnpiofcooaaGreatCG7
namespace Go.Proofs.YtigepnpiofcooaaGreat.Ax
open Go Go.RowKit
set_option linter.unusedSimpArgs false
def wnAt (f : Int → Int → Bool) (s a b : Nat) : List Int := incs (List.replicate s 0) ((bpAll f s a ++ bpTo f a b).map (·.1))
def lsAt (f : Int → Int → Bool) (s a b : Nat) : List Int := incs (List.replicate s 0) ((bpAll f s a ++ bpTo f a b).map (·.2))
theorem wnAt_next {f : Int → Int → Bool} {s a : Nat} : wnAt f s a s = wnAt f s (a + 1) 0 := by simp [wnAt, bpAll, bpTo]
theorem lsAt_next {f : Int → Int → Bool} {s a : Nat} : lsAt f s a s = lsAt f s (a + 1) 0 := by simp [lsAt, bpAll, bpTo]
theorem wnAt_all {f : Int → Int → Bool} {s : Nat} : wnAt f s s 0 = wonT f s := by simp [wnAt, wonT, bpTo]
theorem lsAt_all {f : Int → Int → Bool} {s : Nat} : lsAt f s s 0 = lostT f s := by simp [lsAt, lostT, bpTo]
theorem wnAt_len {f : Int → Int → Bool} {s a b : Nat} : (wnAt f s a b).length = s := by simp [wnAt, incs_len]
theorem lsAt_len {f : Int → Int → Bool} {s a b : Nat} : (lsAt f s a b).length = s := by simp [lsAt, incs_len]
theorem wnAt_zero {f : Int → Int → Bool} {s : Nat} : wnAt f s 0 0 = List.replicate s 0 := rfl
theorem lsAt_zero {f : Int → Int → Bool} {s : Nat} : lsAt f s 0 0 = List.replicate s 0 := rfl
theorem wlAt_yes {f : Int → Int → Bool} {s a b : Nat} (h : f a b = true) : wnAt f s a (b + 1) = (wnAt f s a b).set a (at0 (wnAt f s a b) a + 1) ∧ lsAt f s a (b + 1) = (lsAt f s a b).set b (at0 (lsAt f s a b) b + 1) := by
  unfold wnAt lsAt
  simp only [bpTo, h, if_true, ← List.append_assoc, List.map_append, List.map_cons, List.map_nil]
  exact ⟨by rw [← List.map_append, incs_snoc, inc1]; rfl, by rw [← List.map_append, incs_snoc, inc1]; rfl⟩
theorem wlAt_no {f : Int → Int → Bool} {s a b : Nat} (h : f a b = false) : wnAt f s a (b + 1) = wnAt f s a b ∧ lsAt f s a (b + 1) = lsAt f s a b := by
  unfold wnAt lsAt
  simp [bpTo, h]
theorem wlAt_bd {f : Int → Int → Bool} {s a b : Nat} (ha : a < s) (hb : b ≤ s) : (∀ x ∈ wnAt f s a b, 0 ≤ x ∧ x ≤ (s * s + s : Nat)) ∧ ∀ x ∈ lsAt f s a b, 0 ≤ x ∧ x ≤ (s * s + s : Nat) := by
  have hz : ∀ x ∈ List.replicate s (0 : Int), 0 ≤ x ∧ x ≤ 0 := fun x hx => by rw [List.mem_replicate] at hx; omega
  have hl : (bpAll f s a ++ bpTo f a b).length ≤ s * s + s := by
    have h1 := bpAll_len (f := f) (s := s) (a := a)
    have h2 := bpTo_len (f := f) (a := a) (b := b)
    have h3 : s * a ≤ s * s := Nat.mul_le_mul_left _ (by omega)
    rw [List.length_append]; omega
  have hm : ∀ x ∈ bpAll f s a ++ bpTo f a b, x.1.toNat < s ∧ x.2.toNat < s := fun x hx => by
    rcases List.mem_append.1 hx with hx | hx
    · obtain ⟨⟨i, h1, h2⟩, ⟨j, h3, h4⟩⟩ := bpAll_mem x hx
      rw [h1, h3]; simp; omega
    · obtain ⟨h1, j, h3, h4⟩ := bpTo_mem x hx
      rw [h1, h3]; simp; omega
  constructor
  · have := (incs_facts hz (l := (bpAll f s a ++ bpTo f a b).map (·.1)) fun i hi => by
      obtain ⟨x, hx, rfl⟩ := List.mem_map.1 hi
      simpa using (hm x hx).1).2
    intro x hx
    have := this x hx
    rw [List.length_map] at this
    omega
  · have := (incs_facts hz (l := (bpAll f s a ++ bpTo f a b).map (·.2)) fun i hi => by
      obtain ⟨x, hx, rfl⟩ := List.mem_map.1 hi
      simpa using (hm x hx).2).2
    intro x hx
    have := this x hx
    rw [List.length_map] at this
    omega
noncomputable def mSums : List AV → Option AV := mk (fun p => profB p.1 p.2.2 = true) (fun (p : Pr0) => [prof p.1 p.2.1 p.2.2]) (fun p => .tup [ints false (wonT (btB p.2.2) p.1.toNat), ints false (lostT (btB p.2.2) p.1.toNat)])
theorem mSums_at (s : Nat) (nl : Bool) (vs : List Vt) (h : profB (s : Int) vs = true) : mSums [.agg [.v (.int .i64 (s : Int)), .sl nl 2 (vs.map vote)]] = some (.tup [.sl false 1 ((wonT (btB vs) s).map int), .sl false 1 ((lostT (btB vs) s).map int)]) :=
  mk_eq (enc := fun (p : Pr0) => [prof p.1 p.2.1 p.2.2]) (x := ((s : Int), nl, vs)) (fun x y h => by simp only [List.cons.injEq, and_true] at h; rw [prof_inj h]) h
set_option maxHeartbeats 4000000 in
theorem l06Sums_ok : FnOk Tryz.prog 99 mSums := by
  refine mk_ok fun ⟨s, nl, vs⟩ hp => ?_
  simp only at hp
  obtain ⟨h1, h2, h3⟩ := prof_facts hp
  obtain ⟨S, rfl⟩ : ∃ S : Nat, s = S := ⟨s.toNat, by omega⟩
  simp only [Int.toNat_natCast]
  have hG : FnsOk Tryz.prog [(103, mBeats)] := (.cons l06Beats_ok .nil)
  refine callOk_awpZ [0] (ctx_ok eqOk hG) mixed (live := [true, true, true, true, true, true, true, true, false, false, false, false, false, false, false, true, true, true, false, false, true, true, true, false, false, false, false, true]) (dt := []) Tryz.func99 rfl (by kernel_rfl) (by kernel_rfl) fun w0 hlens => ?_
  clear hlens
  have hb := fun a b => mBeats_at (S : Int) nl vs a b hp
  generalize btB vs = f at *
  have hm6 : 8 * S ≤ 281474976710656 := by omega
  have hm7 : S ≤ 4611686018427387904 := by omega
  have zw := wnAt_zero (f := f) (s := S)
  have zl := lsAt_zero (f := f) (s := S)
  simp [Tryz.f99, List.range, List.range.loop, ints, intss, int, bool, row, frac, fracs, ← List.map_take, ← List.map_drop, andThen_n, freeze, frzA, frzAL, sets, prof, hm6, hm7]
  refine awp_range (live := [true, true, true, true, true, true, true, true, false, false, false, false, false, false, false, true, true, true, false, false, true, true, true, false, false, false, false, true]) (ctx_ok eqOk hG) mixed [false, true, false, false, true, true, false, false, false, false, false, false, false, false, false, true, true] (S) (fun a => True) (fun a => ⟨[.junk, .fp (prof (S : Int) nl vs) 0, .junk, .junk, .ref 0 [] 0 S, .ref 1 [] 0 S, .junk, .junk, .junk, .junk, .junk, .junk, .junk, .junk, .junk, int (S : Int), int a, .junk, .junk, .junk, .junk, .junk, .junk, .junk, .junk, .junk, .junk, .junk, .junk, .junk, .junk, .junk, .junk, .junk, .junk, .junk, .junk, .junk, .junk, .junk, .junk, .junk, .junk, .junk], [⟨true, .sl false 1 ((wnAt f S a 0).map int)⟩, ⟨true, .sl false 1 ((lsAt f S a 0).map int)⟩]⟩) ?_ (by simp [sub, slotsLe, clean, keep, refsL, refs, once, place, renL, ren, List.replicate, int, bool, prof, zw, zl]) ?_ ?_ ?_
  · omega
  · trivial
  · intro a ha _ hwa
    have nw := wnAt_next (f := f) (s := S) (a := a)
    have nls := lsAt_next (f := f) (s := S) (a := a)
    have hwl := wnAt_len (f := f) (s := S) (a := a) (b := 0)
    have haS : (a : Int) < (S : Int) := by omega
    simp [List.range, List.range.loop, ints, intss, int, bool, row, frac, fracs, ← List.map_take, ← List.map_drop, prof, ha, haS, hwl]
    refine awp_range (live := [true, true, true, true, true, true, true, true, false, false, false, false, false, false, false, true, true, true, false, false, true, true, true, false, false, false, false, true]) (ctx_ok eqOk hG) mixed [false, true, false, false, true, true, true, false, false, false, false, false, false, false, false, true, true, false, false, false, true, true] (S) (fun b => True) (fun b => ⟨[.junk, .fp (prof (S : Int) nl vs) 0, .junk, .junk, .ref 0 [] 0 S, .ref 1 [] 0 S, int (a : Int), .junk, .junk, .junk, .junk, .junk, .junk, .junk, .junk, int (S : Int), int a, .junk, .junk, .junk, int (S : Int), int b, .junk, .junk, .junk, .junk, .junk, .junk, .junk, .junk, .junk, .junk, .junk, .junk, .junk, .junk, .junk, .junk, .junk, .junk, .junk, .junk, .junk, .junk], [⟨true, .sl false 1 ((wnAt f S a b).map int)⟩, ⟨true, .sl false 1 ((lsAt f S a b).map int)⟩]⟩) ?_ (by simp [sub, slotsLe, clean, keep, refsL, refs, once, place, renL, ren, List.replicate, int, bool, prof, hwl]) ?_ ?_ ?_
    · omega
    · trivial
    · intro b hbS _ hwb
      have hz := hb a b
      have hbI : (b : Int) < (S : Int) := by omega
      have l1 := wnAt_len (f := f) (s := S) (a := a) (b := b)
      have l2 := lsAt_len (f := f) (s := S) (a := a) (b := b)
      obtain ⟨bd1, bd2⟩ := wlAt_bd (f := f) (b := b) ha (by omega)
      have hsq : S * S ≤ 25 := by
        have : S * S ≤ 5 * 5 := Nat.mul_le_mul (by omega) (by omega)
        omega
      cases hf : f a b with
      | true =>
        obtain ⟨e1, e2⟩ := wlAt_yes (s := S) hf
        rw [hf] at hz
        generalize wnAt f S a (b + 1) = B1 at *
        generalize lsAt f S a (b + 1) = B2 at *
        generalize wnAt f S a b = A1 at *
        generalize lsAt f S a b = A2 at *
        subst e1
        subst e2
        have ha1 : a < A1.length := by omega
        have hb1 : b < A2.length := by omega
        have c1 : A1[a] = at0 A1 a := (at0_eq ha1).symm
        have c2 : A2[b] = at0 A2 b := (at0_eq hb1).symm
        have d1 := bd1 _ (List.getElem_mem ha1)
        have d2 := bd2 _ (List.getElem_mem hb1)
        rw [c1] at d1
        rw [c2] at d2
        have w1 : IntKind.i64.wrap (at0 A1 a + 1) = at0 A1 a + 1 := wrapI (by omega) (by omega)
        have w2 : IntKind.i64.wrap (at0 A2 b + 1) = at0 A2 b + 1 := wrapI (by omega) (by omega)
        simp [List.range, List.range.loop, ints, intss, int, bool, row, frac, fracs, ← List.map_take, ← List.map_drop, prof, hbS, hbI, hwb, hz, ha1, hb1, c1, c2, w1, w2, l1, l2, ha]
      | false =>
        obtain ⟨e1, e2⟩ := wlAt_no (s := S) hf
        rw [hf] at hz
        simp [List.range, List.range.loop, ints, intss, int, bool, row, frac, fracs, ← List.map_take, ← List.map_drop, prof, hbS, hbI, hwb, hz, l1, l2, e1, e2]
    · intro _
      have l1 := wnAt_len (f := f) (s := S) (a := a + 1) (b := 0)
      rw [nw, nls]
      simp [List.range, List.range.loop, ints, intss, int, bool, row, frac, fracs, ← List.map_take, ← List.map_drop, prof, hwa]
  · intro _
    have l1 := wnAt_len (f := f) (s := S) (a := S) (b := 0)
    have l2 := lsAt_len (f := f) (s := S) (a := S) (b := 0)
    have e1 := wnAt_all (f := f) (s := S)
    have e2 := lsAt_all (f := f) (s := S)
    rw [← e1, ← e2]
    generalize wnAt f S S 0 = A1 at *
    generalize lsAt f S S 0 = A2 at *
    have t1 : A1.take S = A1 := List.take_of_length_le (by omega)
    have t2 : A2.take S = A2 := List.take_of_length_le (by omega)
    simp [List.range, List.range.loop, ints, intss, int, bool, row, frac, fracs, ← List.map_take, ← List.map_drop, prof, l1, l2, t1, t2]
end Go.Proofs.YtigepnpiofcooaaGreat.Ax
namespace Go.Proofs.YtigepnpiofcooaaGreat.Ax
open Go Go.RowKit
def plW (m : Nat) : List Int := (List.range m).map fun i => if i = 0 then 1 else 0
def boW (m : Nat) : List Int := (List.range m).map fun (i : Nat) => (m : Int) - 1 - i
def veW (m : Nat) : List Int := (List.range m).map fun i => if i + 1 < m then 1 else 0
def wtB (m : Nat) (ws : List Int) : Bool := decide (1 ≤ m) && decide (m ≤ 5) && decide (ws.length = m) && ws.all (inR 0 100) && (List.range (m - 1)).all fun i => decide (at0 ws (i + 1) ≤ at0 ws i)
theorem wtB_ok : ∀ m : Nat, m < 6 → m = 0 ∨ wtB m (plW m) = true ∧ wtB m (boW m) = true ∧ wtB m (veW m) = true := by decide +kernel
theorem wt_facts {m : Nat} {ws : List Int} (h : wtB m ws = true) : 1 ≤ m ∧ m ≤ 5 ∧ ws.length = m ∧ (∀ x ∈ ws, 0 ≤ x ∧ x ≤ 100) ∧ ∀ i, i + 1 < m → at0 ws (i + 1) ≤ at0 ws i := by
  simp only [wtB, Bool.and_eq_true, decide_eq_true_eq, List.all_eq_true, inR_iff, List.mem_range] at h
  exact ⟨h.1.1.1.1, h.1.1.1.2, h.1.1.2, h.1.2, fun i hi => h.2 i (by omega)⟩
def ad1 (o : List Int) (i : Int) (x : Int) : List Int := o.set i.toNat (at0 o i.toNat + x)
def scT (ws o l : List Int) (c : Int) : Nat → List Int
  | 0 => o
  | j + 1 => ad1 (scT ws o l c j) (at0 l j) (c * at0 ws j)
def scV (ws : List Int) (s : Nat) (vs : List Vt) : List Int := vs.foldl (fun o v => scT ws o v.1.2 v.2 s) (List.replicate s 0)
theorem scT_len {ws o l : List Int} {c : Int} : ∀ {j}, (scT ws o l c j).length = o.length
  | 0 => rfl
  | j + 1 => by simp [scT, ad1, scT_len (j := j)]
theorem scV_zero {ws : List Int} {s : Nat} : scV ws s [] = List.replicate s 0 := rfl
theorem scV_succ {ws : List Int} {s : Nat} {vs : List Vt} {k : Nat} (h : k < vs.length) : scV ws s (vs.take (k + 1)) = scT ws (scV ws s (vs.take k)) vs[k].1.2 vs[k].2 s := by
  unfold scV
  rw [List.take_succ_eq_append_getElem h, List.foldl_append]
  rfl
theorem scV_len {ws : List Int} {s : Nat} : ∀ {vs : List Vt}, (scV ws s vs).length = s := by
  intro vs
  suffices h : ∀ (vs : List Vt) (o : List Int), (vs.foldl (fun o v => scT ws o v.1.2 v.2 s) o).length = o.length by
    unfold scV; rw [h]; simp
  intro vs
  induction vs with
  | nil => intro o; rfl
  | cons v vs ih => intro o; rw [List.foldl_cons, ih, scT_len]
theorem mul_le2 {a b c d : Int} (h : 0 ≤ a) (h1 : a ≤ c) (h2 : 0 ≤ b) (h3 : b ≤ d) : 0 ≤ a * b ∧ a * b ≤ c * d :=
  ⟨Int.mul_nonneg h h2, Int.le_trans (Int.mul_le_mul_of_nonneg_right h1 h2) (Int.mul_le_mul_of_nonneg_left h3 (by omega))⟩
def bndL (o : List Int) (c : Int) : Prop := ∀ x ∈ o, 0 ≤ x ∧ x ≤ c
theorem at0_bnd {o : List Int} {c : Int} (hc : 0 ≤ c) (h : bndL o c) (i : Nat) : 0 ≤ at0 o i ∧ at0 o i ≤ c := by
  by_cases hi : i < o.length
  · rw [at0_eq hi]; exact h _ (List.getElem_mem hi)
  · unfold at0; rw [List.getD_eq_getElem?_getD, List.getElem?_eq_none (by omega)]; simp; omega
theorem scT_bd {ws o l : List Int} {c d : Int} (hw : ∀ x ∈ ws, 0 ≤ x ∧ x ≤ 100) (hc : 0 ≤ c ∧ c ≤ 1000) (hd : 0 ≤ d) (ho : bndL o d) : ∀ j : Nat, bndL (scT ws o l c j) (d + 100000 * j)
  | 0 => by simpa [scT] using ho
  | j + 1 => by
    have ih := scT_bd (l := l) hw hc hd ho j
    have hb := at0_bnd (by omega) ih (at0 l j).toNat
    have hx := at0_bnd (o := ws) (c := 100) (by omega) hw j
    have hm := mul_le2 hc.1 hc.2 hx.1 hx.2
    intro x hx
    rcases List.mem_or_eq_of_mem_set hx with h | h
    · have := ih x h; omega
    · omega
theorem scV_bd {ws : List Int} {s : Nat} {vs : List Vt} (hs : s ≤ 5) (hw : ∀ x ∈ ws, 0 ≤ x ∧ x ≤ 100) (hv : ∀ v ∈ vs, 1 ≤ v.2 ∧ v.2 ≤ 1000) : ∀ k : Nat, k ≤ vs.length → bndL (scV ws s (vs.take k)) (500000 * k)
  | 0, _ => by
    intro x hx
    rw [List.take_zero, scV_zero, List.mem_replicate] at hx
    omega
  | k + 1, hk => by
    have ih := scV_bd hs hw hv k (by omega)
    rw [scV_succ (by omega)]
    have h := hv _ (List.getElem_mem (show k < vs.length by omega))
    have := scT_bd (l := (vs[k]).1.2) hw (c := (vs[k]).2) (by omega) (by omega) ih s
    intro x hx
    have := this x hx
    omega
def fiT (g : Nat → Int) (z x : Int) (s a : Nat) : List Int := (List.range s).map fun i => if i < a then g i else if i = a then x else z
theorem fiT_len {g : Nat → Int} {z x : Int} {s a : Nat} : (fiT g z x s a).length = s := by simp [fiT]
theorem fiT_set {g : Nat → Int} {z x y : Int} {s a : Nat} : (fiT g z x s a).set a y = fiT g z y s a := by
  apply List.ext_getElem
  · simp [fiT]
  · intro i h1 h2
    rw [List.getElem_set]
    simp only [fiT, List.getElem_map, List.getElem_range]
    by_cases e : a = i
    · subst e; simp
    · rw [if_neg e]
      have : ¬ i = a := fun h => e h.symm
      simp [this]
theorem fiT_at {g : Nat → Int} {z x : Int} {s a : Nat} (h : a < s) : at0 (fiT g z x s a) a = x := by
  rw [at0_eq (by rw [fiT_len]; exact h)]
  simp [fiT]
theorem fiT_next {g : Nat → Int} {z : Int} {s a : Nat} : fiT g z (g a) s a = fiT g z z s (a + 1) := by
  unfold fiT
  refine List.map_congr_left fun i _ => ?_
  by_cases e : i < a
  · rw [if_pos e, if_pos (by omega)]
  · rw [if_neg e]
    by_cases e2 : i = a
    · subst e2; rw [if_pos rfl, if_pos (by omega)]
    · rw [if_neg e2, if_neg (by omega)]
      split <;> rfl
theorem fiT_zero {g : Nat → Int} {z : Int} {s : Nat} : fiT g z z s 0 = List.replicate s z := by
  apply List.ext_getElem
  · simp [fiT]
  · intro i h1 h2
    simp only [fiT, List.getElem_map, List.getElem_range, List.getElem_replicate]
    simp
theorem fiT_all {g : Nat → Int} {z x : Int} {s : Nat} : fiT g z x s s = (List.range s).map g := by
  unfold fiT
  refine List.map_congr_left fun i hi => ?_
  rw [if_pos (List.mem_range.1 hi)]
def sgI (x : Int) : Int := if x < 0 then -1 else if 0 < x then 1 else 0
def coP (vs : List Vt) (a : Nat) : Nat → Int
  | 0 => 0
  | b + 1 => coP vs a b + sgI (mgT vs a b)
def coT (vs : List Vt) (s : Nat) : List Int := (List.range s).map fun a => coP vs a s
def ciTo (f : Int → Int → Bool) (j : Nat) : Nat → Nat
  | 0 => 0
  | a + 1 => ciTo f j a + if f a j = true then 1 else 0
theorem ci_bpTo {f : Int → Int → Bool} {a j : Nat} : ∀ {b : Nat}, ((bpTo f a b).map (·.2)).countP (fun i => decide (i.toNat = j)) = if j < b ∧ f a j = true then 1 else 0
  | 0 => by simp [bpTo]
  | b + 1 => by
    unfold bpTo
    rw [List.map_append, List.countP_append, ci_bpTo]
    by_cases e : j = b
    · subst e
      by_cases h : f a j = true
      · simp [h]
      · simp [h]
    · have e' : ¬ b = j := fun h => e h.symm
      have e2 : j < b + 1 ↔ j < b := by omega
      by_cases h : f a b = true
      · simp [h, e', e2]
      · simp [h, e2]
theorem ci_bpAll {f : Int → Int → Bool} {s j : Nat} (hj : j < s) : ∀ {a : Nat}, ((bpAll f s a).map (·.2)).countP (fun i => decide (i.toNat = j)) = ciTo f j a
  | 0 => by simp [bpAll, ciTo]
  | a + 1 => by
    unfold bpAll ciTo
    rw [List.map_append, List.countP_append, ci_bpAll hj, ci_bpTo]
    simp [hj]
theorem lostT_at {f : Int → Int → Bool} {s a : Nat} (h : a < s) : at0 (lostT f s) a = ciTo f a s := by
  unfold lostT
  rw [at0_incs fun i hi => by
    obtain ⟨x, hx, rfl⟩ := List.mem_map.1 hi
    obtain ⟨_, i, h1, h2⟩ := bpAll_mem x hx
    rw [h1]; simpa using h2, ci_bpAll h]
  simp [at0, List.getD_eq_getElem?_getD, h]
theorem lostT_len {f : Int → Int → Bool} {s : Nat} : (lostT f s).length = s := by simp [lostT, incs_len]
theorem coP_eq {vs : List Vt} {a : Nat} : ∀ b : Nat, coP vs a b = (ctTo (btB vs) a b : Int) - ciTo (btB vs) a b
  | 0 => rfl
  | b + 1 => by
    unfold coP ctTo ciTo
    rw [coP_eq b]
    have e : mgT vs b a = - mgT vs a b := by unfold mgT; omega
    unfold sgI btB
    rw [e]
    by_cases h1 : mgT vs a b < 0
    · have h2 : ¬ 0 < mgT vs a b := by omega
      simp [h1, h2]; omega
    · by_cases h2 : 0 < mgT vs a b
      · simp [h1, h2]; omega
      · simp [h1, h2]
theorem coP_bd {vs : List Vt} {a : Nat} : ∀ b : Nat, - (b : Int) ≤ coP vs a b ∧ coP vs a b ≤ b
  | 0 => by simp [coP]
  | b + 1 => by
    have := coP_bd (vs := vs) (a := a) b
    unfold coP sgI
    split
    · omega
    · split <;> omega
def mmP (vs : List Vt) (a : Nat) : Nat → Int
  | 0 => vtrs (fun _ => true) vs
  | b + 1 => if (a : Int) = (b : Int) then mmP vs a b else min (mmP vs a b) (prT vs a b)
def mmT (vs : List Vt) (s : Nat) : List Int := (List.range s).map fun a => mmP vs a s
end Go.Proofs.YtigepnpiofcooaaGreat.Ax
namespace Go.Proofs.YtigepnpiofcooaaGreat.Ax
open Go Go.RowKit
set_option linter.unusedSimpArgs false
def wtTo (w : Nat → Int) (k : Nat) : List Int := (List.range k).map w
theorem wtTo_zero {w : Nat → Int} : wtTo w 0 = [] := rfl
theorem wtTo_succ {w : Nat → Int} {k : Nat} : wtTo w (k + 1) = wtTo w k ++ [w k] := by simp [wtTo, List.range_succ]
theorem wtTo_len {w : Nat → Int} {k : Nat} : (wtTo w k).length = k := by simp [wtTo]
set_option maxHeartbeats 2000000 in
theorem weightsOf_gen {g : FuncId} {caps : List AV} (hc : Pure caps) (w : Nat → Int) (m : Nat) (h1 : 1 ≤ m) (h5 : m ≤ 5) (hgn : ¬ g = 57) (hg : ∀ k : Nat, k < m → CallOk Tryz.prog g (.v (.int .i64 (k : Int)) :: caps) (.v (.int .i64 (w k)))) :
    CallOk Tryz.prog 62 [int (m : Int), .fn g caps] (.sl false 1 ((wtTo w m).map int)) := by
  have hGg : FnOk Tryz.prog g (mk (fun k => k < m) (fun k : Nat => .v (.int .i64 (k : Int)) :: caps) (fun k => .v (.int .i64 (w k)))) := mk_ok fun x hx => hg x hx
  have hat : ∀ k : Nat, k < m → mk (fun k => k < m) (fun k : Nat => .v (.int .i64 (k : Int)) :: caps) (fun k => AV.v (.int .i64 (w k))) (.v (.int .i64 (k : Int)) :: caps) = some (.v (.int .i64 (w k))) := fun k hk =>
    mk_eq (enc := fun k : Nat => .v (.int .i64 (k : Int)) :: caps) (f := fun k => AV.v (.int .i64 (w k))) (x := k) (by
      intro x y h
      simp at h
      rw [(by omega : x = y)]) hk
  generalize mk (fun k => k < m) (fun k : Nat => .v (.int .i64 (k : Int)) :: caps) (fun k => AV.v (.int .i64 (w k))) = md at hGg hat
  have hG : FnsOk Tryz.prog [(57, mWithin), (g, md)] := .cons within_ok (.cons hGg .nil)
  refine callOk_awp (ctx_ok eqOk hG) mixed (live := [true, true, false, false, true, true, true, false, false, true, true, true, true]) (dt := []) Tryz.func62 rfl (by kernel_rfl) (by kernel_rfl) fun w0 hlens => ?_
  clear hlens
  have hw : mWithin [.v (.int .i64 (m : Int)), .v (.int .i64 1), .v (.int .i64 5)] = some (.v (.bool true)) := by
    rw [mWithin_in, show inR 1 5 (m : Int) = true from inR_iff.2 (by omega)]
  have zs := wtTo_zero (w := w)
  simp [Tryz.f62, List.range, List.range.loop, ints, intss, int, bool, row, frac, fracs, ← List.map_take, ← List.map_drop, hw, hc.res, hc.refs, hc.ren, hc.killN]
  refine awp_range (live := [true, true, false, false, true, true, true, false, false, true, true, true, true]) (ctx_ok eqOk hG) mixed [false, true, false, false, false, true, false, false, false, false, true, true] (m) (fun k => True) (fun k => ⟨[.junk, .fn g caps, .junk, .junk, .junk, liA 0 (wtTo w k), .junk, .junk, .junk, .junk, int (m : Int), int k, .junk, .junk, .junk, .junk, .junk, .junk, .junk, .junk, .junk, .junk], liT (wtTo w k)⟩) ?_ (by simp [sub, slotsLe, clean, keep, refsL, refs, once, place, renL, ren, List.replicate, int, bool, zs, liA, liT, hc.refs, hc.ren, hc.killN]) ?_ ?_ ?_
  · omega
  · trivial
  · intro k hk _ hwk
    have hl := wtTo_len (w := w) (k := k)
    have hs := wtTo_succ (w := w) (k := k)
    have hz := hat k hk
    have hkm : (k : Int) < (m : Int) := by omega
    generalize wtTo w (k + 1) = B at *
    generalize wtTo w k = A at *
    subst hs
    have hb : (A.length + 1) * 8 ≤ 140737488355328 ∧ A.length + 1 ≤ 4611686018427387904 := by omega
    cases A with
    | nil => simp [List.range, List.range.loop, ints, intss, int, bool, row, frac, fracs, ← List.map_take, ← List.map_drop, liA, liT, hkm, hk, hwk, hgn, hz, hc.res, hc.refs, hc.ren, hc.killN, hc.killL]
    | cons o A =>
      simp only [List.length_cons] at hb
      simp [List.range, List.range.loop, ints, intss, int, bool, row, frac, fracs, ← List.map_take, ← List.map_drop, liA, liT, hkm, hk, hwk, hgn, hz, hb, hc.res, hc.refs, hc.ren, hc.killN, hc.killL]
  · intro _
    have hl := wtTo_len (w := w) (k := m)
    generalize wtTo w m = A at *
    cases A with
    | nil => simp at hl; omega
    | cons o A => simp [List.range, List.range.loop, ints, intss, int, bool, row, frac, fracs, ← List.map_take, ← List.map_drop, liA, liT, hc.refs, hc.ren, hc.killN, hc.killL]
theorem pl1 (k : Nat) (h : k < 5) : CallOk Tryz.prog 63 [int (k : Int)] (.v (.int .i64 (if k = 0 then 1 else 0))) := by
  have hG : FnsOk Tryz.prog [] := .nil
  refine callOk_awp (ctx_ok eqOk hG) mixed (live := [true, false, true]) (dt := []) Tryz.func63 rfl (by kernel_rfl) (by kernel_rfl) fun w0 hlens => ?_
  clear hlens
  have hw : IntKind.i64.wrap (1 - (k : Int)) = 1 - (k : Int) := wrapI (by omega) (by omega)
  have e : max 0 (1 - (k : Int)) = if k = 0 then 1 else 0 := by split <;> omega
  simp [Tryz.f63, List.range, List.range.loop, ints, intss, int, bool, row, frac, fracs, ← List.map_take, ← List.map_drop, hw, e]
theorem bo1 (m k : Nat) (hm : m ≤ 5) (h : k < m) : CallOk Tryz.prog 64 [int (k : Int), .fp (int (m : Int)) 0] (.v (.int .i64 ((m : Int) - 1 - k))) := by
  have hG : FnsOk Tryz.prog [] := .nil
  refine callOk_awp (ctx_ok eqOk hG) mixed (live := [true, true, false, true]) (dt := []) Tryz.func64 rfl (by kernel_rfl) (by kernel_rfl) fun w0 hlens => ?_
  clear hlens
  have h1 : IntKind.i64.wrap ((m : Int) - 1) = (m : Int) - 1 := wrapI (by omega) (by omega)
  have hw : IntKind.i64.wrap ((m : Int) - 1 - (k : Int)) = (m : Int) - 1 - (k : Int) := wrapI (by omega) (by omega)
  simp [Tryz.f64, List.range, List.range.loop, ints, intss, int, bool, row, frac, fracs, ← List.map_take, ← List.map_drop, h1, hw]
theorem ve1 (m k : Nat) (hm : m ≤ 5) (h : k < m) : CallOk Tryz.prog 65 [int (k : Int), .fp (int (m : Int)) 0] (.v (.int .i64 (if k + 1 < m then 1 else 0))) := by
  have hG : FnsOk Tryz.prog [] := .nil
  refine callOk_awp (ctx_ok eqOk hG) mixed (live := [true, true, false, true]) (dt := []) Tryz.func65 rfl (by kernel_rfl) (by kernel_rfl) fun w0 hlens => ?_
  clear hlens
  have h1 : IntKind.i64.wrap ((m : Int) - 1) = (m : Int) - 1 := wrapI (by omega) (by omega)
  have hw : IntKind.i64.wrap ((m : Int) - 1 - (k : Int)) = (m : Int) - 1 - (k : Int) := wrapI (by omega) (by omega)
  have e : min 1 ((m : Int) - 1 - (k : Int)) = if k + 1 < m then 1 else 0 := by split <;> omega
  simp [Tryz.f65, List.range, List.range.loop, ints, intss, int, bool, row, frac, fracs, ← List.map_take, ← List.map_drop, h1, hw, e]
noncomputable def mPlW : List AV → Option AV := mk (fun m => 1 ≤ m ∧ m ≤ 5) (fun (m : Nat) => [int (m : Int)]) (fun m => .sl false 1 ((plW m).map int))
theorem mPlW_at (m : Nat) (h : 1 ≤ m ∧ m ≤ 5) : mPlW [.v (.int .i64 (m : Int))] = some (.sl false 1 ((plW m).map int)) :=
  mk_eq (enc := fun (m : Nat) => [int (m : Int)]) (x := m) (by intro x y h; simp [int] at h; rw [(by omega : x = y)]) h
theorem implPlurality_ok : FnOk Tryz.prog 21 mPlW := by
  refine mk_ok fun m h => ?_
  have hc := weightsOf_gen (g := 63) pure_nil (fun k => if k = 0 then 1 else 0) m h.1 h.2 (by decide) (fun k hk => pl1 k (by omega))
  obtain ⟨md, hm, hz⟩ := as_model hc
  have e : wtTo (fun k => if k = 0 then 1 else 0) m = plW m := rfl
  rw [e] at hz
  have hG : FnsOk Tryz.prog [(62, md)] := (.cons hm .nil)
  refine callOk_awp (ctx_ok eqOk hG) mixed (live := [true, false, true]) (dt := []) Tryz.func21 rfl (by kernel_rfl) (by kernel_rfl) fun w0 hlens => ?_
  clear hlens
  simp only [int] at hz
  simp [Tryz.f21, List.range, List.range.loop, ints, intss, int, bool, row, frac, fracs, ← List.map_take, ← List.map_drop, hz]
noncomputable def mBoW : List AV → Option AV := mk (fun m => 1 ≤ m ∧ m ≤ 5) (fun (m : Nat) => [int (m : Int)]) (fun m => .sl false 1 ((boW m).map int))
theorem mBoW_at (m : Nat) (h : 1 ≤ m ∧ m ≤ 5) : mBoW [.v (.int .i64 (m : Int))] = some (.sl false 1 ((boW m).map int)) :=
  mk_eq (enc := fun (m : Nat) => [int (m : Int)]) (x := m) (by intro x y h; simp [int] at h; rw [(by omega : x = y)]) h
theorem implBorda_ok : FnOk Tryz.prog 22 mBoW := by
  refine mk_ok fun m h => ?_
  have hc := weightsOf_gen (g := 64) (pure_fp (a := int (m : Int)) (j := 0) pure_nil) (fun k => (m : Int) - 1 - k) m h.1 h.2 (by decide) (fun k hk => bo1 m k h.2 hk)
  obtain ⟨md, hm, hz⟩ := as_model hc
  have e : wtTo (fun k => (m : Int) - 1 - k) m = boW m := rfl
  rw [e] at hz
  have hG : FnsOk Tryz.prog [(62, md)] := (.cons hm .nil)
  refine callOk_awp (ctx_ok eqOk hG) mixed (live := [true, true, true]) (dt := []) Tryz.func22 rfl (by kernel_rfl) (by kernel_rfl) fun w0 hlens => ?_
  clear hlens
  simp only [int] at hz
  simp [Tryz.f22, List.range, List.range.loop, ints, intss, int, bool, row, frac, fracs, ← List.map_take, ← List.map_drop, hz]
noncomputable def mVeW : List AV → Option AV := mk (fun m => 1 ≤ m ∧ m ≤ 5) (fun (m : Nat) => [int (m : Int)]) (fun m => .sl false 1 ((veW m).map int))
theorem mVeW_at (m : Nat) (h : 1 ≤ m ∧ m ≤ 5) : mVeW [.v (.int .i64 (m : Int))] = some (.sl false 1 ((veW m).map int)) :=
  mk_eq (enc := fun (m : Nat) => [int (m : Int)]) (x := m) (by intro x y h; simp [int] at h; rw [(by omega : x = y)]) h
theorem implVeto_ok : FnOk Tryz.prog 23 mVeW := by
  refine mk_ok fun m h => ?_
  have hc := weightsOf_gen (g := 65) (pure_fp (a := int (m : Int)) (j := 0) pure_nil) (fun k => if k + 1 < m then 1 else 0) m h.1 h.2 (by decide) (fun k hk => ve1 m k h.2 hk)
  obtain ⟨md, hm, hz⟩ := as_model hc
  have e : wtTo (fun k => if k + 1 < m then 1 else 0) m = veW m := rfl
  rw [e] at hz
  have hG : FnsOk Tryz.prog [(62, md)] := (.cons hm .nil)
  refine callOk_awp (ctx_ok eqOk hG) mixed (live := [true, true, true]) (dt := []) Tryz.func23 rfl (by kernel_rfl) (by kernel_rfl) fun w0 hlens => ?_
  clear hlens
  simp only [int] at hz
  simp [Tryz.f23, List.range, List.range.loop, ints, intss, int, bool, row, frac, fracs, ← List.map_take, ← List.map_drop, hz]
end Go.Proofs.YtigepnpiofcooaaGreat.Ax
