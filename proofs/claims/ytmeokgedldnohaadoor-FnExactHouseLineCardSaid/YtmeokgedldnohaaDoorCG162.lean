/-
  Contracts: slices.Min, the cycle of a person (both programs). No condition.
-/
import Derived.Test.YtmeokgedldnohaaDoorCG161
namespace Go.Proofs.YtmeokgedldnohaaDoor.Ax
open Go Go.RowKit
set_option linter.unusedSimpArgs false

/-- The least of the first k numbers. -/
def mnTo (xs : List Int) (k : Nat) : Int := (xs.take k).foldl min (xs.headD 0)
theorem mnTo_one {xs : List Int} (h : 0 < xs.length) : mnTo xs 1 = xs[0] := by
  cases xs with
  | nil => simp at h
  | cons x xs => simp [mnTo]
theorem mnTo_succ {xs : List Int} {k : Nat} (h : k < xs.length) : mnTo xs (k + 1) = min (mnTo xs k) xs[k] := by
  unfold mnTo; rw [List.take_succ_eq_append_getElem h, List.foldl_append]; rfl
def mn (xs : List Int) : Int := mnTo xs xs.length
theorem mn_fold : ∀ {l : List Int} {a : Int}, (l.foldl min a = a ↔ ∀ x ∈ l, a ≤ x) ∧ l.foldl min a ≤ a
  | [], a => by simp
  | x :: l, a => by
    obtain ⟨h1, h2⟩ := mn_fold (l := l) (a := min a x)
    rw [List.foldl_cons]
    refine ⟨⟨fun h y hy => ?_, fun h => ?_⟩, by omega⟩
    · have e : min a x = a := by omega
      rw [e] at h1 h
      rcases List.mem_cons.1 hy with rfl | hy
      · omega
      · exact h1.1 h y hy
    · have e : min a x = a := by have := h x (by simp); omega
      rw [e] at h1 ⊢
      exact h1.2 fun y hy => h y (by simp [hy])
/-- The first is the least if no other is less. -/
theorem mn_head {xs : List Int} {i : Int} (h : xs.head? = some i) : decide (mn xs = i) = xs.all fun x => decide (i ≤ x) := by
  cases xs with
  | nil => simp at h
  | cons a l =>
    simp only [List.head?_cons, Option.some.injEq] at h
    subst h
    have e : mn (a :: l) = (a :: l).foldl min a := by unfold mn mnTo; rw [List.take_length]; rfl
    rw [e, Bool.eq_iff_iff, decide_eq_true_eq, mn_fold.1, List.all_eq_true]
    simp only [decide_eq_true_eq]

noncomputable def mMin : List AV → Option AV := mk (fun p => 0 < p.2.length ∧ p.2.length ≤ 1000) (fun (p : (Bool) × (List Int)) => [ints p.1 p.2]) (fun p => int (mn p.2))
theorem mMin_at (nl : Bool) (xs : List Int) (hpre : 0 < xs.length ∧ xs.length ≤ 1000) : mMin [.sl nl 1 (xs.map int)] = some (.v (.int .i64 (mn xs))) :=
  mk_eq (enc := fun (p : (Bool) × (List Int)) => [ints p.1 p.2]) (x := (nl, xs)) (by rintro ⟨a0, a1⟩ ⟨b0, b1⟩ h; simp [ints, intss, int, bool, row, frac, fracs, map_int_inj, map_row_inj, frac_inj, map_frac_inj] at h; simp [h]) hpre
set_option maxHeartbeats 1000000 in
theorem min_ok : FnOk Tryd.prog 79 mMin := by
  refine mk_ok fun ⟨nl, xs⟩ ⟨h0, hp⟩ => ?_
  simp only at h0 hp
  have hG : FnsOk Tryd.prog [] := .nil
  refine callOk_awp (ctx_ok eqOk hG) mixed (live := [true, false, true, true, true, false, false, true, false, false, false, false, false, false, false, true]) (dt := []) Tryd.func79 rfl (by kernel_rfl) (by kernel_rfl) fun w0 hlens => ?_
  clear hlens
  have hlt : ¬ (xs.length : Int) < 1 := by omega
  simp (config := {contextual := true}) [Tryd.f79, List.range, List.range.loop, ints, intss, int, bool, row, frac, fracs, ← List.map_take, ← List.map_drop, hlt, h0]
  refine awp_loop_of (live := [true, false, true, true, true, false, false, true, false, false, false, false, false, false, false, true]) (ctx_ok eqOk hG) mixed [true, false, false, true, true] (α := {k : Nat // k ≤ xs.length ∧ 1 ≤ k}) (fun k => ⟨[ints nl xs, .junk, .junk, int (mnTo xs k.1), int k.1, .junk, .junk, .junk, .junk, .junk, .junk, .junk, .junk, .junk, .junk, .junk, .junk, .junk, .junk, .junk, .junk, .junk, .junk, .junk, .junk], []⟩) (fun k => xs.length - k.1) ⟨1, by omega, by omega⟩ (by simp [sub, slotsLe, clean, keep, refsL, refs, once, place, renL, ren, List.replicate, int, bool, ints, mnTo_one h0]) ?_
  rintro ⟨k, hk, hk1⟩
  by_cases h : k < xs.length
  · simp (config := {contextual := true}) [List.range, List.range.loop, ints, intss, int, bool, row, frac, fracs, ← List.map_take, ← List.map_drop, h]
    refine ⟨⟨k + 1, h, by omega⟩, ?_, by simp; omega⟩
    simp [sub, slotsLe, clean, keep, refsL, refs, once, place, renL, ren, List.replicate, int, bool, ints, mnTo_succ h]
    exact wrapI (by omega) (by omega)
  · have hk' : k = xs.length := by omega
    subst hk'
    simp (config := {contextual := true}) [List.range, List.range.loop, ints, intss, int, bool, row, frac, fracs, ← List.map_take, ← List.map_drop, mn]

/-- A way so far, as it lies in memory: nil as long as nobody is on it. -/
def wyA (l : List Int) : AV := if l = [] then .sl true 1 [] else .ref 0 [] 0 l.length
def wyT (l : List Int) : List Tok := if l = [] then [] else [⟨true, .sl false 1 (l.map int)⟩]
def cyAV : Option (List Int) → AV
  | none => .sl true 1 []
  | some l => .sl false 1 (l.map int)

/-- What the search for a cycle is asked. -/
structure PtOk (xss : List (Bool × List Int)) (L : List Int) (i : Int) : Prop where
  n5 : xss.length ≤ 5
  go : ∀ j (h : j < xss.length), ∃ a : Nat, a < xss.length ∧ fstI (fun h => decide (0 ≤ pos L h)) xss[j].2 = some (a : Int)
  i0 : 0 ≤ i
  il : i < xss.length
theorem PtOk.nx {xss : List (Bool × List Int)} {L : List Int} {i : Int} (h : PtOk xss L i) {c : Nat} (hc : c < xss.length) : ∃ a : Nat, a < xss.length ∧ fstI (fun h => decide (0 ≤ pos L h)) xss[c].2 = some (a : Int) ∧ nxL xss L (c : Int) = (a : Int) := by
  obtain ⟨a, h1, h2⟩ := h.go c hc
  refine ⟨a, h1, h2, ?_⟩
  unfold nxL
  rw [Int.toNat_natCast, show xss.getD c (true, []) = xss[c] by simp [List.getD_eq_getElem?_getD, hc], h2]; rfl

theorem way_len {n : Nat} {l : List Int} (h : l.Nodup) (hb : ∀ x ∈ l, 0 ≤ x ∧ x < (n : Int)) : l.length ≤ n := by
  have := nodup_leI (M := (List.range n).map fun (k : Nat) => (k : Int)) h fun x hx => by
    have := hb x hx
    exact List.mem_map.2 ⟨x.toNat, List.mem_range.2 (by omega), by omega⟩
  simpa using this

/-- A state of the search. -/
structure Wy (f : Int → Int) (i : Int) (n : Nat) (R : Option (List Int)) where
  pre : List Int
  cur : Nat
  fuel : Nat
  val : cyI f i fuel pre cur = R
  nd : pre.Nodup
  bd : ∀ x ∈ pre, 0 ≤ x ∧ x < (n : Int)
  cb : cur < n
  fl : pre.length + fuel = n + 1

noncomputable def mPtC : List AV → Option AV := mk (fun p => PtOk p.2.1 p.2.2.2.1 p.2.2.2.2) (fun (p : (Bool) × (List (Bool × List Int)) × (Bool) × (List Int) × (Int)) => [intss p.1 p.2.1, ints p.2.2.1 p.2.2.2.1, int p.2.2.2.2]) (fun p => cyAV (cyI (nxL p.2.1 p.2.2.2.1) p.2.2.2.2 (p.2.1.length + 1) [] p.2.2.2.2))
theorem mPtC_at (nl : Bool) (xss : List (Bool × List Int)) (nl1 : Bool) (l : List Int) (i : Int) (hpre : PtOk xss l i) : mPtC [.sl nl 1 (xss.map row), .sl nl1 1 (l.map int), .v (.int .i64 i)] = some (cyAV (cyI (nxL xss l) i (xss.length + 1) [] i)) :=
  mk_eq (enc := fun (p : (Bool) × (List (Bool × List Int)) × (Bool) × (List Int) × (Int)) => [intss p.1 p.2.1, ints p.2.2.1 p.2.2.2.1, int p.2.2.2.2]) (x := (nl, xss, nl1, l, i)) (by rintro ⟨a0, a1, a2, a3, a4⟩ ⟨b0, b1, b2, b3, b4⟩ h; simp [ints, intss, int, bool, row, frac, fracs, map_int_inj, map_row_inj, frac_inj, map_frac_inj] at h; simp [h]) hpre

set_option maxRecDepth 16000 in
set_option maxHeartbeats 4000000 in
theorem pointing_ok : FnOk Tryd.prog 78 mPtC := by
  refine mk_ok fun ⟨nl, xss, nl1, L, i⟩ hp => ?_
  simp only at hp
  have hn5 := hp.n5
  obtain ⟨i, rfl⟩ := Int.eq_ofNat_of_zero_le hp.i0
  have hil : i < xss.length := by have := hp.il; omega
  have hG : FnsOk Tryd.prog [(82, mHas), (128, mFstL)] := (.cons slicesContains_ok (.cons firstOfLeft_ok .nil))
  refine callOk_awp (ctx_ok eqOk hG) mixed (live := [true, true, true, false, false, false, true, true, true, false, false, false, false, true, false, false, false, false, false, false, false, false, false, false, false, false, true]) (dt := []) Tryd.func78 rfl (by kernel_rfl) (by kernel_rfl) fun w0 hlens => ?_
  clear hlens
  generalize hR : cyI (nxL xss L) (i : Int) (xss.length + 1) [] (i : Int) = R
  simp only
  simp (config := {contextual := true}) [Tryd.f78, List.range, List.range.loop, ints, intss, int, bool, row, frac, fracs, ← List.map_take, ← List.map_drop]
  refine awp_loop_of (live := [true, true, true, false, false, false, true, true, true, false, false, false, false, true, false, false, false, false, false, false, false, false, false, false, false, false, true]) (ctx_ok eqOk hG) mixed [true, true, true, false, false, false, false, true, true] (α := Wy (nxL xss L) (i : Int) xss.length R) (fun s => ⟨[intss nl xss, ints nl1 L, int (i : Int), .junk, .junk, .junk, .junk, wyA s.pre, int (s.cur : Int), .junk, .junk, .junk, .junk, .junk, .junk, .junk, .junk, .junk, .junk, .junk, .junk, .junk, .junk, .junk, .junk, .junk, .junk, .junk], wyT s.pre⟩) (fun s => s.fuel) ⟨[], i, xss.length + 1, hR, by simp, by simp, hil, by simp⟩ (by simp [sub, slotsLe, clean, keep, refsL, refs, once, place, renL, ren, List.replicate, int, bool, intss, ints, wyA, wyT]) ?_
  rintro ⟨pre, cur, fuel, hval, hnd, hbd, hcb, hfl⟩
  simp only
  have hpl := way_len hnd hbd
  obtain ⟨fuel, rfl⟩ : ∃ k, fuel = k + 1 := ⟨fuel - 1, by omega⟩
  obtain ⟨a, ha, hf1, hf2⟩ := hp.nx hcb
  have hfst := mFstL_at xss[cur].1 xss[cur].2 nl1 L a hf1
  have hh0 : mHas [.sl true 1 [], .v (.int .i64 (cur : Int))] = some (.v (.bool false)) := mHas_at true [] (cur : Int)
  have hb : pre.length + 1 ≤ 4611686018427387904 ∧ (pre.length + 1) * 8 ≤ 140737488355328 := by omega
  rw [cyI, hf2] at hval
  by_cases hm : (cur : Int) ∈ pre
  · rw [if_pos hm] at hval
    have hpos : 0 ≤ pos pre (cur : Int) := pos_iff.2 hm
    have hne : ¬ pre = [] := fun e => by rw [e] at hm; simp at hm
    subst hval
    simp (config := {contextual := true}) [List.range, List.range.loop, ints, intss, int, bool, row, frac, fracs, ← List.map_take, ← List.map_drop, wyA, wyT, cyAV, mHas_at, hpos, hne]
    done
  rw [if_neg hm] at hval
  have hpos : ¬ 0 ≤ pos pre (cur : Int) := fun h => hm (pos_iff.1 h)
  have hnd' : (pre ++ [(cur : Int)]).Nodup := by
    rw [List.nodup_append]
    exact ⟨hnd, by simp, fun x hx y hy => by obtain rfl : y = (cur : Int) := by simpa using hy
                                             exact fun e => hm (e ▸ hx)⟩
  have hbd' : ∀ x ∈ pre ++ [(cur : Int)], 0 ≤ x ∧ x < (xss.length : Int) := fun x hx => by
    rcases List.mem_append.1 hx with hx | hx
    · exact hbd x hx
    · obtain rfl : x = (cur : Int) := by simpa using hx
      omega
  have hfl' : (pre ++ [(cur : Int)]).length + fuel = xss.length + 1 := by simp; omega
  by_cases hc : (a : Int) = (i : Int)
  · rw [if_pos hc] at hval
    subst hval
    have hc' : a = i := by omega
    subst hc'
    by_cases hne : pre = []
    · subst hne
      simp (config := {contextual := true}) [List.range, List.range.loop, ints, intss, int, bool, row, frac, fracs, ← List.map_take, ← List.map_drop, wyA, wyT, cyAV, hh0, hcb, hfst]
      done
    · have hto : List.take (pre.length + 1) (pre ++ [(cur : Int)]) = pre ++ [(cur : Int)] := List.take_of_length_le (by simp)
      simp (config := {contextual := true}) [List.range, List.range.loop, ints, intss, int, bool, row, frac, fracs, ← List.map_take, ← List.map_drop, wyA, wyT, cyAV, mHas_at, hpos, hne, hcb, hfst, hb]
      done
  · rw [if_neg hc] at hval
    have hc' : ¬ a = i := by omega
    by_cases hne : pre = []
    · subst hne
      simp (config := {contextual := true}) [List.range, List.range.loop, ints, intss, int, bool, row, frac, fracs, ← List.map_take, ← List.map_drop, wyA, wyT, cyAV, hh0, hcb, hfst, hc, hc']
      exact ⟨⟨[(cur : Int)], a, fuel, hval, hnd', hbd', ha, hfl'⟩, by simp [sub, slotsLe, clean, keep, refsL, refs, once, place, renL, ren, List.replicate, int, bool, intss, ints, wyA, wyT], by simp⟩
    · simp (config := {contextual := true}) [List.range, List.range.loop, ints, intss, int, bool, row, frac, fracs, ← List.map_take, ← List.map_drop, wyA, wyT, cyAV, mHas_at, hpos, hne, hcb, hfst, hc, hc', hb]
      exact ⟨⟨pre ++ [(cur : Int)], a, fuel, hval, hnd', hbd', ha, hfl'⟩, by simp [sub, slotsLe, clean, keep, refsL, refs, once, place, renL, ren, List.replicate, int, bool, intss, ints, wyA, wyT], by simp⟩

structure Wz (f : Int → Int) (i : Int) (n : Nat) (R : Option (List Int)) where
  pre : List Int
  cur : Nat
  fuel : Nat
  val : cyS f i fuel pre cur = R
  nd : (pre ++ [(cur : Int)]).Nodup
  bd : ∀ x ∈ pre, 0 ≤ x ∧ x < (n : Int)
  cb : cur < n
  fl : pre.length + fuel = n + 1

/-- What the reference's search is asked. -/
structure PsOk (xss : List (Bool × List Int)) (bs : List Bool) (i : Int) : Prop where
  h : H5 xss
  bl : bs.length = xss.length
  ex : ∃ j : Nat, bs.getD j false = true
  i0 : 0 ≤ i
  il : i < xss.length
noncomputable def mL22C : List AV → Option AV := mk (fun (p : Bool × List (Bool × List Int) × List Bool × Int) => PsOk p.2.1 p.2.2.1 p.2.2.2) (fun p => [intss p.1 p.2.1, bools false p.2.2.1, int p.2.2.2]) (fun p => cyAV (cyS (nx p.2.1 p.2.2.1) p.2.2.2 (p.2.1.length + 1) [] p.2.2.2))
theorem mL22C_at (nl : Bool) (xss : List (Bool × List Int)) (bs : List Bool) (i : Int) (h : PsOk xss bs i) : mL22C [.sl nl 1 (xss.map row), .sl false 1 (bs.map bool), .v (.int .i64 i)] = some (cyAV (cyS (nx xss bs) i (xss.length + 1) [] i)) :=
  mk_eq (enc := fun (p : Bool × List (Bool × List Int) × List Bool × Int) => [intss p.1 p.2.1, bools false p.2.2.1, int p.2.2.2]) (x := (nl, xss, bs, i)) (by rintro ⟨a, b, c, d⟩ ⟨e, f, g, j⟩ h; simp [intss, bools, int, map_row_inj, map_bool_inj] at h; simp [h]) h

set_option maxRecDepth 16000 in
set_option maxHeartbeats 4000000 in
theorem l22Cycle_ok : FnOk Tryd.prog 75 mL22C := by
  refine mk_ok fun ⟨nl, xss, bs, i⟩ hp => ?_
  simp only at hp
  have h := hp.h
  have hn5 := h.n5
  have hbl := hp.bl
  obtain ⟨i, rfl⟩ := Int.eq_ofNat_of_zero_le hp.i0
  have hil : i < xss.length := by have := hp.il; omega
  have hG : FnsOk Tryd.prog [(125, mFstB), (101, mPos)] := (.cons l22First_ok (.cons placeOf_ok .nil))
  refine callOk_awp (ctx_ok eqOk hG) mixed (live := [true, true, true, false, false, false, true, true, true, false, false, false, false, false, false, false, false, false, false, false, false, false, false, false, true, false, false, false, false, false, false, false, false, false, true]) (dt := []) Tryd.func75 rfl (by kernel_rfl) (by kernel_rfl) fun w0 hlens => ?_
  clear hlens
  generalize hR : cyS (nx xss bs) (i : Int) (xss.length + 1) [] (i : Int) = R
  simp only
  simp (config := {contextual := true}) [Tryd.f75, List.range, List.range.loop, ints, intss, int, bool, row, frac, fracs, ← List.map_take, ← List.map_drop, bools]
  refine awp_loop_of (live := [true, true, true, false, false, false, true, true, true, false, false, false, false, false, false, false, false, false, false, false, false, false, false, false, true, false, false, false, false, false, false, false, false, false, true]) (ctx_ok eqOk hG) mixed [true, true, true, false, false, false, false, true] (α := Wz (nx xss bs) (i : Int) xss.length R) (fun s => ⟨[intss nl xss, bools false bs, int (i : Int), .junk, .junk, .junk, .junk, .ref 0 [] 0 (s.pre.length + 1), .junk, .junk, .junk, .junk, .junk, .junk, .junk, .junk, .junk, .junk, .junk, .junk, .junk, .junk, .junk, .junk, .junk, .junk, .junk, .junk, .junk, .junk, .junk, .junk, .junk, .junk, .junk, .junk, .junk, .junk, .junk], [⟨true, .sl false 1 ((s.pre ++ [(s.cur : Int)]).map int)⟩]⟩) (fun s => s.fuel) ⟨[], i, xss.length + 1, hR, by simp, by simp, hil, by simp⟩ (by simp [sub, slotsLe, clean, keep, refsL, refs, once, place, renL, ren, List.replicate, int, bool, intss, ints, bools, bool]) ?_
  rintro ⟨pre, cur, fuel, hval, hnd, hbd, hcb, hfl⟩
  simp only
  have hbd' : ∀ x ∈ pre ++ [(cur : Int)], 0 ≤ x ∧ x < (xss.length : Int) := fun x hx => by
    rcases List.mem_append.1 hx with hx | hx
    · exact hbd x hx
    · obtain rfl : x = (cur : Int) := by simpa using hx
      omega
  have hpl := way_len hnd hbd'
  rw [List.length_append] at hpl
  simp only [List.length_cons, List.length_nil] at hpl
  obtain ⟨fuel, rfl⟩ : ∃ k, fuel = k + 1 := ⟨fuel - 1, by omega⟩
  obtain ⟨a, ha, _, hf2, hf3, _⟩ := nx_at h hbl hp.ex hcb
  have hfst := mFstB_at xss[cur].1 xss[cur].2 bs (fun x hx => by have := (h.all cur hcb).1 x hx; omega)
  rw [hf3] at hfst
  rw [cyS, hf2] at hval
  obtain ⟨o, ho⟩ : ∃ o, o = pre ++ [(cur : Int)] := ⟨_, rfl⟩
  have hol : o.length = pre.length + 1 := by rw [ho]; simp
  have hog : o[pre.length]? = some (cur : Int) := by rw [ho]; simp
  obtain ⟨hogl, hog'⟩ := List.getElem?_eq_some_iff.1 hog
  rw [← ho] at hval hnd hbd' ⊢
  have hto : List.take (pre.length + 1) o = o := List.take_of_length_le (by omega)
  have hb : pre.length + 1 + 1 ≤ 4611686018427387904 ∧ (pre.length + 1 + 1) * 8 ≤ 140737488355328 := by omega
  have hw1 : IntKind.i64.wrap ((pre.length : Int) + 1 - 1) = pre.length := by rw [wrapI (by omega) (by omega)]; omega
  have hw2 : IntKind.i64.wrap (pre.length : Int) = pre.length := wrapI (by omega) (by omega)
  by_cases hc : (a : Int) = (i : Int)
  · rw [if_pos hc] at hval
    subst hval
    have hc' : a = i := by omega
    subst hc'
    simp (config := {contextual := true}) [List.range, List.range.loop, ints, intss, int, bool, row, frac, fracs, ← List.map_take, ← List.map_drop, bools, cyAV, hol, hog', hto, hcb, hfst, hb, hw1, hw2]
    done
  rw [if_neg hc] at hval
  have hc' : ¬ a = i := by omega
  by_cases hl : (a : Int) < (i : Int)
  · rw [if_pos (.inl hl)] at hval
    subst hval
    have hl' : a < i := by omega
    simp (config := {contextual := true}) [List.range, List.range.loop, ints, intss, int, bool, row, frac, fracs, ← List.map_take, ← List.map_drop, bools, cyAV, hol, hog', hto, hcb, hfst, hb, hw1, hw2, hc, hc', hl, hl']
    done
  have hl' : ¬ a < i := by omega
  by_cases hm : (a : Int) ∈ o
  · rw [if_pos (.inr hm)] at hval
    have hpos : 0 ≤ pos o (a : Int) := pos_iff.2 hm
    subst hval
    simp (config := {contextual := true}) [List.range, List.range.loop, ints, intss, int, bool, row, frac, fracs, ← List.map_take, ← List.map_drop, bools, cyAV, hol, hog', hto, hcb, hfst, hb, hw1, hw2, hc, hc', hl, hl', mPos_at, hpos, ge_zero]
    done
  · rw [if_neg (fun h => h.elim hl hm)] at hval
    have hpos : ¬ 0 ≤ pos o (a : Int) := fun h => hm (pos_iff.1 h)
    simp (config := {contextual := true}) [List.range, List.range.loop, ints, intss, int, bool, row, frac, fracs, ← List.map_take, ← List.map_drop, bools, cyAV, hol, hog', hto, hcb, hfst, hb, hw1, hw2, hc, hc', hl, hl', mPos_at, hpos, ge_zero]
    have hnd2 : (o ++ [(a : Int)]).Nodup := by
      rw [List.nodup_append]
      exact ⟨hnd, by simp, fun x hx y hy => by obtain rfl : y = (a : Int) := by simpa using hy
                                               exact fun e => hm (e ▸ hx)⟩
    exact ⟨⟨o, a, fuel, hval, hnd2, hbd', ha, by omega⟩, by simp [sub, slotsLe, clean, keep, refsL, refs, once, place, renL, ren, List.replicate, int, bool, intss, ints, bools, hol], by simp⟩

end Go.Proofs.YtmeokgedldnohaaDoor.Ax
