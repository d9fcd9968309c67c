/-
  Contracts: slices.Min, the cycle of a person (both programs). No condition.
-/
import Derived.Test.YtlkgppincgpfjaaDoorCG9
import Derived.Test.YtlkgppincgpfjaaDoorCB2
import Derived.Test.YtlkgppincgpfjaaDoorCK4
import Derived.Shelf.Lay
import Derived.Ground.SlgnProg
import Derived.Shelf.SlicesE.Delete
import Derived.Ground.SlgfProg
import Derived.Shelf.SlicesE.DeleteFunc
namespace Go.Proofs.YtlkgppincgpfjaaDoor.Ax
open Go Go.RowKit
set_option linter.unusedSimpArgs false

/-- The least of the first k numbers. -/
def mnTo (xs : List Int) (k : Nat) : Int := (xs.take k).foldl min (xs.headD 0)
theorem mnTo_one {xs : List Int} (h : 0 < xs.length) : mnTo xs 1 = xs[0] := by
  cases xs with
  | nil => simp at h
  | cons x xs => simp [mnTo]
theorem mnTo_succ {xs : List Int} {k : Nat} (h : k < xs.length) : mnTo xs (k + 1) = min (mnTo xs k) xs[k] := by
  unfold mnTo; rw [List.take_succ_eq_append_getElem h, List.foldl_append]; rfl
def mn (xs : List Int) : Int := mnTo xs xs.length
theorem mn_fold : ∀ {l : List Int} {a : Int}, (l.foldl min a = a ↔ ∀ x ∈ l, a ≤ x) ∧ l.foldl min a ≤ a
  | [], a => by simp
  | x :: l, a => by
    obtain ⟨h1, h2⟩ := mn_fold (l := l) (a := min a x)
    rw [List.foldl_cons]
    refine ⟨⟨fun h y hy => ?_, fun h => ?_⟩, by omega⟩
    · have e : min a x = a := by omega
      rw [e] at h1 h
      rcases List.mem_cons.1 hy with rfl | hy
      · omega
      · exact h1.1 h y hy
    · have e : min a x = a := by have := h x (by simp); omega
      rw [e] at h1 ⊢
      exact h1.2 fun y hy => h y (by simp [hy])
/-- The first is the least if no other is less. -/
theorem mn_head {xs : List Int} {i : Int} (h : xs.head? = some i) : decide (mn xs = i) = xs.all fun x => decide (i ≤ x) := by
  cases xs with
  | nil => simp at h
  | cons a l =>
    simp only [List.head?_cons, Option.some.injEq] at h
    subst h
    have e : mn (a :: l) = (a :: l).foldl min a := by unfold mn mnTo; rw [List.take_length]; rfl
    rw [e, Bool.eq_iff_iff, decide_eq_true_eq, mn_fold.1, List.all_eq_true]
    simp only [decide_eq_true_eq]

noncomputable def mMin : List AV → Option AV := mk (fun p => 0 < p.2.length ∧ p.2.length ≤ 1000) (fun (p : (Bool) × (List Int)) => [ints p.1 p.2]) (fun p => int (mn p.2))
theorem mMin_at (nl : Bool) (xs : List Int) (hpre : 0 < xs.length ∧ xs.length ≤ 1000) : mMin [.sl nl 1 (xs.map int)] = some (.v (.int .i64 (mn xs))) :=
  mk_eq (enc := fun (p : (Bool) × (List Int)) => [ints p.1 p.2]) (x := (nl, xs)) (by rintro ⟨a0, a1⟩ ⟨b0, b1⟩ h; simp [ints, intss, int, bool, row, frac, fracs, map_int_inj, map_row_inj, frac_inj, map_frac_inj] at h; simp [h]) hpre
set_option maxHeartbeats 1000000 in
theorem min_ok : FnOk Tryd.prog 79 mMin := by
  refine mk_ok fun ⟨nl, xs⟩ ⟨h0, hp⟩ => ?_
  simp only at h0 hp
  have hG : FnsOk Tryd.prog [] := .nil
  refine callOk_awp (ctx_ok eqOk hG) mixed (live := [true, false, true, true, true, false, false, true, false, false, false, false, false, false, false, true]) (dt := []) Tryd.func79 rfl (by kernel_rfl) (by kernel_rfl) fun w0 hlens => ?_
  clear hlens
  have hlt : ¬ (xs.length : Int) < 1 := by omega
  simp (config := {contextual := true}) [Tryd.f79, List.range, List.range.loop, ints, intss, int, bool, row, frac, fracs, ← List.map_take, ← List.map_drop, hlt, h0]
  refine awp_loop_of (live := [true, false, true, true, true, false, false, true, false, false, false, false, false, false, false, true]) (ctx_ok eqOk hG) mixed [true, false, false, true, true] (α := {k : Nat // k ≤ xs.length ∧ 1 ≤ k}) (fun k => ⟨[ints nl xs, .junk, .junk, int (mnTo xs k.1), int k.1, .junk, .junk, .junk, .junk, .junk, .junk, .junk, .junk, .junk, .junk, .junk, .junk, .junk, .junk, .junk, .junk, .junk, .junk, .junk, .junk], []⟩) (fun k => xs.length - k.1) ⟨1, by omega, by omega⟩ (by simp [sub, slotsLe, clean, keep, refsL, refs, once, place, renL, ren, List.replicate, int, bool, ints, mnTo_one h0]) ?_
  rintro ⟨k, hk, hk1⟩
  by_cases h : k < xs.length
  · simp (config := {contextual := true}) [List.range, List.range.loop, ints, intss, int, bool, row, frac, fracs, ← List.map_take, ← List.map_drop, h]
    refine ⟨⟨k + 1, h, by omega⟩, ?_, by simp; omega⟩
    simp [sub, slotsLe, clean, keep, refsL, refs, once, place, renL, ren, List.replicate, int, bool, ints, mnTo_succ h]
    exact wrapI (by omega) (by omega)
  · have hk' : k = xs.length := by omega
    subst hk'
    simp (config := {contextual := true}) [List.range, List.range.loop, ints, intss, int, bool, row, frac, fracs, ← List.map_take, ← List.map_drop, mn]

/-- A way so far, as it lies in memory: nil as long as nobody is on it. -/
def wyA (l : List Int) : AV := if l = [] then .sl true 1 [] else .ref 0 [] 0 l.length
def wyT (l : List Int) : List Tok := if l = [] then [] else [⟨true, .sl false 1 (l.map int)⟩]
def cyAV : Option (List Int) → AV
  | none => .sl true 1 []
  | some l => .sl false 1 (l.map int)

/-- What the search for a cycle is asked. -/
structure PtOk (xss : List (Bool × List Int)) (L : List Int) (i : Int) : Prop where
  n5 : xss.length ≤ 5
  go : ∀ j (h : j < xss.length), ∃ a : Nat, a < xss.length ∧ fstI (fun h => decide (0 ≤ pos L h)) xss[j].2 = some (a : Int)
  i0 : 0 ≤ i
  il : i < xss.length
theorem PtOk.nx {xss : List (Bool × List Int)} {L : List Int} {i : Int} (h : PtOk xss L i) {c : Nat} (hc : c < xss.length) : ∃ a : Nat, a < xss.length ∧ fstI (fun h => decide (0 ≤ pos L h)) xss[c].2 = some (a : Int) ∧ nxL xss L (c : Int) = (a : Int) := by
  obtain ⟨a, h1, h2⟩ := h.go c hc
  refine ⟨a, h1, h2, ?_⟩
  unfold nxL
  rw [Int.toNat_natCast, show xss.getD c (true, []) = xss[c] by simp [List.getD_eq_getElem?_getD, hc], h2]; rfl

theorem way_len {n : Nat} {l : List Int} (h : l.Nodup) (hb : ∀ x ∈ l, 0 ≤ x ∧ x < (n : Int)) : l.length ≤ n := by
  have := nodup_leI (M := (List.range n).map fun (k : Nat) => (k : Int)) h fun x hx => by
    have := hb x hx
    exact List.mem_map.2 ⟨x.toNat, List.mem_range.2 (by omega), by omega⟩
  simpa using this

/-- A state of the search. -/
structure Wy (f : Int → Int) (i : Int) (n : Nat) (R : Option (List Int)) where
  pre : List Int
  cur : Nat
  fuel : Nat
  val : cyI f i fuel pre cur = R
  nd : pre.Nodup
  bd : ∀ x ∈ pre, 0 ≤ x ∧ x < (n : Int)
  cb : cur < n
  fl : pre.length + fuel = n + 1

noncomputable def mPtC : List AV → Option AV := mk (fun p => PtOk p.2.1 p.2.2.2.1 p.2.2.2.2) (fun (p : (Bool) × (List (Bool × List Int)) × (Bool) × (List Int) × (Int)) => [intss p.1 p.2.1, ints p.2.2.1 p.2.2.2.1, int p.2.2.2.2]) (fun p => cyAV (cyI (nxL p.2.1 p.2.2.2.1) p.2.2.2.2 (p.2.1.length + 1) [] p.2.2.2.2))
theorem mPtC_at (nl : Bool) (xss : List (Bool × List Int)) (nl1 : Bool) (l : List Int) (i : Int) (hpre : PtOk xss l i) : mPtC [.sl nl 1 (xss.map row), .sl nl1 1 (l.map int), .v (.int .i64 i)] = some (cyAV (cyI (nxL xss l) i (xss.length + 1) [] i)) :=
  mk_eq (enc := fun (p : (Bool) × (List (Bool × List Int)) × (Bool) × (List Int) × (Int)) => [intss p.1 p.2.1, ints p.2.2.1 p.2.2.2.1, int p.2.2.2.2]) (x := (nl, xss, nl1, l, i)) (by rintro ⟨a0, a1, a2, a3, a4⟩ ⟨b0, b1, b2, b3, b4⟩ h; simp [ints, intss, int, bool, row, frac, fracs, map_int_inj, map_row_inj, frac_inj, map_frac_inj] at h; simp [h]) hpre

set_option maxRecDepth 16000 in
set_option maxHeartbeats 4000000 in
theorem pointing_ok : FnOk Tryd.prog 78 mPtC := by
  refine mk_ok fun ⟨nl, xss, nl1, L, i⟩ hp => ?_
  simp only at hp
  have hn5 := hp.n5
  obtain ⟨i, rfl⟩ := Int.eq_ofNat_of_zero_le hp.i0
  have hil : i < xss.length := by have := hp.il; omega
  have hG : FnsOk Tryd.prog [(82, mHas), (113, mFstL)] := (.cons slicesContains_ok (.cons firstOfLeft_ok .nil))
  refine callOk_awp (ctx_ok eqOk hG) mixed (live := [true, true, true, false, false, false, true, true, true, false, false, false, false, true, false, false, false, false, false, false, false, false, false, false, false, false, true]) (dt := []) Tryd.func78 rfl (by kernel_rfl) (by kernel_rfl) fun w0 hlens => ?_
  clear hlens
  generalize hR : cyI (nxL xss L) (i : Int) (xss.length + 1) [] (i : Int) = R
  simp only
  simp (config := {contextual := true}) [Tryd.f78, List.range, List.range.loop, ints, intss, int, bool, row, frac, fracs, ← List.map_take, ← List.map_drop]
  refine awp_loop_of (live := [true, true, true, false, false, false, true, true, true, false, false, false, false, true, false, false, false, false, false, false, false, false, false, false, false, false, true]) (ctx_ok eqOk hG) mixed [true, true, true, false, false, false, false, true, true] (α := Wy (nxL xss L) (i : Int) xss.length R) (fun s => ⟨[intss nl xss, ints nl1 L, int (i : Int), .junk, .junk, .junk, .junk, wyA s.pre, int (s.cur : Int), .junk, .junk, .junk, .junk, .junk, .junk, .junk, .junk, .junk, .junk, .junk, .junk, .junk, .junk, .junk, .junk, .junk, .junk, .junk], wyT s.pre⟩) (fun s => s.fuel) ⟨[], i, xss.length + 1, hR, by simp, by simp, hil, by simp⟩ (by simp [sub, slotsLe, clean, keep, refsL, refs, once, place, renL, ren, List.replicate, int, bool, intss, ints, wyA, wyT]) ?_
  rintro ⟨pre, cur, fuel, hval, hnd, hbd, hcb, hfl⟩
  simp only
  have hpl := way_len hnd hbd
  obtain ⟨fuel, rfl⟩ : ∃ k, fuel = k + 1 := ⟨fuel - 1, by omega⟩
  obtain ⟨a, ha, hf1, hf2⟩ := hp.nx hcb
  have hfst := mFstL_at xss[cur].1 xss[cur].2 nl1 L a hf1
  have hh0 : mHas [.sl true 1 [], .v (.int .i64 (cur : Int))] = some (.v (.bool false)) := mHas_at true [] (cur : Int)
  have hb : pre.length + 1 ≤ 4611686018427387904 ∧ (pre.length + 1) * 8 ≤ 140737488355328 := by omega
  rw [cyI, hf2] at hval
  by_cases hm : (cur : Int) ∈ pre
  · rw [if_pos hm] at hval
    have hpos : 0 ≤ pos pre (cur : Int) := pos_iff.2 hm
    have hne : ¬ pre = [] := fun e => by rw [e] at hm; simp at hm
    subst hval
    simp (config := {contextual := true}) [List.range, List.range.loop, ints, intss, int, bool, row, frac, fracs, ← List.map_take, ← List.map_drop, wyA, wyT, cyAV, mHas_at, hpos, hne]
    done
  rw [if_neg hm] at hval
  have hpos : ¬ 0 ≤ pos pre (cur : Int) := fun h => hm (pos_iff.1 h)
  have hnd' : (pre ++ [(cur : Int)]).Nodup := by
    rw [List.nodup_append]
    exact ⟨hnd, by simp, fun x hx y hy => by obtain rfl : y = (cur : Int) := by simpa using hy
                                             exact fun e => hm (e ▸ hx)⟩
  have hbd' : ∀ x ∈ pre ++ [(cur : Int)], 0 ≤ x ∧ x < (xss.length : Int) := fun x hx => by
    rcases List.mem_append.1 hx with hx | hx
    · exact hbd x hx
    · obtain rfl : x = (cur : Int) := by simpa using hx
      omega
  have hfl' : (pre ++ [(cur : Int)]).length + fuel = xss.length + 1 := by simp; omega
  by_cases hc : (a : Int) = (i : Int)
  · rw [if_pos hc] at hval
    subst hval
    have hc' : a = i := by omega
    subst hc'
    by_cases hne : pre = []
    · subst hne
      simp (config := {contextual := true}) [List.range, List.range.loop, ints, intss, int, bool, row, frac, fracs, ← List.map_take, ← List.map_drop, wyA, wyT, cyAV, hh0, hcb, hfst]
      done
    · have hto : List.take (pre.length + 1) (pre ++ [(cur : Int)]) = pre ++ [(cur : Int)] := List.take_of_length_le (by simp)
      simp (config := {contextual := true}) [List.range, List.range.loop, ints, intss, int, bool, row, frac, fracs, ← List.map_take, ← List.map_drop, wyA, wyT, cyAV, mHas_at, hpos, hne, hcb, hfst, hb]
      done
  · rw [if_neg hc] at hval
    have hc' : ¬ a = i := by omega
    by_cases hne : pre = []
    · subst hne
      simp (config := {contextual := true}) [List.range, List.range.loop, ints, intss, int, bool, row, frac, fracs, ← List.map_take, ← List.map_drop, wyA, wyT, cyAV, hh0, hcb, hfst, hc, hc']
      exact ⟨⟨[(cur : Int)], a, fuel, hval, hnd', hbd', ha, hfl'⟩, by simp [sub, slotsLe, clean, keep, refsL, refs, once, place, renL, ren, List.replicate, int, bool, intss, ints, wyA, wyT], by simp⟩
    · simp (config := {contextual := true}) [List.range, List.range.loop, ints, intss, int, bool, row, frac, fracs, ← List.map_take, ← List.map_drop, wyA, wyT, cyAV, mHas_at, hpos, hne, hcb, hfst, hc, hc', hb]
      exact ⟨⟨pre ++ [(cur : Int)], a, fuel, hval, hnd', hbd', ha, hfl'⟩, by simp [sub, slotsLe, clean, keep, refsL, refs, once, place, renL, ren, List.replicate, int, bool, intss, ints, wyA, wyT], by simp⟩

structure Wz (f : Int → Int) (i : Int) (n : Nat) (R : Option (List Int)) where
  pre : List Int
  cur : Nat
  fuel : Nat
  val : cyS f i fuel pre cur = R
  nd : (pre ++ [(cur : Int)]).Nodup
  bd : ∀ x ∈ pre, 0 ≤ x ∧ x < (n : Int)
  cb : cur < n
  fl : pre.length + fuel = n + 1

/-- What the reference's search is asked. -/
structure PsOk (xss : List (Bool × List Int)) (bs : List Bool) (i : Int) : Prop where
  h : H5 xss
  bl : bs.length = xss.length
  ex : ∃ j : Nat, bs.getD j false = true
  i0 : 0 ≤ i
  il : i < xss.length
noncomputable def mL22C : List AV → Option AV := mk (fun (p : Bool × List (Bool × List Int) × List Bool × Int) => PsOk p.2.1 p.2.2.1 p.2.2.2) (fun p => [intss p.1 p.2.1, bools false p.2.2.1, int p.2.2.2]) (fun p => cyAV (cyS (nx p.2.1 p.2.2.1) p.2.2.2 (p.2.1.length + 1) [] p.2.2.2))
theorem mL22C_at (nl : Bool) (xss : List (Bool × List Int)) (bs : List Bool) (i : Int) (h : PsOk xss bs i) : mL22C [.sl nl 1 (xss.map row), .sl false 1 (bs.map bool), .v (.int .i64 i)] = some (cyAV (cyS (nx xss bs) i (xss.length + 1) [] i)) :=
  mk_eq (enc := fun (p : Bool × List (Bool × List Int) × List Bool × Int) => [intss p.1 p.2.1, bools false p.2.2.1, int p.2.2.2]) (x := (nl, xss, bs, i)) (by rintro ⟨a, b, c, d⟩ ⟨e, f, g, j⟩ h; simp [intss, bools, int, map_row_inj, map_bool_inj] at h; simp [h]) h

set_option maxRecDepth 16000 in
set_option maxHeartbeats 4000000 in
theorem l22Cycle_ok : FnOk Tryd.prog 75 mL22C := by
  refine mk_ok fun ⟨nl, xss, bs, i⟩ hp => ?_
  simp only at hp
  have h := hp.h
  have hn5 := h.n5
  have hbl := hp.bl
  obtain ⟨i, rfl⟩ := Int.eq_ofNat_of_zero_le hp.i0
  have hil : i < xss.length := by have := hp.il; omega
  have hG : FnsOk Tryd.prog [(109, mFstB), (110, mPos)] := (.cons l22First_ok (.cons placeOf_ok .nil))
  refine callOk_awp (ctx_ok eqOk hG) mixed (live := [true, true, true, false, false, false, true, true, true, false, false, false, false, false, false, false, false, false, false, false, false, false, false, false, true, false, false, false, false, false, false, false, false, false, true]) (dt := []) Tryd.func75 rfl (by kernel_rfl) (by kernel_rfl) fun w0 hlens => ?_
  clear hlens
  generalize hR : cyS (nx xss bs) (i : Int) (xss.length + 1) [] (i : Int) = R
  simp only
  simp (config := {contextual := true}) [Tryd.f75, List.range, List.range.loop, ints, intss, int, bool, row, frac, fracs, ← List.map_take, ← List.map_drop, bools]
  refine awp_loop_of (live := [true, true, true, false, false, false, true, true, true, false, false, false, false, false, false, false, false, false, false, false, false, false, false, false, true, false, false, false, false, false, false, false, false, false, true]) (ctx_ok eqOk hG) mixed [true, true, true, false, false, false, false, true] (α := Wz (nx xss bs) (i : Int) xss.length R) (fun s => ⟨[intss nl xss, bools false bs, int (i : Int), .junk, .junk, .junk, .junk, .ref 0 [] 0 (s.pre.length + 1), .junk, .junk, .junk, .junk, .junk, .junk, .junk, .junk, .junk, .junk, .junk, .junk, .junk, .junk, .junk, .junk, .junk, .junk, .junk, .junk, .junk, .junk, .junk, .junk, .junk, .junk, .junk, .junk, .junk, .junk, .junk], [⟨true, .sl false 1 ((s.pre ++ [(s.cur : Int)]).map int)⟩]⟩) (fun s => s.fuel) ⟨[], i, xss.length + 1, hR, by simp, by simp, hil, by simp⟩ (by simp [sub, slotsLe, clean, keep, refsL, refs, once, place, renL, ren, List.replicate, int, bool, intss, ints, bools, bool]) ?_
  rintro ⟨pre, cur, fuel, hval, hnd, hbd, hcb, hfl⟩
  simp only
  have hbd' : ∀ x ∈ pre ++ [(cur : Int)], 0 ≤ x ∧ x < (xss.length : Int) := fun x hx => by
    rcases List.mem_append.1 hx with hx | hx
    · exact hbd x hx
    · obtain rfl : x = (cur : Int) := by simpa using hx
      omega
  have hpl := way_len hnd hbd'
  rw [List.length_append] at hpl
  simp only [List.length_cons, List.length_nil] at hpl
  obtain ⟨fuel, rfl⟩ : ∃ k, fuel = k + 1 := ⟨fuel - 1, by omega⟩
  obtain ⟨a, ha, _, hf2, hf3, _⟩ := nx_at h hbl hp.ex hcb
  have hfst := mFstB_at xss[cur].1 xss[cur].2 bs (fun x hx => by have := (h.all cur hcb).1 x hx; omega)
  rw [hf3] at hfst
  rw [cyS, hf2] at hval
  obtain ⟨o, ho⟩ : ∃ o, o = pre ++ [(cur : Int)] := ⟨_, rfl⟩
  have hol : o.length = pre.length + 1 := by rw [ho]; simp
  have hog : o[pre.length]? = some (cur : Int) := by rw [ho]; simp
  obtain ⟨hogl, hog'⟩ := List.getElem?_eq_some_iff.1 hog
  rw [← ho] at hval hnd hbd' ⊢
  have hto : List.take (pre.length + 1) o = o := List.take_of_length_le (by omega)
  have hb : pre.length + 1 + 1 ≤ 4611686018427387904 ∧ (pre.length + 1 + 1) * 8 ≤ 140737488355328 := by omega
  have hw1 : IntKind.i64.wrap ((pre.length : Int) + 1 - 1) = pre.length := by rw [wrapI (by omega) (by omega)]; omega
  have hw2 : IntKind.i64.wrap (pre.length : Int) = pre.length := wrapI (by omega) (by omega)
  by_cases hc : (a : Int) = (i : Int)
  · rw [if_pos hc] at hval
    subst hval
    have hc' : a = i := by omega
    subst hc'
    simp (config := {contextual := true}) [List.range, List.range.loop, ints, intss, int, bool, row, frac, fracs, ← List.map_take, ← List.map_drop, bools, cyAV, hol, hog', hto, hcb, hfst, hb, hw1, hw2]
    done
  rw [if_neg hc] at hval
  have hc' : ¬ a = i := by omega
  by_cases hl : (a : Int) < (i : Int)
  · rw [if_pos (.inl hl)] at hval
    subst hval
    have hl' : a < i := by omega
    simp (config := {contextual := true}) [List.range, List.range.loop, ints, intss, int, bool, row, frac, fracs, ← List.map_take, ← List.map_drop, bools, cyAV, hol, hog', hto, hcb, hfst, hb, hw1, hw2, hc, hc', hl, hl']
    done
  have hl' : ¬ a < i := by omega
  by_cases hm : (a : Int) ∈ o
  · rw [if_pos (.inr hm)] at hval
    have hpos : 0 ≤ pos o (a : Int) := pos_iff.2 hm
    subst hval
    simp (config := {contextual := true}) [List.range, List.range.loop, ints, intss, int, bool, row, frac, fracs, ← List.map_take, ← List.map_drop, bools, cyAV, hol, hog', hto, hcb, hfst, hb, hw1, hw2, hc, hc', hl, hl', mPos_at, hpos, ge_zero]
    done
  · rw [if_neg (fun h => h.elim hl hm)] at hval
    have hpos : ¬ 0 ≤ pos o (a : Int) := fun h => hm (pos_iff.1 h)
    simp (config := {contextual := true}) [List.range, List.range.loop, ints, intss, int, bool, row, frac, fracs, ← List.map_take, ← List.map_drop, bools, cyAV, hol, hog', hto, hcb, hfst, hb, hw1, hw2, hc, hc', hl, hl', mPos_at, hpos, ge_zero]
    have hnd2 : (o ++ [(a : Int)]).Nodup := by
      rw [List.nodup_append]
      exact ⟨hnd, by simp, fun x hx y hy => by obtain rfl : y = (a : Int) := by simpa using hy
                                               exact fun e => hm (e ▸ hx)⟩
    exact ⟨⟨o, a, fuel, hval, hnd2, hbd', ha, by omega⟩, by simp [sub, slotsLe, clean, keep, refsL, refs, once, place, renL, ren, List.replicate, int, bool, intss, ints, bools, hol], by simp⟩

end Go.Proofs.YtlkgppincgpfjaaDoor.Ax

/-
  Contracts: a short list of ints is sorted by a function, stably (slices.SortStableFunc). No condition.
-/
namespace Go.Proofs.YtlkgppincgpfjaaDoor.Ax
open Go Go.RowKit
set_option linter.unusedSimpArgs false

theorem Pure.killN {caps : List AV} (hc : Pure caps) (k : Nat) : killNL k caps = caps := killNL_id' k caps (by rw [hc.refs]; simp)

/-- x steps to the left of the first k numbers as long as it is less than the next one there. -/
def insFrom (c : Int → Int → Int) (ys : List Int) (x : Int) : Nat → List Int
  | 0 => x :: ys
  | k + 1 => if c x (ys.getD k 0) < 0 then insFrom c ys x k else ys.take (k + 1) ++ x :: ys.drop (k + 1)
def ins (c : Int → Int → Int) (ys : List Int) (x : Int) : List Int := insFrom c ys x ys.length
def isort (c : Int → Int → Int) (xs : List Int) : List Int := xs.foldl (ins c) []
theorem insFrom_len {c : Int → Int → Int} {ys : List Int} {x : Int} : ∀ {k : Nat}, (insFrom c ys x k).length = ys.length + 1
  | 0 => rfl
  | k + 1 => by
    unfold insFrom
    split
    · exact insFrom_len
    · simp; omega
theorem mem_insFrom {c : Int → Int → Int} {ys : List Int} {x y : Int} : ∀ {k : Nat}, y ∈ insFrom c ys x k ↔ y = x ∨ y ∈ ys
  | 0 => by simp [insFrom]
  | k + 1 => by
    unfold insFrom
    split
    · exact mem_insFrom
    · rw [List.mem_append, List.mem_cons]
      conv => rhs; rw [← List.take_append_drop (k + 1) ys, List.mem_append]
      constructor
      · rintro (h | h | h)
        · exact .inr (.inl h)
        · exact .inl h
        · exact .inr (.inr h)
      · rintro (h | h | h)
        · exact .inr (.inl h)
        · exact .inl h
        · exact .inr (.inr h)
theorem isort_snoc {c : Int → Int → Int} {xs : List Int} {x : Int} : isort c (xs ++ [x]) = ins c (isort c xs) x := by simp [isort, List.foldl_append]
theorem isort_len {c : Int → Int → Int} (xs : List Int) : (isort c xs).length = xs.length := by
  unfold isort
  suffices h : ∀ (xs ys : List Int), (xs.foldl (ins c) ys).length = ys.length + xs.length by simpa using h xs []
  intro xs
  induction xs with
  | nil => intro ys; simp
  | cons x xs ih => intro ys; simp only [List.foldl_cons]; rw [ih]; simp [ins, insFrom_len]; omega
theorem isort_mem {c : Int → Int → Int} {xs : List Int} {y : Int} : y ∈ isort c xs ↔ y ∈ xs := by
  unfold isort
  suffices h : ∀ (xs ys : List Int), y ∈ xs.foldl (ins c) ys ↔ y ∈ ys ∨ y ∈ xs by simpa using h xs []
  intro xs
  induction xs with
  | nil => intro ys; simp
  | cons x xs ih =>
    intro ys
    simp only [List.foldl_cons]
    rw [ih]
    simp only [ins, mem_insFrom, List.mem_cons]
    constructor
    · rintro ((h | h) | h)
      · exact .inr (.inl h)
      · exact .inl h
      · exact .inr (.inr h)
    · rintro (h | h | h)
      · exact .inl (.inr h)
      · exact .inl (.inl h)
      · exact .inr h

/-- x stands behind the first j numbers of what is sorted already. -/
def midd (ys : List Int) (x : Int) (j : Nat) (rest : List Int) : List Int := ys.take j ++ x :: (ys.drop j ++ rest)
theorem midd_len {ys rest : List Int} {x : Int} {j : Nat} : (midd ys x j rest).length = ys.length + 1 + rest.length := by simp [midd]; omega
theorem midd_at {ys rest : List Int} {x : Int} {j : Nat} (h : j ≤ ys.length) : (midd ys x j rest)[j]? = some x := by
  unfold midd
  rw [List.getElem?_append_right (by simp; omega)]
  simp [Nat.min_eq_left h]
theorem midd_before {ys rest : List Int} {x : Int} {k : Nat} (h : k + 1 ≤ ys.length) : (midd ys x (k + 1) rest)[k]? = some (ys.getD k 0) := by
  unfold midd
  rw [List.getElem?_append_left (by simp; omega), List.getElem?_take, if_pos (by omega), List.getElem?_eq_getElem (by omega), List.getD_eq_getElem?_getD, List.getElem?_eq_getElem (by omega)]
  rfl
theorem midd_swap {ys rest : List Int} {x : Int} {k : Nat} (h : k + 1 ≤ ys.length) :
    (((midd ys x (k + 1) rest).map int).set (k + 1) (.v (.int .i64 (ys.getD k 0)))).set k (.v (.int .i64 x)) = (midd ys x k rest).map int := by
  have e1 : AV.v (.int .i64 (ys.getD k 0)) = int (ys.getD k 0) := rfl
  have e2 : AV.v (.int .i64 x) = int x := rfl
  rw [e1, e2, ← List.map_set, ← List.map_set]
  congr 1
  obtain ⟨az, y, bz, rfl, rfl⟩ : ∃ az y bz, ys = az ++ y :: bz ∧ k = az.length := by
    refine ⟨ys.take k, ys[k], ys.drop (k + 1), ?_, by simp; omega⟩
    rw [List.getElem_cons_drop, List.take_append_drop]
  have t1 : az.take (az.length + 1) = az := List.take_of_length_le (by omega)
  have t2 : az.drop (az.length + 1) = [] := List.drop_of_length_le (by omega)
  simp [midd, List.take_append, List.drop_append, t1, t2]
theorem midd_all {ys : List Int} {x : Int} {rest : List Int} : midd ys x ys.length rest = ys ++ x :: rest := by simp [midd]

/-- The list whose first i numbers are sorted. -/
def srtTo (c : Int → Int → Int) (xs : List Int) (i : Nat) : List Int := isort c (xs.take i) ++ xs.drop i
theorem srtTo_len {c : Int → Int → Int} {xs : List Int} {i : Nat} : (srtTo c xs i).length = xs.length := by
  unfold srtTo
  rw [List.length_append, isort_len, ← List.length_append, List.take_append_drop]
theorem srtTo_one {c : Int → Int → Int} {xs : List Int} : srtTo c xs 1 = xs := by
  cases xs with
  | nil => rfl
  | cons x xs => simp [srtTo, isort, ins, insFrom]
theorem srtTo_all {c : Int → Int → Int} {xs : List Int} {i : Nat} (h : xs.length ≤ i) : srtTo c xs i = isort c xs := by
  simp [srtTo, List.take_of_length_le h, List.drop_of_length_le h]
theorem srtTo_mid {c : Int → Int → Int} {xs : List Int} {i : Nat} (h : i < xs.length) : srtTo c xs i = midd (isort c (xs.take i)) xs[i] (isort c (xs.take i)).length (xs.drop (i + 1)) := by
  rw [midd_all, srtTo, List.getElem_cons_drop]
theorem srtTo_done {c : Int → Int → Int} {xs : List Int} {i j : Nat} (h : i < xs.length) (hi : insFrom c (isort c (xs.take i)) xs[i] j = ins c (isort c (xs.take i)) xs[i])
    (hj : j = 0 ∨ ∃ k, j = k + 1 ∧ ¬ c xs[i] ((isort c (xs.take i)).getD k 0) < 0) : midd (isort c (xs.take i)) xs[i] j (xs.drop (i + 1)) = srtTo c xs (i + 1) := by
  unfold srtTo
  rw [List.take_succ_eq_append_getElem h, isort_snoc, ← hi]
  rcases hj with rfl | ⟨k, rfl, hk⟩
  · simp [midd, insFrom]
  · rw [insFrom, if_neg hk]
    simp [midd]

end Go.Proofs.YtlkgppincgpfjaaDoor.Ax

/-
  Contracts: slices.Delete over ints: the row is handed over, what is left comes back. No condition.
-/
namespace Go.Proofs
end Go.Proofs
namespace Go.Proofs.YtlkgppincgpfjaaDoor.Ax
open Go Go.RowKit Go.Sort
set_option linter.unusedSimpArgs false

theorem frozen_cells {w : World} {b : Nat} {cs : Array Value} {T : TypeId} (h : w.heap[b]? = some (.cells cs T (0, 0))) (o : Nat) : w.frozen? ⟨b, o, none⟩ = false := by
  simp [World.frozen?, h]

theorem ownRow_ints {w : World} {d : Bool} {F S : Nat → Prop} {b : Nat} : ∀ {xs : List Int} {o : Nat}, OwnRow w d F S b 1 o (xs.map int) → ∀ (j : Nat) (x : Int), xs[j]? = some x → w.cell? ⟨b, o + j, none⟩ = some (.int .i64 x)
  | xs, o, h, j, x, hj => by
    obtain ⟨y, h1, h2, _, h4⟩ := OwnRow.get h j (int x) (by rw [List.getElem?_map, hj]; rfl)
    simp only [Own, int] at h1
    obtain ⟨rfl, _⟩ := h1
    have := h4 0 (.int .i64 x) (by rfl)
    simpa using this

theorem ownRow_mk {w : World} {d : Bool} {F S : Nat → Prop} {b : Nat} : ∀ {xs : List Int} {o : Nat}, (∀ (j : Nat) (x : Int), xs[j]? = some x → w.cell? ⟨b, o + j, none⟩ = some (.int .i64 x)) → OwnRow w d F S b 1 o (xs.map int)
  | [], o, h => by simp [OwnRow]
  | x :: xs, o, h => by
    simp only [List.map_cons, OwnRow]
    refine ⟨.int .i64 x, fun _ => False, fun _ => False, fun _ h => h.elim, fun _ h => h.elim, fun _ h => h.elim, by simp [Own, int, Value.oneCell'], rfl, rfl, fun j y hj => ?_, ownRow_mk fun j y hj => ?_⟩
    · cases j with
      | zero => simp [Value.cells] at hj; subst hj; exact h 0 x rfl
      | succ j => simp [Value.cells] at hj
    · have := h (j + 1) y (by simpa using hj)
      rw [show o + (j + 1) = o + 1 + j by omega] at this; exact this

/-- A row of ints of the call's own, as the shelf speaks of it. -/
theorem holds_of {w : World} {F S : Nat → Prop} {b o : Nat} {cs : Array Value} {T : TypeId} {xs : List Int} (hh : w.heap[b]? = some (.cells cs T (0, 0))) (hrow : OwnRow w true F S b 1 o (xs.map int)) : Holds (Value.int .i64) w b o xs.toArray := fun j hj => by
  have hj' : j < xs.length := by simpa using hj
  refine ⟨?_, frozen_cells hh _⟩
  rw [ownRow_ints hrow j xs[j] (List.getElem?_eq_getElem hj')]
  rw [getElem!_pos _ j hj]
  simp

theorem putRow_heap {w : World} {q b o : Nat} {d : Array Int} {k : Nat} (h : k ≠ b) : (putRow (Value.int .i64) (Sort.ahead w q) b o d).heap[k]? = w.heap[k]? := by
  simp only [putRow, mapBlock, Sort.ahead, Array.getElem?_modify]
  rw [if_neg (fun e => h e.symm)]
theorem putRow_own {w : World} {q b o : Nat} {d : Array Int} {cs : Array Value} {T : TypeId} (h : w.heap[b]? = some (.cells cs T (0, 0))) : (putRow (Value.int .i64) (Sort.ahead w q) b o d).heap[b]? = some (.cells (Go.Sort.putCells (Value.int .i64) o d cs) T (0, 0)) := by
  simp only [putRow, mapBlock, Sort.ahead, Array.getElem?_modify, if_true, h, Option.map_some, onCells]

/-- A row of ints that a function of the shelf has put anew: it is the call's own as before. -/
theorem put_mov {w : World} {S : Nat → Prop} {b o cap q : Nat} {cs : Array Value} {T : TypeId} {xs ys zs : List Int} (hSb : S b) (hSl : ∀ b, S b → b < w.heap.size) (hh : w.heap[b]? = some (.cells cs T (0, 0))) (hfit : o + cap * 1 ≤ cs.size) (hH : Holds (Value.int .i64) w b o xs.toArray)
    (hl : ys.length + zs.length = xs.length) (hcap : xs.length ≤ cap) (hcm : cap ≤ maxLen) : ∃ (S' : Nat → Prop), Frm S w (putRow (Value.int .i64) (Sort.ahead w q) b o (ys ++ zs).toArray) ∧ (∀ c, S' c → (S c ∨ w.heap.size ≤ c) ∧ c < (putRow (Value.int .i64) (Sort.ahead w q) b o (ys ++ zs).toArray).heap.size) ∧
      Own (putRow (Value.int .i64) (Sort.ahead w q) b o (ys ++ zs).toArray) true (fun _ => False) S' (.sl false 1 (ys.map int)) (.slice (some ⟨b, o, none⟩) ys.length cap) := by
  have hsz : (putRow (Value.int .i64) (Sort.ahead w q) b o (ys ++ zs).toArray).heap.size = w.heap.size := by rw [size_putRow]; rfl
  have hH' : Holds (Value.int .i64) (Sort.ahead w q) b o xs.toArray := holds_ahead _ w q b o _ hH
  have hH2 := holds_putRow (Value.int .i64) (Sort.ahead w q) b o xs.toArray (ys ++ zs).toArray hH' (by simp; omega)
  refine ⟨S, ⟨rfl, rfl, rfl, by rw [hsz]; exact Nat.le_refl _, fun k _ hk => putRow_heap fun e => hk (e ▸ hSb)⟩, fun c hc => ⟨.inl hc, by rw [hsz]; exact hSl c hc⟩, ?_⟩
  refine Excl.own (S := S) ⟨_, _, cap, rfl, by simp, by omega, hcm, .inr ⟨b, o, _, T, rfl, rfl, hSb, putRow_own hh, by simp only [Go.Sort.putCells, Array.size_mapIdx]; exact hfit, ownRow_mk fun j x hj => ?_⟩⟩
  have hjl := (List.getElem?_eq_some_iff.1 hj).1
  have := (hH2 j (by simp; omega)).1
  rw [this, getElem!_pos _ j (by simp; omega)]
  simp only [List.getElem_toArray]
  rw [List.getElem_append_left hjl]
  rw [(List.getElem?_eq_some_iff.1 hj).2]

noncomputable def mDel : List AV → Option (List Nat × AV) := mkV (fun p => p.2.1 ≤ p.2.2 ∧ p.2.2 ≤ p.1.length) (fun (p : List Int × Nat × Nat) => [ints false p.1, int p.2.1, int p.2.2]) [0] (fun p => ints false (p.1.take p.2.1 ++ p.1.drop p.2.2))
theorem mDel_at (xs : List Int) (i j : Nat) (h : i ≤ j ∧ j ≤ xs.length) : mDel [.sl false 1 (xs.map int), .v (.int .i64 i), .v (.int .i64 j)] = some ([0], .sl false 1 ((xs.take i ++ xs.drop j).map int)) :=
  mkV_eq (enc := fun (p : List Int × Nat × Nat) => [ints false p.1, int p.2.1, int p.2.2]) (x := (xs, i, j)) (by rintro ⟨a, b, c⟩ ⟨d, e, f⟩ h; simp [ints, int, map_int_inj] at h; obtain ⟨rfl, h1, h2⟩ := h; simp only; rw [show b = e by omega, show c = f by omega]) h

end Go.Proofs.YtlkgppincgpfjaaDoor.Ax

/-
  Contracts: slices.DeleteFunc over ints: the row is handed over, what is kept comes back. No condition.
-/
namespace Go.Proofs
open Go.Shelf
def Tryd.laysDelF_ren : Go.Shelf.Ren := ⟨fun | 10 => 80 | 6 => 114 | n => n, fun | 22 => 44 | 23 => 3 | 25 => 78 | 3 => 3 | 4 => 4 | 0 => 0 | n => n, fun | n => n⟩
theorem Tryd.laysDelF : Go.Proofs.SlLaysH.n10 Tryd.prog Tryd.laysDelF_ren := {
  mixed := by kernel_rfl
  f6 := ⟨Tryd.f114.name, by decide, Tryd.func114.trans (congrArg some (by kernel_rfl))⟩
  f10 := ⟨Tryd.f80.name, by decide, Tryd.func80.trans (congrArg some (by kernel_rfl))⟩
  t0 := Tryd.underlying0
  a0 := Tryd.isAgg0
  z0 := Tryd.sizeOf0
  v0 := Tryd.zeroValue0
  t3 := Tryd.underlying3
  a3 := Tryd.isAgg3
  z3 := Tryd.sizeOf3
  v3 := Tryd.zeroValue3
  t4 := Tryd.underlying4
  a4 := Tryd.isAgg4
  z4 := Tryd.sizeOf4
  v4 := Tryd.zeroValue4
  t22 := Tryd.underlying44
  a22 := Tryd.isAgg44
  z22 := Tryd.sizeOf44
  v22 := Tryd.zeroValue44
  a23 := Tryd.isAgg3
  z23 := Tryd.sizeOf3
  t25 := Tryd.underlying78
  a25 := Tryd.isAgg78
  z25 := Tryd.sizeOf78
  v25 := Tryd.zeroValue78 }
end Go.Proofs
namespace Go.Proofs.YtlkgppincgpfjaaDoor.Ax
open Go Go.RowKit Go.Sort
set_option linter.unusedSimpArgs false

/-- What a closure is asked: it says p x wherever its captured values read so. -/
def SaysOf (g : FuncId) (caps : List AV) (p : Int → Bool) : Prop :=
  ∀ (w : World) (F : Nat → Prop) (cv : Array Value) (x : Int), (∀ b, F b → b < w.heap.size) → RepL w F caps cv.toList → FnGives Tryd.prog g cv #[.int .i64 x] (.bool (p x)) w

theorem delF_ok {g : FuncId} {caps : List AV} (p : Int → Bool) (eg : ∀ args w, (callFunc g args).run Tryd.prog w = .ok (.enter g args) w) (hg : SaysOf g caps p) (xs : List Int) :
    MovOk Tryd.prog 80 [ints false xs, .fn g caps] [0] (ints false (xs.filter fun x => !p x)) := by
  refine ⟨⟨_, Tryd.func80, by kernel_rfl, by kernel_rfl⟩, fun w F S vals hF hS hlen hargs hown => ?_⟩
  have h1 := hargs 1 _ (by simp) rfl
  obtain ⟨y1, e1, h1⟩ := h1
  simp only [Rep] at h1
  obtain ⟨cv, rfl, hcv⟩ := h1
  simp only [List.map_cons, List.map_nil, OwnL, List.getD_cons_zero] at hown
  obtain ⟨y0, ys0, S1, S2, e0, hS1, _, _, hown, _⟩ := hown
  have e0' : vals.getD 0 undef = y0 := by
    have := congrArg (fun l : List Value => l.head?) e0
    simpa using this
  obtain ⟨ad, len, cap, hy, l1, l2, l3, l4⟩ := Excl.of_own hown
  rcases l4 with ⟨_, hnl, _⟩ | ⟨b, o, cs, T, rfl, _, hb, hh, hfit, hrow⟩
  · simp at hnl
  have hlx : len = xs.length := by simpa using l1
  subst hlx
  have hvals : vals = #[.slice (some ⟨b, o, none⟩) xs.toArray.size cap, .func (.func g) #[] cv] := by
    apply Array.ext'
    have hsz : vals.toList.length = 2 := by simpa using hlen
    match hv : vals.toList, hsz with
    | [a0, a1], _ =>
      have g0 : vals[0]? = some a0 := by rw [← Array.getElem?_toList, hv]; rfl
      have g1 : vals[1]? = some a1 := by rw [← Array.getElem?_toList, hv]; rfl
      rw [g1] at e1; obtain rfl := Option.some.inj e1
      rw [Array.getD_eq_getD_getElem?, g0] at e0'
      simp only [Option.getD_some] at e0'
      rw [e0', hy]; simp
  subst hvals
  have hH := holds_of hh hrow
  have hSb := hS b (hS1 b hb)
  have hFl := hF.1
  have hp : PredAt Tryd.prog g cv (Value.int .i64) p w := fun W x hbl =>
    hg W F cv x (fun c hc => Nat.lt_of_lt_of_le (hFl c hc) hbl.size) (RepL.agree (fun _ h => h) (fun c hc => hbl.block c (hFl c hc)) _ _ hcv)
  have hpo : PredOver Tryd.prog g cv (Value.int .i64) p b o xs.toArray.size w := fun n os dk x _ =>
    hg _ F cv x (fun c hc => by
        have := hFl c hc
        have e : (putRow (Value.int .i64) (Sort.ahead w n) b o dk).heap.size = w.heap.size := by rw [size_putRow]; rfl
        show c < ((putRow (Value.int .i64) (Sort.ahead w n) b o dk).heap ++ os).size
        rw [Array.size_append]; omega)
      (RepL.agree (fun _ h => h) (fun c hc => by
        have e : (putRow (Value.int .i64) (Sort.ahead w n) b o dk).heap.size = w.heap.size := by rw [size_putRow]; rfl
        have hcb : c ≠ b := fun e => hSb.2 (e ▸ hc)
        rw [show (sortWorld (Value.int .i64) w b o n dk os).heap[c]? = (putRow (Value.int .i64) (Sort.ahead w n) b o dk).heap[c]? from heap_grow_old _ os (by rw [e]; exact hFl c hc)]
        exact putRow_heap hcb) _ _ hcv)
  refine (AnyE.slices_DeleteFunc Tryd.laysDelF (Value.int .i64) (fun _ => rfl) p g cv eg 0 (fun w => by kernel_rfl) b o cap xs.toArray w hp hpo hH (by have := Nat.le_trans l2 l3; simpa [maxLen] using this) (by simpa using l2)).mono fun e w' h => ?_
  obtain ⟨rfl, q, rfl⟩ := h
  have hl : (xs.filter fun x => !p x).length ≤ xs.length := List.length_filter_le _ _
  have := put_mov (S := S) (q := q) (ys := xs.filter fun x => !p x) (zs := List.replicate (xs.toArray.size - (xs.filter fun x => !p x).length) 0) (hS1 b hb) (fun c hc => (hS c hc).1) hh (by simpa using hfit) hH (by simp; omega) (by simpa using l2) l3
  obtain ⟨S', k1, k2, k3⟩ := this
  exact ⟨_, S', rfl, k1, k2, k3⟩

end Go.Proofs.YtlkgppincgpfjaaDoor.Ax

/-
  Contract: indices (the program). No condition.
-/
namespace Go.Proofs.YtlkgppincgpfjaaDoor.Ax
open Go Go.RowKit
set_option linter.unusedSimpArgs false

/-- 0, 1, .. -/
def idx (n : Nat) : List Int := (List.range n).map fun (i : Nat) => (i : Int)
def idxTo (n k : Nat) : List Int := idx k ++ List.replicate (n - k) 0
theorem idx_len {n : Nat} : (idx n).length = n := by simp [idx]
theorem idxTo_len {n k : Nat} (h : k ≤ n) : (idxTo n k).length = n := by simp [idxTo, idx_len]; omega
theorem idxTo_set {n k : Nat} (h : k < n) : (idxTo n k).set k (k : Int) = idxTo n (k + 1) := by
  unfold idxTo
  rw [List.set_append_right _ _ (by simp [idx_len]), idx_len, Nat.sub_self, show n - k = (n - (k + 1)) + 1 by omega, List.replicate_succ, List.set_cons_zero]
  simp [idx, List.range_succ]
theorem idxTo_all {n : Nat} : idxTo n n = idx n := by simp [idxTo]

noncomputable def mIdx : List AV → Option AV := mk (fun p => p ≤ 1000) (fun (p : Nat) => [int (p : Int)]) (fun p => ints false (idx p))
theorem mIdx_at (n : Nat) (h : n ≤ 1000) : mIdx [.v (.int .i64 (n : Int))] = some (.sl false 1 ((idx n).map int)) :=
  mk_eq (enc := fun (p : Nat) => [int (p : Int)]) (x := n) (by intro a b h; simp [int] at h; exact (by omega : a = b) ▸ rfl) h

set_option maxHeartbeats 1000000 in
theorem indices_ok : FnOk Tryd.prog 77 mIdx := by
  refine mk_ok fun n hn => ?_
  have hG : FnsOk Tryd.prog [] := .nil
  refine callOk_awp (ctx_ok eqOk hG) mixed (live := [true, false, true, true, true, false, false, false, true, true, true]) (dt := []) Tryd.func77 rfl (by kernel_rfl) (by kernel_rfl) fun w0 hlens => ?_
  clear hlens
  have h1 : 8 * n ≤ 281474976710656 := by omega
  have h2 : n ≤ 4611686018427387904 := by omega
  simp (config := {contextual := true}) [Tryd.f77, List.range, List.range.loop, ints, intss, int, bool, row, frac, fracs, ← List.map_take, ← List.map_drop, h1, h2]
  refine awp_range (live := [true, false, true, true, true, false, false, false, true, true, true]) (ctx_ok eqOk hG) mixed [false, false, false, true, false, false, false, false, true, true] (n) (fun k => True) (fun k => ⟨[.junk, .junk, .junk, .ref 0 [] 0 n, .junk, .junk, .junk, .junk, int n, int k, .junk, .junk, .junk, .junk, .junk, .junk, .junk, .junk], [⟨true, .sl false 1 ((idxTo n k).map int)⟩]⟩) ?_ (by simp [sub, slotsLe, clean, keep, refsL, refs, once, place, renL, ren, List.replicate, int, bool, idxTo, idx]) ?_ ?_ ?_
  · omega
  · trivial
  · intro k hk _ hwk
    have hl := idxTo_len (n := n) (k := k) (by omega)
    have hs := idxTo_set hk
    have hl2 := idxTo_len (n := n) (k := k + 1) (by omega)
    have hs' : ((idxTo n k).map int).set k (.v (.int .i64 (k : Int))) = (idxTo n (k + 1)).map int := by rw [← hs, List.map_set]; rfl
    simp (config := {contextual := true}) [List.range, List.range.loop, ints, intss, int, bool, row, frac, fracs, ← List.map_take, ← List.map_drop, hk, hwk, hl, hl2, hs', -List.map_set]
    done
  · intro _
    have hl := idxTo_len (n := n) (k := n) (by omega)
    rw [idxTo_all] at hl
    simp (config := {contextual := true}) [List.range, List.range.loop, ints, intss, int, bool, row, frac, fracs, ← List.map_take, ← List.map_drop, hl, idxTo_all]
    done

end Go.Proofs.YtlkgppincgpfjaaDoor.Ax
