/-
  Contracts: copies and rows one behind the other of fractions, whether anything is left, the least chance of an exchange. No condition.
-/
import Derived.Test.YtkfmhpgnhkdebaaGreatDoorCG19
import Derived.Test.YtkfmhpgnhkdebaaGreatDoorCG2
import Derived.Test.YtkfmhpgnhkdebaaGreatDoorCB2
import Derived.Test.YtkfmhpgnhkdebaaGreatDoorCG16
import Derived.Test.YtkfmhpgnhkdebaaGreatDoorCB1
import Derived.Test.YtkfmhpgnhkdebaaGreatDoorCG17
namespace Go.Proofs.YtkfmhpgnhkdebaaGreatDoor.Ax
open Go Go.RowKit
set_option linter.unusedSimpArgs false
noncomputable def mCloneF : List AV → Option AV := mk (fun p => p.length ≤ 1000000) (fun (p : List (Int × Int)) => [fracs false p]) (fun p => fracs false p)
theorem mCloneF_at (xs : List (Int × Int)) (h : xs.length ≤ 1000000) : mCloneF [.sl false 2 (xs.map frac)] = some (.sl false 2 (xs.map frac)) :=
  mk_eq (enc := fun (p : List (Int × Int)) => [fracs false p]) (f := fun p => fracs false p) (x := xs) (by rintro a b h; simpa using h) h
set_option maxHeartbeats 1000000 in
theorem cloneF_ok : FnOk Tryz.prog 178 mCloneF := by
  refine mk_ok fun xs hn => ?_
  have hG : FnsOk Tryz.prog [] := .nil
  refine callOk_awp (ctx_ok eqOk hG) mixed (live := [true, false, true, false, true]) (dt := []) Tryz.func178 rfl (by kernel_rfl) (by kernel_rfl) fun w0 hlens => ?_
  clear hlens
  have h1 : xs.length ≤ 4611686018427387904 := by omega
  have h2 : xs.length * 16 ≤ 140737488355328 := by omega
  simp (config := {contextual := true}) [Tryz.f178, List.range, List.range.loop, ints, intss, int, bool, row, frac, fracs, ← List.map_take, ← List.map_drop, h1, h2]
noncomputable def mGrowF : List AV → Option AV := mk (fun p => 1 ≤ p ∧ p ≤ 1000000) (fun (p : Nat) => [.sl true 1 [], int (p : Int)]) (fun _ => .sl false 2 [])
theorem mGrowF_at (n : Nat) (h : 1 ≤ n ∧ n ≤ 1000000) : mGrowF [.sl true 1 [], .v (.int .i64 (n : Int))] = some (.sl false 2 []) :=
  mk_eq (enc := fun (p : Nat) => [.sl true 1 [], int (p : Int)]) (f := fun _ => .sl false 2 []) (x := n) (fun _ _ _ => rfl) h
theorem callOk_nilArg2 {P : Program} {f : FuncId} {a b : Nat} {x r : AV} (h : CallOk P f [.sl true a [], x] r) : CallOk P f [.sl true b [], x] r :=
  ⟨h.1, fun w F vals hF hv => h.2 w F vals hF (by simpa [RepL, Rep] using hv)⟩
theorem growF_ok : FnOk Tryz.prog 233 mGrowF := by
  refine mk_ok fun n hn => ?_
  refine callOk_nilArg2 (a := 2) ?_
  have hG : FnsOk Tryz.prog [] := .nil
  refine callOk_awp (ctx_ok eqOk hG) mixed (live := [true, true, false, false, true, false, true, false, false, false, false, false, false, false, false, false, true]) (dt := []) Tryz.func233 rfl (by kernel_rfl) (by kernel_rfl) fun w0 hlens => ?_
  clear hlens
  have h1 : ¬ ((n : Int) < 0) := by omega
  have h2 : IntKind.i64.wrap (n : Int) = (n : Int) := wrapI (by omega) (by omega)
  have hz : IntKind.i64.wrap 0 = 0 := by decide
  have h3 : 0 < n := by omega
  have h0 : ¬ n = 0 := by omega
  have h4 : n ≤ 4611686018427387904 ∧ n * 16 ≤ 140737488355328 := by omega
  have h0' : ¬ (0 = n) := by omega
  simp (config := {contextual := true}) [Tryz.f233, List.range, List.range.loop, ints, intss, int, bool, row, frac, fracs, ← List.map_take, ← List.map_drop, h0, h0', h1, h2, hz, h3, h4]
def catF (xss : List (Bool × List (Int × Int))) : List (Int × Int) := xss.flatMap (·.2)
def catFTo (xss : List (Bool × List (Int × Int))) (k : Nat) : List (Int × Int) := (xss.take k).flatMap (·.2)
theorem catFTo_succ {xss : List (Bool × List (Int × Int))} {k : Nat} (h : k < xss.length) : catFTo xss (k + 1) = catFTo xss k ++ xss[k].2 := by
  unfold catFTo
  rw [List.take_succ_eq_append_getElem h, List.flatMap_append]; simp
theorem catFTo_all {xss : List (Bool × List (Int × Int))} : catFTo xss xss.length = catF xss := by simp [catFTo, catF]
theorem catFTo_le {xss : List (Bool × List (Int × Int))} : ∀ {k : Nat}, (catFTo xss k).length ≤ (catF xss).length := by
  intro k
  unfold catFTo catF
  conv => rhs; rw [← List.take_append_drop k xss, List.flatMap_append]
  simp
noncomputable def mConcatF : List AV → Option AV := mk (fun p => p.2.length ≤ 1000 ∧ 1 ≤ (catF p.2).length ∧ (catF p.2).length ≤ 1000000) (fun (p : Bool × List (Bool × List (Int × Int))) => [fracss p.1 p.2]) (fun p => fracs false (catF p.2))
theorem mConcatF_at (nl : Bool) (xss : List (Bool × List (Int × Int))) (h : xss.length ≤ 1000 ∧ 1 ≤ (catF xss).length ∧ (catF xss).length ≤ 1000000) : mConcatF [.sl nl 1 (xss.map frow)] = some (.sl false 2 ((catF xss).map frac)) :=
  mk_eq (enc := fun (p : Bool × List (Bool × List (Int × Int))) => [fracss p.1 p.2]) (f := fun p => fracs false (catF p.2)) (x := (nl, xss)) (by rintro ⟨a, b⟩ ⟨c, d⟩ h; simp [fracss, map_frow_inj] at h; simp [h]) h
set_option maxHeartbeats 1000000 in
theorem concatF_ok : FnOk Tryz.prog 179 mConcatF := by
  refine mk_ok fun ⟨nl, xss⟩ ⟨hl, h1, ht⟩ => ?_
  simp only at hl h1 ht
  have hc0 : catFTo xss 0 = [] := rfl
  have hG : FnsOk Tryz.prog [(233, mGrowF)] := (.cons growF_ok .nil)
  refine callOk_awp (ctx_ok eqOk hG) mixed (live := [true, false, true, true, false, true, true, false, true, true, true, true, true, false, false, false, false, false, false, false, true, false, false, false, false, true, true, true, true]) (dt := []) Tryz.func179 rfl (by kernel_rfl) (by kernel_rfl) fun w0 hlens => ?_
  clear hlens
  simp (config := {contextual := true}) [Tryz.f179, List.range, List.range.loop, ints, intss, int, bool, row, frac, fracs, ← List.map_take, ← List.map_drop, fracss, frow]
  refine awp_range (live := [true, false, true, true, false, true, true, false, true, true, true, true, true, false, false, false, false, false, false, false, true, false, false, false, false, true, true, true, true]) (ctx_ok eqOk hG) mixed [true, false, false, true, false, false, false, false, false, true, true, true] (xss.length) (fun k => True) (fun k => ⟨[fracss nl xss, .junk, .junk, int ((catFTo xss k).length : Int), .junk, .junk, .junk, .junk, .junk, fracss nl xss, int xss.length, int k, .junk, .junk, .junk, .junk, .junk, .junk, .junk, .junk, .junk, .junk, .junk, .junk, .junk, .junk, .junk, .junk, .junk, .junk, .junk, .junk, .junk, .junk, .junk, .junk], []⟩) ?_ (by simp [sub, slotsLe, clean, keep, refsL, refs, once, place, renL, ren, List.replicate, int, bool, fracss, frow, hc0]) ?_ ?_ ?_
  · omega
  · trivial
  · intro k hk _ hwk
    have hs := catFTo_succ hk
    have hle := catFTo_le (xss := xss) (k := k + 1)
    rw [hs, List.length_append] at hle
    have hw2 : IntKind.i64.wrap (((catFTo xss k).length : Int) + (xss[k].2.length : Int)) = ((catFTo xss k).length : Int) + (xss[k].2.length : Int) := wrapI (by omega) (by omega)
    have hno : ¬ (((catFTo xss k).length : Int) + (xss[k].2.length : Int) < 0) := by omega
    simp (config := {contextual := true}) [List.range, List.range.loop, ints, intss, int, bool, row, frac, fracs, ← List.map_take, ← List.map_drop, fracss, frow, hk, hwk, hs, hw2, hno]
  · intro _
    rw [catFTo_all]
    have hg := mGrowF_at _ ⟨h1, ht⟩
    simp (config := {contextual := true}) [List.range, List.range.loop, ints, intss, int, bool, row, frac, fracs, ← List.map_take, ← List.map_drop, fracss, frow, hg]
    refine awp_range (live := [true, false, true, true, false, true, true, false, true, true, true, true, true, false, false, false, false, false, false, false, true, false, false, false, false, true, true, true, true]) (ctx_ok eqOk hG) mixed [false, false, false, false, false, false, true, false, false, false, false, false, false, false, false, false, false, false, false, false, false, false, false, false, false, true, true, true] (xss.length) (fun k => True) (fun k => ⟨[.junk, .junk, .junk, .junk, .junk, .junk, .ref 0 [] 0 (catFTo xss k).length, .junk, .junk, .junk, .junk, .junk, .junk, .junk, .junk, .junk, .junk, .junk, .junk, .junk, .junk, .junk, .junk, .junk, .junk, fracss nl xss, int xss.length, int k, .junk, .junk, .junk, .junk, .junk, .junk, .junk, .junk], [⟨true, .sl false 2 ((catFTo xss k).map frac)⟩]⟩) ?_ (by simp [sub, slotsLe, clean, keep, refsL, refs, once, place, renL, ren, List.replicate, int, bool, fracss, frow, hc0]) ?_ ?_ ?_
    · omega
    · trivial
    · intro k hk _ hwk
      have hs := catFTo_succ hk
      have hle := catFTo_le (xss := xss) (k := k + 1)
      rw [hs, List.length_append] at hle
      have hb : (catFTo xss k).length + xss[k].2.length ≤ 4611686018427387904 ∧ ((catFTo xss k).length + xss[k].2.length) * 16 ≤ 140737488355328 := by omega
      simp (config := {contextual := true}) [List.range, List.range.loop, ints, intss, int, bool, row, frac, fracs, ← List.map_take, ← List.map_drop, fracss, frow, hk, hwk, hs, hb]
    · intro _
      simp (config := {contextual := true}) [List.range, List.range.loop, ints, intss, int, bool, row, frac, fracs, ← List.map_take, ← List.map_drop, fracss, frow, catFTo_all]
theorem taken1 (f : Int × Int) : CallOk Tryz.prog 180 [frac f] (.v (.bool (decide (0 < f.1)))) := by
  obtain ⟨t, b⟩ := f
  have hG : FnsOk Tryz.prog [] := .nil
  refine callOk_awp (ctx_ok eqOk hG) mixed (live := [true, true, true]) (dt := []) Tryz.func180 rfl (by kernel_rfl) (by kernel_rfl) fun w0 hlens => ?_
  clear hlens
  simp (config := {contextual := true}) [Tryz.f180, List.range, List.range.loop, ints, intss, int, bool, row, frac, fracs, ← List.map_take, ← List.map_drop, frac]
noncomputable def mTaken : List AV → Option AV := mk (fun p => p.2.length ≤ 1000 ∧ 1 ≤ (catF p.2).length ∧ (catF p.2).length ≤ 1000000) (fun (p : Bool × Tab) => [fracss p.1 p.2]) (fun p => bool (takB p.2))
theorem mTaken_at (nl : Bool) (m : Tab) (h : m.length ≤ 1000 ∧ 1 ≤ (catF m).length ∧ (catF m).length ≤ 1000000) : mTaken [.sl nl 1 (m.map frow)] = some (.v (.bool (takB m))) :=
  mk_eq (enc := fun (p : Bool × Tab) => [fracss p.1 p.2]) (f := fun p => bool (takB p.2)) (x := (nl, m)) (by rintro ⟨a, b⟩ ⟨c, d⟩ h; simp [fracss, map_frow_inj] at h; simp [h]) h
set_option maxHeartbeats 1000000 in
theorem isTaken_ok : FnOk Tryz.prog 105 mTaken := by
  refine mk_ok fun ⟨nl, m⟩ hn => ?_
  simp only at hn
  have hct : CallOk Tryz.prog 100 [fracs false (catF m), .fn 180 []] (bool ((catF m).any fun f => decide (0 < f.1))) :=
    containsFracs pure_nil (g := 180) (fun f => decide (0 < f.1)) _ (catF m) (fun x _ => taken1 x)
  obtain ⟨mc, hmm, hma⟩ := as_model hct
  simp only [fracs] at hma
  have hcc := mConcatF_at nl m hn
  have htk : takB m = !((catF m).any fun f => decide (0 < f.1)) := rfl
  simp only [htk]
  generalize (catF m).any (fun f => decide (0 < f.1)) = r at *
  generalize catF m = c at *
  have hG : FnsOk Tryz.prog [(179, mConcatF), (100, mc)] := (.cons concatF_ok (.cons hmm .nil))
  refine callOk_awp (ctx_ok eqOk hG) mixed (live := [true, false, true]) (dt := []) Tryz.func105 rfl (by kernel_rfl) (by kernel_rfl) fun w0 hlens => ?_
  clear hlens
  simp (config := {contextual := true}) [Tryz.f105, List.range, List.range.loop, ints, intss, int, bool, row, frac, fracs, ← List.map_take, ← List.map_drop, fracss, hcc, hma]
structure LeastP (m : Tab) (l : List Int) : Prop where
  n : 1 ≤ m.length ∧ m.length ≤ 1000
  ln : l.length = m.length
  at' : ∀ i (hi : i < m.length), ∃ x : Nat, at0 l i = x ∧ ∃ hx : x < m[i].2.length, fracOk m[i].2[x] = true
theorem LeastP.ok {m : Tab} {l : List Int} (h : LeastP m l) : ∀ {k : Nat}, k ≤ m.length → fracOk (lstTo m l k) = true
  | 0, _ => by
    obtain ⟨x, e, hx, ho⟩ := h.at' 0 (by have := h.n; omega)
    rw [lstTo, e, Int.toNat_natCast, cel0_at (by have := h.n; omega) hx]; exact ho
  | k + 1, hk => by
    obtain ⟨x, e, hx, ho⟩ := h.at' k (by omega)
    have ih := h.ok (k := k) (by omega)
    rw [lstTo, e, Int.toNat_natCast, cel0_at (by omega) hx]
    unfold lesF; split
    · exact ho
    · exact ih
noncomputable def mLeast : List AV → Option AV := mk (fun p => LeastP p.2.1 p.2.2.2) (fun (p : Bool × Tab × Bool × List Int) => [fracss p.1 p.2.1, ints p.2.2.1 p.2.2.2]) (fun p => frac (lstF p.2.1 p.2.2.2))
theorem mLeast_at (nl : Bool) (m : Tab) (nl' : Bool) (l : List Int) (h : LeastP m l) : mLeast [.sl nl 1 (m.map frow), .sl nl' 1 (l.map int)] = some (.agg [.v (.int .i64 (lstF m l).1), .v (.int .i64 (lstF m l).2)]) :=
  mk_eq (enc := fun (p : Bool × Tab × Bool × List Int) => [fracss p.1 p.2.1, ints p.2.2.1 p.2.2.2]) (f := fun p => frac (lstF p.2.1 p.2.2.2)) (x := (nl, m, nl', l)) (by rintro ⟨a, b, c, d⟩ ⟨a', b', c', d'⟩ h; simp [fracss, ints, map_frow_inj, map_int_inj] at h; simp [h]) h
set_option maxRecDepth 4000 in
set_option maxHeartbeats 2000000 in
theorem least_ok : FnOk Tryz.prog 108 mLeast := by
  refine mk_ok fun ⟨nl, m, nl', l⟩ h => ?_
  simp only at h
  have hn := h.n
  have hln := h.ln
  obtain ⟨x0, e0, hx0, _⟩ := h.at' 0 (by omega)
  have hl0 : l[0]'(by omega) = (x0 : Int) := by rw [← at0_eq (by omega)]; exact e0
  have h0 : lstTo m l 0 = (m[0]'(by omega)).2[x0] := by rw [lstTo, e0, Int.toNat_natCast, cel0_at (by omega) hx0]
  have hG : FnsOk Tryz.prog [(113, mLessF)] := (.cons less_ok .nil)
  refine callOk_awp (ctx_ok eqOk hG) mixed (live := [true, true, false, false, true, true, true, true, false, false, false, false, false, false, false, false, true, true, true, true, false, false, false, false, false, false, false, false, false, false, false, true]) (dt := [(1, ⟨[], [0, 0, 0, 0, 0, 0, 0, 0, 1], []⟩), (5, ⟨[], [], []⟩)]) Tryz.func108 rfl (by kernel_rfl) (by kernel_rfl) fun w0 hlens => ?_
  clear hlens
  have q0 : 0 < m.length := by omega
  have q1 : 0 < l.length := by omega
  simp (config := {contextual := true}) [Tryz.f108, List.range, List.range.loop, ints, intss, int, bool, row, frac, fracs, ← List.map_take, ← List.map_drop, fracss, frow, frac, hl0, hx0, q0, q1]
  refine awp_range (live := [true, true, false, false, true, true, true, true, false, false, false, false, false, false, false, false, true, true, true, true, false, false, false, false, false, false, false, false, false, false, false, true]) (ctx_ok eqOk hG) mixed [true, false, false, false, true, true, false, false, false, false, false, false, false, false, false, false, true, true, true] (l.length) (fun k => True) (fun k => ⟨[fracss nl m, .junk, .junk, .junk, .ptr 0 [] 0 0, .ptr 1 [] 0 0, .junk, .junk, .junk, .junk, .junk, .junk, .junk, .junk, .junk, .junk, ints nl' l, int l.length, int k, .junk, .junk, .junk, .junk, .junk, .junk, .junk, .junk, .junk, .junk, .junk, .junk, .junk, .junk, .junk, .junk, .junk, .junk, .junk, .junk, .junk, .junk], [⟨true, .sl false 2 [frac (0, 0)]⟩, ⟨true, .sl false 2 [frac (lstTo m l k)]⟩]⟩) ?_ (by simp [sub, slotsLe, clean, keep, refsL, refs, once, place, renL, ren, List.replicate, int, bool, fracss, frow, ints, frac, h0]) ?_ ?_ ?_
  · omega
  · trivial
  · intro k hk _ hwk
    have hkm : k < m.length := by omega
    obtain ⟨x, e, hx, ho⟩ := h.at' k hkm
    have hoa := h.ok (k := k) (by omega)
    have hlk : l[k] = (x : Int) := by rw [← at0_eq hk]; exact e
    have hs : lstTo m l (k + 1) = lesF (lstTo m l k) m[k].2[x] := by rw [lstTo, e, Int.toNat_natCast, cel0_at hkm hx]
    rw [hs]
    generalize lstTo m l k = a at *
    generalize hc : m[k].2[x] = c at *
    have hle := mLessF_at c.1 c.2 a.1 a.2
    rw [show ((c.1, c.2) : Int × Int) = c from rfl, show ((a.1, a.2) : Int × Int) = a from rfl] at hle
    unfold lesF
    by_cases hcmp : cmpF c a = -1
    · rw [decide_eq_true hcmp] at hle
      rw [if_pos (by omega)]
      simp (config := {contextual := true}) [List.range, List.range.loop, ints, intss, int, bool, row, frac, fracs, ← List.map_take, ← List.map_drop, fracss, frow, frac, hk, hkm, hwk, hlk, hx, hc, hle]
      done
    · rw [decide_eq_false hcmp] at hle
      have hge : ¬ cmpF c a < 0 := fun hlt => hcmp ((cmpF_neg ho hoa).1 hlt)
      rw [if_neg hge]
      simp (config := {contextual := true}) [List.range, List.range.loop, ints, intss, int, bool, row, frac, fracs, ← List.map_take, ← List.map_drop, fracss, frow, frac, hk, hkm, hwk, hlk, hx, hc, hle]
      done
  · intro _
    have : lstTo m l l.length = lstF m l := by unfold lstF; rw [hln]
    rw [this]
    simp (config := {contextual := true}) [List.range, List.range.loop, ints, intss, int, bool, row, frac, fracs, ← List.map_take, ← List.map_drop, fracss, ints, frac]
    done
def capT (m : Tab) : List AV := [.fp (fracss false m) 0]
theorem capT_pure {m : Tab} : Pure (capT m) := ⟨fun _ => rfl, rfl, fun _ => rfl⟩
theorem split1 {m : Tab} {s : Rat} (h : TabOk m s) (r : Bool × List Int) (hr : rankB m.length r.2 = true) : CallOk Tryz.prog 107 (row r :: capT m) (.v (.bool (posL m r.2))) := by
  have hP : LeastP m r.2 := ⟨⟨h.n1, by have := h.n4; omega⟩, by have := (rank_facts hr).2.2.1; omega, fun i hi => by
    obtain ⟨x, e, hx⟩ := rk_at hr hi
    exact ⟨x, e, by rw [(h.row i hi).2]; exact hx, by rw [← tab_cel h hi hx]; exact (h.ok i x hi hx).1⟩⟩
  have hl := mLeast_at false m r.1 r.2 hP
  rw [← lst_pos h hr]
  have hG : FnsOk Tryz.prog [(108, mLeast)] := (.cons least_ok .nil)
  refine callOk_awp (ctx_ok eqOk hG) mixed (live := [true, true, false, true]) (dt := []) Tryz.func107 rfl (by kernel_rfl) (by kernel_rfl) fun w0 hlens => ?_
  clear hlens
  simp (config := {contextual := true}) [Tryz.f107, List.range, List.range.loop, ints, intss, int, bool, row, frac, fracs, ← List.map_take, ← List.map_drop, fracss, capT, row, hl]
noncomputable def mIdxT : List AV → Option AV := mk (fun p => ∃ s, TabOk p s) (fun (p : Tab) => [intss false (allRk p.length), .fn 107 (capT p)]) (fun p => int (idxOf (fun o => posL p o.2) (allRk p.length)))
theorem mIdxT_at (m : Tab) (h : ∃ s, TabOk m s) : mIdxT [.sl false 1 ((allRk m.length).map row), .fn 107 [.fp (.sl false 1 (m.map frow)) 0]] = some (.v (.int .i64 (idxOf (fun o => posL m o.2) (allRk m.length)))) := by
  have := mk_eq (pre := fun p : Tab => ∃ s, TabOk p s) (enc := fun (p : Tab) => [intss false (allRk p.length), .fn 107 (capT p)]) (f := fun p => int (idxOf (fun o => posL p o.2) (allRk p.length))) (x := m) (by intro a b h; simp [capT, fracss, map_frow_inj] at h; simp [h]) h
  simp only [intss, capT, fracss, int] at this
  exact this
theorem idxT_ok : FnOk Tryz.prog 106 mIdxT := by
  refine mk_ok fun m ⟨s, hs⟩ => ?_
  exact indexIntss capT_pure (fun o => posL m o.2) false (allRk m.length) fun o ho => split1 hs o (allRk_rk hs.n1 hs.n4 o ho).2
theorem idx_ex {m : Tab} : (exO m = none ∧ idxOf (fun o => posL m o.2) (allRk m.length) = -1) ∨ ∃ (k : Nat) (hk : k < (allRk m.length).length), exO m = some (allRk m.length)[k].2 ∧ idxOf (fun o => posL m o.2) (allRk m.length) = k := by
  unfold exO idxOf
  cases h : (allRk m.length).findIdx? fun o => posL m o.2 with
  | none =>
    left
    have h1 := List.findIdx?_eq_none_iff.1 h
    refine ⟨?_, rfl⟩
    rw [Option.map_eq_none_iff, List.find?_eq_none]
    intro o ho
    simp [h1 o ho]
  | some k =>
    right
    obtain ⟨hk, hp, hlt⟩ := List.findIdx?_eq_some_iff_getElem.1 h
    refine ⟨k, hk, ?_, rfl⟩
    have : (allRk m.length).find? (fun o => posL m o.2) = some (allRk m.length)[k] := List.find?_eq_some_iff_getElem.2 ⟨hp, k, hk, rfl, fun j hj => by simpa using hlt j hj⟩
    rw [this]; rfl
def cpA (k : Nat) : AV := match k with
  | 0 => .sl true 1 []
  | k + 1 => .ref 0 [] 0 (k + 1)
def cpT (l : List AV) (k : Nat) : List Tok := match k with
  | 0 => []
  | _ + 1 => [⟨true, .sl false 1 l⟩]
noncomputable def mCopyL : List AV → Option AV := mk (fun p => 1 ≤ p.2.length ∧ p.2.length ≤ 1000 ∧ ∀ r ∈ p.2, r.1 = false ∧ r.2.length ≤ 1000) (fun (p : Bool × Tab) => [fracss p.1 p.2]) (fun p => fracss false p.2)
theorem mCopyL_at (nl : Bool) (m : Tab) (h : 1 ≤ m.length ∧ m.length ≤ 1000 ∧ ∀ r ∈ m, r.1 = false ∧ r.2.length ≤ 1000) : mCopyL [.sl nl 1 (m.map frow)] = some (.sl false 1 (m.map frow)) :=
  mk_eq (enc := fun (p : Bool × Tab) => [fracss p.1 p.2]) (f := fun p => fracss false p.2) (x := (nl, m)) (by rintro ⟨a, b⟩ ⟨c, d⟩ h; simp [fracss, map_frow_inj] at h; simp [h]) h
set_option maxHeartbeats 2000000 in
theorem copyL_ok : FnOk Tryz.prog 104 mCopyL := by
  refine mk_ok fun ⟨nl, m⟩ ⟨h1, h2, h3⟩ => ?_
  simp only at h1 h2 h3
  have htr : ∀ k (hk : k < m.length), (m.take k).map frow ++ [.sl false 2 (m[k].2.map frac)] = (m.take (k + 1)).map frow := fun k hk => by
    rw [List.take_succ_eq_append_getElem hk, List.map_append]
    simp [frow, (h3 _ (List.getElem_mem hk)).1]
  have hwk1 : IntKind.i64.wrap 1 = 1 := by decide
  have hG : FnsOk Tryz.prog [(178, mCloneF)] := (.cons cloneF_ok .nil)
  refine callOk_awp (ctx_ok eqOk hG) mixed (live := [true, false, true, true, false, true, true, true, true, true]) (dt := []) Tryz.func104 rfl (by kernel_rfl) (by kernel_rfl) fun w0 hlens => ?_
  clear hlens
  simp (config := {contextual := true}) [Tryz.f104, List.range, List.range.loop, ints, intss, int, bool, row, frac, fracs, ← List.map_take, ← List.map_drop, fracss]
  refine awp_range (live := [true, false, true, true, false, true, true, true, true, true]) (ctx_ok eqOk hG) mixed [false, false, false, true, false, false, true, true, true] (m.length) (fun k => True) (fun k => ⟨[.junk, .junk, .junk, cpA k, .junk, .junk, fracss nl m, int m.length, int k, .junk, .junk, .junk, .junk, .junk, .junk, .junk, .junk, .junk, .junk], cpT ((m.take k).map frow) k⟩) ?_ (by simp [sub, slotsLe, clean, keep, refsL, refs, once, place, renL, ren, List.replicate, int, bool, fracss, cpA, cpT]) ?_ ?_ ?_
  · omega
  · trivial
  · intro k hk _ hwk
    have hr := h3 _ (List.getElem_mem hk)
    have hcl := mCloneF_at m[k].2 (by omega)
    have ht := htr k hk
    have hb : k + 1 ≤ 4611686018427387904 ∧ (k + 1) * 24 ≤ 140737488355328 := by omega
    have hl1 : ((m.take k).map frow).length = k := by simp; omega
    have hl2 : ((m.take (k + 1)).map frow).length = k + 1 := by simp; omega
    generalize (m.take (k + 1)).map frow = L' at *
    generalize (m.take k).map frow = L at *
    cases k with
    | zero =>
      obtain rfl : L = [] := List.length_eq_zero_iff.1 hl1
      rw [List.nil_append] at ht
      subst ht
      simp (config := {contextual := true}) [List.range, List.range.loop, ints, intss, int, bool, row, frac, fracs, ← List.map_take, ← List.map_drop, fracss, frow, cpA, cpT, hk, hwk, hwk1, hr, hcl, hb]
      done
    | succ k =>
      simp (config := {contextual := true}) [List.range, List.range.loop, ints, intss, int, bool, row, frac, fracs, ← List.map_take, ← List.map_drop, fracss, frow, cpA, cpT, hk, hwk, hr, hcl, ht, hb, hl1, hl2]
      exact hwk
  · intro _
    rw [List.take_length]
    obtain ⟨k, hk⟩ : ∃ k, m.length = k + 1 := ⟨m.length - 1, by omega⟩
    have hl : (m.map frow).length = k + 1 := by simp [hk]
    rw [hk]
    have htk : List.take (k + 1) (m.map frow) = m.map frow := List.take_of_length_le (by omega)
    generalize m.map frow = L at *
    simp (config := {contextual := true}) [List.range, List.range.loop, ints, intss, int, bool, row, frac, fracs, ← List.map_take, ← List.map_drop, fracss, cpA, cpT, hl, htk]
    done
end Go.Proofs.YtkfmhpgnhkdebaaGreatDoor.Ax
namespace Go.Proofs.YtkfmhpgnhkdebaaGreatDoor.Ax
open Go Go.RowKit
set_option linter.unusedSimpArgs false
end Go.Proofs.YtkfmhpgnhkdebaaGreatDoor.Ax
namespace Go.Proofs.YtkfmhpgnhkdebaaGreatDoor.Ax
open Go Go.RowKit
theorem Own.nil {w : World} {F S : Nat → Prop} {a b : Nat} {y : Value} (h : Own w true F S (.sl true a []) y) : Own w true F S (.sl true b []) y := by
  obtain ⟨a1, l, c, hy, k1, k2, k3, k4⟩ := Excl.of_own h
  refine Excl.own ⟨a1, l, c, hy, k1, k2, k3, ?_⟩
  rcases k4 with k4 | ⟨_, _, _, _, _, k4, _⟩
  · exact .inl k4
  · simp at k4
theorem callOk_nil1 {P : Program} {f : FuncId} {args vs : List AV} {a b : Nat} (h : CallOk P f args (.tup (.sl true a [] :: vs))) : CallOk P f args (.tup (.sl true b [] :: vs)) := by
  refine ⟨h.1, fun w F vals hF hv => (h.2 w F vals hF hv).mono fun e w' he => ?_⟩
  obtain ⟨y, S, h1, h2, h3, h4⟩ := he
  refine ⟨y, S, h1, h2, h3, ?_⟩
  simp only [Own] at h4 ⊢
  obtain ⟨ys, rfl, h4⟩ := h4
  refine ⟨ys, rfl, ?_⟩
  simp only [OwnL] at h4 ⊢
  obtain ⟨y, ys', S1, S2, k1, k2, k3, k4, k5, k6⟩ := h4
  exact ⟨y, ys', S1, S2, k1, k2, k3, k4, Own.nil k5, k6⟩
end Go.Proofs.YtkfmhpgnhkdebaaGreatDoor.Ax
namespace Go.Proofs.YtkfmhpgnhkdebaaGreatDoor.Ax
open Go Go.RowKit
set_option linter.unusedSimpArgs false
theorem whole_su {fs : List (Int × Int)} (h : wholeB fs = true) : suR (fun j => val (fs.getD j (0, 0))) fs.length = 1 := by
  simp only [wholeB, Bool.and_eq_true, decide_eq_true_eq] at h
  obtain ⟨h1, h2⟩ := h
  simp only [List.cons.injEq, and_true] at h2
  unfold sumF at h1 h2
  split at h1
  · simp at h1
  · rename_i hlen
    rw [if_neg hlen] at h2
    have key : ∀ k, k ≤ fs.length → suR (fun j => val (fs.getD j (0, 0))) k = val (sumTo fs k).1 := by
      intro k
      induction k with
      | zero => intro _; simp [suR, sumTo, val]
      | succ k ih =>
        intro hk
        rw [suR, ih (by omega), sumTo_step h1 (by omega)]
    rw [key _ (Nat.le_refl _)]
    have : (sumTo fs fs.length).1 = (1, 1) := Prod.ext h2.1 h2.2
    rw [this]; rfl
theorem lot_tab {m : Tab} (h : lotB m = true) (hf : ∀ r ∈ m, r.1 = false) : TabOk m 1 := by
  simp only [lotB, Bool.and_eq_true, inR, decide_eq_true_eq] at h
  obtain ⟨⟨h1, h2⟩, h3⟩ := h
  have hrow : ∀ i (hi : i < m.length), m[i].2.length = m.length ∧ m[i].2.all partB = true := fun i hi => by
    have := allR_at h2 hi
    simpa only [partRow, getDF hi, Bool.and_eq_true, decide_eq_true_eq] using this
  have hsum : ∀ i (hi : i < m.length), wholeB m[i].2 = true ∧ wholeB (colTo m i m.length) = true := fun i hi => by
    have := allR_at h3 hi
    simpa only [sumRow, getDF hi, Bool.and_eq_true] using this
  refine ⟨by omega, by omega, fun i hi => ⟨hf _ (List.getElem_mem hi), (hrow i hi).1⟩, fun i j hi hj => ?_, fun i hi => ?_, fun j hj => ?_⟩
  · have hjl : j < m[i].2.length := by rw [(hrow i hi).1]; exact hj
    rw [cel0_at hi hjl]
    have := List.all_eq_true.1 (hrow i hi).2 _ (List.getElem_mem hjl)
    simp only [partB, inR, Bool.and_eq_true, decide_eq_true_eq] at this
    exact ⟨this.1, this.2.1⟩
  · have := whole_su (hsum i hi).1
    rw [(hrow i hi).1] at this
    rw [← this]
    refine suR_congr fun j hj => ?_
    unfold vlR cel0
    rw [getDF hi]
  · have := whole_su (hsum j hj).2
    rw [colTo_len (Nat.le_refl _)] at this
    rw [← this]
    refine suR_congr fun i hi => ?_
    unfold vlR cel0
    rw [getDF hi]
    congr 1
    simp [colTo, List.getD_eq_getElem?_getD, hi]
theorem tak_sum {m : Tab} {s : Rat} (h : TabOk m s) (hs : 0 < s) : takB m = false := by
  cases ht : takB m with
  | false => rfl
  | true =>
    exfalso
    simp only [takB, Bool.not_eq_true', List.any_eq_false, decide_eq_true_eq] at ht
    have hz : ∀ j, j < m.length → vlR m 0 j = 0 := fun j hj => by
      have hok := h.ok 0 j h.n1 hj
      have hm : cel0 m 0 j ∈ m.flatMap (·.2) := by
        rw [tab_cel h h.n1 hj]
        exact List.mem_flatMap.2 ⟨m[0]'h.n1, List.getElem_mem _, List.getElem_mem _⟩
      have h0 : ¬ 0 < vlR m 0 j := fun hp => ht _ hm ((val_pos hok.1).1 hp)
      have h1 := val_nn hok.1 hok.2
      unfold vlR at h0 ⊢
      exact Rat.le_antisymm (Rat.not_lt.1 h0) h1
    have hsum := h.rs 0 h.n1
    have hzero : ∀ n, n ≤ m.length → suR (fun j => vlR m 0 j) n = 0 := by
      intro n
      induction n with
      | zero => intro _; rfl
      | succ n ih => intro hn; rw [suR, ih (by omega), hz n (by omega), Rat.add_zero]
    rw [hzero _ (Nat.le_refl _)] at hsum
    rw [← hsum] at hs
    exact absurd hs (by decide)
def splT (m : Tab) : List Tk × Bool := if lotB m = true then splR 16 m [] else ([], false)
def splAV (R : List Tk × Bool) : AV := .tup [.sl (!R.2) 3 ((if R.2 then R.1 else []).map tick), .v (.bool R.2)]
noncomputable def mSpl : List AV → Option AV := mk (fun _ => True) (fun (p : Bool × Tab) => [fracss p.1 p.2]) (fun p => splAV (splT p.2))
theorem mSpl_at (nl : Bool) (m : Tab) : mSpl [.sl nl 1 (m.map frow)] = some (splAV (splT m)) :=
  mk_eq (enc := fun (p : Bool × Tab) => [fracss p.1 p.2]) (f := fun p => splAV (splT p.2)) (x := (nl, m)) (by rintro ⟨a, b⟩ ⟨c, d⟩ h; simp [fracss, map_frow_inj] at h; simp [h]) trivial
def splAW (R : List Tk × Bool) : AV := .tup [.sl (!R.2) (if R.2 then 3 else 1) ((if R.2 then R.1 else []).map tick), .v (.bool R.2)]
theorem splAW_ok {P : Program} {f : FuncId} {args : List AV} {R : List Tk × Bool} (h : CallOk P f args (splAW R)) : CallOk P f args (splAV R) := by
  obtain ⟨o, b⟩ := R
  cases b with
  | true => exact h
  | false => exact callOk_nil1 (a := 1) h
theorem spl_start {m : Tab} (h : lotB m = true) (hf : ∀ r ∈ m, r.1 = false) : SplP m.length (splR 16 m []) m [] ∧ exO m ≠ none := by
  have ht := lot_tab h hf
  have h4 := ht.n4
  have hc : cntP m ≤ 16 := by
    have := cntN_bd (m := m) (fun i hi => by rw [(ht.row i hi).2]; exact h4) (Nat.le_refl _)
    unfold cntP; omega
  refine ⟨⟨rfl, ⟨_, ht⟩, by simpa using hc, ⟨16, hc, rfl⟩, by simp⟩, fun he => ?_⟩
  have := tak_sum ht (by decide)
  rw [tak_ex ht, he] at this
  simp at this
theorem cat_len {m : Tab} {s : Rat} (h : TabOk m s) : m.length ≤ 1000 ∧ 1 ≤ (catF m).length ∧ (catF m).length ≤ 1000000 := by
  have h4 := h.n4
  have key : ∀ (l : Tab), (∀ r ∈ l, r.2.length ≤ 4) → (catF l).length ≤ 4 * l.length := by
    intro l
    induction l with
    | nil => intro _; simp [catF]
    | cons r l ih =>
      intro hr
      have h1 := ih fun r hr' => hr r (by simp [hr'])
      have h2 := hr r (by simp)
      simp only [catF, List.flatMap_cons, List.length_append, List.length_cons] at h1 ⊢
      omega
  have h1 := key m fun r hr => by
    obtain ⟨i, hi, rfl⟩ := List.getElem_of_mem hr
    rw [(h.row i hi).2]; exact h4
  refine ⟨by omega, ?_, by omega⟩
  have hx := h.n1
  have : (m[0]'hx).2[0]'(by rw [(h.row 0 hx).2]; exact hx) ∈ catF m := List.mem_flatMap.2 ⟨m[0]'hx, List.getElem_mem _, List.getElem_mem _⟩
  exact List.length_pos_of_mem this
theorem tk_snoc {out : List Tk} {w : Int × Int} {l : List Int} : out.map tick ++ [.agg [.v (.int .i64 w.1), .v (.int .i64 w.2), .sl false 1 (l.map int)]] = (out ++ [(w, false, l)]).map tick := by simp [tick]
theorem lot_flag {m : Tab} (h : lotB m = true) (hl : ∀ x ∈ m, x.2.length ≤ 9223372036854775807 ∧ (x.1 = true → x.2 = [])) : ∀ r ∈ m, r.1 = false := fun r hr => by
  obtain ⟨i, hi, rfl⟩ := List.getElem_of_mem hr
  simp only [lotB, Bool.and_eq_true, inR, decide_eq_true_eq] at h
  have hrow := allR_at h.1.2 hi
  simp only [partRow, getDF hi, Bool.and_eq_true, decide_eq_true_eq] at hrow
  cases hb : m[i].1 with
  | false => rfl
  | true =>
    have := (hl _ (List.getElem_mem hi)).2 hb
    rw [this] at hrow
    have := hrow.1
    simp at this
    omega
structure SpSt (n : Nat) (R : List Tk × Bool) where
  m : Tab
  out : List Tk
  ok : SplP n R m out
  ne : out = [] → exO m ≠ none
end Go.Proofs.YtkfmhpgnhkdebaaGreatDoor.Ax
