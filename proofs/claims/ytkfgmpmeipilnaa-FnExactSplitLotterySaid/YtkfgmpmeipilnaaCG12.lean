/-
  Contracts: copies and rows one behind the other of fractions, whether anything is left, the least chance of an exchange. No condition.
-/
import Derived.Test.YtkfgmpmeipilnaaCG11
import Derived.Test.YtkfgmpmeipilnaaCG7
import Derived.Test.YtkfgmpmeipilnaaCB2
import Derived.Test.YtkfgmpmeipilnaaCG4
import Derived.Test.YtkfgmpmeipilnaaCB1
namespace Go.Proofs.Ytkfgmpmeipilnaa.Ax
open Go Go.RowKit
set_option linter.unusedSimpArgs false

noncomputable def mCloneF : List AV → Option AV := mk (fun p => p.length ≤ 1000000) (fun (p : List (Int × Int)) => [fracs false p]) (fun p => fracs false p)
theorem mCloneF_at (xs : List (Int × Int)) (h : xs.length ≤ 1000000) : mCloneF [.sl false 2 (xs.map frac)] = some (.sl false 2 (xs.map frac)) :=
  mk_eq (enc := fun (p : List (Int × Int)) => [fracs false p]) (f := fun p => fracs false p) (x := xs) (by rintro a b h; simpa using h) h
set_option maxHeartbeats 1000000 in
theorem cloneF_ok : FnOk Try.prog 130 mCloneF := by
  refine mk_ok fun xs hn => ?_
  have hG : FnsOk Try.prog [] := .nil
  refine callOk_awp (ctx_ok eqOk hG) mixed (live := [true, false, true, false, true]) (dt := []) Try.func130 rfl (by kernel_rfl) (by kernel_rfl) fun w0 hlens => ?_
  clear hlens
  have h1 : xs.length ≤ 4611686018427387904 := by omega
  have h2 : xs.length * 16 ≤ 140737488355328 := by omega
  simp (config := {contextual := true}) [Try.f130, List.range, List.range.loop, ints, intss, int, bool, row, frac, fracs, ← List.map_take, ← List.map_drop, h1, h2]

noncomputable def mGrowF : List AV → Option AV := mk (fun p => 1 ≤ p ∧ p ≤ 1000000) (fun (p : Nat) => [.sl true 1 [], int (p : Int)]) (fun _ => .sl false 2 [])
theorem mGrowF_at (n : Nat) (h : 1 ≤ n ∧ n ≤ 1000000) : mGrowF [.sl true 1 [], .v (.int .i64 (n : Int))] = some (.sl false 2 []) :=
  mk_eq (enc := fun (p : Nat) => [.sl true 1 [], int (p : Int)]) (f := fun _ => .sl false 2 []) (x := n) (fun _ _ _ => rfl) h

theorem callOk_nilArg2 {P : Program} {f : FuncId} {a b : Nat} {x r : AV} (h : CallOk P f [.sl true a [], x] r) : CallOk P f [.sl true b [], x] r :=
  ⟨h.1, fun w F vals hF hv => h.2 w F vals hF (by simpa [RepL, Rep] using hv)⟩
theorem growF_ok : FnOk Try.prog 150 mGrowF := by
  refine mk_ok fun n hn => ?_
  refine callOk_nilArg2 (a := 2) ?_
  have hG : FnsOk Try.prog [] := .nil
  refine callOk_awp (ctx_ok eqOk hG) mixed (live := [true, true, false, false, true, false, true, false, false, false, false, false, false, false, false, false, true]) (dt := []) Try.func150 rfl (by kernel_rfl) (by kernel_rfl) fun w0 hlens => ?_
  clear hlens
  have h1 : ¬ ((n : Int) < 0) := by omega
  have h2 : IntKind.i64.wrap (n : Int) = (n : Int) := wrapI (by omega) (by omega)
  have hz : IntKind.i64.wrap 0 = 0 := by decide
  have h3 : 0 < n := by omega
  have h0 : ¬ n = 0 := by omega
  have h4 : n ≤ 4611686018427387904 ∧ n * 16 ≤ 140737488355328 := by omega
  have h0' : ¬ (0 = n) := by omega
  simp (config := {contextual := true}) [Try.f150, List.range, List.range.loop, ints, intss, int, bool, row, frac, fracs, ← List.map_take, ← List.map_drop, h0, h0', h1, h2, hz, h3, h4]

/-- The rows, one behind the other. -/
def catF (xss : List (Bool × List (Int × Int))) : List (Int × Int) := xss.flatMap (·.2)
def catFTo (xss : List (Bool × List (Int × Int))) (k : Nat) : List (Int × Int) := (xss.take k).flatMap (·.2)
theorem catFTo_succ {xss : List (Bool × List (Int × Int))} {k : Nat} (h : k < xss.length) : catFTo xss (k + 1) = catFTo xss k ++ xss[k].2 := by
  unfold catFTo
  rw [List.take_succ_eq_append_getElem h, List.flatMap_append]; simp
theorem catFTo_all {xss : List (Bool × List (Int × Int))} : catFTo xss xss.length = catF xss := by simp [catFTo, catF]
theorem catFTo_le {xss : List (Bool × List (Int × Int))} : ∀ {k : Nat}, (catFTo xss k).length ≤ (catF xss).length := by
  intro k
  unfold catFTo catF
  conv => rhs; rw [← List.take_append_drop k xss, List.flatMap_append]
  simp

noncomputable def mConcatF : List AV → Option AV := mk (fun p => p.2.length ≤ 1000 ∧ 1 ≤ (catF p.2).length ∧ (catF p.2).length ≤ 1000000) (fun (p : Bool × List (Bool × List (Int × Int))) => [fracss p.1 p.2]) (fun p => fracs false (catF p.2))
theorem mConcatF_at (nl : Bool) (xss : List (Bool × List (Int × Int))) (h : xss.length ≤ 1000 ∧ 1 ≤ (catF xss).length ∧ (catF xss).length ≤ 1000000) : mConcatF [.sl nl 1 (xss.map frow)] = some (.sl false 2 ((catF xss).map frac)) :=
  mk_eq (enc := fun (p : Bool × List (Bool × List (Int × Int))) => [fracss p.1 p.2]) (f := fun p => fracs false (catF p.2)) (x := (nl, xss)) (by rintro ⟨a, b⟩ ⟨c, d⟩ h; simp [fracss, map_frow_inj] at h; simp [h]) h

set_option maxHeartbeats 1000000 in
theorem concatF_ok : FnOk Try.prog 131 mConcatF := by
  refine mk_ok fun ⟨nl, xss⟩ ⟨hl, h1, ht⟩ => ?_
  simp only at hl h1 ht
  have hc0 : catFTo xss 0 = [] := rfl
  have hG : FnsOk Try.prog [(150, mGrowF)] := (.cons growF_ok .nil)
  refine callOk_awp (ctx_ok eqOk hG) mixed (live := [true, false, true, true, false, true, true, false, true, true, true, true, true, false, false, false, false, false, false, false, true, false, false, false, false, true, true, true, true]) (dt := []) Try.func131 rfl (by kernel_rfl) (by kernel_rfl) fun w0 hlens => ?_
  clear hlens
  simp (config := {contextual := true}) [Try.f131, List.range, List.range.loop, ints, intss, int, bool, row, frac, fracs, ← List.map_take, ← List.map_drop, fracss, frow]
  refine awp_range (live := [true, false, true, true, false, true, true, false, true, true, true, true, true, false, false, false, false, false, false, false, true, false, false, false, false, true, true, true, true]) (ctx_ok eqOk hG) mixed [true, false, false, true, false, false, false, false, false, true, true, true] (xss.length) (fun k => True) (fun k => ⟨[fracss nl xss, .junk, .junk, int ((catFTo xss k).length : Int), .junk, .junk, .junk, .junk, .junk, fracss nl xss, int xss.length, int k, .junk, .junk, .junk, .junk, .junk, .junk, .junk, .junk, .junk, .junk, .junk, .junk, .junk, .junk, .junk, .junk, .junk, .junk, .junk, .junk, .junk, .junk, .junk, .junk], []⟩) ?_ (by simp [sub, slotsLe, clean, keep, refsL, refs, once, place, renL, ren, List.replicate, int, bool, fracss, frow, hc0]) ?_ ?_ ?_
  · omega
  · trivial
  · intro k hk _ hwk
    have hs := catFTo_succ hk
    have hle := catFTo_le (xss := xss) (k := k + 1)
    rw [hs, List.length_append] at hle
    have hw2 : IntKind.i64.wrap (((catFTo xss k).length : Int) + (xss[k].2.length : Int)) = ((catFTo xss k).length : Int) + (xss[k].2.length : Int) := wrapI (by omega) (by omega)
    have hno : ¬ (((catFTo xss k).length : Int) + (xss[k].2.length : Int) < 0) := by omega
    simp (config := {contextual := true}) [List.range, List.range.loop, ints, intss, int, bool, row, frac, fracs, ← List.map_take, ← List.map_drop, fracss, frow, hk, hwk, hs, hw2, hno]
  · intro _
    rw [catFTo_all]
    have hg := mGrowF_at _ ⟨h1, ht⟩
    simp (config := {contextual := true}) [List.range, List.range.loop, ints, intss, int, bool, row, frac, fracs, ← List.map_take, ← List.map_drop, fracss, frow, hg]
    refine awp_range (live := [true, false, true, true, false, true, true, false, true, true, true, true, true, false, false, false, false, false, false, false, true, false, false, false, false, true, true, true, true]) (ctx_ok eqOk hG) mixed [false, false, false, false, false, false, true, false, false, false, false, false, false, false, false, false, false, false, false, false, false, false, false, false, false, true, true, true] (xss.length) (fun k => True) (fun k => ⟨[.junk, .junk, .junk, .junk, .junk, .junk, .ref 0 [] 0 (catFTo xss k).length, .junk, .junk, .junk, .junk, .junk, .junk, .junk, .junk, .junk, .junk, .junk, .junk, .junk, .junk, .junk, .junk, .junk, .junk, fracss nl xss, int xss.length, int k, .junk, .junk, .junk, .junk, .junk, .junk, .junk, .junk], [⟨true, .sl false 2 ((catFTo xss k).map frac)⟩]⟩) ?_ (by simp [sub, slotsLe, clean, keep, refsL, refs, once, place, renL, ren, List.replicate, int, bool, fracss, frow, hc0]) ?_ ?_ ?_
    · omega
    · trivial
    · intro k hk _ hwk
      have hs := catFTo_succ hk
      have hle := catFTo_le (xss := xss) (k := k + 1)
      rw [hs, List.length_append] at hle
      have hb : (catFTo xss k).length + xss[k].2.length ≤ 4611686018427387904 ∧ ((catFTo xss k).length + xss[k].2.length) * 16 ≤ 140737488355328 := by omega
      simp (config := {contextual := true}) [List.range, List.range.loop, ints, intss, int, bool, row, frac, fracs, ← List.map_take, ← List.map_drop, fracss, frow, hk, hwk, hs, hb]
    · intro _
      simp (config := {contextual := true}) [List.range, List.range.loop, ints, intss, int, bool, row, frac, fracs, ← List.map_take, ← List.map_drop, fracss, frow, catFTo_all]

theorem taken1 (f : Int × Int) : CallOk Try.prog 132 [frac f] (.v (.bool (decide (0 < f.1)))) := by
  obtain ⟨t, b⟩ := f
  have hG : FnsOk Try.prog [] := .nil
  refine callOk_awp (ctx_ok eqOk hG) mixed (live := [true, true, true]) (dt := []) Try.func132 rfl (by kernel_rfl) (by kernel_rfl) fun w0 hlens => ?_
  clear hlens
  simp (config := {contextual := true}) [Try.f132, List.range, List.range.loop, ints, intss, int, bool, row, frac, fracs, ← List.map_take, ← List.map_drop, frac]

noncomputable def mTaken : List AV → Option AV := mk (fun p => p.2.length ≤ 1000 ∧ 1 ≤ (catF p.2).length ∧ (catF p.2).length ≤ 1000000) (fun (p : Bool × Tab) => [fracss p.1 p.2]) (fun p => bool (takB p.2))
theorem mTaken_at (nl : Bool) (m : Tab) (h : m.length ≤ 1000 ∧ 1 ≤ (catF m).length ∧ (catF m).length ≤ 1000000) : mTaken [.sl nl 1 (m.map frow)] = some (.v (.bool (takB m))) :=
  mk_eq (enc := fun (p : Bool × Tab) => [fracss p.1 p.2]) (f := fun p => bool (takB p.2)) (x := (nl, m)) (by rintro ⟨a, b⟩ ⟨c, d⟩ h; simp [fracss, map_frow_inj] at h; simp [h]) h
set_option maxHeartbeats 1000000 in
theorem isTaken_ok : FnOk Try.prog 87 mTaken := by
  refine mk_ok fun ⟨nl, m⟩ hn => ?_
  simp only at hn
  have hct : CallOk Try.prog 113 [fracs false (catF m), .fn 132 []] (bool ((catF m).any fun f => decide (0 < f.1))) :=
    containsFracs pure_nil (g := 132) (fun f => decide (0 < f.1)) _ (catF m) (fun x _ => taken1 x)
  obtain ⟨mc, hmm, hma⟩ := as_model hct
  simp only [fracs] at hma
  have hcc := mConcatF_at nl m hn
  have htk : takB m = !((catF m).any fun f => decide (0 < f.1)) := rfl
  simp only [htk]
  generalize (catF m).any (fun f => decide (0 < f.1)) = r at *
  generalize catF m = c at *
  have hG : FnsOk Try.prog [(131, mConcatF), (113, mc)] := (.cons concatF_ok (.cons hmm .nil))
  refine callOk_awp (ctx_ok eqOk hG) mixed (live := [true, false, true]) (dt := []) Try.func87 rfl (by kernel_rfl) (by kernel_rfl) fun w0 hlens => ?_
  clear hlens
  simp (config := {contextual := true}) [Try.f87, List.range, List.range.loop, ints, intss, int, bool, row, frac, fracs, ← List.map_take, ← List.map_drop, fracss, hcc, hma]

/-- The least chance of an exchange, of a table in any memory. -/
structure LeastP (m : Tab) (l : List Int) : Prop where
  n : 1 ≤ m.length ∧ m.length ≤ 1000
  ln : l.length = m.length
  at' : ∀ i (hi : i < m.length), ∃ x : Nat, at0 l i = x ∧ ∃ hx : x < m[i].2.length, fracOk m[i].2[x] = true
theorem LeastP.ok {m : Tab} {l : List Int} (h : LeastP m l) : ∀ {k : Nat}, k ≤ m.length → fracOk (lstTo m l k) = true
  | 0, _ => by
    obtain ⟨x, e, hx, ho⟩ := h.at' 0 (by have := h.n; omega)
    rw [lstTo, e, Int.toNat_natCast, cel0_at (by have := h.n; omega) hx]; exact ho
  | k + 1, hk => by
    obtain ⟨x, e, hx, ho⟩ := h.at' k (by omega)
    have ih := h.ok (k := k) (by omega)
    rw [lstTo, e, Int.toNat_natCast, cel0_at (by omega) hx]
    unfold lesF; split
    · exact ho
    · exact ih
noncomputable def mLeast : List AV → Option AV := mk (fun p => LeastP p.2.1 p.2.2.2) (fun (p : Bool × Tab × Bool × List Int) => [fracss p.1 p.2.1, ints p.2.2.1 p.2.2.2]) (fun p => frac (lstF p.2.1 p.2.2.2))
theorem mLeast_at (nl : Bool) (m : Tab) (nl' : Bool) (l : List Int) (h : LeastP m l) : mLeast [.sl nl 1 (m.map frow), .sl nl' 1 (l.map int)] = some (.agg [.v (.int .i64 (lstF m l).1), .v (.int .i64 (lstF m l).2)]) :=
  mk_eq (enc := fun (p : Bool × Tab × Bool × List Int) => [fracss p.1 p.2.1, ints p.2.2.1 p.2.2.2]) (f := fun p => frac (lstF p.2.1 p.2.2.2)) (x := (nl, m, nl', l)) (by rintro ⟨a, b, c, d⟩ ⟨a', b', c', d'⟩ h; simp [fracss, ints, map_frow_inj, map_int_inj] at h; simp [h]) h
set_option maxRecDepth 4000 in
set_option maxHeartbeats 2000000 in
theorem least_ok : FnOk Try.prog 90 mLeast := by
  refine mk_ok fun ⟨nl, m, nl', l⟩ h => ?_
  simp only at h
  have hn := h.n
  have hln := h.ln
  obtain ⟨x0, e0, hx0, _⟩ := h.at' 0 (by omega)
  have hl0 : l[0]'(by omega) = (x0 : Int) := by rw [← at0_eq (by omega)]; exact e0
  have h0 : lstTo m l 0 = (m[0]'(by omega)).2[x0] := by rw [lstTo, e0, Int.toNat_natCast, cel0_at (by omega) hx0]
  have hG : FnsOk Try.prog [(106, mLessF)] := (.cons less_ok .nil)
  refine callOk_awp (ctx_ok eqOk hG) mixed (live := [true, true, false, false, true, true, true, true, false, false, false, false, false, false, false, false, true, true, true, true, false, false, false, false, false, false, false, false, false, false, false, true]) (dt := [(1, ⟨[], [0, 0, 0, 0, 0, 0, 0, 0, 1], []⟩), (5, ⟨[], [], []⟩)]) Try.func90 rfl (by kernel_rfl) (by kernel_rfl) fun w0 hlens => ?_
  clear hlens
  have q0 : 0 < m.length := by omega
  have q1 : 0 < l.length := by omega
  simp (config := {contextual := true}) [Try.f90, List.range, List.range.loop, ints, intss, int, bool, row, frac, fracs, ← List.map_take, ← List.map_drop, fracss, frow, frac, hl0, hx0, q0, q1]
  refine awp_range (live := [true, true, false, false, true, true, true, true, false, false, false, false, false, false, false, false, true, true, true, true, false, false, false, false, false, false, false, false, false, false, false, true]) (ctx_ok eqOk hG) mixed [true, false, false, false, true, true, false, false, false, false, false, false, false, false, false, false, true, true, true] (l.length) (fun k => True) (fun k => ⟨[fracss nl m, .junk, .junk, .junk, .ptr 0 [] 0 0, .ptr 1 [] 0 0, .junk, .junk, .junk, .junk, .junk, .junk, .junk, .junk, .junk, .junk, ints nl' l, int l.length, int k, .junk, .junk, .junk, .junk, .junk, .junk, .junk, .junk, .junk, .junk, .junk, .junk, .junk, .junk, .junk, .junk, .junk, .junk, .junk, .junk, .junk, .junk], [⟨true, .sl false 2 [frac (0, 0)]⟩, ⟨true, .sl false 2 [frac (lstTo m l k)]⟩]⟩) ?_ (by simp [sub, slotsLe, clean, keep, refsL, refs, once, place, renL, ren, List.replicate, int, bool, fracss, frow, ints, frac, h0]) ?_ ?_ ?_
  · omega
  · trivial
  · intro k hk _ hwk
    have hkm : k < m.length := by omega
    obtain ⟨x, e, hx, ho⟩ := h.at' k hkm
    have hoa := h.ok (k := k) (by omega)
    have hlk : l[k] = (x : Int) := by rw [← at0_eq hk]; exact e
    have hs : lstTo m l (k + 1) = lesF (lstTo m l k) m[k].2[x] := by rw [lstTo, e, Int.toNat_natCast, cel0_at hkm hx]
    rw [hs]
    generalize lstTo m l k = a at *
    generalize hc : m[k].2[x] = c at *
    have hle := mLessF_at c.1 c.2 a.1 a.2
    rw [show ((c.1, c.2) : Int × Int) = c from rfl, show ((a.1, a.2) : Int × Int) = a from rfl] at hle
    unfold lesF
    by_cases hcmp : cmpF c a = -1
    · rw [decide_eq_true hcmp] at hle
      rw [if_pos (by omega)]
      simp (config := {contextual := true}) [List.range, List.range.loop, ints, intss, int, bool, row, frac, fracs, ← List.map_take, ← List.map_drop, fracss, frow, frac, hk, hkm, hwk, hlk, hx, hc, hle]
      done
    · rw [decide_eq_false hcmp] at hle
      have hge : ¬ cmpF c a < 0 := fun hlt => hcmp ((cmpF_neg ho hoa).1 hlt)
      rw [if_neg hge]
      simp (config := {contextual := true}) [List.range, List.range.loop, ints, intss, int, bool, row, frac, fracs, ← List.map_take, ← List.map_drop, fracss, frow, frac, hk, hkm, hwk, hlk, hx, hc, hle]
      done
  · intro _
    have : lstTo m l l.length = lstF m l := by unfold lstF; rw [hln]
    rw [this]
    simp (config := {contextual := true}) [List.range, List.range.loop, ints, intss, int, bool, row, frac, fracs, ← List.map_take, ← List.map_drop, fracss, ints, frac]
    done

def capT (m : Tab) : List AV := [.fp (fracss false m) 0]
theorem capT_pure {m : Tab} : Pure (capT m) := ⟨fun _ => rfl, rfl, fun _ => rfl⟩
theorem split1 {m : Tab} {s : Rat} (h : TabOk m s) (r : Bool × List Int) (hr : rankB m.length r.2 = true) : CallOk Try.prog 89 (row r :: capT m) (.v (.bool (posL m r.2))) := by
  have hP : LeastP m r.2 := ⟨⟨h.n1, by have := h.n4; omega⟩, by have := (rank_facts hr).2.2.1; omega, fun i hi => by
    obtain ⟨x, e, hx⟩ := rk_at hr hi
    exact ⟨x, e, by rw [(h.row i hi).2]; exact hx, by rw [← tab_cel h hi hx]; exact (h.ok i x hi hx).1⟩⟩
  have hl := mLeast_at false m r.1 r.2 hP
  rw [← lst_pos h hr]
  have hG : FnsOk Try.prog [(90, mLeast)] := (.cons least_ok .nil)
  refine callOk_awp (ctx_ok eqOk hG) mixed (live := [true, true, false, true]) (dt := []) Try.func89 rfl (by kernel_rfl) (by kernel_rfl) fun w0 hlens => ?_
  clear hlens
  simp (config := {contextual := true}) [Try.f89, List.range, List.range.loop, ints, intss, int, bool, row, frac, fracs, ← List.map_take, ← List.map_drop, fracss, capT, row, hl]

noncomputable def mIdxT : List AV → Option AV := mk (fun p => ∃ s, TabOk p s) (fun (p : Tab) => [intss false (allRk p.length), .fn 89 (capT p)]) (fun p => int (idxOf (fun o => posL p o.2) (allRk p.length)))
theorem mIdxT_at (m : Tab) (h : ∃ s, TabOk m s) : mIdxT [.sl false 1 ((allRk m.length).map row), .fn 89 [.fp (.sl false 1 (m.map frow)) 0]] = some (.v (.int .i64 (idxOf (fun o => posL m o.2) (allRk m.length)))) := by
  have := mk_eq (pre := fun p : Tab => ∃ s, TabOk p s) (enc := fun (p : Tab) => [intss false (allRk p.length), .fn 89 (capT p)]) (f := fun p => int (idxOf (fun o => posL p o.2) (allRk p.length))) (x := m) (by intro a b h; simp [capT, fracss, map_frow_inj] at h; simp [h]) h
  simp only [intss, capT, fracss, int] at this
  exact this
theorem idxT_ok : FnOk Try.prog 88 mIdxT := by
  refine mk_ok fun m ⟨s, hs⟩ => ?_
  exact indexIntss capT_pure (fun o => posL m o.2) false (allRk m.length) fun o ho => split1 hs o (allRk_rk hs.n1 hs.n4 o ho).2
theorem idx_ex {m : Tab} : (exO m = none ∧ idxOf (fun o => posL m o.2) (allRk m.length) = -1) ∨ ∃ (k : Nat) (hk : k < (allRk m.length).length), exO m = some (allRk m.length)[k].2 ∧ idxOf (fun o => posL m o.2) (allRk m.length) = k := by
  unfold exO idxOf
  cases h : (allRk m.length).findIdx? fun o => posL m o.2 with
  | none =>
    left
    have h1 := List.findIdx?_eq_none_iff.1 h
    refine ⟨?_, rfl⟩
    rw [Option.map_eq_none_iff, List.find?_eq_none]
    intro o ho
    simp [h1 o ho]
  | some k =>
    right
    obtain ⟨hk, hp, hlt⟩ := List.findIdx?_eq_some_iff_getElem.1 h
    refine ⟨k, hk, ?_, rfl⟩
    have : (allRk m.length).find? (fun o => posL m o.2) = some (allRk m.length)[k] := List.find?_eq_some_iff_getElem.2 ⟨hp, k, hk, rfl, fun j hj => by simpa using hlt j hj⟩
    rw [this]; rfl

/-- A table in new memory. -/
def cpA (k : Nat) : AV := match k with
  | 0 => .sl true 1 []
  | k + 1 => .ref 0 [] 0 (k + 1)
def cpT (l : List AV) (k : Nat) : List Tok := match k with
  | 0 => []
  | _ + 1 => [⟨true, .sl false 1 l⟩]
noncomputable def mCopyL : List AV → Option AV := mk (fun p => 1 ≤ p.2.length ∧ p.2.length ≤ 1000 ∧ ∀ r ∈ p.2, r.1 = false ∧ r.2.length ≤ 1000) (fun (p : Bool × Tab) => [fracss p.1 p.2]) (fun p => fracss false p.2)
theorem mCopyL_at (nl : Bool) (m : Tab) (h : 1 ≤ m.length ∧ m.length ≤ 1000 ∧ ∀ r ∈ m, r.1 = false ∧ r.2.length ≤ 1000) : mCopyL [.sl nl 1 (m.map frow)] = some (.sl false 1 (m.map frow)) :=
  mk_eq (enc := fun (p : Bool × Tab) => [fracss p.1 p.2]) (f := fun p => fracss false p.2) (x := (nl, m)) (by rintro ⟨a, b⟩ ⟨c, d⟩ h; simp [fracss, map_frow_inj] at h; simp [h]) h
set_option maxHeartbeats 2000000 in
theorem copyL_ok : FnOk Try.prog 86 mCopyL := by
  refine mk_ok fun ⟨nl, m⟩ ⟨h1, h2, h3⟩ => ?_
  simp only at h1 h2 h3
  have htr : ∀ k (hk : k < m.length), (m.take k).map frow ++ [.sl false 2 (m[k].2.map frac)] = (m.take (k + 1)).map frow := fun k hk => by
    rw [List.take_succ_eq_append_getElem hk, List.map_append]
    simp [frow, (h3 _ (List.getElem_mem hk)).1]
  have hwk1 : IntKind.i64.wrap 1 = 1 := by decide
  have hG : FnsOk Try.prog [(130, mCloneF)] := (.cons cloneF_ok .nil)
  refine callOk_awp (ctx_ok eqOk hG) mixed (live := [true, false, true, true, false, true, true, true, true, true]) (dt := []) Try.func86 rfl (by kernel_rfl) (by kernel_rfl) fun w0 hlens => ?_
  clear hlens
  simp (config := {contextual := true}) [Try.f86, List.range, List.range.loop, ints, intss, int, bool, row, frac, fracs, ← List.map_take, ← List.map_drop, fracss]
  refine awp_range (live := [true, false, true, true, false, true, true, true, true, true]) (ctx_ok eqOk hG) mixed [false, false, false, true, false, false, true, true, true] (m.length) (fun k => True) (fun k => ⟨[.junk, .junk, .junk, cpA k, .junk, .junk, fracss nl m, int m.length, int k, .junk, .junk, .junk, .junk, .junk, .junk, .junk, .junk, .junk, .junk], cpT ((m.take k).map frow) k⟩) ?_ (by simp [sub, slotsLe, clean, keep, refsL, refs, once, place, renL, ren, List.replicate, int, bool, fracss, cpA, cpT]) ?_ ?_ ?_
  · omega
  · trivial
  · intro k hk _ hwk
    have hr := h3 _ (List.getElem_mem hk)
    have hcl := mCloneF_at m[k].2 (by omega)
    have ht := htr k hk
    have hb : k + 1 ≤ 4611686018427387904 ∧ (k + 1) * 24 ≤ 140737488355328 := by omega
    have hl1 : ((m.take k).map frow).length = k := by simp; omega
    have hl2 : ((m.take (k + 1)).map frow).length = k + 1 := by simp; omega
    generalize (m.take (k + 1)).map frow = L' at *
    generalize (m.take k).map frow = L at *
    cases k with
    | zero =>
      obtain rfl : L = [] := List.length_eq_zero_iff.1 hl1
      rw [List.nil_append] at ht
      subst ht
      simp (config := {contextual := true}) [List.range, List.range.loop, ints, intss, int, bool, row, frac, fracs, ← List.map_take, ← List.map_drop, fracss, frow, cpA, cpT, hk, hwk, hwk1, hr, hcl, hb]
      done
    | succ k =>
      simp (config := {contextual := true}) [List.range, List.range.loop, ints, intss, int, bool, row, frac, fracs, ← List.map_take, ← List.map_drop, fracss, frow, cpA, cpT, hk, hwk, hr, hcl, ht, hb, hl1, hl2]
      exact hwk
  · intro _
    rw [List.take_length]
    obtain ⟨k, hk⟩ : ∃ k, m.length = k + 1 := ⟨m.length - 1, by omega⟩
    have hl : (m.map frow).length = k + 1 := by simp [hk]
    rw [hk]
    have htk : List.take (k + 1) (m.map frow) = m.map frow := List.take_of_length_le (by omega)
    generalize m.map frow = L at *
    simp (config := {contextual := true}) [List.range, List.range.loop, ints, intss, int, bool, row, frac, fracs, ← List.map_take, ← List.map_drop, fracss, cpA, cpT, hl, htk]
    done

end Go.Proofs.Ytkfgmpmeipilnaa.Ax

/-
  Contract: the search for an exchange of the reference (the list is handed over). No condition.
-/
namespace Go.Proofs.Ytkfgmpmeipilnaa.Ax
open Go Go.RowKit
set_option linter.unusedSimpArgs false

/-- The first of the first k that there is. -/
def fsm {β : Type} (g : Nat → Option β) : Nat → Option β
  | 0 => none
  | k + 1 => match fsm g k with
    | some y => some y
    | none => g k
theorem fsm_none {β : Type} {g : Nat → Option β} : ∀ {n : Nat}, (∀ i, i < n → g i = none) → fsm g n = none
  | 0, _ => rfl
  | n + 1, h => by rw [fsm, fsm_none fun i hi => h i (by omega), h n (by omega)]
theorem fsm_some {β : Type} {g : Nat → Option β} {k : Nat} {y : β} (h : ∀ i, i < k → g i = none) (hk : g k = some y) : ∀ {n : Nat}, k < n → fsm g n = some y
  | 0, hn => by omega
  | n + 1, hn => by
    by_cases e : k = n
    · subst e; rw [fsm, fsm_none h, hk]
    · rw [fsm, fsm_some h hk (n := n) (by omega)]
theorem fsm_congr {β : Type} {g g' : Nat → Option β} : ∀ {n : Nat}, (∀ i, i < n → g i = g' i) → fsm g n = fsm g' n
  | 0, _ => rfl
  | n + 1, h => by rw [fsm, fsm, fsm_congr fun i hi => h i (by omega), h n (by omega)]
theorem fsm_flat {f : Nat → List (Bool × List Int)} {p : Bool × List Int → Bool} : ∀ {n : Nat}, (((List.range n).flatMap f).find? p).map (·.2) = fsm (fun i => ((f i).find? p).map (·.2)) n
  | 0 => rfl
  | n + 1 => by
    rw [List.range_succ, List.flatMap_append, List.find?_append, fsm, ← fsm_flat (n := n)]
    cases h : ((List.range n).flatMap f).find? p with
    | some y => rfl
    | none => simp

/-- What continues l with r more places, above 0 all of it. -/
def exD (m : Tab) : Nat → List Int → Option (List Int)
  | 0, l => some l
  | r + 1, l => fsm (fun i => if 0 < (cel0 m l.length i).1 ∧ pos l (i : Int) < 0 then exD m r (l ++ [(i : Int)]) else none) m.length
def exG (m : Tab) (r : Nat) (l : List Int) (i : Nat) : Option (List Int) := if 0 < (cel0 m l.length i).1 ∧ pos l (i : Int) < 0 then exD m r (l ++ [(i : Int)]) else none
theorem exD_succ {m : Tab} {r : Nat} {l : List Int} : exD m (r + 1) l = fsm (exG m r l) m.length := rfl
def preL (m : Tab) (l : List Int) : Prop := ∀ i, i < l.length → 0 < (cel0 m i (at0 l i).toNat).1
open Classical in
theorem exD_find {m : Tab} : ∀ {r : Nat} {l : List Int}, l.length + r = m.length → ((l03L m.length r l).find? fun o => posL m o.2).map (·.2) = if preL m l then exD m r l else none
  | 0, l, hl => by
    have hp : posL m l = true ↔ preL m l := by
      constructor
      · intro h i hi
        have := allR_at h (show i < m.length by omega)
        simpa using this
      · intro h
        exact allR_yes fun i hi => decide_eq_true (h i (by omega))
    by_cases h : preL m l
    · rw [if_pos h, l03L, List.find?_cons, hp.2 h]; rfl
    · rw [if_neg h, l03L, List.find?_cons, show posL m (false, l).2 = false by
        cases e : posL m l with
        | false => rfl
        | true => exact absurd (hp.1 e) h]; rfl
  | r + 1, l, hl => by
    have hstep : ∀ i : Nat, preL m (l ++ [(i : Int)]) ↔ preL m l ∧ 0 < (cel0 m l.length i).1 := fun i => by
      constructor
      · intro h
        refine ⟨fun j hj => ?_, ?_⟩
        · have := h j (by simp; omega)
          rwa [show at0 (l ++ [(i : Int)]) j = at0 l j by simp [at0, List.getD_eq_getElem?_getD, List.getElem?_append_left hj]] at this
        · have := h l.length (by simp)
          rwa [show at0 (l ++ [(i : Int)]) l.length = (i : Int) by simp [at0, List.getD_eq_getElem?_getD], Int.toNat_natCast] at this
      · rintro ⟨h1, h2⟩ j hj
        by_cases e : j < l.length
        · rw [show at0 (l ++ [(i : Int)]) j = at0 l j by simp [at0, List.getD_eq_getElem?_getD, List.getElem?_append_left e]]
          exact h1 j e
        · have : j = l.length := by simp at hj; omega
          subst this
          rw [show at0 (l ++ [(i : Int)]) l.length = (i : Int) by simp [at0, List.getD_eq_getElem?_getD], Int.toNat_natCast]
          exact h2
    rw [l03L, fsm_flat]
    by_cases h : preL m l
    · rw [if_pos h, exD]
      refine fsm_congr fun i hi => ?_
      by_cases hp : pos l (i : Int) < 0
      · rw [if_pos hp, exD_find (r := r) (by simp; omega)]
        by_cases hc : 0 < (cel0 m l.length i).1
        · rw [if_pos ((hstep i).2 ⟨h, hc⟩), if_pos ⟨hc, hp⟩]
        · rw [if_neg fun k => hc ((hstep i).1 k).2, if_neg fun k => hc k.1]
      · rw [if_neg hp, if_neg fun k => hp k.2]; rfl
    · rw [if_neg h]
      refine fsm_none fun i hi => ?_
      by_cases hp : pos l (i : Int) < 0
      · rw [if_pos hp, exD_find (r := r) (by simp; omega), if_neg fun k => h ((hstep i).1 k).1]
      · rw [if_neg hp]; rfl
theorem exO_eq {m : Tab} {s : Rat} (h : TabOk m s) : exO m = exD m m.length [] := by
  have h1 := h.n1
  have h4 := h.n4
  have e : allRk m.length = l03L m.length m.length [] := by
    have : inR 1 5 (m.length : Int) = true := by simp [inR]; omega
    simp [allRk, this]
  unfold exO
  rw [e, exD_find (by simp)]
  exact if_pos fun i hi => by simp at hi

/-- What is told of an exchange. -/
def exA : Option (List Int) → AV
  | some l => .tup [.sl false 1 (l.map int), .v (.bool true)]
  | none => .tup [.sl true 1 [], .v (.bool false)]
structure ExP (m : Tab) (l : List Int) (r : Nat) : Prop where
  ln : l.length + r = m.length
  n4 : m.length ≤ 4
  row : ∀ i (h : i < m.length), m[i].2.length = m.length
noncomputable def mExch (r : Nat) : List AV → Option (List Nat × AV) := mkV (fun p => ExP p.2.1 p.2.2 r) (fun (p : Bool × Tab × List Int) => [fracss p.1 p.2.1, ints false p.2.2]) [1] (fun p => exA (exD p.2.1 r p.2.2))
theorem mExch_at (r : Nat) (nl : Bool) (m : Tab) (l : List Int) (h : ExP m l r) : mExch r [.sl nl 1 (m.map frow), .sl false 1 (l.map int)] = some ([1], exA (exD m r l)) :=
  mkV_eq (enc := fun (p : Bool × Tab × List Int) => [fracss p.1 p.2.1, ints false p.2.2]) (f := fun p => exA (exD p.2.1 r p.2.2)) (x := (nl, m, l)) (by rintro ⟨a, b, c⟩ ⟨e, f, g⟩ h; simp [fracss, ints, map_frow_inj, map_int_inj] at h; simp [h]) h

set_option maxHeartbeats 1000000 in
theorem exch_zero : (FnMov Try.prog 84 (mExch 0)) := by
  refine mkV_ok fun ⟨nl, m, l⟩ h => ?_
  simp only at h
  have hG : FnsOk Try.prog [(129, mPos)] := (.cons placeOf_ok .nil)
  refine movOk_awp (ctx_ok eqOk hG) mixed (live := [true, true, false, false, true, true, true, true, true, true, false, false, false, false, true, false, false, false, false, false, true, true, true, true, false, false, false, false, false, false, false, false, false, false, false, true, false, false, false, false, false, false, false, false, false, false, false, true]) (dt := []) (mv := [1]) Try.func84 rfl (by kernel_rfl) (by kernel_rfl) fun US w0 hlens => ?_
  simp only [List.map, List.getD_cons_zero, List.getD_cons_succ, internL, intern, setSl, List.set, List.length_nil, List.nil_append, List.length_map]
  clear hlens
  have hl : l.length = m.length := h.ln
  simp (config := {contextual := true, maxSteps := 1000000}) [Try.f84, List.range, List.range.loop, ints, intss, int, bool, row, frac, fracs, ← List.map_take, ← List.map_drop, List.all, fracss, hl, exD, exA]
  done

set_option maxHeartbeats 2000000 in
theorem exch_succ {r : Nat} (ih : FnMov Try.prog 84 (mExch r)) : (FnMov Try.prog 84 (mExch (r + 1))) := by
  refine mkV_ok fun ⟨nl, m, l⟩ h => ?_
  simp only at h
  have hll : l.length < m.length := by have := h.ln; omega
  have hm4 := h.n4
  have hrow := h.row l.length hll
  have hln := h.ln
  rw [exD_succ]
  have hG : FnsOk Try.prog [(129, mPos)] := (.cons placeOf_ok .nil)
  have hM : FnsMut Try.prog [] := .nil
  have hV : FnsMov Try.prog [(84, mExch r)] := (.cons ih .nil)
  generalize hR : exA (fsm (exG m r l) m.length) = R
  refine movOk_awp (ctxV_ok eqOk hG hM hV) mixed (live := [true, true, false, false, true, true, true, true, true, true, false, false, false, false, true, false, false, false, false, false, true, true, true, true, false, false, false, false, false, false, false, false, false, false, false, true, false, false, false, false, false, false, false, false, false, false, false, true]) (dt := []) (mv := [1]) Try.func84 rfl (by kernel_rfl) (by kernel_rfl) fun US w0 hlens => ?_
  simp only [List.map, List.getD_cons_zero, List.getD_cons_succ, internL, intern, setSl, List.set, List.length_nil, List.nil_append, List.length_map]
  clear hlens
  have hl : ¬ (l.length = m.length) := by omega
  have hl' : ¬ ((l.length : Int) = (m.length : Int)) := by omega
  simp (config := {contextual := true, maxSteps := 1000000}) [Try.f84, List.range, List.range.loop, ints, intss, int, bool, row, frac, fracs, ← List.map_take, ← List.map_drop, List.all, fracss, frow, hl, hl', hll]
  refine awp_range (live := [true, true, false, false, true, true, true, true, true, true, false, false, false, false, true, false, false, false, false, false, true, true, true, true, false, false, false, false, false, false, false, false, false, false, false, true, false, false, false, false, false, false, false, false, false, false, false, true]) (ctxV_ok eqOk hG hM hV) mixed [true, true, false, false, false, false, false, false, false, false, false, false, false, false, false, false, false, false, false, false, true, true, true] (m.length) (fun k => ∀ i, i < k → exG m r l i = none) (fun k => ⟨[fracss nl m, .ref 0 [] 0 l.length, .junk, .junk, .junk, .junk, .junk, .junk, .junk, .junk, .junk, .junk, .junk, .junk, .junk, .junk, .junk, .junk, .junk, .junk, frow m[l.length], int m.length, int k, .junk, .junk, .junk, .junk, .junk, .junk, .junk, .junk, .junk, .junk, .junk, .junk, .junk, .junk, .junk, .junk, .junk, .junk, .junk, .junk, .junk, .junk, .junk, .junk, .junk, .junk, .junk], [⟨true, .sl false 1 (l.map int)⟩]⟩) ?_ (by simp [sub, slotsLe, clean, keep, refsL, refs, once, place, renL, ren, List.replicate, int, bool, fracss, frow, hrow]) ?_ ?_ ?_
  · omega
  · intro i hi; omega
  · intro k hk hp hw
    have hkr : k < m[l.length].2.length := by omega
    have hc : cel0 m l.length k = m[l.length].2[k] := cel0_at hll hkr
    have hg : exG m r l k = if 0 < (m[l.length].2[k]).1 ∧ pos l (k : Int) < 0 then exD m r (l ++ [(k : Int)]) else none := by unfold exG; rw [hc]
    have hnx : exG m r l k = none → ∀ i, i < k + 1 → exG m r l i = none := fun e i hi => by
      by_cases e2 : i = k
      · subst e2; exact e
      · exact hp i (by omega)
    by_cases hcc : 0 < (m[l.length].2[k]).1
    rotate_left
    · have hn := hnx (by rw [hg, if_neg fun q => hcc q.1])
      have hcc' : (m[l.length].2[k]).1 ≤ 0 := by omega
      simp (config := {contextual := true, maxSteps := 1000000}) [List.range, List.range.loop, ints, intss, int, bool, row, frac, fracs, ← List.map_take, ← List.map_drop, List.all, fracss, frow, frac, hk, hkr, hw, hcc', mPos_at]
      exact hn
    have hcc' : ¬ (m[l.length].2[k]).1 ≤ 0 := by omega
    by_cases hpp : pos l (k : Int) < 0
    rotate_left
    · have hn := hnx (by rw [hg, if_neg fun q => hpp q.2])
      have hpp' : 0 ≤ pos l (k : Int) := by omega
      simp (config := {contextual := true, maxSteps := 1000000}) [List.range, List.range.loop, ints, intss, int, bool, row, frac, fracs, ← List.map_take, ← List.map_drop, List.all, fracss, frow, frac, hk, hkr, hw, hcc', mPos_at, hpp']
      exact hn
    rw [if_pos ⟨hcc, hpp⟩] at hg
    have hpp' : ¬ 0 ≤ pos l (k : Int) := by omega
    have hcall := mExch_at r nl m (l ++ [(k : Int)]) ⟨by simp; omega, hm4, h.row⟩
    simp only [List.map_append, List.map_cons, List.map_nil, int] at hcall
    have htk : List.take (l.length + 1) (l.map int ++ [AV.v (.int .i64 k)]) = l.map int ++ [AV.v (.int .i64 k)] := List.take_of_length_le (by simp)
    have hlb : l.length ≤ 4611686018427387904 ∧ l.length * 8 ≤ 140737488355328 := by omega
    have hlb2 : l.length + 1 ≤ 4611686018427387904 ∧ (l.length + 1) * 8 ≤ 140737488355328 := by omega
    cases hd : exD m r (l ++ [(k : Int)]) with
    | none =>
      rw [hd] at hg hcall
      have hn := hnx hg
      simp only [exA] at hcall
      simp (config := {contextual := true, maxSteps := 1000000}) [List.range, List.range.loop, ints, intss, int, bool, row, frac, fracs, ← List.map_take, ← List.map_drop, List.all, fracss, frow, frac, hk, hkr, hw, hcc', mPos_at, hpp', hlb, hlb2, htk, hcall]
      exact hn
    | some l' =>
      rw [hd] at hg hcall
      rw [fsm_some hp hg hk] at hR
      subst hR
      simp only [exA] at hcall ⊢
      have htl : List.take l'.length (l'.map int) = l'.map int := List.take_of_length_le (by simp)
      simp (config := {contextual := true, maxSteps := 1000000}) [List.range, List.range.loop, ints, intss, int, bool, row, frac, fracs, ← List.map_take, ← List.map_drop, List.all, fracss, frow, frac, hk, hkr, hw, hcc', mPos_at, hpp', hlb, hlb2, htk, hcall, htl]
      done
  · intro hp
    rw [fsm_none hp] at hR
    subst hR
    simp (config := {contextual := true, maxSteps := 1000000}) [List.range, List.range.loop, ints, intss, int, bool, row, frac, fracs, ← List.map_take, ← List.map_drop, List.all, exA]
    done

theorem exch_all : ∀ r, FnMov Try.prog 84 (mExch r)
  | 0 => exch_zero
  | r + 1 => exch_succ (exch_all r)

/-- The search from nothing. -/
noncomputable def mExchS : List AV → Option (List Nat × AV) := mkV (fun p => ∃ s, TabOk p s) (fun (p : Tab) => [fracss false p, ints false []]) [1] (fun p => exA (exO p))
theorem mExchS_at (m : Tab) (h : ∃ s, TabOk m s) : mExchS [.sl false 1 (m.map frow), .sl false 1 []] = some ([1], exA (exO m)) :=
  mkV_eq (enc := fun (p : Tab) => [fracss false p, ints false []]) (f := fun p => exA (exO p)) (x := m) (by intro a b h; simp [fracss, ints, map_frow_inj] at h; simp [h]) h
theorem exchS_ok : FnMov Try.prog 84 mExchS := by
  refine mkV_ok fun m ⟨s, h⟩ => ?_
  rw [exO_eq h]
  exact exch_all m.length _ _ _ (mExch_at m.length false m [] ⟨by simp, h.n4, fun i hi => (h.row i hi).2⟩)

end Go.Proofs.Ytkfgmpmeipilnaa.Ax

/-
  A list of tickets that may still be nil. No condition.
-/
namespace Go.Proofs.Ytkfgmpmeipilnaa.Ax
open Go Go.RowKit

def tkA (t : Nat) : List Tk → AV
  | [] => .sl true 1 []
  | _ :: l => .ref t [] 0 (l.length + 1)
def tkT : List Tk → List Tok
  | [] => []
  | x :: l => [⟨true, .sl false 3 ((x :: l).map tick)⟩]
def tkI (t : Nat) : List Tk → Nat
  | [] => t
  | _ :: _ => t + 1
theorem tkI_ne {t : Nat} {L : List Tk} (h : L ≠ []) : tkI t L = t + 1 := by cases L with | nil => exact (h rfl).elim | cons _ _ => rfl
theorem tkA_ne {t : Nat} {L : List Tk} (h : L ≠ []) : tkA t L = .ref t [] 0 L.length := by cases L with | nil => exact (h rfl).elim | cons _ _ => rfl
theorem tkT_ne {L : List Tk} (h : L ≠ []) : tkT L = [⟨true, .sl false 3 (L.map tick)⟩] := by cases L with | nil => exact (h rfl).elim | cons _ _ => rfl

end Go.Proofs.Ytkfgmpmeipilnaa.Ax

/-
  A nil slice among a function's results is a nil slice of whatever. No condition.
-/
namespace Go.Proofs.Ytkfgmpmeipilnaa.Ax
open Go Go.RowKit

theorem Own.nil {w : World} {F S : Nat → Prop} {a b : Nat} {y : Value} (h : Own w true F S (.sl true a []) y) : Own w true F S (.sl true b []) y := by
  obtain ⟨a1, l, c, hy, k1, k2, k3, k4⟩ := Excl.of_own h
  refine Excl.own ⟨a1, l, c, hy, k1, k2, k3, ?_⟩
  rcases k4 with k4 | ⟨_, _, _, _, _, k4, _⟩
  · exact .inl k4
  · simp at k4
/-- A nil slice beside others is a nil slice of whatever. -/
theorem callOk_nil1 {P : Program} {f : FuncId} {args vs : List AV} {a b : Nat} (h : CallOk P f args (.tup (.sl true a [] :: vs))) : CallOk P f args (.tup (.sl true b [] :: vs)) := by
  refine ⟨h.1, fun w F vals hF hv => (h.2 w F vals hF hv).mono fun e w' he => ?_⟩
  obtain ⟨y, S, h1, h2, h3, h4⟩ := he
  refine ⟨y, S, h1, h2, h3, ?_⟩
  simp only [Own] at h4 ⊢
  obtain ⟨ys, rfl, h4⟩ := h4
  refine ⟨ys, rfl, ?_⟩
  simp only [OwnL] at h4 ⊢
  obtain ⟨y, ys', S1, S2, k1, k2, k3, k4, k5, k6⟩ := h4
  exact ⟨y, ys', S1, S2, k1, k2, k3, k4, Own.nil k5, k6⟩

end Go.Proofs.Ytkfgmpmeipilnaa.Ax
