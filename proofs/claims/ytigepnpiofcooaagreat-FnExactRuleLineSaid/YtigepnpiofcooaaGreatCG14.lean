/-
  Contracts: the orders of elimination of both programs. No condition.
-/
import Derived.Test.YtigepnpiofcooaaGreatCG13
namespace Go.Proofs.YtigepnpiofcooaaGreat.Ax
open Go Go.RowKit
set_option linter.unusedSimpArgs false
noncomputable def mIns : List AV → Option AV := mk (fun p => profB (p.1 : Int) p.2.2 = true) (fun (p : PrN) => [prof (p.1 : Int) p.2.1 p.2.2]) (fun p => ints false (elT (wkT p.2.2 0) p.1 p.1))
theorem mIns_at (s : Nat) (nl : Bool) (vs : List Vt) (h : profB (s : Int) vs = true) : mIns [.agg [.v (.int .i64 (s : Int)), .sl nl 2 (vs.map vote)]] = some (.sl false 1 ((elT (wkT vs 0) s s).map int)) :=
  mk_eq (enc := fun (p : PrN) => [prof (p.1 : Int) p.2.1 p.2.2]) (x := (s, nl, vs)) (fun x y h => by rw [PrN_inj h]) h
theorem implInstant_ok : FnOk Tryz.prog 29 mIns := by
  refine mk_ok fun ⟨S, nl, vs⟩ hp => ?_
  simp only at hp
  have hc := elim_gen (g := 75) (pure_fp (a := prof (S : Int) nl vs) (j := 0) pure_nil) (wkT vs 0) S nl vs hp (by decide) (by decide) (by decide) (fun left a hl => inst1 left a (S : Int) nl vs hp)
  obtain ⟨m, hm, hz⟩ := as_model hc
  have hG : FnsOk Tryz.prog [(74, m)] := (.cons hm .nil)
  refine callOk_awpZ [0] (ctx_ok eqOk hG) mixed (live := [true, true, true]) (dt := []) Tryz.func29 rfl (by kernel_rfl) (by kernel_rfl) fun w0 hlens => ?_
  clear hlens
  simp only [prof, int] at hz
  have hl := (elT_facts (W := wkT vs 0) (s := S) (Nat.le_refl _)).1
  generalize elT (wkT vs 0) S S = A at *
  have ht : A.take A.length = A := List.take_length
  simp [Tryz.f29, List.range, List.range.loop, ints, intss, int, bool, row, frac, fracs, ← List.map_take, ← List.map_drop, andThen_n, freeze, frzA, frzAL, sets, prof, hz, ht]
noncomputable def mCoo : List AV → Option AV := mk (fun p => profB (p.1 : Int) p.2.2 = true) (fun (p : PrN) => [prof (p.1 : Int) p.2.1 p.2.2]) (fun p => ints false (elT (wkT p.2.2 1) p.1 p.1))
theorem mCoo_at (s : Nat) (nl : Bool) (vs : List Vt) (h : profB (s : Int) vs = true) : mCoo [.agg [.v (.int .i64 (s : Int)), .sl nl 2 (vs.map vote)]] = some (.sl false 1 ((elT (wkT vs 1) s s).map int)) :=
  mk_eq (enc := fun (p : PrN) => [prof (p.1 : Int) p.2.1 p.2.2]) (x := (s, nl, vs)) (fun x y h => by rw [PrN_inj h]) h
theorem implCoombs_ok : FnOk Tryz.prog 30 mCoo := by
  refine mk_ok fun ⟨S, nl, vs⟩ hp => ?_
  simp only at hp
  have hc := elim_gen (g := 77) (pure_fp (a := prof (S : Int) nl vs) (j := 0) pure_nil) (wkT vs 1) S nl vs hp (by decide) (by decide) (by decide) (fun left a hl => coom1 left a (S : Int) nl vs hp)
  obtain ⟨m, hm, hz⟩ := as_model hc
  have hG : FnsOk Tryz.prog [(74, m)] := (.cons hm .nil)
  refine callOk_awpZ [0] (ctx_ok eqOk hG) mixed (live := [true, true, true]) (dt := []) Tryz.func30 rfl (by kernel_rfl) (by kernel_rfl) fun w0 hlens => ?_
  clear hlens
  simp only [prof, int] at hz
  have hl := (elT_facts (W := wkT vs 1) (s := S) (Nat.le_refl _)).1
  generalize elT (wkT vs 1) S S = A at *
  have ht : A.take A.length = A := List.take_length
  simp [Tryz.f30, List.range, List.range.loop, ints, intss, int, bool, row, frac, fracs, ← List.map_take, ← List.map_drop, andThen_n, freeze, frzA, frzAL, sets, prof, hz, ht]
noncomputable def mBal : List AV → Option AV := mk (fun p => profB (p.1 : Int) p.2.2 = true) (fun (p : PrN) => [prof (p.1 : Int) p.2.1 p.2.2]) (fun p => ints false (elT (wkT p.2.2 2) p.1 p.1))
theorem mBal_at (s : Nat) (nl : Bool) (vs : List Vt) (h : profB (s : Int) vs = true) : mBal [.agg [.v (.int .i64 (s : Int)), .sl nl 2 (vs.map vote)]] = some (.sl false 1 ((elT (wkT vs 2) s s).map int)) :=
  mk_eq (enc := fun (p : PrN) => [prof (p.1 : Int) p.2.1 p.2.2]) (x := (s, nl, vs)) (fun x y h => by rw [PrN_inj h]) h
theorem implBaldwin_ok : FnOk Tryz.prog 31 mBal := by
  refine mk_ok fun ⟨S, nl, vs⟩ hp => ?_
  simp only at hp
  have hc := elim_gen (g := 79) (pure_fp (a := prof (S : Int) nl vs) (j := 0) pure_nil) (wkT vs 2) S nl vs hp (by decide) (by decide) (by decide) (fun left a hl => bald1 left hl a (S : Int) nl vs hp)
  obtain ⟨m, hm, hz⟩ := as_model hc
  have hG : FnsOk Tryz.prog [(74, m)] := (.cons hm .nil)
  refine callOk_awpZ [0] (ctx_ok eqOk hG) mixed (live := [true, true, true]) (dt := []) Tryz.func31 rfl (by kernel_rfl) (by kernel_rfl) fun w0 hlens => ?_
  clear hlens
  simp only [prof, int] at hz
  have hl := (elT_facts (W := wkT vs 2) (s := S) (Nat.le_refl _)).1
  generalize elT (wkT vs 2) S S = A at *
  have ht : A.take A.length = A := List.take_length
  simp [Tryz.f31, List.range, List.range.loop, ints, intss, int, bool, row, frac, fracs, ← List.map_take, ← List.map_drop, andThen_n, freeze, frzA, frzAL, sets, prof, hz, ht]
noncomputable def mLast : List AV → Option AV := mk (fun p => 0 < p.2.length ∧ p.2.length ≤ 1000) (fun (p : Bool × List Int) => [ints p.1 p.2]) (fun p => int (at0 p.2 (p.2.length - 1)))
theorem mLast_at (nl : Bool) (xs : List Int) (h : 0 < xs.length ∧ xs.length ≤ 1000) : mLast [.sl nl 1 (xs.map int)] = some (.v (.int .i64 (at0 xs (xs.length - 1)))) :=
  mk_eq (enc := fun (p : Bool × List Int) => [ints p.1 p.2]) (x := (nl, xs)) (by rintro ⟨x, x'⟩ ⟨y, y'⟩ h; simp [ints, map_int_inj] at h; simp [h]) h
theorem implLast_ok : FnOk Tryz.prog 28 mLast := by
  refine mk_ok fun ⟨nl, xs⟩ ⟨h0, h1⟩ => ?_
  simp only at h0 h1
  have hG : FnsOk Tryz.prog [] := .nil
  refine callOk_awp (ctx_ok eqOk hG) mixed (live := [true, false, true, false, false, true]) (dt := []) Tryz.func28 rfl (by kernel_rfl) (by kernel_rfl) fun w0 hlens => ?_
  clear hlens
  obtain ⟨n, hn⟩ : ∃ n, xs.length = n + 1 := ⟨xs.length - 1, by omega⟩
  have hw : IntKind.i64.wrap (n : Int) = (n : Int) := wrapI (by omega) (by omega)
  have hne : ¬ (n : Int) + 1 = 0 := by omega
  have hnl : n < xs.length := by omega
  have e : xs[n] = at0 xs n := (at0_eq hnl).symm
  have e2 : xs.length - 1 = n := by omega
  simp [Tryz.f28, List.range, List.range.loop, ints, intss, int, bool, row, frac, fracs, ← List.map_take, ← List.map_drop, ints, hn, hw, hne, e]
theorem specLast_ok : FnOk Tryz.prog 48 mLast := by
  refine mk_ok fun ⟨nl, xs⟩ ⟨h0, h1⟩ => ?_
  simp only at h0 h1
  have hG : FnsOk Tryz.prog [] := .nil
  refine callOk_awp (ctx_ok eqOk hG) mixed (live := [true, false, true, false, false, true]) (dt := []) Tryz.func48 rfl (by kernel_rfl) (by kernel_rfl) fun w0 hlens => ?_
  clear hlens
  obtain ⟨n, hn⟩ : ∃ n, xs.length = n + 1 := ⟨xs.length - 1, by omega⟩
  have hw : IntKind.i64.wrap (n : Int) = (n : Int) := wrapI (by omega) (by omega)
  have hne : ¬ (n : Int) + 1 = 0 := by omega
  have hnl : n < xs.length := by omega
  have e : xs[n] = at0 xs n := (at0_eq hnl).symm
  have e2 : xs.length - 1 = n := by omega
  simp [Tryz.f48, List.range, List.range.loop, ints, intss, int, bool, row, frac, fracs, ← List.map_take, ← List.map_drop, ints, hn, hw, hne, e]
noncomputable def mOut : List AV → Option AV := mk (fun _ => True) (fun (p : (Bool) × (List Int) × (Int)) => [ints p.1 p.2.1, int p.2.2]) (fun p => bool (decide (p.2.2 ∈ p.2.1)))
theorem mOut_at (nl : Bool) (xs : List Int) (a : Int) : mOut [.sl nl 1 (xs.map int), .v (.int .i64 a)] = some (.v (.bool (decide (a ∈ xs)))) :=
  mk_eq (enc := fun (p : (Bool) × (List Int) × (Int)) => [ints p.1 p.2.1, int p.2.2]) (x := (nl, xs, a)) (by rintro ⟨a0, a1, a2⟩ ⟨b0, b1, b2⟩ h; simp [ints, intss, int, bool, row, frac, fracs, map_int_inj, map_row_inj, frac_inj, map_frac_inj] at h; simp [h]) trivial
theorem l07Out_ok : FnOk Tryz.prog 109 mOut := by
  refine mk_ok fun ⟨nl, xs, a⟩ _ => ?_
  have hG : FnsOk Tryz.prog [(141, mPos)] := (.cons placeOf_ok .nil)
  refine callOk_awp (ctx_ok eqOk hG) mixed (live := [true, true, false, false, true]) (dt := []) Tryz.func109 rfl (by kernel_rfl) (by kernel_rfl) fun w0 hlens => ?_
  clear hlens
  have hp := mPos_at nl xs a
  have e : decide (0 ≤ pos xs a) = decide (a ∈ xs) := decide_eq_decide.2 pos_iff
  simp [Tryz.f109, List.range, List.range.loop, ints, intss, int, bool, row, frac, fracs, ← List.map_take, ← List.map_drop, ints, hp, e]
abbrev PrO := Nat × Bool × List Vt × Bool × List Int × Nat
theorem PrO_inj {x y : PrO} (h : [prof (x.1 : Int) x.2.1 x.2.2.1, ints x.2.2.2.1 x.2.2.2.2.1, int (x.2.2.2.2.2 : Int)] = [prof (y.1 : Int) y.2.1 y.2.2.1, ints y.2.2.2.1 y.2.2.2.2.1, int (y.2.2.2.2.2 : Int)]) : x = y := by
  obtain ⟨a, b, c, d, e, f⟩ := x
  obtain ⟨a', b', c', d', e', f'⟩ := y
  simp [prof, ints, int, map_vote_inj, map_int_inj] at h
  obtain ⟨⟨h1, h2, h3⟩, ⟨h4, h5⟩, h6⟩ := h
  rw [(by omega : a = a'), h2, h3, h4, h5, (by omega : f = f')]
noncomputable def mNum (last : Bool) : List AV → Option AV := mk (fun p => profB (p.1 : Int) p.2.2.1 = true ∧ p.2.2.2.2.2 < p.1) (fun (p : PrO) => [prof (p.1 : Int) p.2.1 p.2.2.1, ints p.2.2.2.1 p.2.2.2.2.1, int (p.2.2.2.2.2 : Int), bool last]) (fun p => int (vtrs (fun l => fdT l p.2.2.2.2.1 (p.2.2.2.2.2 : Int) last p.1) p.2.2.1))
theorem mNum_at (last : Bool) (s : Nat) (nl : Bool) (vs : List Vt) (no : Bool) (out : List Int) (a : Nat) (h : profB (s : Int) vs = true ∧ a < s) : mNum last [.agg [.v (.int .i64 (s : Int)), .sl nl 2 (vs.map vote)], .sl no 1 (out.map int), .v (.int .i64 (a : Int)), .v (.bool last)] = some (.v (.int .i64 (vtrs (fun l => fdT l out (a : Int) last s) vs))) :=
  mk_eq (enc := fun (p : PrO) => [prof (p.1 : Int) p.2.1 p.2.2.1, ints p.2.2.2.1 p.2.2.2.2.1, int (p.2.2.2.2.2 : Int), bool last]) (f := fun p => int (vtrs (fun l => fdT l p.2.2.2.2.1 (p.2.2.2.2.2 : Int) last p.1) p.2.2.1)) (x := (s, nl, vs, no, out, a)) (fun x y h => by
    have : x = y := PrO_inj (by simpa using h)
    rw [this]) h
set_option maxHeartbeats 4000000 in
theorem l07Num_call (last : Bool) (S : Nat) (nl : Bool) (vs : List Vt) (no : Bool) (out : List Int) (a : Nat) (hp : profB (S : Int) vs = true) (ha : a < S) : CallOk Tryz.prog 154 [prof (S : Int) nl vs, ints no out, int (a : Int), bool last] (int (vtrs (fun l => fdT l out (a : Int) last S) vs)) := by
  obtain ⟨h1, h2, h3⟩ := prof_facts hp
  have hG : FnsOk Tryz.prog [(109, mOut), (136, mPref)] := (.cons l07Out_ok (.cons specPref_ok .nil))
  refine callOk_awpZ [0] (ctx_ok eqOk hG) mixed (live := [true, true, true, true, true, false, false, false, true, true, false, true, true, true, false, true, true, true, true, false, false, false, false, false, true, false, false, false, false, false, false, false, false, false, true, false, false, false, false, false, false, false, false, false, false, true]) (dt := []) Tryz.func154 rfl (by kernel_rfl) (by kernel_rfl) fun w0 hlens => ?_
  clear hlens
  have z0 := vtrs_zero (p := fun l => fdT l out (a : Int) last S)
  have ho := fun x => mOut_at no out x
  simp [Tryz.f154, List.range, List.range.loop, ints, intss, int, bool, row, frac, fracs, ← List.map_take, ← List.map_drop, andThen_n, freeze, frzA, frzAL, sets, prof]
  refine awp_range (live := [true, true, true, true, true, false, false, false, true, true, false, true, true, true, false, true, true, true, true, false, false, false, false, false, true, false, false, false, false, false, false, false, false, false, true, false, false, false, false, false, false, false, false, false, false, true]) (ctx_ok eqOk hG) mixed [false, true, true, true, true, false, false, false, false, true, false, false, false, false, false, true, true, true] (vs.length) (fun k => True) (fun k => ⟨[.junk, ints no out, int (a : Int), bool last, .fp (prof (S : Int) nl vs) 0, .junk, .junk, .junk, .junk, int (vtrs (fun l => fdT l out (a : Int) last S) (vs.take k)), .junk, .junk, .junk, .junk, .junk, vts nl vs, int vs.length, int k, .junk, .junk, .junk, .junk, .junk, .junk, .junk, .junk, .junk, .junk, .junk, .junk, .junk, .junk, .junk, .junk, .junk, .junk, .junk, .junk, .junk, .junk, .junk, .junk, .junk, .junk, .junk, .junk, .junk, .junk, .junk, .junk, .junk, .junk], []⟩) ?_ (by simp [sub, slotsLe, clean, keep, refsL, refs, once, place, renL, ren, List.replicate, int, bool, prof, vts, ints, z0]) ?_ ?_ ?_
  · omega
  · trivial
  · intro k hk _ hwk
    have hs := vtrs_succ (p := fun l => fdT l out (a : Int) last S) hk
    have hb := vtrs_bd (p := fun l => fdT l out (a : Int) last S) (vs := vs.take k) fun v hv => (h3 v (List.mem_of_mem_take hv)).2
    have hv := (h3 _ (List.getElem_mem hk)).2
    rw [List.length_take] at hb
    have hw : IntKind.i64.wrap (vtrs (fun l => fdT l out (a : Int) last S) (vs.take k) + vs[k].2) = vtrs (fun l => fdT l out (a : Int) last S) (vs.take k) + vs[k].2 := wrapI (by omega) (by omega)
    generalize hB : vtrs (fun l => fdT l out (a : Int) last S) (vs.take (k + 1)) = B at *
    generalize hA : vtrs (fun l => fdT l out (a : Int) last S) (vs.take k) = A at *
    have hrl := (rk_nat (h3 _ (List.getElem_mem hk)).1).1
    have hd : nilC (.sl vs[k].1.1 1 (vs[k].1.2.map int)) = false := nilC_row (fun e => by rw [e] at hrl; simp at hrl; omega)
    have zf : fdT vs[k].1.2 out (a : Int) last 0 = true := rfl
    have hpf := fun b => mPref_at vs[k].1.1 vs[k].1.2 (a : Int) b
    simp [List.range, List.range.loop, ints, intss, int, bool, row, frac, fracs, ← List.map_take, ← List.map_drop, prof, vts, vote, hk, -nilC, hd]
    refine awp_range (live := [true, true, true, true, true, false, false, false, true, true, false, true, true, true, false, true, true, true, true, false, false, false, false, false, true, false, false, false, false, false, false, false, false, false, true, false, false, false, false, false, false, false, false, false, false, true]) (ctx_ok eqOk hG) mixed [false, true, true, true, true, false, false, false, false, true, false, true, true, true, false, true, true, true] (S) (fun b => True) (fun b => ⟨[.junk, ints no out, int (a : Int), bool last, .fp (prof (S : Int) nl vs) 0, .junk, .junk, .junk, .junk, int A, .junk, .ptr 0 [] 0 0, bool (fdT vs[k].1.2 out (a : Int) last b), int b, .junk, vts nl vs, int vs.length, int k, .junk, .junk, .junk, .junk, .junk, .junk, .junk, .junk, .junk, .junk, .junk, .junk, .junk, .junk, .junk, .junk, .junk, .junk, .junk, .junk, .junk, .junk, .junk, .junk, .junk, .junk, .junk, .junk, .junk, .junk, .junk, .junk, .junk, .junk], [⟨false, .sl false 2 [vote vs[k]]⟩]⟩) ?_ (by simp [sub, slotsLe, clean, keep, refsL, refs, once, place, renL, ren, List.replicate, int, bool, prof, vts, vote, ints, zf]) ?_ ?_ ?_
    · omega
    · trivial
    · intro b hbS _ hwb
      have hbI : (b : Int) < (S : Int) := by omega
      have hf : fdT vs[k].1.2 out (a : Int) last (b + 1) = (fdT vs[k].1.2 out (a : Int) last b && (decide ((b : Int) = a) || decide ((b : Int) ∈ out) || (pfB vs[k].1.2 a b != last))) := rfl
      have hob := ho (b : Int)
      have hpb := hpf (b : Int)
      generalize fdT vs[k].1.2 out (a : Int) last (b + 1) = F1 at *
      generalize fdT vs[k].1.2 out (a : Int) last b = F0 at *
      by_cases e : b = a
      · subst e
        have hf' : F1 = F0 := by rw [hf]; simp
        subst hf'
        simp [List.range, List.range.loop, ints, intss, int, bool, row, frac, fracs, ← List.map_take, ← List.map_drop, prof, vts, vote, hbS, hbI, hwb]
      · have e' : ¬ (b : Int) = (a : Int) := by omega
        have e2 : ((b : Int) == (a : Int)) = false := by simpa using e'
        by_cases hin : (b : Int) ∈ out
        · have hf' : F1 = F0 := by rw [hf]; simp [hin]
          subst hf'
          simp [List.range, List.range.loop, ints, intss, int, bool, row, frac, fracs, ← List.map_take, ← List.map_drop, prof, vts, vote, hbS, hbI, hwb, e, e', e2, hob, hin]
        · have hf' : F1 = (F0 && (pfB vs[k].1.2 a b != last)) := by rw [hf]; simp [hin, e, e']
          subst hf'
          generalize pfB vs[k].1.2 a b = P at *
          cases F0 <;> cases P <;> cases last <;> simp [List.range, List.range.loop, ints, intss, int, bool, row, frac, fracs, ← List.map_take, ← List.map_drop, prof, vts, vote, hbS, hbI, hwb, e, e', e2, hob, hin, hpb]
    · intro _
      cases hff : fdT vs[k].1.2 out (a : Int) last S with
      | true =>
        rw [hff, if_pos rfl] at hs
        subst hs
        simp [List.range, List.range.loop, ints, intss, int, bool, row, frac, fracs, ← List.map_take, ← List.map_drop, prof, vts, vote, hwk, hw]
      | false =>
        rw [hff, if_neg (by simp)] at hs
        simp only [Int.add_zero] at hs
        subst hs
        simp [List.range, List.range.loop, ints, intss, int, bool, row, frac, fracs, ← List.map_take, ← List.map_drop, prof, vts, vote, hwk]
  · intro _
    simp [List.range, List.range.loop, ints, intss, int, bool, row, frac, fracs, ← List.map_take, ← List.map_drop, prof, vts]
end Go.Proofs.YtigepnpiofcooaaGreat.Ax
namespace Go.Proofs.YtigepnpiofcooaaGreat.Ax
open Go Go.RowKit
set_option linter.unusedSimpArgs false
theorem numF_ok : (FnOk Tryz.prog 154 (mNum false)) := by
  exact mk_ok fun ⟨S, nl, vs, no, out, a⟩ h => l07Num_call false S nl vs no out a h.1 h.2
theorem numT_ok : (FnOk Tryz.prog 154 (mNum true)) := by
  exact mk_ok fun ⟨S, nl, vs, no, out, a⟩ h => l07Num_call true S nl vs no out a h.1 h.2
noncomputable def mL7s : List AV → Option AV := mk (fun p => profB (p.1 : Int) p.2.2.1 = true ∧ p.2.2.2.2.2 < p.1) (fun (p : PrO) => [prof (p.1 : Int) p.2.1 p.2.2.1, ints p.2.2.2.1 p.2.2.2.2.1, int (p.2.2.2.2.2 : Int)]) (fun p => int (w2T p.2.2.1 (lfO p.1 p.2.2.2.2.1) (p.2.2.2.2.2 : Int)))
theorem mL7s_at (s : Nat) (nl : Bool) (vs : List Vt) (no : Bool) (out : List Int) (a : Nat) (h : profB (s : Int) vs = true ∧ a < s) : mL7s [.agg [.v (.int .i64 (s : Int)), .sl nl 2 (vs.map vote)], .sl no 1 (out.map int), .v (.int .i64 (a : Int))] = some (.v (.int .i64 (w2T vs (lfO s out) (a : Int)))) :=
  mk_eq (enc := fun (p : PrO) => [prof (p.1 : Int) p.2.1 p.2.2.1, ints p.2.2.2.1 p.2.2.2.2.1, int (p.2.2.2.2.2 : Int)]) (f := fun p => int (w2T p.2.2.1 (lfO p.1 p.2.2.2.2.1) (p.2.2.2.2.2 : Int))) (x := (s, nl, vs, no, out, a)) (fun x y h => by rw [PrO_inj h]) h
theorem smT_bd {s : Int} {vs : List Vt} (h : profB s vs = true) {out : List Int} {a : Int} : ∀ b : Nat, 0 ≤ smT vs out a b ∧ smT vs out a b ≤ 24000 * b
  | 0 => by simp [smT]
  | b + 1 => by
    have := smT_bd h (out := out) (a := a) b
    have := prT_bd h a b
    unfold smT
    split <;> omega
set_option maxHeartbeats 2000000 in
theorem l07Sum_ok : FnOk Tryz.prog 155 mL7s := by
  refine mk_ok fun ⟨S, nl, vs, no, out, a⟩ ⟨hp, ha⟩ => ?_
  simp only at hp ha
  obtain ⟨h1, h2, h3⟩ := prof_facts hp
  have hG : FnsOk Tryz.prog [(109, mOut), (101, mPair)] := (.cons l07Out_ok (.cons l04Pair_ok .nil))
  refine callOk_awpZ [0] (ctx_ok eqOk hG) mixed (live := [true, true, true, true, false, false, true, true, true, false, false, false, true, false, false, false, false, false, false, false, false, false, false, true]) (dt := []) Tryz.func155 rfl (by kernel_rfl) (by kernel_rfl) fun w0 hlens => ?_
  clear hlens
  have ho := fun x => mOut_at no out x
  have hm := fun b => mPair_at (S : Int) nl vs (a : Int) b hp
  have z0 : smT vs out (a : Int) 0 = 0 := rfl
  rw [← smT_eq]
  simp [Tryz.f155, List.range, List.range.loop, ints, intss, int, bool, row, frac, fracs, ← List.map_take, ← List.map_drop, andThen_n, freeze, frzA, frzAL, sets, prof]
  refine awp_range (live := [true, true, true, true, false, false, true, true, true, false, false, false, true, false, false, false, false, false, false, false, false, false, false, true]) (ctx_ok eqOk hG) mixed [false, true, true, true, false, false, false, true, true] (S) (fun b => True) (fun b => ⟨[.junk, ints no out, int (a : Int), .fp (prof (S : Int) nl vs) 0, .junk, .junk, .junk, int (smT vs out (a : Int) b), int b, .junk, .junk, .junk, .junk, .junk, .junk, .junk, .junk, .junk, .junk, .junk, .junk, .junk, .junk, .junk, .junk, .junk, .junk, .junk, .junk, .junk, .junk], []⟩) ?_ (by simp [sub, slotsLe, clean, keep, refsL, refs, once, place, renL, ren, List.replicate, int, bool, prof, ints, z0]) ?_ ?_ ?_
  · omega
  · trivial
  · intro b hb _ hwb
    have hbI : (b : Int) < (S : Int) := by omega
    have hs : smT vs out (a : Int) (b + 1) = smT vs out (a : Int) b + if (b : Int) ≠ (a : Int) ∧ (b : Int) ∉ out then prT vs a b else 0 := rfl
    have hbd := smT_bd hp (out := out) (a := (a : Int)) b
    have hpb := prT_bd hp (a : Int) (b : Int)
    have hob := ho (b : Int)
    have hmb := hm (b : Int)
    have hw : IntKind.i64.wrap (smT vs out (a : Int) b + prT vs a b) = smT vs out (a : Int) b + prT vs a b := wrapI (by omega) (by omega)
    generalize smT vs out (a : Int) (b + 1) = B at *
    generalize smT vs out (a : Int) b = A at *
    by_cases e : b = a
    · rw [if_neg (fun h => h.1 (by omega)), Int.add_zero] at hs
      subst hs
      subst e
      simp [List.range, List.range.loop, ints, intss, int, bool, row, frac, fracs, ← List.map_take, ← List.map_drop, prof, hb, hbI, hwb]
    · have e' : ¬ (b : Int) = (a : Int) := by omega
      have e2 : ((b : Int) == (a : Int)) = false := by simpa using e'
      by_cases hin : (b : Int) ∈ out
      · rw [if_neg (fun h => h.2 hin), Int.add_zero] at hs
        subst hs
        simp [List.range, List.range.loop, ints, intss, int, bool, row, frac, fracs, ← List.map_take, ← List.map_drop, prof, hb, hbI, hwb, e, e', e2, hob, hin]
      · rw [if_pos ⟨e', hin⟩] at hs
        subst hs
        simp [List.range, List.range.loop, ints, intss, int, bool, row, frac, fracs, ← List.map_take, ← List.map_drop, prof, hb, hbI, hwb, e, e', e2, hob, hin, hmb, hw]
  · intro _
    simp [List.range, List.range.loop, ints, intss, int, bool, row, frac, fracs, ← List.map_take, ← List.map_drop, prof]
noncomputable def mBad (k : Nat) : List AV → Option AV := mk (fun p => profB (p.1 : Int) p.2.2.1 = true ∧ p.2.2.2.2.2 < p.1) (fun (p : PrO) => [prof (p.1 : Int) p.2.1 p.2.2.1, ints p.2.2.2.1 p.2.2.2.2.1, int (p.2.2.2.2.2 : Int), int (k : Int)]) (fun p => int (wkT p.2.2.1 k (lfO p.1 p.2.2.2.2.1) (p.2.2.2.2.2 : Int)))
theorem mBad_at (k : Nat) (s : Nat) (nl : Bool) (vs : List Vt) (no : Bool) (out : List Int) (a : Nat) (h : profB (s : Int) vs = true ∧ a < s) : mBad k [.agg [.v (.int .i64 (s : Int)), .sl nl 2 (vs.map vote)], .sl no 1 (out.map int), .v (.int .i64 (a : Int)), .v (.int .i64 (k : Int))] = some (.v (.int .i64 (wkT vs k (lfO s out) (a : Int)))) :=
  mk_eq (enc := fun (p : PrO) => [prof (p.1 : Int) p.2.1 p.2.2.1, ints p.2.2.2.1 p.2.2.2.2.1, int (p.2.2.2.2.2 : Int), int (k : Int)]) (f := fun p => int (wkT p.2.2.1 k (lfO p.1 p.2.2.2.2.1) (p.2.2.2.2.2 : Int))) (x := (s, nl, vs, no, out, a)) (fun x y h => by
    have : x = y := PrO_inj (by simpa using h)
    rw [this]) h
theorem fd_vtrs {S : Nat} {vs : List Vt} {out : List Int} {a : Nat} {last : Bool} (hp : profB (S : Int) vs = true) (ha : a < S) : vtrs (fun l => fdT l out (a : Int) last S) vs = vtrs (fun l => !((lfO S out).any fun b => if last = true then pfB l a b else pfB l b a)) vs := by
  obtain ⟨_, _, h3⟩ := prof_facts hp
  exact vtrs_congr fun v hv => fdT_eq (h3 v hv).1 ha
theorem bad0_ok : (FnOk Tryz.prog 137 (mBad 0)) := by
  refine mk_ok fun ⟨S, nl, vs, no, out, a⟩ ⟨hp, ha⟩ => ?_
  simp only at hp ha
  have hz := mNum_at false S nl vs no out a ⟨hp, ha⟩
  rw [fd_vtrs hp ha] at hz
  have e : wkT vs 0 (lfO S out) (a : Int) = vtrs (fun l => !((lfO S out).any fun b => if false = true then pfB l a b else pfB l b a)) vs := by simp [wkT, w0T]
  rw [← e] at hz
  have hG : FnsOk Tryz.prog [(154, (mNum false)), (155, mL7s)] := (.cons numF_ok (.cons l07Sum_ok .nil))
  refine callOk_awpZ [0] (ctx_ok eqOk hG) mixed (live := [true, true, true, true, true, false, false, false, true, true, true, false, false, false, false, false, true]) (dt := []) Tryz.func137 rfl (by kernel_rfl) (by kernel_rfl) fun w0 hlens => ?_
  clear hlens
  simp [Tryz.f137, List.range, List.range.loop, ints, intss, int, bool, row, frac, fracs, ← List.map_take, ← List.map_drop, andThen_n, freeze, frzA, frzAL, sets, prof, hz]
theorem bad1_ok : (FnOk Tryz.prog 137 (mBad 1)) := by
  refine mk_ok fun ⟨S, nl, vs, no, out, a⟩ ⟨hp, ha⟩ => ?_
  simp only at hp ha
  obtain ⟨_, h2, h3⟩ := prof_facts hp
  have hz := mNum_at true S nl vs no out a ⟨hp, ha⟩
  have hb := vtrs_bd (p := fun l => fdT l out (a : Int) true S) fun v hv => (h3 v hv).2
  have e : wkT vs 1 (lfO S out) (a : Int) = - vtrs (fun l => fdT l out (a : Int) true S) vs := by rw [fd_vtrs hp ha]; simp [wkT, w1T]
  rw [e]
  generalize vtrs (fun l => fdT l out (a : Int) true S) vs = X at *
  have hw : IntKind.i64.wrap (-X) = -X := wrapI (by omega) (by omega)
  have hG : FnsOk Tryz.prog [(154, (mNum true)), (155, mL7s)] := (.cons numT_ok (.cons l07Sum_ok .nil))
  refine callOk_awpZ [0] (ctx_ok eqOk hG) mixed (live := [true, true, true, true, true, false, false, false, true, true, true, false, false, false, false, false, true]) (dt := []) Tryz.func137 rfl (by kernel_rfl) (by kernel_rfl) fun w0 hlens => ?_
  clear hlens
  simp [Tryz.f137, List.range, List.range.loop, ints, intss, int, bool, row, frac, fracs, ← List.map_take, ← List.map_drop, andThen_n, freeze, frzA, frzAL, sets, prof, hz, hw]
theorem bad2_ok : (FnOk Tryz.prog 137 (mBad 2)) := by
  refine mk_ok fun ⟨S, nl, vs, no, out, a⟩ ⟨hp, ha⟩ => ?_
  simp only at hp ha
  have hz := mL7s_at S nl vs no out a ⟨hp, ha⟩
  have e : wkT vs 2 (lfO S out) (a : Int) = w2T vs (lfO S out) (a : Int) := by simp [wkT]
  rw [← e] at hz
  have hG : FnsOk Tryz.prog [(154, (mNum true)), (155, mL7s)] := (.cons numT_ok (.cons l07Sum_ok .nil))
  refine callOk_awpZ [0] (ctx_ok eqOk hG) mixed (live := [true, true, true, true, true, false, false, false, true, true, true, false, false, false, false, false, true]) (dt := []) Tryz.func137 rfl (by kernel_rfl) (by kernel_rfl) fun w0 hlens => ?_
  clear hlens
  simp [Tryz.f137, List.range, List.range.loop, ints, intss, int, bool, row, frac, fracs, ← List.map_take, ← List.map_drop, andThen_n, freeze, frzA, frzAL, sets, prof, hz]
set_option maxHeartbeats 4000000 in
theorem l07Order_call (K : Nat) (hK : (FnOk Tryz.prog 137 (mBad K))) (S : Nat) (nl : Bool) (vs : List Vt) (hp : profB (S : Int) vs = true) : CallOk Tryz.prog 104 [prof (S : Int) nl vs, int (K : Int)] (.sl false 1 ((elT (wkT vs K) S S).map int)) := by
  obtain ⟨h1, h2, h3⟩ := prof_facts hp
  have hpp := mProf_at (S : Int) nl vs
  rw [hp] at hpp
  have hG : FnsOk Tryz.prog [(16, mProf), (109, mOut), (137, (mBad K))] := (.cons specProf_ok (.cons l07Out_ok (.cons hK .nil)))
  refine callOk_awpZ [0] (ctx_ok eqOk hG) mixed (live := [true, true, true, false, true, true, true, true, false, false, true, false, false, false, false, false, true, false, false, false, true, false, false, false, false, false, false, false, false, false, false, false, false, false, false, false, false, false, false, false, false, false, false, true]) (dt := [(9, ⟨[], [], []⟩)]) Tryz.func104 rfl (by kernel_rfl) (by kernel_rfl) fun w0 hlens => ?_
  clear hlens
  have z0 : elT (wkT vs K) S 0 = [] := rfl
  simp [Tryz.f104, List.range, List.range.loop, ints, intss, int, bool, row, frac, fracs, ← List.map_take, ← List.map_drop, andThen_n, freeze, frzA, frzAL, sets, prof, hpp]
  refine awp_range (live := [true, true, true, false, true, true, true, true, false, false, true, false, false, false, false, false, true, false, false, false, true, false, false, false, false, false, false, false, false, false, false, false, false, false, false, false, false, false, false, false, false, false, false, true]) (ctx_ok eqOk hG) mixed [false, true, true, false, false, true] (S) (fun k => True) (fun k => ⟨[.junk, int (K : Int), .fp (prof (S : Int) nl vs) 0, .junk, .junk, .ref 0 [] 0 k, .junk, .junk, .junk, .junk, .junk, .junk, .junk, .junk, .junk, .junk, .junk, .junk, .junk, .junk, .junk, .junk, .junk, .junk, .junk, .junk, .junk, .junk, .junk, .junk, .junk, .junk, .junk, .junk, .junk, .junk, .junk, .junk, .junk, .junk, .junk, .junk, .junk, .junk, .junk, .junk, .junk, .junk, .junk, .junk], [⟨true, .sl false 1 ((elT (wkT vs K) S k).map int)⟩]⟩) ?_ (by simp [sub, slotsLe, clean, keep, refsL, refs, once, place, renL, ren, List.replicate, int, bool, prof, z0]) ?_ ?_ ?_
  · omega
  · trivial
  · intro k hk _ hwk
    obtain ⟨f1, f2, f3⟩ := elT_facts (W := wkT vs K) (s := S) (k := k) (by omega)
    have hnx : elT (wkT vs K) S (k + 1) = elT (wkT vs K) S k ++ [elp (wkT vs K (lfO S (elT (wkT vs K) S k))) (lfO S (elT (wkT vs K) S k))] := rfl
    generalize elT (wkT vs K) S k = out at *
    have hkI : (k : Int) < (S : Int) := by omega
    have ho := fun x => mOut_at false out x
    have hbd := fun (a : Nat) (ha : a < S) => mBad_at K S nl vs false out a ⟨hp, ha⟩
    have hpq := fun n => pkS_eq (W := wkT vs K (lfO S out)) (q := fun a => !decide ((a : Int) ∈ out)) n
    have hps := hpq S
    change _ = if lfO S out = [] then -1 else elp (wkT vs K (lfO S out)) (lfO S out) at hps
    rw [if_neg (fun e => by rw [e] at f2; simp at f2; omega)] at hps
    generalize hW : wkT vs K (lfO S out) = W at *
    have zp : pkS W (fun a => !decide ((a : Int) ∈ out)) 0 = -1 := rfl
    have hot : out.take k = out := List.take_of_length_le (by omega)
    simp [List.range, List.range.loop, ints, intss, int, bool, row, frac, fracs, ← List.map_take, ← List.map_drop, prof, hkI, hk, f1]
    refine awp_range (live := [true, true, true, false, true, true, true, true, false, false, true, false, false, false, false, false, true, false, false, false, true, false, false, false, false, false, false, false, false, false, false, false, false, false, false, false, false, false, false, false, false, false, false, true]) (ctx_ok eqOk hG) mixed [false, true, true, false, false, true, true, true] (S) (fun a => True) (fun a => ⟨[.junk, int (K : Int), .fp (prof (S : Int) nl vs) 0, .junk, .junk, .ref 0 [] 0 k, int (pkS W (fun a => !decide ((a : Int) ∈ out)) a), int a, .junk, .junk, .junk, .junk, .junk, .junk, .junk, .junk, .junk, .junk, .junk, .junk, .junk, .junk, .junk, .junk, .junk, .junk, .junk, .junk, .junk, .junk, .junk, .junk, .junk, .junk, .junk, .junk, .junk, .junk, .junk, .junk, .junk, .junk, .junk, .junk, .junk, .junk, .junk, .junk, .junk, .junk], [⟨true, .sl false 1 (out.map int)⟩]⟩) ?_ (by simp [sub, slotsLe, clean, keep, refsL, refs, once, place, renL, ren, List.replicate, int, bool, prof, zp, f1]) ?_ ?_ ?_
    · omega
    · trivial
    · intro a ha _ hwa
      have haI : (a : Int) < (S : Int) := by omega
      have hs : pkS W (fun a => !decide ((a : Int) ∈ out)) (a + 1) = if (!decide ((a : Int) ∈ out)) = true ∧ (pkS W (fun a => !decide ((a : Int) ∈ out)) a < 0 ∨ W a ≤ W (pkS W (fun a => !decide ((a : Int) ∈ out)) a)) then (a : Int) else pkS W (fun a => !decide ((a : Int) ∈ out)) a := rfl
      have hq := hpq a
      have hoa := ho (a : Int)
      have hba := hbd a ha
      by_cases hin : (a : Int) ∈ out
      · rw [if_neg (by simp [hin])] at hs
        generalize pkS W (fun a => !decide ((a : Int) ∈ out)) (a + 1) = B at *
        generalize pkS W (fun a => !decide ((a : Int) ∈ out)) a = A at *
        subst hs
        simp [List.range, List.range.loop, ints, intss, int, bool, row, frac, fracs, ← List.map_take, ← List.map_drop, prof, haI, ha, hwa, f1, hot, hoa, hin]
      · by_cases hneg : pkS W (fun a => !decide ((a : Int) ∈ out)) a < 0
        · rw [if_pos ⟨by simp [hin], .inl hneg⟩] at hs
          generalize pkS W (fun a => !decide ((a : Int) ∈ out)) (a + 1) = B at *
          generalize pkS W (fun a => !decide ((a : Int) ∈ out)) a = A at *
          subst hs
          simp [List.range, List.range.loop, ints, intss, int, bool, row, frac, fracs, ← List.map_take, ← List.map_drop, prof, haI, ha, hwa, f1, hot, hoa, hin, hneg]
        · obtain ⟨i, hi, hiS⟩ : ∃ i : Nat, pkS W (fun a => !decide ((a : Int) ∈ out)) a = i ∧ i < S := by
            by_cases hnil : selTo (fun a => !decide ((a : Int) ∈ out)) a = []
            · rw [if_pos hnil] at hq; omega
            · rw [if_neg hnil] at hq
              obtain ⟨i, h1, h2, _⟩ := selTo_mem (elp_mem (W := W) (List.length_pos_iff.2 hnil))
              exact ⟨i, by rw [hq, h1], by omega⟩
          have hbi := hbd i hiS
          rw [hi] at hs hneg
          by_cases hle : W a ≤ W i
          · rw [if_pos ⟨by simp [hin], .inr hle⟩] at hs
            simp [List.range, List.range.loop, ints, intss, int, bool, row, frac, fracs, ← List.map_take, ← List.map_drop, prof, haI, ha, hwa, f1, hot, hoa, hin, hi, hba, hbi, hle, hs, nlt0]
          · rw [if_neg (fun h => h.2.elim (fun h => hneg h) hle)] at hs
            simp [List.range, List.range.loop, ints, intss, int, bool, row, frac, fracs, ← List.map_take, ← List.map_drop, prof, haI, ha, hwa, f1, hot, hoa, hin, hi, hba, hbi, hle, hs, nlt0]
    · intro _
      have hbb : (k + 1) * 8 ≤ 140737488355328 ∧ k + 1 ≤ 4611686018427387904 := by omega
      simp [List.range, List.range.loop, ints, intss, int, bool, row, frac, fracs, ← List.map_take, ← List.map_drop, prof, f1, hps, hbb, hnx]
  · intro _
    obtain ⟨f1, f2, f3⟩ := elT_facts (W := wkT vs K) (s := S) (k := S) (by omega)
    generalize elT (wkT vs K) S S = A at *
    have hAt : A.take S = A := List.take_of_length_le (by omega)
    simp [List.range, List.range.loop, ints, intss, int, bool, row, frac, fracs, ← List.map_take, ← List.map_drop, prof, f1, hAt]
theorem specInstant_ok : FnOk Tryz.prog 49 mIns := by
  refine mk_ok fun ⟨S, nl, vs⟩ hp => ?_
  simp only at hp
  obtain ⟨m, hm, hz⟩ := as_model (l07Order_call 0 bad0_ok S nl vs hp)
  have hG : FnsOk Tryz.prog [(104, m)] := (.cons hm .nil)
  refine callOk_awpZ [0] (ctx_ok eqOk hG) mixed (live := [true, true, true]) (dt := []) Tryz.func49 rfl (by kernel_rfl) (by kernel_rfl) fun w0 hlens => ?_
  clear hlens
  simp only [prof, int] at hz
  have hl := (elT_facts (W := wkT vs 0) (s := S) (Nat.le_refl _)).1
  generalize elT (wkT vs 0) S S = A at *
  have ht : A.take A.length = A := List.take_length
  simp at hz
  simp [Tryz.f49, List.range, List.range.loop, ints, intss, int, bool, row, frac, fracs, ← List.map_take, ← List.map_drop, andThen_n, freeze, frzA, frzAL, sets, prof, hz, ht]
theorem specCoombs_ok : FnOk Tryz.prog 50 mCoo := by
  refine mk_ok fun ⟨S, nl, vs⟩ hp => ?_
  simp only at hp
  obtain ⟨m, hm, hz⟩ := as_model (l07Order_call 1 bad1_ok S nl vs hp)
  have hG : FnsOk Tryz.prog [(104, m)] := (.cons hm .nil)
  refine callOk_awpZ [0] (ctx_ok eqOk hG) mixed (live := [true, true, true]) (dt := []) Tryz.func50 rfl (by kernel_rfl) (by kernel_rfl) fun w0 hlens => ?_
  clear hlens
  simp only [prof, int] at hz
  have hl := (elT_facts (W := wkT vs 1) (s := S) (Nat.le_refl _)).1
  generalize elT (wkT vs 1) S S = A at *
  have ht : A.take A.length = A := List.take_length
  simp at hz
  simp [Tryz.f50, List.range, List.range.loop, ints, intss, int, bool, row, frac, fracs, ← List.map_take, ← List.map_drop, andThen_n, freeze, frzA, frzAL, sets, prof, hz, ht]
theorem specBaldwin_ok : FnOk Tryz.prog 51 mBal := by
  refine mk_ok fun ⟨S, nl, vs⟩ hp => ?_
  simp only at hp
  obtain ⟨m, hm, hz⟩ := as_model (l07Order_call 2 bad2_ok S nl vs hp)
  have hG : FnsOk Tryz.prog [(104, m)] := (.cons hm .nil)
  refine callOk_awpZ [0] (ctx_ok eqOk hG) mixed (live := [true, true, true]) (dt := []) Tryz.func51 rfl (by kernel_rfl) (by kernel_rfl) fun w0 hlens => ?_
  clear hlens
  simp only [prof, int] at hz
  have hl := (elT_facts (W := wkT vs 2) (s := S) (Nat.le_refl _)).1
  generalize elT (wkT vs 2) S S = A at *
  have ht : A.take A.length = A := List.take_length
  simp at hz
  simp [Tryz.f51, List.range, List.range.loop, ints, intss, int, bool, row, frac, fracs, ← List.map_take, ← List.map_drop, andThen_n, freeze, frzA, frzAL, sets, prof, hz, ht]
end Go.Proofs.YtigepnpiofcooaaGreat.Ax
