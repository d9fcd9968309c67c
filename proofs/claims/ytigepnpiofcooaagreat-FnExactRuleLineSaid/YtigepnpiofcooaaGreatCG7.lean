/-
  Seats: what the two programs answer, as plain functions. No condition.
-/
import Derived.Test.YtigepnpiofcooaaGreatCG6
import Derived.Test.YtigepnpiofcooaaGreatCG1
import Derived.Test.YtigepnpiofcooaaGreatCG5
namespace Go.Proofs.YtigepnpiofcooaaGreat.Ax
open Go Go.RowKit
theorem sum_bd {c : Int} : ∀ {l : List Int}, (∀ x ∈ l, 0 ≤ x ∧ x ≤ c) → 0 ≤ l.sum ∧ l.sum ≤ c * l.length
  | [], _ => by simp
  | x :: l, h => by
    have h1 := h x (by simp)
    have h2 := sum_bd (l := l) fun y hy => h y (by simp [hy])
    simp only [List.sum_cons, List.length_cons]
    rw [Int.natCast_add, Int.mul_add]
    omega
theorem inR_iff {lo hi x : Int} : inR lo hi x = true ↔ lo ≤ x ∧ x ≤ hi := by simp [inR]
theorem sum_take_succ {xs : List Int} {k : Nat} (h : k < xs.length) : (xs.take (k + 1)).sum = (xs.take k).sum + xs[k] := by
  rw [List.take_succ_eq_append_getElem h, List.sum_append, List.sum_singleton]
def inc1 (o : List Int) (i : Int) : List Int := o.set i.toNat (at0 o i.toNat + 1)
def incs (o : List Int) (l : List Int) : List Int := l.foldl inc1 o
theorem inc1_len {o : List Int} {i : Int} : (inc1 o i).length = o.length := by simp [inc1]
theorem incs_snoc {o l : List Int} {i : Int} : incs o (l ++ [i]) = inc1 (incs o l) i := by simp [incs, List.foldl_append]
theorem incs_len {o : List Int} : ∀ {l : List Int}, (incs o l).length = o.length := by
  intro l
  unfold incs
  induction l generalizing o with
  | nil => rfl
  | cons x l ih => rw [List.foldl_cons, ih, inc1_len]
theorem set_sum {v : Int} : ∀ {o : List Int} {i : Nat}, i < o.length → (o.set i (at0 o i + v)).sum = o.sum + v
  | x :: o, 0, _ => by simp [at0]; omega
  | x :: o, i + 1, h => by
    have := set_sum (v := v) (o := o) (i := i) (by simpa using h)
    simp only [List.set_cons_succ, List.sum_cons, at0, List.getD_cons_succ] at this ⊢
    omega
theorem inc1_sum {o : List Int} {i : Int} (h : i.toNat < o.length) : (inc1 o i).sum = o.sum + 1 := set_sum h
theorem inc1_bd {o : List Int} {i : Int} {c : Int} (h : ∀ x ∈ o, 0 ≤ x ∧ x ≤ c) (hi : i.toNat < o.length) : ∀ x ∈ inc1 o i, 0 ≤ x ∧ x ≤ c + 1 := fun x hx => by
  rcases List.mem_or_eq_of_mem_set hx with hx | rfl
  · have := h x hx; omega
  · have := h _ (List.getElem_mem hi)
    rw [at0_eq hi]; omega
theorem incs_facts {o : List Int} {c : Int} (h : ∀ x ∈ o, 0 ≤ x ∧ x ≤ c) : ∀ {l : List Int}, (∀ i ∈ l, i.toNat < o.length) → (incs o l).sum = o.sum + l.length ∧ ∀ x ∈ incs o l, 0 ≤ x ∧ x ≤ c + l.length := by
  intro l
  unfold incs
  induction l generalizing o c with
  | nil => intro _; exact ⟨by simp, fun x hx => by have := h x hx; simp; omega⟩
  | cons i l ih =>
    intro hl
    have hi := hl i (by simp)
    obtain ⟨h1, h2⟩ := ih (o := inc1 o i) (c := c + 1) (inc1_bd h hi) fun j hj => by rw [inc1_len]; exact hl j (by simp [hj])
    rw [List.foldl_cons, List.length_cons]
    refine ⟨by rw [h1, inc1_sum hi]; omega, fun x hx => ?_⟩
    have := h2 x hx
    omega
def lexS (rs : List Int) (x y : Int) : Prop := at0 rs y.toNat < at0 rs x.toNat ∨ (at0 rs x.toNat = at0 rs y.toNat ∧ x < y)
def rstC (rs : List Int) (a b : Int) : Int := at0 rs b.toNat - at0 rs a.toNat
def ordH (rs : List Int) : List Int := isort (rstC rs) (idx rs.length)
theorem ins_lex {rs : List Int} {ys : List Int} {x : Int} (h : ys.Pairwise (lexS rs)) (hx : ∀ y ∈ ys, y < x) : (ins (rstC rs) ys x).Pairwise (lexS rs) := by
  obtain ⟨k, h1, h2, h3⟩ := split_at (fun a b => at0 rs b.toNat ≤ at0 rs a.toNat) x ys
  have e := ins_split (c := rstC rs) (le := fun a b => at0 rs b.toNat ≤ at0 rs a.toNat) (D := fun _ => True) (fun x y _ _ => by unfold rstC; omega) (fun x y z _ _ _ h h' => Int.le_trans h' h) (ys := ys) (x := x) (k := k) (fun _ _ => trivial) trivial
    (h.imp fun h => by rcases h with h | ⟨h, _⟩ <;> omega) h1 h2 h3
  rw [e, List.pairwise_append, List.pairwise_cons]
  have hge : ∀ j (hj : j < ys.length), k ≤ j → at0 rs ys[j].toNat < at0 rs x.toNat := fun j hj hkj => by
    rcases h3 with h3 | ⟨hkl, h3⟩
    · omega
    · by_cases e : k = j
      · subst e; omega
      · rcases List.pairwise_iff_getElem.1 h k j hkl hj (by omega) with h | ⟨h, _⟩ <;> omega
  refine ⟨h.take, ⟨fun y hy => ?_, h.drop⟩, fun a ha b hb => ?_⟩
  · obtain ⟨i, hi, rfl⟩ := List.getElem_of_mem hy
    rw [List.getElem_drop]
    exact .inl (hge _ _ (by omega))
  · obtain ⟨i, hi, rfl⟩ := List.getElem_of_mem ha
    rw [List.getElem_take]
    have hik : i < k := by simp at hi; omega
    have hil : i < ys.length := by omega
    rcases List.mem_cons.1 hb with rfl | hb
    · have := h2 i hil hik
      have := hx _ (List.getElem_mem hil)
      unfold lexS; omega
    · obtain ⟨j, hj, rfl⟩ := List.getElem_of_mem hb
      rw [List.getElem_drop]
      exact List.pairwise_iff_getElem.1 h i (k + j) hil (by simp at hj; omega) (by omega)
theorem idx_succ {m : Nat} : idx (m + 1) = idx m ++ [(m : Int)] := by simp [idx, List.range_succ]
theorem isort_lex {rs : List Int} : ∀ m : Nat, (isort (rstC rs) (idx m)).Pairwise (lexS rs)
  | 0 => by simp [idx, isort]
  | m + 1 => by
    rw [idx_succ, isort_snoc]
    refine ins_lex (isort_lex m) fun y hy => ?_
    rw [isort_mem] at hy
    simp only [idx, List.mem_map, List.mem_range] at hy
    obtain ⟨i, hi, rfl⟩ := hy
    omega
theorem ordH_len {rs : List Int} : (ordH rs).length = rs.length := by simp [ordH, isort_len, idx]
theorem ordH_mem {rs : List Int} {x : Int} : x ∈ ordH rs ↔ ∃ i : Nat, i < rs.length ∧ x = i := by
  unfold ordH
  rw [isort_mem]
  simp only [idx, List.mem_map, List.mem_range]
  exact ⟨fun ⟨i, h, e⟩ => ⟨i, h, e.symm⟩, fun ⟨i, h, e⟩ => ⟨i, h, e.symm⟩⟩
end Go.Proofs.YtigepnpiofcooaaGreat.Ax
namespace Go.Proofs.YtigepnpiofcooaaGreat.Ax
open Go Go.RowKit
set_option linter.unusedSimpArgs false
def vtB (s : Int) (v : Vt) : Bool := rankB s v.1.2 && inR 1 1000 v.2
def profB (s : Int) (vs : List Vt) : Bool := inR 1 5 s && decide (vs.length ≤ 24) && vs.all (vtB s)
set_option maxHeartbeats 1000000 in
theorem indexVotes {g : FuncId} {caps : List AV} (hc : Pure caps) (p : Vt → Bool) (nl : Bool) (xs : List Vt) (hg : ∀ x ∈ xs, CallOk Tryz.prog g (vote x :: caps) (.v (.bool (p x)))) :
    CallOk Tryz.prog 111 [vts nl xs, .fn g caps] (int (idxOf p xs)) := by
  have hG : FnsOk Tryz.prog [(g, mk (fun x => x ∈ xs) (fun x : Vt => vote x :: caps) (fun x => .v (.bool (p x))))] := .cons (mk_ok fun x hx => hg x hx) .nil
  have hat : ∀ k (h : k < xs.length), mk (fun x => x ∈ xs) (fun x : Vt => vote x :: caps) (fun x => AV.v (.bool (p x))) (vote xs[k] :: caps) = some (.v (.bool (p xs[k]))) := fun k h =>
    mk_eq (enc := fun x : Vt => vote x :: caps) (x := xs[k]) (by intro x y h; simp only [List.cons.injEq, and_true] at h; rw [vote_inj h]) (List.getElem_mem h)
  generalize mk (fun x => x ∈ xs) (fun x : Vt => vote x :: caps) (fun x => AV.v (.bool (p x))) = m at hG hat
  refine callOk_awp (ctx_ok eqOk hG) mixed (live := [true, true, false, false, true, true, false, true, true, true, false, false, false, false, false, false, true]) (dt := []) Tryz.func111 rfl (by kernel_rfl) (by kernel_rfl) fun w0 hlens => ?_
  have hlen : xs.length ≤ 9223372036854775807 := by
    have := hlens.1
    simp only [vts, lens, List.length_map] at this
    exact this.1.1
  clear hlens
  simp [Tryz.f111, List.range, List.range.loop, ints, intss, int, bool, row, frac, fracs, ← List.map_take, ← List.map_drop, vts, hc.res, hc.refs, hc.ren]
  refine awp_range (live := [true, true, false, false, true, true, false, true, true, true, false, false, false, false, false, false, true]) (ctx_ok eqOk hG) mixed [true, true, false, false, false, false, false, true, true] (xs.length) (fun k => ∀ j (hj : j < xs.length), j < k → p xs[j] = false) (fun k => ⟨[vts nl xs, .fn g caps, .junk, .junk, .junk, .junk, .junk, int xs.length, int k, .junk, .junk, .junk, .junk, .junk, .junk, .junk, .junk, .junk, .junk], []⟩) ?_ (by simp [sub, slotsLe, clean, keep, refsL, refs, once, place, renL, ren, List.replicate, int, bool, vts, hc.refs, hc.ren]) ?_ ?_ ?_
  · exact hlen
  · intro j hj h; omega
  · intro k hk hno hwk
    have hz := hat k hk
    simp only [vote] at hz
    cases hp : p xs[k] with
    | true =>
      rw [hp] at hz
      simp [List.range, List.range.loop, ints, intss, int, bool, row, frac, fracs, ← List.map_take, ← List.map_drop, vts, vote, hk, hc.res, hc.refs, hc.ren, hz, idxOf_found hk hno hp]
    | false =>
      rw [hp] at hz
      simp [List.range, List.range.loop, ints, intss, int, bool, row, frac, fracs, ← List.map_take, ← List.map_drop, vts, vote, hk, hwk, hc.res, hc.refs, hc.ren, hz]
      intro j hj hjk
      by_cases e : j = k
      · subst e; exact hp
      · exact hno j hj (by omega)
  · intro hno
    simp [List.range, List.range.loop, ints, intss, int, bool, row, frac, fracs, ← List.map_take, ← List.map_drop, vts, idxOf_none hno]
mutual
theorem frzA_pure (L : List Nat) (toks : List Tok) : ∀ c : AV, refs c = [] → frzA L toks c = c
  | .v _, _ => rfl
  | .agg cs, h => by simp only [frzA]; rw [frzAL_pure' L toks cs (by simpa [refs] using h)]
  | .tup cs, h => by simp only [frzA]; rw [frzAL_pure' L toks cs (by simpa [refs] using h)]
  | .fn _ cs, h => by simp only [frzA]; rw [frzAL_pure' L toks cs (by simpa [refs] using h)]
  | .sl _ _ _, _ => rfl
  | .fp _ _, _ => rfl
  | .junk, _ => rfl
  | .ref _ _ _ _, h => by simp [refs] at h
  | .ptr _ _ _ _, h => by simp [refs] at h
theorem frzAL_pure' (L : List Nat) (toks : List Tok) : ∀ cs : List AV, refsL cs = [] → frzAL L toks cs = cs
  | [], _ => rfl
  | c :: cs, h => by
    simp only [refsL, List.append_eq_nil_iff] at h
    simp only [frzAL]
    rw [frzA_pure L toks c h.1, frzAL_pure' L toks cs h.2]
end
theorem frzAL_pure {caps : List AV} (hc : Pure caps) {L : List Nat} {toks : List Tok} : frzAL L toks caps = caps := frzAL_pure' L toks caps hc.refs
theorem containsVotes {g : FuncId} {caps : List AV} (hc : Pure caps) (p : Vt → Bool) (nl : Bool) (xs : List Vt) (hg : ∀ x ∈ xs, CallOk Tryz.prog g (vote x :: caps) (.v (.bool (p x)))) :
    CallOk Tryz.prog 58 [vts nl xs, .fn g caps] (bool (xs.any p)) := by
  obtain ⟨m, hm, hz⟩ := as_model (indexVotes hc p nl xs hg)
  have hG : FnsOk Tryz.prog [(111, m)] := .cons hm .nil
  refine callOk_awp (ctx_ok eqOk hG) mixed (live := [true, true, false, false, true]) (dt := []) Tryz.func58 rfl (by kernel_rfl) (by kernel_rfl) fun w0 hlens => ?_
  clear hlens
  simp only [vts] at hz
  simp [Tryz.f58, List.range, List.range.loop, ints, intss, int, bool, row, frac, fracs, ← List.map_take, ← List.map_drop, vts, hc.res, hc.refs, hc.ren, hz, ge_zero, idxOf_nonneg]
theorem profileOk1 (v : Vt) (s : Int) (nl : Bool) (vs : List Vt) : CallOk Tryz.prog 59 [vote v, .fp (prof s nl vs) 0] (.v (.bool (!vtB s v))) := by
  have hG : FnsOk Tryz.prog [(60, mRank), (57, mWithin)] := (.cons implRankingOk_ok (.cons within_ok .nil))
  refine callOk_awp (ctx_ok eqOk hG) mixed (live := [true, true, true, true]) (dt := []) Tryz.func59 rfl (by kernel_rfl) (by kernel_rfl) fun w0 hlens => ?_
  clear hlens
  have h := mRank_at s v.1.1 v.1.2
  cases hr : rankB s v.1.2 with
  | false => rw [hr] at h; simp [Tryz.f59, List.range, List.range.loop, ints, intss, int, bool, row, frac, fracs, ← List.map_take, ← List.map_drop, vote, prof, h, vtB, hr]
  | true => rw [hr] at h; simp [Tryz.f59, List.range, List.range.loop, ints, intss, int, bool, row, frac, fracs, ← List.map_take, ← List.map_drop, vote, prof, h, vtB, hr, mWithin_in]
noncomputable def mProf : List AV → Option AV := mk (fun _ => True) (fun (p : (Int) × (Bool) × (List Vt)) => [prof p.1 p.2.1 p.2.2]) (fun p => bool (profB p.1 p.2.2))
theorem mProf_at (s : Int) (nl : Bool) (vs : List Vt) : mProf [.agg [.v (.int .i64 s), .sl nl 2 (vs.map vote)]] = some (.v (.bool (profB s vs))) :=
  mk_eq (enc := fun (p : (Int) × (Bool) × (List Vt)) => [prof p.1 p.2.1 p.2.2]) (x := (s, nl, vs)) (by rintro ⟨a0, a1, a2⟩ ⟨b0, b1, b2⟩ h; simp [ints, intss, int, bool, row, frac, fracs, map_int_inj, map_row_inj, frac_inj, map_frac_inj, vts, prof, map_vote_inj] at h; simp [h]) trivial
set_option maxHeartbeats 1000000 in
theorem implProf_ok : FnOk Tryz.prog 19 mProf := by
  refine mk_ok fun ⟨s, nl, vs⟩ _ => ?_
  have hc := containsVotes (g := 59) (pure_fp (a := prof s nl vs) (j := 0) pure_nil) (fun v => !vtB s v) nl vs (fun v _ => profileOk1 v s nl vs)
  obtain ⟨m, hm, hz⟩ := as_model hc
  have hG : FnsOk Tryz.prog [(57, mWithin), (58, m)] := (.cons within_ok (.cons hm .nil))
  refine callOk_awp (ctx_ok eqOk hG) mixed (live := [true, true, true, false, false, false, false, false, false, false, false, false, true]) (dt := []) Tryz.func19 rfl (by kernel_rfl) (by kernel_rfl) fun w0 hlens => ?_
  clear hlens
  simp only [vts, prof, bool] at hz
  cases h1 : inR 1 5 s with
  | false => simp [Tryz.f19, List.range, List.range.loop, ints, intss, int, bool, row, frac, fracs, ← List.map_take, ← List.map_drop, prof, mWithin_in, h1, profB]
  | true =>
    by_cases h2 : (24 : Int) < vs.length
    · have h2' : ¬ vs.length ≤ 24 := by omega
      simp [Tryz.f19, List.range, List.range.loop, ints, intss, int, bool, row, frac, fracs, ← List.map_take, ← List.map_drop, prof, mWithin_in, h1, h2, h2', profB]
    · have h2' : vs.length ≤ 24 := by omega
      simp [Tryz.f19, List.range, List.range.loop, ints, intss, int, bool, row, frac, fracs, ← List.map_take, ← List.map_drop, prof, mWithin_in, h1, h2, h2', hz, profB, not_any_not]
set_option maxHeartbeats 1000000 in
theorem specProf_ok : FnOk Tryz.prog 16 mProf := by
  refine mk_ok fun ⟨s, nl, vs⟩ _ => ?_
  have hG : FnsOk Tryz.prog [(38, mWithin), (39, mRank)] := (.cons l01In_ok (.cons specRankingOk_ok .nil))
  refine callOk_awpZ [0] (ctx_ok eqOk hG) mixed (live := [true, true, true, false, true, false, false, false, false, false, false, false, false, false, true, false, true, true, true, true, false, false, false, false, false, false, false, false, false, false, false, false, false, true]) (dt := []) Tryz.func16 rfl (by kernel_rfl) (by kernel_rfl) fun w0 hlens => ?_
  clear hlens
  cases h1 : inR 1 5 s with
  | false => simp [Tryz.f16, List.range, List.range.loop, ints, intss, int, bool, row, frac, fracs, ← List.map_take, ← List.map_drop, andThen_n, freeze, frzA, frzAL, sets, prof, mWithin_in, h1, profB]
  | true =>
    by_cases h2 : (24 : Int) < vs.length
    · have h2' : ¬ vs.length ≤ 24 := by omega
      simp [Tryz.f16, List.range, List.range.loop, ints, intss, int, bool, row, frac, fracs, ← List.map_take, ← List.map_drop, andThen_n, freeze, frzA, frzAL, sets, prof, mWithin_in, h1, h2, h2', profB]
    · have h2' : vs.length ≤ 24 := by omega
      simp [Tryz.f16, List.range, List.range.loop, ints, intss, int, bool, row, frac, fracs, ← List.map_take, ← List.map_drop, andThen_n, freeze, frzA, frzAL, sets, prof, mWithin_in, h1, h2]
      refine awp_range (live := [true, true, true, false, true, false, false, false, false, false, false, false, false, false, true, false, true, true, true, true, false, false, false, false, false, false, false, false, false, false, false, false, false, true]) (ctx_ok eqOk hG) mixed [false, true, false, false, false, false, false, false, false, false, false, false, false, false, false, false, true, true, true] (vs.length) (fun k => (vs.take k).all (vtB s) = true) (fun k => ⟨[.junk, .fp (prof s nl vs) 0, .junk, .junk, .junk, .junk, .junk, .junk, .junk, .junk, .junk, .junk, .junk, .junk, .junk, .junk, vts nl vs, int vs.length, int k, .junk, .junk, .junk, .junk, .junk, .junk, .junk, .junk, .junk, .junk, .junk, .junk, .junk, .junk, .junk, .junk], []⟩) ?_ (by simp [sub, slotsLe, clean, keep, refsL, refs, once, place, renL, ren, List.replicate, int, bool, prof, vts]) ?_ ?_ ?_
      · omega
      · simp
      · intro k hk hp hwk
        have h := mRank_at s vs[k].1.1 vs[k].1.2
        have hat := List.take_succ_eq_append_getElem hk
        have hno : vtB s vs[k] = false → profB s vs = false := fun hf => by
          have : vs.all (vtB s) = false := List.all_eq_false.2 ⟨vs[k], List.getElem_mem hk, by simp [hf]⟩
          unfold profB; rw [this, Bool.and_false]
        have hyes : vtB s vs[k] = true → (vs.take (k + 1)).all (vtB s) = true := fun ht => by rw [hat, List.all_append, hp]; simp [ht]
        have hv : vtB s vs[k] = (rankB s vs[k].1.2 && inR 1 1000 vs[k].2) := rfl
        cases hr : rankB s vs[k].1.2 with
        | false =>
          rw [hr] at h hv
          have hno := hno hv
          simp [List.range, List.range.loop, ints, intss, int, bool, row, frac, fracs, ← List.map_take, ← List.map_drop, prof, vts, vote, hk, h, hno]
        | true =>
          rw [hr] at h hv
          cases hc : inR 1 1000 vs[k].2 with
          | false =>
            rw [hc] at hv
            have hno := hno hv
            simp [List.range, List.range.loop, ints, intss, int, bool, row, frac, fracs, ← List.map_take, ← List.map_drop, prof, vts, vote, hk, h, hno, mWithin_in, hc]
          | true =>
            rw [hc] at hv
            have hyes := hyes hv
            simp only [List.all_eq_true] at hyes
            simp [List.range, List.range.loop, ints, intss, int, bool, row, frac, fracs, ← List.map_take, ← List.map_drop, prof, vts, vote, hk, hwk, h, mWithin_in, hc]
            exact ⟨fun b c h => hyes _ h, fun b c h => hyes _ h⟩
      · intro hp
        rw [List.take_length] at hp
        simp [List.range, List.range.loop, ints, intss, int, bool, row, frac, fracs, ← List.map_take, ← List.map_drop, profB, h1, h2', hp]
def vtrs (p : List Int → Bool) (vs : List Vt) : Int := ((vs.filter fun v => p v.1.2).map (·.2)).sum
theorem vtrs_zero {p : List Int → Bool} : vtrs p [] = 0 := rfl
theorem vtrs_succ {p : List Int → Bool} {vs : List Vt} {k : Nat} (h : k < vs.length) : vtrs p (vs.take (k + 1)) = vtrs p (vs.take k) + if p vs[k].1.2 = true then vs[k].2 else 0 := by
  unfold vtrs
  rw [List.take_succ_eq_append_getElem h, List.filter_append, List.map_append, List.sum_append]
  congr 1
  by_cases hp : p vs[k].1.2 = true
  · simp [hp]
  · simp [hp]
theorem prof_facts {s : Int} {vs : List Vt} (h : profB s vs = true) : (1 ≤ s ∧ s ≤ 5) ∧ vs.length ≤ 24 ∧ ∀ v ∈ vs, rankB s v.1.2 = true ∧ 1 ≤ v.2 ∧ v.2 ≤ 1000 := by
  simp only [profB, Bool.and_eq_true, inR_iff, decide_eq_true_eq, List.all_eq_true, vtB] at h
  exact ⟨h.1.1, h.1.2, fun v hv => ⟨(h.2 v hv).1, (h.2 v hv).2.1, (h.2 v hv).2.2⟩⟩
theorem vtrs_bd {p : List Int → Bool} {vs : List Vt} (h : ∀ v ∈ vs, 1 ≤ v.2 ∧ v.2 ≤ 1000) : 0 ≤ vtrs p vs ∧ vtrs p vs ≤ 1000 * vs.length := by
  have h1 := sum_bd (c := 1000) (l := (vs.filter fun v => p v.1.2).map (·.2)) fun x hx => by
    obtain ⟨v, hv, rfl⟩ := List.mem_map.1 hx
    have := h v (List.mem_filter.1 hv).1
    omega
  have h2 := List.length_filter_le (fun v : Vt => p v.1.2) vs
  rw [List.length_map] at h1
  unfold vtrs
  omega
set_option maxHeartbeats 2000000 in
theorem voters_gen {g : FuncId} {caps : List AV} (hc : Pure caps) (p : List Int → Bool) (s : Int) (nl : Bool) (vs : List Vt) (hp : profB s vs = true) (hg : ∀ v ∈ vs, CallOk Tryz.prog g (row v.1 :: caps) (.v (.bool (p v.1.2)))) :
    CallOk Tryz.prog 115 [prof s nl vs, .fn g caps] (int (vtrs p vs)) := by
  have hG : FnsOk Tryz.prog [(g, mk (fun x => x ∈ vs) (fun x : Vt => row x.1 :: caps) (fun x => .v (.bool (p x.1.2))))] := .cons (mk_ok fun x hx => hg x hx) .nil
  have hat : ∀ k (h : k < vs.length), mk (fun x => x ∈ vs) (fun x : Vt => row x.1 :: caps) (fun x => AV.v (.bool (p x.1.2))) (.sl vs[k].1.1 1 (vs[k].1.2.map int) :: caps) = some (.v (.bool (p vs[k].1.2))) := fun k h =>
    mk_eq (enc := fun x : Vt => row x.1 :: caps) (f := fun x => AV.v (.bool (p x.1.2))) (x := vs[k]) (by
      intro x y h
      simp only [List.cons.injEq, and_true] at h
      have : x.1.2 = y.1.2 := by
        have := h
        simp [row, map_int_inj] at this
        exact this.2
      rw [this]) (List.getElem_mem h)
  generalize mk (fun x => x ∈ vs) (fun x : Vt => row x.1 :: caps) (fun x => AV.v (.bool (p x.1.2))) = m at hG hat
  obtain ⟨h1, h2, h3⟩ := prof_facts hp
  refine callOk_awpZ [0] (ctx_ok eqOk hG) mixed (live := [true, true, true, false, true, true, false, true, false, true, true, true, true, false, false, false, false, false, true]) (dt := []) Tryz.func115 rfl (by kernel_rfl) (by kernel_rfl) fun w0 hlens => ?_
  clear hlens
  have z0 := vtrs_zero (p := p)
  simp [Tryz.f115, List.range, List.range.loop, ints, intss, int, bool, row, frac, fracs, ← List.map_take, ← List.map_drop, andThen_n, freeze, frzA, frzAL, sets, prof, hc.res, hc.refs, hc.ren, hc.killN, frzAL_pure hc]
  refine awp_range (live := [true, true, true, false, true, true, false, true, false, true, true, true, true, false, false, false, false, false, true]) (ctx_ok eqOk hG) mixed [false, true, false, false, false, true, false, false, false, true, true, true] (vs.length) (fun k => True) (fun k => ⟨[.junk, .fn g caps, .junk, .junk, .junk, int (vtrs p (vs.take k)), .junk, .junk, .junk, vts nl vs, int vs.length, int k, .junk, .junk, .junk, .junk, .junk, .junk, .junk, .junk, .junk, .junk, .junk, .junk, .junk], []⟩) ?_ (by simp [sub, slotsLe, clean, keep, refsL, refs, once, place, renL, ren, List.replicate, int, bool, prof, vts, z0, hc.refs, hc.ren, hc.killN]) ?_ ?_ ?_
  · omega
  · trivial
  · intro k hk _ hwk
    have hz := hat k hk
    have hs := vtrs_succ (p := p) hk
    have hb := vtrs_bd (p := p) (vs := vs.take k) fun v hv => (h3 v (List.mem_of_mem_take hv)).2
    have hv := (h3 _ (List.getElem_mem hk)).2
    rw [List.length_take] at hb
    have hw : IntKind.i64.wrap (vtrs p (vs.take k) + vs[k].2) = vtrs p (vs.take k) + vs[k].2 := wrapI (by omega) (by omega)
    generalize vtrs p (vs.take (k + 1)) = B at *
    generalize vtrs p (vs.take k) = A at *
    subst hs
    cases hpk : p vs[k].1.2 with
    | true =>
      rw [hpk] at hz
      simp [List.range, List.range.loop, ints, intss, int, bool, row, frac, fracs, ← List.map_take, ← List.map_drop, prof, vts, vote, hk, hwk, hz, hw, hc.res, hc.refs, hc.ren, hc.killN]
    | false =>
      rw [hpk] at hz
      simp [List.range, List.range.loop, ints, intss, int, bool, row, frac, fracs, ← List.map_take, ← List.map_drop, prof, vts, vote, hk, hwk, hz, hw, hc.res, hc.refs, hc.ren, hc.killN]
  · intro _
    simp [List.range, List.range.loop, ints, intss, int, bool, row, frac, fracs, ← List.map_take, ← List.map_drop, prof, vts]
end Go.Proofs.YtigepnpiofcooaaGreat.Ax
namespace Go.Proofs.YtigepnpiofcooaaGreat.Ax
open Go Go.RowKit
set_option linter.unusedSimpArgs false
def byV (n : Int) : AV := .v (.int .u8 n)
def flT (l : List Int) : Nat → List Int
  | 0 => List.replicate l.length 0
  | k + 1 => (flT l k).set k (97 + at0 l k)
theorem flT_len {l : List Int} : ∀ {k : Nat}, (flT l k).length = l.length
  | 0 => by simp [flT]
  | k + 1 => by simp [flT, flT_len (l := l) (k := k)]
theorem flT_at {l : List Int} {i : Nat} (hi : i < l.length) : ∀ {k : Nat}, k ≤ l.length → (flT l k)[i]? = some (if i < k then 97 + l[i] else 0)
  | 0, _ => by simp [flT, hi]
  | k + 1, hk => by
    unfold flT
    by_cases e : k = i
    · subst e
      rw [List.getElem?_set_self (by rw [flT_len]; omega), at0_eq hi, if_pos (by omega)]
    · rw [List.getElem?_set_ne e, flT_at hi (k := k) (by omega)]
      by_cases h : i < k
      · rw [if_pos h, if_pos (by omega)]
      · rw [if_neg h, if_neg (by omega)]
theorem flT_all {l : List Int} : flT l l.length = l.map fun a => 97 + a := by
  apply List.ext_getElem?
  intro i
  by_cases hi : i < l.length
  · rw [flT_at hi (Nat.le_refl _), if_pos hi, List.getElem?_map, List.getElem?_eq_getElem hi]; rfl
  · rw [List.getElem?_eq_none (by rw [flT_len]; omega), List.getElem?_eq_none (by rw [List.length_map]; omega)]
def leB (a : Int) : UInt8 := UInt8.ofNat (97 + a).toNat
def frkS (l : List Int) : ByteArray := ⟨(l.map leB).toArray⟩
theorem bytesOf_by : ∀ (ns : List Int), bytesOf (ns.map byV) = some (ns.map fun n => UInt8.ofNat n.toNat)
  | [] => rfl
  | n :: ns => by
    have ih := bytesOf_by ns
    rw [List.map_cons, byV, bytesOf, ih]
    rfl
theorem frk_step {l : List Int} {k : Nat} (h : k < l.length) : frkS (l.take (k + 1)) = frkS (l.take k) ++ ⟨#[leB l[k]]⟩ := by
  apply bl_inj
  unfold frkS
  rw [List.take_succ_eq_append_getElem h, List.map_append]
  simp [bl_app, bl, -List.map_take]
theorem letter_ok (a : Int) (h : 0 ≤ a ∧ a < 5) : CallOk Tryz.prog 11 [int a] (.v (.string ⟨#[leB a]⟩)) := by
  have hG : FnsOk Tryz.prog [] := .nil
  refine callOk_awp (ctx_ok eqOk hG) mixed (live := [true, false, true]) (dt := []) Tryz.func11 rfl (by kernel_rfl) (by kernel_rfl) fun w0 hlens => ?_
  clear hlens
  have w1 : IntKind.i64.wrap (97 + a) = 97 + a := wrapI (by omega) (by omega)
  have w2 : IntKind.u8.wrap (97 + a) = 97 + a := by
    obtain ⟨y, rfl⟩ : ∃ y : Nat, a = y := ⟨a.toNat, by omega⟩
    exact (by decide +kernel : ∀ y : Nat, y < 6 → IntKind.u8.wrap (97 + (y : Int)) = 97 + (y : Int)) y (by omega)
  simp [Tryz.f11, List.range, List.range.loop, ints, intss, int, bool, row, frac, fracs, ← List.map_take, ← List.map_drop, w1, w2, bytesOf, leB]
noncomputable def mLet : List AV → Option AV := mk (fun p => 0 ≤ p ∧ p < 5) (fun (p : (Int)) => [int p]) (fun p => .v (.string ⟨#[leB p]⟩))
theorem mLet_at (a : Int) (hpre : 0 ≤ a ∧ a < 5) : mLet [.v (.int .i64 a)] = some (.v (.string ⟨#[leB a]⟩)) :=
  mk_eq (enc := fun (p : (Int)) => [int p]) (x := (a)) (by rintro a0 b0 h; simp [ints, intss, int, bool, row, frac, fracs, map_int_inj, map_row_inj, frac_inj, map_frac_inj] at h; simp [h]) hpre
theorem let_ok : FnOk Tryz.prog 11 mLet := mk_ok fun a h => letter_ok a h
end Go.Proofs.YtigepnpiofcooaaGreat.Ax
namespace Go.Proofs.YtigepnpiofcooaaGreat.Ax
open Go Go.RowKit
set_option linter.unusedSimpArgs false
def liA (t : Nat) : List Int → AV
  | [] => .sl true 1 []
  | _ :: l => .ref t [] 0 (l.length + 1)
def liT : List Int → List Tok
  | [] => []
  | x :: l => [⟨true, .sl false 1 ((x :: l).map int)⟩]
def liI (t : Nat) : List Int → Nat
  | [] => t
  | _ :: _ => t + 1
end Go.Proofs.YtigepnpiofcooaaGreat.Ax
