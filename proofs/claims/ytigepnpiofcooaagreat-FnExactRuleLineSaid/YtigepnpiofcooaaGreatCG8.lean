/-
  Contracts: pairs, margins, the Condorcet winner (the program). No condition.
-/
import Derived.Test.YtigepnpiofcooaaGreatCG7
namespace Go.Proofs.YtigepnpiofcooaaGreat.Ax
open Go Go.RowKit
set_option linter.unusedSimpArgs false
def prT (vs : List Vt) (a b : Int) : Int := vtrs (fun l => pfB l a b) vs
def mgT (vs : List Vt) (a b : Int) : Int := prT vs a b - prT vs b a
def btB (vs : List Vt) (a b : Int) : Bool := decide (0 < mgT vs a b)
theorem prT_bd {s : Int} {vs : List Vt} (h : profB s vs = true) (a b : Int) : 0 ≤ prT vs a b ∧ prT vs a b ≤ 24000 := by
  obtain ⟨_, h2, h3⟩ := prof_facts h
  have := vtrs_bd (p := fun l => pfB l a b) fun v hv => (h3 v hv).2
  unfold prT; omega
theorem pair1 (nl : Bool) (l : List Int) (a b : Int) : CallOk Tryz.prog 117 [row (nl, l), .fp (int a) 0, .fp (int b) 0] (.v (.bool (pfB l a b))) := by
  have hG : FnsOk Tryz.prog [(118, mPref)] := (.cons implPref_ok .nil)
  refine callOk_awp (ctx_ok eqOk hG) mixed (live := [true, true, true, false, true]) (dt := []) Tryz.func117 rfl (by kernel_rfl) (by kernel_rfl) fun w0 hlens => ?_
  clear hlens
  have h := mPref_at nl l a b
  simp [Tryz.f117, List.range, List.range.loop, ints, intss, int, bool, row, frac, fracs, ← List.map_take, ← List.map_drop, h]
noncomputable def mPair : List AV → Option AV := mk (fun p => profB p.1 p.2.2.1 = true) (fun (p : (Int) × (Bool) × (List Vt) × (Int) × (Int)) => [prof p.1 p.2.1 p.2.2.1, int p.2.2.2.1, int p.2.2.2.2]) (fun p => int (prT p.2.2.1 p.2.2.2.1 p.2.2.2.2))
theorem mPair_at (s : Int) (nl : Bool) (vs : List Vt) (a : Int) (b : Int) (hpre : profB s vs = true) : mPair [.agg [.v (.int .i64 s), .sl nl 2 (vs.map vote)], .v (.int .i64 a), .v (.int .i64 b)] = some (.v (.int .i64 (prT vs a b))) :=
  mk_eq (enc := fun (p : (Int) × (Bool) × (List Vt) × (Int) × (Int)) => [prof p.1 p.2.1 p.2.2.1, int p.2.2.2.1, int p.2.2.2.2]) (x := (s, nl, vs, a, b)) (by rintro ⟨a0, a1, a2, a3, a4⟩ ⟨b0, b1, b2, b3, b4⟩ h; simp [ints, intss, int, bool, row, frac, fracs, map_int_inj, map_row_inj, frac_inj, map_frac_inj, vts, prof, map_vote_inj] at h; simp [h]) hpre
set_option maxHeartbeats 1000000 in
theorem pair_ok : FnOk Tryz.prog 71 mPair := by
  refine mk_ok fun ⟨s, nl, vs, a, b⟩ hp => ?_
  simp only at hp
  have hc := voters_gen (g := 117) (pure_fp (a := int a) (j := 0) (pure_fp (a := int b) (j := 0) pure_nil)) (fun l => pfB l a b) s nl vs hp (fun v _ => pair1 v.1.1 v.1.2 a b)
  obtain ⟨m, hm, hz⟩ := as_model hc
  have hG : FnsOk Tryz.prog [(115, m)] := (.cons hm .nil)
  refine callOk_awpZ [0] (ctx_ok eqOk hG) mixed (live := [true, true, true, true, true, true, true]) (dt := []) Tryz.func71 rfl (by kernel_rfl) (by kernel_rfl) fun w0 hlens => ?_
  clear hlens
  simp only [prof, int] at hz
  simp [Tryz.f71, List.range, List.range.loop, ints, intss, int, bool, row, frac, fracs, ← List.map_take, ← List.map_drop, andThen_n, freeze, frzA, frzAL, sets, prof, hz, prT]
noncomputable def mMarg : List AV → Option AV := mk (fun p => profB p.1 p.2.2.1 = true) (fun (p : (Int) × (Bool) × (List Vt) × (Int) × (Int)) => [prof p.1 p.2.1 p.2.2.1, int p.2.2.2.1, int p.2.2.2.2]) (fun p => int (mgT p.2.2.1 p.2.2.2.1 p.2.2.2.2))
theorem mMarg_at (s : Int) (nl : Bool) (vs : List Vt) (a : Int) (b : Int) (hpre : profB s vs = true) : mMarg [.agg [.v (.int .i64 s), .sl nl 2 (vs.map vote)], .v (.int .i64 a), .v (.int .i64 b)] = some (.v (.int .i64 (mgT vs a b))) :=
  mk_eq (enc := fun (p : (Int) × (Bool) × (List Vt) × (Int) × (Int)) => [prof p.1 p.2.1 p.2.2.1, int p.2.2.2.1, int p.2.2.2.2]) (x := (s, nl, vs, a, b)) (by rintro ⟨a0, a1, a2, a3, a4⟩ ⟨b0, b1, b2, b3, b4⟩ h; simp [ints, intss, int, bool, row, frac, fracs, map_int_inj, map_row_inj, frac_inj, map_frac_inj, vts, prof, map_vote_inj] at h; simp [h]) hpre
set_option maxHeartbeats 1000000 in
theorem margin_ok : FnOk Tryz.prog 68 mMarg := by
  refine mk_ok fun ⟨s, nl, vs, a, b⟩ hp => ?_
  simp only at hp
  have hG : FnsOk Tryz.prog [(71, mPair)] := (.cons pair_ok .nil)
  refine callOk_awpZ [0] (ctx_ok eqOk hG) mixed (live := [true, true, true, true, false, false, true]) (dt := [(1, ⟨[], [], []⟩)]) Tryz.func68 rfl (by kernel_rfl) (by kernel_rfl) fun w0 hlens => ?_
  clear hlens
  have h1 := mPair_at s nl vs a b hp
  have h2 := mPair_at s nl vs b a hp
  have b1 := prT_bd hp a b
  have b2 := prT_bd hp b a
  have hw : IntKind.i64.wrap (prT vs a b - prT vs b a) = prT vs a b - prT vs b a := wrapI (by omega) (by omega)
  simp [Tryz.f68, List.range, List.range.loop, ints, intss, int, bool, row, frac, fracs, ← List.map_take, ← List.map_drop, andThen_n, freeze, frzA, frzAL, sets, prof, h1, h2, hw, mgT]
noncomputable def mBeats : List AV → Option AV := mk (fun p => profB p.1 p.2.2.1 = true) (fun (p : (Int) × (Bool) × (List Vt) × (Int) × (Int)) => [prof p.1 p.2.1 p.2.2.1, int p.2.2.2.1, int p.2.2.2.2]) (fun p => bool (btB p.2.2.1 p.2.2.2.1 p.2.2.2.2))
theorem mBeats_at (s : Int) (nl : Bool) (vs : List Vt) (a : Int) (b : Int) (hpre : profB s vs = true) : mBeats [.agg [.v (.int .i64 s), .sl nl 2 (vs.map vote)], .v (.int .i64 a), .v (.int .i64 b)] = some (.v (.bool (btB vs a b))) :=
  mk_eq (enc := fun (p : (Int) × (Bool) × (List Vt) × (Int) × (Int)) => [prof p.1 p.2.1 p.2.2.1, int p.2.2.2.1, int p.2.2.2.2]) (x := (s, nl, vs, a, b)) (by rintro ⟨a0, a1, a2, a3, a4⟩ ⟨b0, b1, b2, b3, b4⟩ h; simp [ints, intss, int, bool, row, frac, fracs, map_int_inj, map_row_inj, frac_inj, map_frac_inj, vts, prof, map_vote_inj] at h; simp [h]) hpre
set_option maxHeartbeats 1000000 in
theorem beats_ok : FnOk Tryz.prog 73 mBeats := by
  refine mk_ok fun ⟨s, nl, vs, a, b⟩ hp => ?_
  simp only at hp
  have hG : FnsOk Tryz.prog [(68, mMarg)] := (.cons margin_ok .nil)
  refine callOk_awpZ [0] (ctx_ok eqOk hG) mixed (live := [true, true, true, true, false, false, true]) (dt := []) Tryz.func73 rfl (by kernel_rfl) (by kernel_rfl) fun w0 hlens => ?_
  clear hlens
  have h1 := mMarg_at s nl vs a b hp
  simp [Tryz.f73, List.range, List.range.loop, ints, intss, int, bool, row, frac, fracs, ← List.map_take, ← List.map_drop, andThen_n, freeze, frzA, frzAL, sets, prof, h1, btB]
theorem Pure.killL {caps : List AV} (hc : Pure caps) (k : Nat) : Ax.killL k caps = caps := killL_id k caps (by rw [hc.refs]; simp)
def tiTo (f : Int → Int → Bool) (a : Nat) : Nat → Bool
  | 0 => true
  | b + 1 => tiTo f a b && (decide ((a : Int) = (b : Int)) || f a b)
def thT (f : Int → Int → Bool) (s : Nat) : List Int := selTo (fun a => tiTo f a s) s
set_option maxHeartbeats 2000000 in
theorem those_gen {g : FuncId} {caps : List AV} (hc : Pure caps) (f : Int → Int → Bool) (s : Nat) (nl : Bool) (vs : List Vt) (hp : profB s vs = true) (hgn : ¬ g = 19) (hg : ∀ a b : Nat, a < s → b < s → CallOk Tryz.prog g (.v (.int .i64 (a : Int)) :: .v (.int .i64 (b : Int)) :: caps) (.v (.bool (f a b)))) :
    CallOk Tryz.prog 83 [prof (s : Int) nl vs, .fn g caps] (.sl (thT f s).isEmpty 1 ((thT f s).map int)) := by
  have hGg : FnOk Tryz.prog g (mk (fun x => x.1 < s ∧ x.2 < s) (fun x : Nat × Nat => .v (.int .i64 (x.1 : Int)) :: .v (.int .i64 (x.2 : Int)) :: caps) (fun x => .v (.bool (f x.1 x.2)))) := mk_ok fun x h => hg x.1 x.2 h.1 h.2
  have hat : ∀ a b : Nat, a < s → b < s → mk (fun x => x.1 < s ∧ x.2 < s) (fun x : Nat × Nat => .v (.int .i64 (x.1 : Int)) :: .v (.int .i64 (x.2 : Int)) :: caps) (fun x => AV.v (.bool (f x.1 x.2))) (.v (.int .i64 (a : Int)) :: .v (.int .i64 (b : Int)) :: caps) = some (.v (.bool (f a b))) := fun a b ha hb =>
    mk_eq (enc := fun x : Nat × Nat => .v (.int .i64 (x.1 : Int)) :: .v (.int .i64 (x.2 : Int)) :: caps) (f := fun x => AV.v (.bool (f x.1 x.2))) (x := (a, b)) (by
      rintro ⟨x, x'⟩ ⟨y, y'⟩ h
      simp at h
      simp only
      rw [(by omega : x = y), (by omega : x' = y')]) ⟨ha, hb⟩
  generalize mk (fun x => x.1 < s ∧ x.2 < s) (fun x : Nat × Nat => .v (.int .i64 (x.1 : Int)) :: .v (.int .i64 (x.2 : Int)) :: caps) (fun x => AV.v (.bool (f x.1 x.2))) = m at hGg hat
  have hG : FnsOk Tryz.prog [(19, mProf), (g, m)] := .cons implProf_ok (.cons hGg .nil)
  obtain ⟨h1, h2, h3⟩ := prof_facts hp
  have hpp := mProf_at (s : Int) nl vs
  rw [hp] at hpp
  refine callOk_awpZ [0] (ctx_ok eqOk hG) mixed (live := [true, true, true, false, true, true, true, true, true, false, false, true, false, true, true, true, false, false, true, true, true, false, false, false, false, false, false, false, false, false, false, false, false, false, false, true]) (dt := []) Tryz.func83 rfl (by kernel_rfl) (by kernel_rfl) fun w0 hlens => ?_
  clear hlens
  have zs : selTo (fun a => tiTo f a s) 0 = [] := rfl
  simp [Tryz.f83, List.range, List.range.loop, ints, intss, int, bool, row, frac, fracs, ← List.map_take, ← List.map_drop, andThen_n, freeze, frzA, frzAL, sets, prof, hpp, hc.res, hc.refs, hc.ren, hc.killN, frzAL_pure hc]
  refine awp_range (live := [true, true, true, false, true, true, true, true, true, false, false, true, false, true, true, true, false, false, true, true, true, false, false, false, false, false, false, false, false, false, false, false, false, false, false, true]) (ctx_ok eqOk hG) mixed [false, true, true, false, false, true, false, false, false, false, false, false, false, true, true] (s) (fun k => True) (fun k => ⟨[.junk, .fn g caps, .fp (prof (s : Int) nl vs) 0, .junk, .junk, liA 0 (selTo (fun a => tiTo f a s) k), .junk, .junk, .junk, .junk, .junk, .junk, .junk, int (s : Int), int k, .junk, .junk, .junk, .junk, .junk, .junk, .junk, .junk, .junk, .junk, .junk, .junk, .junk, .junk, .junk, .junk, .junk, .junk, .junk, .junk, .junk, .junk, .junk, .junk, .junk, .junk, .junk], liT (selTo (fun a => tiTo f a s) k)⟩) ?_ (by simp [sub, slotsLe, clean, keep, refsL, refs, once, place, renL, ren, List.replicate, int, bool, prof, zs, liA, liT, hc.refs, hc.ren, hc.killN]) ?_ ?_ ?_
  · omega
  · trivial
  · intro k hk _ hwk
    have hl := selTo_len (p := fun a => tiTo f a s) (k := k)
    have hy := selTo_yes (p := fun a => tiTo f a s) (k := k)
    have hn := selTo_no (p := fun a => tiTo f a s) (k := k)
    generalize selTo (fun a => tiTo f a s) (k + 1) = B at *
    generalize selTo (fun a => tiTo f a s) k = A at *
    have hb : (A.length + 1) * 8 ≤ 140737488355328 ∧ A.length + 1 ≤ 4611686018427387904 := by omega
    have zt : tiTo f k 0 = true := rfl
    have hks : (k : Int) < (s : Int) := by omega
    cases A with
    | nil =>
      simp only [List.length_cons, List.length_nil] at hb
      simp [List.range, List.range.loop, ints, intss, int, bool, row, frac, fracs, ← List.map_take, ← List.map_drop, prof, liA, liT, hk, hks, hc.res, hc.refs, hc.ren, hc.killN]
      refine awp_range (live := [true, true, true, false, true, true, true, true, true, false, false, true, false, true, true, true, false, false, true, true, true, false, false, false, false, false, false, false, false, false, false, false, false, false, false, true]) (ctx_ok eqOk hG) mixed [false, true, true, false, false, true, true, true, false, false, false, false, false, true, true, false, false, false, true, true] (s) (fun b => True) (fun b => ⟨[.junk, .fn g caps, .fp (prof (s : Int) nl vs) 0, .junk, .junk, .sl true 1 [], int (k : Int), bool (tiTo f k b), .junk, .junk, .junk, .junk, .junk, int (s : Int), int k, .junk, .junk, .junk, int (s : Int), int b, .junk, .junk, .junk, .junk, .junk, .junk, .junk, .junk, .junk, .junk, .junk, .junk, .junk, .junk, .junk, .junk, .junk, .junk, .junk, .junk, .junk, .junk], []⟩) ?_ (by simp [sub, slotsLe, clean, keep, refsL, refs, once, place, renL, ren, List.replicate, int, bool, prof, zt, liA, liT, hc.refs, hc.ren, hc.killN]) ?_ ?_ ?_
      · omega
      · trivial
      · intro b hb2 _ hwb
        have hz := hat k b hk hb2
        have hbs : (b : Int) < (s : Int) := by omega
        have hs : tiTo f k (b + 1) = (tiTo f k b && (decide ((k : Int) = (b : Int)) || f k b)) := rfl
        by_cases e : (k : Int) = (b : Int)
        · have e' : k = b := by omega
          subst e'
          cases ht : tiTo f k k <;> rw [ht] at hs <;> simp [e] at hs <;> simp [List.range, List.range.loop, ints, intss, int, bool, row, frac, fracs, ← List.map_take, ← List.map_drop, prof, hb2, hbs, hwb, hgn, hs, ht, hc.res, hc.refs, hc.ren, hc.killN]
        · have e' : ¬ k = b := by omega
          have e2 : ((k : Int) == (b : Int)) = false := by simpa using e
          cases ht : tiTo f k b <;> cases hf : f k b <;> rw [hf] at hz <;> rw [ht, hf] at hs <;> simp [e] at hs <;> simp [List.range, List.range.loop, ints, intss, int, bool, row, frac, fracs, ← List.map_take, ← List.map_drop, prof, hb2, hbs, hwb, hgn, hs, e, e', e2, ht, hf, hz, hc.res, hc.refs, hc.ren, hc.killN]
      · intro _
        cases ht : tiTo f k s with
        | true =>
          have hB := hy ht
          subst hB
          simp [List.range, List.range.loop, ints, intss, int, bool, row, frac, fracs, ← List.map_take, ← List.map_drop, prof, liA, liT, hwk, hb, hc.res, hc.refs, hc.ren, hc.killN, hc.killL]
        | false =>
          have hB := hn ht
          subst hB
          simp [List.range, List.range.loop, ints, intss, int, bool, row, frac, fracs, ← List.map_take, ← List.map_drop, prof, liA, liT, hwk, hc.res, hc.refs, hc.ren, hc.killN]
    | cons o A =>
      simp only [List.length_cons, List.length_nil] at hb
      simp [List.range, List.range.loop, ints, intss, int, bool, row, frac, fracs, ← List.map_take, ← List.map_drop, prof, liA, liT, hk, hks, hc.res, hc.refs, hc.ren, hc.killN]
      refine awp_range (live := [true, true, true, false, true, true, true, true, true, false, false, true, false, true, true, true, false, false, true, true, true, false, false, false, false, false, false, false, false, false, false, false, false, false, false, true]) (ctx_ok eqOk hG) mixed [false, true, true, false, false, true, true, true, false, false, false, false, false, true, true, false, false, false, true, true] (s) (fun b => True) (fun b => ⟨[.junk, .fn g caps, .fp (prof (s : Int) nl vs) 0, .junk, .junk, .ref 0 [] 0 (A.length + 1), int (k : Int), bool (tiTo f k b), .junk, .junk, .junk, .junk, .junk, int (s : Int), int k, .junk, .junk, .junk, int (s : Int), int b, .junk, .junk, .junk, .junk, .junk, .junk, .junk, .junk, .junk, .junk, .junk, .junk, .junk, .junk, .junk, .junk, .junk, .junk, .junk, .junk, .junk, .junk], [⟨true,.sl false 1 ((o :: A).map int)⟩]⟩) ?_ (by simp [sub, slotsLe, clean, keep, refsL, refs, once, place, renL, ren, List.replicate, int, bool, prof, zt, liA, liT, hc.refs, hc.ren, hc.killN]) ?_ ?_ ?_
      · omega
      · trivial
      · intro b hb2 _ hwb
        have hz := hat k b hk hb2
        have hbs : (b : Int) < (s : Int) := by omega
        have hs : tiTo f k (b + 1) = (tiTo f k b && (decide ((k : Int) = (b : Int)) || f k b)) := rfl
        by_cases e : (k : Int) = (b : Int)
        · have e' : k = b := by omega
          subst e'
          cases ht : tiTo f k k <;> rw [ht] at hs <;> simp [e] at hs <;> simp [List.range, List.range.loop, ints, intss, int, bool, row, frac, fracs, ← List.map_take, ← List.map_drop, prof, hb2, hbs, hwb, hgn, hs, ht, hc.res, hc.refs, hc.ren, hc.killN]
        · have e' : ¬ k = b := by omega
          have e2 : ((k : Int) == (b : Int)) = false := by simpa using e
          cases ht : tiTo f k b <;> cases hf : f k b <;> rw [hf] at hz <;> rw [ht, hf] at hs <;> simp [e] at hs <;> simp [List.range, List.range.loop, ints, intss, int, bool, row, frac, fracs, ← List.map_take, ← List.map_drop, prof, hb2, hbs, hwb, hgn, hs, e, e', e2, ht, hf, hz, hc.res, hc.refs, hc.ren, hc.killN]
      · intro _
        cases ht : tiTo f k s with
        | true =>
          have hB := hy ht
          subst hB
          simp [List.range, List.range.loop, ints, intss, int, bool, row, frac, fracs, ← List.map_take, ← List.map_drop, prof, liA, liT, hwk, hb, hc.res, hc.refs, hc.ren, hc.killN, hc.killL]
        | false =>
          have hB := hn ht
          subst hB
          simp [List.range, List.range.loop, ints, intss, int, bool, row, frac, fracs, ← List.map_take, ← List.map_drop, prof, liA, liT, hwk, hc.res, hc.refs, hc.ren, hc.killN]
  · intro _
    unfold thT
    generalize selTo (fun a => tiTo f a s) s = A at *
    cases A <;> simp [List.range, List.range.loop, ints, intss, int, bool, row, frac, fracs, ← List.map_take, ← List.map_drop, liA, liT, hc.refs, hc.ren, hc.killN, hc.killL]
theorem countVoters1 (nl : Bool) (l : List Int) : CallOk Tryz.prog 116 [row (nl, l)] (.v (.bool true)) := by
  have hG : FnsOk Tryz.prog [] := .nil
  refine callOk_awp (ctx_ok eqOk hG) mixed (live := [false, false, true]) (dt := []) Tryz.func116 rfl (by kernel_rfl) (by kernel_rfl) fun w0 hlens => ?_
  simp [Tryz.f116, List.range, List.range.loop, ints, intss, int, bool, row, frac, fracs, ← List.map_take, ← List.map_drop]
def cvT (s : Int) (vs : List Vt) : Int := if profB s vs = true then vtrs (fun _ => true) vs else -1
noncomputable def mCv : List AV → Option AV := mk (fun _ => True) (fun (p : (Int) × (Bool) × (List Vt)) => [prof p.1 p.2.1 p.2.2]) (fun p => int (cvT p.1 p.2.2))
theorem mCv_at (s : Int) (nl : Bool) (vs : List Vt) : mCv [.agg [.v (.int .i64 s), .sl nl 2 (vs.map vote)]] = some (.v (.int .i64 (cvT s vs))) :=
  mk_eq (enc := fun (p : (Int) × (Bool) × (List Vt)) => [prof p.1 p.2.1 p.2.2]) (x := (s, nl, vs)) (by rintro ⟨a0, a1, a2⟩ ⟨b0, b1, b2⟩ h; simp [ints, intss, int, bool, row, frac, fracs, map_int_inj, map_row_inj, frac_inj, map_frac_inj, vts, prof, map_vote_inj] at h; simp [h]) trivial
set_option maxHeartbeats 1000000 in
theorem implCv_ok : FnOk Tryz.prog 70 mCv := by
  refine mk_ok fun ⟨s, nl, vs⟩ _ => ?_
  have hpp := mProf_at s nl vs
  by_cases hp : profB s vs = true
  · have hc := voters_gen (g := 116) pure_nil (fun _ => true) s nl vs hp (fun v _ => countVoters1 v.1.1 v.1.2)
    obtain ⟨m, hm, hz⟩ := as_model hc
    have hG : FnsOk Tryz.prog [(19, mProf), (115, m)] := .cons implProf_ok (.cons hm .nil)
    refine callOk_awpZ [0] (ctx_ok eqOk hG) mixed (live := [true, true, true, false, false, true]) (dt := []) Tryz.func70 rfl (by kernel_rfl) (by kernel_rfl) fun w0 hlens => ?_
    clear hlens
    simp only [prof, int] at hz
    rw [hp] at hpp
    simp [Tryz.f70, List.range, List.range.loop, ints, intss, int, bool, row, frac, fracs, ← List.map_take, ← List.map_drop, andThen_n, freeze, frzA, frzAL, sets, prof, hpp, hz, cvT, hp]
  · have hp' : profB s vs = false := by simpa using hp
    have hG : FnsOk Tryz.prog [(19, mProf)] := .cons implProf_ok .nil
    refine callOk_awpZ [0] (ctx_ok eqOk hG) mixed (live := [true, true, true, false, false, true]) (dt := []) Tryz.func70 rfl (by kernel_rfl) (by kernel_rfl) fun w0 hlens => ?_
    clear hlens
    rw [hp'] at hpp
    simp [Tryz.f70, List.range, List.range.loop, ints, intss, int, bool, row, frac, fracs, ← List.map_take, ← List.map_drop, andThen_n, freeze, frzA, frzAL, sets, prof, hpp, cvT, hp']
end Go.Proofs.YtigepnpiofcooaaGreat.Ax
namespace Go.Proofs.YtigepnpiofcooaaGreat.Ax
open Go Go.RowKit
def bpTo (f : Int → Int → Bool) (a : Nat) : Nat → List (Int × Int)
  | 0 => []
  | b + 1 => bpTo f a b ++ (if f a b = true then [((a : Int), (b : Int))] else [])
def bpAll (f : Int → Int → Bool) (s : Nat) : Nat → List (Int × Int)
  | 0 => []
  | a + 1 => bpAll f s a ++ bpTo f a s
theorem bpTo_mem {f : Int → Int → Bool} {a : Nat} : ∀ {b : Nat}, ∀ x ∈ bpTo f a b, x.1 = a ∧ ∃ i : Nat, x.2 = i ∧ i < b
  | 0, x, hx => by simp [bpTo] at hx
  | b + 1, x, hx => by
    unfold bpTo at hx
    rcases List.mem_append.1 hx with hx | hx
    · obtain ⟨h1, i, h2, h3⟩ := bpTo_mem x hx
      exact ⟨h1, i, h2, by omega⟩
    · split at hx
      · rw [List.mem_singleton] at hx
        subst hx
        exact ⟨rfl, b, rfl, by omega⟩
      · simp at hx
theorem bpAll_mem {f : Int → Int → Bool} {s : Nat} : ∀ {a : Nat}, ∀ x ∈ bpAll f s a, (∃ i : Nat, x.1 = i ∧ i < a) ∧ ∃ i : Nat, x.2 = i ∧ i < s
  | 0, x, hx => by simp [bpAll] at hx
  | a + 1, x, hx => by
    unfold bpAll at hx
    rcases List.mem_append.1 hx with hx | hx
    · obtain ⟨⟨i, h1, h2⟩, h3⟩ := bpAll_mem x hx
      exact ⟨⟨i, h1, by omega⟩, h3⟩
    · obtain ⟨h1, h2⟩ := bpTo_mem x hx
      exact ⟨⟨a, h1, by omega⟩, h2⟩
theorem bpTo_len {f : Int → Int → Bool} {a : Nat} : ∀ {b : Nat}, (bpTo f a b).length ≤ b
  | 0 => by simp [bpTo]
  | b + 1 => by
    have := bpTo_len (f := f) (a := a) (b := b)
    unfold bpTo
    rw [List.length_append]
    split <;> simp <;> omega
theorem bpAll_len {f : Int → Int → Bool} {s : Nat} : ∀ {a : Nat}, (bpAll f s a).length ≤ s * a
  | 0 => by simp [bpAll]
  | a + 1 => by
    have h1 := bpAll_len (f := f) (s := s) (a := a)
    have h2 := bpTo_len (f := f) (a := a) (b := s)
    unfold bpAll
    rw [List.length_append, Nat.mul_succ]
    omega
theorem at0_inc1 {o : List Int} {i : Int} {j : Nat} (hi : i.toNat < o.length) : at0 (inc1 o i) j = at0 o j + if i.toNat = j then 1 else 0 := by
  unfold inc1 at0
  simp only [List.getD_eq_getElem?_getD]
  by_cases h : i.toNat = j
  · subst h
    rw [List.getElem?_set_self hi]
    simp
  · rw [List.getElem?_set_ne h, if_neg h]
    omega
theorem at0_incs {o : List Int} : ∀ {l : List Int} {j : Nat}, (∀ i ∈ l, i.toNat < o.length) → at0 (incs o l) j = at0 o j + (l.countP fun i => decide (i.toNat = j) : Nat) := by
  intro l
  unfold incs
  induction l generalizing o with
  | nil => intro j _; simp
  | cons i l ih =>
    intro j h
    rw [List.foldl_cons, ih (fun k hk => by rw [inc1_len]; exact h k (by simp [hk])), at0_inc1 (h i (by simp)), List.countP_cons]
    by_cases e : i.toNat = j
    · simp [e]; omega
    · simp [e]
def ctTo (f : Int → Int → Bool) (a : Nat) : Nat → Nat
  | 0 => 0
  | b + 1 => ctTo f a b + if f a b = true then 1 else 0
theorem ct_bpTo {f : Int → Int → Bool} {a j : Nat} : ∀ {b : Nat}, ((bpTo f a b).map (·.1)).countP (fun i => decide (i.toNat = j)) = if a = j then ctTo f a b else 0
  | 0 => by simp [bpTo, ctTo]
  | b + 1 => by
    unfold bpTo ctTo
    rw [List.map_append, List.countP_append, ct_bpTo]
    by_cases e : a = j
    · subst e
      by_cases h : f a b = true <;> simp [h]
    · by_cases h : f a b = true <;> simp [h, e]
theorem ct_bpAll {f : Int → Int → Bool} {s j : Nat} : ∀ {a : Nat}, ((bpAll f s a).map (·.1)).countP (fun i => decide (i.toNat = j)) = if j < a then ctTo f j s else 0
  | 0 => by simp [bpAll]
  | a + 1 => by
    unfold bpAll
    rw [List.map_append, List.countP_append, ct_bpAll, ct_bpTo]
    by_cases h1 : j < a
    · rw [if_pos h1, if_neg (by omega), if_pos (by omega)]; omega
    · by_cases h2 : a = j
      · subst h2; rw [if_neg h1, if_pos rfl, if_pos (by omega)]; omega
      · rw [if_neg h1, if_neg h2, if_neg (by omega)]
def wonT (f : Int → Int → Bool) (s : Nat) : List Int := incs (List.replicate s 0) ((bpAll f s s).map (·.1))
def lostT (f : Int → Int → Bool) (s : Nat) : List Int := incs (List.replicate s 0) ((bpAll f s s).map (·.2))
theorem wonT_len {f : Int → Int → Bool} {s : Nat} : (wonT f s).length = s := by simp [wonT, incs_len]
theorem wonT_at {f : Int → Int → Bool} {s a : Nat} (h : a < s) : at0 (wonT f s) a = ctTo f a s := by
  unfold wonT
  rw [at0_incs fun i hi => by
    obtain ⟨x, hx, rfl⟩ := List.mem_map.1 hi
    obtain ⟨⟨i, h1, h2⟩, _⟩ := bpAll_mem x hx
    rw [h1]; simpa using h2, ct_bpAll, if_pos h]
  simp [at0, List.getD_eq_getElem?_getD, h]
theorem btB_irr {vs : List Vt} (a : Int) : btB vs a a = false := by simp [btB, mgT]
theorem btB_asym {vs : List Vt} (a b : Int) (h : btB vs a b = true) : btB vs b a = false := by
  unfold btB at h ⊢
  have h := of_decide_eq_true h
  refine decide_eq_false ?_
  unfold mgT at h ⊢
  omega
end Go.Proofs.YtigepnpiofcooaaGreat.Ax
namespace Go.Proofs.YtigepnpiofcooaaGreat.Ax
open Go Go.RowKit
set_option linter.unusedSimpArgs false
noncomputable def mCvS : List AV → Option AV := mk (fun p => profB p.1 p.2.2 = true) (fun (p : (Int) × (Bool) × (List Vt)) => [prof p.1 p.2.1 p.2.2]) (fun p => int (vtrs (fun _ => true) p.2.2))
theorem mCvS_at (s : Int) (nl : Bool) (vs : List Vt) (hpre : profB s vs = true) : mCvS [.agg [.v (.int .i64 s), .sl nl 2 (vs.map vote)]] = some (.v (.int .i64 (vtrs (fun _ => true) vs))) :=
  mk_eq (enc := fun (p : (Int) × (Bool) × (List Vt)) => [prof p.1 p.2.1 p.2.2]) (x := (s, nl, vs)) (by rintro ⟨a0, a1, a2⟩ ⟨b0, b1, b2⟩ h; simp [ints, intss, int, bool, row, frac, fracs, map_int_inj, map_row_inj, frac_inj, map_frac_inj, vts, prof, map_vote_inj] at h; simp [h]) hpre
set_option maxHeartbeats 1000000 in
theorem l04Voters_ok : FnOk Tryz.prog 100 mCvS := by
  refine mk_ok fun ⟨s, nl, vs⟩ hp => ?_
  simp only at hp
  obtain ⟨h1, h2, h3⟩ := prof_facts hp
  have hG : FnsOk Tryz.prog [] := .nil
  refine callOk_awpZ [0] (ctx_ok eqOk hG) mixed (live := [true, true, true, true, false, true, false, true, true, true, true]) (dt := []) Tryz.func100 rfl (by kernel_rfl) (by kernel_rfl) fun w0 hlens => ?_
  clear hlens
  have z0 := vtrs_zero (p := fun _ => true)
  simp [Tryz.f100, List.range, List.range.loop, ints, intss, int, bool, row, frac, fracs, ← List.map_take, ← List.map_drop, andThen_n, freeze, frzA, frzAL, sets, prof]
  refine awp_range (live := [true, true, true, true, false, true, false, true, true, true, true]) (ctx_ok eqOk hG) mixed [false, false, false, true, false, false, false, true, true, true] (vs.length) (fun k => True) (fun k => ⟨[.junk, .junk, .junk, int (vtrs (fun _ => true) (vs.take k)), .junk, .junk, .junk, vts nl vs, int vs.length, int k, .junk, .junk, .junk, .junk, .junk, .junk, .junk, .junk, .junk], []⟩) ?_ (by simp [sub, slotsLe, clean, keep, refsL, refs, once, place, renL, ren, List.replicate, int, bool, prof, vts, z0]) ?_ ?_ ?_
  · omega
  · trivial
  · intro k hk _ hwk
    have hs := vtrs_succ (p := fun _ => true) hk
    have hb := vtrs_bd (p := fun _ => true) (vs := vs.take k) fun v hv => (h3 v (List.mem_of_mem_take hv)).2
    have hv := (h3 _ (List.getElem_mem hk)).2
    rw [List.length_take] at hb
    rw [if_pos rfl] at hs
    have hw : IntKind.i64.wrap (vtrs (fun _ => true) (vs.take k) + vs[k].2) = vtrs (fun _ => true) (vs.take k) + vs[k].2 := wrapI (by omega) (by omega)
    generalize vtrs (fun _ => true) (vs.take (k + 1)) = B at *
    generalize vtrs (fun _ => true) (vs.take k) = A at *
    subst hs
    simp [List.range, List.range.loop, ints, intss, int, bool, row, frac, fracs, ← List.map_take, ← List.map_drop, prof, vts, vote, hk, hwk, hw]
  · intro _
    simp [List.range, List.range.loop, ints, intss, int, bool, row, frac, fracs, ← List.map_take, ← List.map_drop, prof, vts]
set_option maxHeartbeats 1000000 in
theorem l04Pair_ok : FnOk Tryz.prog 101 mPair := by
  refine mk_ok fun ⟨s, nl, vs, a, b⟩ hp => ?_
  simp only at hp
  obtain ⟨h1, h2, h3⟩ := prof_facts hp
  have hG : FnsOk Tryz.prog [(136, mPref)] := (.cons specPref_ok .nil)
  refine callOk_awpZ [0] (ctx_ok eqOk hG) mixed (live := [true, true, true, true, false, false, true, true, false, true, false, true, true, true, true, false, false, false, false, false, false, true]) (dt := []) Tryz.func101 rfl (by kernel_rfl) (by kernel_rfl) fun w0 hlens => ?_
  clear hlens
  have z0 := vtrs_zero (p := fun l => pfB l a b)
  unfold prT
  simp [Tryz.f101, List.range, List.range.loop, ints, intss, int, bool, row, frac, fracs, ← List.map_take, ← List.map_drop, andThen_n, freeze, frzA, frzAL, sets, prof]
  refine awp_range (live := [true, true, true, true, false, false, true, true, false, true, false, true, true, true, true, false, false, false, false, false, false, true]) (ctx_ok eqOk hG) mixed [false, true, true, false, false, false, false, true, false, false, false, true, true, true] (vs.length) (fun k => True) (fun k => ⟨[.junk, int a, int b, .junk, .junk, .junk, .junk, int (vtrs (fun l => pfB l a b) (vs.take k)), .junk, .junk, .junk, vts nl vs, int vs.length, int k, .junk, .junk, .junk, .junk, .junk, .junk, .junk, .junk, .junk, .junk, .junk, .junk, .junk, .junk], []⟩) ?_ (by simp [sub, slotsLe, clean, keep, refsL, refs, once, place, renL, ren, List.replicate, int, bool, prof, vts, z0]) ?_ ?_ ?_
  · omega
  · trivial
  · intro k hk _ hwk
    have hz := mPref_at vs[k].1.1 vs[k].1.2 a b
    have hs := vtrs_succ (p := fun l => pfB l a b) hk
    have hb := vtrs_bd (p := fun l => pfB l a b) (vs := vs.take k) fun v hv => (h3 v (List.mem_of_mem_take hv)).2
    have hv := (h3 _ (List.getElem_mem hk)).2
    rw [List.length_take] at hb
    have hw : IntKind.i64.wrap (vtrs (fun l => pfB l a b) (vs.take k) + vs[k].2) = vtrs (fun l => pfB l a b) (vs.take k) + vs[k].2 := wrapI (by omega) (by omega)
    generalize vtrs (fun l => pfB l a b) (vs.take (k + 1)) = B at *
    generalize vtrs (fun l => pfB l a b) (vs.take k) = A at *
    subst hs
    cases hpk : pfB vs[k].1.2 a b with
    | true =>
      rw [hpk] at hz
      simp [List.range, List.range.loop, ints, intss, int, bool, row, frac, fracs, ← List.map_take, ← List.map_drop, prof, vts, vote, hk, hwk, hz, hw, hpk]
    | false =>
      rw [hpk] at hz
      simp [List.range, List.range.loop, ints, intss, int, bool, row, frac, fracs, ← List.map_take, ← List.map_drop, prof, vts, vote, hk, hwk, hz, hw, hpk]
  · intro _
    simp [List.range, List.range.loop, ints, intss, int, bool, row, frac, fracs, ← List.map_take, ← List.map_drop, prof, vts]
set_option maxHeartbeats 1000000 in
theorem l06Beats_ok : FnOk Tryz.prog 103 mBeats := by
  refine mk_ok fun ⟨s, nl, vs, a, b⟩ hp => ?_
  simp only at hp
  have hG : FnsOk Tryz.prog [(101, mPair)] := (.cons l04Pair_ok .nil)
  refine callOk_awpZ [0] (ctx_ok eqOk hG) mixed (live := [true, true, true, true, false, false, true]) (dt := [(1, ⟨[], [], []⟩)]) Tryz.func103 rfl (by kernel_rfl) (by kernel_rfl) fun w0 hlens => ?_
  clear hlens
  have h1 := mPair_at s nl vs a b hp
  have h2 := mPair_at s nl vs b a hp
  have e : btB vs a b = decide (prT vs b a < prT vs a b) := by
    unfold btB mgT
    exact decide_eq_decide.2 (by omega)
  rw [e]
  simp [Tryz.f103, List.range, List.range.loop, ints, intss, int, bool, row, frac, fracs, ← List.map_take, ← List.map_drop, andThen_n, freeze, frzA, frzAL, sets, prof, h1, h2]
end Go.Proofs.YtigepnpiofcooaaGreat.Ax
