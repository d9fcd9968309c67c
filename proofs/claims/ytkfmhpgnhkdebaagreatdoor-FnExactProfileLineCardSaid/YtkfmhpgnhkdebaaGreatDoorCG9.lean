/-
  Contracts: pairs, margins, the Condorcet winner (the program). No condition.
-/
import Derived.Test.YtkfmhpgnhkdebaaGreatDoorCG8
namespace Go.Proofs.YtkfmhpgnhkdebaaGreatDoor.Ax
open Go Go.RowKit
set_option linter.unusedSimpArgs false
def prT (vs : List Vt) (a b : Int) : Int := vtrs (fun l => pfB l a b) vs
def mgT (vs : List Vt) (a b : Int) : Int := prT vs a b - prT vs b a
def btB (vs : List Vt) (a b : Int) : Bool := decide (0 < mgT vs a b)
theorem prT_bd {s : Int} {vs : List Vt} (h : profB s vs = true) (a b : Int) : 0 ≤ prT vs a b ∧ prT vs a b ≤ 24000 := by
  obtain ⟨_, h2, h3⟩ := prof_facts h
  have := vtrs_bd (p := fun l => pfB l a b) fun v hv => (h3 v hv).2
  unfold prT; omega
theorem pair1 (nl : Bool) (l : List Int) (a b : Int) : CallOk Tryz.prog 259 [row (nl, l), .fp (int a) 0, .fp (int b) 0] (.v (.bool (pfB l a b))) := by
  have hG : FnsOk Tryz.prog [(222, mPref)] := (.cons implPref_ok .nil)
  refine callOk_awp (ctx_ok eqOk hG) mixed (live := [true, true, true, false, true]) (dt := []) Tryz.func259 rfl (by kernel_rfl) (by kernel_rfl) fun w0 hlens => ?_
  clear hlens
  have h := mPref_at nl l a b
  simp [Tryz.f259, List.range, List.range.loop, ints, intss, int, bool, row, frac, fracs, ← List.map_take, ← List.map_drop, h]
noncomputable def mPair : List AV → Option AV := mk (fun p => profB p.1 p.2.2.1 = true) (fun (p : (Int) × (Bool) × (List Vt) × (Int) × (Int)) => [prof p.1 p.2.1 p.2.2.1, int p.2.2.2.1, int p.2.2.2.2]) (fun p => int (prT p.2.2.1 p.2.2.2.1 p.2.2.2.2))
theorem mPair_at (s : Int) (nl : Bool) (vs : List Vt) (a : Int) (b : Int) (hpre : profB s vs = true) : mPair [.agg [.v (.int .i64 s), .sl nl 2 (vs.map vote)], .v (.int .i64 a), .v (.int .i64 b)] = some (.v (.int .i64 (prT vs a b))) :=
  mk_eq (enc := fun (p : (Int) × (Bool) × (List Vt) × (Int) × (Int)) => [prof p.1 p.2.1 p.2.2.1, int p.2.2.2.1, int p.2.2.2.2]) (x := (s, nl, vs, a, b)) (by rintro ⟨a0, a1, a2, a3, a4⟩ ⟨b0, b1, b2, b3, b4⟩ h; simp [ints, intss, int, bool, row, frac, fracs, map_int_inj, map_row_inj, frac_inj, map_frac_inj, vts, prof, map_vote_inj] at h; simp [h]) hpre
set_option maxHeartbeats 1000000 in
theorem pair_ok : FnOk Tryz.prog 219 mPair := by
  refine mk_ok fun ⟨s, nl, vs, a, b⟩ hp => ?_
  simp only at hp
  have hc := voters_gen (g := 259) (pure_fp (a := int a) (j := 0) (pure_fp (a := int b) (j := 0) pure_nil)) (fun l => pfB l a b) s nl vs hp (fun v _ => pair1 v.1.1 v.1.2 a b)
  obtain ⟨m, hm, hz⟩ := as_model hc
  have hG : FnsOk Tryz.prog [(76, m)] := (.cons hm .nil)
  refine callOk_awpZ [0] (ctx_ok eqOk hG) mixed (live := [true, true, true, true, true, true, true]) (dt := []) Tryz.func219 rfl (by kernel_rfl) (by kernel_rfl) fun w0 hlens => ?_
  clear hlens
  simp only [prof, int] at hz
  simp [Tryz.f219, List.range, List.range.loop, ints, intss, int, bool, row, frac, fracs, ← List.map_take, ← List.map_drop, andThen_n, freeze, frzA, frzAL, sets, prof, hz, prT]
noncomputable def mMarg : List AV → Option AV := mk (fun p => profB p.1 p.2.2.1 = true) (fun (p : (Int) × (Bool) × (List Vt) × (Int) × (Int)) => [prof p.1 p.2.1 p.2.2.1, int p.2.2.2.1, int p.2.2.2.2]) (fun p => int (mgT p.2.2.1 p.2.2.2.1 p.2.2.2.2))
theorem mMarg_at (s : Int) (nl : Bool) (vs : List Vt) (a : Int) (b : Int) (hpre : profB s vs = true) : mMarg [.agg [.v (.int .i64 s), .sl nl 2 (vs.map vote)], .v (.int .i64 a), .v (.int .i64 b)] = some (.v (.int .i64 (mgT vs a b))) :=
  mk_eq (enc := fun (p : (Int) × (Bool) × (List Vt) × (Int) × (Int)) => [prof p.1 p.2.1 p.2.2.1, int p.2.2.2.1, int p.2.2.2.2]) (x := (s, nl, vs, a, b)) (by rintro ⟨a0, a1, a2, a3, a4⟩ ⟨b0, b1, b2, b3, b4⟩ h; simp [ints, intss, int, bool, row, frac, fracs, map_int_inj, map_row_inj, frac_inj, map_frac_inj, vts, prof, map_vote_inj] at h; simp [h]) hpre
set_option maxHeartbeats 1000000 in
theorem margin_ok : FnOk Tryz.prog 158 mMarg := by
  refine mk_ok fun ⟨s, nl, vs, a, b⟩ hp => ?_
  simp only at hp
  have hG : FnsOk Tryz.prog [(219, mPair)] := (.cons pair_ok .nil)
  refine callOk_awpZ [0] (ctx_ok eqOk hG) mixed (live := [true, true, true, true, false, false, true]) (dt := [(1, ⟨[], [], []⟩)]) Tryz.func158 rfl (by kernel_rfl) (by kernel_rfl) fun w0 hlens => ?_
  clear hlens
  have h1 := mPair_at s nl vs a b hp
  have h2 := mPair_at s nl vs b a hp
  have b1 := prT_bd hp a b
  have b2 := prT_bd hp b a
  have hw : IntKind.i64.wrap (prT vs a b - prT vs b a) = prT vs a b - prT vs b a := wrapI (by omega) (by omega)
  simp [Tryz.f158, List.range, List.range.loop, ints, intss, int, bool, row, frac, fracs, ← List.map_take, ← List.map_drop, andThen_n, freeze, frzA, frzAL, sets, prof, h1, h2, hw, mgT]
noncomputable def mBeats : List AV → Option AV := mk (fun p => profB p.1 p.2.2.1 = true) (fun (p : (Int) × (Bool) × (List Vt) × (Int) × (Int)) => [prof p.1 p.2.1 p.2.2.1, int p.2.2.2.1, int p.2.2.2.2]) (fun p => bool (btB p.2.2.1 p.2.2.2.1 p.2.2.2.2))
theorem mBeats_at (s : Int) (nl : Bool) (vs : List Vt) (a : Int) (b : Int) (hpre : profB s vs = true) : mBeats [.agg [.v (.int .i64 s), .sl nl 2 (vs.map vote)], .v (.int .i64 a), .v (.int .i64 b)] = some (.v (.bool (btB vs a b))) :=
  mk_eq (enc := fun (p : (Int) × (Bool) × (List Vt) × (Int) × (Int)) => [prof p.1 p.2.1 p.2.2.1, int p.2.2.2.1, int p.2.2.2.2]) (x := (s, nl, vs, a, b)) (by rintro ⟨a0, a1, a2, a3, a4⟩ ⟨b0, b1, b2, b3, b4⟩ h; simp [ints, intss, int, bool, row, frac, fracs, map_int_inj, map_row_inj, frac_inj, map_frac_inj, vts, prof, map_vote_inj] at h; simp [h]) hpre
set_option maxHeartbeats 1000000 in
theorem beats_ok : FnOk Tryz.prog 80 mBeats := by
  refine mk_ok fun ⟨s, nl, vs, a, b⟩ hp => ?_
  simp only at hp
  have hG : FnsOk Tryz.prog [(158, mMarg)] := (.cons margin_ok .nil)
  refine callOk_awpZ [0] (ctx_ok eqOk hG) mixed (live := [true, true, true, true, false, false, true]) (dt := []) Tryz.func80 rfl (by kernel_rfl) (by kernel_rfl) fun w0 hlens => ?_
  clear hlens
  have h1 := mMarg_at s nl vs a b hp
  simp [Tryz.f80, List.range, List.range.loop, ints, intss, int, bool, row, frac, fracs, ← List.map_take, ← List.map_drop, andThen_n, freeze, frzA, frzAL, sets, prof, h1, btB]
theorem Pure.killL {caps : List AV} (hc : Pure caps) (k : Nat) : Ax.killL k caps = caps := killL_id k caps (by rw [hc.refs]; simp)
def tiTo (f : Int → Int → Bool) (a : Nat) : Nat → Bool
  | 0 => true
  | b + 1 => tiTo f a b && (decide ((a : Int) = (b : Int)) || f a b)
def thT (f : Int → Int → Bool) (s : Nat) : List Int := selTo (fun a => tiTo f a s) s
set_option maxHeartbeats 2000000 in
theorem those_gen {g : FuncId} {caps : List AV} (hc : Pure caps) (f : Int → Int → Bool) (s : Nat) (nl : Bool) (vs : List Vt) (hp : profB s vs = true) (hgn : ¬ g = 66) (hg : ∀ a b : Int, CallOk Tryz.prog g (.v (.int .i64 a) :: .v (.int .i64 b) :: caps) (.v (.bool (f a b)))) :
    CallOk Tryz.prog 157 [prof (s : Int) nl vs, .fn g caps] (.sl (thT f s).isEmpty 1 ((thT f s).map int)) := by
  have hGg : FnOk Tryz.prog g (mk (fun _ => True) (fun x : Int × Int => .v (.int .i64 x.1) :: .v (.int .i64 x.2) :: caps) (fun x => .v (.bool (f x.1 x.2)))) := mk_ok fun x _ => hg x.1 x.2
  have hat : ∀ a b : Int, mk (fun _ => True) (fun x : Int × Int => .v (.int .i64 x.1) :: .v (.int .i64 x.2) :: caps) (fun x => AV.v (.bool (f x.1 x.2))) (.v (.int .i64 a) :: .v (.int .i64 b) :: caps) = some (.v (.bool (f a b))) := fun a b =>
    mk_eq (enc := fun x : Int × Int => .v (.int .i64 x.1) :: .v (.int .i64 x.2) :: caps) (f := fun x => AV.v (.bool (f x.1 x.2))) (x := (a, b)) (by
      rintro ⟨x, x'⟩ ⟨y, y'⟩ h
      simp at h
      simp [h]) trivial
  generalize mk (fun _ => True) (fun x : Int × Int => .v (.int .i64 x.1) :: .v (.int .i64 x.2) :: caps) (fun x => AV.v (.bool (f x.1 x.2))) = m at hGg hat
  have hG : FnsOk Tryz.prog [(66, mProf), (g, m)] := .cons implProf_ok (.cons hGg .nil)
  obtain ⟨h1, h2, h3⟩ := prof_facts hp
  have hpp := mProf_at (s : Int) nl vs
  rw [hp] at hpp
  refine callOk_awpZ [0] (ctx_ok eqOk hG) mixed (live := [true, true, true, false, true, true, true, true, true, false, false, true, false, true, true, true, false, false, true, true, true, false, false, false, false, false, false, false, false, false, false, false, false, false, false, true]) (dt := []) Tryz.func157 rfl (by kernel_rfl) (by kernel_rfl) fun w0 hlens => ?_
  clear hlens
  have zs : selTo (fun a => tiTo f a s) 0 = [] := rfl
  simp [Tryz.f157, List.range, List.range.loop, ints, intss, int, bool, row, frac, fracs, ← List.map_take, ← List.map_drop, andThen_n, freeze, frzA, frzAL, sets, prof, hpp, hc.res, hc.refs, hc.ren, hc.killN, frzAL_pure hc]
  refine awp_range (live := [true, true, true, false, true, true, true, true, true, false, false, true, false, true, true, true, false, false, true, true, true, false, false, false, false, false, false, false, false, false, false, false, false, false, false, true]) (ctx_ok eqOk hG) mixed [false, true, true, false, false, true, false, false, false, false, false, false, false, true, true] (s) (fun k => True) (fun k => ⟨[.junk, .fn g caps, .fp (prof (s : Int) nl vs) 0, .junk, .junk, liA 0 (selTo (fun a => tiTo f a s) k), .junk, .junk, .junk, .junk, .junk, .junk, .junk, int (s : Int), int k, .junk, .junk, .junk, .junk, .junk, .junk, .junk, .junk, .junk, .junk, .junk, .junk, .junk, .junk, .junk, .junk, .junk, .junk, .junk, .junk, .junk, .junk, .junk, .junk, .junk, .junk, .junk], liT (selTo (fun a => tiTo f a s) k)⟩) ?_ (by simp [sub, slotsLe, clean, keep, refsL, refs, once, place, renL, ren, List.replicate, int, bool, prof, zs, liA, liT, hc.refs, hc.ren, hc.killN]) ?_ ?_ ?_
  · omega
  · trivial
  · intro k hk _ hwk
    have hl := selTo_len (p := fun a => tiTo f a s) (k := k)
    have hy := selTo_yes (p := fun a => tiTo f a s) (k := k)
    have hn := selTo_no (p := fun a => tiTo f a s) (k := k)
    generalize selTo (fun a => tiTo f a s) (k + 1) = B at *
    generalize selTo (fun a => tiTo f a s) k = A at *
    have hb : (A.length + 1) * 8 ≤ 140737488355328 ∧ A.length + 1 ≤ 4611686018427387904 := by omega
    have zt : tiTo f k 0 = true := rfl
    have hks : (k : Int) < (s : Int) := by omega
    cases A with
    | nil =>
      simp only [List.length_cons, List.length_nil] at hb
      simp [List.range, List.range.loop, ints, intss, int, bool, row, frac, fracs, ← List.map_take, ← List.map_drop, prof, liA, liT, hk, hks, hc.res, hc.refs, hc.ren, hc.killN]
      refine awp_range (live := [true, true, true, false, true, true, true, true, true, false, false, true, false, true, true, true, false, false, true, true, true, false, false, false, false, false, false, false, false, false, false, false, false, false, false, true]) (ctx_ok eqOk hG) mixed [false, true, true, false, false, true, true, true, false, false, false, false, false, true, true, false, false, false, true, true] (s) (fun b => True) (fun b => ⟨[.junk, .fn g caps, .fp (prof (s : Int) nl vs) 0, .junk, .junk, .sl true 1 [], int (k : Int), bool (tiTo f k b), .junk, .junk, .junk, .junk, .junk, int (s : Int), int k, .junk, .junk, .junk, int (s : Int), int b, .junk, .junk, .junk, .junk, .junk, .junk, .junk, .junk, .junk, .junk, .junk, .junk, .junk, .junk, .junk, .junk, .junk, .junk, .junk, .junk, .junk, .junk], []⟩) ?_ (by simp [sub, slotsLe, clean, keep, refsL, refs, once, place, renL, ren, List.replicate, int, bool, prof, zt, liA, liT, hc.refs, hc.ren, hc.killN]) ?_ ?_ ?_
      · omega
      · trivial
      · intro b hb2 _ hwb
        have hz := hat k b
        have hbs : (b : Int) < (s : Int) := by omega
        have hs : tiTo f k (b + 1) = (tiTo f k b && (decide ((k : Int) = (b : Int)) || f k b)) := rfl
        by_cases e : (k : Int) = (b : Int)
        · have e' : k = b := by omega
          subst e'
          cases ht : tiTo f k k <;> rw [ht] at hs <;> simp [e] at hs <;> simp [List.range, List.range.loop, ints, intss, int, bool, row, frac, fracs, ← List.map_take, ← List.map_drop, prof, hb2, hbs, hwb, hgn, hs, ht, hc.res, hc.refs, hc.ren, hc.killN]
        · have e' : ¬ k = b := by omega
          have e2 : ((k : Int) == (b : Int)) = false := by simpa using e
          cases ht : tiTo f k b <;> cases hf : f k b <;> rw [hf] at hz <;> rw [ht, hf] at hs <;> simp [e] at hs <;> simp [List.range, List.range.loop, ints, intss, int, bool, row, frac, fracs, ← List.map_take, ← List.map_drop, prof, hb2, hbs, hwb, hgn, hs, e, e', e2, ht, hf, hz, hc.res, hc.refs, hc.ren, hc.killN]
      · intro _
        cases ht : tiTo f k s with
        | true =>
          have hB := hy ht
          subst hB
          simp [List.range, List.range.loop, ints, intss, int, bool, row, frac, fracs, ← List.map_take, ← List.map_drop, prof, liA, liT, hwk, hb, hc.res, hc.refs, hc.ren, hc.killN, hc.killL]
        | false =>
          have hB := hn ht
          subst hB
          simp [List.range, List.range.loop, ints, intss, int, bool, row, frac, fracs, ← List.map_take, ← List.map_drop, prof, liA, liT, hwk, hc.res, hc.refs, hc.ren, hc.killN]
    | cons o A =>
      simp only [List.length_cons, List.length_nil] at hb
      simp [List.range, List.range.loop, ints, intss, int, bool, row, frac, fracs, ← List.map_take, ← List.map_drop, prof, liA, liT, hk, hks, hc.res, hc.refs, hc.ren, hc.killN]
      refine awp_range (live := [true, true, true, false, true, true, true, true, true, false, false, true, false, true, true, true, false, false, true, true, true, false, false, false, false, false, false, false, false, false, false, false, false, false, false, true]) (ctx_ok eqOk hG) mixed [false, true, true, false, false, true, true, true, false, false, false, false, false, true, true, false, false, false, true, true] (s) (fun b => True) (fun b => ⟨[.junk, .fn g caps, .fp (prof (s : Int) nl vs) 0, .junk, .junk, .ref 0 [] 0 (A.length + 1), int (k : Int), bool (tiTo f k b), .junk, .junk, .junk, .junk, .junk, int (s : Int), int k, .junk, .junk, .junk, int (s : Int), int b, .junk, .junk, .junk, .junk, .junk, .junk, .junk, .junk, .junk, .junk, .junk, .junk, .junk, .junk, .junk, .junk, .junk, .junk, .junk, .junk, .junk, .junk], [⟨true,.sl false 1 ((o :: A).map int)⟩]⟩) ?_ (by simp [sub, slotsLe, clean, keep, refsL, refs, once, place, renL, ren, List.replicate, int, bool, prof, zt, liA, liT, hc.refs, hc.ren, hc.killN]) ?_ ?_ ?_
      · omega
      · trivial
      · intro b hb2 _ hwb
        have hz := hat k b
        have hbs : (b : Int) < (s : Int) := by omega
        have hs : tiTo f k (b + 1) = (tiTo f k b && (decide ((k : Int) = (b : Int)) || f k b)) := rfl
        by_cases e : (k : Int) = (b : Int)
        · have e' : k = b := by omega
          subst e'
          cases ht : tiTo f k k <;> rw [ht] at hs <;> simp [e] at hs <;> simp [List.range, List.range.loop, ints, intss, int, bool, row, frac, fracs, ← List.map_take, ← List.map_drop, prof, hb2, hbs, hwb, hgn, hs, ht, hc.res, hc.refs, hc.ren, hc.killN]
        · have e' : ¬ k = b := by omega
          have e2 : ((k : Int) == (b : Int)) = false := by simpa using e
          cases ht : tiTo f k b <;> cases hf : f k b <;> rw [hf] at hz <;> rw [ht, hf] at hs <;> simp [e] at hs <;> simp [List.range, List.range.loop, ints, intss, int, bool, row, frac, fracs, ← List.map_take, ← List.map_drop, prof, hb2, hbs, hwb, hgn, hs, e, e', e2, ht, hf, hz, hc.res, hc.refs, hc.ren, hc.killN]
      · intro _
        cases ht : tiTo f k s with
        | true =>
          have hB := hy ht
          subst hB
          simp [List.range, List.range.loop, ints, intss, int, bool, row, frac, fracs, ← List.map_take, ← List.map_drop, prof, liA, liT, hwk, hb, hc.res, hc.refs, hc.ren, hc.killN, hc.killL]
        | false =>
          have hB := hn ht
          subst hB
          simp [List.range, List.range.loop, ints, intss, int, bool, row, frac, fracs, ← List.map_take, ← List.map_drop, prof, liA, liT, hwk, hc.res, hc.refs, hc.ren, hc.killN]
  · intro _
    unfold thT
    generalize selTo (fun a => tiTo f a s) s = A at *
    cases A <;> simp [List.range, List.range.loop, ints, intss, int, bool, row, frac, fracs, ← List.map_take, ← List.map_drop, liA, liT, hc.refs, hc.ren, hc.killN, hc.killL]
def onT (f : Int → Int → Bool) (s : Nat) : Int := if (thT f s).length = 1 then at0 (thT f s) 0 else -1
set_option maxHeartbeats 1000000 in
theorem only_gen {g : FuncId} {caps : List AV} (hc : Pure caps) (f : Int → Int → Bool) (s : Nat) (nl : Bool) (vs : List Vt) (hp : profB s vs = true) (hgn : ¬ g = 66) (hg : ∀ a b : Int, CallOk Tryz.prog g (.v (.int .i64 a) :: .v (.int .i64 b) :: caps) (.v (.bool (f a b)))) :
    CallOk Tryz.prog 78 [prof (s : Int) nl vs, .fn g caps] (int (onT f s)) := by
  obtain ⟨m, hm, hz⟩ := as_model (those_gen hc f s nl vs hp hgn hg)
  have hG : FnsOk Tryz.prog [(157, m)] := .cons hm .nil
  refine callOk_awpZ [0] (ctx_ok eqOk hG) mixed (live := [true, true, true, false, true, true, false, false, false, false, false, true]) (dt := []) Tryz.func78 rfl (by kernel_rfl) (by kernel_rfl) fun w0 hlens => ?_
  clear hlens
  simp only [prof] at hz
  unfold onT
  generalize thT f s = L at *
  by_cases h1 : L.length = 1
  · have hl : 0 < L.length := by omega
    have e : L[0] = at0 L 0 := (at0_eq hl).symm
    have hne : L.isEmpty = false := by cases L with | nil => simp at h1 | cons _ _ => rfl
    rw [hne] at hz
    simp [Tryz.f78, List.range, List.range.loop, ints, intss, int, bool, row, frac, fracs, ← List.map_take, ← List.map_drop, andThen_n, freeze, frzA, frzAL, sets, prof, hz, hc.res, hc.refs, hc.ren, hc.killN, frzAL_pure hc, h1, e, hl]
  · have h1' : ¬ (L.length : Int) = 1 := by omega
    simp [Tryz.f78, List.range, List.range.loop, ints, intss, int, bool, row, frac, fracs, ← List.map_take, ← List.map_drop, andThen_n, freeze, frzA, frzAL, sets, prof, hz, hc.res, hc.refs, hc.ren, hc.killN, frzAL_pure hc, h1, h1']
theorem condorcet1 (a b : Int) (s : Int) (nl : Bool) (vs : List Vt) (hp : profB s vs = true) : CallOk Tryz.prog 79 [int a, int b, .fp (prof s nl vs) 0] (.v (.bool (btB vs a b))) := by
  have hG : FnsOk Tryz.prog [(80, mBeats)] := (.cons beats_ok .nil)
  refine callOk_awp (ctx_ok eqOk hG) mixed (live := [true, true, true, false, false, true]) (dt := []) Tryz.func79 rfl (by kernel_rfl) (by kernel_rfl) fun w0 hlens => ?_
  clear hlens
  have h := mBeats_at s nl vs a b hp
  simp [Tryz.f79, List.range, List.range.loop, ints, intss, int, bool, row, frac, fracs, ← List.map_take, ← List.map_drop, prof, h]
def cwT (s : Int) (vs : List Vt) : Int := if profB s vs = true then onT (btB vs) s.toNat else -1
noncomputable def mCw : List AV → Option AV := mk (fun p => profB p.1 p.2.2 = true) (fun (p : (Int) × (Bool) × (List Vt)) => [prof p.1 p.2.1 p.2.2]) (fun p => int (cwT p.1 p.2.2))
theorem mCw_at (s : Int) (nl : Bool) (vs : List Vt) (hpre : profB s vs = true) : mCw [.agg [.v (.int .i64 s), .sl nl 2 (vs.map vote)]] = some (.v (.int .i64 (cwT s vs))) :=
  mk_eq (enc := fun (p : (Int) × (Bool) × (List Vt)) => [prof p.1 p.2.1 p.2.2]) (x := (s, nl, vs)) (by rintro ⟨a0, a1, a2⟩ ⟨b0, b1, b2⟩ h; simp [ints, intss, int, bool, row, frac, fracs, map_int_inj, map_row_inj, frac_inj, map_frac_inj, vts, prof, map_vote_inj] at h; simp [h]) hpre
theorem implCw_ok : FnOk Tryz.prog 19 mCw := by
  refine mk_ok fun ⟨s, nl, vs⟩ hp => ?_
  simp only at hp
  obtain ⟨h1, h2, h3⟩ := prof_facts hp
  obtain ⟨S, rfl⟩ : ∃ S : Nat, s = S := ⟨s.toNat, by omega⟩
  have hc := only_gen (g := 79) (pure_fp (a := prof (S : Int) nl vs) (j := 0) pure_nil) (btB vs) S nl vs hp (by decide) (fun a b => condorcet1 a b S nl vs hp)
  obtain ⟨m, hm, hz⟩ := as_model hc
  have hG : FnsOk Tryz.prog [(78, m)] := (.cons hm .nil)
  refine callOk_awpZ [0] (ctx_ok eqOk hG) mixed (live := [true, true, true]) (dt := []) Tryz.func19 rfl (by kernel_rfl) (by kernel_rfl) fun w0 hlens => ?_
  clear hlens
  simp only [prof, int] at hz
  have e : cwT (S : Int) vs = onT (btB vs) S := by unfold cwT; rw [if_pos hp]; rfl
  simp [Tryz.f19, List.range, List.range.loop, ints, intss, int, bool, row, frac, fracs, ← List.map_take, ← List.map_drop, andThen_n, freeze, frzA, frzAL, sets, prof, hz, e]
theorem countVoters1 (nl : Bool) (l : List Int) : CallOk Tryz.prog 77 [row (nl, l)] (.v (.bool true)) := by
  have hG : FnsOk Tryz.prog [] := .nil
  refine callOk_awp (ctx_ok eqOk hG) mixed (live := [false, false, true]) (dt := []) Tryz.func77 rfl (by kernel_rfl) (by kernel_rfl) fun w0 hlens => ?_
  simp [Tryz.f77, List.range, List.range.loop, ints, intss, int, bool, row, frac, fracs, ← List.map_take, ← List.map_drop]
def cvT (s : Int) (vs : List Vt) : Int := if profB s vs = true then vtrs (fun _ => true) vs else -1
noncomputable def mCv : List AV → Option AV := mk (fun _ => True) (fun (p : (Int) × (Bool) × (List Vt)) => [prof p.1 p.2.1 p.2.2]) (fun p => int (cvT p.1 p.2.2))
theorem mCv_at (s : Int) (nl : Bool) (vs : List Vt) : mCv [.agg [.v (.int .i64 s), .sl nl 2 (vs.map vote)]] = some (.v (.int .i64 (cvT s vs))) :=
  mk_eq (enc := fun (p : (Int) × (Bool) × (List Vt)) => [prof p.1 p.2.1 p.2.2]) (x := (s, nl, vs)) (by rintro ⟨a0, a1, a2⟩ ⟨b0, b1, b2⟩ h; simp [ints, intss, int, bool, row, frac, fracs, map_int_inj, map_row_inj, frac_inj, map_frac_inj, vts, prof, map_vote_inj] at h; simp [h]) trivial
set_option maxHeartbeats 1000000 in
theorem implCv_ok : FnOk Tryz.prog 18 mCv := by
  refine mk_ok fun ⟨s, nl, vs⟩ _ => ?_
  have hpp := mProf_at s nl vs
  by_cases hp : profB s vs = true
  · have hc := voters_gen (g := 77) pure_nil (fun _ => true) s nl vs hp (fun v _ => countVoters1 v.1.1 v.1.2)
    obtain ⟨m, hm, hz⟩ := as_model hc
    have hG : FnsOk Tryz.prog [(66, mProf), (76, m)] := .cons implProf_ok (.cons hm .nil)
    refine callOk_awpZ [0] (ctx_ok eqOk hG) mixed (live := [true, true, true, false, false, true]) (dt := []) Tryz.func18 rfl (by kernel_rfl) (by kernel_rfl) fun w0 hlens => ?_
    clear hlens
    simp only [prof, int] at hz
    rw [hp] at hpp
    simp [Tryz.f18, List.range, List.range.loop, ints, intss, int, bool, row, frac, fracs, ← List.map_take, ← List.map_drop, andThen_n, freeze, frzA, frzAL, sets, prof, hpp, hz, cvT, hp]
  · have hp' : profB s vs = false := by simpa using hp
    have hG : FnsOk Tryz.prog [(66, mProf)] := .cons implProf_ok .nil
    refine callOk_awpZ [0] (ctx_ok eqOk hG) mixed (live := [true, true, true, false, false, true]) (dt := []) Tryz.func18 rfl (by kernel_rfl) (by kernel_rfl) fun w0 hlens => ?_
    clear hlens
    rw [hp'] at hpp
    simp [Tryz.f18, List.range, List.range.loop, ints, intss, int, bool, row, frac, fracs, ← List.map_take, ← List.map_drop, andThen_n, freeze, frzA, frzAL, sets, prof, hpp, cvT, hp']
end Go.Proofs.YtkfmhpgnhkdebaaGreatDoor.Ax
namespace Go.Proofs.YtkfmhpgnhkdebaaGreatDoor.Ax
open Go Go.RowKit
def bpTo (f : Int → Int → Bool) (a : Nat) : Nat → List (Int × Int)
  | 0 => []
  | b + 1 => bpTo f a b ++ (if f a b = true then [((a : Int), (b : Int))] else [])
def bpAll (f : Int → Int → Bool) (s : Nat) : Nat → List (Int × Int)
  | 0 => []
  | a + 1 => bpAll f s a ++ bpTo f a s
theorem bpTo_mem {f : Int → Int → Bool} {a : Nat} : ∀ {b : Nat}, ∀ x ∈ bpTo f a b, x.1 = a ∧ ∃ i : Nat, x.2 = i ∧ i < b
  | 0, x, hx => by simp [bpTo] at hx
  | b + 1, x, hx => by
    unfold bpTo at hx
    rcases List.mem_append.1 hx with hx | hx
    · obtain ⟨h1, i, h2, h3⟩ := bpTo_mem x hx
      exact ⟨h1, i, h2, by omega⟩
    · split at hx
      · rw [List.mem_singleton] at hx
        subst hx
        exact ⟨rfl, b, rfl, by omega⟩
      · simp at hx
theorem bpAll_mem {f : Int → Int → Bool} {s : Nat} : ∀ {a : Nat}, ∀ x ∈ bpAll f s a, (∃ i : Nat, x.1 = i ∧ i < a) ∧ ∃ i : Nat, x.2 = i ∧ i < s
  | 0, x, hx => by simp [bpAll] at hx
  | a + 1, x, hx => by
    unfold bpAll at hx
    rcases List.mem_append.1 hx with hx | hx
    · obtain ⟨⟨i, h1, h2⟩, h3⟩ := bpAll_mem x hx
      exact ⟨⟨i, h1, by omega⟩, h3⟩
    · obtain ⟨h1, h2⟩ := bpTo_mem x hx
      exact ⟨⟨a, h1, by omega⟩, h2⟩
theorem bpTo_len {f : Int → Int → Bool} {a : Nat} : ∀ {b : Nat}, (bpTo f a b).length ≤ b
  | 0 => by simp [bpTo]
  | b + 1 => by
    have := bpTo_len (f := f) (a := a) (b := b)
    unfold bpTo
    rw [List.length_append]
    split <;> simp <;> omega
theorem bpAll_len {f : Int → Int → Bool} {s : Nat} : ∀ {a : Nat}, (bpAll f s a).length ≤ s * a
  | 0 => by simp [bpAll]
  | a + 1 => by
    have h1 := bpAll_len (f := f) (s := s) (a := a)
    have h2 := bpTo_len (f := f) (a := a) (b := s)
    unfold bpAll
    rw [List.length_append, Nat.mul_succ]
    omega
theorem at0_inc1 {o : List Int} {i : Int} {j : Nat} (hi : i.toNat < o.length) : at0 (inc1 o i) j = at0 o j + if i.toNat = j then 1 else 0 := by
  unfold inc1 at0
  simp only [List.getD_eq_getElem?_getD]
  by_cases h : i.toNat = j
  · subst h
    rw [List.getElem?_set_self hi]
    simp
  · rw [List.getElem?_set_ne h, if_neg h]
    omega
theorem at0_incs {o : List Int} : ∀ {l : List Int} {j : Nat}, (∀ i ∈ l, i.toNat < o.length) → at0 (incs o l) j = at0 o j + (l.countP fun i => decide (i.toNat = j) : Nat) := by
  intro l
  unfold incs
  induction l generalizing o with
  | nil => intro j _; simp
  | cons i l ih =>
    intro j h
    rw [List.foldl_cons, ih (fun k hk => by rw [inc1_len]; exact h k (by simp [hk])), at0_inc1 (h i (by simp)), List.countP_cons]
    by_cases e : i.toNat = j
    · simp [e]; omega
    · simp [e]
def ctTo (f : Int → Int → Bool) (a : Nat) : Nat → Nat
  | 0 => 0
  | b + 1 => ctTo f a b + if f a b = true then 1 else 0
theorem ct_bpTo {f : Int → Int → Bool} {a j : Nat} : ∀ {b : Nat}, ((bpTo f a b).map (·.1)).countP (fun i => decide (i.toNat = j)) = if a = j then ctTo f a b else 0
  | 0 => by simp [bpTo, ctTo]
  | b + 1 => by
    unfold bpTo ctTo
    rw [List.map_append, List.countP_append, ct_bpTo]
    by_cases e : a = j
    · subst e
      by_cases h : f a b = true <;> simp [h]
    · by_cases h : f a b = true <;> simp [h, e]
theorem ct_bpAll {f : Int → Int → Bool} {s j : Nat} : ∀ {a : Nat}, ((bpAll f s a).map (·.1)).countP (fun i => decide (i.toNat = j)) = if j < a then ctTo f j s else 0
  | 0 => by simp [bpAll]
  | a + 1 => by
    unfold bpAll
    rw [List.map_append, List.countP_append, ct_bpAll, ct_bpTo]
    by_cases h1 : j < a
    · rw [if_pos h1, if_neg (by omega), if_pos (by omega)]; omega
    · by_cases h2 : a = j
      · subst h2; rw [if_neg h1, if_pos rfl, if_pos (by omega)]; omega
      · rw [if_neg h1, if_neg h2, if_neg (by omega)]
def wonT (f : Int → Int → Bool) (s : Nat) : List Int := incs (List.replicate s 0) ((bpAll f s s).map (·.1))
def lostT (f : Int → Int → Bool) (s : Nat) : List Int := incs (List.replicate s 0) ((bpAll f s s).map (·.2))
theorem wonT_len {f : Int → Int → Bool} {s : Nat} : (wonT f s).length = s := by simp [wonT, incs_len]
theorem wonT_at {f : Int → Int → Bool} {s a : Nat} (h : a < s) : at0 (wonT f s) a = ctTo f a s := by
  unfold wonT
  rw [at0_incs fun i hi => by
    obtain ⟨x, hx, rfl⟩ := List.mem_map.1 hi
    obtain ⟨⟨i, h1, h2⟩, _⟩ := bpAll_mem x hx
    rw [h1]; simpa using h2, ct_bpAll, if_pos h]
  simp [at0, List.getD_eq_getElem?_getD, h]
theorem tiTo_iff {f : Int → Int → Bool} {a : Nat} : ∀ {b : Nat}, tiTo f a b = true ↔ ∀ i : Nat, i < b → a ≠ i → f a i = true
  | 0 => by simp [tiTo]
  | b + 1 => by
    unfold tiTo
    rw [Bool.and_eq_true, tiTo_iff, Bool.or_eq_true, decide_eq_true_eq]
    constructor
    · rintro ⟨h1, h2⟩ i hi hne
      by_cases e : i = b
      · subst e; exact h2.resolve_left (by omega)
      · exact h1 i (by omega) hne
    · intro h
      refine ⟨fun i hi hne => h i (by omega) hne, ?_⟩
      by_cases e : a = b
      · exact .inl (by omega)
      · exact .inr (h b (by omega) e)
theorem ctTo_le {f : Int → Int → Bool} {a : Nat} (hr : f a a = false) : ∀ {b : Nat}, ctTo f a b ≤ b - (if a < b then 1 else 0) ∧ (ctTo f a b = b - (if a < b then 1 else 0) ↔ tiTo f a b = true)
  | 0 => by simp [ctTo, tiTo]
  | b + 1 => by
    obtain ⟨h1, h2⟩ := ctTo_le (f := f) (a := a) hr (b := b)
    unfold ctTo tiTo
    rw [Bool.and_eq_true, ← h2, Bool.or_eq_true, decide_eq_true_eq]
    by_cases e : a = b
    · subst e
      rw [hr]
      simp at h1 ⊢
      omega
    · have e' : ¬ (a : Int) = (b : Int) := by omega
      have hle : a < b + 1 ↔ a < b := by omega
      by_cases hf : f a b = true
      · rw [if_pos hf]
        simp only [e', false_or, hf, and_true, hle]
        by_cases hlt : a < b
        · simp only [if_pos hlt] at h1 ⊢; omega
        · simp only [if_neg hlt] at h1 ⊢; omega
      · rw [if_neg hf]
        have hf' : (f a b = true) = False := eq_false hf
        simp only [e', false_or, hf', and_false, iff_false, hle]
        by_cases hlt : a < b
        · simp only [if_pos hlt] at h1 ⊢
          have : 0 < b := by omega
          omega
        · simp only [if_neg hlt] at h1 ⊢; omega
theorem wonT_full {f : Int → Int → Bool} {s a : Nat} (hr : f a a = false) (h : a < s) : (at0 (wonT f s) a = (s : Int) - 1) ↔ tiTo f a s = true := by
  rw [wonT_at h, ← (ctTo_le hr (b := s)).2, if_pos h]
  omega
def fulT (ws : List Int) : Int := idxOf (fun n => decide (n = (ws.length : Int) - 1)) ws
theorem ful_on {f : Int → Int → Bool} {s : Nat} (hr : ∀ a : Nat, f a a = false) (has : ∀ a b : Nat, f a b = true → f b a = false) : fulT (wonT f s) = onT f s := by
  have hl := wonT_len (f := f) (s := s)
  have key : ∀ i (h : i < (wonT f s).length), decide ((wonT f s)[i] = ((wonT f s).length : Int) - 1) = tiTo f i s := fun i h => by
    have e := at0_eq h
    rw [← e, hl]
    have := wonT_full (s := s) (hr i) (show i < s by omega)
    cases ht : tiTo f i s with
    | true => exact decide_eq_true (this.2 ht)
    | false => exact decide_eq_false fun h2 => by rw [this.1 h2] at ht; cases ht
  have huq : ∀ i j : Nat, i < s → j < s → tiTo f i s = true → tiTo f j s = true → i = j := fun i j hi hj h1 h2 => by
    by_cases e : i = j
    · exact e
    · have a1 := tiTo_iff.1 h1 j hj e
      have a2 := tiTo_iff.1 h2 i hi (fun h => e h.symm)
      rw [has i j a1] at a2; cases a2
  unfold onT thT
  by_cases hex : ∃ i : Nat, i < s ∧ tiTo f i s = true
  · obtain ⟨i, hi, ht⟩ := hex
    have hsel : (List.range s).filter (fun a => tiTo f a s) = [i] := by
      have h1 : ∀ k, k ≤ s → (List.range k).filter (fun a => tiTo f a s) = if i < k then [i] else [] := by
        intro k
        induction k with
        | zero => intro _; rfl
        | succ k ih =>
          intro hk
          rw [List.range_succ, List.filter_append, ih (by omega)]
          by_cases e : k = i
          · subst e; simp [ht]
          · have hf : tiTo f k s = false := by
              cases hh : tiTo f k s with
              | false => rfl
              | true => exact absurd (huq k i (by omega) hi hh ht) e
            by_cases h2 : i < k
            · rw [if_pos h2, if_pos (show i < k + 1 by omega)]; simp [hf]
            · rw [if_neg h2, if_neg (show ¬ i < k + 1 by omega)]; simp [hf]
      have := h1 s (Nat.le_refl _)
      rwa [if_pos hi] at this
    have e2 : selTo (fun a => tiTo f a s) s = [(i : Int)] := by unfold selTo; rw [hsel]; rfl
    rw [e2]
    simp only [List.length_singleton, if_true]
    unfold fulT
    rw [idxOf_found (k := i) (by omega) (fun j hj hji => by
      rw [key j hj]
      cases hh : tiTo f j s with
      | false => rfl
      | true => exact absurd (huq j i (by omega) hi hh ht) (by omega)) (by rw [key i (by omega)]; exact ht)]
    rfl
  · have hsel : selTo (fun a => tiTo f a s) s = [] := by
      unfold selTo
      have : (List.range s).filter (fun a => tiTo f a s) = [] := List.filter_eq_nil_iff.2 fun a ha h => hex ⟨a, List.mem_range.1 ha, h⟩
      rw [this]; rfl
    rw [hsel]
    simp only [List.length_nil]
    unfold fulT
    rw [idxOf_none fun j hj _ => by
      rw [key j hj]
      cases hh : tiTo f j s with
      | false => rfl
      | true => exact absurd ⟨j, by omega, hh⟩ hex]
    simp
theorem btB_irr {vs : List Vt} (a : Int) : btB vs a a = false := by simp [btB, mgT]
theorem btB_asym {vs : List Vt} (a b : Int) (h : btB vs a b = true) : btB vs b a = false := by
  unfold btB at h ⊢
  have h := of_decide_eq_true h
  refine decide_eq_false ?_
  unfold mgT at h ⊢
  omega
end Go.Proofs.YtkfmhpgnhkdebaaGreatDoor.Ax
namespace Go.Proofs.YtkfmhpgnhkdebaaGreatDoor.Ax
open Go Go.RowKit
set_option linter.unusedSimpArgs false
noncomputable def mCvS : List AV → Option AV := mk (fun p => profB p.1 p.2.2 = true) (fun (p : (Int) × (Bool) × (List Vt)) => [prof p.1 p.2.1 p.2.2]) (fun p => int (vtrs (fun _ => true) p.2.2))
theorem mCvS_at (s : Int) (nl : Bool) (vs : List Vt) (hpre : profB s vs = true) : mCvS [.agg [.v (.int .i64 s), .sl nl 2 (vs.map vote)]] = some (.v (.int .i64 (vtrs (fun _ => true) vs))) :=
  mk_eq (enc := fun (p : (Int) × (Bool) × (List Vt)) => [prof p.1 p.2.1 p.2.2]) (x := (s, nl, vs)) (by rintro ⟨a0, a1, a2⟩ ⟨b0, b1, b2⟩ h; simp [ints, intss, int, bool, row, frac, fracs, map_int_inj, map_row_inj, frac_inj, map_frac_inj, vts, prof, map_vote_inj] at h; simp [h]) hpre
set_option maxHeartbeats 1000000 in
theorem l04Voters_ok : FnOk Tryz.prog 135 mCvS := by
  refine mk_ok fun ⟨s, nl, vs⟩ hp => ?_
  simp only at hp
  obtain ⟨h1, h2, h3⟩ := prof_facts hp
  have hG : FnsOk Tryz.prog [] := .nil
  refine callOk_awpZ [0] (ctx_ok eqOk hG) mixed (live := [true, true, true, true, false, true, false, true, true, true, true]) (dt := []) Tryz.func135 rfl (by kernel_rfl) (by kernel_rfl) fun w0 hlens => ?_
  clear hlens
  have z0 := vtrs_zero (p := fun _ => true)
  simp [Tryz.f135, List.range, List.range.loop, ints, intss, int, bool, row, frac, fracs, ← List.map_take, ← List.map_drop, andThen_n, freeze, frzA, frzAL, sets, prof]
  refine awp_range (live := [true, true, true, true, false, true, false, true, true, true, true]) (ctx_ok eqOk hG) mixed [false, false, false, true, false, false, false, true, true, true] (vs.length) (fun k => True) (fun k => ⟨[.junk, .junk, .junk, int (vtrs (fun _ => true) (vs.take k)), .junk, .junk, .junk, vts nl vs, int vs.length, int k, .junk, .junk, .junk, .junk, .junk, .junk, .junk, .junk, .junk], []⟩) ?_ (by simp [sub, slotsLe, clean, keep, refsL, refs, once, place, renL, ren, List.replicate, int, bool, prof, vts, z0]) ?_ ?_ ?_
  · omega
  · trivial
  · intro k hk _ hwk
    have hs := vtrs_succ (p := fun _ => true) hk
    have hb := vtrs_bd (p := fun _ => true) (vs := vs.take k) fun v hv => (h3 v (List.mem_of_mem_take hv)).2
    have hv := (h3 _ (List.getElem_mem hk)).2
    rw [List.length_take] at hb
    rw [if_pos rfl] at hs
    have hw : IntKind.i64.wrap (vtrs (fun _ => true) (vs.take k) + vs[k].2) = vtrs (fun _ => true) (vs.take k) + vs[k].2 := wrapI (by omega) (by omega)
    generalize vtrs (fun _ => true) (vs.take (k + 1)) = B at *
    generalize vtrs (fun _ => true) (vs.take k) = A at *
    subst hs
    simp [List.range, List.range.loop, ints, intss, int, bool, row, frac, fracs, ← List.map_take, ← List.map_drop, prof, vts, vote, hk, hwk, hw]
  · intro _
    simp [List.range, List.range.loop, ints, intss, int, bool, row, frac, fracs, ← List.map_take, ← List.map_drop, prof, vts]
theorem specCv_ok : FnOk Tryz.prog 59 mCv := by
  refine mk_ok fun ⟨s, nl, vs⟩ _ => ?_
  have hpp := mProf_at s nl vs
  have hG : FnsOk Tryz.prog [(57, mProf), (135, mCvS)] := (.cons specProf_ok (.cons l04Voters_ok .nil))
  refine callOk_awpZ [0] (ctx_ok eqOk hG) mixed (live := [true, true, true, false, false, true]) (dt := []) Tryz.func59 rfl (by kernel_rfl) (by kernel_rfl) fun w0 hlens => ?_
  clear hlens
  by_cases hp : profB s vs = true
  · have hz := mCvS_at s nl vs hp
    rw [hp] at hpp
    simp [Tryz.f59, List.range, List.range.loop, ints, intss, int, bool, row, frac, fracs, ← List.map_take, ← List.map_drop, andThen_n, freeze, frzA, frzAL, sets, prof, hpp, hz, cvT, hp]
  · have hp' : profB s vs = false := by simpa using hp
    rw [hp'] at hpp
    simp [Tryz.f59, List.range, List.range.loop, ints, intss, int, bool, row, frac, fracs, ← List.map_take, ← List.map_drop, andThen_n, freeze, frzA, frzAL, sets, prof, hpp, cvT, hp']
set_option maxHeartbeats 1000000 in
theorem l04Pair_ok : FnOk Tryz.prog 202 mPair := by
  refine mk_ok fun ⟨s, nl, vs, a, b⟩ hp => ?_
  simp only at hp
  obtain ⟨h1, h2, h3⟩ := prof_facts hp
  have hG : FnsOk Tryz.prog [(248, mPref)] := (.cons specPref_ok .nil)
  refine callOk_awpZ [0] (ctx_ok eqOk hG) mixed (live := [true, true, true, true, false, false, true, true, false, true, false, true, true, true, true, false, false, false, false, false, false, true]) (dt := []) Tryz.func202 rfl (by kernel_rfl) (by kernel_rfl) fun w0 hlens => ?_
  clear hlens
  have z0 := vtrs_zero (p := fun l => pfB l a b)
  unfold prT
  simp [Tryz.f202, List.range, List.range.loop, ints, intss, int, bool, row, frac, fracs, ← List.map_take, ← List.map_drop, andThen_n, freeze, frzA, frzAL, sets, prof]
  refine awp_range (live := [true, true, true, true, false, false, true, true, false, true, false, true, true, true, true, false, false, false, false, false, false, true]) (ctx_ok eqOk hG) mixed [false, true, true, false, false, false, false, true, false, false, false, true, true, true] (vs.length) (fun k => True) (fun k => ⟨[.junk, int a, int b, .junk, .junk, .junk, .junk, int (vtrs (fun l => pfB l a b) (vs.take k)), .junk, .junk, .junk, vts nl vs, int vs.length, int k, .junk, .junk, .junk, .junk, .junk, .junk, .junk, .junk, .junk, .junk, .junk, .junk, .junk, .junk], []⟩) ?_ (by simp [sub, slotsLe, clean, keep, refsL, refs, once, place, renL, ren, List.replicate, int, bool, prof, vts, z0]) ?_ ?_ ?_
  · omega
  · trivial
  · intro k hk _ hwk
    have hz := mPref_at vs[k].1.1 vs[k].1.2 a b
    have hs := vtrs_succ (p := fun l => pfB l a b) hk
    have hb := vtrs_bd (p := fun l => pfB l a b) (vs := vs.take k) fun v hv => (h3 v (List.mem_of_mem_take hv)).2
    have hv := (h3 _ (List.getElem_mem hk)).2
    rw [List.length_take] at hb
    have hw : IntKind.i64.wrap (vtrs (fun l => pfB l a b) (vs.take k) + vs[k].2) = vtrs (fun l => pfB l a b) (vs.take k) + vs[k].2 := wrapI (by omega) (by omega)
    generalize vtrs (fun l => pfB l a b) (vs.take (k + 1)) = B at *
    generalize vtrs (fun l => pfB l a b) (vs.take k) = A at *
    subst hs
    cases hpk : pfB vs[k].1.2 a b with
    | true =>
      rw [hpk] at hz
      simp [List.range, List.range.loop, ints, intss, int, bool, row, frac, fracs, ← List.map_take, ← List.map_drop, prof, vts, vote, hk, hwk, hz, hw, hpk]
    | false =>
      rw [hpk] at hz
      simp [List.range, List.range.loop, ints, intss, int, bool, row, frac, fracs, ← List.map_take, ← List.map_drop, prof, vts, vote, hk, hwk, hz, hw, hpk]
  · intro _
    simp [List.range, List.range.loop, ints, intss, int, bool, row, frac, fracs, ← List.map_take, ← List.map_drop, prof, vts]
set_option maxHeartbeats 1000000 in
theorem l06Beats_ok : FnOk Tryz.prog 139 mBeats := by
  refine mk_ok fun ⟨s, nl, vs, a, b⟩ hp => ?_
  simp only at hp
  have hG : FnsOk Tryz.prog [(202, mPair)] := (.cons l04Pair_ok .nil)
  refine callOk_awpZ [0] (ctx_ok eqOk hG) mixed (live := [true, true, true, true, false, false, true]) (dt := [(1, ⟨[], [], []⟩)]) Tryz.func139 rfl (by kernel_rfl) (by kernel_rfl) fun w0 hlens => ?_
  clear hlens
  have h1 := mPair_at s nl vs a b hp
  have h2 := mPair_at s nl vs b a hp
  have e : btB vs a b = decide (prT vs b a < prT vs a b) := by
    unfold btB mgT
    exact decide_eq_decide.2 (by omega)
  rw [e]
  simp [Tryz.f139, List.range, List.range.loop, ints, intss, int, bool, row, frac, fracs, ← List.map_take, ← List.map_drop, andThen_n, freeze, frzA, frzAL, sets, prof, h1, h2]
noncomputable def mFul : List AV → Option AV := mk (fun p => p.2.length ≤ 1000) (fun (p : (Bool) × (List Int)) => [ints p.1 p.2]) (fun p => int (fulT p.2))
theorem mFul_at (nl : Bool) (ws : List Int) (hpre : ws.length ≤ 1000) : mFul [.sl nl 1 (ws.map int)] = some (.v (.int .i64 (fulT ws))) :=
  mk_eq (enc := fun (p : (Bool) × (List Int)) => [ints p.1 p.2]) (x := (nl, ws)) (by rintro ⟨a0, a1⟩ ⟨b0, b1⟩ h; simp [ints, intss, int, bool, row, frac, fracs, map_int_inj, map_row_inj, frac_inj, map_frac_inj] at h; simp [h]) hpre
set_option maxHeartbeats 1000000 in
theorem l06Full_ok : FnOk Tryz.prog 137 mFul := by
  refine mk_ok fun ⟨nl, ws⟩ hl => ?_
  simp only at hl
  have hG : FnsOk Tryz.prog [] := .nil
  refine callOk_awp (ctx_ok eqOk hG) mixed (live := [true, false, true, true, true, true, true, true, true, false, false, false, false, false, false, false, true]) (dt := []) Tryz.func137 rfl (by kernel_rfl) (by kernel_rfl) fun w0 hlens => ?_
  clear hlens
  unfold fulT
  simp [Tryz.f137, List.range, List.range.loop, ints, intss, int, bool, row, frac, fracs, ← List.map_take, ← List.map_drop]
  refine awp_range (live := [true, false, true, true, true, true, true, true, true, false, false, false, false, false, false, false, true]) (ctx_ok eqOk hG) mixed [true, false, false, false, false, true, true, true] (ws.length) (fun k => ∀ j (hj : j < ws.length), j < k → decide (ws[j] = (ws.length : Int) - 1) = false) (fun k => ⟨[ints nl ws, .junk, .junk, .junk, .junk, ints nl ws, int ws.length, int k, .junk, .junk, .junk, .junk, .junk, .junk, .junk, .junk, .junk, .junk, .junk], []⟩) ?_ (by simp [sub, slotsLe, clean, keep, refsL, refs, once, place, renL, ren, List.replicate, int, bool, ints]) ?_ ?_ ?_
  · omega
  · intro j hj h; omega
  · intro k hk hno hwk
    have hw : IntKind.i64.wrap ((ws.length : Int) - 1) = (ws.length : Int) - 1 := wrapI (by omega) (by omega)
    by_cases hp : ws[k] = (ws.length : Int) - 1
    · have hf := idxOf_found (p := fun n => decide (n = (ws.length : Int) - 1)) hk hno (by simpa using hp)
      simp [List.range, List.range.loop, ints, intss, int, bool, row, frac, fracs, ← List.map_take, ← List.map_drop, hk, hw, hp, hf]
    · simp [List.range, List.range.loop, ints, intss, int, bool, row, frac, fracs, ← List.map_take, ← List.map_drop, hk, hw, hp, hwk]
      intro j hj hjk
      by_cases e : j = k
      · subst e; exact hp
      · simpa using hno j hj (by omega)
  · intro hno
    have hf := idxOf_none (p := fun n => decide (n = (ws.length : Int) - 1)) hno
    simp [List.range, List.range.loop, ints, intss, int, bool, row, frac, fracs, ← List.map_take, ← List.map_drop, hf]
end Go.Proofs.YtkfmhpgnhkdebaaGreatDoor.Ax
