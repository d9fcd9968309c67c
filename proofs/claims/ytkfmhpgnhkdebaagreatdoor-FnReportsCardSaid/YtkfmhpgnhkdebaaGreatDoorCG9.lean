/-
  Contracts: pairs, margins, the Condorcet winner (the program). No condition.
-/
import Derived.Test.YtkfmhpgnhkdebaaGreatDoorCG8
namespace Go.Proofs.YtkfmhpgnhkdebaaGreatDoor.Ax
open Go Go.RowKit
set_option linter.unusedSimpArgs false
def prT (vs : List Vt) (a b : Int) : Int := vtrs (fun l => pfB l a b) vs
def mgT (vs : List Vt) (a b : Int) : Int := prT vs a b - prT vs b a
def btB (vs : List Vt) (a b : Int) : Bool := decide (0 < mgT vs a b)
theorem prT_bd {s : Int} {vs : List Vt} (h : profB s vs = true) (a b : Int) : 0 ≤ prT vs a b ∧ prT vs a b ≤ 24000 := by
  obtain ⟨_, h2, h3⟩ := prof_facts h
  have := vtrs_bd (p := fun l => pfB l a b) fun v hv => (h3 v hv).2
  unfold prT; omega
theorem pair1 (nl : Bool) (l : List Int) (a b : Int) : CallOk Tryz.prog 259 [row (nl, l), .fp (int a) 0, .fp (int b) 0] (.v (.bool (pfB l a b))) := by
  have hG : FnsOk Tryz.prog [(222, mPref)] := (.cons implPref_ok .nil)
  refine callOk_awp (ctx_ok eqOk hG) mixed (live := [true, true, true, false, true]) (dt := []) Tryz.func259 rfl (by kernel_rfl) (by kernel_rfl) fun w0 hlens => ?_
  clear hlens
  have h := mPref_at nl l a b
  simp [Tryz.f259, List.range, List.range.loop, ints, intss, int, bool, row, frac, fracs, ← List.map_take, ← List.map_drop, h]
noncomputable def mPair : List AV → Option AV := mk (fun p => profB p.1 p.2.2.1 = true) (fun (p : (Int) × (Bool) × (List Vt) × (Int) × (Int)) => [prof p.1 p.2.1 p.2.2.1, int p.2.2.2.1, int p.2.2.2.2]) (fun p => int (prT p.2.2.1 p.2.2.2.1 p.2.2.2.2))
theorem mPair_at (s : Int) (nl : Bool) (vs : List Vt) (a : Int) (b : Int) (hpre : profB s vs = true) : mPair [.agg [.v (.int .i64 s), .sl nl 2 (vs.map vote)], .v (.int .i64 a), .v (.int .i64 b)] = some (.v (.int .i64 (prT vs a b))) :=
  mk_eq (enc := fun (p : (Int) × (Bool) × (List Vt) × (Int) × (Int)) => [prof p.1 p.2.1 p.2.2.1, int p.2.2.2.1, int p.2.2.2.2]) (x := (s, nl, vs, a, b)) (by rintro ⟨a0, a1, a2, a3, a4⟩ ⟨b0, b1, b2, b3, b4⟩ h; simp [ints, intss, int, bool, row, frac, fracs, map_int_inj, map_row_inj, frac_inj, map_frac_inj, vts, prof, map_vote_inj] at h; simp [h]) hpre
set_option maxHeartbeats 1000000 in
theorem pair_ok : FnOk Tryz.prog 219 mPair := by
  refine mk_ok fun ⟨s, nl, vs, a, b⟩ hp => ?_
  simp only at hp
  have hc := voters_gen (g := 259) (pure_fp (a := int a) (j := 0) (pure_fp (a := int b) (j := 0) pure_nil)) (fun l => pfB l a b) s nl vs hp (fun v _ => pair1 v.1.1 v.1.2 a b)
  obtain ⟨m, hm, hz⟩ := as_model hc
  have hG : FnsOk Tryz.prog [(76, m)] := (.cons hm .nil)
  refine callOk_awpZ [0] (ctx_ok eqOk hG) mixed (live := [true, true, true, true, true, true, true]) (dt := []) Tryz.func219 rfl (by kernel_rfl) (by kernel_rfl) fun w0 hlens => ?_
  clear hlens
  simp only [prof, int] at hz
  simp [Tryz.f219, List.range, List.range.loop, ints, intss, int, bool, row, frac, fracs, ← List.map_take, ← List.map_drop, andThen_n, freeze, frzA, frzAL, sets, prof, hz, prT]
noncomputable def mMarg : List AV → Option AV := mk (fun p => profB p.1 p.2.2.1 = true) (fun (p : (Int) × (Bool) × (List Vt) × (Int) × (Int)) => [prof p.1 p.2.1 p.2.2.1, int p.2.2.2.1, int p.2.2.2.2]) (fun p => int (mgT p.2.2.1 p.2.2.2.1 p.2.2.2.2))
theorem mMarg_at (s : Int) (nl : Bool) (vs : List Vt) (a : Int) (b : Int) (hpre : profB s vs = true) : mMarg [.agg [.v (.int .i64 s), .sl nl 2 (vs.map vote)], .v (.int .i64 a), .v (.int .i64 b)] = some (.v (.int .i64 (mgT vs a b))) :=
  mk_eq (enc := fun (p : (Int) × (Bool) × (List Vt) × (Int) × (Int)) => [prof p.1 p.2.1 p.2.2.1, int p.2.2.2.1, int p.2.2.2.2]) (x := (s, nl, vs, a, b)) (by rintro ⟨a0, a1, a2, a3, a4⟩ ⟨b0, b1, b2, b3, b4⟩ h; simp [ints, intss, int, bool, row, frac, fracs, map_int_inj, map_row_inj, frac_inj, map_frac_inj, vts, prof, map_vote_inj] at h; simp [h]) hpre
set_option maxHeartbeats 1000000 in
theorem margin_ok : FnOk Tryz.prog 158 mMarg := by
  refine mk_ok fun ⟨s, nl, vs, a, b⟩ hp => ?_
  simp only at hp
  have hG : FnsOk Tryz.prog [(219, mPair)] := (.cons pair_ok .nil)
  refine callOk_awpZ [0] (ctx_ok eqOk hG) mixed (live := [true, true, true, true, false, false, true]) (dt := [(1, ⟨[], [], []⟩)]) Tryz.func158 rfl (by kernel_rfl) (by kernel_rfl) fun w0 hlens => ?_
  clear hlens
  have h1 := mPair_at s nl vs a b hp
  have h2 := mPair_at s nl vs b a hp
  have b1 := prT_bd hp a b
  have b2 := prT_bd hp b a
  have hw : IntKind.i64.wrap (prT vs a b - prT vs b a) = prT vs a b - prT vs b a := wrapI (by omega) (by omega)
  simp [Tryz.f158, List.range, List.range.loop, ints, intss, int, bool, row, frac, fracs, ← List.map_take, ← List.map_drop, andThen_n, freeze, frzA, frzAL, sets, prof, h1, h2, hw, mgT]
noncomputable def mBeats : List AV → Option AV := mk (fun p => profB p.1 p.2.2.1 = true) (fun (p : (Int) × (Bool) × (List Vt) × (Int) × (Int)) => [prof p.1 p.2.1 p.2.2.1, int p.2.2.2.1, int p.2.2.2.2]) (fun p => bool (btB p.2.2.1 p.2.2.2.1 p.2.2.2.2))
theorem mBeats_at (s : Int) (nl : Bool) (vs : List Vt) (a : Int) (b : Int) (hpre : profB s vs = true) : mBeats [.agg [.v (.int .i64 s), .sl nl 2 (vs.map vote)], .v (.int .i64 a), .v (.int .i64 b)] = some (.v (.bool (btB vs a b))) :=
  mk_eq (enc := fun (p : (Int) × (Bool) × (List Vt) × (Int) × (Int)) => [prof p.1 p.2.1 p.2.2.1, int p.2.2.2.1, int p.2.2.2.2]) (x := (s, nl, vs, a, b)) (by rintro ⟨a0, a1, a2, a3, a4⟩ ⟨b0, b1, b2, b3, b4⟩ h; simp [ints, intss, int, bool, row, frac, fracs, map_int_inj, map_row_inj, frac_inj, map_frac_inj, vts, prof, map_vote_inj] at h; simp [h]) hpre
set_option maxHeartbeats 1000000 in
theorem beats_ok : FnOk Tryz.prog 80 mBeats := by
  refine mk_ok fun ⟨s, nl, vs, a, b⟩ hp => ?_
  simp only at hp
  have hG : FnsOk Tryz.prog [(158, mMarg)] := (.cons margin_ok .nil)
  refine callOk_awpZ [0] (ctx_ok eqOk hG) mixed (live := [true, true, true, true, false, false, true]) (dt := []) Tryz.func80 rfl (by kernel_rfl) (by kernel_rfl) fun w0 hlens => ?_
  clear hlens
  have h1 := mMarg_at s nl vs a b hp
  simp [Tryz.f80, List.range, List.range.loop, ints, intss, int, bool, row, frac, fracs, ← List.map_take, ← List.map_drop, andThen_n, freeze, frzA, frzAL, sets, prof, h1, btB]
theorem Pure.killL {caps : List AV} (hc : Pure caps) (k : Nat) : Ax.killL k caps = caps := killL_id k caps (by rw [hc.refs]; simp)
def tiTo (f : Int → Int → Bool) (a : Nat) : Nat → Bool
  | 0 => true
  | b + 1 => tiTo f a b && (decide ((a : Int) = (b : Int)) || f a b)
def thT (f : Int → Int → Bool) (s : Nat) : List Int := selTo (fun a => tiTo f a s) s
set_option maxHeartbeats 2000000 in
theorem those_gen {g : FuncId} {caps : List AV} (hc : Pure caps) (f : Int → Int → Bool) (s : Nat) (nl : Bool) (vs : List Vt) (hp : profB s vs = true) (hgn : ¬ g = 66) (hg : ∀ a b : Int, CallOk Tryz.prog g (.v (.int .i64 a) :: .v (.int .i64 b) :: caps) (.v (.bool (f a b)))) :
    CallOk Tryz.prog 157 [prof (s : Int) nl vs, .fn g caps] (.sl (thT f s).isEmpty 1 ((thT f s).map int)) := by
  have hGg : FnOk Tryz.prog g (mk (fun _ => True) (fun x : Int × Int => .v (.int .i64 x.1) :: .v (.int .i64 x.2) :: caps) (fun x => .v (.bool (f x.1 x.2)))) := mk_ok fun x _ => hg x.1 x.2
  have hat : ∀ a b : Int, mk (fun _ => True) (fun x : Int × Int => .v (.int .i64 x.1) :: .v (.int .i64 x.2) :: caps) (fun x => AV.v (.bool (f x.1 x.2))) (.v (.int .i64 a) :: .v (.int .i64 b) :: caps) = some (.v (.bool (f a b))) := fun a b =>
    mk_eq (enc := fun x : Int × Int => .v (.int .i64 x.1) :: .v (.int .i64 x.2) :: caps) (f := fun x => AV.v (.bool (f x.1 x.2))) (x := (a, b)) (by
      rintro ⟨x, x'⟩ ⟨y, y'⟩ h
      simp at h
      simp [h]) trivial
  generalize mk (fun _ => True) (fun x : Int × Int => .v (.int .i64 x.1) :: .v (.int .i64 x.2) :: caps) (fun x => AV.v (.bool (f x.1 x.2))) = m at hGg hat
  have hG : FnsOk Tryz.prog [(66, mProf), (g, m)] := .cons implProf_ok (.cons hGg .nil)
  obtain ⟨h1, h2, h3⟩ := prof_facts hp
  have hpp := mProf_at (s : Int) nl vs
  rw [hp] at hpp
  refine callOk_awpZ [0] (ctx_ok eqOk hG) mixed (live := [true, true, true, false, true, true, true, true, true, false, false, true, false, true, true, true, false, false, true, true, true, false, false, false, false, false, false, false, false, false, false, false, false, false, false, true]) (dt := []) Tryz.func157 rfl (by kernel_rfl) (by kernel_rfl) fun w0 hlens => ?_
  clear hlens
  have zs : selTo (fun a => tiTo f a s) 0 = [] := rfl
  simp [Tryz.f157, List.range, List.range.loop, ints, intss, int, bool, row, frac, fracs, ← List.map_take, ← List.map_drop, andThen_n, freeze, frzA, frzAL, sets, prof, hpp, hc.res, hc.refs, hc.ren, hc.killN, frzAL_pure hc]
  refine awp_range (live := [true, true, true, false, true, true, true, true, true, false, false, true, false, true, true, true, false, false, true, true, true, false, false, false, false, false, false, false, false, false, false, false, false, false, false, true]) (ctx_ok eqOk hG) mixed [false, true, true, false, false, true, false, false, false, false, false, false, false, true, true] (s) (fun k => True) (fun k => ⟨[.junk, .fn g caps, .fp (prof (s : Int) nl vs) 0, .junk, .junk, liA 0 (selTo (fun a => tiTo f a s) k), .junk, .junk, .junk, .junk, .junk, .junk, .junk, int (s : Int), int k, .junk, .junk, .junk, .junk, .junk, .junk, .junk, .junk, .junk, .junk, .junk, .junk, .junk, .junk, .junk, .junk, .junk, .junk, .junk, .junk, .junk, .junk, .junk, .junk, .junk, .junk, .junk], liT (selTo (fun a => tiTo f a s) k)⟩) ?_ (by simp [sub, slotsLe, clean, keep, refsL, refs, once, place, renL, ren, List.replicate, int, bool, prof, zs, liA, liT, hc.refs, hc.ren, hc.killN]) ?_ ?_ ?_
  · omega
  · trivial
  · intro k hk _ hwk
    have hl := selTo_len (p := fun a => tiTo f a s) (k := k)
    have hy := selTo_yes (p := fun a => tiTo f a s) (k := k)
    have hn := selTo_no (p := fun a => tiTo f a s) (k := k)
    generalize selTo (fun a => tiTo f a s) (k + 1) = B at *
    generalize selTo (fun a => tiTo f a s) k = A at *
    have hb : (A.length + 1) * 8 ≤ 140737488355328 ∧ A.length + 1 ≤ 4611686018427387904 := by omega
    have zt : tiTo f k 0 = true := rfl
    have hks : (k : Int) < (s : Int) := by omega
    cases A with
    | nil =>
      simp only [List.length_cons, List.length_nil] at hb
      simp [List.range, List.range.loop, ints, intss, int, bool, row, frac, fracs, ← List.map_take, ← List.map_drop, prof, liA, liT, hk, hks, hc.res, hc.refs, hc.ren, hc.killN]
      refine awp_range (live := [true, true, true, false, true, true, true, true, true, false, false, true, false, true, true, true, false, false, true, true, true, false, false, false, false, false, false, false, false, false, false, false, false, false, false, true]) (ctx_ok eqOk hG) mixed [false, true, true, false, false, true, true, true, false, false, false, false, false, true, true, false, false, false, true, true] (s) (fun b => True) (fun b => ⟨[.junk, .fn g caps, .fp (prof (s : Int) nl vs) 0, .junk, .junk, .sl true 1 [], int (k : Int), bool (tiTo f k b), .junk, .junk, .junk, .junk, .junk, int (s : Int), int k, .junk, .junk, .junk, int (s : Int), int b, .junk, .junk, .junk, .junk, .junk, .junk, .junk, .junk, .junk, .junk, .junk, .junk, .junk, .junk, .junk, .junk, .junk, .junk, .junk, .junk, .junk, .junk], []⟩) ?_ (by simp [sub, slotsLe, clean, keep, refsL, refs, once, place, renL, ren, List.replicate, int, bool, prof, zt, liA, liT, hc.refs, hc.ren, hc.killN]) ?_ ?_ ?_
      · omega
      · trivial
      · intro b hb2 _ hwb
        have hz := hat k b
        have hbs : (b : Int) < (s : Int) := by omega
        have hs : tiTo f k (b + 1) = (tiTo f k b && (decide ((k : Int) = (b : Int)) || f k b)) := rfl
        by_cases e : (k : Int) = (b : Int)
        · have e' : k = b := by omega
          subst e'
          cases ht : tiTo f k k <;> rw [ht] at hs <;> simp [e] at hs <;> simp [List.range, List.range.loop, ints, intss, int, bool, row, frac, fracs, ← List.map_take, ← List.map_drop, prof, hb2, hbs, hwb, hgn, hs, ht, hc.res, hc.refs, hc.ren, hc.killN]
        · have e' : ¬ k = b := by omega
          have e2 : ((k : Int) == (b : Int)) = false := by simpa using e
          cases ht : tiTo f k b <;> cases hf : f k b <;> rw [hf] at hz <;> rw [ht, hf] at hs <;> simp [e] at hs <;> simp [List.range, List.range.loop, ints, intss, int, bool, row, frac, fracs, ← List.map_take, ← List.map_drop, prof, hb2, hbs, hwb, hgn, hs, e, e', e2, ht, hf, hz, hc.res, hc.refs, hc.ren, hc.killN]
      · intro _
        cases ht : tiTo f k s with
        | true =>
          have hB := hy ht
          subst hB
          simp [List.range, List.range.loop, ints, intss, int, bool, row, frac, fracs, ← List.map_take, ← List.map_drop, prof, liA, liT, hwk, hb, hc.res, hc.refs, hc.ren, hc.killN, hc.killL]
        | false =>
          have hB := hn ht
          subst hB
          simp [List.range, List.range.loop, ints, intss, int, bool, row, frac, fracs, ← List.map_take, ← List.map_drop, prof, liA, liT, hwk, hc.res, hc.refs, hc.ren, hc.killN]
    | cons o A =>
      simp only [List.length_cons, List.length_nil] at hb
      simp [List.range, List.range.loop, ints, intss, int, bool, row, frac, fracs, ← List.map_take, ← List.map_drop, prof, liA, liT, hk, hks, hc.res, hc.refs, hc.ren, hc.killN]
      refine awp_range (live := [true, true, true, false, true, true, true, true, true, false, false, true, false, true, true, true, false, false, true, true, true, false, false, false, false, false, false, false, false, false, false, false, false, false, false, true]) (ctx_ok eqOk hG) mixed [false, true, true, false, false, true, true, true, false, false, false, false, false, true, true, false, false, false, true, true] (s) (fun b => True) (fun b => ⟨[.junk, .fn g caps, .fp (prof (s : Int) nl vs) 0, .junk, .junk, .ref 0 [] 0 (A.length + 1), int (k : Int), bool (tiTo f k b), .junk, .junk, .junk, .junk, .junk, int (s : Int), int k, .junk, .junk, .junk, int (s : Int), int b, .junk, .junk, .junk, .junk, .junk, .junk, .junk, .junk, .junk, .junk, .junk, .junk, .junk, .junk, .junk, .junk, .junk, .junk, .junk, .junk, .junk, .junk], [⟨true,.sl false 1 ((o :: A).map int)⟩]⟩) ?_ (by simp [sub, slotsLe, clean, keep, refsL, refs, once, place, renL, ren, List.replicate, int, bool, prof, zt, liA, liT, hc.refs, hc.ren, hc.killN]) ?_ ?_ ?_
      · omega
      · trivial
      · intro b hb2 _ hwb
        have hz := hat k b
        have hbs : (b : Int) < (s : Int) := by omega
        have hs : tiTo f k (b + 1) = (tiTo f k b && (decide ((k : Int) = (b : Int)) || f k b)) := rfl
        by_cases e : (k : Int) = (b : Int)
        · have e' : k = b := by omega
          subst e'
          cases ht : tiTo f k k <;> rw [ht] at hs <;> simp [e] at hs <;> simp [List.range, List.range.loop, ints, intss, int, bool, row, frac, fracs, ← List.map_take, ← List.map_drop, prof, hb2, hbs, hwb, hgn, hs, ht, hc.res, hc.refs, hc.ren, hc.killN]
        · have e' : ¬ k = b := by omega
          have e2 : ((k : Int) == (b : Int)) = false := by simpa using e
          cases ht : tiTo f k b <;> cases hf : f k b <;> rw [hf] at hz <;> rw [ht, hf] at hs <;> simp [e] at hs <;> simp [List.range, List.range.loop, ints, intss, int, bool, row, frac, fracs, ← List.map_take, ← List.map_drop, prof, hb2, hbs, hwb, hgn, hs, e, e', e2, ht, hf, hz, hc.res, hc.refs, hc.ren, hc.killN]
      · intro _
        cases ht : tiTo f k s with
        | true =>
          have hB := hy ht
          subst hB
          simp [List.range, List.range.loop, ints, intss, int, bool, row, frac, fracs, ← List.map_take, ← List.map_drop, prof, liA, liT, hwk, hb, hc.res, hc.refs, hc.ren, hc.killN, hc.killL]
        | false =>
          have hB := hn ht
          subst hB
          simp [List.range, List.range.loop, ints, intss, int, bool, row, frac, fracs, ← List.map_take, ← List.map_drop, prof, liA, liT, hwk, hc.res, hc.refs, hc.ren, hc.killN]
  · intro _
    unfold thT
    generalize selTo (fun a => tiTo f a s) s = A at *
    cases A <;> simp [List.range, List.range.loop, ints, intss, int, bool, row, frac, fracs, ← List.map_take, ← List.map_drop, liA, liT, hc.refs, hc.ren, hc.killN, hc.killL]
def onT (f : Int → Int → Bool) (s : Nat) : Int := if (thT f s).length = 1 then at0 (thT f s) 0 else -1
set_option maxHeartbeats 1000000 in
theorem only_gen {g : FuncId} {caps : List AV} (hc : Pure caps) (f : Int → Int → Bool) (s : Nat) (nl : Bool) (vs : List Vt) (hp : profB s vs = true) (hgn : ¬ g = 66) (hg : ∀ a b : Int, CallOk Tryz.prog g (.v (.int .i64 a) :: .v (.int .i64 b) :: caps) (.v (.bool (f a b)))) :
    CallOk Tryz.prog 78 [prof (s : Int) nl vs, .fn g caps] (int (onT f s)) := by
  obtain ⟨m, hm, hz⟩ := as_model (those_gen hc f s nl vs hp hgn hg)
  have hG : FnsOk Tryz.prog [(157, m)] := .cons hm .nil
  refine callOk_awpZ [0] (ctx_ok eqOk hG) mixed (live := [true, true, true, false, true, true, false, false, false, false, false, true]) (dt := []) Tryz.func78 rfl (by kernel_rfl) (by kernel_rfl) fun w0 hlens => ?_
  clear hlens
  simp only [prof] at hz
  unfold onT
  generalize thT f s = L at *
  by_cases h1 : L.length = 1
  · have hl : 0 < L.length := by omega
    have e : L[0] = at0 L 0 := (at0_eq hl).symm
    have hne : L.isEmpty = false := by cases L with | nil => simp at h1 | cons _ _ => rfl
    rw [hne] at hz
    simp [Tryz.f78, List.range, List.range.loop, ints, intss, int, bool, row, frac, fracs, ← List.map_take, ← List.map_drop, andThen_n, freeze, frzA, frzAL, sets, prof, hz, hc.res, hc.refs, hc.ren, hc.killN, frzAL_pure hc, h1, e, hl]
  · have h1' : ¬ (L.length : Int) = 1 := by omega
    simp [Tryz.f78, List.range, List.range.loop, ints, intss, int, bool, row, frac, fracs, ← List.map_take, ← List.map_drop, andThen_n, freeze, frzA, frzAL, sets, prof, hz, hc.res, hc.refs, hc.ren, hc.killN, frzAL_pure hc, h1, h1']
theorem condorcet1 (a b : Int) (s : Int) (nl : Bool) (vs : List Vt) (hp : profB s vs = true) : CallOk Tryz.prog 79 [int a, int b, .fp (prof s nl vs) 0] (.v (.bool (btB vs a b))) := by
  have hG : FnsOk Tryz.prog [(80, mBeats)] := (.cons beats_ok .nil)
  refine callOk_awp (ctx_ok eqOk hG) mixed (live := [true, true, true, false, false, true]) (dt := []) Tryz.func79 rfl (by kernel_rfl) (by kernel_rfl) fun w0 hlens => ?_
  clear hlens
  have h := mBeats_at s nl vs a b hp
  simp [Tryz.f79, List.range, List.range.loop, ints, intss, int, bool, row, frac, fracs, ← List.map_take, ← List.map_drop, prof, h]
def cwT (s : Int) (vs : List Vt) : Int := if profB s vs = true then onT (btB vs) s.toNat else -1
noncomputable def mCw : List AV → Option AV := mk (fun p => profB p.1 p.2.2 = true) (fun (p : (Int) × (Bool) × (List Vt)) => [prof p.1 p.2.1 p.2.2]) (fun p => int (cwT p.1 p.2.2))
theorem mCw_at (s : Int) (nl : Bool) (vs : List Vt) (hpre : profB s vs = true) : mCw [.agg [.v (.int .i64 s), .sl nl 2 (vs.map vote)]] = some (.v (.int .i64 (cwT s vs))) :=
  mk_eq (enc := fun (p : (Int) × (Bool) × (List Vt)) => [prof p.1 p.2.1 p.2.2]) (x := (s, nl, vs)) (by rintro ⟨a0, a1, a2⟩ ⟨b0, b1, b2⟩ h; simp [ints, intss, int, bool, row, frac, fracs, map_int_inj, map_row_inj, frac_inj, map_frac_inj, vts, prof, map_vote_inj] at h; simp [h]) hpre
theorem implCw_ok : FnOk Tryz.prog 19 mCw := by
  refine mk_ok fun ⟨s, nl, vs⟩ hp => ?_
  simp only at hp
  obtain ⟨h1, h2, h3⟩ := prof_facts hp
  obtain ⟨S, rfl⟩ : ∃ S : Nat, s = S := ⟨s.toNat, by omega⟩
  have hc := only_gen (g := 79) (pure_fp (a := prof (S : Int) nl vs) (j := 0) pure_nil) (btB vs) S nl vs hp (by decide) (fun a b => condorcet1 a b S nl vs hp)
  obtain ⟨m, hm, hz⟩ := as_model hc
  have hG : FnsOk Tryz.prog [(78, m)] := (.cons hm .nil)
  refine callOk_awpZ [0] (ctx_ok eqOk hG) mixed (live := [true, true, true]) (dt := []) Tryz.func19 rfl (by kernel_rfl) (by kernel_rfl) fun w0 hlens => ?_
  clear hlens
  simp only [prof, int] at hz
  have e : cwT (S : Int) vs = onT (btB vs) S := by unfold cwT; rw [if_pos hp]; rfl
  simp [Tryz.f19, List.range, List.range.loop, ints, intss, int, bool, row, frac, fracs, ← List.map_take, ← List.map_drop, andThen_n, freeze, frzA, frzAL, sets, prof, hz, e]
theorem countVoters1 (nl : Bool) (l : List Int) : CallOk Tryz.prog 77 [row (nl, l)] (.v (.bool true)) := by
  have hG : FnsOk Tryz.prog [] := .nil
  refine callOk_awp (ctx_ok eqOk hG) mixed (live := [false, false, true]) (dt := []) Tryz.func77 rfl (by kernel_rfl) (by kernel_rfl) fun w0 hlens => ?_
  simp [Tryz.f77, List.range, List.range.loop, ints, intss, int, bool, row, frac, fracs, ← List.map_take, ← List.map_drop]
def cvT (s : Int) (vs : List Vt) : Int := if profB s vs = true then vtrs (fun _ => true) vs else -1
noncomputable def mCv : List AV → Option AV := mk (fun _ => True) (fun (p : (Int) × (Bool) × (List Vt)) => [prof p.1 p.2.1 p.2.2]) (fun p => int (cvT p.1 p.2.2))
theorem mCv_at (s : Int) (nl : Bool) (vs : List Vt) : mCv [.agg [.v (.int .i64 s), .sl nl 2 (vs.map vote)]] = some (.v (.int .i64 (cvT s vs))) :=
  mk_eq (enc := fun (p : (Int) × (Bool) × (List Vt)) => [prof p.1 p.2.1 p.2.2]) (x := (s, nl, vs)) (by rintro ⟨a0, a1, a2⟩ ⟨b0, b1, b2⟩ h; simp [ints, intss, int, bool, row, frac, fracs, map_int_inj, map_row_inj, frac_inj, map_frac_inj, vts, prof, map_vote_inj] at h; simp [h]) trivial
set_option maxHeartbeats 1000000 in
theorem implCv_ok : FnOk Tryz.prog 18 mCv := by
  refine mk_ok fun ⟨s, nl, vs⟩ _ => ?_
  have hpp := mProf_at s nl vs
  by_cases hp : profB s vs = true
  · have hc := voters_gen (g := 77) pure_nil (fun _ => true) s nl vs hp (fun v _ => countVoters1 v.1.1 v.1.2)
    obtain ⟨m, hm, hz⟩ := as_model hc
    have hG : FnsOk Tryz.prog [(66, mProf), (76, m)] := .cons implProf_ok (.cons hm .nil)
    refine callOk_awpZ [0] (ctx_ok eqOk hG) mixed (live := [true, true, true, false, false, true]) (dt := []) Tryz.func18 rfl (by kernel_rfl) (by kernel_rfl) fun w0 hlens => ?_
    clear hlens
    simp only [prof, int] at hz
    rw [hp] at hpp
    simp [Tryz.f18, List.range, List.range.loop, ints, intss, int, bool, row, frac, fracs, ← List.map_take, ← List.map_drop, andThen_n, freeze, frzA, frzAL, sets, prof, hpp, hz, cvT, hp]
  · have hp' : profB s vs = false := by simpa using hp
    have hG : FnsOk Tryz.prog [(66, mProf)] := .cons implProf_ok .nil
    refine callOk_awpZ [0] (ctx_ok eqOk hG) mixed (live := [true, true, true, false, false, true]) (dt := []) Tryz.func18 rfl (by kernel_rfl) (by kernel_rfl) fun w0 hlens => ?_
    clear hlens
    rw [hp'] at hpp
    simp [Tryz.f18, List.range, List.range.loop, ints, intss, int, bool, row, frac, fracs, ← List.map_take, ← List.map_drop, andThen_n, freeze, frzA, frzAL, sets, prof, hpp, cvT, hp']
end Go.Proofs.YtkfmhpgnhkdebaaGreatDoor.Ax
namespace Go.Proofs.YtkfmhpgnhkdebaaGreatDoor.Ax
open Go Go.RowKit
end Go.Proofs.YtkfmhpgnhkdebaaGreatDoor.Ax
namespace Go.Proofs.YtkfmhpgnhkdebaaGreatDoor.Ax
open Go Go.RowKit
set_option linter.unusedSimpArgs false
end Go.Proofs.YtkfmhpgnhkdebaaGreatDoor.Ax
