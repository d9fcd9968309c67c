/-
  Contracts: ProfileOk (both programs), the voters of a kind, pairs. No condition.
-/
import Derived.Test.YtigepnpiofcooaaGreatDoorCG2
import Derived.Test.YtigepnpiofcooaaGreatDoorCG6
import Derived.Test.YtigepnpiofcooaaGreatDoorCG7
import Derived.Test.YtigepnpiofcooaaGreatDoorCG1
namespace Go.Proofs.YtigepnpiofcooaaGreatDoor.Ax
open Go Go.RowKit
set_option linter.unusedSimpArgs false
def vtB (s : Int) (v : Vt) : Bool := rankB s v.1.2 && inR 1 1000 v.2
def profB (s : Int) (vs : List Vt) : Bool := inR 1 5 s && decide (vs.length ≤ 24) && vs.all (vtB s)
set_option maxHeartbeats 1000000 in
theorem indexVotes {g : FuncId} {caps : List AV} (hc : Pure caps) (p : Vt → Bool) (nl : Bool) (xs : List Vt) (hg : ∀ x ∈ xs, CallOk Tryz.prog g (vote x :: caps) (.v (.bool (p x)))) :
    CallOk Tryz.prog 65 [vts nl xs, .fn g caps] (int (idxOf p xs)) := by
  have hG : FnsOk Tryz.prog [(g, mk (fun x => x ∈ xs) (fun x : Vt => vote x :: caps) (fun x => .v (.bool (p x))))] := .cons (mk_ok fun x hx => hg x hx) .nil
  have hat : ∀ k (h : k < xs.length), mk (fun x => x ∈ xs) (fun x : Vt => vote x :: caps) (fun x => AV.v (.bool (p x))) (vote xs[k] :: caps) = some (.v (.bool (p xs[k]))) := fun k h =>
    mk_eq (enc := fun x : Vt => vote x :: caps) (x := xs[k]) (by intro x y h; simp only [List.cons.injEq, and_true] at h; rw [vote_inj h]) (List.getElem_mem h)
  generalize mk (fun x => x ∈ xs) (fun x : Vt => vote x :: caps) (fun x => AV.v (.bool (p x))) = m at hG hat
  refine callOk_awp (ctx_ok eqOk hG) mixed (live := [true, true, false, false, true, true, false, true, true, true, false, false, false, false, false, false, true]) (dt := []) Tryz.func65 rfl (by kernel_rfl) (by kernel_rfl) fun w0 hlens => ?_
  have hlen : xs.length ≤ 9223372036854775807 := by
    have := hlens.1
    simp only [vts, lens, List.length_map] at this
    exact this.1.1
  clear hlens
  simp [Tryz.f65, List.range, List.range.loop, ints, intss, int, bool, row, frac, fracs, ← List.map_take, ← List.map_drop, vts, hc.res, hc.refs, hc.ren]
  refine awp_range (live := [true, true, false, false, true, true, false, true, true, true, false, false, false, false, false, false, true]) (ctx_ok eqOk hG) mixed [true, true, false, false, false, false, false, true, true] (xs.length) (fun k => ∀ j (hj : j < xs.length), j < k → p xs[j] = false) (fun k => ⟨[vts nl xs, .fn g caps, .junk, .junk, .junk, .junk, .junk, int xs.length, int k, .junk, .junk, .junk, .junk, .junk, .junk, .junk, .junk, .junk, .junk], []⟩) ?_ (by simp [sub, slotsLe, clean, keep, refsL, refs, once, place, renL, ren, List.replicate, int, bool, vts, hc.refs, hc.ren]) ?_ ?_ ?_
  · exact hlen
  · intro j hj h; omega
  · intro k hk hno hwk
    have hz := hat k hk
    simp only [vote] at hz
    cases hp : p xs[k] with
    | true =>
      rw [hp] at hz
      simp [List.range, List.range.loop, ints, intss, int, bool, row, frac, fracs, ← List.map_take, ← List.map_drop, vts, vote, hk, hc.res, hc.refs, hc.ren, hz, idxOf_found hk hno hp]
    | false =>
      rw [hp] at hz
      simp [List.range, List.range.loop, ints, intss, int, bool, row, frac, fracs, ← List.map_take, ← List.map_drop, vts, vote, hk, hwk, hc.res, hc.refs, hc.ren, hz]
      intro j hj hjk
      by_cases e : j = k
      · subst e; exact hp
      · exact hno j hj (by omega)
  · intro hno
    simp [List.range, List.range.loop, ints, intss, int, bool, row, frac, fracs, ← List.map_take, ← List.map_drop, vts, idxOf_none hno]
theorem containsVotes {g : FuncId} {caps : List AV} (hc : Pure caps) (p : Vt → Bool) (nl : Bool) (xs : List Vt) (hg : ∀ x ∈ xs, CallOk Tryz.prog g (vote x :: caps) (.v (.bool (p x)))) :
    CallOk Tryz.prog 50 [vts nl xs, .fn g caps] (bool (xs.any p)) := by
  obtain ⟨m, hm, hz⟩ := as_model (indexVotes hc p nl xs hg)
  have hG : FnsOk Tryz.prog [(65, m)] := .cons hm .nil
  refine callOk_awp (ctx_ok eqOk hG) mixed (live := [true, true, false, false, true]) (dt := []) Tryz.func50 rfl (by kernel_rfl) (by kernel_rfl) fun w0 hlens => ?_
  clear hlens
  simp only [vts] at hz
  simp [Tryz.f50, List.range, List.range.loop, ints, intss, int, bool, row, frac, fracs, ← List.map_take, ← List.map_drop, vts, hc.res, hc.refs, hc.ren, hz, ge_zero, idxOf_nonneg]
theorem profileOk1 (v : Vt) (s : Int) (nl : Bool) (vs : List Vt) : CallOk Tryz.prog 51 [vote v, .fp (prof s nl vs) 0] (.v (.bool (!vtB s v))) := by
  have hG : FnsOk Tryz.prog [(52, mRank), (49, mWithin)] := (.cons implRankingOk_ok (.cons within_ok .nil))
  refine callOk_awp (ctx_ok eqOk hG) mixed (live := [true, true, true, true]) (dt := []) Tryz.func51 rfl (by kernel_rfl) (by kernel_rfl) fun w0 hlens => ?_
  clear hlens
  have h := mRank_at s v.1.1 v.1.2
  cases hr : rankB s v.1.2 with
  | false => rw [hr] at h; simp [Tryz.f51, List.range, List.range.loop, ints, intss, int, bool, row, frac, fracs, ← List.map_take, ← List.map_drop, vote, prof, h, vtB, hr]
  | true => rw [hr] at h; simp [Tryz.f51, List.range, List.range.loop, ints, intss, int, bool, row, frac, fracs, ← List.map_take, ← List.map_drop, vote, prof, h, vtB, hr, mWithin_in]
noncomputable def mProf : List AV → Option AV := mk (fun _ => True) (fun (p : (Int) × (Bool) × (List Vt)) => [prof p.1 p.2.1 p.2.2]) (fun p => bool (profB p.1 p.2.2))
theorem mProf_at (s : Int) (nl : Bool) (vs : List Vt) : mProf [.agg [.v (.int .i64 s), .sl nl 2 (vs.map vote)]] = some (.v (.bool (profB s vs))) :=
  mk_eq (enc := fun (p : (Int) × (Bool) × (List Vt)) => [prof p.1 p.2.1 p.2.2]) (x := (s, nl, vs)) (by rintro ⟨a0, a1, a2⟩ ⟨b0, b1, b2⟩ h; simp [ints, intss, int, bool, row, frac, fracs, map_int_inj, map_row_inj, frac_inj, map_frac_inj, vts, prof, map_vote_inj] at h; simp [h]) trivial
set_option maxHeartbeats 1000000 in
theorem implProf_ok : FnOk Tryz.prog 38 mProf := by
  refine mk_ok fun ⟨s, nl, vs⟩ _ => ?_
  have hc := containsVotes (g := 51) (pure_fp (a := prof s nl vs) (j := 0) pure_nil) (fun v => !vtB s v) nl vs (fun v _ => profileOk1 v s nl vs)
  obtain ⟨m, hm, hz⟩ := as_model hc
  have hG : FnsOk Tryz.prog [(49, mWithin), (50, m)] := (.cons within_ok (.cons hm .nil))
  refine callOk_awp (ctx_ok eqOk hG) mixed (live := [true, true, true, false, false, false, false, false, false, false, false, false, true]) (dt := []) Tryz.func38 rfl (by kernel_rfl) (by kernel_rfl) fun w0 hlens => ?_
  clear hlens
  simp only [vts, prof, bool] at hz
  cases h1 : inR 1 5 s with
  | false => simp [Tryz.f38, List.range, List.range.loop, ints, intss, int, bool, row, frac, fracs, ← List.map_take, ← List.map_drop, prof, mWithin_in, h1, profB]
  | true =>
    by_cases h2 : (24 : Int) < vs.length
    · have h2' : ¬ vs.length ≤ 24 := by omega
      simp [Tryz.f38, List.range, List.range.loop, ints, intss, int, bool, row, frac, fracs, ← List.map_take, ← List.map_drop, prof, mWithin_in, h1, h2, h2', profB]
    · have h2' : vs.length ≤ 24 := by omega
      simp [Tryz.f38, List.range, List.range.loop, ints, intss, int, bool, row, frac, fracs, ← List.map_take, ← List.map_drop, prof, mWithin_in, h1, h2, h2', hz, profB, not_any_not]
set_option maxHeartbeats 1000000 in
theorem specProf_ok : FnOk Tryz.prog 17 mProf := by
  refine mk_ok fun ⟨s, nl, vs⟩ _ => ?_
  have hG : FnsOk Tryz.prog [(31, mWithin), (32, mRank)] := (.cons l01In_ok (.cons specRankingOk_ok .nil))
  refine callOk_awpZ [0] (ctx_ok eqOk hG) mixed (live := [true, true, true, false, true, false, false, false, false, false, false, false, false, false, true, false, true, true, true, true, false, false, false, false, false, false, false, false, false, false, false, false, false, true]) (dt := []) Tryz.func17 rfl (by kernel_rfl) (by kernel_rfl) fun w0 hlens => ?_
  clear hlens
  cases h1 : inR 1 5 s with
  | false => simp [Tryz.f17, List.range, List.range.loop, ints, intss, int, bool, row, frac, fracs, ← List.map_take, ← List.map_drop, andThen_n, freeze, frzA, frzAL, sets, prof, mWithin_in, h1, profB]
  | true =>
    by_cases h2 : (24 : Int) < vs.length
    · have h2' : ¬ vs.length ≤ 24 := by omega
      simp [Tryz.f17, List.range, List.range.loop, ints, intss, int, bool, row, frac, fracs, ← List.map_take, ← List.map_drop, andThen_n, freeze, frzA, frzAL, sets, prof, mWithin_in, h1, h2, h2', profB]
    · have h2' : vs.length ≤ 24 := by omega
      simp [Tryz.f17, List.range, List.range.loop, ints, intss, int, bool, row, frac, fracs, ← List.map_take, ← List.map_drop, andThen_n, freeze, frzA, frzAL, sets, prof, mWithin_in, h1, h2]
      refine awp_range (live := [true, true, true, false, true, false, false, false, false, false, false, false, false, false, true, false, true, true, true, true, false, false, false, false, false, false, false, false, false, false, false, false, false, true]) (ctx_ok eqOk hG) mixed [false, true, false, false, false, false, false, false, false, false, false, false, false, false, false, false, true, true, true] (vs.length) (fun k => (vs.take k).all (vtB s) = true) (fun k => ⟨[.junk, .fp (prof s nl vs) 0, .junk, .junk, .junk, .junk, .junk, .junk, .junk, .junk, .junk, .junk, .junk, .junk, .junk, .junk, vts nl vs, int vs.length, int k, .junk, .junk, .junk, .junk, .junk, .junk, .junk, .junk, .junk, .junk, .junk, .junk, .junk, .junk, .junk, .junk], []⟩) ?_ (by simp [sub, slotsLe, clean, keep, refsL, refs, once, place, renL, ren, List.replicate, int, bool, prof, vts]) ?_ ?_ ?_
      · omega
      · simp
      · intro k hk hp hwk
        have h := mRank_at s vs[k].1.1 vs[k].1.2
        have hat := List.take_succ_eq_append_getElem hk
        have hno : vtB s vs[k] = false → profB s vs = false := fun hf => by
          have : vs.all (vtB s) = false := List.all_eq_false.2 ⟨vs[k], List.getElem_mem hk, by simp [hf]⟩
          unfold profB; rw [this, Bool.and_false]
        have hyes : vtB s vs[k] = true → (vs.take (k + 1)).all (vtB s) = true := fun ht => by rw [hat, List.all_append, hp]; simp [ht]
        have hv : vtB s vs[k] = (rankB s vs[k].1.2 && inR 1 1000 vs[k].2) := rfl
        cases hr : rankB s vs[k].1.2 with
        | false =>
          rw [hr] at h hv
          have hno := hno hv
          simp [List.range, List.range.loop, ints, intss, int, bool, row, frac, fracs, ← List.map_take, ← List.map_drop, prof, vts, vote, hk, h, hno]
        | true =>
          rw [hr] at h hv
          cases hc : inR 1 1000 vs[k].2 with
          | false =>
            rw [hc] at hv
            have hno := hno hv
            simp [List.range, List.range.loop, ints, intss, int, bool, row, frac, fracs, ← List.map_take, ← List.map_drop, prof, vts, vote, hk, h, hno, mWithin_in, hc]
          | true =>
            rw [hc] at hv
            have hyes := hyes hv
            simp only [List.all_eq_true] at hyes
            simp [List.range, List.range.loop, ints, intss, int, bool, row, frac, fracs, ← List.map_take, ← List.map_drop, prof, vts, vote, hk, hwk, h, mWithin_in, hc]
            exact ⟨fun b c h => hyes _ h, fun b c h => hyes _ h⟩
      · intro hp
        rw [List.take_length] at hp
        simp [List.range, List.range.loop, ints, intss, int, bool, row, frac, fracs, ← List.map_take, ← List.map_drop, profB, h1, h2', hp]
theorem prof_facts {s : Int} {vs : List Vt} (h : profB s vs = true) : (1 ≤ s ∧ s ≤ 5) ∧ vs.length ≤ 24 ∧ ∀ v ∈ vs, rankB s v.1.2 = true ∧ 1 ≤ v.2 ∧ v.2 ≤ 1000 := by
  simp only [profB, Bool.and_eq_true, inR_iff, decide_eq_true_eq, List.all_eq_true, vtB] at h
  exact ⟨h.1.1, h.1.2, fun v hv => ⟨(h.2 v hv).1, (h.2 v hv).2.1, (h.2 v hv).2.2⟩⟩
end Go.Proofs.YtigepnpiofcooaaGreatDoor.Ax
namespace Go.Proofs.YtigepnpiofcooaaGreatDoor.Ax
open Go Go.RowKit
set_option linter.unusedSimpArgs false
def rowS (r : Bool × List Int) : ByteArray := numS r.2
def wr (r : Bool × List Int) : AV := .v (.string (rowS r))
end Go.Proofs.YtigepnpiofcooaaGreatDoor.Ax
namespace Go.Proofs.YtigepnpiofcooaaGreatDoor.Ax
open Go Go.RowKit
set_option linter.unusedSimpArgs false
theorem bl_inj {a b : ByteArray} (h : bl a = bl b) : a = b := by
  obtain ⟨⟨a⟩⟩ := a
  obtain ⟨⟨b⟩⟩ := b
  simp [bl] at h
  rw [h]
theorem bl_app {a b : ByteArray} : bl (a ++ b) = bl a ++ bl b := by
  simp [bl, ByteArray.data_append]
end Go.Proofs.YtigepnpiofcooaaGreatDoor.Ax
namespace Go.Proofs.YtigepnpiofcooaaGreatDoor.Ax
open Go Go.RowKit
set_option linter.unusedSimpArgs false
def byV (n : Int) : AV := .v (.int .u8 n)
def flT (l : List Int) : Nat → List Int
  | 0 => List.replicate l.length 0
  | k + 1 => (flT l k).set k (97 + at0 l k)
theorem flT_len {l : List Int} : ∀ {k : Nat}, (flT l k).length = l.length
  | 0 => by simp [flT]
  | k + 1 => by simp [flT, flT_len (l := l) (k := k)]
theorem flT_at {l : List Int} {i : Nat} (hi : i < l.length) : ∀ {k : Nat}, k ≤ l.length → (flT l k)[i]? = some (if i < k then 97 + l[i] else 0)
  | 0, _ => by simp [flT, hi]
  | k + 1, hk => by
    unfold flT
    by_cases e : k = i
    · subst e
      rw [List.getElem?_set_self (by rw [flT_len]; omega), at0_eq hi, if_pos (by omega)]
    · rw [List.getElem?_set_ne e, flT_at hi (k := k) (by omega)]
      by_cases h : i < k
      · rw [if_pos h, if_pos (by omega)]
      · rw [if_neg h, if_neg (by omega)]
theorem flT_all {l : List Int} : flT l l.length = l.map fun a => 97 + a := by
  apply List.ext_getElem?
  intro i
  by_cases hi : i < l.length
  · rw [flT_at hi (Nat.le_refl _), if_pos hi, List.getElem?_map, List.getElem?_eq_getElem hi]; rfl
  · rw [List.getElem?_eq_none (by rw [flT_len]; omega), List.getElem?_eq_none (by rw [List.length_map]; omega)]
def leB (a : Int) : UInt8 := UInt8.ofNat (97 + a).toNat
def frkS (l : List Int) : ByteArray := ⟨(l.map leB).toArray⟩
def frkT (l : List Int) : ByteArray := if rankB l.length l = true then frkS l else ⟨#[]⟩
theorem bytesOf_by : ∀ (ns : List Int), bytesOf (ns.map byV) = some (ns.map fun n => UInt8.ofNat n.toNat)
  | [] => rfl
  | n :: ns => by
    have ih := bytesOf_by ns
    rw [List.map_cons, byV, bytesOf, ih]
    rfl
theorem frk_step {l : List Int} {k : Nat} (h : k < l.length) : frkS (l.take (k + 1)) = frkS (l.take k) ++ ⟨#[leB l[k]]⟩ := by
  apply bl_inj
  unfold frkS
  rw [List.take_succ_eq_append_getElem h, List.map_append]
  simp [bl_app, bl, -List.map_take]
noncomputable def mFrk : List AV → Option AV := mk (fun _ => True) (fun (p : (Bool) × (List Int)) => [ints p.1 p.2]) (fun p => .v (.string (frkT p.2)))
theorem mFrk_at (nl : Bool) (l : List Int) : mFrk [.sl nl 1 (l.map int)] = some (.v (.string (frkT l))) :=
  mk_eq (enc := fun (p : (Bool) × (List Int)) => [ints p.1 p.2]) (x := (nl, l)) (by rintro ⟨a0, a1⟩ ⟨b0, b1⟩ h; simp [ints, intss, int, bool, row, frac, fracs, map_int_inj, map_row_inj, frac_inj, map_frac_inj] at h; simp [h]) trivial
set_option maxHeartbeats 2000000 in
theorem implFrk_ok : FnOk Tryz.prog 53 mFrk := by
  refine mk_ok fun ⟨nl, l⟩ _ => ?_
  have hrr := mIsRk_at nl l
  have hG : FnsOk Tryz.prog [(42, mIsRk)] := (.cons isRank_ok .nil)
  refine callOk_awp (ctx_ok eqOk hG) mixed (live := [true, false, true, true, true, true, false, false, true, false, false, false, true, true, true, true]) (dt := []) Tryz.func53 rfl (by kernel_rfl) (by kernel_rfl) fun w0 hlens => ?_
  clear hlens
  unfold frkT
  cases hr : rankB l.length l with
  | false =>
    rw [hr] at hrr
    simp [Tryz.f53, List.range, List.range.loop, ints, intss, int, bool, row, frac, fracs, ← List.map_take, ← List.map_drop, hrr]
  | true =>
    rw [hr] at hrr
    obtain ⟨_, n5, _, hin, _⟩ := rank_facts hr
    have hz : List.replicate l.length (AV.v (.int .u8 0)) = (flT l 0).map byV := by simp [flT, byV]
    have hl5 : l.length ≤ 5 := by omega
    have hl6 : l.length ≤ 281474976710656 ∧ l.length ≤ 4611686018427387904 := by omega
    simp [Tryz.f53, List.range, List.range.loop, ints, intss, int, bool, row, frac, fracs, ← List.map_take, ← List.map_drop, nlt0, hrr, hl6]

    refine awp_range (live := [true, false, true, true, true, true, false, false, true, false, false, false, true, true, true, true]) (ctx_ok eqOk hG) mixed [false, false, false, true, false, false, false, false, false, false, false, false, true, true, true] (l.length) (fun k => True) (fun k => ⟨[.junk, .junk, .junk, .ref 0 [] 0 l.length, .junk, .junk, .junk, .junk, .junk, .junk, .junk, .junk, ints nl l, int l.length, int k, .junk, .junk, .junk, .junk, .junk, .junk, .junk, .junk, .junk, .junk, .junk, .junk, .junk], [⟨true, .sl false 1 ((flT l k).map byV)⟩]⟩) ?_ (by simp [sub, slotsLe, clean, keep, refsL, refs, once, place, renL, ren, List.replicate, int, bool, hz, ints]) ?_ ?_ ?_
    · omega
    · trivial
    · intro k hk _ hwk
      have hkI : (k : Int) < (l.length : Int) := by omega
      have hv := hin k hk
      have hs : flT l (k + 1) = (flT l k).set k (97 + at0 l k) := rfl
      rw [at0_eq hk] at hs
      have hfl := flT_len (l := l) (k := k)
      have w1 : IntKind.i64.wrap (97 + l[k]) = 97 + l[k] := wrapI (by omega) (by omega)
      have w2 : IntKind.u8.wrap (97 + l[k]) = 97 + l[k] := by
        generalize l[k] = x at *
        obtain ⟨y, rfl⟩ : ∃ y : Nat, x = y := ⟨x.toNat, by omega⟩
        exact (by decide +kernel : ∀ y : Nat, y < 6 → IntKind.u8.wrap (97 + (y : Int)) = 97 + (y : Int)) y (by omega)
      have hm : (flT l (k + 1)).map byV = ((flT l k).map byV).set k (AV.v (.int .u8 (97 + l[k]))) := by rw [hs, List.map_set]; rfl
      generalize flT l (k + 1) = B at *
      generalize flT l k = A at *
      simp [List.range, List.range.loop, ints, intss, int, bool, row, frac, fracs, ← List.map_take, ← List.map_drop, nlt0, hk, hkI, hwk, w1, w2, hfl, hm]
      simp [byV]
    · intro _
      have e := flT_all (l := l)
      have hfl := flT_len (l := l) (k := l.length)
      have hb := bytesOf_by (flT l l.length)
      have hf : frkS l = ⟨((flT l l.length).map fun n => UInt8.ofNat n.toNat).toArray⟩ := by
        rw [e, List.map_map]; rfl
      rw [hf]
      generalize flT l l.length = A at *
      have ht : (A.map byV).take l.length = A.map byV := List.take_of_length_le (by simp; omega)
      simp [List.range, List.range.loop, ints, intss, int, bool, row, frac, fracs, ← List.map_take, ← List.map_drop, nlt0, hfl, hb, ht]
theorem letter_ok (a : Int) (h : 0 ≤ a ∧ a < 5) : CallOk Tryz.prog 44 [int a] (.v (.string ⟨#[leB a]⟩)) := by
  have hG : FnsOk Tryz.prog [] := .nil
  refine callOk_awp (ctx_ok eqOk hG) mixed (live := [true, false, true]) (dt := []) Tryz.func44 rfl (by kernel_rfl) (by kernel_rfl) fun w0 hlens => ?_
  clear hlens
  have w1 : IntKind.i64.wrap (97 + a) = 97 + a := wrapI (by omega) (by omega)
  have w2 : IntKind.u8.wrap (97 + a) = 97 + a := by
    obtain ⟨y, rfl⟩ : ∃ y : Nat, a = y := ⟨a.toNat, by omega⟩
    exact (by decide +kernel : ∀ y : Nat, y < 6 → IntKind.u8.wrap (97 + (y : Int)) = 97 + (y : Int)) y (by omega)
  simp [Tryz.f44, List.range, List.range.loop, ints, intss, int, bool, row, frac, fracs, ← List.map_take, ← List.map_drop, w1, w2, bytesOf, leB]
noncomputable def mLet : List AV → Option AV := mk (fun p => 0 ≤ p ∧ p < 5) (fun (p : (Int)) => [int p]) (fun p => .v (.string ⟨#[leB p]⟩))
theorem mLet_at (a : Int) (hpre : 0 ≤ a ∧ a < 5) : mLet [.v (.int .i64 a)] = some (.v (.string ⟨#[leB a]⟩)) :=
  mk_eq (enc := fun (p : (Int)) => [int p]) (x := (a)) (by rintro a0 b0 h; simp [ints, intss, int, bool, row, frac, fracs, map_int_inj, map_row_inj, frac_inj, map_frac_inj] at h; simp [h]) hpre
theorem let_ok : FnOk Tryz.prog 44 mLet := mk_ok fun a h => letter_ok a h
set_option maxHeartbeats 2000000 in
theorem specFrk_ok : FnOk Tryz.prog 33 mFrk := by
  refine mk_ok fun ⟨nl, l⟩ _ => ?_
  have hrr := mRank_at l.length nl l
  have hG : FnsOk Tryz.prog [(32, mRank), (44, mLet)] := (.cons specRankingOk_ok (.cons let_ok .nil))
  refine callOk_awp (ctx_ok eqOk hG) mixed (live := [true, false, true, true, false, true, false, false, false, false, true, true, true, true, true]) (dt := []) Tryz.func33 rfl (by kernel_rfl) (by kernel_rfl) fun w0 hlens => ?_
  clear hlens
  unfold frkT
  cases hr : rankB l.length l with
  | false =>
    rw [hr] at hrr
    simp [Tryz.f33, List.range, List.range.loop, ints, intss, int, bool, row, frac, fracs, ← List.map_take, ← List.map_drop, hrr]
  | true =>
    rw [hr] at hrr
    obtain ⟨_, n5, _, hin, _⟩ := rank_facts hr
    have hz : frkS (l.take 0) = ⟨#[]⟩ := rfl
    have hz2 : frkS [] = ⟨#[]⟩ := rfl
    simp [Tryz.f33, List.range, List.range.loop, ints, intss, int, bool, row, frac, fracs, ← List.map_take, ← List.map_drop, nlt0, hrr]
    refine awp_range (live := [true, false, true, true, false, true, false, false, false, false, true, true, true, true, true]) (ctx_ok eqOk hG) mixed [false, false, false, true, false, false, false, false, false, false, false, true, true, true] (l.length) (fun k => True) (fun k => ⟨[.junk, .junk, .junk, .v (.string (frkS (l.take k))), .junk, .junk, .junk, .junk, .junk, .junk, .junk, ints nl l, int l.length, int k, .junk, .junk, .junk, .junk, .junk, .junk, .junk, .junk, .junk], []⟩) ?_ (by simp [sub, slotsLe, clean, keep, refsL, refs, once, place, renL, ren, List.replicate, int, bool, hz, hz2, ints]) ?_ ?_ ?_
    · omega
    · trivial
    · intro k hk _ hwk
      have hkI : (k : Int) < (l.length : Int) := by omega
      have hv := hin k hk
      have hL := mLet_at l[k] (by omega)
      have hs := frk_step hk
      have hsz : (frkS (l.take k)).size = k := by
        show (List.map leB (l.take k)).toArray.size = k
        simp; omega
      have h1 : (⟨#[leB l[k]]⟩ : ByteArray).size = 1 := rfl
      have h2 : k + 1 ≤ 9223372036854775807 := by omega
      simp [List.range, List.range.loop, ints, intss, int, bool, row, frac, fracs, ← List.map_take, ← List.map_drop, nlt0, hk, hkI, hwk, hL, hs, hsz, h1, h2]
    · intro _
      have e : l.take l.length = l := List.take_length
      simp [List.range, List.range.loop, ints, intss, int, bool, row, frac, fracs, ← List.map_take, ← List.map_drop, nlt0, e]
end Go.Proofs.YtigepnpiofcooaaGreatDoor.Ax
namespace Go.Proofs.YtigepnpiofcooaaGreatDoor.Ax
open Go Go.RowKit
set_option linter.unusedSimpArgs false
def by1 (s : ByteArray) (i : Nat) : Nat := (s[i]?.getD 0).toNat
theorem by1_at {s : ByteArray} {i : Nat} (h : i < s.size) : s[i]? = some s[i] ∧ by1 s i = s[i].toNat := by
  have e : s[i]? = some s[i] := getElem?_pos s i h
  exact ⟨e, by unfold by1; rw [e]; rfl⟩
def digAt (s : ByteArray) (i : Nat) : Bool := decide (48 ≤ by1 s i) && decide (by1 s i ≤ 57)
def digS (s : ByteArray) : Bool := allR s.size (digAt s) && decide (0 < s.size)
theorem str_inj {a b : ByteArray} (h : [str a] = [str b]) : a = b := by simpa [str] using h
noncomputable def mDig : List AV → Option AV := mk (fun s => s.size ≤ 4611686018427387904) (fun (s : ByteArray) => [str s]) (fun s => bool (digS s))
theorem mDig_at (s : ByteArray) (h : s.size ≤ 4611686018427387904) : mDig [.v (.string s)] = some (.v (.bool (digS s))) :=
  mk_eq (enc := fun (s : ByteArray) => [str s]) (x := s) (fun a b h => by rw [str_inj h]) h
set_option maxHeartbeats 1000000 in
theorem specDig_ok : FnOk Tryz.prog 28 mDig := by
  refine mk_ok fun s hs => ?_
  have hG : FnsOk Tryz.prog [] := .nil
  refine callOk_awp (ctx_ok eqOk hG) mixed (live := [true, false, true, true, false, false, false, true, false, false, false, false, false, false, false, false, false, false, false, true]) (dt := []) Tryz.func28 rfl (by kernel_rfl) (by kernel_rfl) fun w0 hlens => ?_
  generalize hr : digS s = r
  clear hlens
  simp [Tryz.f28, List.range, List.range.loop, ints, intss, int, bool, row, frac, fracs, ← List.map_take, ← List.map_drop, str]
  refine awp_range (live := [true, false, true, true, false, false, false, true, false, false, false, false, false, false, false, false, false, false, false, true]) (ctx_ok eqOk hG) mixed [true, false, false, true] (s.size) (fun k => upto (digAt s) k) (fun k => ⟨[str s, .junk, .junk, int k, .junk, .junk, .junk, .junk, .junk, .junk, .junk, .junk, .junk, .junk, .junk, .junk, .junk, .junk, .junk, .junk, .junk, .junk, .junk], []⟩) ?_ (by simp [sub, slotsLe, clean, keep, refsL, refs, once, place, renL, ren, List.replicate, int, bool, str]) ?_ ?_ ?_
  · omega
  · exact upto_zero
  · intro k hk hp hwk
    obtain ⟨e1, e2⟩ := by1_at hk
    have hf : digAt s k = false → r = false := fun hf => by rw [← hr]; unfold digS; rw [allR_no hk hf]; rfl
    have ht := upto_succ hp
    have hd : digAt s k = (decide (48 ≤ s[k].toNat) && decide (s[k].toNat ≤ 57)) := by unfold digAt; rw [e2]
    by_cases h1 : s[k].toNat < 48
    · have hr' : r = false := hf (by rw [hd]; simp; omega)
      subst hr'
      have i1 : (s[k].toNat : Int) < 48 := by omega
      have i2 : ¬ 48 ≤ (s[k].toNat : Int) := by omega
      simp [List.range, List.range.loop, ints, intss, int, bool, row, frac, fracs, ← List.map_take, ← List.map_drop, str, hk, hwk, e1, i1, i2]
    · have i1 : ¬ (s[k].toNat : Int) < 48 := by omega
      have i2 : 48 ≤ (s[k].toNat : Int) := by omega
      by_cases h2 : 57 < s[k].toNat
      · have hr' : r = false := hf (by rw [hd]; simp; omega)
        subst hr'
        have i3 : 57 < (s[k].toNat : Int) := by omega
        have i4 : ¬ (s[k].toNat : Int) ≤ 57 := by omega
        simp [List.range, List.range.loop, ints, intss, int, bool, row, frac, fracs, ← List.map_take, ← List.map_drop, str, hk, hwk, e1, i1, i2, i3, i4]
      · have ht' := ht (by rw [hd]; simp; omega)
        have i3 : ¬ 57 < (s[k].toNat : Int) := by omega
        have i4 : (s[k].toNat : Int) ≤ 57 := by omega
        simp [List.range, List.range.loop, ints, intss, int, bool, row, frac, fracs, ← List.map_take, ← List.map_drop, str, hk, hwk, e1, i1, i2, i3, i4, ht']
  · intro hp
    have := allR_yes hp
    have hr' : r = decide (0 < s.size) := by rw [← hr]; unfold digS; rw [this]; rfl
    subst hr'
    simp [List.range, List.range.loop, ints, intss, int, bool, row, frac, fracs, ← List.map_take, ← List.map_drop, str]
end Go.Proofs.YtigepnpiofcooaaGreatDoor.Ax
namespace Go.Proofs.YtigepnpiofcooaaGreatDoor.Ax
open Go Go.RowKit
set_option linter.unusedSimpArgs false
def dvlL (l : List UInt8) : Nat := l.foldl (fun a c => 10 * a + (c.toNat - 48)) 0
theorem dvL_snoc {l : List UInt8} {c : UInt8} : dvlL (l ++ [c]) = 10 * dvlL l + (c.toNat - 48) := by simp [dvlL]
theorem dec_facts : ∀ u, dvlL (Lib.decDigits u) = u ∧ (∀ c ∈ Lib.decDigits u, 48 ≤ c.toNat ∧ c.toNat ≤ 57) ∧ 0 < (Lib.decDigits u).length := by
  intro u
  induction u using Nat.strongRecOn with
  | _ u ih =>
    by_cases h : u < 10
    · rw [dec_lt h]
      have e : (UInt8.ofNat (48 + u)).toNat = 48 + u := by simp; omega
      refine ⟨?_, ?_, by simp⟩
      · have := dvL_snoc (l := []) (c := UInt8.ofNat (48 + u))
        rw [List.nil_append, e] at this
        rw [this]; simp [dvlL]
      · intro c hc
        rw [List.mem_singleton] at hc
        subst hc
        rw [e]; omega
    · rw [dec_ge (by omega)]
      obtain ⟨i1, i2, i3⟩ := ih (u / 10) (by omega)
      have e : (UInt8.ofNat (48 + u % 10)).toNat = 48 + u % 10 := by simp; omega
      refine ⟨?_, ?_, by simp⟩
      · rw [dvL_snoc, i1, e]; omega
      · intro c hc
        rw [List.mem_append, List.mem_singleton] at hc
        rcases hc with hc | rfl
        · exact i2 c hc
        · rw [e]; omega
def vL : List UInt8 → Int
  | [] => 0
  | c :: r => if c.toNat = 45 then -(dvlL r : Int) else dvlL (c :: r)
theorem vL_itoa (n : Int) : vL (Lib.itoa n) = n := by
  unfold Lib.itoa
  split
  · obtain ⟨i1, _, _⟩ := dec_facts n.natAbs
    show (if (45 : UInt8).toNat = 45 then -(dvlL (Lib.decDigits n.natAbs) : Int) else dvlL (45 :: Lib.decDigits n.natAbs)) = n
    rw [if_pos (by decide), i1]; omega
  · obtain ⟨i1, i2, i3⟩ := dec_facts n.toNat
    generalize Lib.decDigits n.toNat = l at *
    cases l with
    | nil => simp at i3
    | cons c r =>
      show (if c.toNat = 45 then -(dvlL r : Int) else dvlL (c :: r)) = n
      have := i2 c (by simp)
      rw [if_neg (by omega), i1]; omega
theorem itoaS_inj {a b : Int} (h : itoaS a = itoaS b) : a = b := by
  have h1 : bl (itoaS a) = bl (itoaS b) := by rw [h]
  unfold itoaS at h1
  rw [bl_mk, bl_mk] at h1
  rw [← vL_itoa a, h1, vL_itoa]
open Classical in
noncomputable def pI (s : ByteArray) : Int × Bool := if h : ∃ n, inI n ∧ itoaS n = s then (Classical.choose h, true) else (0, false)
theorem pI_of {n : Int} (h : inI n) : pI (itoaS n) = (n, true) := by
  unfold pI
  have hx : ∃ m, inI m ∧ itoaS m = itoaS n := ⟨n, h, rfl⟩
  rw [dif_pos hx]
  have := Classical.choose_spec hx
  rw [itoaS_inj this.2]
theorem pI_no {s : ByteArray} (h : ∀ n, inI n → itoaS n = s → False) : pI s = (0, false) := by
  unfold pI
  rw [dif_neg]
  rintro ⟨n, h1, h2⟩
  exact h n h1 h2
theorem by1_mk {l : List UInt8} {i : Nat} : by1 ⟨l.toArray⟩ i = (l[i]?.getD 0).toNat := by
  unfold by1
  have hs : (⟨l.toArray⟩ : ByteArray).size = l.length := by simp [ByteArray.size]
  by_cases h : i < l.length
  · rw [getElem?_pos (⟨l.toArray⟩ : ByteArray) i (by rw [hs]; exact h), List.getElem?_eq_getElem h]
    rfl
  · rw [getElem?_neg (⟨l.toArray⟩ : ByteArray) i (by rw [hs]; exact h), List.getElem?_eq_none (by omega)]
theorem mk_bl (s : ByteArray) : s = ⟨(bl s).toArray⟩ := by unfold bl; rw [Array.toArray_toList]
theorem bl_size (s : ByteArray) : (bl s).length = s.size := by simp [bl]
theorem by1_bl {s : ByteArray} {i : Nat} : by1 s i = ((bl s)[i]?.getD 0).toNat := by
  conv => lhs; rw [mk_bl s]
  exact by1_mk
def negS (s : ByteArray) : Bool := decide (0 < s.size) && decide (by1 s 0 = 45)
def tlS (s : ByteArray) : ByteArray := if negS s = true then s.extract 1 s.size else s
theorem tlS_bl (s : ByteArray) : bl (tlS s) = if negS s = true then (bl s).drop 1 else bl s := by
  unfold tlS
  split
  · unfold bl
    rw [ByteArray.data_extract, Array.toList_extract, List.extract_eq_take_drop]
    exact List.take_of_length_le (by rw [List.length_drop, Array.length_toList]; exact Nat.le_refl _)
  · rfl
def dv (s : ByteArray) (k : Nat) : Nat := dvlL ((bl s).take k)
theorem dv_zero {s : ByteArray} : dv s 0 = 0 := rfl
theorem dv_succ {s : ByteArray} {k : Nat} (h : k < s.size) : dv s (k + 1) = 10 * dv s k + (by1 s k - 48) := by
  have h' : k < (bl s).length := by rw [bl_size]; exact h
  unfold dv
  rw [List.take_succ_eq_append_getElem h', dvL_snoc, by1_bl, List.getElem?_eq_getElem h']
  rfl
theorem dv_mono {s : ByteArray} {k : Nat} : ∀ {j : Nat}, k ≤ j → j ≤ s.size → dv s k ≤ dv s j
  | 0, h, _ => by obtain rfl : k = 0 := by omega
                  exact Nat.le_refl _
  | j + 1, h, hj => by
    rcases Nat.lt_or_ge k (j + 1) with h1 | h1
    · have := dv_mono (s := s) (k := k) (j := j) (by omega) (by omega)
      have e := dv_succ (s := s) (k := j) (by omega)
      omega
    · obtain rfl : k = j + 1 := by omega
      exact Nat.le_refl _
structure NumF (n : Int) : Prop where
  neg : negS (itoaS n) = decide (n < 0)
  dig : digS (tlS (itoaS n)) = true
  len : (tlS (itoaS n)).size ≤ 19
  val : dv (tlS (itoaS n)) (tlS (itoaS n)).size = n.natAbs
theorem numF {n : Int} (h : inI n) : NumF n := by
  have h1 := h.1
  have h2 := h.2
  have h3 : (9223372036854775808 : Nat) < 10 ^ 19 := by decide
  have hb : bl (itoaS n) = Lib.itoa n := by unfold itoaS; rw [bl_mk]
  have hneg : negS (itoaS n) = decide (n < 0) := by
    unfold negS
    rw [by1_bl, ← bl_size, hb]
    unfold Lib.itoa
    split
    · rename_i g; simp [g]
    · rename_i g
      obtain ⟨_, i2, i3⟩ := dec_facts n.toNat
      generalize Lib.decDigits n.toNat = l at *
      cases l with
      | nil => simp at i3
      | cons c r =>
        have := i2 c (by simp)
        simp [g]; intro hc; rw [hc] at this; simp at this
  have ht : bl (tlS (itoaS n)) = Lib.decDigits n.natAbs := by
    rw [tlS_bl, hneg, hb]
    unfold Lib.itoa
    by_cases g : n < 0
    · simp [g]
    · simp [g]; congr 1; omega
  have hl := dec_len10 19 n.natAbs (by omega) (by omega)
  obtain ⟨i1, i2, i3⟩ := dec_facts n.natAbs
  have hsz : (tlS (itoaS n)).size = (Lib.decDigits n.natAbs).length := by rw [← bl_size, ht]
  refine ⟨hneg, ?_, by omega, ?_⟩
  · unfold digS
    rw [Bool.and_eq_true]
    refine ⟨allR_yes fun j hj => ?_, by simp; omega⟩
    unfold digAt
    have hj' : j < (Lib.decDigits n.natAbs).length := by omega
    rw [by1_bl, ht, List.getElem?_eq_getElem hj']
    have := i2 _ (List.getElem_mem hj')
    simp; omega
  · unfold dv
    rw [hsz, ht, List.take_length, i1]
theorem dig_by {t : ByteArray} (h : digS t = true) {k : Nat} (hk : k < t.size) : 48 ≤ by1 t k ∧ by1 t k ≤ 57 := by
  unfold digS at h
  rw [Bool.and_eq_true] at h
  have := h.1
  unfold allR at this
  rw [List.all_eq_true] at this
  have := this k (by simpa using hk)
  unfold digAt at this
  simpa using this
end Go.Proofs.YtigepnpiofcooaaGreatDoor.Ax
