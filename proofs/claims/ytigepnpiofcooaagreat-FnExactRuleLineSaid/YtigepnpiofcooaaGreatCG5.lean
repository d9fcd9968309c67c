/-
  Contracts: BestAward, BestWorth, WorthWithout (both programs). No condition.
-/
import Derived.Test.YtigepnpiofcooaaGreatCG4
import Derived.Test.YtigepnpiofcooaaGreatCB2
import Derived.Test.YtigepnpiofcooaaGreatCB1
import Derived.Test.YtigepnpiofcooaaGreatCG2
namespace Go.Proofs.YtigepnpiofcooaaGreat.Ax
open Go Go.RowKit
set_option linter.unusedSimpArgs false
end Go.Proofs.YtigepnpiofcooaaGreat.Ax
namespace Go.Proofs.YtigepnpiofcooaaGreat.Ax
open Go Go.RowKit
set_option linter.unusedSimpArgs false
end Go.Proofs.YtigepnpiofcooaaGreat.Ax
namespace Go.Proofs.YtigepnpiofcooaaGreat.Ax
open Go Go.RowKit
set_option linter.unusedSimpArgs false
end Go.Proofs.YtigepnpiofcooaaGreat.Ax
namespace Go.Proofs.YtigepnpiofcooaaGreat.Ax
open Go Go.RowKit
set_option linter.unusedSimpArgs false
end Go.Proofs.YtigepnpiofcooaaGreat.Ax
namespace Go.Proofs.YtigepnpiofcooaaGreat.Ax
open Go Go.RowKit
set_option linter.unusedSimpArgs false
theorem pos_at {v : Int} : ∀ {l : List Int} {k : Nat}, v ∈ l → ∃ p : Nat, posFrom v l k = ((k + p : Nat) : Int) ∧ l[p]? = some v
  | a :: l, k, h => by
    by_cases e : a = v
    · exact ⟨0, by simp [posFrom, e], by simp [e]⟩
    · obtain ⟨p, h1, h2⟩ := pos_at (v := v) (l := l) (k := k + 1) ((List.mem_cons.1 h).resolve_left fun h => e h.symm)
      exact ⟨p + 1, by rw [posFrom, if_neg e, h1]; omega, by simpa using h2⟩
theorem pfB_op {l : List Int} {a b : Int} (ha : a ∈ l) (hb : b ∈ l) (hne : a ≠ b) : pfB l b a = !pfB l a b := by
  have pa := pos_iff.2 ha
  have pb := pos_iff.2 hb
  have hn : pos l a ≠ pos l b := fun e => by
    obtain ⟨p, h1, h2⟩ := pos_at (k := 0) ha
    obtain ⟨p', h1', h2'⟩ := pos_at (k := 0) hb
    unfold pos at e
    have : p = p' := by omega
    subst this
    rw [h2] at h2'
    exact hne (Option.some.inj h2')
  simp only [pfB, pa, pb, decide_true, Bool.true_and]
  by_cases h : pos l a < pos l b
  · have : ¬ pos l b < pos l a := by omega
    simp [h, this]
  · have : pos l b < pos l a := by omega
    simp [h, this]
theorem implPlace_ok : FnOk Tryz.prog 127 mPos := by
  refine mk_ok fun ⟨nl, xs, v⟩ _ => ?_
  have hG : FnsOk Tryz.prog [(132, mPos)] := (.cons slicesIndex_ok .nil)
  refine callOk_awp (ctx_ok eqOk hG) mixed (live := [true, true, false, false, true]) (dt := []) Tryz.func127 rfl (by kernel_rfl) (by kernel_rfl) fun w0 hlens => ?_
  simp [Tryz.f127, List.range, List.range.loop, ints, intss, int, bool, row, frac, fracs, ← List.map_take, ← List.map_drop, mPos_at]
noncomputable def mPref : List AV → Option AV := mk (fun _ => True) (fun (p : (Bool) × (List Int) × (Int) × (Int)) => [ints p.1 p.2.1, int p.2.2.1, int p.2.2.2]) (fun p => bool (pfB p.2.1 p.2.2.1 p.2.2.2))
theorem mPref_at (nl : Bool) (l : List Int) (a : Int) (b : Int) : mPref [.sl nl 1 (l.map int), .v (.int .i64 a), .v (.int .i64 b)] = some (.v (.bool (pfB l a b))) :=
  mk_eq (enc := fun (p : (Bool) × (List Int) × (Int) × (Int)) => [ints p.1 p.2.1, int p.2.2.1, int p.2.2.2]) (x := (nl, l, a, b)) (by rintro ⟨a0, a1, a2, a3⟩ ⟨b0, b1, b2, b3⟩ h; simp [ints, intss, int, bool, row, frac, fracs, map_int_inj, map_row_inj, frac_inj, map_frac_inj] at h; simp [h]) trivial
theorem implPref_ok : FnOk Tryz.prog 118 mPref := by
  refine mk_ok fun ⟨nl, l, a, b⟩ _ => ?_
  have hG : FnsOk Tryz.prog [(127, mPos)] := (.cons implPlace_ok .nil)
  refine callOk_awp (ctx_ok eqOk hG) mixed (live := [true, true, true, false, false, false, true, true, true]) (dt := []) Tryz.func118 rfl (by kernel_rfl) (by kernel_rfl) fun w0 hlens => ?_
  clear hlens
  by_cases h1 : 0 ≤ pos l a <;> by_cases h2 : 0 ≤ pos l b <;> by_cases h3 : pos l a < pos l b <;> simp [Tryz.f118, List.range, List.range.loop, ints, intss, int, bool, row, frac, fracs, ← List.map_take, ← List.map_drop, mPos_at, pfB, h1, h2, h3]
theorem specPref_ok : FnOk Tryz.prog 136 mPref := by
  refine mk_ok fun ⟨nl, l, a, b⟩ _ => ?_
  have hG : FnsOk Tryz.prog [(141, mPos)] := (.cons placeOf_ok .nil)
  refine callOk_awp (ctx_ok eqOk hG) mixed (live := [true, true, true, false, false, false, true, true, true]) (dt := []) Tryz.func136 rfl (by kernel_rfl) (by kernel_rfl) fun w0 hlens => ?_
  clear hlens
  by_cases h1 : 0 ≤ pos l a <;> by_cases h2 : 0 ≤ pos l b <;> by_cases h3 : pos l a < pos l b <;> simp [Tryz.f136, List.range, List.range.loop, ints, intss, int, bool, row, frac, fracs, ← List.map_take, ← List.map_drop, mPos_at, pfB, h1, h2, h3]
noncomputable def mIsRk : List AV → Option AV := mk (fun _ => True) (fun (p : (Bool) × (List Int)) => [ints p.1 p.2]) (fun p => bool (rankB p.2.length p.2))
theorem mIsRk_at (nl : Bool) (l : List Int) : mIsRk [.sl nl 1 (l.map int)] = some (.v (.bool (rankB l.length l))) :=
  mk_eq (enc := fun (p : (Bool) × (List Int)) => [ints p.1 p.2]) (x := (nl, l)) (by rintro ⟨a0, a1⟩ ⟨b0, b1⟩ h; simp [ints, intss, int, bool, row, frac, fracs, map_int_inj, map_row_inj, frac_inj, map_frac_inj] at h; simp [h]) trivial
theorem isRank_ok : FnOk Tryz.prog 153 mIsRk := by
  refine mk_ok fun ⟨nl, l⟩ _ => ?_
  have hG : FnsOk Tryz.prog [(60, mRank)] := (.cons implRankingOk_ok .nil)
  refine callOk_awp (ctx_ok eqOk hG) mixed (live := [true, false, true]) (dt := []) Tryz.func153 rfl (by kernel_rfl) (by kernel_rfl) fun w0 hlens => ?_
  clear hlens
  have h := mRank_at l.length nl l
  simp [Tryz.f153, List.range, List.range.loop, ints, intss, int, bool, row, frac, fracs, ← List.map_take, ← List.map_drop, h]
end Go.Proofs.YtigepnpiofcooaaGreat.Ax
