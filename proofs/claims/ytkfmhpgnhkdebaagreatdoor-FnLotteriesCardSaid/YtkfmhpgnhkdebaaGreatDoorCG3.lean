/-
  Contracts: HousesOk (both programs). No condition.
-/
import Derived.Test.YtkfmhpgnhkdebaaGreatDoorCG2
import Derived.Test.YtkfmhpgnhkdebaaGreatDoorCB2
import Derived.Test.YtkfmhpgnhkdebaaGreatDoorCK4
namespace Go.Proofs.YtkfmhpgnhkdebaaGreatDoor.Ax
open Go Go.RowKit
set_option linter.unusedSimpArgs false
def ranksB (m : Int) (xss : List (Bool × List Int)) : Bool := xss.all fun r => rankB m r.2
noncomputable def mAreR : List AV → Option AV := mk (fun _ => True) (fun (p : (Int) × (Bool) × (List (Bool × List Int))) => [int p.1, intss p.2.1 p.2.2]) (fun p => bool (ranksB p.1 p.2.2))
theorem mAreR_at (m : Int) (nl : Bool) (xss : List (Bool × List Int)) : mAreR [.v (.int .i64 m), .sl nl 1 (xss.map row)] = some (.v (.bool (ranksB m xss))) :=
  mk_eq (enc := fun (p : (Int) × (Bool) × (List (Bool × List Int))) => [int p.1, intss p.2.1 p.2.2]) (x := (m, nl, xss)) (by rintro ⟨a0, a1, a2⟩ ⟨b0, b1, b2⟩ h; simp [ints, intss, int, bool, row, frac, fracs, map_int_inj, map_row_inj, frac_inj, map_frac_inj] at h; simp [h]) trivial
noncomputable def mL17 : List AV → Option AV := mk (fun _ => True) (fun (p : (Bool) × (List (Bool × List Int)) × (Int)) => [intss p.1 p.2.1, int p.2.2]) (fun p => bool (decide ((p.2.1.length : Int) = p.2.2) && ranksB p.2.2 p.2.1))
theorem mL17_at (nl : Bool) (xss : List (Bool × List Int)) (m : Int) : mL17 [.sl nl 1 (xss.map row), .v (.int .i64 m)] = some (.v (.bool (decide ((xss.length : Int) = m) && ranksB m xss))) :=
  mk_eq (enc := fun (p : (Bool) × (List (Bool × List Int)) × (Int)) => [intss p.1 p.2.1, int p.2.2]) (x := (nl, xss, m)) (by rintro ⟨a0, a1, a2⟩ ⟨b0, b1, b2⟩ h; simp [ints, intss, int, bool, row, frac, fracs, map_int_inj, map_row_inj, frac_inj, map_frac_inj] at h; simp [h]) trivial
theorem areRankings1 (m : Int) (r : Bool × List Int) : CallOk Tryz.prog 226 [row r, .fp (int m) 0] (.v (.bool (!rankB m r.2))) := by
  have hG : FnsOk Tryz.prog [(110, mRank)] := (.cons implRankingOk_ok .nil)
  refine callOk_awp (ctx_ok eqOk hG) mixed (live := [true, true, false, true]) (dt := []) Tryz.func226 rfl (by kernel_rfl) (by kernel_rfl) fun w0 hlens => ?_
  simp (config := {contextual := true}) [Tryz.f226, List.range, List.range.loop, ints, intss, int, bool, row, frac, fracs, ← List.map_take, ← List.map_drop, mRank_at]
set_option maxHeartbeats 1000000 in
theorem areRankings_ok : FnOk Tryz.prog 164 mAreR := by
  refine mk_ok fun ⟨m, nl, xss⟩ _ => ?_
  obtain ⟨mm, hm, hma⟩ := as_model (containsIntss (g := 226) (pure_fp (a := int m) (j := 0) pure_nil) (fun r => !rankB m r.2) nl xss (fun x _ => areRankings1 m x))
  simp only [intss, int, bool] at hma
  have hnn := not_any_not (p := fun r : Bool × List Int => rankB m r.2) (xs := xss)
  have hs : ranksB m xss = !(xss.any fun r => !rankB m r.2) := by unfold ranksB; rw [← hnn]
  rw [hs]
  generalize xss.any (fun r => !rankB m r.2) = bb at hma hnn
  have hG : FnsOk Tryz.prog [(225, mm)] := (.cons hm .nil)
  refine callOk_awp (ctx_ok eqOk hG) mixed (live := [true, true, true, false, true]) (dt := []) Tryz.func164 rfl (by kernel_rfl) (by kernel_rfl) fun w0 hlens => ?_
  simp (config := {contextual := true}) [Tryz.f164, List.range, List.range.loop, ints, intss, int, bool, row, frac, fracs, ← List.map_take, ← List.map_drop, hma]
def housesB (xss : List (Bool × List Int)) : Bool := inR 1 5 xss.length && ranksB xss.length xss
noncomputable def mHouses : List AV → Option AV := mk (fun _ => True) (fun (p : (Bool) × (List (Bool × List Int))) => [intss p.1 p.2]) (fun p => bool (housesB p.2))
theorem mHouses_at (nl : Bool) (xss : List (Bool × List Int)) : mHouses [.sl nl 1 (xss.map row)] = some (.v (.bool (housesB xss))) :=
  mk_eq (enc := fun (p : (Bool) × (List (Bool × List Int))) => [intss p.1 p.2]) (x := (nl, xss)) (by rintro ⟨a0, a1⟩ ⟨b0, b1⟩ h; simp [ints, intss, int, bool, row, frac, fracs, map_int_inj, map_row_inj, frac_inj, map_frac_inj] at h; simp [h]) trivial
set_option maxHeartbeats 1000000 in
theorem implHouses_ok : FnOk Tryz.prog 91 mHouses := by
  refine mk_ok fun ⟨nl, xss⟩ _ => ?_
  have hG : FnsOk Tryz.prog [(99, mWithin), (164, mAreR)] := (.cons within_ok (.cons areRankings_ok .nil))
  refine callOk_awp (ctx_ok eqOk hG) mixed (live := [true, false, true]) (dt := []) Tryz.func91 rfl (by kernel_rfl) (by kernel_rfl) fun w0 hlens => ?_
  cases h1 : inR 1 5 xss.length <;> simp (config := {contextual := true}) [Tryz.f91, List.range, List.range.loop, ints, intss, int, bool, row, frac, fracs, ← List.map_take, ← List.map_drop, mWithin_in, mAreR_at, mL17_at, h1, housesB]
end Go.Proofs.YtkfmhpgnhkdebaaGreatDoor.Ax
namespace Go.Proofs.YtkfmhpgnhkdebaaGreatDoor.Ax
open Go Go.RowKit
end Go.Proofs.YtkfmhpgnhkdebaaGreatDoor.Ax
namespace Go.Proofs.YtkfmhpgnhkdebaaGreatDoor.Ax
open Go Go.RowKit
set_option linter.unusedSimpArgs false
def fstI (p : Int → Bool) (l : List Int) : Option Int := l.find? p
theorem fstI_idx {p : Int → Bool} {l : List Int} {x : Int} (h : fstI p l = some x) : ∃ k : Nat, ∃ hk : k < l.length, idxOf p l = k ∧ l[k] = x ∧ p x = true := by
  unfold fstI at h
  obtain ⟨hp, k, hk, e, hno⟩ := List.find?_eq_some_iff_getElem.1 h
  refine ⟨k, hk, idxOf_found hk (fun j hj hjk => by simpa using hno j hjk) (by rw [e]; exact hp), e, hp⟩
theorem firstOf1 (nl : Bool) (xs : List Int) (x : Int) : CallOk Tryz.prog 229 [int x, .fp (ints nl xs) 0] (.v (.bool (decide (0 ≤ pos xs x)))) := by
  have hG : FnsOk Tryz.prog [(181, mHas)] := (.cons slicesContains_ok .nil)
  refine callOk_awp (ctx_ok eqOk hG) mixed (live := [true, true, false, true]) (dt := []) Tryz.func229 rfl (by kernel_rfl) (by kernel_rfl) fun w0 hlens => ?_
  simp (config := {contextual := true}) [Tryz.f229, List.range, List.range.loop, ints, intss, int, bool, row, frac, fracs, ← List.map_take, ← List.map_drop, mHas_at]
noncomputable def mFstL : List AV → Option AV := mk (fun (p : Bool × List Int × Bool × List Int × Int) => fstI (fun h => decide (0 ≤ pos p.2.2.2.1 h)) p.2.1 = some p.2.2.2.2) (fun p => [ints p.1 p.2.1, ints p.2.2.1 p.2.2.2.1]) (fun p => int p.2.2.2.2)
theorem mFstL_at (nl : Bool) (l : List Int) (nl' : Bool) (xs : List Int) (x : Int) (h : fstI (fun h => decide (0 ≤ pos xs h)) l = some x) : mFstL [.sl nl 1 (l.map int), .sl nl' 1 (xs.map int)] = some (.v (.int .i64 x)) := by
  unfold mFstL mk
  have hex : ∃ p : Bool × List Int × Bool × List Int × Int, fstI (fun h => decide (0 ≤ pos p.2.2.2.1 h)) p.2.1 = some p.2.2.2.2 ∧ [ints p.1 p.2.1, ints p.2.2.1 p.2.2.2.1] = [.sl nl 1 (l.map int), .sl nl' 1 (xs.map int)] := ⟨(nl, l, nl', xs, x), h, rfl⟩
  rw [dif_pos hex]
  have key : ∀ q : Bool × List Int × Bool × List Int × Int, fstI (fun h => decide (0 ≤ pos q.2.2.2.1 h)) q.2.1 = some q.2.2.2.2 → [ints q.1 q.2.1, ints q.2.2.1 q.2.2.2.1] = [AV.sl nl 1 (l.map int), .sl nl' 1 (xs.map int)] → q.2.2.2.2 = x := by
    rintro ⟨a, b, c, d, e⟩ k1 k2
    simp only [ints, List.cons.injEq, AV.sl.injEq, true_and, and_true, map_int_inj] at k1 k2
    obtain ⟨⟨_, rfl⟩, _, rfl⟩ := k2
    rw [h] at k1
    exact (Option.some.inj k1).symm
  show some (int hex.choose.2.2.2.2) = some (int x)
  rw [key _ hex.choose_spec.1 hex.choose_spec.2]
set_option maxHeartbeats 1000000 in
theorem firstOfLeft_ok : FnOk Tryz.prog 168 mFstL := by
  refine mk_ok fun ⟨nl, l, nl', xs, x⟩ h => ?_
  simp only at h
  obtain ⟨k, hk, e1, e2, _⟩ := fstI_idx h
  have hI := indexInts (g := 229) (caps := [.fp (ints nl' xs) 0]) ⟨fun _ => rfl, rfl, fun _ => rfl⟩ (fun h => decide (0 ≤ pos xs h)) nl l (fun x _ => firstOf1 nl' xs x)
  rw [e1] at hI
  have hat : only [ints nl l, .fn 229 [.fp (ints nl' xs) 0]] (int (k : Int)) [.sl nl 1 (l.map int), .fn 229 [.fp (.sl nl' 1 (xs.map int)) 0]] = some (.v (.int .i64 (k : Int))) := only_at
  have hIm := only_ok hI
  generalize only [ints nl l, .fn 229 [.fp (ints nl' xs) 0]] (int (k : Int)) = m at hIm hat
  have hG : FnsOk Tryz.prog [(228, m)] := (.cons hIm .nil)
  refine callOk_awp (ctx_ok eqOk hG) mixed (live := [true, true, false, true, true]) (dt := []) Tryz.func168 rfl (by kernel_rfl) (by kernel_rfl) fun w0 hlens => ?_
  clear hlens
  simp (config := {contextual := true}) [Tryz.f168, List.range, List.range.loop, ints, intss, int, bool, row, frac, fracs, ← List.map_take, ← List.map_drop, hat, hk, e2]
def fstB (bs : List Bool) (l : List Int) : Int := (fstI (fun h => bs.getD h.toNat false) l).getD (-1)
end Go.Proofs.YtkfmhpgnhkdebaaGreatDoor.Ax
namespace Go.Proofs.YtkfmhpgnhkdebaaGreatDoor.Ax
open Go Go.RowKit
set_option linter.unusedSimpArgs false
set_option linter.unusedVariables false
end Go.Proofs.YtkfmhpgnhkdebaaGreatDoor.Ax
