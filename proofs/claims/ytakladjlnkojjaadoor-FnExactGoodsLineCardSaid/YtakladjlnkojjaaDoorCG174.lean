/-
  Contracts: slices.Compare of ints; the best and the number of allocations (the program). No condition.
-/
import Derived.Test.YtakladjlnkojjaaDoorCG173
import Derived.Test.YtakladjlnkojjaaDoorCG54
namespace Go.Proofs.YtakladjlnkojjaaDoor.Ax
open Go Go.RowKit
set_option linter.unusedSimpArgs false

def cmI (x y : Int) : Int := if x < y then -1 else if y < x then 1 else 0
def cmL : List Int → List Int → Int
  | [], [] => 0
  | [], _ :: _ => -1
  | _ :: _, [] => 1
  | x :: a, y :: b => if cmI x y = 0 then cmL a b else cmI x y
noncomputable def mCmI : List AV → Option AV := mk (fun _ => True) (fun (p : (Int) × (Int)) => [int p.1, int p.2]) (fun p => int (cmI p.1 p.2))
theorem mCmI_at (x : Int) (y : Int) : mCmI [.v (.int .i64 x), .v (.int .i64 y)] = some (.v (.int .i64 (cmI x y))) :=
  mk_eq (enc := fun (p : (Int) × (Int)) => [int p.1, int p.2]) (x := (x, y)) (by rintro ⟨a0, a1⟩ ⟨b0, b1⟩ h; simp [ints, intss, int, bool, row, frac, fracs, map_int_inj, map_row_inj, frac_inj, map_frac_inj] at h; simp [h]) trivial
noncomputable def mNaNI : List AV → Option AV := mk (fun _ => True) (fun (p : (Int)) => [int p]) (fun _ => bool false)
theorem mNaNI_at (x : Int) : mNaNI [.v (.int .i64 x)] = some (.v (.bool false)) :=
  mk_eq (enc := fun (p : (Int)) => [int p]) (x := (x)) (by rintro a0 b0 h; simp [ints, intss, int, bool, row, frac, fracs, map_int_inj, map_row_inj, frac_inj, map_frac_inj] at h; simp [h]) trivial
theorem isNaNI_ok : (FnOk Tryd.prog 135 mNaNI) := by
  refine mk_ok fun x _ => ?_
  have hG : FnsOk Tryd.prog [] := .nil
  refine callOk_awp (ctx_ok eqOk hG) mixed (live := [true, false, true]) (dt := []) Tryd.func135 rfl (by kernel_rfl) (by kernel_rfl) fun w0 hlens => ?_
  simp [Tryd.f135, List.range, List.range.loop, ints, intss, int, bool, row, frac, fracs, ← List.map_take, ← List.map_drop]
theorem cmI_ok : (FnOk Tryd.prog 122 mCmI) := by
  refine mk_ok fun ⟨x, y⟩ _ => ?_
  have hG : FnsOk Tryd.prog [(135, mNaNI)] := (.cons isNaNI_ok .nil)
  refine callOk_awp (ctx_ok eqOk hG) mixed (live := [true, true, false, false, true, true, true, false, false, false, false, true, true, true, false, false, true, false, false, true]) (dt := []) Tryd.func122 rfl (by kernel_rfl) (by kernel_rfl) fun w0 hlens => ?_
  by_cases h1 : x < y
  · simp [Tryd.f122, List.range, List.range.loop, ints, intss, int, bool, row, frac, fracs, ← List.map_take, ← List.map_drop, mNaNI_at, h1, cmI]
  · by_cases h2 : y < x <;> simp [Tryd.f122, List.range, List.range.loop, ints, intss, int, bool, row, frac, fracs, ← List.map_take, ← List.map_drop, mNaNI_at, h1, h2, cmI]

noncomputable def mCmL : List AV → Option AV := mk (fun p => p.2.1.length = p.2.2.2.length) (fun (p : (Bool) × (List Int) × (Bool) × (List Int)) => [ints p.1 p.2.1, ints p.2.2.1 p.2.2.2]) (fun p => int (cmL p.2.1 p.2.2.2))
theorem mCmL_at (nl : Bool) (a : List Int) (nl' : Bool) (b : List Int) (hpre : a.length = b.length) : mCmL [.sl nl 1 (a.map int), .sl nl' 1 (b.map int)] = some (.v (.int .i64 (cmL a b))) :=
  mk_eq (enc := fun (p : (Bool) × (List Int) × (Bool) × (List Int)) => [ints p.1 p.2.1, ints p.2.2.1 p.2.2.2]) (x := (nl, a, nl', b)) (by rintro ⟨a0, a1, a2, a3⟩ ⟨b0, b1, b2, b3⟩ h; simp [ints, intss, int, bool, row, frac, fracs, map_int_inj, map_row_inj, frac_inj, map_frac_inj] at h; simp [h]) hpre
theorem cmL_ok : FnOk Tryd.prog 97 mCmL := by
  refine mk_ok fun ⟨nl, a, nl', b⟩ hp => ?_
  simp only at hp
  have hG : FnsOk Tryd.prog [(122, mCmI)] := (.cons cmI_ok .nil)
  refine callOk_awp (ctx_ok eqOk hG) mixed (live := [true, true, false, false, true, true, true, true, true, true, true, true, true, false, false, false, false, false, false, true, false, false, false, false, false, false, false, false, true, false, false, false, false, false, false, true]) (dt := []) Tryd.func97 rfl (by kernel_rfl) (by kernel_rfl) fun w0 hlens => ?_
  have hl : a.length ≤ 9223372036854775807 := (lens_ints.1 hlens.1).1
  clear hlens
  generalize hr : cmL a b = r
  simp [Tryd.f97, List.range, List.range.loop, ints, intss, int, bool, row, frac, fracs, ← List.map_take, ← List.map_drop]
  refine awp_range (live := [true, true, false, false, true, true, true, true, true, true, true, true, true, false, false, false, false, false, false, true, false, false, false, false, false, false, false, false, true, false, false, false, false, false, false, true]) (ctx_ok eqOk hG) mixed [true, true, false, false, false, false, false, false, false, true, true, true] (a.length) (fun k => cmL (a.drop k) (b.drop k) = r) (fun k => ⟨[ints nl a, ints nl' b, .junk, .junk, .junk, .junk, .junk, .junk, .junk, ints nl a, int a.length, int k, .junk, .junk, .junk, .junk, .junk, .junk, .junk, .junk, .junk, .junk, .junk, .junk, .junk, .junk, .junk, .junk, .junk, .junk, .junk, .junk, .junk, .junk, .junk, .junk], []⟩) ?_ (by simp [sub, slotsLe, clean, keep, refsL, refs, once, place, renL, ren, List.replicate, int, bool, ints]) ?_ ?_ ?_
  · exact hl
  · simpa using hr
  · intro k hk hq hwk
    have hkb : k < b.length := by omega
    have h1 : ¬ (b.length : Int) ≤ k := by omega
    have h2 : ¬ b.length ≤ k := by omega
    rw [List.drop_eq_getElem_cons hk, List.drop_eq_getElem_cons hkb, cmL] at hq
    by_cases e : cmI a[k] b[k] = 0
    · rw [if_pos e] at hq
      simp [List.range, List.range.loop, ints, intss, int, bool, row, frac, fracs, ← List.map_take, ← List.map_drop, hk, hkb, hwk, h1, h2, mCmI_at, e, hq]
    · rw [if_neg e] at hq
      subst hq
      have e' : (cmI a[k] b[k] != 0) = true := by simpa using e
      simp [List.range, List.range.loop, ints, intss, int, bool, row, frac, fracs, ← List.map_take, ← List.map_drop, hk, hkb, hwk, h1, h2, mCmI_at, e, e']
  · intro hq
    have hab : ¬ a.length < b.length := by omega
    have hab2 : ¬ (a.length : Int) < b.length := by omega
    have : r = 0 := by
      rw [← hq, List.drop_of_length_le (Nat.le_refl _), List.drop_of_length_le (by omega)]; rfl
    subst this
    simp [List.range, List.range.loop, ints, intss, int, bool, row, frac, fracs, ← List.map_take, ← List.map_drop, hab, hab2]

theorem cmL_pair {a b c d : Int} : (0 < cmL [a, b] [c, d]) ↔ prGt (a, b) (c, d) = true := by
  simp only [cmL, cmI, prGt, Bool.or_eq_true, Bool.and_eq_true, decide_eq_true_eq]
  split <;> split <;> try split
  all_goals (try split) <;> omega

theorem tyFI : tyOf Tryd.prog 49 = some (⟨.func #[36] #[36] false, 1, 8, .nilFunc⟩ : TI) := by kernel_rfl
theorem tyFB : tyOf Tryd.prog 74 = some (⟨.func #[36] #[4] false, 1, 8, .nilFunc⟩ : TI) := by kernel_rfl
/-- The best so far, as it lies in memory; what it is worth. -/
def bestV : Option (List Int) → AV
  | none => .sl true 1 []
  | some l => .sl false 1 (l.map int)
def mostV (xss : List (Bool × List Int)) : Option (List Int) → AV
  | none => .sl true 1 []
  | some l => .sl false 1 [int (prA xss l).1, int (prA xss l).2]
/-- All full allocations. -/
def allocs (xss : List (Bool × List Int)) : List (List Int) := allL 0 ((xss.length : Int) - 1) (wid xss)
theorem allocs_len {xss : List (Bool × List Int)} {l : List Int} (h : l ∈ allocs xss) : l.length = wid xss := (allL_mem h).1

noncomputable def mBestAl : List AV → Option AV := mk (fun p => rectB p.2 3 6 100 = true) (fun (p : Bool × List (Bool × List Int)) => [intss p.1 p.2, .fn 64 [.fp (intss p.1 p.2) 0]])
  (fun p => .tup [bestV (bestP p.2 (allocs p.2)), .v (.bool true)])
theorem mBestAl_at (nl : Bool) (xss : List (Bool × List Int)) (h : rectB xss 3 6 100 = true) : mBestAl [.sl nl 1 (xss.map row), .fn 64 [.fp (.sl nl 1 (xss.map row)) 0]] = some (.tup [bestV (bestP xss (allocs xss)), .v (.bool true)]) :=
  mk_eq (enc := fun (p : Bool × List (Bool × List Int)) => [intss p.1 p.2, .fn 64 [.fp (intss p.1 p.2) 0]]) (x := (nl, xss)) (by rintro ⟨a, b⟩ ⟨c, d⟩ h; simp [intss, map_row_inj] at h; simp [h]) h

set_option maxHeartbeats 1000000 in
theorem bestAl_ok : FnOk Tryd.prog 63 mBestAl := by
  refine mk_ok fun ⟨nl, xss⟩ h1 => ?_
  simp only at h1
  have hG : FnsOk Tryd.prog [(34, (mGrid 3 6 100)), (97, mCmL), (98, mClone), (64, mProdC)] := (.cons implValuesOk_ok (.cons cmL_ok (.cons clone_ok (.cons mostProduct1_ok .nil))))
  have hM : FnsMut Tryd.prog [] := .nil
  have hV : FnsMov Tryd.prog [] := .nil
  have hK : FnsFrz Tryd.prog [(96, true, mLists)] := (.cons lists_ok .nil)
  refine callOk_awp (ctxH_ok eqOk hG hM hV hK) mixed (live := [true, true, false, true, true, true, true, true, true, true, false, false, true, false, false, false, false, false, false, false, true, true, false, false, false, false, false, false, false, false, false, false, true]) (dt := []) Tryd.func63 rfl (by kernel_rfl) (by kernel_rfl) fun w0 hlens => ?_
  clear hlens
  have h0 := rect_pos h1
  have hw := wid_eq h0
  have hl := rect_len h1
  have hs : IntKind.i64.wrap ((xss.length : Int) - 1) = (xss.length : Int) - 1 := wrapI (by omega) (by omega)
  have hls := mLists_at (wid xss) 0 ((xss.length : Int) - 1)
  simp (config := {contextual := true}) [Tryd.f63, List.range, List.range.loop, ints, intss, int, bool, row, frac, fracs, ← List.map_take, ← List.map_drop, List.all, tyFI, mGrid_at, h1, h0, hw, hs, hls]
  refine tr_rangeFunc (live := [true, true, false, true, true, true, true, true, true, true, false, false, true, false, false, false, false, false, false, false, true, true, false, false, false, false, false, false, false, false, false, false, true]) (lv := [false, false, false, true, false, false, true, true, false, false, false, false, false, false, false, false, false, false, false, false, true]) (S0 := [.junk, .junk, .junk, .fp (.fn 64 [.fp (.sl nl 1 (xss.map row)) 0]) 0, .junk, .junk, .ptr 0 [] 0 0, .ptr 1 [] 0 0, .junk, .junk, .junk, .junk, .junk, .junk, .junk, .junk, .junk, .junk, .junk, .junk, .fn 121 [.fp (int 0) 0, .fp (int (wid xss : Int)) 0, .fp (int ((xss.length : Int) - 1)) 0], .junk, .junk, .junk, .junk, .junk, .junk, .junk, .junk, .junk, .junk, .junk, .junk, .junk, .junk, .junk, .junk])
    (I := fun k => [⟨true, .sl false 1 [bestV (bestP xss ((allocs xss).take k))]⟩, ⟨true, .sl false 1 [mostV xss (bestP xss ((allocs xss).take k))]⟩]) [3, 6, 7, 20]
    (ctxH_ok eqOk hG hM hV hK) mixed (lists1_ok 0 ((xss.length : Int) - 1) (wid xss) (by omega) (by omega) (by omega) (by omega)) rfl rfl ?_ rfl rfl (by simp) (by decide) (chkS_all rfl) ?_ ⟨by kernel_rfl, by kernel_rfl⟩ ?_ ?_
  · refine (le_freeze [0]).trans ((le_clean [false, false, false, true, false, false, true, true, false, false, false, false, false, false, false, false, false, false, false, false, true]).trans (le_sub ?_))
    simp [freeze, frzA, frzAL, res, getAt, sets, bestP, bestV, mostV, sub, slotsLe, clean, keep, refsL, refs, once, place, renL, ren, List.replicate, int, bool]
  · intro k _ t tk ht
    match t with
    | 0 => simp at ht; subst ht; exact .inr rfl
    | 1 => simp at ht; subst ht; exact .inr rfl
    | t + 2 => simp at ht
  · intro k x hx pin l US w1
    rw [List.getElem?_map, Option.map_eq_some_iff] at hx
    obtain ⟨l0, hl0, rfl⟩ := hx
    obtain ⟨hk, hl0'⟩ := List.getElem?_eq_some_iff.1 hl0
    have hmem : l0 ∈ allocs xss := List.mem_of_getElem? hl0
    have hlen := allocs_len hmem
    have htake := bestP_take (xss := xss) (L := allocs xss) hk
    rw [show (allocs xss)[k]'hk = l0 from hl0'] at htake
    have hbm : ∀ b, bestP xss ((allocs xss).take k) = some b → b.length = wid xss := fun b hb => by
      rcases bestP_mem (o := none) b hb with h | h
      · exact allocs_len (List.mem_of_mem_take h)
      · cases h
    generalize bestP xss ((allocs xss).take k) = o at htake hbm
    simp [List.range, List.range.loop, ints, intss, int, bool, row, frac, fracs, ← List.map_take, ← List.map_drop]
    simp only [asgF_normal]
    intro US' w1'
    have hpc := mProdC_at false l0 nl xss ⟨h1, by omega⟩
    have hcl := mClone_at false l0 (by omega)
    cases o with
    | none =>
      simp only [pickP] at htake
      simp (config := {contextual := true}) [List.range, List.range.loop, ints, intss, int, bool, row, frac, fracs, ← List.map_take, ← List.map_drop, List.all, tyFI, rngF_normal, bestV, mostV, hpc, hcl, htake]
      done
    | some b =>
      have hb := hbm b rfl
      have hcm := mCmL_at false [(prA xss l0).1, (prA xss l0).2] false [(prA xss b).1, (prA xss b).2] rfl
      have hgt := cmL_pair (a := (prA xss l0).1) (b := (prA xss l0).2) (c := (prA xss b).1) (d := (prA xss b).2)
      simp only [List.map_cons, List.map_nil, int] at hcm
      simp only [pickP] at htake
      by_cases hlt : prGt (prA xss l0) (prA xss b) = true
      · rw [if_pos hlt] at htake
        have hc := hgt.2 hlt
        simp (config := {contextual := true}) [List.range, List.range.loop, ints, intss, int, bool, row, frac, fracs, ← List.map_take, ← List.map_drop, List.all, tyFI, rngF_normal, bestV, mostV, hpc, hcl, hcm, hc, htake]
        done
      · rw [if_neg hlt] at htake
        have hc : ¬ 0 < cmL [(prA xss l0).1, (prA xss l0).2] [(prA xss b).1, (prA xss b).2] := fun h => hlt (hgt.1 h)
        simp (config := {contextual := true}) [List.range, List.range.loop, ints, intss, int, bool, row, frac, fracs, ← List.map_take, ← List.map_drop, List.all, tyFI, rngF_normal, bestV, mostV, hpc, hcl, hcm, hc, htake]
        done
  · simp only [List.length_map]
    have e : (allocs xss).take (allL 0 ((xss.length : Int) - 1) (wid xss)).length = allocs xss := List.take_length
    rw [e]
    generalize bestP xss (allocs xss) = o
    cases o <;> simp (config := {contextual := true}) [List.range, List.range.loop, ints, intss, int, bool, row, frac, fracs, ← List.map_take, ← List.map_drop, List.all, bestV, mostV]

end Go.Proofs.YtakladjlnkojjaaDoor.Ax
