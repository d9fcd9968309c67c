/-
  Contracts: BestAward, BestWorth, WorthWithout (both programs). No condition.
-/
import Derived.Test.YtkfgmpmeipilnaaCG8
import Derived.Test.YtkfgmpmeipilnaaCG2
import Derived.Test.YtkfgmpmeipilnaaCG1
import Derived.Test.YtkfgmpmeipilnaaCG3
namespace Go.Proofs.Ytkfgmpmeipilnaa.Ax
open Go Go.RowKit
set_option linter.unusedSimpArgs false

/-- The first best award in which the bidder wo gets nothing. -/
noncomputable def bestA (xss : List (Bool × List Int)) (wo : Int) : List Int := (bs xss wo xss.length []).getD []

theorem lb_nil {xss : List (Bool × List Int)} {wo : Int} (h : rectB xss 4 4 1000 = true) (hw : -1 ≤ wo) : LB xss [] wo xss.length := ⟨h, hw, by simp, okP_nil, by simp⟩
theorem bestA_eq {xss : List (Bool × List Int)} {wo : Int} (h : rectB xss 4 4 1000 = true) (hw : -1 ≤ wo) : bestO (wAw xss) (okP wo) (allL (-1) ((wid xss : Int) - 1) xss.length) = some (bestA xss wo) := by
  have h1 := bs_eq (lb_nil h hw)
  obtain ⟨l, hl⟩ := bs_some (xss := xss) (wo := wo) xss.length []
  have h2 : bestA xss wo = l := by unfold bestA; rw [hl]; rfl
  rw [h2, ← hl, h1]; simp
theorem bestA_mem {xss : List (Bool × List Int)} {wo : Int} (h : rectB xss 4 4 1000 = true) (hw : -1 ≤ wo) : (bestA xss wo).length = xss.length ∧ (∀ x ∈ bestA xss wo, -1 ≤ x ∧ x ≤ (wid xss : Int) - 1) ∧ okP wo (bestA xss wo) = true := by
  obtain ⟨l, hl⟩ := bs_some (xss := xss) (wo := wo) xss.length []
  have h2 : bestA xss wo = l := by unfold bestA; rw [hl]; rfl
  rw [h2]
  exact bs_mem (lb_nil h hw) hl
theorem bestA_award {xss : List (Bool × List Int)} {wo : Int} (h : rectB xss 4 4 1000 = true) (hw : -1 ≤ wo) : awardB xss (bestA xss wo) = true := by
  obtain ⟨h1, h2, h3⟩ := bestA_mem h hw
  simp only [okP, Bool.and_eq_true] at h3
  simp only [awardB, Bool.and_eq_true, decide_eq_true_eq, h, h1, h3.1, true_and, and_true]
  unfold allIn
  rw [List.all_eq_true]
  intro x hx
  simpa [inR] using h2 x hx
theorem bestA_pre {xss : List (Bool × List Int)} {wo : Int} (h : rectB xss 4 4 1000 = true) (hw : -1 ≤ wo) : (bestA xss wo).length ≤ xss.length ∧ ∀ i, i < (bestA xss wo).length → (bestA xss wo).getD i 0 < ((xss.getD i (true, [])).2.length : Int) := awW_pre (bestA_award h hw)

noncomputable def mBestS : List AV → Option (List Nat × AV) := mkV (fun p => rectB p.2.1 4 4 1000 = true ∧ -1 ≤ p.2.2) (fun (p : Bool × List (Bool × List Int) × Int) => [intss p.1 p.2.1, ints false [], int p.2.2]) [1] (fun p => ints false (bestA p.2.1 p.2.2))
theorem mBestS_at (nl : Bool) (xss : List (Bool × List Int)) (wo : Int) (h : rectB xss 4 4 1000 = true ∧ -1 ≤ wo) : mBestS [.sl nl 1 (xss.map row), .sl false 1 [], .v (.int .i64 wo)] = some ([1], .sl false 1 ((bestA xss wo).map int)) :=
  mkV_eq (enc := fun (p : Bool × List (Bool × List Int) × Int) => [intss p.1 p.2.1, ints false [], int p.2.2]) (x := (nl, xss, wo)) (by rintro ⟨a, b, c⟩ ⟨d, e, f⟩ h; simp [intss, ints, int, map_row_inj] at h; simp [h]) h

noncomputable def bA (xss : List (Bool × List Int)) : List Int := if rectB xss 4 4 1000 = true then bestA xss (-1) else []
theorem bA_yes {xss : List (Bool × List Int)} (h : rectB xss 4 4 1000 = true) : bA xss = bestA xss (-1) := if_pos h
theorem bA_no {xss : List (Bool × List Int)} (h : rectB xss 4 4 1000 = false) : bA xss = [] := if_neg (by simp [h])

noncomputable def mBestAward : List AV → Option AV := mk (fun _ => True) (fun (p : (Bool) × (List (Bool × List Int))) => [intss p.1 p.2]) (fun p => .sl (!rectB p.2 4 4 1000) 1 ((bA p.2).map int))
theorem mBestAward_at (nl : Bool) (xss : List (Bool × List Int)) : mBestAward [.sl nl 1 (xss.map row)] = some (.sl (!rectB xss 4 4 1000) 1 ((bA xss).map int)) :=
  mk_eq (enc := fun (p : (Bool) × (List (Bool × List Int))) => [intss p.1 p.2]) (x := (nl, xss)) (by rintro ⟨a0, a1⟩ ⟨b0, b1⟩ h; simp [ints, intss, int, bool, row, frac, fracs, map_int_inj, map_row_inj, frac_inj, map_frac_inj] at h; simp [h]) trivial

noncomputable def mBestWorth : List AV → Option AV := mk (fun _ => True) (fun (p : (Bool) × (List (Bool × List Int))) => [intss p.1 p.2]) (fun p => int (if rectB p.2 4 4 1000 = true then awTo p.2 (bestA p.2 (-1)) (bestA p.2 (-1)).length else -1))
theorem mBestWorth_at (nl : Bool) (xss : List (Bool × List Int)) : mBestWorth [.sl nl 1 (xss.map row)] = some (.v (.int .i64 (if rectB xss 4 4 1000 = true then awTo xss (bestA xss (-1)) (bestA xss (-1)).length else -1))) :=
  mk_eq (enc := fun (p : (Bool) × (List (Bool × List Int))) => [intss p.1 p.2]) (x := (nl, xss)) (by rintro ⟨a0, a1⟩ ⟨b0, b1⟩ h; simp [ints, intss, int, bool, row, frac, fracs, map_int_inj, map_row_inj, frac_inj, map_frac_inj] at h; simp [h]) trivial

noncomputable def wwB (xss : List (Bool × List Int)) (i : Int) : Int := if rectB xss 4 4 1000 = true ∧ 0 ≤ i ∧ i < xss.length then awTo xss (bestA xss i) (bestA xss i).length else -1

noncomputable def mWithout : List AV → Option AV := mk (fun _ => True) (fun (p : (Bool) × (List (Bool × List Int)) × (Int)) => [intss p.1 p.2.1, int p.2.2]) (fun p => int (wwB p.2.1 p.2.2))
theorem mWithout_at (nl : Bool) (xss : List (Bool × List Int)) (i : Int) : mWithout [.sl nl 1 (xss.map row), .v (.int .i64 i)] = some (.v (.int .i64 (wwB xss i))) :=
  mk_eq (enc := fun (p : (Bool) × (List (Bool × List Int)) × (Int)) => [intss p.1 p.2.1, int p.2.2]) (x := (nl, xss, i)) (by rintro ⟨a0, a1, a2⟩ ⟨b0, b1, b2⟩ h; simp [ints, intss, int, bool, row, frac, fracs, map_int_inj, map_row_inj, frac_inj, map_frac_inj] at h; simp [h]) trivial

/-- What the bidder i pays. -/
noncomputable def payI (xss : List (Bool × List Int)) (i : Nat) : Int :=
  IntKind.i64.wrap (wwB xss i - (if 0 ≤ (bestA xss (-1)).getD i 0 then IntKind.i64.wrap (awTo xss (bestA xss (-1)) (bestA xss (-1)).length - ent xss i ((bestA xss (-1)).getD i 0)) else awTo xss (bestA xss (-1)) (bestA xss (-1)).length))
noncomputable def payL (xss : List (Bool × List Int)) (k : Nat) : List Int := (List.range k).map (payI xss)
theorem payL_succ {xss : List (Bool × List Int)} {k : Nat} : payL xss (k + 1) = payL xss k ++ [payI xss k] := by simp [payL, List.range_succ]
theorem payL_len {xss : List (Bool × List Int)} {k : Nat} : (payL xss k).length = k := by simp [payL]
noncomputable def payA (xss : List (Bool × List Int)) : List Int := if rectB xss 4 4 1000 = true then payL xss xss.length else []
theorem payA_yes {xss : List (Bool × List Int)} (h : rectB xss 4 4 1000 = true) : payA xss = payL xss xss.length := if_pos h
theorem payA_no {xss : List (Bool × List Int)} (h : rectB xss 4 4 1000 = false) : payA xss = [] := if_neg (by simp [h])

noncomputable def mPayments : List AV → Option AV := mk (fun _ => True) (fun (p : (Bool) × (List (Bool × List Int))) => [intss p.1 p.2]) (fun p => .sl (!rectB p.2 4 4 1000) 1 ((payA p.2).map int))
theorem mPayments_at (nl : Bool) (xss : List (Bool × List Int)) : mPayments [.sl nl 1 (xss.map row)] = some (.sl (!rectB xss 4 4 1000) 1 ((payA xss).map int)) :=
  mk_eq (enc := fun (p : (Bool) × (List (Bool × List Int))) => [intss p.1 p.2]) (x := (nl, xss)) (by rintro ⟨a0, a1⟩ ⟨b0, b1⟩ h; simp [ints, intss, int, bool, row, frac, fracs, map_int_inj, map_row_inj, frac_inj, map_frac_inj] at h; simp [h]) trivial

def pqS (l l' : List AV) : List Tok := [⟨true, .sl false 1 l⟩, ⟨true, .sl false 1 l'⟩]
/-- The slot of what is paid so far; the rows. -/
def apP : Nat → AV
  | 0 => .sl true 1 []
  | k + 1 => .ref 1 [] 0 (k + 1)
def apQ (l l' : List AV) : Nat → List Tok
  | 0 => [⟨true, .sl false 1 l⟩]
  | _ + 1 => [⟨true, .sl false 1 l⟩, ⟨true, .sl false 1 l'⟩]

noncomputable def bAP (xss : List (Bool × List Int)) : Bool × List Int := (!rectB xss 4 4 1000, bA xss)
theorem bAP_at (nl : Bool) (xss : List (Bool × List Int)) : mBestAward [.sl nl 1 (xss.map row)] = some (.sl (bAP xss).1 1 ((bAP xss).2.map int)) := mBestAward_at nl xss
theorem bA_len {xss : List (Bool × List Int)} : (bA xss).length ≤ 4 := by
  cases h : rectB xss 4 4 1000 with
  | false => rw [bA_no h]; simp
  | true => rw [bA_yes h, (bestA_mem h (by omega)).1]; have := rect_len h; omega
theorem bAP_len {xss : List (Bool × List Int)} : (bAP xss).2.length ≤ 2 ^ 40 := by have := bA_len (xss := xss); simp only [bAP]; omega
noncomputable def payP (xss : List (Bool × List Int)) : Bool × List Int := (!rectB xss 4 4 1000, payA xss)
theorem payP_at (nl : Bool) (xss : List (Bool × List Int)) : mPayments [.sl nl 1 (xss.map row)] = some (.sl (payP xss).1 1 ((payP xss).2.map int)) := mPayments_at nl xss
theorem payA_len {xss : List (Bool × List Int)} : (payA xss).length ≤ 4 := by
  cases h : rectB xss 4 4 1000 with
  | false => rw [payA_no h]; simp
  | true => rw [payA_yes h, payL_len]; have := rect_len h; omega
theorem payP_len {xss : List (Bool × List Int)} : (payP xss).2.length ≤ 2 ^ 40 := by have := payA_len (xss := xss); simp only [payP]; omega

end Go.Proofs.Ytkfgmpmeipilnaa.Ax

/-
  Contracts: copies of rows, GainWith, ThingPrices (both programs). No condition.
-/
namespace Go.Proofs.Ytkfgmpmeipilnaa.Ax
open Go Go.RowKit
set_option linter.unusedSimpArgs false

/-- No row is nil by its mark. -/
def plain (xss : List (Bool × List Int)) : Prop := ∀ r ∈ xss, r.1 = false
theorem own_plain {xss : List (Bool × List Int)} : plain (own xss) := by
  intro r hr
  simp only [own, List.mem_map] at hr
  obtain ⟨p, _, rfl⟩ := hr; rfl

/-- The slot of the rows so far; the row. -/
def apC : Nat → AV
  | 0 => .sl true 1 []
  | k + 1 => .ref 0 [] 0 (k + 1)
def apD (l : List AV) : Nat → List Tok
  | 0 => []
  | _ + 1 => [⟨true, .sl false 1 l⟩]
def apE (l : List AV) : List Tok := [⟨true, .sl false 1 l⟩]

theorem take_row {xss : List (Bool × List Int)} (hp : plain xss) {k : Nat} (h : k < xss.length) : (xss.take k).map row ++ [.sl false 1 (xss[k].2.map int)] = (xss.take (k + 1)).map row := by
  rw [List.take_succ_eq_append_getElem h, List.map_append]
  have : xss[k].1 = false := hp _ (List.getElem_mem h)
  simp [row, this]

noncomputable def mCopyR : List AV → Option AV := mk (fun p => rectB p.2 4 4 1000 = true ∧ plain p.2) (fun (p : (Bool) × (List (Bool × List Int))) => [intss p.1 p.2]) (fun p => intss false p.2)
theorem mCopyR_at (nl : Bool) (xss : List (Bool × List Int)) (hpre : rectB xss 4 4 1000 = true ∧ plain xss) : mCopyR [.sl nl 1 (xss.map row)] = some (intss false xss) :=
  mk_eq (enc := fun (p : (Bool) × (List (Bool × List Int))) => [intss p.1 p.2]) (x := (nl, xss)) (by rintro ⟨a0, a1⟩ ⟨b0, b1⟩ h; simp [ints, intss, int, bool, row, frac, fracs, map_int_inj, map_row_inj, frac_inj, map_frac_inj] at h; simp [h]) hpre

/-- With other bids of one bidder. -/
def told (xss : List (Bool × List Int)) (i : Int) (nb : Bool) (bids : List Int) : List (Bool × List Int) := xss.set i.toNat (nb, bids)
theorem told_row {xss : List (Bool × List Int)} {i : Int} {nb : Bool} {bids : List Int} : (xss.map row).set i.toNat (.sl nb 1 (bids.map int)) = (told xss i nb bids).map row := by
  unfold told; rw [List.map_set]; rfl
theorem told_len {xss : List (Bool × List Int)} {i : Int} {nb : Bool} {bids : List Int} : (told xss i nb bids).length = xss.length := by simp [told]
theorem told_wid {xss : List (Bool × List Int)} {i : Int} {nb : Bool} {bids : List Int} (h0 : 0 < xss.length) (h : bids.length = wid xss) : wid (told xss i nb bids) = wid xss := by
  cases xss with
  | nil => simp at h0
  | cons r l =>
    unfold told
    cases i.toNat with
    | zero => simpa [wid] using h
    | succ j => simp [wid]

noncomputable def gainV (xss : List (Bool × List Int)) (i : Int) (T : List (Bool × List Int)) : Int :=
  if 0 ≤ (bA T).getD i.toNat 0 then IntKind.i64.wrap (IntKind.i64.wrap (0 - (payA T).getD i.toNat 0) + ent xss i.toNat ((bA T).getD i.toNat 0)) else IntKind.i64.wrap (0 - (payA T).getD i.toNat 0)
noncomputable def gainB (xss : List (Bool × List Int)) (i : Int) (nb : Bool) (bids : List Int) : Bool := rectB xss 4 4 1000 && decide (0 ≤ i) && decide (i < xss.length) && decide (bids.length = wid xss) && rectB (told xss i nb bids) 4 4 1000
noncomputable def gainI (xss : List (Bool × List Int)) (i : Int) (nb : Bool) (bids : List Int) : Int := if gainB xss i nb bids = true then gainV xss i (told xss i nb bids) else 0

noncomputable def mGainW : List AV → Option AV := mk (fun p => plain p.2.1) (fun (p : Bool × List (Bool × List Int) × Int × Bool × List Int) => [intss p.1 p.2.1, int p.2.2.1, ints p.2.2.2.1 p.2.2.2.2]) (fun p => .tup [int (gainI p.2.1 p.2.2.1 p.2.2.2.1 p.2.2.2.2), bool (gainB p.2.1 p.2.2.1 p.2.2.2.1 p.2.2.2.2)])
theorem mGainW_at (nl : Bool) (xss : List (Bool × List Int)) (i : Int) (nb : Bool) (bids : List Int) (h : plain xss) : mGainW [.sl nl 1 (xss.map row), .v (.int .i64 i), .sl nb 1 (bids.map int)] = some (.tup [.v (.int .i64 (gainI xss i nb bids)), .v (.bool (gainB xss i nb bids))]) :=
  mk_eq (enc := fun (p : Bool × List (Bool × List Int) × Int × Bool × List Int) => [intss p.1 p.2.1, int p.2.2.1, ints p.2.2.2.1 p.2.2.2.2]) (x := (nl, xss, i, nb, bids)) (by rintro ⟨a, b, c, d, e⟩ ⟨f, g, h, i, j⟩ hh; simp [intss, ints, int, map_row_inj, map_int_inj] at hh; simp [hh]) h

/-- The prices behind the first k bidders. -/
def prTo (w : Nat) (aw pay : List Int) : Nat → List Int
  | 0 => List.replicate w 0
  | k + 1 => if 0 ≤ aw.getD k 0 then (prTo w aw pay k).set (aw.getD k 0).toNat (pay.getD k 0) else prTo w aw pay k
theorem prTo_len {w : Nat} {aw pay : List Int} : ∀ {k : Nat}, (prTo w aw pay k).length = w
  | 0 => by simp [prTo]
  | k + 1 => by simp only [prTo]; split <;> simp [prTo_len]
noncomputable def prA (xss : List (Bool × List Int)) : List Int := if rectB xss 4 4 1000 = true then prTo (wid xss) (bA xss) (payA xss) xss.length else []

noncomputable def mPrices : List AV → Option AV := mk (fun _ => True) (fun (p : (Bool) × (List (Bool × List Int))) => [intss p.1 p.2]) (fun p => .sl (!rectB p.2 4 4 1000) 1 ((prA p.2).map int))
theorem mPrices_at (nl : Bool) (xss : List (Bool × List Int)) : mPrices [.sl nl 1 (xss.map row)] = some (.sl (!rectB xss 4 4 1000) 1 ((prA xss).map int)) :=
  mk_eq (enc := fun (p : (Bool) × (List (Bool × List Int))) => [intss p.1 p.2]) (x := (nl, xss)) (by rintro ⟨a0, a1⟩ ⟨b0, b1⟩ h; simp [ints, intss, int, bool, row, frac, fracs, map_int_inj, map_row_inj, frac_inj, map_frac_inj] at h; simp [h]) trivial

noncomputable def prP (xss : List (Bool × List Int)) : Bool × List Int := (!rectB xss 4 4 1000, prA xss)
theorem prP_at (nl : Bool) (xss : List (Bool × List Int)) : mPrices [.sl nl 1 (xss.map row)] = some (.sl (prP xss).1 1 ((prP xss).2.map int)) := mPrices_at nl xss
theorem prP_len {xss : List (Bool × List Int)} : (prP xss).2.length ≤ 2 ^ 40 := by
  simp only [prP, prA]
  cases h : rectB xss 4 4 1000 with
  | false => simp
  | true => simp only [if_true, prTo_len]; have := rect_len h; omega

end Go.Proofs.Ytkfgmpmeipilnaa.Ax

/-
  Contracts: slices.Repeat of one fraction, a table of zeros (the reference). No condition.
-/
namespace Go.Proofs.Ytkfgmpmeipilnaa.Ax
open Go Go.RowKit
set_option linter.unusedSimpArgs false

def repF (x : Int × Int) (n m : Nat) : List AV := List.replicate m (frac x) ++ List.replicate (n - m) (frac (0, 0))
theorem repF_len {x : Int × Int} {n m : Nat} (h : m ≤ n) : (repF x n m).length = n := by simp [repF]; omega
theorem repF_scal {x : Int × Int} {n m : Nat} : allS (repF x n m) = true := by
  rw [allS, List.all_eq_true]
  intro e he
  simp only [repF, List.mem_append, List.mem_replicate] at he
  rcases he with ⟨_, rfl⟩ | ⟨_, rfl⟩ <;> rfl
theorem repF_step {x : Int × Int} {n m k : Nat} (hk : k ≤ m) : (repF x n m).take m ++ (viewEs (repF x n m) 0 m).take k ++ (repF x n m).drop (m + k) = repF x n (m + k) := by
  have e1 : (repF x n m).take m = List.replicate m (frac x) := by simp [repF]
  have e2 : viewEs (repF x n m) 0 m = List.replicate m (frac x) := by simp [viewEs, e1]
  have e3 : (repF x n m).drop (m + k) = List.replicate (n - (m + k)) (frac (0, 0)) := by
    simp [repF, List.drop_append]; omega
  rw [e1, e2, e3, List.take_replicate, Nat.min_eq_left hk]
  simp [repF, List.replicate_append_replicate]

noncomputable def mRepeatF : List AV → Option AV := mk (fun p => p.2.2 ≤ 1000) (fun (p : Bool × (Int × Int) × Nat) => [fracs p.1 [p.2.1], int (p.2.2 : Int)]) (fun p => fracs false (List.replicate p.2.2 p.2.1))
theorem mRepeatF_at (nl : Bool) (x : Int × Int) (n : Nat) (h : n ≤ 1000) : mRepeatF [.sl nl 2 [.agg [.v (.int .i64 x.1), .v (.int .i64 x.2)]], .v (.int .i64 (n : Int))] = some (.sl false 2 ((List.replicate n x).map frac)) :=
  mk_eq (enc := fun (p : Bool × (Int × Int) × Nat) => [fracs p.1 [p.2.1], int (p.2.2 : Int)]) (x := (nl, x, n)) (by
    rintro ⟨a, b, c⟩ ⟨d, e, f⟩ h
    simp [fracs, int, frac_inj] at h
    obtain ⟨⟨_, rfl⟩, h⟩ := h
    simp only
    rw [show c = f by omega]) h

set_option maxHeartbeats 2000000 in
theorem repeatF_ok : FnOk Try.prog 103 mRepeatF := by
  refine mk_ok fun ⟨nl, x, n⟩ hn => ?_
  simp only at hn
  have hG : FnsOk Try.prog [(139, mMul)] := (.cons mul_ok .nil)
  refine callOk_awp (ctx_ok eqOk hG) mixed (live := [true, true, false, false, true, true, true, true, true, false, true, false, false, false, false, false, false, false, false, false, false, false, false, false, false, false, true, false, false, false, false, false, false, false, false, false, false, true]) (dt := [(9, ⟨[], [], []⟩)]) Try.func103 rfl (by kernel_rfl) (by kernel_rfl) fun w0 hlens => ?_
  clear hlens
  have hw1 : IntKind.u64.wrap (n : Int) = (n : Int) := by rw [IntKind.wrap_u64]; omega
  have hw0 : IntKind.u64.wrap 1 = 1 := by decide
  have hn0 : ¬ ((n : Int) < 0) := by omega
  have hn1 : ¬ ((9223372036854775807 : Int) < (n : Int)) := by omega
  have hb : 16 * n ≤ 281474976710656 := by omega
  have hb2 : n ≤ 4611686018427387904 := by omega
  have hw2 : IntKind.i64.wrap (n : Int) = (n : Int) := wrapI (by omega) (by omega)
  have hd : (1 * n / 18446744073709551616) = 0 := by omega
  have he : (1 * n % 18446744073709551616) = n := by omega
  have hm : mMul [.v (.int .u64 1), .v (.int .u64 (n : Int))] = some (.tup [.v (.int .u64 0), .v (.int .u64 (n : Int))]) := by
    have := mMul_at 1 n (by omega)
    rw [hd, he] at this; exact this
  have h0e : AV.agg [.v (.int .i64 0), .v (.int .i64 0)] = frac (0, 0) := rfl
  have hsx : allS [AV.agg [.v (.int .i64 x.1), .v (.int .i64 x.2)]] = true := rfl
  have hs0 : allS (List.replicate n (AV.agg [.v (.int .i64 0), .v (.int .i64 0)])) = true := by
    rw [allS, List.all_eq_true]
    intro e he
    rw [(List.mem_replicate.1 he).2]; rfl
  simp (config := {contextual := true}) [Try.f103, List.range, List.range.loop, ints, intss, int, bool, row, frac, fracs, ← List.map_take, ← List.map_drop, hw0, hw1, hw2, hn0, hn1, hb, hb2, hm, hn, hsx, hs0]
  refine awp_loop_of (live := [true, true, false, false, true, true, true, true, true, false, true, false, false, false, false, false, false, false, false, false, false, false, false, false, false, false, true, false, false, false, false, false, false, false, false, false, false, true]) (ctx_ok eqOk hG) mixed [false, false, false, false, false, false, false, true, true] (α := {m : Nat // m ≤ n ∧ (0 < n → 0 < m)}) (fun m => ⟨[.junk, .junk, .junk, .junk, .junk, .junk, .junk, .ref 0 [] 0 n, int (m.1 : Int), .junk, .junk, .junk, .junk, .junk, .junk, .junk, .junk, .junk, .junk, .junk, .junk, .junk, .junk, .junk, .junk, .junk, .junk, .junk, .junk, .junk, .junk, .junk, .junk, .junk, .junk, .junk, .junk, .junk, .junk, .junk, .junk, .junk, .junk, .junk, .junk, .junk, .junk, .junk], [⟨true, .sl false 2 (repF x n m.1)⟩]⟩) (fun m => n - m.1) ⟨min 1 n, by omega⟩ (by simp [sub, slotsLe, clean, keep, refsL, refs, once, place, renL, ren, List.replicate, int, bool, repF, rep1, frac]) ?_
  rintro ⟨m, hmn, hm0⟩
  have hl := repF_len (x := x) hmn
  have hsc := repF_scal (x := x) (n := n) (m := m)
  have hst := repF_step (x := x) (n := n) (m := m) (k := min m (n - m)) (by omega)
  have hsc2 := allS_take (n := m) hsc
  simp only [viewEs, List.drop_zero, List.append_assoc] at hst
  have hwm : IntKind.i64.wrap ((m : Int) + ((min m (n - m) : Nat) : Int)) = ((m + min m (n - m) : Nat) : Int) := by rw [wrapI (by omega) (by omega)]; omega
  simp (config := {contextual := true}) [List.range, List.range.loop, ints, intss, int, bool, row, frac, fracs, ← List.map_take, ← List.map_drop, hl, hsc, hsc2, hmn]
  refine ⟨fun hlt => ⟨⟨m + min m (n - m), by omega⟩, ?_, ?_⟩, fun hle => ?_⟩
  · simp only [hst, hwm]
    simp [sub, slotsLe, clean, keep, refsL, refs, once, place, renL, ren, List.replicate, int, bool]
  · have := hm0 (by omega)
    simp only []
    omega
  · have : m = n := by omega
    subst this
    simp [repF, frac]

noncomputable def mZeroT : List AV → Option AV := mk (fun p => 0 ≤ p ∧ p ≤ 1000) (fun (p : (Int)) => [int p]) (fun p => .sl false 1 ((List.replicate p.toNat ((false, List.replicate p.toNat (0, 1)) : Bool × List (Int × Int))).map frow))
theorem mZeroT_at (n : Int) (hpre : 0 ≤ n ∧ n ≤ 1000) : mZeroT [.v (.int .i64 n)] = some (.sl false 1 ((List.replicate n.toNat ((false, List.replicate n.toNat (0, 1)) : Bool × List (Int × Int))).map frow)) :=
  mk_eq (enc := fun (p : (Int)) => [int p]) (x := (n)) (by rintro a0 b0 h; simp [ints, intss, int, bool, row, frac, fracs, map_int_inj, map_row_inj, frac_inj, map_frac_inj] at h; simp [h]) hpre
set_option maxHeartbeats 2000000 in
theorem l29Empty_ok : FnOk Try.prog 44 mZeroT := by
  refine mk_ok fun n ⟨h0, h1⟩ => ?_
  obtain ⟨m, rfl⟩ : ∃ m : Nat, n = m := ⟨n.toNat, by omega⟩
  simp only [Int.toNat_natCast]
  have hG : FnsOk Try.prog [] := .nil
  refine callOk_awp (ctx_ok eqOk hG) mixed (live := [true, false, true, true, true, true, true, false, false, false, true, false, false, false, false, false, true]) (dt := []) Try.func44 rfl (by kernel_rfl) (by kernel_rfl) fun w0 hlens => ?_
  clear hlens
  simp (config := {contextual := true}) [Try.f44, List.range, List.range.loop, ints, intss, int, bool, row, frac, fracs, ← List.map_take, ← List.map_drop]
  refine awp_range (live := [true, false, true, true, true, true, true, false, false, false, true, false, false, false, false, false, true]) (ctx_ok eqOk hG) mixed [true, false, false, true, true] (m) (fun k => True) (fun k => ⟨[int (m : Int), .junk, .junk, .ref 0 [] 0 k, int k, .junk, .junk, .junk, .junk, .junk, .junk, .junk, .junk, .junk, .junk, .junk, .junk, .junk, .junk, .junk, .junk, .junk, .junk, .junk, .junk, .junk, .junk, .junk], [⟨true, .sl false 1 ((List.replicate k ((false, List.replicate m (0, 1)) : Bool × List (Int × Int))).map frow)⟩]⟩) ?_ (by simp [sub, slotsLe, clean, keep, refsL, refs, once, place, renL, ren, List.replicate, int, bool]) ?_ ?_ ?_
  · omega
  · trivial
  · intro k hk _ hwk
    have hb : k + 1 ≤ 4611686018427387904 ∧ (k + 1) * 24 ≤ 140737488355328 ∧ (k + 1) * 16 ≤ 140737488355328 ∧ (k + 1) * 8 ≤ 140737488355328 := by omega
    simp (config := {contextual := true}) [List.range, List.range.loop, ints, intss, int, bool, row, frac, fracs, ← List.map_take, ← List.map_drop, hk]
    refine awp_range (live := [true, false, true, true, true, true, true, false, false, false, true, false, false, false, false, false, true]) (ctx_ok eqOk hG) mixed [true, false, false, true, true, true, true] (m) (fun j => True) (fun j => ⟨[int (m : Int), .junk, .junk, .ref 0 [] 0 k, int k, .ref 1 [] 0 j, int j, .junk, .junk, .junk, .junk, .junk, .junk, .junk, .junk, .junk, .junk, .junk, .junk, .junk, .junk, .junk, .junk, .junk, .junk, .junk, .junk, .junk], [⟨true, .sl false 1 ((List.replicate k ((false, List.replicate m (0, 1)) : Bool × List (Int × Int))).map frow)⟩, ⟨true, .sl false 2 ((List.replicate j ((0, 1) : Int × Int)).map frac)⟩]⟩) ?_ (by simp [sub, slotsLe, clean, keep, refsL, refs, once, place, renL, ren, List.replicate, int, bool]) ?_ ?_ ?_
    · omega
    · trivial
    · intro j hj _ hwj
      have hb : j + 1 ≤ 4611686018427387904 ∧ (j + 1) * 24 ≤ 140737488355328 ∧ (j + 1) * 16 ≤ 140737488355328 ∧ (j + 1) * 8 ≤ 140737488355328 := by omega
      simp (config := {contextual := true}) [List.range, List.range.loop, ints, intss, int, bool, row, frac, fracs, ← List.map_take, ← List.map_drop, hj, hwj, hb, List.replicate_succ']
      done
    · intro _
      simp (config := {contextual := true}) [List.range, List.range.loop, ints, intss, int, bool, row, frac, fracs, ← List.map_take, ← List.map_drop, hwk, hb, List.replicate_succ', frow]
      done
  · intro _
    simp (config := {contextual := true}) [List.range, List.range.loop, ints, intss, int, bool, row, frac, fracs, ← List.map_take, ← List.map_drop, frow]
    done

end Go.Proofs.Ytkfgmpmeipilnaa.Ax

/-
  The plain side of MixOf: what the tickets come to. Plain Lean, no program in sight.
-/
namespace Go.Proofs.Ytkfgmpmeipilnaa.Ax
open Go Go.RowKit
set_option linter.unusedSimpArgs false

theorem sumTo_pre {fs gs : List (Int × Int)} : ∀ {k : Nat}, k ≤ fs.length → sumTo (fs ++ gs) k = sumTo fs k
  | 0, _ => rfl
  | k + 1, hk => by
    have hk' : k < fs.length := by omega
    rw [sumTo, sumTo, sumTo_pre (k := k) (by omega)]
    simp [List.getD_eq_getElem?_getD, List.getElem?_append_left hk']
theorem sumF_snoc {fs : List (Int × Int)} {w : Int × Int} (h : fs.length < 100) : sumF (fs ++ [w]) = if (sumF fs).2 = true then addF (sumF fs).1 w else ((0, 0), false) := by
  have e1 : sumF fs = sumTo fs fs.length := by unfold sumF; rw [if_neg (by omega)]
  have e2 : sumF (fs ++ [w]) = sumTo (fs ++ [w]) (fs.length + 1) := by unfold sumF; rw [if_neg (by simp; omega)]; simp
  rw [e1, e2, sumTo, sumTo_pre (Nat.le_refl _)]
  simp [List.getD_eq_getElem?_getD]
theorem sumF_nil : sumF [] = ((0, 1), true) := by simp [sumF, sumTo]
theorem sumF_bad {fs gs : List (Int × Int)} (hl : (fs ++ gs).length ≤ 100) (h : (sumF fs).2 = false) : sumF (fs ++ gs) = ((0, 0), false) := by
  have hlf : fs.length ≤ 100 := by rw [List.length_append] at hl; omega
  unfold sumF at h ⊢
  rw [if_neg (by omega)] at h
  rw [if_neg (by omega)]
  have hpos : 0 < fs.length := by
    rcases Nat.eq_zero_or_pos fs.length with e | e
    · rw [e] at h; simp [sumTo] at h
    · exact e
  refine sumTo_bad (k := fs.length) hpos ?_ (by rw [List.length_append]; omega)
  rw [sumTo_pre (Nat.le_refl _)]; exact h

/-- A ticket: its weight, its list. -/
abbrev Tk := (Int × Int) × Bool × List Int
def tick (t : Tk) : AV := .agg [.v (.int .i64 t.1.1), .v (.int .i64 t.1.2), .sl t.2.1 1 (t.2.2.map int)]
def tks (nl : Bool) (ts : List Tk) : AV := .sl nl 3 (ts.map tick)
theorem tick_inj {a b : Tk} (h : tick a = tick b) : a = b := by
  obtain ⟨⟨a1, a2⟩, a3, a4⟩ := a
  obtain ⟨⟨b1, b2⟩, b3, b4⟩ := b
  simp [tick, map_int_inj] at h
  obtain ⟨rfl, rfl, rfl, rfl⟩ := h
  rfl
theorem map_tick_inj {a b : List Tk} : a.map tick = b.map tick ↔ a = b := List.map_inj_right fun _ _ h => tick_inj h

def tkB (n : Int) (t : Tk) : Bool := rankB n t.2.2 && (fracOk t.1 && decide (0 ≤ t.1.1))
/-- The weights of those of the first k tickets that give house x to person i. -/
def ws (ts : List Tk) (i : Nat) (x : Int) (k : Nat) : List (Int × Int) := ((ts.take k).filter fun t => decide (at0 t.2.2 i = x)).map (·.1)
theorem ws_zero {ts : List Tk} {i : Nat} {x : Int} : ws ts i x 0 = [] := by simp [ws]
theorem ws_yes {ts : List Tk} {i : Nat} {x : Int} {k : Nat} (hk : k < ts.length) (h : at0 ts[k].2.2 i = x) : ws ts i x (k + 1) = ws ts i x k ++ [ts[k].1] := by
  unfold ws
  rw [List.take_succ_eq_append_getElem hk, List.filter_append, List.map_append, List.filter_cons, if_pos (decide_eq_true h)]
  rfl
theorem ws_no {ts : List Tk} {i : Nat} {x : Int} {k : Nat} (hk : k < ts.length) (h : at0 ts[k].2.2 i ≠ x) : ws ts i x (k + 1) = ws ts i x k := by
  unfold ws
  rw [List.take_succ_eq_append_getElem hk, List.filter_append, List.map_append, List.filter_cons, if_neg (by simpa using h)]
  simp
theorem ws_len {ts : List Tk} {i : Nat} {x : Int} {k : Nat} : (ws ts i x k).length ≤ k := by
  unfold ws
  rw [List.length_map]
  exact Nat.le_trans (List.length_filter_le _ _) (by rw [List.length_take]; omega)
theorem ws_split {ts : List Tk} {i : Nat} {x : Int} {k m : Nat} (h : k ≤ m) : ∃ r, ws ts i x m = ws ts i x k ++ r := by
  obtain ⟨d, rfl⟩ : ∃ d, m = k + d := ⟨m - k, by omega⟩
  refine ⟨(((ts.drop k).take d).filter fun t => decide (at0 t.2.2 i = x)).map (·.1), ?_⟩
  unfold ws
  rw [List.take_add, List.filter_append, List.map_append]

def cel (ts : List Tk) (k : Nat) (i x : Nat) : (Int × Int) × Bool := sumF (ws ts i x k)
theorem cel_bad {ts : List Tk} {k m i x : Nat} (h : (cel ts k i x).2 = false) (hk : k ≤ m) (hm : m ≤ 100) : cel ts m i x = ((0, 0), false) := by
  obtain ⟨r, hr⟩ := ws_split (ts := ts) (i := i) (x := (x : Int)) hk
  unfold cel at h ⊢
  rw [hr]
  exact sumF_bad (by rw [← hr]; exact Nat.le_trans ws_len hm) h
theorem cel_yes {ts : List Tk} {i x k : Nat} (hk : k < ts.length) (hl : k < 100) (h : at0 ts[k].2.2 i = x) (hc : (cel ts k i x).2 = true) : cel ts (k + 1) i x = addF (cel ts k i x).1 ts[k].1 := by
  unfold cel at hc ⊢
  rw [ws_yes hk h, sumF_snoc (by have := ws_len (ts := ts) (i := i) (x := (x : Int)) (k := k); omega), if_pos hc]
theorem cel_no {ts : List Tk} {i x k : Nat} (hk : k < ts.length) (h : at0 ts[k].2.2 i ≠ x) : cel ts (k + 1) i x = cel ts k i x := by
  unfold cel; rw [ws_no hk h]
theorem cel_zero {ts : List Tk} {i x : Nat} : cel ts 0 i x = ((0, 1), true) := by unfold cel; rw [ws_zero, sumF_nil]

/-- A row, and the table, when k tickets, and the k-th one up to j, have been told. -/
def kk (k j i : Nat) : Nat := if i < j then k + 1 else k
def rowK (ts : List Tk) (n k j i : Nat) : List (Int × Int) := (List.range n).map fun x => (cel ts (kk k j i) i x).1
def mixK (ts : List Tk) (n k j : Nat) : List (Bool × List (Int × Int)) := (List.range n).map fun i => (false, rowK ts n k j i)
theorem rowK_len {ts : List Tk} {n k j i : Nat} : (rowK ts n k j i).length = n := by simp [rowK]
theorem mixK_len {ts : List Tk} {n k j : Nat} : (mixK ts n k j).length = n := by simp [mixK]
theorem rowK_get {ts : List Tk} {n k j i x : Nat} (h : x < (rowK ts n k j i).length) : (rowK ts n k j i)[x] = (cel ts (kk k j i) i x).1 := by simp [rowK]
theorem mixK_get {ts : List Tk} {n k j i : Nat} (h : i < (mixK ts n k j).length) : (mixK ts n k j)[i] = (false, rowK ts n k j i) := by simp [mixK]
theorem mixK_zero {ts : List Tk} {n : Nat} : mixK ts n 0 0 = List.replicate n (false, List.replicate n (0, 1)) := by
  apply List.ext_getElem
  · simp [mixK]
  · intro i h1 h2
    simp only [mixK, List.getElem_map, List.getElem_range, List.getElem_replicate, Prod.mk.injEq, true_and]
    apply List.ext_getElem
    · simp [rowK]
    · intro x h3 h4
      simp [rowK, kk, cel_zero]
theorem mixK_next {ts : List Tk} {n k : Nat} : mixK ts n k n = mixK ts n (k + 1) 0 := by
  apply List.ext_getElem
  · simp [mixK]
  · intro i h1 h2
    have hi : i < n := by simpa [mixK] using h1
    simp [mixK, rowK, kk, hi]
theorem rowK_set {ts : List Tk} {n k j x : Nat} {a : Int × Int} (hk : k < ts.length) (hx : at0 ts[k].2.2 j = x) (ha : a = (cel ts (k + 1) j x).1) :
    ((rowK ts n k j j).map frac).set x (.agg [.v (.int .i64 a.1), .v (.int .i64 a.2)]) = (rowK ts n k (j + 1) j).map frac := by
  have : AV.agg [.v (.int .i64 a.1), .v (.int .i64 a.2)] = frac a := rfl
  rw [this, ← List.map_set]
  congr 1
  apply List.ext_getElem
  · simp [rowK]
  · intro y h1 h2
    have hy : y < n := by simpa [rowK] using h2
    rw [List.getElem_set]
    simp only [rowK, List.getElem_map, List.getElem_range, kk, Nat.lt_irrefl, if_false, Nat.lt_succ_self, if_true]
    by_cases e : x = y
    · subst e; rw [if_pos rfl, ha]
    · rw [if_neg e, cel_no hk (by rw [hx]; omega)]
theorem mixK_set {ts : List Tk} {n k j : Nat} (_hj : j < n) : ((mixK ts n k j).map frow).set j (.sl false 2 ((rowK ts n k (j + 1) j).map frac)) = (mixK ts n k (j + 1)).map frow := by
  have : AV.sl false 2 ((rowK ts n k (j + 1) j).map frac) = frow (false, rowK ts n k (j + 1) j) := rfl
  rw [this, ← List.map_set]
  congr 1
  apply List.ext_getElem
  · simp [mixK]
  · intro i h1 h2
    rw [List.getElem_set]
    simp only [mixK, List.getElem_map, List.getElem_range]
    by_cases e : j = i
    · subst e; simp
    · rw [if_neg e]
      have : kk k (j + 1) i = kk k j i := by unfold kk; by_cases h3 : i < j <;> simp [h3] <;> omega
      simp [rowK, this]

/-- What the tickets come to. -/
def mixA (ts : List Tk) (n : Nat) : List (Bool × List (Int × Int)) := mixK ts n ts.length 0
def mixB (ts : List Tk) (n : Int) : Bool := inR 1 4 n && (inR 1 30 ts.length && (ts.all (tkB n) && lotB (mixA ts n.toNat)))
def mixT (ts : List Tk) (n : Int) : List (Bool × List (Int × Int)) := if mixB ts n = true then mixA ts n.toNat else []
theorem lot_cell {m : List (Bool × List (Int × Int))} (h : lotB m = true) {i : Nat} (hi : i < m.length) {x : Nat} (hx : x < m[i].2.length) : partB m[i].2[x] = true := by
  simp only [lotB, Bool.and_eq_true] at h
  have := allR_at h.1.2 hi
  simp only [partRow, getDF hi, Bool.and_eq_true, List.all_eq_true] at this
  exact this.2 _ (List.getElem_mem hx)
/-- A sum that is not valid is told at the end. -/
theorem mix_bad {ts : List Tk} {n k i x : Nat} (hl : ts.length ≤ 30) (hk : k ≤ ts.length) (hi : i < n) (hx : x < n) (h : (cel ts k i x).2 = false) : lotB (mixA ts n) = false := by
  cases hb : lotB (mixA ts n) with
  | false => rfl
  | true =>
    have h1 : i < (mixA ts n).length := by simpa [mixA, mixK_len] using hi
    have h2 : x < (mixA ts n)[i].2.length := by simp only [mixA, mixK_get, rowK_len]; exact hx
    have := lot_cell hb h1 h2
    simp only [mixA, mixK_get, rowK_get] at this
    rw [show kk ts.length 0 i = ts.length by simp [kk], cel_bad h hk (by omega)] at this
    simp [partB, fracOk] at this

end Go.Proofs.Ytkfgmpmeipilnaa.Ax
