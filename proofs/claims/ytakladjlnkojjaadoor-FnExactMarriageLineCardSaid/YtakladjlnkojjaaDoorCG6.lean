/-
  Contracts: copies of rows, GainWith, ThingPrices (both programs). No condition.
-/
import Derived.Test.YtakladjlnkojjaaDoorCG5
import Derived.Test.YtakladjlnkojjaaDoorCG4
import Derived.Test.YtakladjlnkojjaaDoorCG2
import Derived.Test.YtakladjlnkojjaaDoorCB1
namespace Go.Proofs.YtakladjlnkojjaaDoor.Ax
open Go Go.RowKit
set_option linter.unusedSimpArgs false

/-- No row is nil by its mark. -/
def plain (xss : List (Bool × List Int)) : Prop := ∀ r ∈ xss, r.1 = false
theorem own_plain {xss : List (Bool × List Int)} : plain (own xss) := by
  intro r hr
  simp only [own, List.mem_map] at hr
  obtain ⟨p, _, rfl⟩ := hr; rfl

/-- The slot of the rows so far; the row. -/
def apC : Nat → AV
  | 0 => .sl true 1 []
  | k + 1 => .ref 0 [] 0 (k + 1)
def apD (l : List AV) : Nat → List Tok
  | 0 => []
  | _ + 1 => [⟨true, .sl false 1 l⟩]
def apE (l : List AV) : List Tok := [⟨true, .sl false 1 l⟩]

theorem take_row {xss : List (Bool × List Int)} (hp : plain xss) {k : Nat} (h : k < xss.length) : (xss.take k).map row ++ [.sl false 1 (xss[k].2.map int)] = (xss.take (k + 1)).map row := by
  rw [List.take_succ_eq_append_getElem h, List.map_append]
  have : xss[k].1 = false := hp _ (List.getElem_mem h)
  simp [row, this]

noncomputable def mCopyR : List AV → Option AV := mk (fun p => rectB p.2 4 4 1000 = true ∧ plain p.2) (fun (p : (Bool) × (List (Bool × List Int))) => [intss p.1 p.2]) (fun p => intss false p.2)
theorem mCopyR_at (nl : Bool) (xss : List (Bool × List Int)) (hpre : rectB xss 4 4 1000 = true ∧ plain xss) : mCopyR [.sl nl 1 (xss.map row)] = some (intss false xss) :=
  mk_eq (enc := fun (p : (Bool) × (List (Bool × List Int))) => [intss p.1 p.2]) (x := (nl, xss)) (by rintro ⟨a0, a1⟩ ⟨b0, b1⟩ h; simp [ints, intss, int, bool, row, frac, fracs, map_int_inj, map_row_inj, frac_inj, map_frac_inj] at h; simp [h]) hpre

set_option maxHeartbeats 1000000 in
theorem copyRows_ok : FnOk Tryd.prog 108 mCopyR := by
  refine mk_ok fun ⟨nl, xss⟩ ⟨h, hp⟩ => ?_
  simp only at h hp
  have hG : FnsOk Tryd.prog [(98, mClone)] := (.cons clone_ok .nil)
  refine callOk_awp (ctx_ok eqOk hG) mixed (live := [true, false, true, true, false, true, true, true, true, true]) (dt := []) Tryd.func108 rfl (by kernel_rfl) (by kernel_rfl) fun w0 hlens => ?_
  clear hlens
  have hl := rect_len h
  have h0 := rect_pos h
  simp (config := {contextual := true}) [Tryd.f108, List.range, List.range.loop, ints, intss, int, bool, row, frac, fracs, ← List.map_take, ← List.map_drop]
  refine awp_range (live := [true, false, true, true, false, true, true, true, true, true]) (ctx_ok eqOk hG) mixed [false, false, false, true, false, false, true, true, true] (xss.length) (fun k => True) (fun k => ⟨[.junk, .junk, .junk, apC k, .junk, .junk, intss nl xss, int xss.length, int k, .junk, .junk, .junk, .junk, .junk, .junk, .junk, .junk, .junk, .junk], apD ((xss.take k).map row) k⟩) ?_ (by simp [sub, slotsLe, clean, keep, refsL, refs, once, place, renL, ren, List.replicate, int, bool, intss, apC, apD, apE]) ?_ ?_ ?_
  · omega
  · trivial
  · intro k hk _ hwk
    have hrow := rect_row h hk
    have hf : xss[k].1 = false := hp _ (List.getElem_mem hk)
    have hcl := mClone_at false xss[k].2 (by omega)
    have hlt : xss[k].2.length ≤ 4611686018427387904 ∧ xss[k].2.length * 8 ≤ 140737488355328 := by omega
    have hb8 : k + 1 ≤ 4611686018427387904 ∧ (k + 1) * 24 ≤ 140737488355328 := by omega
    have hw1 : IntKind.i64.wrap ((k : Int) + 1) = (k : Int) + 1 := hwk
    have htl : (xss.take k).length = k := by simp; omega
    cases k with
    | zero =>
      have hwk1 : IntKind.i64.wrap 1 = 1 := by decide
      have htr := (take_row hp hk).symm
      simp only [List.take_zero, List.map_nil, List.nil_append] at htr
      rw [Nat.zero_add] at htr
      simp (config := {contextual := true}) [List.range, List.range.loop, ints, intss, int, bool, row, frac, fracs, ← List.map_take, ← List.map_drop, apC, apD, apE, h0, hf, hcl, htr, hlt, hb8, hwk1]
    | succ k =>
      have htr := take_row hp hk
      simp (config := {contextual := true}) [List.range, List.range.loop, ints, intss, int, bool, row, frac, fracs, ← List.map_take, ← List.map_drop, apC, apD, apE, hk, hf, hcl, htr, hlt, hb8, hwk, htl]
      exact wrapI (by omega) (by omega)
  · intro _
    obtain ⟨m, hm⟩ : ∃ m, xss.length = m + 1 := ⟨xss.length - 1, by omega⟩
    have ht : xss.take (m + 1) = xss := List.take_of_length_le (by omega)
    rw [hm]
    simp (config := {contextual := true}) [List.range, List.range.loop, ints, intss, int, bool, row, frac, fracs, ← List.map_take, ← List.map_drop, apC, apD, apE, ht, hm]

set_option maxHeartbeats 1000000 in
theorem l17Copy_ok : FnOk Tryd.prog 104 mCopyR := by
  refine mk_ok fun ⟨nl, xss⟩ ⟨h, hp⟩ => ?_
  simp only at h hp
  have hG : FnsOk Tryd.prog [] := .nil
  refine callOk_awp (ctx_ok eqOk hG) mixed (live := [true, false, true, true, false, true, false, true, true, true, true]) (dt := []) Tryd.func104 rfl (by kernel_rfl) (by kernel_rfl) fun w0 hlens => ?_
  clear hlens
  have hl := rect_len h
  have h0 := rect_pos h
  simp (config := {contextual := true}) [Tryd.f104, List.range, List.range.loop, ints, intss, int, bool, row, frac, fracs, ← List.map_take, ← List.map_drop]
  refine awp_range (live := [true, false, true, true, false, true, false, true, true, true, true]) (ctx_ok eqOk hG) mixed [false, false, false, true, false, false, false, true, true, true] (xss.length) (fun k => True) (fun k => ⟨[.junk, .junk, .junk, .ref 0 [] 0 k, .junk, .junk, .junk, intss nl xss, int xss.length, int k, .junk, .junk, .junk, .junk, .junk, .junk, .junk, .junk, .junk, .junk, .junk], apE ((xss.take k).map row)⟩) ?_ (by simp [sub, slotsLe, clean, keep, refsL, refs, once, place, renL, ren, List.replicate, int, bool, intss, apC, apD, apE]) ?_ ?_ ?_
  · omega
  · trivial
  · intro k hk _ hwk
    have hrow := rect_row h hk
    have hf : xss[k].1 = false := hp _ (List.getElem_mem hk)
    have hcl := mClone_at false xss[k].2 (by omega)
    have hlt : xss[k].2.length ≤ 4611686018427387904 ∧ xss[k].2.length * 8 ≤ 140737488355328 := by omega
    have hb8 : k + 1 ≤ 4611686018427387904 ∧ (k + 1) * 24 ≤ 140737488355328 := by omega
    have hw1 : IntKind.i64.wrap ((k : Int) + 1) = (k : Int) + 1 := hwk
    have htl : (xss.take k).length = k := by simp; omega
    cases k with
    | zero =>
      have hwk1 : IntKind.i64.wrap 1 = 1 := by decide
      have htr := (take_row hp hk).symm
      simp only [List.take_zero, List.map_nil, List.nil_append] at htr
      rw [Nat.zero_add] at htr
      simp (config := {contextual := true}) [List.range, List.range.loop, ints, intss, int, bool, row, frac, fracs, ← List.map_take, ← List.map_drop, apC, apD, apE, h0, hf, hcl, htr, hlt, hb8, hwk1]
    | succ k =>
      have htr := take_row hp hk
      simp (config := {contextual := true}) [List.range, List.range.loop, ints, intss, int, bool, row, frac, fracs, ← List.map_take, ← List.map_drop, apC, apD, apE, hk, hf, hcl, htr, hlt, hb8, hwk, htl]
      exact wrapI (by omega) (by omega)
  · intro _
    obtain ⟨m, hm⟩ : ∃ m, xss.length = m + 1 := ⟨xss.length - 1, by omega⟩
    have ht : xss.take (m + 1) = xss := List.take_of_length_le (by omega)
    rw [hm]
    simp (config := {contextual := true}) [List.range, List.range.loop, ints, intss, int, bool, row, frac, fracs, ← List.map_take, ← List.map_drop, apC, apD, apE, ht, hm]

/-- With other bids of one bidder. -/
def told (xss : List (Bool × List Int)) (i : Int) (nb : Bool) (bids : List Int) : List (Bool × List Int) := xss.set i.toNat (nb, bids)
theorem told_row {xss : List (Bool × List Int)} {i : Int} {nb : Bool} {bids : List Int} : (xss.map row).set i.toNat (.sl nb 1 (bids.map int)) = (told xss i nb bids).map row := by
  unfold told; rw [List.map_set]; rfl
theorem told_len {xss : List (Bool × List Int)} {i : Int} {nb : Bool} {bids : List Int} : (told xss i nb bids).length = xss.length := by simp [told]
theorem told_wid {xss : List (Bool × List Int)} {i : Int} {nb : Bool} {bids : List Int} (h0 : 0 < xss.length) (h : bids.length = wid xss) : wid (told xss i nb bids) = wid xss := by
  cases xss with
  | nil => simp at h0
  | cons r l =>
    unfold told
    cases i.toNat with
    | zero => simpa [wid] using h
    | succ j => simp [wid]

noncomputable def gainV (xss : List (Bool × List Int)) (i : Int) (T : List (Bool × List Int)) : Int :=
  if 0 ≤ (bA T).getD i.toNat 0 then IntKind.i64.wrap (IntKind.i64.wrap (0 - (payA T).getD i.toNat 0) + ent xss i.toNat ((bA T).getD i.toNat 0)) else IntKind.i64.wrap (0 - (payA T).getD i.toNat 0)
noncomputable def gainB (xss : List (Bool × List Int)) (i : Int) (nb : Bool) (bids : List Int) : Bool := rectB xss 4 4 1000 && decide (0 ≤ i) && decide (i < xss.length) && decide (bids.length = wid xss) && rectB (told xss i nb bids) 4 4 1000
noncomputable def gainI (xss : List (Bool × List Int)) (i : Int) (nb : Bool) (bids : List Int) : Int := if gainB xss i nb bids = true then gainV xss i (told xss i nb bids) else 0

noncomputable def mGainW : List AV → Option AV := mk (fun p => plain p.2.1) (fun (p : Bool × List (Bool × List Int) × Int × Bool × List Int) => [intss p.1 p.2.1, int p.2.2.1, ints p.2.2.2.1 p.2.2.2.2]) (fun p => .tup [int (gainI p.2.1 p.2.2.1 p.2.2.2.1 p.2.2.2.2), bool (gainB p.2.1 p.2.2.1 p.2.2.2.1 p.2.2.2.2)])
theorem mGainW_at (nl : Bool) (xss : List (Bool × List Int)) (i : Int) (nb : Bool) (bids : List Int) (h : plain xss) : mGainW [.sl nl 1 (xss.map row), .v (.int .i64 i), .sl nb 1 (bids.map int)] = some (.tup [.v (.int .i64 (gainI xss i nb bids)), .v (.bool (gainB xss i nb bids))]) :=
  mk_eq (enc := fun (p : Bool × List (Bool × List Int) × Int × Bool × List Int) => [intss p.1 p.2.1, int p.2.2.1, ints p.2.2.2.1 p.2.2.2.2]) (x := (nl, xss, i, nb, bids)) (by rintro ⟨a, b, c, d, e⟩ ⟨f, g, h, i, j⟩ hh; simp [intss, ints, int, map_row_inj, map_int_inj] at hh; simp [hh]) h

/-- The prices behind the first k bidders. -/
def prTo (w : Nat) (aw pay : List Int) : Nat → List Int
  | 0 => List.replicate w 0
  | k + 1 => if 0 ≤ aw.getD k 0 then (prTo w aw pay k).set (aw.getD k 0).toNat (pay.getD k 0) else prTo w aw pay k
theorem prTo_len {w : Nat} {aw pay : List Int} : ∀ {k : Nat}, (prTo w aw pay k).length = w
  | 0 => by simp [prTo]
  | k + 1 => by simp only [prTo]; split <;> simp [prTo_len]
noncomputable def prA (xss : List (Bool × List Int)) : List Int := if rectB xss 4 4 1000 = true then prTo (wid xss) (bA xss) (payA xss) xss.length else []

noncomputable def mPrices : List AV → Option AV := mk (fun _ => True) (fun (p : (Bool) × (List (Bool × List Int))) => [intss p.1 p.2]) (fun p => .sl (!rectB p.2 4 4 1000) 1 ((prA p.2).map int))
theorem mPrices_at (nl : Bool) (xss : List (Bool × List Int)) : mPrices [.sl nl 1 (xss.map row)] = some (.sl (!rectB xss 4 4 1000) 1 ((prA xss).map int)) :=
  mk_eq (enc := fun (p : (Bool) × (List (Bool × List Int))) => [intss p.1 p.2]) (x := (nl, xss)) (by rintro ⟨a0, a1⟩ ⟨b0, b1⟩ h; simp [ints, intss, int, bool, row, frac, fracs, map_int_inj, map_row_inj, frac_inj, map_frac_inj] at h; simp [h]) trivial

noncomputable def prP (xss : List (Bool × List Int)) : Bool × List Int := (!rectB xss 4 4 1000, prA xss)
theorem prP_at (nl : Bool) (xss : List (Bool × List Int)) : mPrices [.sl nl 1 (xss.map row)] = some (.sl (prP xss).1 1 ((prP xss).2.map int)) := mPrices_at nl xss
theorem prP_len {xss : List (Bool × List Int)} : (prP xss).2.length ≤ 2 ^ 40 := by
  simp only [prP, prA]
  cases h : rectB xss 4 4 1000 with
  | false => simp
  | true => simp only [if_true, prTo_len]; have := rect_len h; omega

end Go.Proofs.YtakladjlnkojjaaDoor.Ax

/-
  Contracts: MarketOk, Prefers, TurnMarket, TurnMatching (both programs). No condition.
-/
namespace Go.Proofs.YtakladjlnkojjaaDoor.Ax
open Go Go.RowKit
set_option linter.unusedSimpArgs false

/-- A market. -/
def mkt (b : Bool) (xs : List (Bool × List Int)) (c : Bool) (ys : List (Bool × List Int)) : AV := .agg [intss b xs, intss c ys]
def marB (xs ys : List (Bool × List Int)) : Bool := inR 1 5 xs.length && decide (ys.length = xs.length) && ranksB xs.length xs && ranksB xs.length ys

theorem mkt_inj {p q : Bool × List (Bool × List Int) × Bool × List (Bool × List Int)} (h : [mkt p.1 p.2.1 p.2.2.1 p.2.2.2] = [mkt q.1 q.2.1 q.2.2.1 q.2.2.2]) : p = q := by
  obtain ⟨a, b, c, d⟩ := p
  obtain ⟨e, f, g, i⟩ := q
  simp [mkt, intss, map_row_inj] at h
  simp [h]
noncomputable def mMar : List AV → Option AV := mk (fun _ => True) (fun (p : Bool × List (Bool × List Int) × Bool × List (Bool × List Int)) => [mkt p.1 p.2.1 p.2.2.1 p.2.2.2]) (fun p => bool (marB p.2.1 p.2.2.2))
theorem mMar_at (b : Bool) (xs : List (Bool × List Int)) (c : Bool) (ys : List (Bool × List Int)) : mMar [.agg [.sl b 1 (xs.map row), .sl c 1 (ys.map row)]] = some (.v (.bool (marB xs ys))) :=
  mk_eq (enc := fun (p : Bool × List (Bool × List Int) × Bool × List (Bool × List Int)) => [mkt p.1 p.2.1 p.2.2.1 p.2.2.2]) (x := (b, xs, c, ys)) (fun x y h => by rw [mkt_inj h]) trivial

set_option maxHeartbeats 1000000 in
theorem implMar_ok : FnOk Tryd.prog 46 mMar := by
  refine mk_ok fun ⟨b, xs, c, ys⟩ _ => ?_
  have hG : FnsOk Tryd.prog [(78, mWithin), (79, mAreR)] := (.cons within_ok (.cons areRankings_ok .nil))
  refine callOk_awp (ctx_ok eqOk hG) mixed (live := [true, true, true, true]) (dt := []) Tryd.func46 rfl (by kernel_rfl) (by kernel_rfl) fun w0 hlens => ?_
  clear hlens
  cases h1 : inR 1 5 xs.length with
  | false => simp [Tryd.f46, List.range, List.range.loop, ints, intss, int, bool, row, frac, fracs, ← List.map_take, ← List.map_drop, mkt, mWithin_in, h1, marB]
  | true =>
    by_cases h2 : ys.length = xs.length
    · have ht : ys.take xs.length = ys := List.take_of_length_le (by omega)
      cases h3 : ranksB xs.length xs <;> cases h4 : ranksB xs.length ys <;> simp [Tryd.f46, List.range, List.range.loop, ints, intss, int, bool, row, frac, fracs, ← List.map_take, ← List.map_drop, mkt, mWithin_in, mAreR_at, mL17_at, h1, h2, h3, h4, ht, marB]
    · have h2b : ((ys.length : Int) == xs.length) = false := by simp; omega
      have h2i : ¬ (ys.length : Int) = xs.length := by omega
      cases h3 : ranksB xs.length xs <;> simp [Tryd.f46, List.range, List.range.loop, ints, intss, int, bool, row, frac, fracs, ← List.map_take, ← List.map_drop, mkt, mWithin_in, mAreR_at, mL17_at, h1, h2, h2b, h2i, h3, marB]

set_option maxHeartbeats 1000000 in
theorem specMar_ok : FnOk Tryd.prog 42 mMar := by
  refine mk_ok fun ⟨b, xs, c, ys⟩ _ => ?_
  have hG : FnsOk Tryd.prog [(54, mWithin), (71, mL17)] := (.cons l01In_ok (.cons l17Lists_ok .nil))
  refine callOk_awp (ctx_ok eqOk hG) mixed (live := [true, true, true, true]) (dt := []) Tryd.func42 rfl (by kernel_rfl) (by kernel_rfl) fun w0 hlens => ?_
  clear hlens
  cases h1 : inR 1 5 xs.length with
  | false => simp [Tryd.f42, List.range, List.range.loop, ints, intss, int, bool, row, frac, fracs, ← List.map_take, ← List.map_drop, mkt, mWithin_in, h1, marB]
  | true =>
    by_cases h2 : ys.length = xs.length
    · have ht : ys.take xs.length = ys := List.take_of_length_le (by omega)
      cases h3 : ranksB xs.length xs <;> cases h4 : ranksB xs.length ys <;> simp [Tryd.f42, List.range, List.range.loop, ints, intss, int, bool, row, frac, fracs, ← List.map_take, ← List.map_drop, mkt, mWithin_in, mAreR_at, mL17_at, h1, h2, h3, h4, ht, marB]
    · have h2b : ((ys.length : Int) == xs.length) = false := by simp; omega
      have h2i : ¬ (ys.length : Int) = xs.length := by omega
      cases h3 : ranksB xs.length xs <;> simp [Tryd.f42, List.range, List.range.loop, ints, intss, int, bool, row, frac, fracs, ← List.map_take, ← List.map_drop, mkt, mWithin_in, mAreR_at, mL17_at, h1, h2, h2b, h2i, h3, marB]

theorem implPlace_ok : FnOk Tryd.prog 107 mPos := by
  refine mk_ok fun ⟨nl, xs, v⟩ _ => ?_
  have hG : FnsOk Tryd.prog [(80, mPos)] := (.cons slicesIndex_ok .nil)
  refine callOk_awp (ctx_ok eqOk hG) mixed (live := [true, true, false, false, true]) (dt := []) Tryd.func107 rfl (by kernel_rfl) (by kernel_rfl) fun w0 hlens => ?_
  simp [Tryd.f107, List.range, List.range.loop, ints, intss, int, bool, row, frac, fracs, ← List.map_take, ← List.map_drop, mPos_at]

noncomputable def mPref : List AV → Option AV := mk (fun _ => True) (fun (p : (Bool) × (List Int) × (Int) × (Int)) => [ints p.1 p.2.1, int p.2.2.1, int p.2.2.2]) (fun p => bool (pfB p.2.1 p.2.2.1 p.2.2.2))
theorem mPref_at (nl : Bool) (l : List Int) (a : Int) (b : Int) : mPref [.sl nl 1 (l.map int), .v (.int .i64 a), .v (.int .i64 b)] = some (.v (.bool (pfB l a b))) :=
  mk_eq (enc := fun (p : (Bool) × (List Int) × (Int) × (Int)) => [ints p.1 p.2.1, int p.2.2.1, int p.2.2.2]) (x := (nl, l, a, b)) (by rintro ⟨a0, a1, a2, a3⟩ ⟨b0, b1, b2, b3⟩ h; simp [ints, intss, int, bool, row, frac, fracs, map_int_inj, map_row_inj, frac_inj, map_frac_inj] at h; simp [h]) trivial
theorem implPref_ok : FnOk Tryd.prog 81 mPref := by
  refine mk_ok fun ⟨nl, l, a, b⟩ _ => ?_
  have hG : FnsOk Tryd.prog [(107, mPos)] := (.cons implPlace_ok .nil)
  refine callOk_awp (ctx_ok eqOk hG) mixed (live := [true, true, true, false, false, false, true, true, true]) (dt := []) Tryd.func81 rfl (by kernel_rfl) (by kernel_rfl) fun w0 hlens => ?_
  clear hlens
  by_cases h1 : 0 ≤ pos l a <;> by_cases h2 : 0 ≤ pos l b <;> by_cases h3 : pos l a < pos l b <;> simp [Tryd.f81, List.range, List.range.loop, ints, intss, int, bool, row, frac, fracs, ← List.map_take, ← List.map_drop, mPos_at, pfB, h1, h2, h3]

theorem specPref_ok : FnOk Tryd.prog 73 mPref := by
  refine mk_ok fun ⟨nl, l, a, b⟩ _ => ?_
  have hG : FnsOk Tryd.prog [(72, mPos)] := (.cons placeOf_ok .nil)
  refine callOk_awp (ctx_ok eqOk hG) mixed (live := [true, true, true, false, false, false, true, true, true]) (dt := []) Tryd.func73 rfl (by kernel_rfl) (by kernel_rfl) fun w0 hlens => ?_
  clear hlens
  by_cases h1 : 0 ≤ pos l a <;> by_cases h2 : 0 ≤ pos l b <;> by_cases h3 : pos l a < pos l b <;> simp [Tryd.f73, List.range, List.range.loop, ints, intss, int, bool, row, frac, fracs, ← List.map_take, ← List.map_drop, mPos_at, pfB, h1, h2, h3]

noncomputable def mIsRk : List AV → Option AV := mk (fun _ => True) (fun (p : (Bool) × (List Int)) => [ints p.1 p.2]) (fun p => bool (rankB p.2.length p.2))
theorem mIsRk_at (nl : Bool) (l : List Int) : mIsRk [.sl nl 1 (l.map int)] = some (.v (.bool (rankB l.length l))) :=
  mk_eq (enc := fun (p : (Bool) × (List Int)) => [ints p.1 p.2]) (x := (nl, l)) (by rintro ⟨a0, a1⟩ ⟨b0, b1⟩ h; simp [ints, intss, int, bool, row, frac, fracs, map_int_inj, map_row_inj, frac_inj, map_frac_inj] at h; simp [h]) trivial
theorem isRank_ok : FnOk Tryd.prog 109 mIsRk := by
  refine mk_ok fun ⟨nl, l⟩ _ => ?_
  have hG : FnsOk Tryd.prog [(61, mRank)] := (.cons implRankingOk_ok .nil)
  refine callOk_awp (ctx_ok eqOk hG) mixed (live := [true, false, true]) (dt := []) Tryd.func109 rfl (by kernel_rfl) (by kernel_rfl) fun w0 hlens => ?_
  clear hlens
  have h := mRank_at l.length nl l
  simp [Tryd.f109, List.range, List.range.loop, ints, intss, int, bool, row, frac, fracs, ← List.map_take, ← List.map_drop, h]

noncomputable def mTurn : List AV → Option AV := mk (fun p => rankB p.2.length p.2 = true) (fun (p : (Bool) × (List Int)) => [ints p.1 p.2]) (fun p => ints false (tnT p.2 p.2.length))
theorem mTurn_at (nl : Bool) (l : List Int) (hpre : rankB l.length l = true) : mTurn [.sl nl 1 (l.map int)] = some (.sl false 1 (((tnT l l.length)).map int)) :=
  mk_eq (enc := fun (p : (Bool) × (List Int)) => [ints p.1 p.2]) (x := (nl, l)) (by rintro ⟨a0, a1⟩ ⟨b0, b1⟩ h; simp [ints, intss, int, bool, row, frac, fracs, map_int_inj, map_row_inj, frac_inj, map_frac_inj] at h; simp [h]) hpre
theorem rank_bd {l : List Int} (h : rankB l.length l = true) : l.length ≤ 5 ∧ ∀ x ∈ l, 0 ≤ x ∧ x < l.length := by
  simp only [rankB, Bool.and_eq_true, inR, decide_eq_true_eq] at h
  obtain ⟨⟨⟨h1, h2⟩, _⟩, h3⟩ := h
  refine ⟨by omega, fun x hx => ?_⟩
  obtain ⟨i, hi, rfl⟩ := List.getElem_of_mem hx
  unfold allR at h3
  rw [List.all_eq_true] at h3
  have := h3 i (by simpa using hi)
  rw [rankAt_at hi] at this
  simp only [inR, Bool.and_eq_true, decide_eq_true_eq] at this
  omega

set_option maxHeartbeats 1000000 in
theorem implTurn_ok : FnOk Tryd.prog 83 mTurn := by
  refine mk_ok fun ⟨nl, l⟩ h => ?_
  simp only at h
  have hG : FnsOk Tryd.prog [(109, mIsRk)] := (.cons isRank_ok .nil)
  refine callOk_awp (ctx_ok eqOk hG) mixed (live := [true, false, true, true, true, true, false, false, true, false, false, false, true, true, true, true]) (dt := []) Tryd.func83 rfl (by kernel_rfl) (by kernel_rfl) fun w0 hlens => ?_
  clear hlens
  obtain ⟨h5, hb⟩ := rank_bd h
  have hb1 : 8 * l.length ≤ 281474976710656 := by omega
  have hb2 : l.length ≤ 4611686018427387904 := by omega
  simp [Tryd.f83, List.range, List.range.loop, ints, intss, int, bool, row, frac, fracs, ← List.map_take, ← List.map_drop, mRank_at, mIsRk_at, h, hb1, hb2]
  refine awp_range (live := [true, false, true, true, true, true, false, false, true, false, false, false, true, true, true, true]) (ctx_ok eqOk hG) mixed [false, false, false, true, false, false, false, false, false, false, false, false, true, true, true] (l.length) (fun k => True) (fun k => ⟨[.junk, .junk, .junk, .ref 0 [] 0 l.length, .junk, .junk, .junk, .junk, .junk, .junk, .junk, .junk, ints nl l, int l.length, int k, .junk, .junk, .junk, .junk, .junk, .junk, .junk, .junk, .junk, .junk], [⟨true, .sl false 1 ((tnT l k).map int)⟩]⟩) ?_ (by simp [sub, slotsLe, clean, keep, refsL, refs, once, place, renL, ren, List.replicate, int, bool, ints, tnT]) ?_ ?_ ?_
  · omega
  · trivial
  · intro k hk _ hwk
    have hx := hb _ (List.getElem_mem hk)
    have hlt : l[k].toNat < l.length := by omega
    have htl := tnT_len (l := l) (k := k)
    have htl2 := tnT_len (l := l) (k := k + 1)
    have hs : ((tnT l k).map int).set l[k].toNat (.v (.int .i64 k)) = (tnT l (k + 1)).map int := by
      rw [tnT, getD_at hk]
      have : AV.v (.int .i64 (k : Int)) = int k := rfl
      rw [this, List.map_set]
    simp [List.range, List.range.loop, ints, intss, int, bool, row, frac, fracs, ← List.map_take, ← List.map_drop, hk, hwk, hx.1, hlt, htl, htl2, hs]
  · intro _
    simp [List.range, List.range.loop, ints, intss, int, bool, row, frac, fracs, ← List.map_take, ← List.map_drop, tnT_len]

set_option maxHeartbeats 1000000 in
theorem specTurn_ok : FnOk Tryd.prog 75 mTurn := by
  refine mk_ok fun ⟨nl, l⟩ h => ?_
  simp only at h
  have hG : FnsOk Tryd.prog [(55, mRank)] := (.cons specRankingOk_ok .nil)
  refine callOk_awp (ctx_ok eqOk hG) mixed (live := [true, false, true, true, true, true, false, false, false, false, true, false, false, false, true, true, true, true]) (dt := []) Tryd.func75 rfl (by kernel_rfl) (by kernel_rfl) fun w0 hlens => ?_
  clear hlens
  obtain ⟨h5, hb⟩ := rank_bd h
  have hb1 : 8 * l.length ≤ 281474976710656 := by omega
  have hb2 : l.length ≤ 4611686018427387904 := by omega
  simp [Tryd.f75, List.range, List.range.loop, ints, intss, int, bool, row, frac, fracs, ← List.map_take, ← List.map_drop, mRank_at, mIsRk_at, h, hb1, hb2]
  refine awp_range (live := [true, false, true, true, true, true, false, false, false, false, true, false, false, false, true, true, true, true]) (ctx_ok eqOk hG) mixed [false, false, false, true, false, false, false, false, false, false, false, false, false, false, true, true, true] (l.length) (fun k => True) (fun k => ⟨[.junk, .junk, .junk, .ref 0 [] 0 l.length, .junk, .junk, .junk, .junk, .junk, .junk, .junk, .junk, .junk, .junk, ints nl l, int l.length, int k, .junk, .junk, .junk, .junk, .junk, .junk, .junk, .junk, .junk, .junk], [⟨true, .sl false 1 ((tnT l k).map int)⟩]⟩) ?_ (by simp [sub, slotsLe, clean, keep, refsL, refs, once, place, renL, ren, List.replicate, int, bool, ints, tnT]) ?_ ?_ ?_
  · omega
  · trivial
  · intro k hk _ hwk
    have hx := hb _ (List.getElem_mem hk)
    have hlt : l[k].toNat < l.length := by omega
    have htl := tnT_len (l := l) (k := k)
    have htl2 := tnT_len (l := l) (k := k + 1)
    have hs : ((tnT l k).map int).set l[k].toNat (.v (.int .i64 k)) = (tnT l (k + 1)).map int := by
      rw [tnT, getD_at hk]
      have : AV.v (.int .i64 (k : Int)) = int k := rfl
      rw [this, List.map_set]
    simp [List.range, List.range.loop, ints, intss, int, bool, row, frac, fracs, ← List.map_take, ← List.map_drop, hk, hwk, hx.1, hlt, htl, htl2, hs]
  · intro _
    simp [List.range, List.range.loop, ints, intss, int, bool, row, frac, fracs, ← List.map_take, ← List.map_drop, tnT_len]

end Go.Proofs.YtakladjlnkojjaaDoor.Ax

/-
  What this seat's laws are handed: markets. No condition.
-/
namespace Go.Proofs.YtakladjlnkojjaaDoor.Ax
open Go Go.RowKit

theorem DatE.parts2 {P : Program} {t : TypeId} {a : AV} {f0 f1 : Field} (h : DatE P t a) (hu : P.underlying t = some (.struct #[f0, f1])) : ∃ l0 l1, a = .agg (l0 ++ l1) ∧ Dat P f0.type l0 ∧ Dat P f1.type l1 := by
  obtain ⟨g1, g2⟩ := h
  have hs : structB P t = true := by simp [structB, hu]
  rw [hs] at g1
  cases a with
  | agg al =>
    simp only [AV.cells] at g2
    generalize has : al = al' at g2
    cases g2 with
    | @struct _ fs pss hu' hl hf =>
      rw [hu] at hu'; simp only [Option.some.injEq, TypeDesc.struct.injEq] at hu'; subst hu'
      match pss, hl with
      | [p0, p1], _ =>
        exact ⟨p0, p1, by simp, hf 0 f0 p0 rfl rfl, hf 1 f1 p1 rfl rfl⟩
    | _ => simp_all
  | _ => simp [AV.isAgg] at g1

theorem datMkt {a : AV} (h : DatE Tryd.prog 29 a) : ∃ b xs c ys, a = mkt b xs c ys := by
  obtain ⟨l0, l1, rfl, h0, h1⟩ := h.parts2 Tryd.underlying29
  obtain ⟨x, rfl, hx, _⟩ := h0.one (by simp [structB, Tryd.underlying22])
  obtain ⟨y, rfl, hy, _⟩ := h1.one (by simp [structB, Tryd.underlying22])
  have k0 : DatE Tryd.prog 22 x := ⟨by simp [hx, structB, Tryd.underlying22], by rw [cells_one hx]; exact h0⟩
  have k1 : DatE Tryd.prog 22 y := ⟨by simp [hy, structB, Tryd.underlying22], by rw [cells_one hy]; exact h1⟩
  obtain ⟨b, xs, rfl, _⟩ := datIntss k0
  obtain ⟨c, ys, rfl, _⟩ := datIntss k1
  exact ⟨b, xs, c, ys, rfl⟩

end Go.Proofs.YtakladjlnkojjaaDoor.Ax

/-
  Contract: ProposeMen (the program). No condition.
-/
namespace Go.Proofs.YtakladjlnkojjaaDoor.Ax
open Go Go.RowKit
set_option linter.unusedSimpArgs false

noncomputable def mPro : List AV → Option AV := mk (fun p => marB p.2.1 p.2.2.2 = true) (fun (p : Bool × List (Bool × List Int) × Bool × List (Bool × List Int)) => [mkt p.1 p.2.1 p.2.2.1 p.2.2.2]) (fun p => .tup [.sl false 1 ((gsE p.2.1 p.2.2.2).wm.map int), .v (.int .i64 (gsE p.2.1 p.2.2.2).ct)])
theorem mPro_at (b : Bool) (xs : List (Bool × List Int)) (c : Bool) (ys : List (Bool × List Int)) (h : marB xs ys = true) : mPro [.agg [.sl b 1 (xs.map row), .sl c 1 (ys.map row)]] = some (.tup [.sl false 1 ((gsE xs ys).wm.map int), .v (.int .i64 (gsE xs ys).ct)]) :=
  mk_eq (enc := fun (p : Bool × List (Bool × List Int) × Bool × List (Bool × List Int)) => [mkt p.1 p.2.1 p.2.2.1 p.2.2.2]) (x := (b, xs, c, ys)) (fun x y h => by rw [mkt_inj h]) h

/-- A market's facts. -/
theorem mar_ok {xs ys : List (Bool × List Int)} (h : marB xs ys = true) : Mk xs ys ∧ (∀ r ∈ xs, r.2.length = xs.length) ∧ (∀ r ∈ ys, r.2.length = xs.length) ∧ 1 ≤ xs.length ∧ xs.length ≤ 5 := by
  simp only [marB, Bool.and_eq_true, inR, decide_eq_true_eq] at h
  obtain ⟨⟨⟨h1, h2⟩, h3⟩, h4⟩ := h
  have hx : H5 xs := h5_of (by simp only [housesB, Bool.and_eq_true, inR, decide_eq_true_eq]; exact ⟨h1, h3⟩)
  have hy : H5 ys := h5_of (by simp only [housesB, Bool.and_eq_true, inR, decide_eq_true_eq]; rw [h2]; exact ⟨h1, h4⟩)
  refine ⟨⟨hx, hy, h2⟩, fun r hr => ?_, fun r hr => ?_, by omega, by omega⟩
  · have := List.all_eq_true.1 h3 r hr
    simp only [rankB, Bool.and_eq_true, decide_eq_true_eq] at this
    omega
  · have := List.all_eq_true.1 h4 r hr
    simp only [rankB, Bool.and_eq_true, decide_eq_true_eq] at this
    omega

/-- One proposal: who asks, whom, and whom she has. -/
structure GsF (xs ys : List (Bool × List Int)) (s : Gs) (I J W : Nat) (M : Int) (r q : Bool × List Int) : Prop where
  iI : gsI s = (I : Int)
  i1 : I < xs.length
  x1 : xs[I]? = some r
  r1 : r.2.length = xs.length
  k1 : s.ak[I]? = some (J : Int)
  j1 : J < xs.length
  w0 : r.2[J]? = some (W : Int)
  w1 : W < xs.length
  y1 : ys[W]? = some q
  m0 : s.mn[W]? = some M
  m1 : M < xs.length
  wl : s.wm.length = xs.length
  ml : s.mn.length = xs.length
  al : s.ak.length = xs.length
  no : 0 ≤ M → pfB q.2 M I = true → gsS xs ys s = ⟨s.wm, s.mn, s.ak.set I ((J : Int) + 1), s.ct + 1⟩
  mv : 0 ≤ M → pfB q.2 M I = false → gsS xs ys s = ⟨(s.wm.set M.toNat (-1)).set I W, s.mn.set W I, s.ak.set I ((J : Int) + 1), s.ct + 1⟩
  fr : M < 0 → gsS xs ys s = ⟨s.wm.set I W, s.mn.set W I, s.ak.set I ((J : Int) + 1), s.ct + 1⟩
  op : 0 ≤ M → pfB q.2 (I : Int) M = !pfB q.2 M I
theorem at1_nat {l : List Int} {i : Nat} (h : i < l.length) : l[i]? = some (at1 l (i : Int)) := by unfold at1; simp [List.getD_eq_getElem?_getD, h]
theorem rw2_nat {xs : List (Bool × List Int)} {i : Nat} (h : i < xs.length) : rw2 xs (i : Int) = xs[i].2 := by unfold rw2; simp [List.getD_eq_getElem?_getD, h]
theorem pos_at {v : Int} : ∀ {l : List Int} {k : Nat}, v ∈ l → ∃ p : Nat, posFrom v l k = ((k + p : Nat) : Int) ∧ l[p]? = some v
  | a :: l, k, h => by
    by_cases e : a = v
    · exact ⟨0, by simp [posFrom, e], by simp [e]⟩
    · obtain ⟨p, h1, h2⟩ := pos_at (v := v) (l := l) (k := k + 1) ((List.mem_cons.1 h).resolve_left fun h => e h.symm)
      exact ⟨p + 1, by rw [posFrom, if_neg e, h1]; omega, by simpa using h2⟩
theorem pfB_op {l : List Int} {a b : Int} (ha : a ∈ l) (hb : b ∈ l) (hne : a ≠ b) : pfB l b a = !pfB l a b := by
  have pa := pos_iff.2 ha
  have pb := pos_iff.2 hb
  have hn : pos l a ≠ pos l b := fun e => by
    obtain ⟨p, h1, h2⟩ := pos_at (k := 0) ha
    obtain ⟨p', h1', h2'⟩ := pos_at (k := 0) hb
    unfold pos at e
    have : p = p' := by omega
    subst this
    rw [h2] at h2'
    exact hne (Option.some.inj h2')
  simp only [pfB, pa, pb, decide_true, Bool.true_and]
  by_cases h : pos l a < pos l b
  · have : ¬ pos l b < pos l a := by omega
    simp [h, this]
  · have : pos l b < pos l a := by omega
    simp [h, this]
theorem gsF {xs ys : List (Bool × List Int)} {s : Gs} (hk : Mk xs ys) (hr : ∀ r ∈ xs, r.2.length = xs.length) (hs : GOk xs ys s) (h : 0 ≤ gsI s) : ∃ I J W M r q, GsF xs ys s I J W M r q := by
  obtain ⟨h1, h2⟩ := gsI_free hs h
  obtain ⟨m1, m2⟩ := gs_more hk hr hs h
  have hW : 0 ≤ gsW xs s ∧ gsW xs s < xs.length := row_h5 hk.hx hr h h1 m1 m2
  obtain ⟨I, hI⟩ : ∃ I : Nat, gsI s = (I : Int) := ⟨(gsI s).toNat, by omega⟩
  obtain ⟨J, hJ⟩ : ∃ J : Nat, at1 s.ak (gsI s) = (J : Int) := ⟨(at1 s.ak (gsI s)).toNat, by omega⟩
  obtain ⟨W, hWn⟩ : ∃ W : Nat, gsW xs s = (W : Int) := ⟨(gsW xs s).toNat, by omega⟩
  have hIl : I < xs.length := by omega
  have hWl : W < xs.length := by omega
  have hWy : W < ys.length := by rw [hk.len]; exact hWl
  have hwl := hs.wl
  have hml := hs.ml
  have hal := hs.al
  have hrow := hr xs[I] (List.getElem_mem hIl)
  have hM := hs.mr W (by omega) (by omega)
  have hWd : gsW xs s = at1 (rw2 xs (gsI s)) (at1 s.ak (gsI s)) := rfl
  have eW : at1 xs[I].2 (J : Int) = (W : Int) := by rw [← hWn, hWd, hJ, hI, rw2_nat hIl]
  refine ⟨I, J, W, at1 s.mn W, xs[I], ys[W], hI, hIl, List.getElem?_eq_getElem hIl, hrow, ?_, by omega, ?_, hWl, List.getElem?_eq_getElem hWy, at1_nat (by omega), by omega, hwl, hml, hal, fun h0 hp => ?_, fun h0 hp => ?_, fun h0 => ?_, fun h0 => ?_⟩
  · rw [at1_nat (by omega), ← hI, hJ]
  · rw [at1_nat (by omega), eW]
  · have hN : gsN xs ys s = true := by
      unfold gsN
      rw [hWn, hI, rw2_nat hWy, hp, decide_eq_true h0]; rfl
    unfold gsS; rw [if_pos hN]
    unfold gsA; rw [hI] at hJ ⊢; rw [hJ]; simp
  · have hN : ¬ gsN xs ys s = true := by
      unfold gsN
      rw [hWn, hI, rw2_nat hWy, hp]; simp
    unfold gsS; rw [if_neg hN]
    unfold gsA gsL; rw [hWn, if_pos h0]; rw [hI] at hJ ⊢; rw [hJ]; simp
  · have hN : ¬ gsN xs ys s = true := by
      unfold gsN
      rw [hWn, decide_eq_false (by omega)]; simp
    unfold gsS; rw [if_neg hN]
    unfold gsA gsL; rw [hWn, if_neg (by omega)]; rw [hI] at hJ ⊢; rw [hJ]; simp
  · have hx := hM.resolve_left (by omega)
    have hall := (hk.hy.all W hWy).2
    have ha : at1 s.mn (W : Int) ∈ ys[W].2 := by
      have := hall (at1 s.mn (W : Int)).toNat (by rw [hk.len]; omega)
      rwa [Int.toNat_of_nonneg h0] at this
    have hb : (I : Int) ∈ ys[W].2 := hall I (by rw [hk.len]; exact hIl)
    refine pfB_op ha hb fun e => ?_
    have := hx.2.2
    rw [e, ← hI, h2] at this
    omega

set_option maxRecDepth 8000 in
set_option maxHeartbeats 4000000 in
theorem implPro_ok : FnOk Tryd.prog 47 mPro := by
  refine mk_ok fun ⟨b, xs, c, ys⟩ h => ?_
  simp only at h
  have hG : FnsOk Tryd.prog [(46, mMar), (62, mRepeatI), (80, mPos), (81, mPref)] := (.cons implMar_ok (.cons repeatI_ok (.cons slicesIndex_ok (.cons implPref_ok .nil))))
  refine callOk_awp (ctx_ok eqOk hG) mixed (live := [true, true, true, true, true, true, true, true, true, true, true, false, false, true, false, false, false, false, false, false, false, false, false, false, false, false, false, false, true, false, false, false, false, false, false, false, false, false, false, false, false, false, false, false, false, false, false, false, false, false, false, false, false, false, true, false, false, false, false, false, false, false, false, false, false, true]) (dt := [(4, ⟨[(0, 3), (2, 3), (0, 7), (3, 7)], [1, 0, 1, 1, 0, 1, 0, 1], []⟩), (9, ⟨[], [], []⟩), (13, ⟨[], [], []⟩)]) Tryd.func47 rfl (by kernel_rfl) (by kernel_rfl) fun w0 hlens => ?_
  clear hlens
  obtain ⟨hk, hr, hry, hn1, hn5⟩ := mar_ok h
  have hrp := mRepeatI_at false (-1) xs.length (by omega)
  have hb1 : 8 * xs.length ≤ 281474976710656 := by omega
  have hb2 : xs.length ≤ 4611686018427387904 := by omega
  have hyl := hk.len
  have hok := fun k => gsT_ok hk hr (k := k)
  have hend := fun k (h : gsI (gsT xs ys k) < 0) => gsT_end hk hr h
  have hpos : ∀ s : Gs, pos s.wm (-1) = gsI s := fun _ => rfl
  have hz : gsT xs ys 0 = ⟨List.replicate xs.length (-1), List.replicate xs.length (-1), List.replicate xs.length 0, 0⟩ := rfl
  have ht : ys.take xs.length = ys := List.take_of_length_le (by omega)
  have hp0 : mPos [.sl false 1 ((List.replicate xs.length (-1)).map int), .v (.int .i64 (-1))] = some (.v (.int .i64 (gsI (gsT xs ys 0)))) := mPos_at false _ _
  simp only [List.map_replicate, int] at hp0
  simp [Tryd.f47, List.range, List.range.loop, ints, intss, int, bool, row, frac, fracs, ← List.map_take, ← List.map_drop, mkt, mMar_at, h, hrp, hb1, hb2, hyl, ht, hp0]
  refine awp_loop_of (live := [true, true, true, true, true, true, true, true, true, true, true, false, false, true, false, false, false, false, false, false, false, false, false, false, false, false, false, false, true, false, false, false, false, false, false, false, false, false, false, false, false, false, false, false, false, false, false, false, false, false, false, false, false, false, true, false, false, false, false, false, false, false, false, false, false, true]) (ctx_ok eqOk hG) mixed [false, true, false, false, false, true, true, true, true, true] (α := {k : Nat // (gsT xs ys k).ct = k}) (fun k => ⟨[.junk, .ptr 0 [] 0 0, .junk, .junk, .junk, .ref 1 [] 0 xs.length, .ref 2 [] 0 xs.length, .ref 3 [] 0 xs.length, int k.1, int (gsI (gsT xs ys k.1)), .junk, .junk, .junk, .junk, .junk, .junk, .junk, .junk, .junk, .junk, .junk, .junk, .junk, .junk, .junk, .junk, .junk, .junk, .junk, .junk, .junk, .junk, .junk, .junk, .junk, .junk, .junk, .junk, .junk, .junk, .junk, .junk, .junk, .junk, .junk, .junk, .junk, .junk, .junk, .junk, .junk, .junk, .junk, .junk, .junk, .junk, .junk, .junk, .junk, .junk, .junk, .junk, .junk, .junk, .junk, .junk, .junk, .junk, .junk, .junk, .junk, .junk, .junk, .junk, .junk, .junk, .junk, .junk, .junk, .junk, .junk, .junk], [⟨false, .sl false 2 [.agg [.sl b 1 (xs.map row), .sl c 1 (ys.map row)]]⟩, ⟨true, .sl false 1 ((gsT xs ys k.1).wm.map int)⟩, ⟨true, .sl false 1 ((gsT xs ys k.1).mn.map int)⟩, ⟨true, .sl false 1 ((gsT xs ys k.1).ak.map int)⟩]⟩) (fun k => xs.length * xs.length + 1 - k.1) ⟨0, rfl⟩ (by simp [sub, slotsLe, clean, keep, refsL, refs, once, place, renL, ren, List.replicate, int, bool, hz, hyl]) ?_
  rintro ⟨k, hct⟩
  simp only
  have hsk : gsT xs ys (k + 1) = if gsI (gsT xs ys k) < 0 then gsT xs ys k else gsS xs ys (gsT xs ys k) := rfl
  have hs := hok k
  have hs1 := hok (k + 1)
  by_cases hneg : gsI (gsT xs ys k) < 0
  · have he := hend k hneg
    have hn0 : ¬ 0 ≤ gsI (gsT xs ys k) := by omega
    have hwl := hs.wl
    have htk : List.take xs.length (gsT xs ys k).wm = (gsT xs ys k).wm := List.take_of_length_le (by omega)
    simp [List.range, List.range.loop, ints, intss, int, bool, row, frac, fracs, ← List.map_take, ← List.map_drop, hn0, hneg, hwl, htk]
    rw [← he, hct]
    exact ⟨rfl, rfl⟩
  · have h0 : 0 ≤ gsI (gsT xs ys k) := by omega
    rw [if_neg hneg] at hsk
    have hct1 := (gsS_ok hk hr hs h0).2
    have hcn := gs_ct hs1
    obtain ⟨I, J, W, M, r, q, F⟩ := gsF hk hr hs h0
    rw [← hsk] at hct1
    have hmeas : k + 1 ≤ xs.length * xs.length := by omega
    have hct2 : (gsT xs ys (k + 1)).ct = k + 1 := by omega
    have hp1 : mPos [.sl false 1 ((gsT xs ys (k + 1)).wm.map int), .v (.int .i64 (-1))] = some (.v (.int .i64 (gsI (gsT xs ys (k + 1))))) := mPos_at false _ _
    have hkk : xs.length * xs.length ≤ 25 := Nat.mul_le_mul hn5 hn5
    obtain ⟨f1, f2, f3, f4, f5, f6, f7, f8, f9, f10, f11, f12, f13, f14, f15, f16, f17, f18⟩ := F
    have wJ : IntKind.i64.wrap ((J : Int) + 1) = (J : Int) + 1 := wrapI (by omega) (by omega)
    have wk : IntKind.i64.wrap ((k : Int) + 1) = (k : Int) + 1 := wrapI (by omega) (by omega)
    have g3 : xs[I] = r := (List.getElem?_eq_some_iff.1 f3).2
    have hWy : W < ys.length := by omega
    have g9 : ys[W] = q := (List.getElem?_eq_some_iff.1 f9).2
    have hJr : J < r.2.length := by omega
    have g7 : r.2[J] = (W : Int) := (List.getElem?_eq_some_iff.1 f7).2
    have hIa : I < (gsT xs ys k).ak.length := by omega
    have hWm : W < (gsT xs ys k).mn.length := by omega
    have hIw : I < (gsT xs ys k).wm.length := by omega
    have g5 : (gsT xs ys k).ak[I] = (J : Int) := (List.getElem?_eq_some_iff.1 f5).2
    have g10 : (gsT xs ys k).mn[W] = M := (List.getElem?_eq_some_iff.1 f10).2
    have hI0 : (0 : Int) ≤ (I : Int) := by omega
    have hql : q.2.length = xs.length := hry q (by rw [← g9]; exact List.getElem_mem _)
    have hpf := mPref_at q.1 q.2 M I
    have tr : List.take xs.length r.2 = r.2 := List.take_of_length_le (by omega)
    have tq : List.take xs.length q.2 = q.2 := List.take_of_length_le (by omega)
    rw [hsk] at hp1
    have hnext : ∀ (wm mn ak : List Int), gsS xs ys (gsT xs ys k) = ⟨wm, mn, ak, (gsT xs ys k).ct + 1⟩ → gsT xs ys (k + 1) = ⟨wm, mn, ak, k + 1⟩ := fun wm mn ak e => by rw [hsk, e, hct]
    have eA : ((gsT xs ys k).ak.map int).set I (.v (.int .i64 ((J : Int) + 1))) = ((gsT xs ys k).ak.set I ((J : Int) + 1)).map int := by rw [List.map_set]; rfl
    have eM : ((gsT xs ys k).mn.map int).set W (.v (.int .i64 (I : Int))) = ((gsT xs ys k).mn.set W (I : Int)).map int := by rw [List.map_set]; rfl
    have eW : ((gsT xs ys k).wm.map int).set I (.v (.int .i64 (W : Int))) = ((gsT xs ys k).wm.set I (W : Int)).map int := by rw [List.map_set]; rfl
    have lA : ((gsT xs ys k).ak.set I ((J : Int) + 1)).length = xs.length := by simp [f14]
    have lM : ((gsT xs ys k).mn.set W (I : Int)).length = xs.length := by simp [f13]
    have lW : ((gsT xs ys k).wm.set I (W : Int)).length = xs.length := by simp [f12]
    generalize (gsT xs ys k).ak.set I ((J : Int) + 1) = A' at *
    generalize (gsT xs ys k).mn.set W (I : Int) = M' at *
    by_cases hM : M < 0
    · have e := f17 hM
      have en := hnext _ _ _ e
      rw [e] at hp1
      have hM0 : ¬ 0 ≤ M := by omega
      rw [hct] at hp1
      simp only at hp1
      generalize (gsT xs ys k).wm.set I (W : Int) = W' at *
      have tW : List.take xs.length W' = W' := List.take_of_length_le (by omega)
      simp [List.range, List.range.loop, ints, intss, int, bool, row, frac, fracs, ← List.map_take, ← List.map_drop, f1, hI0, f2, f3, f4, f5, f6, f7, f8, f9, f10, f12, f13, f14, g3, g5, g7, g10, hJr, wJ, wk, hyl, tr, hM0, hM, eA, eM, eW, lA, lM, lW, tW, hp1]
      exact ⟨⟨k + 1, hct2⟩, by simp [sub, slotsLe, clean, keep, refsL, refs, once, place, renL, ren, List.replicate, int, bool, en], by simp; omega⟩
    · have hM0 : 0 ≤ M := by omega
      cases hpb : pfB q.2 M (I : Int) with
      | true =>
        have e := f15 hM0 hpb
        have en := hnext _ _ _ e
        rw [e] at hp1
        rw [hpb] at hpf
        rw [hct] at hp1
        simp only at hp1
        have tW : List.take xs.length (gsT xs ys k).wm = (gsT xs ys k).wm := List.take_of_length_le (by omega)
        simp [List.range, List.range.loop, ints, intss, int, bool, row, frac, fracs, ← List.map_take, ← List.map_drop, f1, hI0, f2, f3, f4, f5, f6, f7, f8, f9, f10, f12, f13, f14, g3, g5, g7, g9, g10, hJr, hWy, wJ, wk, hyl, tr, tq, hql, hM0, hM, eA, lA, tW, hpf, hp1]
        exact ⟨⟨k + 1, hct2⟩, by simp [sub, slotsLe, clean, keep, refsL, refs, once, place, renL, ren, List.replicate, int, bool, en], by simp; omega⟩
      | false =>
        have e := f16 hM0 hpb
        have en := hnext _ _ _ e
        rw [e] at hp1
        rw [hpb] at hpf
        rw [hct] at hp1
        simp only at hp1
        have hMl : M.toNat < xs.length := by omega
        have eV : ((gsT xs ys k).wm.map int).set M.toNat (.v (.int .i64 (-1))) = ((gsT xs ys k).wm.set M.toNat (-1)).map int := by rw [List.map_set]; rfl
        have lV : ((gsT xs ys k).wm.set M.toNat (-1)).length = xs.length := by simp [f12]
        generalize (gsT xs ys k).wm.set M.toNat (-1) = V' at *
        have eW' : (V'.map int).set I (.v (.int .i64 (W : Int))) = (V'.set I (W : Int)).map int := by rw [List.map_set]; rfl
        have lW' : (V'.set I (W : Int)).length = xs.length := by simp [lV]
        generalize V'.set I (W : Int) = W' at *
        have tW : List.take xs.length W' = W' := List.take_of_length_le (by omega)
        simp [List.range, List.range.loop, ints, intss, int, bool, row, frac, fracs, ← List.map_take, ← List.map_drop, f1, hI0, f2, f3, f4, f5, f6, f7, f8, f9, f10, f12, f13, f14, g3, g5, g7, g9, g10, hJr, hWy, wJ, wk, hyl, tr, tq, hql, hM0, hM, hMl, eA, eM, eV, eW', lA, lM, lV, lW', tW, hpf, hp1]
        exact ⟨⟨k + 1, hct2⟩, by simp [sub, slotsLe, clean, keep, refsL, refs, once, place, renL, ren, List.replicate, int, bool, en], by simp; omega⟩

end Go.Proofs.YtakladjlnkojjaaDoor.Ax
