/-
  Contracts: FormatNumbers (both programs). No condition.
-/
import Derived.Test.YtkfmhpgnhkdebaaGreatDoorCG22
import Derived.Test.YtkfmhpgnhkdebaaGreatDoorCG11
namespace Go.Proofs.YtkfmhpgnhkdebaaGreatDoor.Ax
open Go Go.RowKit
set_option linter.unusedSimpArgs false
def apW : Nat → AV
  | 0 => .sl true 1 []
  | k + 1 => .ref 0 [] 0 (k + 1)
def apWt (l : List AV) : Nat → List Tok
  | 0 => []
  | _ + 1 => [⟨true, .sl false 1 l⟩]
def apV (l : List AV) : List Tok := [⟨true, .sl false 1 l⟩]
theorem take_snoc {α : Type} {f : α → AV} {xs : List α} {k : Nat} (h : k < xs.length) : (xs.take k).map f ++ [f xs[k]] = (xs.take (k + 1)).map f := by
  rw [List.take_succ_eq_append_getElem h, List.map_append]; rfl
theorem dec_len10 : ∀ (k : Nat) (u : Nat), u < 10 ^ k → 0 < k → (Lib.decDigits u).length ≤ k
  | 0, _, _, h => absurd h (by omega)
  | k + 1, u, hu, _ => by
    by_cases h : u < 10
    · rw [dec_lt h]; simp
    · rw [dec_ge (by omega), List.length_append]
      have hk : 0 < k := by
        rcases Nat.eq_zero_or_pos k with rfl | h'
        · simp at hu; omega
        · exact h'
      have := dec_len10 k (u / 10) (by rw [Nat.pow_succ] at hu; omega) hk
      simp; omega
theorem itoa_len {n : Int} (h : inI n) : (Lib.itoa n).length ≤ 20 := by
  have h1 := h.1
  have h2 := h.2
  have h3 : (9223372036854775808 : Nat) < 10 ^ 19 := by decide
  unfold Lib.itoa
  split
  · have := dec_len10 19 n.natAbs (by omega) (by omega)
    simp; omega
  · have := dec_len10 19 n.toNat (by omega) (by omega)
    omega
theorem join_len {c : Nat} {sep : List UInt8} : ∀ {ws : List (List UInt8)}, (∀ w ∈ ws, w.length ≤ c) → (Lib.join ws sep).length ≤ (c + sep.length) * ws.length
  | [], _ => by simp [Lib.join_nil]
  | x :: r, h => by
    have hx := h x (by simp)
    have key : ∀ (r : List (List UInt8)), (∀ w ∈ r, w.length ≤ c) → (Lib.joinTail sep r).length ≤ (c + sep.length) * r.length := by
      intro r
      induction r with
      | nil => intro _; simp [Lib.joinTail]
      | cons y r ih =>
        intro h
        have h1 := h y (by simp)
        have h2 := ih fun w hw => h w (by simp [hw])
        simp only [Lib.joinTail, List.map_cons, List.flatten_cons, List.length_append, List.length_cons, Nat.mul_add, Nat.mul_one] at h2 ⊢
        omega
    have h2 := key r fun w hw => h w (by simp [hw])
    rw [Lib.join_cons, List.length_append, List.length_cons, Nat.mul_add, Nat.mul_one]
    omega
def numS (xs : List Int) : ByteArray := if xs = [] then ⟨#[45]⟩ else joinS (xs.map itoaS) ⟨#[44]⟩
end Go.Proofs.YtkfmhpgnhkdebaaGreatDoor.Ax
namespace Go.Proofs.YtkfmhpgnhkdebaaGreatDoor.Ax
open Go Go.RowKit
set_option linter.unusedSimpArgs false
def rowS (r : Bool × List Int) : ByteArray := numS r.2
def wr (r : Bool × List Int) : AV := .v (.string (rowS r))
end Go.Proofs.YtkfmhpgnhkdebaaGreatDoor.Ax
namespace Go.Proofs.YtkfmhpgnhkdebaaGreatDoor.Ax
open Go Go.RowKit
set_option linter.unusedSimpArgs false
def fracS (f : Int × Int) : ByteArray := if fracOk f = true then (if f.2 = 1 then itoaS f.1 else itoaS f.1 ++ ⟨#[47]⟩ ++ itoaS f.2) else ⟨#[]⟩
noncomputable def mFFrac : List AV → Option AV := mk (fun _ => True) (fun (p : (Int) × (Int)) => [frac (p.1, p.2)]) (fun p => .v (.string (fracS (p.1, p.2))))
theorem mFFrac_at (a : Int) (b : Int) : mFFrac [.agg [.v (.int .i64 a), .v (.int .i64 b)]] = some (.v (.string (fracS (a, b)))) :=
  mk_eq (enc := fun (p : (Int) × (Int)) => [frac (p.1, p.2)]) (x := (a, b)) (by rintro ⟨a0, a1⟩ ⟨b0, b1⟩ h; simp [ints, intss, int, bool, row, frac, fracs, map_int_inj, map_row_inj, frac_inj, map_frac_inj] at h; simp [h]) trivial
theorem itoaS_size20 {n : Int} (h : inI n) : (itoaS n).size ≤ 20 := by unfold itoaS; rw [ba_size]; exact itoa_len h
set_option maxHeartbeats 1000000 in
theorem implFormatFraction_ok : FnOk Tryz.prog 43 mFFrac := by
  refine mk_ok fun ⟨a, b⟩ _ => ?_
  have hG : FnsOk Tryz.prog [(111, mFracOk), (17, mItoa)] := (.cons implFractionOk_ok (.cons implFormatInt_ok .nil))
  refine callOk_awp (ctx_ok eqOk hG) mixed (live := [true, true, true, true, false, false, false, true]) (dt := [(5, ⟨[], [], []⟩)]) Tryz.func43 rfl (by kernel_rfl) (by kernel_rfl) fun w0 hlens => ?_
  clear hlens
  cases h1 : fracOk (a, b) with
  | false => simp (config := {contextual := true}) [Tryz.f43, List.range, List.range.loop, ints, intss, int, bool, row, frac, fracs, ← List.map_take, ← List.map_drop, mFracOk_at, h1, fracS]
  | true =>
  have hr : inI a ∧ inI b := by
    simp only [fracOk, Bool.and_eq_true, decide_eq_true_eq] at h1
    exact ⟨⟨by omega, by omega⟩, by omega, by omega⟩
  have ha := mItoa_at a hr.1
  have hb := mItoa_at b hr.2
  have sa := itoaS_size20 hr.1
  have sb := itoaS_size20 hr.2
  by_cases h2 : b = 1
  · subst h2
    simp (config := {contextual := true}) [Tryz.f43, List.range, List.range.loop, ints, intss, int, bool, row, frac, fracs, ← List.map_take, ← List.map_drop, mFracOk_at, h1, fracS, ha]
  · have s1 : (itoaS a).size + 1 ≤ 9223372036854775807 := by omega
    have s2 : (itoaS a).size + 1 + (itoaS b).size ≤ 9223372036854775807 := by omega
    have e1 : (b == 1) = false := by simpa using h2
    simp (config := {contextual := true}) [Tryz.f43, List.range, List.range.loop, ints, intss, int, bool, row, frac, fracs, ← List.map_take, ← List.map_drop, mFracOk_at, h1, fracS, ha, hb, h2, e1, sz1, s1, s2]
end Go.Proofs.YtkfmhpgnhkdebaaGreatDoor.Ax
namespace Go.Proofs.YtkfmhpgnhkdebaaGreatDoor.Ax
open Go Go.RowKit
set_option linter.unusedSimpArgs false
def wf (f : Int × Int) : AV := .v (.string (fracS (f.1, f.2)))
def frT (fs : List (Int × Int)) : ByteArray := joinS (fs.map fracS) ⟨#[44]⟩
def frS (fs : List (Int × Int)) : ByteArray := if fs = [] then ⟨#[45]⟩ else frT fs
noncomputable def mFTx : List AV → Option AV := mk (fun p => p.2.length ≤ 1099511627776 ∧ p.2 ≠ []) (fun (p : (Bool) × (List (Int × Int))) => [fracs p.1 p.2]) (fun p => .v (.string (frT p.2)))
theorem mFTx_at (nl : Bool) (fs : List (Int × Int)) (hpre : fs.length ≤ 1099511627776 ∧ fs ≠ []) : mFTx [.sl nl 2 (fs.map frac)] = some (.v (.string (frT fs))) :=
  mk_eq (enc := fun (p : (Bool) × (List (Int × Int))) => [fracs p.1 p.2]) (x := (nl, fs)) (by rintro ⟨a0, a1⟩ ⟨b0, b1⟩ h; simp [ints, intss, int, bool, row, frac, fracs, map_int_inj, map_row_inj, frac_inj, map_frac_inj] at h; simp [h]) hpre
theorem fracS_len (f : Int × Int) : (bl (fracS f)).length ≤ 41 := by
  rw [← size_bl]
  unfold fracS
  split
  · rename_i h1
    have hr : inI f.1 ∧ inI f.2 := by
      simp only [fracOk, Bool.and_eq_true, decide_eq_true_eq] at h1
      exact ⟨⟨by omega, by omega⟩, by omega, by omega⟩
    have sa := itoaS_size20 hr.1
    have sb := itoaS_size20 hr.2
    split
    · omega
    · rw [ByteArray.size_append, ByteArray.size_append, sz1]; omega
  · exact Nat.zero_le _
theorem fr_join {fs : List (Int × Int)} (h : fs.length ≤ 1099511627776) : mJoin [.sl false 1 (fs.map wf), .v (.string ⟨#[44]⟩)] = some (.v (.string (frT fs))) := by
  have hl := join_len (c := 41) (sep := bl ⟨#[44]⟩) (ws := (fs.map fracS).map bl) (by
    intro w hw
    simp only [List.map_map, List.mem_map, Function.comp_apply] at hw
    obtain ⟨f, hf, rfl⟩ := hw
    exact fracS_len f)
  have e1 : (bl ⟨#[44]⟩).length = 1 := rfl
  rw [List.length_map, List.length_map, e1] at hl
  have := mJoin_at false (fs.map fracS) ⟨#[44]⟩ ⟨by rw [List.length_map]; omega, by omega⟩
  rw [List.map_map] at this
  exact this
set_option maxHeartbeats 1000000 in
theorem fractionTexts_ok : FnOk Tryz.prog 89 mFTx := by
  refine mk_ok fun ⟨nl, fs⟩ h => ?_
  simp only at h
  have hG : FnsOk Tryz.prog [(43, mFFrac), (67, mJoin)] := (.cons implFormatFraction_ok (.cons implJoin_ok .nil))
  refine callOk_awp (ctx_ok eqOk hG) mixed (live := [true, false, true, true, false, true, true, true, true, true]) (dt := []) Tryz.func89 rfl (by kernel_rfl) (by kernel_rfl) fun w0 hlens => ?_
  clear hlens
  have hN : fs.length ≤ 1099511627776 := by first | exact h | exact h.1
  have hj := fr_join hN
  rcases List.eq_nil_or_concat fs with rfl | ⟨l', x', hx⟩
  · first
    | exact absurd rfl h.2
    | (simp (config := {contextual := true}) [Tryz.f89, List.range, List.range.loop, ints, intss, int, bool, row, frac, fracs, ← List.map_take, ← List.map_drop, frS, frT]
       refine awp_range (live := [true, false, true, true, false, true, true, true, true, true]) (ctx_ok eqOk hG) mixed [false, false, false, true, false, false, true, true, true] (0) (fun k => True) (fun k => ⟨[.junk, .junk, .junk, .ref 0 [] 0 0, .junk, .junk, fracs nl [], int 0, int k, .junk, .junk, .junk, .junk, .junk, .junk, .junk, .junk, .junk, .junk, .junk], apV []⟩) ?_ (by simp [sub, slotsLe, clean, keep, refsL, refs, once, place, renL, ren, List.replicate, int, bool, fracs, apV]) ?_ ?_ ?_
       · omega
       · trivial
       · intro k hk; omega
       · intro _
         simp (config := {contextual := true}) [List.range, List.range.loop, ints, intss, int, bool, row, frac, fracs, ← List.map_take, ← List.map_drop, apV])
  have hne : fs ≠ [] := by rw [hx]; simp
  have h0 : 0 < fs.length := List.length_pos_iff.2 hne
  have hz : ¬ ((fs.length : Int) = 0) := by omega
  have hnS : frS fs = frT fs := by unfold frS; rw [if_neg hne]
  clear hx
  simp (config := {contextual := true}) [Tryz.f89, List.range, List.range.loop, ints, intss, int, bool, row, frac, fracs, ← List.map_take, ← List.map_drop, hz, hne]
  refine awp_range (live := [true, false, true, true, false, true, true, true, true, true]) (ctx_ok eqOk hG) mixed [false, false, false, true, false, false, true, true, true] (fs.length) (fun k => True) (fun k => ⟨[.junk, .junk, .junk, apW k, .junk, .junk, fracs nl fs, int fs.length, int k, .junk, .junk, .junk, .junk, .junk, .junk, .junk, .junk, .junk, .junk, .junk], apWt ((fs.take k).map wf) k⟩) ?_ (by simp [sub, slotsLe, clean, keep, refsL, refs, once, place, renL, ren, List.replicate, int, bool, fracs, apW, apWt, apV]) ?_ ?_ ?_
  · omega
  · trivial
  · intro k hk _ hwk
    have hit := mFFrac_at fs[k].1 fs[k].2
    have htr := take_snoc (f := wf) hk
    have hb : k + 1 ≤ 4611686018427387904 ∧ (k + 1) * 16 ≤ 140737488355328 := by omega
    have htl : (fs.take k).length = k := by simp; omega
    cases k with
    | zero =>
      have hwk1 : IntKind.i64.wrap 1 = 1 := by decide
      simp only [List.take_zero, List.map_nil, List.nil_append, wf] at htr
      rw [Nat.zero_add] at htr
      have ht1 := htr.symm
      simp (config := {contextual := true}) [List.range, List.range.loop, ints, intss, int, bool, row, frac, fracs, ← List.map_take, ← List.map_drop, frac, apW, apWt, apV, h0, hit, ht1, hb, hwk1]
    | succ k =>
      simp only [wf] at htr
      simp (config := {contextual := true}) [List.range, List.range.loop, ints, intss, int, bool, row, frac, fracs, ← List.map_take, ← List.map_drop, frac, apW, apWt, apV, hk, hit, htr, hb, hwk, htl]
      exact wrapI (by omega) (by omega)
  · intro _
    obtain ⟨m, hm⟩ : ∃ m, fs.length = m + 1 := ⟨fs.length - 1, by omega⟩
    have ht : fs.take (m + 1) = fs := List.take_of_length_le (by omega)
    rw [hm]
    simp (config := {contextual := true}) [List.range, List.range.loop, ints, intss, int, bool, row, frac, fracs, ← List.map_take, ← List.map_drop, apW, apWt, apV, ht, hm, hj, hnS]
    done
end Go.Proofs.YtkfmhpgnhkdebaaGreatDoor.Ax
namespace Go.Proofs.YtkfmhpgnhkdebaaGreatDoor.Ax
open Go Go.RowKit
set_option linter.unusedSimpArgs false
def lr (r : Bool × List (Int × Int)) : ByteArray := frT r.2
def wl (r : Bool × List (Int × Int)) : AV := .v (.string (lr r))
def lotT (m : List (Bool × List (Int × Int))) : ByteArray := joinS (m.map lr) ⟨#[32]⟩
def lotS (m : List (Bool × List (Int × Int))) : ByteArray := if lotB m = true then lotT m else ⟨#[]⟩
noncomputable def mFLot : List AV → Option AV := mk (fun _ => True) (fun (p : (Bool) × (List (Bool × List (Int × Int)))) => [fracss p.1 p.2]) (fun p => .v (.string (lotS p.2)))
theorem mFLot_at (nl : Bool) (m : List (Bool × List (Int × Int))) : mFLot [.sl nl 1 (m.map frow)] = some (.v (.string (lotS m))) :=
  mk_eq (enc := fun (p : (Bool) × (List (Bool × List (Int × Int)))) => [fracss p.1 p.2]) (x := (nl, m)) (by rintro ⟨a0, a1⟩ ⟨b0, b1⟩ h; simp [ints, intss, int, bool, row, frac, fracs, map_int_inj, map_row_inj, frac_inj, map_frac_inj, fracss, map_frow_inj] at h; simp [h]) trivial
theorem lot_rows {m : List (Bool × List (Int × Int))} (h : lotB m = true) : 1 ≤ m.length ∧ m.length ≤ 4 ∧ ∀ r ∈ m, r.2.length = m.length := by
  simp only [lotB, Bool.and_eq_true, inR, decide_eq_true_eq] at h
  refine ⟨by omega, by omega, fun r hr => ?_⟩
  obtain ⟨k, hk, rfl⟩ := List.getElem_of_mem hr
  have h2 := h.1.2
  unfold allR at h2
  rw [List.all_eq_true] at h2
  have := h2 k (by simpa using hk)
  simp only [partRow, getDF hk, Bool.and_eq_true, decide_eq_true_eq] at this
  exact this.1
theorem frT_len (fs : List (Int × Int)) : (bl (frT fs)).length ≤ 42 * fs.length := by
  unfold frT joinS
  rw [bl_mk]
  have hl := join_len (c := 41) (sep := bl ⟨#[44]⟩) (ws := (fs.map fracS).map bl) (by
    intro w hw
    simp only [List.map_map, List.mem_map, Function.comp_apply] at hw
    obtain ⟨f, hf, rfl⟩ := hw
    exact fracS_len f)
  have e1 : (bl ⟨#[44]⟩).length = 1 := rfl
  rw [List.length_map, List.length_map, e1] at hl
  omega
theorem lot_join {m : List (Bool × List (Int × Int))} (h : lotB m = true) : mJoin [.sl false 1 (m.map wl), .v (.string ⟨#[32]⟩)] = some (.v (.string (lotT m))) := by
  obtain ⟨h1, h4, hr⟩ := lot_rows h
  have hl := join_len (c := 168) (sep := bl ⟨#[32]⟩) (ws := (m.map lr).map bl) (by
    intro w hw
    simp only [List.map_map, List.mem_map, Function.comp_apply] at hw
    obtain ⟨r, hm, rfl⟩ := hw
    have := frT_len r.2
    have := hr r hm
    unfold lr
    omega)
  have e1 : (bl ⟨#[32]⟩).length = 1 := rfl
  rw [List.length_map, List.length_map, e1] at hl
  have := mJoin_at false (m.map lr) ⟨#[32]⟩ ⟨by rw [List.length_map]; omega, by omega⟩
  rw [List.map_map] at this
  exact this
set_option maxHeartbeats 1000000 in
theorem implFormatLottery_ok : FnOk Tryz.prog 34 mFLot := by
  refine mk_ok fun ⟨nl, m⟩ _ => ?_
  have hG : FnsOk Tryz.prog [(30, mLot), (89, mFTx), (67, mJoin)] := (.cons implLot_ok (.cons fractionTexts_ok (.cons implJoin_ok .nil)))
  refine callOk_awp (ctx_ok eqOk hG) mixed (live := [true, false, true, true, false, true, false, false, true, true, true, true, true]) (dt := []) Tryz.func34 rfl (by kernel_rfl) (by kernel_rfl) fun w0 hlens => ?_
  clear hlens
  cases hL : lotB m with
  | false => simp (config := {contextual := true}) [Tryz.f34, List.range, List.range.loop, ints, intss, int, bool, row, frac, fracs, ← List.map_take, ← List.map_drop, fracss, mLot_at, hL, lotS]
  | true =>
  obtain ⟨h1, h4, hr⟩ := lot_rows hL
  have hj := lot_join hL
  have hnS : lotS m = lotT m := by unfold lotS; rw [if_pos hL]
  have h0 : 0 < m.length := by omega
  simp (config := {contextual := true}) [Tryz.f34, List.range, List.range.loop, ints, intss, int, bool, row, frac, fracs, ← List.map_take, ← List.map_drop, fracss, mLot_at, hL]
  refine awp_range (live := [true, false, true, true, false, true, false, false, true, true, true, true, true]) (ctx_ok eqOk hG) mixed [false, false, false, true, false, false, false, false, false, true, true, true] (m.length) (fun k => True) (fun k => ⟨[.junk, .junk, .junk, apW k, .junk, .junk, .junk, .junk, .junk, fracss nl m, int m.length, int k, .junk, .junk, .junk, .junk, .junk, .junk, .junk, .junk, .junk, .junk, .junk], apWt ((m.take k).map wl) k⟩) ?_ (by simp [sub, slotsLe, clean, keep, refsL, refs, once, place, renL, ren, List.replicate, int, bool, fracss, apW, apWt, apV]) ?_ ?_ ?_
  · omega
  · trivial
  · intro k hk _ hwk
    have hne : m[k].2 ≠ [] := fun e => by have := hr _ (List.getElem_mem hk); rw [e] at this; simp at this; omega
    have hit := mFTx_at m[k].1 m[k].2 ⟨by have := hr _ (List.getElem_mem hk); omega, hne⟩
    have htr := take_snoc (f := wl) hk
    have hb : k + 1 ≤ 4611686018427387904 ∧ (k + 1) * 16 ≤ 140737488355328 := by omega
    have htl : (m.take k).length = k := by simp; omega
    cases k with
    | zero =>
      have hwk1 : IntKind.i64.wrap 1 = 1 := by decide
      simp only [List.take_zero, List.map_nil, List.nil_append, wl, lr] at htr
      rw [Nat.zero_add] at htr
      have ht1 := htr.symm
      simp (config := {contextual := true}) [List.range, List.range.loop, ints, intss, int, bool, row, frac, fracs, ← List.map_take, ← List.map_drop, fracss, frow, apW, apWt, apV, h0, hit, ht1, hb, hwk1]
    | succ k =>
      simp only [wl, lr] at htr
      simp (config := {contextual := true}) [List.range, List.range.loop, ints, intss, int, bool, row, frac, fracs, ← List.map_take, ← List.map_drop, fracss, frow, apW, apWt, apV, hk, hit, htr, hb, hwk, htl]
      exact wrapI (by omega) (by omega)
  · intro _
    obtain ⟨n, hm⟩ : ∃ n, m.length = n + 1 := ⟨m.length - 1, by omega⟩
    have ht : m.take (n + 1) = m := List.take_of_length_le (by omega)
    rw [hm]
    simp (config := {contextual := true}) [List.range, List.range.loop, ints, intss, int, bool, row, frac, fracs, ← List.map_take, ← List.map_drop, fracss, apW, apWt, apV, ht, hm, hj, hnS]
    done
end Go.Proofs.YtkfmhpgnhkdebaaGreatDoor.Ax
