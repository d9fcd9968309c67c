/-
  Contracts: FormatNumbers (both programs). No condition.
-/
import Derived.Test.YtblnpjppckfmfaaDoorCG73
namespace Go.Proofs.YtblnpjppckfmfaaDoor.Ax
open Go Go.RowKit
set_option linter.unusedSimpArgs false

/-- The slot of the words so far; their row. -/
def apW : Nat → AV
  | 0 => .sl true 1 []
  | k + 1 => .ref 0 [] 0 (k + 1)
def apWt (l : List AV) : Nat → List Tok
  | 0 => []
  | _ + 1 => [⟨true, .sl false 1 l⟩]
def apV (l : List AV) : List Tok := [⟨true, .sl false 1 l⟩]

theorem take_snoc {α : Type} {f : α → AV} {xs : List α} {k : Nat} (h : k < xs.length) : (xs.take k).map f ++ [f xs[k]] = (xs.take (k + 1)).map f := by
  rw [List.take_succ_eq_append_getElem h, List.map_append]; rfl

theorem dec_len10 : ∀ (k : Nat) (u : Nat), u < 10 ^ k → 0 < k → (Lib.decDigits u).length ≤ k
  | 0, _, _, h => absurd h (by omega)
  | k + 1, u, hu, _ => by
    by_cases h : u < 10
    · rw [dec_lt h]; simp
    · rw [dec_ge (by omega), List.length_append]
      have hk : 0 < k := by
        rcases Nat.eq_zero_or_pos k with rfl | h'
        · simp at hu; omega
        · exact h'
      have := dec_len10 k (u / 10) (by rw [Nat.pow_succ] at hu; omega) hk
      simp; omega
theorem itoa_len {n : Int} (h : inI n) : (Lib.itoa n).length ≤ 20 := by
  have h1 := h.1
  have h2 := h.2
  have h3 : (9223372036854775808 : Nat) < 10 ^ 19 := by decide
  unfold Lib.itoa
  split
  · have := dec_len10 19 n.natAbs (by omega) (by omega)
    simp; omega
  · have := dec_len10 19 n.toNat (by omega) (by omega)
    omega
theorem join_len {c : Nat} {sep : List UInt8} : ∀ {ws : List (List UInt8)}, (∀ w ∈ ws, w.length ≤ c) → (Lib.join ws sep).length ≤ (c + sep.length) * ws.length
  | [], _ => by simp [Lib.join_nil]
  | x :: r, h => by
    have hx := h x (by simp)
    have key : ∀ (r : List (List UInt8)), (∀ w ∈ r, w.length ≤ c) → (Lib.joinTail sep r).length ≤ (c + sep.length) * r.length := by
      intro r
      induction r with
      | nil => intro _; simp [Lib.joinTail]
      | cons y r ih =>
        intro h
        have h1 := h y (by simp)
        have h2 := ih fun w hw => h w (by simp [hw])
        simp only [Lib.joinTail, List.map_cons, List.flatten_cons, List.length_append, List.length_cons, Nat.mul_add, Nat.mul_one] at h2 ⊢
        omega
    have h2 := key r fun w hw => h w (by simp [hw])
    rw [Lib.join_cons, List.length_append, List.length_cons, Nat.mul_add, Nat.mul_one]
    omega

def wd (n : Int) : AV := .v (.string (itoaS n))
def numS (xs : List Int) : ByteArray := if xs = [] then ⟨#[45]⟩ else joinS (xs.map itoaS) ⟨#[44]⟩
def numOk (xs : List Int) : Prop := xs.length ≤ 1099511627776 ∧ ∀ n ∈ xs, inI n
noncomputable def mFNum : List AV → Option AV := mk (fun p => numOk p.2) (fun (p : (Bool) × (List Int)) => [ints p.1 p.2]) (fun p => .v (.string (numS p.2)))
theorem mFNum_at (nl : Bool) (xs : List Int) (hpre : numOk xs) : mFNum [.sl nl 1 (xs.map int)] = some (.v (.string (numS xs))) :=
  mk_eq (enc := fun (p : (Bool) × (List Int)) => [ints p.1 p.2]) (x := (nl, xs)) (by rintro ⟨a0, a1⟩ ⟨b0, b1⟩ h; simp [ints, intss, int, bool, row, frac, fracs, map_int_inj, map_row_inj, frac_inj, map_frac_inj] at h; simp [h]) hpre

theorem num_join {xs : List Int} (h : numOk xs) : mJoin [.sl false 1 (xs.map wd), .v (.string ⟨#[44]⟩)] = some (.v (.string (joinS (xs.map itoaS) ⟨#[44]⟩))) := by
  have h1 := h.1
  have hl := join_len (c := 20) (sep := bl ⟨#[44]⟩) (ws := (xs.map itoaS).map bl) (by
    intro w hw
    simp only [List.map_map, List.mem_map, Function.comp_apply] at hw
    obtain ⟨n, hn, rfl⟩ := hw
    unfold itoaS; rw [bl_mk]
    exact itoa_len (h.2 n hn))
  have e1 : (bl ⟨#[44]⟩).length = 1 := rfl
  rw [List.length_map, List.length_map, e1] at hl
  have := mJoin_at false (xs.map itoaS) ⟨#[44]⟩ ⟨by rw [List.length_map]; omega, by omega⟩
  rw [List.map_map] at this
  exact this

set_option maxHeartbeats 1000000 in
theorem implFormatNumbers_ok : FnOk Tryd.prog 31 mFNum := by
  refine mk_ok fun ⟨nl, xs⟩ h => ?_
  simp only at h
  have hG : FnsOk Tryd.prog [(38, mItoa), (52, mJoin)] := (.cons implFormatInt_ok (.cons implJoin_ok .nil))
  refine callOk_awp (ctx_ok eqOk hG) mixed (live := [true, false, true, true, false, true, false, false, true, true, true, true, true]) (dt := []) Tryd.func31 rfl (by kernel_rfl) (by kernel_rfl) fun w0 hlens => ?_
  clear hlens
  have hN := h.1
  have hj := num_join h
  rcases List.eq_nil_or_concat xs with rfl | ⟨l', x', hx⟩
  · simp (config := {contextual := true}) [Tryd.f31, List.range, List.range.loop, ints, intss, int, bool, row, frac, fracs, ← List.map_take, ← List.map_drop, numS]
    try (refine awp_range (live := [true, false, true, true, false, true, false, false, true, true, true, true, true]) (ctx_ok eqOk hG) mixed [false, false, false, true, false, false, false, false, false, true, true, true] (0) (fun k => True) (fun k => ⟨[.junk, .junk, .junk, .ref 0 [] 0 0, .junk, .junk, .junk, .junk, .junk, ints nl [], int 0, int k, .junk, .junk, .junk, .junk, .junk, .junk, .junk, .junk, .junk, .junk, .junk], apV []⟩) ?_ (by simp [sub, slotsLe, clean, keep, refsL, refs, once, place, renL, ren, List.replicate, int, bool, ints, apW, apWt, apV]) ?_ ?_ ?_
         · omega
         · trivial
         · intro k hk; omega
         · intro _
           simp (config := {contextual := true}) [List.range, List.range.loop, ints, intss, int, bool, row, frac, fracs, ← List.map_take, ← List.map_drop, apV])
    done
  have hne : xs ≠ [] := by rw [hx]; simp
  have h0 : 0 < xs.length := List.length_pos_iff.2 hne
  have hz : ¬ ((xs.length : Int) = 0) := by omega
  have hnS : numS xs = joinS (xs.map itoaS) ⟨#[44]⟩ := by unfold numS; rw [if_neg hne]
  clear hx
  simp (config := {contextual := true}) [Tryd.f31, List.range, List.range.loop, ints, intss, int, bool, row, frac, fracs, ← List.map_take, ← List.map_drop, hz, hne]
  refine awp_range (live := [true, false, true, true, false, true, false, false, true, true, true, true, true]) (ctx_ok eqOk hG) mixed [false, false, false, true, false, false, false, false, false, true, true, true] (xs.length) (fun k => True) (fun k => ⟨[.junk, .junk, .junk, apW k, .junk, .junk, .junk, .junk, .junk, ints nl xs, int xs.length, int k, .junk, .junk, .junk, .junk, .junk, .junk, .junk, .junk, .junk, .junk, .junk], apWt ((xs.take k).map wd) k⟩) ?_ (by simp [sub, slotsLe, clean, keep, refsL, refs, once, place, renL, ren, List.replicate, int, bool, ints, apW, apWt, apV]) ?_ ?_ ?_
  · omega
  · trivial
  · intro k hk _ hwk
    have hit := mItoa_at xs[k] (h.2 _ (List.getElem_mem hk))
    have htr := take_snoc (f := wd) hk
    have hb : k + 1 ≤ 4611686018427387904 ∧ (k + 1) * 16 ≤ 140737488355328 := by omega
    have htl : (xs.take k).length = k := by simp; omega
    cases k with
    | zero =>
      have hwk1 : IntKind.i64.wrap 1 = 1 := by decide
      simp only [List.take_zero, List.map_nil, List.nil_append, wd] at htr
      rw [Nat.zero_add] at htr
      have ht1 := htr.symm
      simp (config := {contextual := true}) [List.range, List.range.loop, ints, intss, int, bool, row, frac, fracs, ← List.map_take, ← List.map_drop, apW, apWt, apV, h0, hit, ht1, hb, hwk1]
    | succ k =>
      simp only [wd] at htr
      simp (config := {contextual := true}) [List.range, List.range.loop, ints, intss, int, bool, row, frac, fracs, ← List.map_take, ← List.map_drop, apW, apWt, apV, hk, hit, htr, hb, hwk, htl]
      exact wrapI (by omega) (by omega)
  · intro _
    obtain ⟨m, hm⟩ : ∃ m, xs.length = m + 1 := ⟨xs.length - 1, by omega⟩
    have ht : xs.take (m + 1) = xs := List.take_of_length_le (by omega)
    rw [hm]
    simp (config := {contextual := true}) [List.range, List.range.loop, ints, intss, int, bool, row, frac, fracs, ← List.map_take, ← List.map_drop, apW, apWt, apV, ht, hm, hj, hnS]
    done

set_option maxHeartbeats 1000000 in
theorem specFormatNumbers_ok : FnOk Tryd.prog 26 mFNum := by
  refine mk_ok fun ⟨nl, xs⟩ h => ?_
  simp only at h
  have hG : FnsOk Tryd.prog [(35, mItoa), (44, mJoin)] := (.cons specFormatInt_ok (.cons specJoin_ok .nil))
  refine callOk_awp (ctx_ok eqOk hG) mixed (live := [true, false, true, true, false, true, false, true, true, true, true, false, false, false, false, false, false, false, false, false, false, true]) (dt := []) Tryd.func26 rfl (by kernel_rfl) (by kernel_rfl) fun w0 hlens => ?_
  clear hlens
  have hN := h.1
  have hj := num_join h
  rcases List.eq_nil_or_concat xs with rfl | ⟨l', x', hx⟩
  · simp (config := {contextual := true}) [Tryd.f26, List.range, List.range.loop, ints, intss, int, bool, row, frac, fracs, ← List.map_take, ← List.map_drop, numS]
    try (refine awp_range (live := [true, false, true, true, false, true, false, true, true, true, true, false, false, false, false, false, false, false, false, false, false, true]) (ctx_ok eqOk hG) mixed [false, false, false, true, false, false, false, true, true, true] (0) (fun k => True) (fun k => ⟨[.junk, .junk, .junk, .ref 0 [] 0 0, .junk, .junk, .junk, ints nl [], int 0, int k, .junk, .junk, .junk, .junk, .junk, .junk, .junk, .junk, .junk, .junk, .junk, .junk, .junk, .junk], apV []⟩) ?_ (by simp [sub, slotsLe, clean, keep, refsL, refs, once, place, renL, ren, List.replicate, int, bool, ints, apW, apWt, apV]) ?_ ?_ ?_
         · omega
         · trivial
         · intro k hk; omega
         · intro _
           simp (config := {contextual := true}) [List.range, List.range.loop, ints, intss, int, bool, row, frac, fracs, ← List.map_take, ← List.map_drop, apV])
    done
  have hne : xs ≠ [] := by rw [hx]; simp
  have h0 : 0 < xs.length := List.length_pos_iff.2 hne
  have hz : ¬ ((xs.length : Int) = 0) := by omega
  have hnS : numS xs = joinS (xs.map itoaS) ⟨#[44]⟩ := by unfold numS; rw [if_neg hne]
  clear hx
  simp (config := {contextual := true}) [Tryd.f26, List.range, List.range.loop, ints, intss, int, bool, row, frac, fracs, ← List.map_take, ← List.map_drop, hz, hne]
  refine awp_range (live := [true, false, true, true, false, true, false, true, true, true, true, false, false, false, false, false, false, false, false, false, false, true]) (ctx_ok eqOk hG) mixed [false, false, false, true, false, false, false, true, true, true] (xs.length) (fun k => True) (fun k => ⟨[.junk, .junk, .junk, .ref 0 [] 0 k, .junk, .junk, .junk, ints nl xs, int xs.length, int k, .junk, .junk, .junk, .junk, .junk, .junk, .junk, .junk, .junk, .junk, .junk, .junk, .junk, .junk], apV ((xs.take k).map wd)⟩) ?_ (by simp [sub, slotsLe, clean, keep, refsL, refs, once, place, renL, ren, List.replicate, int, bool, ints, apW, apWt, apV]) ?_ ?_ ?_
  · omega
  · trivial
  · intro k hk _ hwk
    have hit := mItoa_at xs[k] (h.2 _ (List.getElem_mem hk))
    have htr := take_snoc (f := wd) hk
    have hb : k + 1 ≤ 4611686018427387904 ∧ (k + 1) * 16 ≤ 140737488355328 := by omega
    have htl : (xs.take k).length = k := by simp; omega
    cases k with
    | zero =>
      have hwk1 : IntKind.i64.wrap 1 = 1 := by decide
      simp only [List.take_zero, List.map_nil, List.nil_append, wd] at htr
      rw [Nat.zero_add] at htr
      have ht1 := htr.symm
      simp (config := {contextual := true}) [List.range, List.range.loop, ints, intss, int, bool, row, frac, fracs, ← List.map_take, ← List.map_drop, apW, apWt, apV, h0, hit, ht1, hb, hwk1]
    | succ k =>
      simp only [wd] at htr
      simp (config := {contextual := true}) [List.range, List.range.loop, ints, intss, int, bool, row, frac, fracs, ← List.map_take, ← List.map_drop, apW, apWt, apV, hk, hit, htr, hb, hwk, htl]
      exact wrapI (by omega) (by omega)
  · intro _
    obtain ⟨m, hm⟩ : ∃ m, xs.length = m + 1 := ⟨xs.length - 1, by omega⟩
    have ht : xs.take (m + 1) = xs := List.take_of_length_le (by omega)
    rw [hm]
    simp (config := {contextual := true}) [List.range, List.range.loop, ints, intss, int, bool, row, frac, fracs, ← List.map_take, ← List.map_drop, apW, apWt, apV, ht, hm, hj, hnS]
    done

end Go.Proofs.YtblnpjppckfmfaaDoor.Ax
