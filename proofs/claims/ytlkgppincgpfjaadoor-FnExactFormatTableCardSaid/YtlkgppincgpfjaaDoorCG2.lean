/-
  Contracts: FormatNumbers (both programs). No condition.
-/
import Derived.Test.YtlkgppincgpfjaaDoorCG1
namespace Go.Proofs.YtlkgppincgpfjaaDoor.Ax
open Go Go.RowKit
set_option linter.unusedSimpArgs false

/-- The slot of the words so far; their row. -/
def apW : Nat → AV
  | 0 => .sl true 1 []
  | k + 1 => .ref 0 [] 0 (k + 1)
def apWt (l : List AV) : Nat → List Tok
  | 0 => []
  | _ + 1 => [⟨true, .sl false 1 l⟩]
def apV (l : List AV) : List Tok := [⟨true, .sl false 1 l⟩]

theorem take_snoc {α : Type} {f : α → AV} {xs : List α} {k : Nat} (h : k < xs.length) : (xs.take k).map f ++ [f xs[k]] = (xs.take (k + 1)).map f := by
  rw [List.take_succ_eq_append_getElem h, List.map_append]; rfl

theorem dec_len10 : ∀ (k : Nat) (u : Nat), u < 10 ^ k → 0 < k → (Lib.decDigits u).length ≤ k
  | 0, _, _, h => absurd h (by omega)
  | k + 1, u, hu, _ => by
    by_cases h : u < 10
    · rw [dec_lt h]; simp
    · rw [dec_ge (by omega), List.length_append]
      have hk : 0 < k := by
        rcases Nat.eq_zero_or_pos k with rfl | h'
        · simp at hu; omega
        · exact h'
      have := dec_len10 k (u / 10) (by rw [Nat.pow_succ] at hu; omega) hk
      simp; omega
theorem itoa_len {n : Int} (h : inI n) : (Lib.itoa n).length ≤ 20 := by
  have h1 := h.1
  have h2 := h.2
  have h3 : (9223372036854775808 : Nat) < 10 ^ 19 := by decide
  unfold Lib.itoa
  split
  · have := dec_len10 19 n.natAbs (by omega) (by omega)
    simp; omega
  · have := dec_len10 19 n.toNat (by omega) (by omega)
    omega
theorem join_len {c : Nat} {sep : List UInt8} : ∀ {ws : List (List UInt8)}, (∀ w ∈ ws, w.length ≤ c) → (Lib.join ws sep).length ≤ (c + sep.length) * ws.length
  | [], _ => by simp [Lib.join_nil]
  | x :: r, h => by
    have hx := h x (by simp)
    have key : ∀ (r : List (List UInt8)), (∀ w ∈ r, w.length ≤ c) → (Lib.joinTail sep r).length ≤ (c + sep.length) * r.length := by
      intro r
      induction r with
      | nil => intro _; simp [Lib.joinTail]
      | cons y r ih =>
        intro h
        have h1 := h y (by simp)
        have h2 := ih fun w hw => h w (by simp [hw])
        simp only [Lib.joinTail, List.map_cons, List.flatten_cons, List.length_append, List.length_cons, Nat.mul_add, Nat.mul_one] at h2 ⊢
        omega
    have h2 := key r fun w hw => h w (by simp [hw])
    rw [Lib.join_cons, List.length_append, List.length_cons, Nat.mul_add, Nat.mul_one]
    omega

def wd (n : Int) : AV := .v (.string (itoaS n))
def numS (xs : List Int) : ByteArray := if xs = [] then ⟨#[45]⟩ else joinS (xs.map itoaS) ⟨#[44]⟩
def numOk (xs : List Int) : Prop := xs.length ≤ 1099511627776 ∧ ∀ n ∈ xs, inI n
noncomputable def mFNum : List AV → Option AV := mk (fun p => numOk p.2) (fun (p : (Bool) × (List Int)) => [ints p.1 p.2]) (fun p => .v (.string (numS p.2)))
theorem mFNum_at (nl : Bool) (xs : List Int) (hpre : numOk xs) : mFNum [.sl nl 1 (xs.map int)] = some (.v (.string (numS xs))) :=
  mk_eq (enc := fun (p : (Bool) × (List Int)) => [ints p.1 p.2]) (x := (nl, xs)) (by rintro ⟨a0, a1⟩ ⟨b0, b1⟩ h; simp [ints, intss, int, bool, row, frac, fracs, map_int_inj, map_row_inj, frac_inj, map_frac_inj] at h; simp [h]) hpre

theorem num_join {xs : List Int} (h : numOk xs) : mJoin [.sl false 1 (xs.map wd), .v (.string ⟨#[44]⟩)] = some (.v (.string (joinS (xs.map itoaS) ⟨#[44]⟩))) := by
  have h1 := h.1
  have hl := join_len (c := 20) (sep := bl ⟨#[44]⟩) (ws := (xs.map itoaS).map bl) (by
    intro w hw
    simp only [List.map_map, List.mem_map, Function.comp_apply] at hw
    obtain ⟨n, hn, rfl⟩ := hw
    unfold itoaS; rw [bl_mk]
    exact itoa_len (h.2 n hn))
  have e1 : (bl ⟨#[44]⟩).length = 1 := rfl
  rw [List.length_map, List.length_map, e1] at hl
  have := mJoin_at false (xs.map itoaS) ⟨#[44]⟩ ⟨by rw [List.length_map]; omega, by omega⟩
  rw [List.map_map] at this
  exact this

set_option maxHeartbeats 1000000 in
theorem implFormatNumbers_ok : FnOk Tryd.prog 31 mFNum := by
  refine mk_ok fun ⟨nl, xs⟩ h => ?_
  simp only at h
  have hG : FnsOk Tryd.prog [(61, mItoa), (59, mJoin)] := (.cons implFormatInt_ok (.cons implJoin_ok .nil))
  refine callOk_awp (ctx_ok eqOk hG) mixed (live := [true, false, true, true, false, true, false, false, true, true, true, true, true]) (dt := []) Tryd.func31 rfl (by kernel_rfl) (by kernel_rfl) fun w0 hlens => ?_
  clear hlens
  have hN := h.1
  have hj := num_join h
  rcases List.eq_nil_or_concat xs with rfl | ⟨l', x', hx⟩
  · simp (config := {contextual := true}) [Tryd.f31, List.range, List.range.loop, ints, intss, int, bool, row, frac, fracs, ← List.map_take, ← List.map_drop, numS]
    try (refine awp_range (live := [true, false, true, true, false, true, false, false, true, true, true, true, true]) (ctx_ok eqOk hG) mixed [false, false, false, true, false, false, false, false, false, true, true, true] (0) (fun k => True) (fun k => ⟨[.junk, .junk, .junk, .ref 0 [] 0 0, .junk, .junk, .junk, .junk, .junk, ints nl [], int 0, int k, .junk, .junk, .junk, .junk, .junk, .junk, .junk, .junk, .junk, .junk, .junk], apV []⟩) ?_ (by simp [sub, slotsLe, clean, keep, refsL, refs, once, place, renL, ren, List.replicate, int, bool, ints, apW, apWt, apV]) ?_ ?_ ?_
         · omega
         · trivial
         · intro k hk; omega
         · intro _
           simp (config := {contextual := true}) [List.range, List.range.loop, ints, intss, int, bool, row, frac, fracs, ← List.map_take, ← List.map_drop, apV])
    done
  have hne : xs ≠ [] := by rw [hx]; simp
  have h0 : 0 < xs.length := List.length_pos_iff.2 hne
  have hz : ¬ ((xs.length : Int) = 0) := by omega
  have hnS : numS xs = joinS (xs.map itoaS) ⟨#[44]⟩ := by unfold numS; rw [if_neg hne]
  clear hx
  simp (config := {contextual := true}) [Tryd.f31, List.range, List.range.loop, ints, intss, int, bool, row, frac, fracs, ← List.map_take, ← List.map_drop, hz, hne]
  refine awp_range (live := [true, false, true, true, false, true, false, false, true, true, true, true, true]) (ctx_ok eqOk hG) mixed [false, false, false, true, false, false, false, false, false, true, true, true] (xs.length) (fun k => True) (fun k => ⟨[.junk, .junk, .junk, apW k, .junk, .junk, .junk, .junk, .junk, ints nl xs, int xs.length, int k, .junk, .junk, .junk, .junk, .junk, .junk, .junk, .junk, .junk, .junk, .junk], apWt ((xs.take k).map wd) k⟩) ?_ (by simp [sub, slotsLe, clean, keep, refsL, refs, once, place, renL, ren, List.replicate, int, bool, ints, apW, apWt, apV]) ?_ ?_ ?_
  · omega
  · trivial
  · intro k hk _ hwk
    have hit := mItoa_at xs[k] (h.2 _ (List.getElem_mem hk))
    have htr := take_snoc (f := wd) hk
    have hb : k + 1 ≤ 4611686018427387904 ∧ (k + 1) * 16 ≤ 140737488355328 := by omega
    have htl : (xs.take k).length = k := by simp; omega
    cases k with
    | zero =>
      have hwk1 : IntKind.i64.wrap 1 = 1 := by decide
      simp only [List.take_zero, List.map_nil, List.nil_append, wd] at htr
      rw [Nat.zero_add] at htr
      have ht1 := htr.symm
      simp (config := {contextual := true}) [List.range, List.range.loop, ints, intss, int, bool, row, frac, fracs, ← List.map_take, ← List.map_drop, apW, apWt, apV, h0, hit, ht1, hb, hwk1]
    | succ k =>
      simp only [wd] at htr
      simp (config := {contextual := true}) [List.range, List.range.loop, ints, intss, int, bool, row, frac, fracs, ← List.map_take, ← List.map_drop, apW, apWt, apV, hk, hit, htr, hb, hwk, htl]
      exact wrapI (by omega) (by omega)
  · intro _
    obtain ⟨m, hm⟩ : ∃ m, xs.length = m + 1 := ⟨xs.length - 1, by omega⟩
    have ht : xs.take (m + 1) = xs := List.take_of_length_le (by omega)
    rw [hm]
    simp (config := {contextual := true}) [List.range, List.range.loop, ints, intss, int, bool, row, frac, fracs, ← List.map_take, ← List.map_drop, apW, apWt, apV, ht, hm, hj, hnS]
    done

set_option maxHeartbeats 1000000 in
theorem specFormatNumbers_ok : FnOk Tryd.prog 29 mFNum := by
  refine mk_ok fun ⟨nl, xs⟩ h => ?_
  simp only at h
  have hG : FnsOk Tryd.prog [(60, mItoa), (53, mJoin)] := (.cons specFormatInt_ok (.cons specJoin_ok .nil))
  refine callOk_awp (ctx_ok eqOk hG) mixed (live := [true, false, true, true, false, true, false, true, true, true, true, false, false, false, false, false, false, false, false, false, false, true]) (dt := []) Tryd.func29 rfl (by kernel_rfl) (by kernel_rfl) fun w0 hlens => ?_
  clear hlens
  have hN := h.1
  have hj := num_join h
  rcases List.eq_nil_or_concat xs with rfl | ⟨l', x', hx⟩
  · simp (config := {contextual := true}) [Tryd.f29, List.range, List.range.loop, ints, intss, int, bool, row, frac, fracs, ← List.map_take, ← List.map_drop, numS]
    try (refine awp_range (live := [true, false, true, true, false, true, false, true, true, true, true, false, false, false, false, false, false, false, false, false, false, true]) (ctx_ok eqOk hG) mixed [false, false, false, true, false, false, false, true, true, true] (0) (fun k => True) (fun k => ⟨[.junk, .junk, .junk, .ref 0 [] 0 0, .junk, .junk, .junk, ints nl [], int 0, int k, .junk, .junk, .junk, .junk, .junk, .junk, .junk, .junk, .junk, .junk, .junk, .junk, .junk, .junk], apV []⟩) ?_ (by simp [sub, slotsLe, clean, keep, refsL, refs, once, place, renL, ren, List.replicate, int, bool, ints, apW, apWt, apV]) ?_ ?_ ?_
         · omega
         · trivial
         · intro k hk; omega
         · intro _
           simp (config := {contextual := true}) [List.range, List.range.loop, ints, intss, int, bool, row, frac, fracs, ← List.map_take, ← List.map_drop, apV])
    done
  have hne : xs ≠ [] := by rw [hx]; simp
  have h0 : 0 < xs.length := List.length_pos_iff.2 hne
  have hz : ¬ ((xs.length : Int) = 0) := by omega
  have hnS : numS xs = joinS (xs.map itoaS) ⟨#[44]⟩ := by unfold numS; rw [if_neg hne]
  clear hx
  simp (config := {contextual := true}) [Tryd.f29, List.range, List.range.loop, ints, intss, int, bool, row, frac, fracs, ← List.map_take, ← List.map_drop, hz, hne]
  refine awp_range (live := [true, false, true, true, false, true, false, true, true, true, true, false, false, false, false, false, false, false, false, false, false, true]) (ctx_ok eqOk hG) mixed [false, false, false, true, false, false, false, true, true, true] (xs.length) (fun k => True) (fun k => ⟨[.junk, .junk, .junk, .ref 0 [] 0 k, .junk, .junk, .junk, ints nl xs, int xs.length, int k, .junk, .junk, .junk, .junk, .junk, .junk, .junk, .junk, .junk, .junk, .junk, .junk, .junk, .junk], apV ((xs.take k).map wd)⟩) ?_ (by simp [sub, slotsLe, clean, keep, refsL, refs, once, place, renL, ren, List.replicate, int, bool, ints, apW, apWt, apV]) ?_ ?_ ?_
  · omega
  · trivial
  · intro k hk _ hwk
    have hit := mItoa_at xs[k] (h.2 _ (List.getElem_mem hk))
    have htr := take_snoc (f := wd) hk
    have hb : k + 1 ≤ 4611686018427387904 ∧ (k + 1) * 16 ≤ 140737488355328 := by omega
    have htl : (xs.take k).length = k := by simp; omega
    cases k with
    | zero =>
      have hwk1 : IntKind.i64.wrap 1 = 1 := by decide
      simp only [List.take_zero, List.map_nil, List.nil_append, wd] at htr
      rw [Nat.zero_add] at htr
      have ht1 := htr.symm
      simp (config := {contextual := true}) [List.range, List.range.loop, ints, intss, int, bool, row, frac, fracs, ← List.map_take, ← List.map_drop, apW, apWt, apV, h0, hit, ht1, hb, hwk1]
    | succ k =>
      simp only [wd] at htr
      simp (config := {contextual := true}) [List.range, List.range.loop, ints, intss, int, bool, row, frac, fracs, ← List.map_take, ← List.map_drop, apW, apWt, apV, hk, hit, htr, hb, hwk, htl]
      exact wrapI (by omega) (by omega)
  · intro _
    obtain ⟨m, hm⟩ : ∃ m, xs.length = m + 1 := ⟨xs.length - 1, by omega⟩
    have ht : xs.take (m + 1) = xs := List.take_of_length_le (by omega)
    rw [hm]
    simp (config := {contextual := true}) [List.range, List.range.loop, ints, intss, int, bool, row, frac, fracs, ← List.map_take, ← List.map_drop, apW, apWt, apV, ht, hm, hj, hnS]
    done

end Go.Proofs.YtlkgppincgpfjaaDoor.Ax

/-
  Contracts: FormatTable (both programs). No condition.
-/
namespace Go.Proofs.YtlkgppincgpfjaaDoor.Ax
open Go Go.RowKit
set_option linter.unusedSimpArgs false

theorem numS_len {xs : List Int} (h : ∀ n ∈ xs, inI n) : (bl (numS xs)).length ≤ 21 * xs.length + 1 := by
  unfold numS
  split
  · exact Nat.le_add_left _ _
  · unfold joinS
    rw [bl_mk]
    have hl := join_len (c := 20) (sep := bl ⟨#[44]⟩) (ws := (xs.map itoaS).map bl) (by
      intro w hw
      simp only [List.map_map, List.mem_map, Function.comp_apply] at hw
      obtain ⟨n, hn, rfl⟩ := hw
      unfold itoaS; rw [bl_mk]
      exact itoa_len (h n hn))
    have e1 : (bl ⟨#[44]⟩).length = 1 := rfl
    rw [List.length_map, List.length_map, e1] at hl
    omega

def rowS (r : Bool × List Int) : ByteArray := numS r.2
def wr (r : Bool × List Int) : AV := .v (.string (rowS r))
def tabS (xss : List (Bool × List Int)) : ByteArray := if xss = [] then ⟨#[61]⟩ else joinS (xss.map rowS) ⟨#[59]⟩
def tabOk (xss : List (Bool × List Int)) : Prop := xss.length ≤ 1048576 ∧ ∀ r ∈ xss, r.2.length ≤ 1048576 ∧ ∀ n ∈ r.2, inI n
noncomputable def mFTab : List AV → Option AV := mk (fun p => tabOk p.2) (fun (p : (Bool) × (List (Bool × List Int))) => [intss p.1 p.2]) (fun p => .v (.string (tabS p.2)))
theorem mFTab_at (nl : Bool) (xss : List (Bool × List Int)) (hpre : tabOk xss) : mFTab [.sl nl 1 (xss.map row)] = some (.v (.string (tabS xss))) :=
  mk_eq (enc := fun (p : (Bool) × (List (Bool × List Int))) => [intss p.1 p.2]) (x := (nl, xss)) (by rintro ⟨a0, a1⟩ ⟨b0, b1⟩ h; simp [ints, intss, int, bool, row, frac, fracs, map_int_inj, map_row_inj, frac_inj, map_frac_inj] at h; simp [h]) hpre

theorem tab_join {xss : List (Bool × List Int)} (h : tabOk xss) : mJoin [.sl false 1 (xss.map wr), .v (.string ⟨#[59]⟩)] = some (.v (.string (joinS (xss.map rowS) ⟨#[59]⟩))) := by
  have h1 := h.1
  have hl := join_len (c := 22020097) (sep := bl ⟨#[59]⟩) (ws := (xss.map rowS).map bl) (by
    intro w hw
    simp only [List.map_map, List.mem_map, Function.comp_apply] at hw
    obtain ⟨r, hr, rfl⟩ := hw
    have := numS_len (h.2 r hr).2
    have := (h.2 r hr).1
    unfold rowS
    omega)
  have e1 : (bl ⟨#[59]⟩).length = 1 := rfl
  rw [List.length_map, List.length_map, e1] at hl
  have := mJoin_at false (xss.map rowS) ⟨#[59]⟩ ⟨by rw [List.length_map]; omega, by omega⟩
  rw [List.map_map] at this
  exact this

set_option maxHeartbeats 1000000 in
theorem implFormatTable_ok : FnOk Tryd.prog 34 mFTab := by
  refine mk_ok fun ⟨nl, xss⟩ h => ?_
  simp only at h
  have hG : FnsOk Tryd.prog [(31, mFNum), (59, mJoin)] := (.cons implFormatNumbers_ok (.cons implJoin_ok .nil))
  refine callOk_awp (ctx_ok eqOk hG) mixed (live := [true, false, true, true, false, true, false, false, true, true, true, true, true]) (dt := []) Tryd.func34 rfl (by kernel_rfl) (by kernel_rfl) fun w0 hlens => ?_
  clear hlens
  have hN := h.1
  have hj := tab_join h
  rcases List.eq_nil_or_concat xss with rfl | ⟨l', x', hx⟩
  · simp (config := {contextual := true}) [Tryd.f34, List.range, List.range.loop, ints, intss, int, bool, row, frac, fracs, ← List.map_take, ← List.map_drop, tabS]
    try (refine awp_range (live := [true, false, true, true, false, true, false, false, true, true, true, true, true]) (ctx_ok eqOk hG) mixed [false, false, false, true, false, false, false, false, false, true, true, true] (0) (fun k => True) (fun k => ⟨[.junk, .junk, .junk, .ref 0 [] 0 0, .junk, .junk, .junk, .junk, .junk, intss nl [], int 0, int k, .junk, .junk, .junk, .junk, .junk, .junk, .junk, .junk, .junk, .junk, .junk], apV []⟩) ?_ (by simp [sub, slotsLe, clean, keep, refsL, refs, once, place, renL, ren, List.replicate, int, bool, intss, apW, apWt, apV]) ?_ ?_ ?_
         · omega
         · trivial
         · intro k hk; omega
         · intro _
           simp (config := {contextual := true}) [List.range, List.range.loop, ints, intss, int, bool, row, frac, fracs, ← List.map_take, ← List.map_drop, apV])
    done
  have hne : xss ≠ [] := by rw [hx]; simp
  have h0 : 0 < xss.length := List.length_pos_iff.2 hne
  have hz : ¬ ((xss.length : Int) = 0) := by omega
  have hnS : tabS xss = joinS (xss.map rowS) ⟨#[59]⟩ := by unfold tabS; rw [if_neg hne]
  clear hx
  simp (config := {contextual := true}) [Tryd.f34, List.range, List.range.loop, ints, intss, int, bool, row, frac, fracs, ← List.map_take, ← List.map_drop, hz, hne]
  refine awp_range (live := [true, false, true, true, false, true, false, false, true, true, true, true, true]) (ctx_ok eqOk hG) mixed [false, false, false, true, false, false, false, false, false, true, true, true] (xss.length) (fun k => True) (fun k => ⟨[.junk, .junk, .junk, apW k, .junk, .junk, .junk, .junk, .junk, intss nl xss, int xss.length, int k, .junk, .junk, .junk, .junk, .junk, .junk, .junk, .junk, .junk, .junk, .junk], apWt ((xss.take k).map wr) k⟩) ?_ (by simp [sub, slotsLe, clean, keep, refsL, refs, once, place, renL, ren, List.replicate, int, bool, intss, apW, apWt, apV]) ?_ ?_ ?_
  · omega
  · trivial
  · intro k hk _ hwk
    have hit := mFNum_at xss[k].1 xss[k].2 ⟨by have := (h.2 _ (List.getElem_mem hk)).1; omega, (h.2 _ (List.getElem_mem hk)).2⟩
    have htr := take_snoc (f := wr) hk
    have hb : k + 1 ≤ 4611686018427387904 ∧ (k + 1) * 16 ≤ 140737488355328 := by omega
    have htl : (xss.take k).length = k := by simp; omega
    cases k with
    | zero =>
      have hwk1 : IntKind.i64.wrap 1 = 1 := by decide
      simp only [List.take_zero, List.map_nil, List.nil_append, wr, rowS] at htr
      rw [Nat.zero_add] at htr
      have ht1 := htr.symm
      simp (config := {contextual := true}) [List.range, List.range.loop, ints, intss, int, bool, row, frac, fracs, ← List.map_take, ← List.map_drop, row, apW, apWt, apV, h0, hit, ht1, hb, hwk1]
    | succ k =>
      simp only [wr, rowS] at htr
      simp (config := {contextual := true}) [List.range, List.range.loop, ints, intss, int, bool, row, frac, fracs, ← List.map_take, ← List.map_drop, row, apW, apWt, apV, hk, hit, htr, hb, hwk, htl]
      exact wrapI (by omega) (by omega)
  · intro _
    obtain ⟨m, hm⟩ : ∃ m, xss.length = m + 1 := ⟨xss.length - 1, by omega⟩
    have ht : xss.take (m + 1) = xss := List.take_of_length_le (by omega)
    rw [hm]
    simp (config := {contextual := true}) [List.range, List.range.loop, ints, intss, int, bool, row, frac, fracs, ← List.map_take, ← List.map_drop, apW, apWt, apV, ht, hm, hj, hnS]
    done

set_option maxHeartbeats 1000000 in
theorem specFormatTable_ok : FnOk Tryd.prog 33 mFTab := by
  refine mk_ok fun ⟨nl, xss⟩ h => ?_
  simp only at h
  have hG : FnsOk Tryd.prog [(29, mFNum), (53, mJoin)] := (.cons specFormatNumbers_ok (.cons specJoin_ok .nil))
  refine callOk_awp (ctx_ok eqOk hG) mixed (live := [true, false, true, true, false, true, false, true, true, true, true, false, false, false, false, false, false, false, false, false, false, true]) (dt := []) Tryd.func33 rfl (by kernel_rfl) (by kernel_rfl) fun w0 hlens => ?_
  clear hlens
  have hN := h.1
  have hj := tab_join h
  rcases List.eq_nil_or_concat xss with rfl | ⟨l', x', hx⟩
  · simp (config := {contextual := true}) [Tryd.f33, List.range, List.range.loop, ints, intss, int, bool, row, frac, fracs, ← List.map_take, ← List.map_drop, tabS]
    try (refine awp_range (live := [true, false, true, true, false, true, false, true, true, true, true, false, false, false, false, false, false, false, false, false, false, true]) (ctx_ok eqOk hG) mixed [false, false, false, true, false, false, false, true, true, true] (0) (fun k => True) (fun k => ⟨[.junk, .junk, .junk, .ref 0 [] 0 0, .junk, .junk, .junk, intss nl [], int 0, int k, .junk, .junk, .junk, .junk, .junk, .junk, .junk, .junk, .junk, .junk, .junk, .junk, .junk, .junk], apV []⟩) ?_ (by simp [sub, slotsLe, clean, keep, refsL, refs, once, place, renL, ren, List.replicate, int, bool, intss, apW, apWt, apV]) ?_ ?_ ?_
         · omega
         · trivial
         · intro k hk; omega
         · intro _
           simp (config := {contextual := true}) [List.range, List.range.loop, ints, intss, int, bool, row, frac, fracs, ← List.map_take, ← List.map_drop, apV])
    done
  have hne : xss ≠ [] := by rw [hx]; simp
  have h0 : 0 < xss.length := List.length_pos_iff.2 hne
  have hz : ¬ ((xss.length : Int) = 0) := by omega
  have hnS : tabS xss = joinS (xss.map rowS) ⟨#[59]⟩ := by unfold tabS; rw [if_neg hne]
  clear hx
  simp (config := {contextual := true}) [Tryd.f33, List.range, List.range.loop, ints, intss, int, bool, row, frac, fracs, ← List.map_take, ← List.map_drop, hz, hne]
  refine awp_range (live := [true, false, true, true, false, true, false, true, true, true, true, false, false, false, false, false, false, false, false, false, false, true]) (ctx_ok eqOk hG) mixed [false, false, false, true, false, false, false, true, true, true] (xss.length) (fun k => True) (fun k => ⟨[.junk, .junk, .junk, .ref 0 [] 0 k, .junk, .junk, .junk, intss nl xss, int xss.length, int k, .junk, .junk, .junk, .junk, .junk, .junk, .junk, .junk, .junk, .junk, .junk, .junk, .junk, .junk], apV ((xss.take k).map wr)⟩) ?_ (by simp [sub, slotsLe, clean, keep, refsL, refs, once, place, renL, ren, List.replicate, int, bool, intss, apW, apWt, apV]) ?_ ?_ ?_
  · omega
  · trivial
  · intro k hk _ hwk
    have hit := mFNum_at xss[k].1 xss[k].2 ⟨by have := (h.2 _ (List.getElem_mem hk)).1; omega, (h.2 _ (List.getElem_mem hk)).2⟩
    have htr := take_snoc (f := wr) hk
    have hb : k + 1 ≤ 4611686018427387904 ∧ (k + 1) * 16 ≤ 140737488355328 := by omega
    have htl : (xss.take k).length = k := by simp; omega
    cases k with
    | zero =>
      have hwk1 : IntKind.i64.wrap 1 = 1 := by decide
      simp only [List.take_zero, List.map_nil, List.nil_append, wr, rowS] at htr
      rw [Nat.zero_add] at htr
      have ht1 := htr.symm
      simp (config := {contextual := true}) [List.range, List.range.loop, ints, intss, int, bool, row, frac, fracs, ← List.map_take, ← List.map_drop, row, apW, apWt, apV, h0, hit, ht1, hb, hwk1]
    | succ k =>
      simp only [wr, rowS] at htr
      simp (config := {contextual := true}) [List.range, List.range.loop, ints, intss, int, bool, row, frac, fracs, ← List.map_take, ← List.map_drop, row, apW, apWt, apV, hk, hit, htr, hb, hwk, htl]
      exact wrapI (by omega) (by omega)
  · intro _
    obtain ⟨m, hm⟩ : ∃ m, xss.length = m + 1 := ⟨xss.length - 1, by omega⟩
    have ht : xss.take (m + 1) = xss := List.take_of_length_le (by omega)
    rw [hm]
    simp (config := {contextual := true}) [List.range, List.range.loop, ints, intss, int, bool, row, frac, fracs, ← List.map_take, ← List.map_drop, apW, apWt, apV, ht, hm, hj, hnS]
    done

theorem row_need {xss : List (Bool × List Int)} {r : Bool × List Int} (h : r ∈ xss) : r.2.length ≤ rowSum xss xss.length := by
  obtain ⟨k, hk, rfl⟩ := List.getElem_of_mem h
  have h1 := rowSum_succ hk
  have h2 := rowSum_mono (xss := xss) (show k + 1 ≤ xss.length by omega)
  omega
theorem tab_own {xss : List (Bool × List Int)} (h : need xss ≤ 1048576) (hx : ∀ r ∈ xss, ∀ n ∈ r.2, inI n) : tabOk (own xss) := by
  unfold need at h
  refine ⟨by simp only [own, List.length_map]; omega, fun r hr => ?_⟩
  simp only [own, List.mem_map] at hr
  obtain ⟨p, hp, rfl⟩ := hr
  have h9 := row_need hp
  have h8 : p.2.length ≤ 1048576 := by omega
  exact ⟨h8, fun n hn => hx p hp n hn⟩

end Go.Proofs.YtlkgppincgpfjaaDoor.Ax

/-
  Contracts: FormatFraction, FormatFractions (both programs). No condition.
-/
namespace Go.Proofs.YtlkgppincgpfjaaDoor.Ax
open Go Go.RowKit
set_option linter.unusedSimpArgs false

def fracS (f : Int × Int) : ByteArray := if fracOk f = true then (if f.2 = 1 then itoaS f.1 else itoaS f.1 ++ ⟨#[47]⟩ ++ itoaS f.2) else ⟨#[]⟩
noncomputable def mFFrac : List AV → Option AV := mk (fun _ => True) (fun (p : (Int) × (Int)) => [frac (p.1, p.2)]) (fun p => .v (.string (fracS (p.1, p.2))))
theorem mFFrac_at (a : Int) (b : Int) : mFFrac [.agg [.v (.int .i64 a), .v (.int .i64 b)]] = some (.v (.string (fracS (a, b)))) :=
  mk_eq (enc := fun (p : (Int) × (Int)) => [frac (p.1, p.2)]) (x := (a, b)) (by rintro ⟨a0, a1⟩ ⟨b0, b1⟩ h; simp [ints, intss, int, bool, row, frac, fracs, map_int_inj, map_row_inj, frac_inj, map_frac_inj] at h; simp [h]) trivial

theorem itoaS_size20 {n : Int} (h : inI n) : (itoaS n).size ≤ 20 := by unfold itoaS; rw [ba_size]; exact itoa_len h

set_option maxHeartbeats 1000000 in
theorem implFormatFraction_ok : FnOk Tryd.prog 91 mFFrac := by
  refine mk_ok fun ⟨a, b⟩ _ => ?_
  have hG : FnsOk Tryd.prog [(105, mFracOk), (61, mItoa)] := (.cons implFractionOk_ok (.cons implFormatInt_ok .nil))
  refine callOk_awp (ctx_ok eqOk hG) mixed (live := [true, true, true, true, false, false, false, true]) (dt := [(5, ⟨[], [], []⟩)]) Tryd.func91 rfl (by kernel_rfl) (by kernel_rfl) fun w0 hlens => ?_
  clear hlens
  cases h1 : fracOk (a, b) with
  | false => simp (config := {contextual := true}) [Tryd.f91, List.range, List.range.loop, ints, intss, int, bool, row, frac, fracs, ← List.map_take, ← List.map_drop, mFracOk_at, h1, fracS]
  | true =>
  have hr : inI a ∧ inI b := by
    simp only [fracOk, Bool.and_eq_true, decide_eq_true_eq] at h1
    exact ⟨⟨by omega, by omega⟩, by omega, by omega⟩
  have ha := mItoa_at a hr.1
  have hb := mItoa_at b hr.2
  have sa := itoaS_size20 hr.1
  have sb := itoaS_size20 hr.2
  by_cases h2 : b = 1
  · subst h2
    simp (config := {contextual := true}) [Tryd.f91, List.range, List.range.loop, ints, intss, int, bool, row, frac, fracs, ← List.map_take, ← List.map_drop, mFracOk_at, h1, fracS, ha]
  · have s1 : (itoaS a).size + 1 ≤ 9223372036854775807 := by omega
    have s2 : (itoaS a).size + 1 + (itoaS b).size ≤ 9223372036854775807 := by omega
    have e1 : (b == 1) = false := by simpa using h2
    simp (config := {contextual := true}) [Tryd.f91, List.range, List.range.loop, ints, intss, int, bool, row, frac, fracs, ← List.map_take, ← List.map_drop, mFracOk_at, h1, fracS, ha, hb, h2, e1, sz1, s1, s2]

set_option maxHeartbeats 1000000 in
theorem specFormatFraction_ok : FnOk Tryd.prog 52 mFFrac := by
  refine mk_ok fun ⟨a, b⟩ _ => ?_
  have hG : FnsOk Tryd.prog [(90, mFracOk), (60, mItoa)] := (.cons specFractionOk_ok (.cons specFormatInt_ok .nil))
  refine callOk_awp (ctx_ok eqOk hG) mixed (live := [true, true, true, false, false, true, false, false, true]) (dt := [(5, ⟨[], [], []⟩)]) Tryd.func52 rfl (by kernel_rfl) (by kernel_rfl) fun w0 hlens => ?_
  clear hlens
  cases h1 : fracOk (a, b) with
  | false => simp (config := {contextual := true}) [Tryd.f52, List.range, List.range.loop, ints, intss, int, bool, row, frac, fracs, ← List.map_take, ← List.map_drop, mFracOk_at, h1, fracS]
  | true =>
  have hr : inI a ∧ inI b := by
    simp only [fracOk, Bool.and_eq_true, decide_eq_true_eq] at h1
    exact ⟨⟨by omega, by omega⟩, by omega, by omega⟩
  have ha := mItoa_at a hr.1
  have hb := mItoa_at b hr.2
  have sa := itoaS_size20 hr.1
  have sb := itoaS_size20 hr.2
  by_cases h2 : b = 1
  · subst h2
    simp (config := {contextual := true}) [Tryd.f52, List.range, List.range.loop, ints, intss, int, bool, row, frac, fracs, ← List.map_take, ← List.map_drop, mFracOk_at, h1, fracS, ha]
  · have s1 : (itoaS a).size + 1 ≤ 9223372036854775807 := by omega
    have s2 : (itoaS a).size + 1 + (itoaS b).size ≤ 9223372036854775807 := by omega
    have e1 : (b == 1) = false := by simpa using h2
    simp (config := {contextual := true}) [Tryd.f52, List.range, List.range.loop, ints, intss, int, bool, row, frac, fracs, ← List.map_take, ← List.map_drop, mFracOk_at, h1, fracS, ha, hb, h2, e1, sz1, s1, s2]

end Go.Proofs.YtlkgppincgpfjaaDoor.Ax

/-
  Contracts: FormatFractions (both programs). No condition.
-/
namespace Go.Proofs.YtlkgppincgpfjaaDoor.Ax
open Go Go.RowKit
set_option linter.unusedSimpArgs false

def wf (f : Int × Int) : AV := .v (.string (fracS (f.1, f.2)))
def frT (fs : List (Int × Int)) : ByteArray := joinS (fs.map fracS) ⟨#[44]⟩
def frS (fs : List (Int × Int)) : ByteArray := if fs = [] then ⟨#[45]⟩ else frT fs
noncomputable def mFTx : List AV → Option AV := mk (fun p => p.2.length ≤ 1099511627776 ∧ p.2 ≠ []) (fun (p : (Bool) × (List (Int × Int))) => [fracs p.1 p.2]) (fun p => .v (.string (frT p.2)))
theorem mFTx_at (nl : Bool) (fs : List (Int × Int)) (hpre : fs.length ≤ 1099511627776 ∧ fs ≠ []) : mFTx [.sl nl 2 (fs.map frac)] = some (.v (.string (frT fs))) :=
  mk_eq (enc := fun (p : (Bool) × (List (Int × Int))) => [fracs p.1 p.2]) (x := (nl, fs)) (by rintro ⟨a0, a1⟩ ⟨b0, b1⟩ h; simp [ints, intss, int, bool, row, frac, fracs, map_int_inj, map_row_inj, frac_inj, map_frac_inj] at h; simp [h]) hpre
noncomputable def mFFs : List AV → Option AV := mk (fun p => p.2.length ≤ 1099511627776) (fun (p : (Bool) × (List (Int × Int))) => [fracs p.1 p.2]) (fun p => .v (.string (frS p.2)))
theorem mFFs_at (nl : Bool) (fs : List (Int × Int)) (hpre : fs.length ≤ 1099511627776) : mFFs [.sl nl 2 (fs.map frac)] = some (.v (.string (frS fs))) :=
  mk_eq (enc := fun (p : (Bool) × (List (Int × Int))) => [fracs p.1 p.2]) (x := (nl, fs)) (by rintro ⟨a0, a1⟩ ⟨b0, b1⟩ h; simp [ints, intss, int, bool, row, frac, fracs, map_int_inj, map_row_inj, frac_inj, map_frac_inj] at h; simp [h]) hpre

theorem fracS_len (f : Int × Int) : (bl (fracS f)).length ≤ 41 := by
  rw [← size_bl]
  unfold fracS
  split
  · rename_i h1
    have hr : inI f.1 ∧ inI f.2 := by
      simp only [fracOk, Bool.and_eq_true, decide_eq_true_eq] at h1
      exact ⟨⟨by omega, by omega⟩, by omega, by omega⟩
    have sa := itoaS_size20 hr.1
    have sb := itoaS_size20 hr.2
    split
    · omega
    · rw [ByteArray.size_append, ByteArray.size_append, sz1]; omega
  · exact Nat.zero_le _
theorem fr_join {fs : List (Int × Int)} (h : fs.length ≤ 1099511627776) : mJoin [.sl false 1 (fs.map wf), .v (.string ⟨#[44]⟩)] = some (.v (.string (frT fs))) := by
  have hl := join_len (c := 41) (sep := bl ⟨#[44]⟩) (ws := (fs.map fracS).map bl) (by
    intro w hw
    simp only [List.map_map, List.mem_map, Function.comp_apply] at hw
    obtain ⟨f, hf, rfl⟩ := hw
    exact fracS_len f)
  have e1 : (bl ⟨#[44]⟩).length = 1 := rfl
  rw [List.length_map, List.length_map, e1] at hl
  have := mJoin_at false (fs.map fracS) ⟨#[44]⟩ ⟨by rw [List.length_map]; omega, by omega⟩
  rw [List.map_map] at this
  exact this

set_option maxHeartbeats 1000000 in
theorem fractionTexts_ok : FnOk Tryd.prog 55 mFTx := by
  refine mk_ok fun ⟨nl, fs⟩ h => ?_
  simp only at h
  have hG : FnsOk Tryd.prog [(91, mFFrac), (59, mJoin)] := (.cons implFormatFraction_ok (.cons implJoin_ok .nil))
  refine callOk_awp (ctx_ok eqOk hG) mixed (live := [true, false, true, true, false, true, true, true, true, true]) (dt := []) Tryd.func55 rfl (by kernel_rfl) (by kernel_rfl) fun w0 hlens => ?_
  clear hlens
  have hN : fs.length ≤ 1099511627776 := by first | exact h | exact h.1
  have hj := fr_join hN
  rcases List.eq_nil_or_concat fs with rfl | ⟨l', x', hx⟩
  · first
    | exact absurd rfl h.2
    | (simp (config := {contextual := true}) [Tryd.f55, List.range, List.range.loop, ints, intss, int, bool, row, frac, fracs, ← List.map_take, ← List.map_drop, frS, frT]
       refine awp_range (live := [true, false, true, true, false, true, true, true, true, true]) (ctx_ok eqOk hG) mixed [false, false, false, true, false, false, true, true, true] (0) (fun k => True) (fun k => ⟨[.junk, .junk, .junk, .ref 0 [] 0 0, .junk, .junk, fracs nl [], int 0, int k, .junk, .junk, .junk, .junk, .junk, .junk, .junk, .junk, .junk, .junk, .junk], apV []⟩) ?_ (by simp [sub, slotsLe, clean, keep, refsL, refs, once, place, renL, ren, List.replicate, int, bool, fracs, apV]) ?_ ?_ ?_
       · omega
       · trivial
       · intro k hk; omega
       · intro _
         simp (config := {contextual := true}) [List.range, List.range.loop, ints, intss, int, bool, row, frac, fracs, ← List.map_take, ← List.map_drop, apV])
  have hne : fs ≠ [] := by rw [hx]; simp
  have h0 : 0 < fs.length := List.length_pos_iff.2 hne
  have hz : ¬ ((fs.length : Int) = 0) := by omega
  have hnS : frS fs = frT fs := by unfold frS; rw [if_neg hne]
  clear hx
  simp (config := {contextual := true}) [Tryd.f55, List.range, List.range.loop, ints, intss, int, bool, row, frac, fracs, ← List.map_take, ← List.map_drop, hz, hne]
  refine awp_range (live := [true, false, true, true, false, true, true, true, true, true]) (ctx_ok eqOk hG) mixed [false, false, false, true, false, false, true, true, true] (fs.length) (fun k => True) (fun k => ⟨[.junk, .junk, .junk, apW k, .junk, .junk, fracs nl fs, int fs.length, int k, .junk, .junk, .junk, .junk, .junk, .junk, .junk, .junk, .junk, .junk, .junk], apWt ((fs.take k).map wf) k⟩) ?_ (by simp [sub, slotsLe, clean, keep, refsL, refs, once, place, renL, ren, List.replicate, int, bool, fracs, apW, apWt, apV]) ?_ ?_ ?_
  · omega
  · trivial
  · intro k hk _ hwk
    have hit := mFFrac_at fs[k].1 fs[k].2
    have htr := take_snoc (f := wf) hk
    have hb : k + 1 ≤ 4611686018427387904 ∧ (k + 1) * 16 ≤ 140737488355328 := by omega
    have htl : (fs.take k).length = k := by simp; omega
    cases k with
    | zero =>
      have hwk1 : IntKind.i64.wrap 1 = 1 := by decide
      simp only [List.take_zero, List.map_nil, List.nil_append, wf] at htr
      rw [Nat.zero_add] at htr
      have ht1 := htr.symm
      simp (config := {contextual := true}) [List.range, List.range.loop, ints, intss, int, bool, row, frac, fracs, ← List.map_take, ← List.map_drop, frac, apW, apWt, apV, h0, hit, ht1, hb, hwk1]
    | succ k =>
      simp only [wf] at htr
      simp (config := {contextual := true}) [List.range, List.range.loop, ints, intss, int, bool, row, frac, fracs, ← List.map_take, ← List.map_drop, frac, apW, apWt, apV, hk, hit, htr, hb, hwk, htl]
      exact wrapI (by omega) (by omega)
  · intro _
    obtain ⟨m, hm⟩ : ∃ m, fs.length = m + 1 := ⟨fs.length - 1, by omega⟩
    have ht : fs.take (m + 1) = fs := List.take_of_length_le (by omega)
    rw [hm]
    simp (config := {contextual := true}) [List.range, List.range.loop, ints, intss, int, bool, row, frac, fracs, ← List.map_take, ← List.map_drop, apW, apWt, apV, ht, hm, hj, hnS]
    done

set_option maxHeartbeats 1000000 in
theorem specFormatFractions_ok : FnOk Tryd.prog 20 mFFs := by
  refine mk_ok fun ⟨nl, fs⟩ h => ?_
  simp only at h
  have hG : FnsOk Tryd.prog [(52, mFFrac), (53, mJoin)] := (.cons specFormatFraction_ok (.cons specJoin_ok .nil))
  refine callOk_awp (ctx_ok eqOk hG) mixed (live := [true, false, true, true, false, true, false, true, true, true, true, false, false, false, false, false, false, false, false, false, false, true]) (dt := []) Tryd.func20 rfl (by kernel_rfl) (by kernel_rfl) fun w0 hlens => ?_
  clear hlens
  have hN : fs.length ≤ 1099511627776 := by first | exact h | exact h.1
  have hj := fr_join hN
  rcases List.eq_nil_or_concat fs with rfl | ⟨l', x', hx⟩
  · first
    | exact absurd rfl h.2
    | (simp (config := {contextual := true}) [Tryd.f20, List.range, List.range.loop, ints, intss, int, bool, row, frac, fracs, ← List.map_take, ← List.map_drop, frS, frT]
       refine awp_range (live := [true, false, true, true, false, true, false, true, true, true, true, false, false, false, false, false, false, false, false, false, false, true]) (ctx_ok eqOk hG) mixed [false, false, false, true, false, false, false, true, true, true] (0) (fun k => True) (fun k => ⟨[.junk, .junk, .junk, .ref 0 [] 0 0, .junk, .junk, .junk, fracs nl [], int 0, int k, .junk, .junk, .junk, .junk, .junk, .junk, .junk, .junk, .junk, .junk, .junk, .junk, .junk, .junk], apV []⟩) ?_ (by simp [sub, slotsLe, clean, keep, refsL, refs, once, place, renL, ren, List.replicate, int, bool, fracs, apV]) ?_ ?_ ?_
       · omega
       · trivial
       · intro k hk; omega
       · intro _
         simp (config := {contextual := true}) [List.range, List.range.loop, ints, intss, int, bool, row, frac, fracs, ← List.map_take, ← List.map_drop, apV])
  have hne : fs ≠ [] := by rw [hx]; simp
  have h0 : 0 < fs.length := List.length_pos_iff.2 hne
  have hz : ¬ ((fs.length : Int) = 0) := by omega
  have hnS : frS fs = frT fs := by unfold frS; rw [if_neg hne]
  clear hx
  simp (config := {contextual := true}) [Tryd.f20, List.range, List.range.loop, ints, intss, int, bool, row, frac, fracs, ← List.map_take, ← List.map_drop, hz, hne]
  refine awp_range (live := [true, false, true, true, false, true, false, true, true, true, true, false, false, false, false, false, false, false, false, false, false, true]) (ctx_ok eqOk hG) mixed [false, false, false, true, false, false, false, true, true, true] (fs.length) (fun k => True) (fun k => ⟨[.junk, .junk, .junk, .ref 0 [] 0 k, .junk, .junk, .junk, fracs nl fs, int fs.length, int k, .junk, .junk, .junk, .junk, .junk, .junk, .junk, .junk, .junk, .junk, .junk, .junk, .junk, .junk], apV ((fs.take k).map wf)⟩) ?_ (by simp [sub, slotsLe, clean, keep, refsL, refs, once, place, renL, ren, List.replicate, int, bool, fracs, apW, apWt, apV]) ?_ ?_ ?_
  · omega
  · trivial
  · intro k hk _ hwk
    have hit := mFFrac_at fs[k].1 fs[k].2
    have htr := take_snoc (f := wf) hk
    have hb : k + 1 ≤ 4611686018427387904 ∧ (k + 1) * 16 ≤ 140737488355328 := by omega
    have htl : (fs.take k).length = k := by simp; omega
    cases k with
    | zero =>
      have hwk1 : IntKind.i64.wrap 1 = 1 := by decide
      simp only [List.take_zero, List.map_nil, List.nil_append, wf] at htr
      rw [Nat.zero_add] at htr
      have ht1 := htr.symm
      simp (config := {contextual := true}) [List.range, List.range.loop, ints, intss, int, bool, row, frac, fracs, ← List.map_take, ← List.map_drop, frac, apW, apWt, apV, h0, hit, ht1, hb, hwk1]
    | succ k =>
      simp only [wf] at htr
      simp (config := {contextual := true}) [List.range, List.range.loop, ints, intss, int, bool, row, frac, fracs, ← List.map_take, ← List.map_drop, frac, apW, apWt, apV, hk, hit, htr, hb, hwk, htl]
      exact wrapI (by omega) (by omega)
  · intro _
    obtain ⟨m, hm⟩ : ∃ m, fs.length = m + 1 := ⟨fs.length - 1, by omega⟩
    have ht : fs.take (m + 1) = fs := List.take_of_length_le (by omega)
    rw [hm]
    simp (config := {contextual := true}) [List.range, List.range.loop, ints, intss, int, bool, row, frac, fracs, ← List.map_take, ← List.map_drop, apW, apWt, apV, ht, hm, hj, hnS]
    done

theorem implFormatFractions_ok : FnOk Tryd.prog 22 mFFs := by
  refine mk_ok fun ⟨nl, fs⟩ h => ?_
  simp only at h
  have hG : FnsOk Tryd.prog [(55, mFTx)] := (.cons fractionTexts_ok .nil)
  refine callOk_awp (ctx_ok eqOk hG) mixed (live := [true, false, true, false, false, true]) (dt := []) Tryd.func22 rfl (by kernel_rfl) (by kernel_rfl) fun w0 hlens => ?_
  clear hlens
  by_cases hne : fs = []
  · subst hne
    simp (config := {contextual := true}) [Tryd.f22, List.range, List.range.loop, ints, intss, int, bool, row, frac, fracs, ← List.map_take, ← List.map_drop, frS]
  · have hm := mFTx_at nl fs ⟨h, hne⟩
    have hz : ¬ ((fs.length : Int) = 0) := by have := List.length_pos_iff.2 hne; omega
    simp (config := {contextual := true}) [Tryd.f22, List.range, List.range.loop, ints, intss, int, bool, row, frac, fracs, ← List.map_take, ← List.map_drop, frS, hne, hz, hm]

end Go.Proofs.YtlkgppincgpfjaaDoor.Ax
