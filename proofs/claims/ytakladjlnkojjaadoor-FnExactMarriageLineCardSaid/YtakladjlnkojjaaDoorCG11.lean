/-
  Contracts: FormatNumbers (both programs). No condition.
-/
import Derived.Test.YtakladjlnkojjaaDoorCG10
import Derived.Test.YtakladjlnkojjaaDoorCK4
import Derived.Test.YtakladjlnkojjaaDoorCB1
import Derived.Test.YtakladjlnkojjaaDoorCB2
namespace Go.Proofs.YtakladjlnkojjaaDoor.Ax
open Go Go.RowKit
set_option linter.unusedSimpArgs false

/-- The slot of the words so far; their row. -/
def apW : Nat → AV
  | 0 => .sl true 1 []
  | k + 1 => .ref 0 [] 0 (k + 1)
def apWt (l : List AV) : Nat → List Tok
  | 0 => []
  | _ + 1 => [⟨true, .sl false 1 l⟩]
def apV (l : List AV) : List Tok := [⟨true, .sl false 1 l⟩]

theorem take_snoc {α : Type} {f : α → AV} {xs : List α} {k : Nat} (h : k < xs.length) : (xs.take k).map f ++ [f xs[k]] = (xs.take (k + 1)).map f := by
  rw [List.take_succ_eq_append_getElem h, List.map_append]; rfl

theorem dec_len10 : ∀ (k : Nat) (u : Nat), u < 10 ^ k → 0 < k → (Lib.decDigits u).length ≤ k
  | 0, _, _, h => absurd h (by omega)
  | k + 1, u, hu, _ => by
    by_cases h : u < 10
    · rw [dec_lt h]; simp
    · rw [dec_ge (by omega), List.length_append]
      have hk : 0 < k := by
        rcases Nat.eq_zero_or_pos k with rfl | h'
        · simp at hu; omega
        · exact h'
      have := dec_len10 k (u / 10) (by rw [Nat.pow_succ] at hu; omega) hk
      simp; omega
theorem itoa_len {n : Int} (h : inI n) : (Lib.itoa n).length ≤ 20 := by
  have h1 := h.1
  have h2 := h.2
  have h3 : (9223372036854775808 : Nat) < 10 ^ 19 := by decide
  unfold Lib.itoa
  split
  · have := dec_len10 19 n.natAbs (by omega) (by omega)
    simp; omega
  · have := dec_len10 19 n.toNat (by omega) (by omega)
    omega
theorem join_len {c : Nat} {sep : List UInt8} : ∀ {ws : List (List UInt8)}, (∀ w ∈ ws, w.length ≤ c) → (Lib.join ws sep).length ≤ (c + sep.length) * ws.length
  | [], _ => by simp [Lib.join_nil]
  | x :: r, h => by
    have hx := h x (by simp)
    have key : ∀ (r : List (List UInt8)), (∀ w ∈ r, w.length ≤ c) → (Lib.joinTail sep r).length ≤ (c + sep.length) * r.length := by
      intro r
      induction r with
      | nil => intro _; simp [Lib.joinTail]
      | cons y r ih =>
        intro h
        have h1 := h y (by simp)
        have h2 := ih fun w hw => h w (by simp [hw])
        simp only [Lib.joinTail, List.map_cons, List.flatten_cons, List.length_append, List.length_cons, Nat.mul_add, Nat.mul_one] at h2 ⊢
        omega
    have h2 := key r fun w hw => h w (by simp [hw])
    rw [Lib.join_cons, List.length_append, List.length_cons, Nat.mul_add, Nat.mul_one]
    omega

def wd (n : Int) : AV := .v (.string (itoaS n))
def numS (xs : List Int) : ByteArray := if xs = [] then ⟨#[45]⟩ else joinS (xs.map itoaS) ⟨#[44]⟩
def numOk (xs : List Int) : Prop := xs.length ≤ 1099511627776 ∧ ∀ n ∈ xs, inI n
noncomputable def mFNum : List AV → Option AV := mk (fun p => numOk p.2) (fun (p : (Bool) × (List Int)) => [ints p.1 p.2]) (fun p => .v (.string (numS p.2)))
theorem mFNum_at (nl : Bool) (xs : List Int) (hpre : numOk xs) : mFNum [.sl nl 1 (xs.map int)] = some (.v (.string (numS xs))) :=
  mk_eq (enc := fun (p : (Bool) × (List Int)) => [ints p.1 p.2]) (x := (nl, xs)) (by rintro ⟨a0, a1⟩ ⟨b0, b1⟩ h; simp [ints, intss, int, bool, row, frac, fracs, map_int_inj, map_row_inj, frac_inj, map_frac_inj] at h; simp [h]) hpre

theorem num_join {xs : List Int} (h : numOk xs) : mJoin [.sl false 1 (xs.map wd), .v (.string ⟨#[44]⟩)] = some (.v (.string (joinS (xs.map itoaS) ⟨#[44]⟩))) := by
  have h1 := h.1
  have hl := join_len (c := 20) (sep := bl ⟨#[44]⟩) (ws := (xs.map itoaS).map bl) (by
    intro w hw
    simp only [List.map_map, List.mem_map, Function.comp_apply] at hw
    obtain ⟨n, hn, rfl⟩ := hw
    unfold itoaS; rw [bl_mk]
    exact itoa_len (h.2 n hn))
  have e1 : (bl ⟨#[44]⟩).length = 1 := rfl
  rw [List.length_map, List.length_map, e1] at hl
  have := mJoin_at false (xs.map itoaS) ⟨#[44]⟩ ⟨by rw [List.length_map]; omega, by omega⟩
  rw [List.map_map] at this
  exact this

set_option maxHeartbeats 1000000 in
theorem implFormatNumbers_ok : FnOk Tryd.prog 39 mFNum := by
  refine mk_ok fun ⟨nl, xs⟩ h => ?_
  simp only at h
  have hG : FnsOk Tryd.prog [(40, mItoa), (38, mJoin)] := (.cons implFormatInt_ok (.cons implJoin_ok .nil))
  refine callOk_awp (ctx_ok eqOk hG) mixed (live := [true, false, true, true, false, true, false, false, true, true, true, true, true]) (dt := []) Tryd.func39 rfl (by kernel_rfl) (by kernel_rfl) fun w0 hlens => ?_
  clear hlens
  have hN := h.1
  have hj := num_join h
  rcases List.eq_nil_or_concat xs with rfl | ⟨l', x', hx⟩
  · simp (config := {contextual := true}) [Tryd.f39, List.range, List.range.loop, ints, intss, int, bool, row, frac, fracs, ← List.map_take, ← List.map_drop, numS]
    try (refine awp_range (live := [true, false, true, true, false, true, false, false, true, true, true, true, true]) (ctx_ok eqOk hG) mixed [false, false, false, true, false, false, false, false, false, true, true, true] (0) (fun k => True) (fun k => ⟨[.junk, .junk, .junk, .ref 0 [] 0 0, .junk, .junk, .junk, .junk, .junk, ints nl [], int 0, int k, .junk, .junk, .junk, .junk, .junk, .junk, .junk, .junk, .junk, .junk, .junk], apV []⟩) ?_ (by simp [sub, slotsLe, clean, keep, refsL, refs, once, place, renL, ren, List.replicate, int, bool, ints, apW, apWt, apV]) ?_ ?_ ?_
         · omega
         · trivial
         · intro k hk; omega
         · intro _
           simp (config := {contextual := true}) [List.range, List.range.loop, ints, intss, int, bool, row, frac, fracs, ← List.map_take, ← List.map_drop, apV])
    done
  have hne : xs ≠ [] := by rw [hx]; simp
  have h0 : 0 < xs.length := List.length_pos_iff.2 hne
  have hz : ¬ ((xs.length : Int) = 0) := by omega
  have hnS : numS xs = joinS (xs.map itoaS) ⟨#[44]⟩ := by unfold numS; rw [if_neg hne]
  clear hx
  simp (config := {contextual := true}) [Tryd.f39, List.range, List.range.loop, ints, intss, int, bool, row, frac, fracs, ← List.map_take, ← List.map_drop, hz, hne]
  refine awp_range (live := [true, false, true, true, false, true, false, false, true, true, true, true, true]) (ctx_ok eqOk hG) mixed [false, false, false, true, false, false, false, false, false, true, true, true] (xs.length) (fun k => True) (fun k => ⟨[.junk, .junk, .junk, apW k, .junk, .junk, .junk, .junk, .junk, ints nl xs, int xs.length, int k, .junk, .junk, .junk, .junk, .junk, .junk, .junk, .junk, .junk, .junk, .junk], apWt ((xs.take k).map wd) k⟩) ?_ (by simp [sub, slotsLe, clean, keep, refsL, refs, once, place, renL, ren, List.replicate, int, bool, ints, apW, apWt, apV]) ?_ ?_ ?_
  · omega
  · trivial
  · intro k hk _ hwk
    have hit := mItoa_at xs[k] (h.2 _ (List.getElem_mem hk))
    have htr := take_snoc (f := wd) hk
    have hb : k + 1 ≤ 4611686018427387904 ∧ (k + 1) * 16 ≤ 140737488355328 := by omega
    have htl : (xs.take k).length = k := by simp; omega
    cases k with
    | zero =>
      have hwk1 : IntKind.i64.wrap 1 = 1 := by decide
      simp only [List.take_zero, List.map_nil, List.nil_append, wd] at htr
      rw [Nat.zero_add] at htr
      have ht1 := htr.symm
      simp (config := {contextual := true}) [List.range, List.range.loop, ints, intss, int, bool, row, frac, fracs, ← List.map_take, ← List.map_drop, apW, apWt, apV, h0, hit, ht1, hb, hwk1]
    | succ k =>
      simp only [wd] at htr
      simp (config := {contextual := true}) [List.range, List.range.loop, ints, intss, int, bool, row, frac, fracs, ← List.map_take, ← List.map_drop, apW, apWt, apV, hk, hit, htr, hb, hwk, htl]
      exact wrapI (by omega) (by omega)
  · intro _
    obtain ⟨m, hm⟩ : ∃ m, xs.length = m + 1 := ⟨xs.length - 1, by omega⟩
    have ht : xs.take (m + 1) = xs := List.take_of_length_le (by omega)
    rw [hm]
    simp (config := {contextual := true}) [List.range, List.range.loop, ints, intss, int, bool, row, frac, fracs, ← List.map_take, ← List.map_drop, apW, apWt, apV, ht, hm, hj, hnS]
    done

set_option maxHeartbeats 1000000 in
theorem specFormatNumbers_ok : FnOk Tryd.prog 30 mFNum := by
  refine mk_ok fun ⟨nl, xs⟩ h => ?_
  simp only at h
  have hG : FnsOk Tryd.prog [(31, mItoa), (58, mJoin)] := (.cons specFormatInt_ok (.cons specJoin_ok .nil))
  refine callOk_awp (ctx_ok eqOk hG) mixed (live := [true, false, true, true, false, true, false, true, true, true, true, false, false, false, false, false, false, false, false, false, false, true]) (dt := []) Tryd.func30 rfl (by kernel_rfl) (by kernel_rfl) fun w0 hlens => ?_
  clear hlens
  have hN := h.1
  have hj := num_join h
  rcases List.eq_nil_or_concat xs with rfl | ⟨l', x', hx⟩
  · simp (config := {contextual := true}) [Tryd.f30, List.range, List.range.loop, ints, intss, int, bool, row, frac, fracs, ← List.map_take, ← List.map_drop, numS]
    try (refine awp_range (live := [true, false, true, true, false, true, false, true, true, true, true, false, false, false, false, false, false, false, false, false, false, true]) (ctx_ok eqOk hG) mixed [false, false, false, true, false, false, false, true, true, true] (0) (fun k => True) (fun k => ⟨[.junk, .junk, .junk, .ref 0 [] 0 0, .junk, .junk, .junk, ints nl [], int 0, int k, .junk, .junk, .junk, .junk, .junk, .junk, .junk, .junk, .junk, .junk, .junk, .junk, .junk, .junk], apV []⟩) ?_ (by simp [sub, slotsLe, clean, keep, refsL, refs, once, place, renL, ren, List.replicate, int, bool, ints, apW, apWt, apV]) ?_ ?_ ?_
         · omega
         · trivial
         · intro k hk; omega
         · intro _
           simp (config := {contextual := true}) [List.range, List.range.loop, ints, intss, int, bool, row, frac, fracs, ← List.map_take, ← List.map_drop, apV])
    done
  have hne : xs ≠ [] := by rw [hx]; simp
  have h0 : 0 < xs.length := List.length_pos_iff.2 hne
  have hz : ¬ ((xs.length : Int) = 0) := by omega
  have hnS : numS xs = joinS (xs.map itoaS) ⟨#[44]⟩ := by unfold numS; rw [if_neg hne]
  clear hx
  simp (config := {contextual := true}) [Tryd.f30, List.range, List.range.loop, ints, intss, int, bool, row, frac, fracs, ← List.map_take, ← List.map_drop, hz, hne]
  refine awp_range (live := [true, false, true, true, false, true, false, true, true, true, true, false, false, false, false, false, false, false, false, false, false, true]) (ctx_ok eqOk hG) mixed [false, false, false, true, false, false, false, true, true, true] (xs.length) (fun k => True) (fun k => ⟨[.junk, .junk, .junk, .ref 0 [] 0 k, .junk, .junk, .junk, ints nl xs, int xs.length, int k, .junk, .junk, .junk, .junk, .junk, .junk, .junk, .junk, .junk, .junk, .junk, .junk, .junk, .junk], apV ((xs.take k).map wd)⟩) ?_ (by simp [sub, slotsLe, clean, keep, refsL, refs, once, place, renL, ren, List.replicate, int, bool, ints, apW, apWt, apV]) ?_ ?_ ?_
  · omega
  · trivial
  · intro k hk _ hwk
    have hit := mItoa_at xs[k] (h.2 _ (List.getElem_mem hk))
    have htr := take_snoc (f := wd) hk
    have hb : k + 1 ≤ 4611686018427387904 ∧ (k + 1) * 16 ≤ 140737488355328 := by omega
    have htl : (xs.take k).length = k := by simp; omega
    cases k with
    | zero =>
      have hwk1 : IntKind.i64.wrap 1 = 1 := by decide
      simp only [List.take_zero, List.map_nil, List.nil_append, wd] at htr
      rw [Nat.zero_add] at htr
      have ht1 := htr.symm
      simp (config := {contextual := true}) [List.range, List.range.loop, ints, intss, int, bool, row, frac, fracs, ← List.map_take, ← List.map_drop, apW, apWt, apV, h0, hit, ht1, hb, hwk1]
    | succ k =>
      simp only [wd] at htr
      simp (config := {contextual := true}) [List.range, List.range.loop, ints, intss, int, bool, row, frac, fracs, ← List.map_take, ← List.map_drop, apW, apWt, apV, hk, hit, htr, hb, hwk, htl]
      exact wrapI (by omega) (by omega)
  · intro _
    obtain ⟨m, hm⟩ : ∃ m, xs.length = m + 1 := ⟨xs.length - 1, by omega⟩
    have ht : xs.take (m + 1) = xs := List.take_of_length_le (by omega)
    rw [hm]
    simp (config := {contextual := true}) [List.range, List.range.loop, ints, intss, int, bool, row, frac, fracs, ← List.map_take, ← List.map_drop, apW, apWt, apV, ht, hm, hj, hnS]
    done

end Go.Proofs.YtakladjlnkojjaaDoor.Ax

/-
  Sizes of the texts of numbers; two texts with a blank between them. Plain Lean, no program in sight.
-/
namespace Go.Proofs.YtakladjlnkojjaaDoor.Ax
open Go Go.RowKit
set_option linter.unusedSimpArgs false

theorem inI_small {x : Int} (h : -1000000 ≤ x ∧ x ≤ 1000000) : inI x := by unfold inI; omega

theorem numS_size {xs : List Int} (h : ∀ n ∈ xs, inI n) : (numS xs).size ≤ 21 * xs.length + 1 := by
  unfold numS
  split
  · have : (⟨#[45]⟩ : ByteArray).size = 1 := rfl
    omega
  · have hl := join_len (c := 20) (sep := bl ⟨#[44]⟩) (ws := (xs.map itoaS).map bl) (by
      intro w hw
      simp only [List.map_map, List.mem_map, Function.comp_apply] at hw
      obtain ⟨n, hn, rfl⟩ := hw
      unfold itoaS; rw [bl_mk]
      exact itoa_len (h n hn))
    have e1 : (bl ⟨#[44]⟩).length = 1 := rfl
    rw [List.length_map, List.length_map, e1] at hl
    have e2 : (joinS (xs.map itoaS) ⟨#[44]⟩).size = (bl (joinS (xs.map itoaS) ⟨#[44]⟩)).length := by unfold bl; rw [Array.length_toList]; rfl
    rw [e2]
    unfold joinS
    rw [bl_mk]
    omega

/-- Two texts with a blank between them. -/
def linkS (a b : ByteArray) : ByteArray := a ++ ⟨#[32]⟩ ++ b
theorem link_size {a : ByteArray} : (a ++ (⟨#[32]⟩ : ByteArray)).size = a.size + 1 := by rw [ByteArray.size_append]; rfl

end Go.Proofs.YtakladjlnkojjaaDoor.Ax

/-
  Contracts: FormatTable (both programs). No condition.
-/
namespace Go.Proofs.YtakladjlnkojjaaDoor.Ax
open Go Go.RowKit
set_option linter.unusedSimpArgs false

theorem numS_len {xs : List Int} (h : ∀ n ∈ xs, inI n) : (bl (numS xs)).length ≤ 21 * xs.length + 1 := by
  unfold numS
  split
  · exact Nat.le_add_left _ _
  · unfold joinS
    rw [bl_mk]
    have hl := join_len (c := 20) (sep := bl ⟨#[44]⟩) (ws := (xs.map itoaS).map bl) (by
      intro w hw
      simp only [List.map_map, List.mem_map, Function.comp_apply] at hw
      obtain ⟨n, hn, rfl⟩ := hw
      unfold itoaS; rw [bl_mk]
      exact itoa_len (h n hn))
    have e1 : (bl ⟨#[44]⟩).length = 1 := rfl
    rw [List.length_map, List.length_map, e1] at hl
    omega

def rowS (r : Bool × List Int) : ByteArray := numS r.2
def wr (r : Bool × List Int) : AV := .v (.string (rowS r))
def tabS (xss : List (Bool × List Int)) : ByteArray := if xss = [] then ⟨#[61]⟩ else joinS (xss.map rowS) ⟨#[59]⟩
def tabOk (xss : List (Bool × List Int)) : Prop := xss.length ≤ 1048576 ∧ ∀ r ∈ xss, r.2.length ≤ 1048576 ∧ ∀ n ∈ r.2, inI n
noncomputable def mFTab : List AV → Option AV := mk (fun p => tabOk p.2) (fun (p : (Bool) × (List (Bool × List Int))) => [intss p.1 p.2]) (fun p => .v (.string (tabS p.2)))
theorem mFTab_at (nl : Bool) (xss : List (Bool × List Int)) (hpre : tabOk xss) : mFTab [.sl nl 1 (xss.map row)] = some (.v (.string (tabS xss))) :=
  mk_eq (enc := fun (p : (Bool) × (List (Bool × List Int))) => [intss p.1 p.2]) (x := (nl, xss)) (by rintro ⟨a0, a1⟩ ⟨b0, b1⟩ h; simp [ints, intss, int, bool, row, frac, fracs, map_int_inj, map_row_inj, frac_inj, map_frac_inj] at h; simp [h]) hpre

theorem tab_join {xss : List (Bool × List Int)} (h : tabOk xss) : mJoin [.sl false 1 (xss.map wr), .v (.string ⟨#[59]⟩)] = some (.v (.string (joinS (xss.map rowS) ⟨#[59]⟩))) := by
  have h1 := h.1
  have hl := join_len (c := 22020097) (sep := bl ⟨#[59]⟩) (ws := (xss.map rowS).map bl) (by
    intro w hw
    simp only [List.map_map, List.mem_map, Function.comp_apply] at hw
    obtain ⟨r, hr, rfl⟩ := hw
    have := numS_len (h.2 r hr).2
    have := (h.2 r hr).1
    unfold rowS
    omega)
  have e1 : (bl ⟨#[59]⟩).length = 1 := rfl
  rw [List.length_map, List.length_map, e1] at hl
  have := mJoin_at false (xss.map rowS) ⟨#[59]⟩ ⟨by rw [List.length_map]; omega, by omega⟩
  rw [List.map_map] at this
  exact this

theorem row_need {xss : List (Bool × List Int)} {r : Bool × List Int} (h : r ∈ xss) : r.2.length ≤ rowSum xss xss.length := by
  obtain ⟨k, hk, rfl⟩ := List.getElem_of_mem h
  have h1 := rowSum_succ hk
  have h2 := rowSum_mono (xss := xss) (show k + 1 ≤ xss.length by omega)
  omega
theorem tab_own {xss : List (Bool × List Int)} (h : need xss ≤ 1048576) (hx : ∀ r ∈ xss, ∀ n ∈ r.2, inI n) : tabOk (own xss) := by
  unfold need at h
  refine ⟨by simp only [own, List.length_map]; omega, fun r hr => ?_⟩
  simp only [own, List.mem_map] at hr
  obtain ⟨p, hp, rfl⟩ := hr
  have h9 := row_need hp
  have h8 : p.2.length ≤ 1048576 := by omega
  exact ⟨h8, fun n hn => hx p hp n hn⟩

end Go.Proofs.YtakladjlnkojjaaDoor.Ax

/-
  Six words joined. Plain Lean, no program in sight.
-/
namespace Go.Proofs.YtakladjlnkojjaaDoor.Ax
open Go Go.RowKit
set_option linter.unusedSimpArgs false

theorem bl_inj {a b : ByteArray} (h : bl a = bl b) : a = b := by
  obtain ⟨⟨a⟩⟩ := a
  obtain ⟨⟨b⟩⟩ := b
  simp [bl] at h
  rw [h]
theorem bl_app {a b : ByteArray} : bl (a ++ b) = bl a ++ bl b := by
  simp [bl, ByteArray.data_append]
theorem join6 {a b c d e f s : ByteArray} : joinS [a, b, c, d, e, f] s = a ++ s ++ b ++ s ++ c ++ s ++ d ++ s ++ e ++ s ++ f := by
  apply bl_inj
  simp only [bl_app]
  unfold joinS
  rw [bl_mk]
  simp [Lib.join_cons, Lib.joinTail, List.append_assoc]


end Go.Proofs.YtakladjlnkojjaaDoor.Ax

/-
  Contracts: MarriageLine (both programs). No condition.
-/
namespace Go.Proofs.YtakladjlnkojjaaDoor.Ax
open Go Go.RowKit
set_option linter.unusedSimpArgs false

/-- What the line is. -/
noncomputable def mrlS (xs ys : List (Bool × List Int)) : ByteArray :=
  ⟨#[109, 101, 110, 32]⟩ ++ numS (gsE xs ys).wm ++ ⟨#[32, 119, 111, 109, 101, 110, 32]⟩ ++ numS (tnT (gsE ys xs).wm xs.length) ++ ⟨#[32, 115, 116, 97, 98, 108, 101, 32]⟩ ++ itoaS (stA xs ys).length
noncomputable def mrlT (xs ys : List (Bool × List Int)) : ByteArray := if marB xs ys = true then mrlS xs ys else ⟨#[110, 111, 110, 101]⟩
noncomputable def mMrl : List AV → Option AV := mk (fun _ => True) (fun (p : Bool × List (Bool × List Int) × Bool × List (Bool × List Int)) => [mkt p.1 p.2.1 p.2.2.1 p.2.2.2]) (fun p => .v (.string (mrlT p.2.1 p.2.2.2)))
theorem mMrl_at (b : Bool) (xs : List (Bool × List Int)) (c : Bool) (ys : List (Bool × List Int)) : mMrl [.agg [.sl b 1 (xs.map row), .sl c 1 (ys.map row)]] = some (.v (.string (mrlT xs ys))) :=
  mk_eq (enc := fun (p : Bool × List (Bool × List Int) × Bool × List (Bool × List Int)) => [mkt p.1 p.2.1 p.2.2.1 p.2.2.2]) (x := (b, xs, c, ys)) (fun x y h => by rw [mkt_inj h]) trivial

structure MrF (xs ys : List (Bool × List Int)) : Prop where
  ha : numOk (gsE xs ys).wm
  hb : numOk (tnT (gsE ys xs).wm xs.length)
  sa : (numS (gsE xs ys).wm).size ≤ 200
  sb : (numS (tnT (gsE ys xs).wm xs.length)).size ≤ 200
  ic : inI ((stA xs ys).length : Int)
  sc : (itoaS ((stA xs ys).length : Int)).size ≤ 20
  la : (gsE xs ys).wm.length = xs.length
  lb : (tnT (gsE ys xs).wm xs.length).length = xs.length
  yl : ys.length = xs.length
theorem mrF {xs ys : List (Bool × List Int)} (h : marB xs ys = true) : MrF xs ys := by
  obtain ⟨hk, hr, hry, hn1, hn5⟩ := mar_ok h
  obtain ⟨hk2, hr2, hry2, _, _⟩ := mar_ok (marB_turn h)
  have hyl := hk.len
  obtain ⟨g1, g2, g3⟩ := gsE_all hk hr
  obtain ⟨k1, k2, k3⟩ := gsE_all hk2 hr2
  have tl := tnT_len (l := (gsE ys xs).wm) (k := xs.length)
  have tb := tnT_bd (l := (gsE ys xs).wm) (k := xs.length) (by omega)
  obtain ⟨a1, _⟩ := allRk_facts hn1 hn5
  have hst : (stA xs ys).length ≤ 120 := Nat.le_trans stL_len a1
  have ha : numOk (gsE xs ys).wm := ⟨by omega, fun x hx => inI_small (by have := g2 x hx; omega)⟩
  have hb : numOk (tnT (gsE ys xs).wm xs.length) := ⟨by omega, fun x hx => inI_small (by have := tb x hx; omega)⟩
  have ic : inI ((stA xs ys).length : Int) := inI_small (by omega)
  have s1 := numS_size ha.2
  have s2 := numS_size hb.2
  refine ⟨ha, hb, by omega, by omega, ic, ?_, g1, by omega, hyl⟩
  have := itoa_len ic
  have e : (itoaS ((stA xs ys).length : Int)).size = (bl (itoaS ((stA xs ys).length : Int))).length := by unfold bl; rw [Array.length_toList]; rfl
  rw [e]; unfold itoaS; rw [bl_mk]; exact this

set_option maxHeartbeats 2000000 in
theorem implMrl_ok : FnOk Tryd.prog 15 mMrl := by
  refine mk_ok fun ⟨b, xs, c, ys⟩ _ => ?_
  have hG : FnsOk Tryd.prog [(46, mMar), (47, mPro), (48, mProW), (39, mFNum), (40, mItoa), (38, mJoin)] := (.cons implMar_ok (.cons implPro_ok (.cons implProW_ok (.cons implFormatNumbers_ok (.cons implFormatInt_ok (.cons implJoin_ok .nil))))))
  have hM : FnsMut Tryd.prog [] := .nil
  have hV : FnsMov Tryd.prog [] := .nil
  have hK : FnsFrz Tryd.prog [(49, true, mStI)] := (.cons implSt_ok .nil)
  refine callOk_awpZ [0] (ctxH_ok eqOk hG hM hV hK) mixed (live := [true, true, true, true, false, true, false, false, false, true]) (dt := [(5, ⟨[], [0, 0, 0, 0, 0, 1, 0, 0, 1], []⟩)]) Tryd.func15 rfl (by kernel_rfl) (by kernel_rfl) fun w0 hlens => ?_
  clear hlens
  cases h : marB xs ys with
  | false => simp [Tryd.f15, List.range, List.range.loop, ints, intss, int, bool, row, frac, fracs, ← List.map_take, ← List.map_drop, List.all, andThen_n, freeze, frzA, frzAL, sets, mkt, mMar_at, h, mrlT]
  | true =>
    have F := mrF h
    have m1 := mPro_at b xs c ys h
    have m2 := mProW_at b xs c ys h
    have m3 := mStI_at b xs c ys h
    have h1 := mFNum_at false _ F.ha
    have h2 := mFNum_at false _ F.hb
    have h3 := mItoa_at _ F.ic
    have hg : mrlT xs ys = mrlS xs ys := by unfold mrlT; rw [if_pos h]
    rw [hg]
    unfold mrlS
    have sa := F.sa
    have sb := F.sb
    have sc := F.sc
    have la := F.la
    have lb := F.lb
    have yl := F.yl
    have ht : ys.take xs.length = ys := List.take_of_length_le (by omega)
    generalize tnT (gsE ys xs).wm xs.length = B at *
    generalize (gsE xs ys).wm = A at *
    generalize stA xs ys = T at *
    have tA : A.take xs.length = A := List.take_of_length_le (by omega)
    have tB : B.take xs.length = B := List.take_of_length_le (by omega)
    have hj := mJoin_at false [⟨#[109, 101, 110]⟩, numS A, ⟨#[119, 111, 109, 101, 110]⟩, numS B, ⟨#[115, 116, 97, 98, 108, 101]⟩, itoaS T.length] ⟨#[32]⟩ ⟨by simp, by
      have hs : ∀ a : ByteArray, (bl a).length = a.size := fun a => by simp [bl]
      have y1 : (⟨#[109, 101, 110]⟩ : ByteArray).size = 3 := rfl
      have y2 : (⟨#[32]⟩ : ByteArray).size = 1 := rfl
      have y3 : (⟨#[119, 111, 109, 101, 110]⟩ : ByteArray).size = 5 := rfl
      have y4 : (⟨#[115, 116, 97, 98, 108, 101]⟩ : ByteArray).size = 6 := rfl
      simp [Lib.join_cons, Lib.joinTail, hs]
      omega⟩
    rw [join6] at hj
    simp only [List.map_cons, List.map_nil, str] at hj
    simp [Tryd.f15, List.range, List.range.loop, ints, intss, int, bool, row, frac, fracs, ← List.map_take, ← List.map_drop, List.all, andThen_n, freeze, frzA, frzAL, sets, mkt, mMar_at, h, m1, m2, m3, h1, h2, h3, la, lb, yl, ht, tA, tB, hj]
    apply bl_inj
    simp only [bl_app]
    simp [bl]

set_option maxHeartbeats 2000000 in
theorem specMrl_ok : FnOk Tryd.prog 13 mMrl := by
  refine mk_ok fun ⟨b, xs, c, ys⟩ _ => ?_
  have hG : FnsOk Tryd.prog [(42, mMar), (43, mPro), (44, mProW), (30, mFNum), (31, mItoa)] := (.cons specMar_ok (.cons specPro_ok (.cons specProW_ok (.cons specFormatNumbers_ok (.cons specFormatInt_ok .nil)))))
  have hM : FnsMut Tryd.prog [] := .nil
  have hV : FnsMov Tryd.prog [] := .nil
  have hK : FnsFrz Tryd.prog [(45, true, mStS)] := (.cons specSt_ok .nil)
  refine callOk_awpZ [0] (ctxH_ok eqOk hG hM hV hK) mixed (live := [true, true, true, true, false, true, false, false, false, true]) (dt := [(5, ⟨[], [0, 0, 0, 0, 0, 0, 0, 0, 0, 1], []⟩)]) Tryd.func13 rfl (by kernel_rfl) (by kernel_rfl) fun w0 hlens => ?_
  clear hlens
  cases h : marB xs ys with
  | false => simp [Tryd.f13, List.range, List.range.loop, ints, intss, int, bool, row, frac, fracs, ← List.map_take, ← List.map_drop, List.all, andThen_n, freeze, frzA, frzAL, sets, mkt, mMar_at, h, mrlT]
  | true =>
    have F := mrF h
    have m1 := mPro_at b xs c ys h
    have m2 := mProW_at b xs c ys h
    have m3 := mStS_at b xs c ys h
    have h1 := mFNum_at false _ F.ha
    have h2 := mFNum_at false _ F.hb
    have h3 := mItoa_at _ F.ic
    have hg : mrlT xs ys = mrlS xs ys := by unfold mrlT; rw [if_pos h]
    rw [hg]
    unfold mrlS
    have sa := F.sa
    have sb := F.sb
    have sc := F.sc
    have la := F.la
    have lb := F.lb
    have yl := F.yl
    have ht : ys.take xs.length = ys := List.take_of_length_le (by omega)
    generalize tnT (gsE ys xs).wm xs.length = B at *
    generalize (gsE xs ys).wm = A at *
    generalize stA xs ys = T at *
    have tA : A.take xs.length = A := List.take_of_length_le (by omega)
    have tB : B.take xs.length = B := List.take_of_length_le (by omega)
    have z1 : (⟨#[109, 101, 110, 32]⟩ : ByteArray).size = 4 := rfl
    have z2 : (⟨#[32, 119, 111, 109, 101, 110, 32]⟩ : ByteArray).size = 7 := rfl
    have z3 : (⟨#[32, 115, 116, 97, 98, 108, 101, 32]⟩ : ByteArray).size = 8 := rfl
    have c1 : 4 + (numS A).size ≤ 9223372036854775807 := by omega
    have c2 : 4 + (numS A).size + 7 ≤ 9223372036854775807 := by omega
    have c3 : 4 + (numS A).size + 7 + (numS B).size ≤ 9223372036854775807 := by omega
    have c4 : 4 + (numS A).size + 7 + (numS B).size + 8 ≤ 9223372036854775807 := by omega
    have c5 : 4 + (numS A).size + 7 + (numS B).size + 8 + (itoaS T.length).size ≤ 9223372036854775807 := by omega
    simp [Tryd.f13, List.range, List.range.loop, ints, intss, int, bool, row, frac, fracs, ← List.map_take, ← List.map_drop, List.all, andThen_n, freeze, frzA, frzAL, sets, mkt, mMar_at, h, m1, m2, m3, h1, h2, h3, la, lb, yl, ht, tA, tB, ByteArray.size_append, z1, z2, z3, c1, c2, c3, c4, c5]

end Go.Proofs.YtakladjlnkojjaaDoor.Ax

/-
  Contracts: a market's size, its copy and its equality (laws). No condition.
-/
namespace Go.Proofs.YtakladjlnkojjaaDoor.Ax
open Go Go.RowKit
set_option linter.unusedSimpArgs false

abbrev Mk0 := Bool × List (Bool × List Int) × Bool × List (Bool × List Int)
theorem mkt2_inj {p q : Mk0} (h : mkt p.1 p.2.1 p.2.2.1 p.2.2.2 = mkt q.1 q.2.1 q.2.2.1 q.2.2.2) : p = q := mkt_inj (by rw [h])

/-- What is left behind a market. -/
def szM (xs ys : List (Bool × List Int)) (l : Int) : Int := if l < need xs then -1 else if l - need xs < need ys then -1 else l - need xs - need ys
noncomputable def mSzM : List AV → Option AV := mk (fun p => ((p.1.2.1.length < 2 ^ 63 ∧ ∀ x ∈ p.1.2.1, x.2.length < 2 ^ 63) ∧ (p.1.2.2.2.length < 2 ^ 63 ∧ ∀ x ∈ p.1.2.2.2, x.2.length < 2 ^ 63)) ∧ 0 ≤ p.2 ∧ p.2 ≤ 2 ^ 62) (fun (p : Mk0 × Int) => [mkt p.1.1 p.1.2.1 p.1.2.2.1 p.1.2.2.2, int p.2]) (fun p => int (szM p.1.2.1 p.1.2.2.2 p.2))
theorem mSzM_at (b : Bool) (xs : List (Bool × List Int)) (c : Bool) (ys : List (Bool × List Int)) (l : Int) (h : ((xs.length < 2 ^ 63 ∧ ∀ x ∈ xs, x.2.length < 2 ^ 63) ∧ (ys.length < 2 ^ 63 ∧ ∀ x ∈ ys, x.2.length < 2 ^ 63)) ∧ 0 ≤ l ∧ l ≤ 2 ^ 62) : mSzM [.agg [.sl b 1 (xs.map row), .sl c 1 (ys.map row)], .v (.int .i64 l)] = some (.v (.int .i64 (szM xs ys l))) :=
  mk_eq (enc := fun (p : Mk0 × Int) => [mkt p.1.1 p.1.2.1 p.1.2.2.1 p.1.2.2.2, int p.2]) (x := ((b, xs, c, ys), l)) (fun x y h => by
    simp only [List.cons.injEq, and_true, int_inj] at h
    have e := mkt2_inj h.1
    rw [show x = y from Prod.ext e h.2]) h

set_option maxHeartbeats 1000000 in
theorem szMarket_ok : FnOk Tryd.prog 12 mSzM := by
  refine mk_ok fun ⟨⟨b, xs, c, ys⟩, l⟩ ⟨⟨⟨p1, p2⟩, ⟨p3, p4⟩⟩, p5, p6⟩ => ?_
  simp only at p1 p2 p3 p4 p5 p6
  have hG : FnsOk Tryd.prog [(7, mSzIss)] := (.cons szIntSS_ok .nil)
  refine callOk_awp (ctx_ok eqOk hG) mixed (live := [true, true, true, false, true, false, false, false, false, false, true, false, false, false, false, false, true]) (dt := []) Tryd.func12 rfl (by kernel_rfl) (by kernel_rfl) fun w0 hlens => ?_
  clear hlens
  have z0 := mSzIss_at b xs l p1 p2 p5 p6
  by_cases h0 : l < (need xs : Int)
  · simp [h0] at z0
    simp [Tryd.f12, List.range, List.range.loop, ints, intss, int, bool, row, frac, fracs, ← List.map_take, ← List.map_drop, mkt, z0, szM, h0]
  have t0 : ¬ (l - (need xs : Int)) < 0 := by omega
  have t0' : ¬ l < (need xs : Int) := h0
  simp [h0] at z0
  have z1 := mSzIss_at c ys (l - need xs) p3 p4 (by omega) (by omega)
  by_cases h1 : l - (need xs : Int) < (need ys : Int)
  · simp [h1] at z1
    simp [Tryd.f12, List.range, List.range.loop, ints, intss, int, bool, row, frac, fracs, ← List.map_take, ← List.map_drop, mkt, z0, z1, t0, szM, h0, h1]
  have t1 : ¬ (l - (need xs : Int) - (need ys : Int)) < 0 := by omega
  simp [h1] at z1
  simp [Tryd.f12, List.range, List.range.loop, ints, intss, int, bool, row, frac, fracs, ← List.map_take, ← List.map_drop, mkt, z0, z1, t0, t1, szM, h0, h1]

noncomputable def mToM : List AV → Option AV := mk (fun p => small p.2.1 ∧ small p.2.2.2) (fun (p : Mk0) => [mkt p.1 p.2.1 p.2.2.1 p.2.2.2]) (fun p => mkt false (own p.2.1) false (own p.2.2.2))
theorem mToM_at (b : Bool) (xs : List (Bool × List Int)) (c : Bool) (ys : List (Bool × List Int)) (h : small xs ∧ small ys) : mToM [.agg [.sl b 1 (xs.map row), .sl c 1 (ys.map row)]] = some (.agg [.sl false 1 ((own xs).map row), .sl false 1 ((own ys).map row)]) :=
  mk_eq (enc := fun (p : Mk0) => [mkt p.1 p.2.1 p.2.2.1 p.2.2.2]) (x := (b, xs, c, ys)) (fun x y h => by rw [mkt_inj h]) h

set_option maxHeartbeats 1000000 in
theorem toMarket_ok : FnFrz Tryd.prog 14 true mToM := by
  refine mk_frz fun ⟨b, xs, c, ys⟩ ⟨h1, h2⟩ => ?_
  simp only at h1 h2
  have hG : FnsOk Tryd.prog [(9, mToIss)] := (.cons toIntSS_ok .nil)
  refine frzOk_awp4 [2] (ctx_ok eqOk hG) mixed (live := [true, true, true, true]) (dt := []) Tryd.func14 rfl (by kernel_rfl) (by kernel_rfl) fun A w0 hlens => ?_
  clear hlens
  have m1 := mToIss_at b xs h1
  have m2 := mToIss_at c ys h2
  simp [Tryd.f14, List.range, List.range.loop, ints, intss, int, bool, row, frac, fracs, ← List.map_take, ← List.map_drop, List.all, andThen_n, freeze, frzA, frzAL, sets, mkt, m1, m2]

noncomputable def mEqM : List AV → Option AV := mk (fun p => (small p.1.2.1 ∧ small p.1.2.2.2) ∧ (small p.2.2.1 ∧ small p.2.2.2.2)) (fun (p : Mk0 × Mk0) => [mkt p.1.1 p.1.2.1 p.1.2.2.1 p.1.2.2.2, mkt p.2.1 p.2.2.1 p.2.2.2.1 p.2.2.2.2]) (fun p => bool (decide (p.1.2.1.map (·.2) = p.2.2.1.map (·.2)) && decide (p.1.2.2.2.map (·.2) = p.2.2.2.2.map (·.2))))
theorem mEqM_at (b : Bool) (xs : List (Bool × List Int)) (c : Bool) (ys : List (Bool × List Int)) (b' : Bool) (xs' : List (Bool × List Int)) (c' : Bool) (ys' : List (Bool × List Int)) (h : (small xs ∧ small ys) ∧ (small xs' ∧ small ys')) : mEqM [.agg [.sl b 1 (xs.map row), .sl c 1 (ys.map row)], .agg [.sl b' 1 (xs'.map row), .sl c' 1 (ys'.map row)]] = some (.v (.bool (decide (xs.map (·.2) = xs'.map (·.2)) && decide (ys.map (·.2) = ys'.map (·.2))))) :=
  mk_eq (enc := fun (p : Mk0 × Mk0) => [mkt p.1.1 p.1.2.1 p.1.2.2.1 p.1.2.2.2, mkt p.2.1 p.2.2.1 p.2.2.2.1 p.2.2.2.2]) (x := ((b, xs, c, ys), (b', xs', c', ys'))) (fun x y h => by
    simp only [List.cons.injEq, and_true] at h
    rw [show x = y from Prod.ext (mkt2_inj h.1) (mkt2_inj h.2)]) h

set_option maxHeartbeats 1000000 in
theorem eqMarket_ok : FnOk Tryd.prog 16 mEqM := by
  refine mk_ok fun ⟨⟨b, xs, c, ys⟩, b', xs', c', ys'⟩ ⟨⟨p1, p2⟩, ⟨p3, p4⟩⟩ => ?_
  simp only at p1 p2 p3 p4
  have hG : FnsOk Tryd.prog [(11, mEqIss)] := (.cons eqIntSS_ok .nil)
  refine callOk_awp (ctx_ok eqOk hG) mixed (live := [true, true, true, true, true, false, false, false, false, false, true, false, false, false, false, false, true]) (dt := []) Tryd.func16 rfl (by kernel_rfl) (by kernel_rfl) fun w0 hlens => ?_
  clear hlens
  have m1 := mEqIss_at b b' xs xs' p1 p3
  have m2 := mEqIss_at c c' ys ys' p2 p4
  by_cases h0 : xs.map (·.2) = xs'.map (·.2)
  · by_cases h1 : ys.map (·.2) = ys'.map (·.2)
    · simp only [h0, h1, decide_true] at m1 m2
      simp [Tryd.f16, List.range, List.range.loop, ints, intss, int, bool, row, frac, fracs, ← List.map_take, ← List.map_drop, mkt, m1, m2, h0, h1]
    · simp only [h0, h1, decide_true, decide_false] at m1 m2
      simp [Tryd.f16, List.range, List.range.loop, ints, intss, int, bool, row, frac, fracs, ← List.map_take, ← List.map_drop, mkt, m1, m2, h0, h1]
  · simp only [h0, decide_false] at m1
    simp [Tryd.f16, List.range, List.range.loop, ints, intss, int, bool, row, frac, fracs, ← List.map_take, ← List.map_drop, mkt, m1, h0]

end Go.Proofs.YtakladjlnkojjaaDoor.Ax
