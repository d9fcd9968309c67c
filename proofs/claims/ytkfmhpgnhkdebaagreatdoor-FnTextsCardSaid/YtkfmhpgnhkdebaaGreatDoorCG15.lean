/-
  Texts that are joined and parted again. Plain Lean, no program in sight.
-/
import Derived.Test.YtkfmhpgnhkdebaaGreatDoorCG14
import Derived.Test.YtkfmhpgnhkdebaaGreatDoorCG13
import Derived.Test.YtkfmhpgnhkdebaaGreatDoorCG6
import Derived.Ground.NamesProg
import Derived.Shelf.Strings.Count
namespace Go.Proofs.YtkfmhpgnhkdebaaGreatDoor.Ax
open Go Go.RowKit
set_option linter.unusedSimpArgs false
theorem nob {s : ByteArray} {c : UInt8} (h : c ∉ bl s) : ∀ j, j < s.size → by1 s j ≠ c.toNat := fun j hj e => by
  have hj' : j < (bl s).length := by rw [bl_size]; exact hj
  rw [by1_bl, List.getElem?_eq_getElem hj'] at e
  exact h (UInt8.toNat_inj.1 e ▸ List.getElem_mem hj')
theorem split_word {s : ByteArray} {c : UInt8} (h : c ∉ bl s) : splitS s c = [s] := split_none (nob h)
theorem bl_one {c : UInt8} : bl ⟨#[c]⟩ = [c] := by simp [bl]
theorem cut_facts {a b : ByteArray} {c : UInt8} (ha : c ∉ bl a) : a.size < (a ++ ⟨#[c]⟩ ++ b).size ∧ by1 (a ++ ⟨#[c]⟩ ++ b) a.size = c.toNat ∧ (∀ i, i < a.size → by1 (a ++ ⟨#[c]⟩ ++ b) i ≠ c.toNat) ∧
    (a ++ ⟨#[c]⟩ ++ b).extract 0 a.size = a ∧ (a ++ ⟨#[c]⟩ ++ b).extract (a.size + 1) (a ++ ⟨#[c]⟩ ++ b).size = b := by
  have hs : bl (a ++ ⟨#[c]⟩ ++ b) = bl a ++ (c :: bl b) := by rw [bl_app, bl_app, bl_one]; simp
  have hl : (a ++ ⟨#[c]⟩ ++ b).size = (bl a).length + ((bl b).length + 1) := by rw [← bl_size, hs, List.length_append, List.length_cons]
  have ha' : (bl a).length = a.size := bl_size a
  refine ⟨by omega, ?_, fun i hi => ?_, ?_, ?_⟩
  · rw [by1_bl, hs, List.getElem?_append_right (by omega), ha', Nat.sub_self]; rfl
  · rw [by1_bl, hs, List.getElem?_append_left (by omega), ← by1_bl]
    exact nob ha i hi
  · apply bl_inj
    rw [bl_ex, hs, List.drop_zero, List.take_append_of_le_length (by omega), List.take_of_length_le (by omega)]
  · apply bl_inj
    rw [bl_ex, List.take_of_length_le (by rw [bl_size]; exact Nat.le_refl _), hs, ← ha', List.drop_append, List.drop_of_length_le (by omega), List.nil_append]
    simp
theorem split_app {a b : ByteArray} {c : UInt8} (ha : c ∉ bl a) : splitS (a ++ ⟨#[c]⟩ ++ b) c = a :: splitS b c := by
  obtain ⟨h1, h2, h3, h4, h5⟩ := cut_facts (a := a) (b := b) ha
  rw [split_some h1 h2 h3, h4, h5]
theorem joinS_bl {ws : List ByteArray} {s : ByteArray} : bl (joinS ws s) = Lib.join (ws.map bl) (bl s) := by unfold joinS; rw [bl_mk]
theorem joinS_one {w s : ByteArray} : joinS [w] s = w := by
  apply bl_inj
  unfold joinS
  rw [bl_mk]
  simp [Lib.join_one]
theorem joinS_cons {w x s : ByteArray} {ws : List ByteArray} : joinS (w :: x :: ws) s = w ++ s ++ joinS (x :: ws) s := by
  apply bl_inj
  rw [bl_app, bl_app, joinS_bl, joinS_bl]
  simp [Lib.join_cons, Lib.joinTail, List.append_assoc]
theorem split_join {c : UInt8} : ∀ {ws : List ByteArray}, ws ≠ [] → (∀ w ∈ ws, c ∉ bl w) → splitS (joinS ws ⟨#[c]⟩) c = ws
  | [], h, _ => (h rfl).elim
  | [w], _, h => by rw [joinS_one, split_word (h w (by simp))]
  | w :: x :: ws, _, h => by
    rw [joinS_cons, split_app (h w (by simp)), split_join (by simp) fun y hy => h y (by simp [hy])]
theorem itoa_bytes {n : Int} : ∀ b ∈ bl (itoaS n), b = 45 ∨ (48 ≤ b.toNat ∧ b.toNat ≤ 57) := fun b hb => by
  unfold itoaS at hb
  rw [bl_mk] at hb
  unfold Lib.itoa at hb
  split at hb
  · rcases List.mem_cons.1 hb with rfl | hb
    · exact .inl rfl
    · exact .inr ((dec_facts _).2.1 b hb)
  · exact .inr ((dec_facts _).2.1 b hb)
theorem itoa_pos {n : Int} (h : 0 ≤ n) : ∀ b ∈ bl (itoaS n), 48 ≤ b.toNat ∧ b.toNat ≤ 57 := fun b hb => by
  unfold itoaS at hb
  rw [bl_mk] at hb
  unfold Lib.itoa at hb
  rw [if_neg (by omega)] at hb
  exact (dec_facts _).2.1 b hb
theorem itoa_ne {n : Int} : 0 < (bl (itoaS n)).length := by
  unfold itoaS
  rw [bl_mk]
  unfold Lib.itoa
  split
  · simp
  · exact (dec_facts _).2.2
theorem itoa_no {n : Int} {c : UInt8} (h1 : c ≠ 45) (h2 : c.toNat < 48 ∨ 57 < c.toNat) : c ∉ bl (itoaS n) := fun hc => by
  rcases itoa_bytes c hc with h | h
  · exact h1 h
  · omega
end Go.Proofs.YtkfmhpgnhkdebaaGreatDoor.Ax
namespace Go.Proofs.YtkfmhpgnhkdebaaGreatDoor.Ax
open Go Go.RowKit
set_option linter.unusedSimpArgs false
def prkL (s : ByteArray) : List Int := (bl s).map fun b => (b.toNat : Int) - 97
theorem prkL_len {s : ByteArray} : (prkL s).length = s.size := by simp [prkL, bl_size]
theorem prkL_succ {s : ByteArray} {k : Nat} (h : k < s.size) : (prkL s).take (k + 1) = (prkL s).take k ++ [(by1 s k : Int) - 97] := by
  have h' : k < (prkL s).length := by rw [prkL_len]; exact h
  have hb : k < (bl s).length := by rw [bl_size]; exact h
  rw [List.take_succ_eq_append_getElem h', by1_bl, List.getElem?_eq_getElem hb]
  simp [prkL]
def prkB (s : ByteArray) : Bool := decide (s.size ≤ 5) && rankB (prkL s).length (prkL s)
def prkAV (s : ByteArray) : AV := if prkB s = true then .tup [.sl false 1 ((prkL s).map int), .v (.bool true)] else .tup [.sl true 1 [], .v (.bool false)]
noncomputable def mPrk : List AV → Option AV := mk (fun s => s.size ≤ 4611686018427387904) (fun (s : ByteArray) => [str s]) (fun s => prkAV s)
theorem mPrk_at (s : ByteArray) (h : s.size ≤ 4611686018427387904) : mPrk [.v (.string s)] = some (prkAV s) :=
  mk_eq (enc := fun (s : ByteArray) => [str s]) (x := s) (fun a b h => by rw [str_inj h]) h
theorem prk_frk {l : List Int} (h : rankB l.length l = true) : prkL (frkS l) = l ∧ prkB (frkS l) = true ∧ (frkS l).size = l.length := by
  obtain ⟨_, n5, _, hin, _⟩ := rank_facts h
  have hb : bl (frkS l) = l.map leB := by simp [frkS, bl]
  have hl : prkL (frkS l) = l := by
    unfold prkL
    rw [hb, List.map_map]
    apply List.ext_getElem
    · simp
    · intro i h1 h2
      have hv := hin i h2
      simp only [List.getElem_map, Function.comp_apply, leB]
      generalize l[i] = x at *
      obtain ⟨y, rfl⟩ : ∃ y : Nat, x = y := ⟨x.toNat, by omega⟩
      exact (by decide +kernel : ∀ y : Nat, y < 5 → ((UInt8.ofNat (97 + (y : Int)).toNat).toNat : Int) - 97 = y) y (by omega)
  have hs : (frkS l).size = l.length := by rw [← bl_size, hb, List.length_map]
  refine ⟨hl, ?_, hs⟩
  unfold prkB
  rw [hl, hs, h]
  simp; omega
theorem frk_T {l : List Int} (h : rankB l.length l = true) : frkT l = frkS l := by unfold frkT; rw [if_pos h]
theorem frk_bytes {l : List Int} (h : rankB l.length l = true) : ∀ b ∈ bl (frkS l), 97 ≤ b.toNat ∧ b.toNat ≤ 101 := fun b hb => by
  obtain ⟨_, n5, _, hin, _⟩ := rank_facts h
  have e : bl (frkS l) = l.map leB := by simp [frkS, bl]
  rw [e] at hb
  obtain ⟨x, hx, rfl⟩ := List.mem_map.1 hb
  obtain ⟨i, hi, rfl⟩ := List.getElem_of_mem hx
  have hv := hin i hi
  generalize l[i] = x at *
  obtain ⟨y, rfl⟩ : ∃ y : Nat, x = y := ⟨x.toNat, by omega⟩
  exact (by decide +kernel : ∀ y : Nat, y < 5 → 97 ≤ (leB (y : Int)).toNat ∧ (leB (y : Int)).toNat ≤ 101) y (by omega)
set_option maxHeartbeats 2000000 in
theorem implPrk_ok : FnOk Tryz.prog 49 mPrk := by
  refine mk_ok fun s hs => ?_
  have hG : FnsOk Tryz.prog [(84, mIsRk)] := (.cons isRank_ok .nil)
  refine callOk_awp (ctx_ok eqOk hG) mixed (live := [true, false, true, true, true, true, false, false, true, false, true, true, true, false, false, false, false, false, false, false, false, false, false, false, false, true]) (dt := []) Tryz.func49 rfl (by kernel_rfl) (by kernel_rfl) fun w0 hlens => ?_
  clear hlens
  have hR : prkAV s = if prkB s = true then .tup [.sl false 1 ((prkL s).map int), .v (.bool true)] else .tup [.sl true 1 [], .v (.bool false)] := rfl
  have hB : prkB s = (decide (s.size ≤ 5) && rankB (prkL s).length (prkL s)) := rfl
  rw [prkL_len] at hB
  have hm := mIsRk_at false (prkL s)
  have hm0 := mIsRk_at true []
  have hl := prkL_len (s := s)
  have hsu := fun k (h : k < s.size) => prkL_succ h
  rw [hl] at hm
  generalize prkL s = L at *
  rw [hR]
  by_cases h5 : 5 < s.size
  · have h5i : (5 : Int) < (s.size : Int) := by omega
    have h5n : ¬ s.size ≤ 5 := by omega
    rw [if_neg (by rw [hB]; simp [h5n])]
    simp [Tryz.f49, List.range, List.range.loop, ints, intss, int, bool, row, frac, fracs, ← List.map_take, ← List.map_drop, str, h5, h5i]
  have h5i : ¬ (5 : Int) < (s.size : Int) := by omega
  have h5n : s.size ≤ 5 := by omega
  simp only [h5n, decide_true, Bool.true_and] at hB
  simp [Tryz.f49, List.range, List.range.loop, ints, intss, int, bool, row, frac, fracs, ← List.map_take, ← List.map_drop, str, h5, h5i]
  refine awp_range (live := [true, false, true, true, true, true, false, false, true, false, true, true, true, false, false, false, false, false, false, false, false, false, false, false, false, true]) (ctx_ok eqOk hG) mixed [true, false, false, false, true, false, false, false, false, false, true, true] (s.size) (fun k => True) (fun k => ⟨[str s, .junk, .junk, .junk, apW k, .junk, .junk, .junk, .junk, .junk, int s.size, int k, .junk, .junk, .junk, .junk, .junk, .junk, .junk, .junk, .junk, .junk, .junk, .junk, .junk, .junk, .junk], apWt ((L.take k).map int) k⟩) ?_ (by simp [sub, slotsLe, clean, keep, refsL, refs, once, place, renL, ren, List.replicate, int, bool, str, apW, apWt, apV]) ?_ ?_ ?_
  · omega
  · trivial
  · intro k hk _ hwk
    obtain ⟨e1, e2⟩ := by1_at hk
    have hst := hsu k hk
    rw [e2] at hst
    have hb : (s[k].toNat : Int) < 256 := by have := s[k].toNat_lt; omega
    have w1 : IntKind.i64.wrap (s[k].toNat : Int) = (s[k].toNat : Int) := wrapI (by omega) (by omega)
    have w2 : IntKind.i64.wrap ((s[k].toNat : Int) - 97) = (s[k].toNat : Int) - 97 := wrapI (by omega) (by omega)
    have hln : (L.take k).length = k := by simp; omega
    have hbb : k + 1 ≤ 4611686018427387904 ∧ (k + 1) * 8 ≤ 140737488355328 := by omega
    cases k with
    | zero =>
      simp [List.range, List.range.loop, ints, intss, int, bool, row, frac, fracs, ← List.map_take, ← List.map_drop, str, apW, apWt, apV, hk, e1, w1, w2, hst]
      try exact wrapI (by omega) (by omega)
    | succ k =>
      simp [List.range, List.range.loop, ints, intss, int, bool, row, frac, fracs, ← List.map_take, ← List.map_drop, str, apW, apWt, apV, hk, hwk, e1, w1, w2, hst, hln, hbb]
      try exact wrapI (by omega) (by omega)
  · intro _
    have ht : L.take s.size = L := List.take_of_length_le (by omega)
    rw [ht]
    cases hz : s.size with
    | zero =>
      have hL0 : L = [] := List.length_eq_zero_iff.1 (by omega)
      subst hL0
      have hr : rankB (0 : Nat) [] = false := rfl
      rw [hz, hr] at hB
      rw [hB]
      have hm0' : mIsRk [.sl true 1 []] = some (.v (.bool false)) := hm0
      simp [List.range, List.range.loop, ints, intss, int, bool, row, frac, fracs, ← List.map_take, ← List.map_drop, apW, apWt, apV, hm0']
    | succ n =>
      have ht2 : List.take (n + 1) L = L := List.take_of_length_le (by omega)
      rw [hz] at hl hm hB
      cases hr : rankB ((n + 1 : Nat) : Int) L with
      | false =>
        rw [hr] at hm hB
        rw [hB]
        simp [List.range, List.range.loop, ints, intss, int, bool, row, frac, fracs, ← List.map_take, ← List.map_drop, str, apW, apWt, apV, hl, hm, ht2]
      | true =>
        rw [hr] at hm hB
        rw [hB]
        simp [List.range, List.range.loop, ints, intss, int, bool, row, frac, fracs, ← List.map_take, ← List.map_drop, str, apW, apWt, apV, hl, hm, ht2]
end Go.Proofs.YtkfmhpgnhkdebaaGreatDoor.Ax
namespace Go.Proofs.YtkfmhpgnhkdebaaGreatDoor.Ax
open Go Go.RowKit
set_option linter.unusedSimpArgs false
def srow (r : Bool × List ByteArray) : AV := .sl r.1 1 (r.2.map str)
def srows (nl : Bool) (xss : List (Bool × List ByteArray)) : AV := .sl nl 1 (xss.map srow)
theorem srow_inj {a b : Bool × List ByteArray} (h : srow a = srow b) : a = b := by
  obtain ⟨a1, a2⟩ := a
  obtain ⟨b1, b2⟩ := b
  simp only [srow, AV.sl.injEq, true_and] at h
  rw [h.1, map_str_inj.1 h.2]
theorem map_srow_inj {a b : List (Bool × List ByteArray)} : a.map srow = b.map srow ↔ a = b := List.map_inj_right fun _ _ h => srow_inj h
noncomputable def mGrowS : List AV → Option AV := mk (fun p => 1 ≤ p ∧ p ≤ 1000000) (fun (p : Nat) => [.sl true 1 [], int (p : Int)]) (fun _ => .sl false 1 [])
theorem mGrowS_at (n : Nat) (h : 1 ≤ n ∧ n ≤ 1000000) : mGrowS [.sl true 1 [], .v (.int .i64 (n : Int))] = some (.sl false 1 []) :=
  mk_eq (enc := fun (p : Nat) => [.sl true 1 [], int (p : Int)]) (f := fun _ => .sl false 1 []) (x := n) (fun _ _ _ => rfl) h
theorem growS_ok : FnOk Tryz.prog 189 mGrowS := by
  refine mk_ok fun n hn => ?_
  have hG : FnsOk Tryz.prog [] := .nil
  refine callOk_awp (ctx_ok eqOk hG) mixed (live := [true, true, false, false, true, false, true, false, false, false, false, false, false, false, false, false, true]) (dt := []) Tryz.func189 rfl (by kernel_rfl) (by kernel_rfl) fun w0 hlens => ?_
  clear hlens
  have h1 : ¬ ((n : Int) < 0) := by omega
  have h2 : IntKind.i64.wrap (n : Int) = (n : Int) := wrapI (by omega) (by omega)
  have hz : IntKind.i64.wrap 0 = 0 := by decide
  have h3 : 0 < n := by omega
  have h0 : ¬ n = 0 := by omega
  have h4 : n ≤ 4611686018427387904 ∧ n * 16 ≤ 140737488355328 := by omega
  have h0' : ¬ (0 = n) := by omega
  simp (config := {contextual := true}) [Tryz.f189, List.range, List.range.loop, ints, intss, int, bool, row, frac, fracs, ← List.map_take, ← List.map_drop, h0, h0', h1, h2, hz, h3, h4]
def catS (xss : List (Bool × List ByteArray)) : List ByteArray := xss.flatMap (·.2)
def catSTo (xss : List (Bool × List ByteArray)) (k : Nat) : List ByteArray := (xss.take k).flatMap (·.2)
theorem catSTo_succ {xss : List (Bool × List ByteArray)} {k : Nat} (h : k < xss.length) : catSTo xss (k + 1) = catSTo xss k ++ xss[k].2 := by
  unfold catSTo
  rw [List.take_succ_eq_append_getElem h, List.flatMap_append]; simp
theorem catSTo_all {xss : List (Bool × List ByteArray)} : catSTo xss xss.length = catS xss := by simp [catSTo, catS]
theorem catSTo_le {xss : List (Bool × List ByteArray)} : ∀ {k : Nat}, (catSTo xss k).length ≤ (catS xss).length := by
  intro k
  unfold catSTo catS
  conv => rhs; rw [← List.take_append_drop k xss, List.flatMap_append]
  simp
noncomputable def mConcatS : List AV → Option AV := mk (fun p => p.2.length ≤ 1000 ∧ 1 ≤ (catS p.2).length ∧ (catS p.2).length ≤ 1000000) (fun (p : Bool × List (Bool × List ByteArray)) => [srows p.1 p.2]) (fun p => .sl false 1 ((catS p.2).map str))
theorem mConcatS_at (nl : Bool) (xss : List (Bool × List ByteArray)) (h : xss.length ≤ 1000 ∧ 1 ≤ (catS xss).length ∧ (catS xss).length ≤ 1000000) : mConcatS [.sl nl 1 (xss.map srow)] = some (.sl false 1 ((catS xss).map str)) :=
  mk_eq (enc := fun (p : Bool × List (Bool × List ByteArray)) => [srows p.1 p.2]) (f := fun p => .sl false 1 ((catS p.2).map str)) (x := (nl, xss)) (by rintro ⟨a, b⟩ ⟨c, d⟩ h; simp [srows, map_srow_inj] at h; simp [h]) h
set_option maxHeartbeats 1000000 in
theorem concatS_ok : FnOk Tryz.prog 125 mConcatS := by
  refine mk_ok fun ⟨nl, xss⟩ ⟨hl, h1, ht⟩ => ?_
  simp only at hl h1 ht
  have hc0 : catSTo xss 0 = [] := rfl
  have hG : FnsOk Tryz.prog [(189, mGrowS)] := (.cons growS_ok .nil)
  refine callOk_awp (ctx_ok eqOk hG) mixed (live := [true, false, true, true, false, true, true, false, true, true, true, true, true, false, false, false, false, false, false, false, true, false, false, false, false, true, true, true, true]) (dt := []) Tryz.func125 rfl (by kernel_rfl) (by kernel_rfl) fun w0 hlens => ?_
  clear hlens
  simp (config := {contextual := true}) [Tryz.f125, List.range, List.range.loop, ints, intss, int, bool, row, frac, fracs, ← List.map_take, ← List.map_drop, srows, srow]
  refine awp_range (live := [true, false, true, true, false, true, true, false, true, true, true, true, true, false, false, false, false, false, false, false, true, false, false, false, false, true, true, true, true]) (ctx_ok eqOk hG) mixed [true, false, false, true, false, false, false, false, false, true, true, true] (xss.length) (fun k => True) (fun k => ⟨[srows nl xss, .junk, .junk, int ((catSTo xss k).length : Int), .junk, .junk, .junk, .junk, .junk, srows nl xss, int xss.length, int k, .junk, .junk, .junk, .junk, .junk, .junk, .junk, .junk, .junk, .junk, .junk, .junk, .junk, .junk, .junk, .junk, .junk, .junk, .junk, .junk, .junk, .junk, .junk, .junk], []⟩) ?_ (by simp [sub, slotsLe, clean, keep, refsL, refs, once, place, renL, ren, List.replicate, int, bool, srows, srow, hc0]) ?_ ?_ ?_
  · omega
  · trivial
  · intro k hk _ hwk
    have hs := catSTo_succ hk
    have hle := catSTo_le (xss := xss) (k := k + 1)
    rw [hs, List.length_append] at hle
    have hw2 : IntKind.i64.wrap (((catSTo xss k).length : Int) + (xss[k].2.length : Int)) = ((catSTo xss k).length : Int) + (xss[k].2.length : Int) := wrapI (by omega) (by omega)
    have hno : ¬ (((catSTo xss k).length : Int) + (xss[k].2.length : Int) < 0) := by omega
    simp (config := {contextual := true}) [List.range, List.range.loop, ints, intss, int, bool, row, frac, fracs, ← List.map_take, ← List.map_drop, srows, srow, hk, hwk, hs, hw2, hno]
  · intro _
    rw [catSTo_all]
    have hg := mGrowS_at _ ⟨h1, ht⟩
    simp (config := {contextual := true}) [List.range, List.range.loop, ints, intss, int, bool, row, frac, fracs, ← List.map_take, ← List.map_drop, srows, srow, hg]
    refine awp_range (live := [true, false, true, true, false, true, true, false, true, true, true, true, true, false, false, false, false, false, false, false, true, false, false, false, false, true, true, true, true]) (ctx_ok eqOk hG) mixed [false, false, false, false, false, false, true, false, false, false, false, false, false, false, false, false, false, false, false, false, false, false, false, false, false, true, true, true] (xss.length) (fun k => True) (fun k => ⟨[.junk, .junk, .junk, .junk, .junk, .junk, .ref 0 [] 0 (catSTo xss k).length, .junk, .junk, .junk, .junk, .junk, .junk, .junk, .junk, .junk, .junk, .junk, .junk, .junk, .junk, .junk, .junk, .junk, .junk, srows nl xss, int xss.length, int k, .junk, .junk, .junk, .junk, .junk, .junk, .junk, .junk], [⟨true, .sl false 1 ((catSTo xss k).map str)⟩]⟩) ?_ (by simp [sub, slotsLe, clean, keep, refsL, refs, once, place, renL, ren, List.replicate, int, bool, srows, srow, hc0]) ?_ ?_ ?_
    · omega
    · trivial
    · intro k hk _ hwk
      have hs := catSTo_succ hk
      have hle := catSTo_le (xss := xss) (k := k + 1)
      rw [hs, List.length_append] at hle
      have hb : (catSTo xss k).length + xss[k].2.length ≤ 4611686018427387904 ∧ ((catSTo xss k).length + xss[k].2.length) * 16 ≤ 140737488355328 := by omega
      have hsc : ∀ l : List ByteArray, l.all (scal ∘ str) = true := fun l => by simp [scal, str]
      simp (config := {contextual := true}) [List.range, List.range.loop, ints, intss, int, bool, row, frac, fracs, ← List.map_take, ← List.map_drop, srows, srow, str, hk, hwk, hs, hb, hsc]
    · intro _
      simp (config := {contextual := true}) [List.range, List.range.loop, ints, intss, int, bool, row, frac, fracs, ← List.map_take, ← List.map_drop, srows, srow, catSTo_all]
def rtx (r : Bool × List Int) : ByteArray := frkT r.2
def wrt' (r : Bool × List Int) : AV := str (rtx r)
noncomputable def mRtx : List AV → Option AV := mk (fun p => 1 ≤ p.2.length ∧ p.2.length ≤ 1000) (fun (p : Bool × List (Bool × List Int)) => [intss p.1 p.2]) (fun p => .sl false 1 (p.2.map wrt'))
theorem mRtx_at (nl : Bool) (xss : List (Bool × List Int)) (h : 1 ≤ xss.length ∧ xss.length ≤ 1000) : mRtx [.sl nl 1 (xss.map row)] = some (.sl false 1 (xss.map wrt')) :=
  mk_eq (enc := fun (p : Bool × List (Bool × List Int)) => [intss p.1 p.2]) (f := fun p => .sl false 1 (p.2.map wrt')) (x := (nl, xss)) (by rintro ⟨a, b⟩ ⟨c, d⟩ h; simp [intss, map_row_inj] at h; simp [h]) h
set_option maxHeartbeats 1000000 in
theorem rtx_ok : FnOk Tryz.prog 126 mRtx := by
  refine mk_ok fun ⟨nl, xss⟩ ⟨h1, h2⟩ => ?_
  simp only at h1 h2
  have hG : FnsOk Tryz.prog [(21, mFrk)] := (.cons implFrk_ok .nil)
  refine callOk_awp (ctx_ok eqOk hG) mixed (live := [true, false, true, true, false, true, true, true, true, true]) (dt := []) Tryz.func126 rfl (by kernel_rfl) (by kernel_rfl) fun w0 hlens => ?_
  clear hlens
  simp [Tryz.f126, List.range, List.range.loop, ints, intss, int, bool, row, frac, fracs, ← List.map_take, ← List.map_drop, intss]
  refine awp_range (live := [true, false, true, true, false, true, true, true, true, true]) (ctx_ok eqOk hG) mixed [false, false, false, true, false, false, true, true, true] (xss.length) (fun k => True) (fun k => ⟨[.junk, .junk, .junk, apW k, .junk, .junk, intss nl xss, int xss.length, int k, .junk, .junk, .junk, .junk, .junk, .junk, .junk, .junk, .junk, .junk], apWt ((xss.take k).map wrt') k⟩) ?_ (by simp [sub, slotsLe, clean, keep, refsL, refs, once, place, renL, ren, List.replicate, int, bool, intss, apW, apWt, apV]) ?_ ?_ ?_
  · omega
  · trivial
  · intro k hk _ hwk
    have i2 := mFrk_at xss[k].1 xss[k].2
    have htr := take_snoc (f := wrt') hk
    have hln : (xss.take k).length = k := by simp; omega
    have hbb : k + 1 ≤ 4611686018427387904 ∧ (k + 1) * 16 ≤ 140737488355328 := by omega
    simp only [wrt', rtx, str] at htr
    cases k with
    | zero =>
      simp at htr
      replace htr := htr.symm
      simp [List.range, List.range.loop, ints, intss, int, bool, row, frac, fracs, ← List.map_take, ← List.map_drop, row, apW, apWt, apV, hk, i2, htr, hbb]
      have h1 : List.take 1 xss = [xss[0]] := by
        cases xss with
        | nil => simp at hk
        | cons a l => rfl
      refine ⟨?_, wrapI (by omega) (by omega)⟩
      rw [h1]
      generalize xss[0] = v
      obtain ⟨f, r⟩ := v
      cases f
      · simp [wrt', rtx, str]
        try exact ⟨r, rfl, rfl⟩
      · simp [wrt', rtx, str]
        try exact ⟨r, rfl, rfl⟩
    | succ k =>
      simp [List.range, List.range.loop, ints, intss, int, bool, row, frac, fracs, ← List.map_take, ← List.map_drop, row, apW, apWt, apV, hk, hwk, i2, htr, hln, hbb]
      try exact wrapI (by omega) (by omega)
  · intro _
    obtain ⟨m, hm⟩ : ∃ m, xss.length = m + 1 := ⟨xss.length - 1, by omega⟩
    have ht : xss.take (m + 1) = xss := List.take_of_length_le (by omega)
    rw [hm]
    simp [List.range, List.range.loop, ints, intss, int, bool, row, frac, fracs, ← List.map_take, ← List.map_drop, apW, apWt, apV, ht, hm]
end Go.Proofs.YtkfmhpgnhkdebaaGreatDoor.Ax
namespace Go.Proofs.YtkfmhpgnhkdebaaGreatDoor.Ax
open Go Go.RowKit
set_option linter.unusedSimpArgs false
def mkW (xs ys : List (Bool × List Int)) : List ByteArray := xs.map rtx ++ (⟨#[124]⟩ :: ys.map rtx)
def fmkS (xs ys : List (Bool × List Int)) : ByteArray := joinS (mkW xs ys) ⟨#[32]⟩
def fmkT (xs ys : List (Bool × List Int)) : ByteArray := if marB xs ys = true then fmkS xs ys else ⟨#[]⟩
theorem frkT_size (l : List Int) : (frkT l).size ≤ 5 := by
  unfold frkT
  split
  · rename_i h
    show (List.map leB l).toArray.size ≤ 5
    have := (rank_facts h).2.1
    simp; omega
  · decide
theorem mar_facts {xs ys : List (Bool × List Int)} (h : marB xs ys = true) : 1 ≤ xs.length ∧ xs.length ≤ 5 ∧ ys.length = xs.length ∧ (∀ r ∈ xs, rankB xs.length r.2 = true) ∧ (∀ r ∈ ys, rankB xs.length r.2 = true) := by
  simp only [marB, Bool.and_eq_true, inR_iff, decide_eq_true_eq, ranksB, List.all_eq_true] at h
  obtain ⟨⟨⟨⟨h1, h2⟩, h3⟩, h4⟩, h5⟩ := h
  exact ⟨by omega, by omega, h3, h4, h5⟩
theorem mkW_len {xs ys : List (Bool × List Int)} : (mkW xs ys).length = xs.length + 1 + ys.length := by simp [mkW]; omega
theorem mkW_size {xs ys : List (Bool × List Int)} : ∀ w ∈ mkW xs ys, w.size ≤ 5 := fun w hw => by
  simp only [mkW, List.mem_append, List.mem_map, List.mem_cons] at hw
  rcases hw with ⟨r, _, rfl⟩ | rfl | ⟨r, _, rfl⟩
  · exact frkT_size _
  · decide
  · exact frkT_size _
theorem mkW_total {xs ys : List (Bool × List Int)} (h : marB xs ys = true) : (fmkS xs ys).size ≤ 100 := by
  obtain ⟨h1, h2, h3, _, _⟩ := mar_facts h
  have hl := join_len (c := 5) (sep := bl ⟨#[32]⟩) (ws := (mkW xs ys).map bl) (by
    intro w hw
    simp only [List.mem_map] at hw
    obtain ⟨v, hv, rfl⟩ := hw
    rw [bl_size]
    exact mkW_size v hv)
  have e1 : (bl ⟨#[32]⟩).length = 1 := rfl
  rw [List.length_map, e1, mkW_len] at hl
  unfold fmkS
  rw [joinS_size]
  omega
theorem fmk_join {xs ys : List (Bool × List Int)} (h : marB xs ys = true) : mJoin [.sl false 1 ((mkW xs ys).map str), .v (.string ⟨#[32]⟩)] = some (.v (.string (fmkS xs ys))) := by
  obtain ⟨h1, h2, h3, _, _⟩ := mar_facts h
  have hl := mkW_total h
  unfold fmkS at hl ⊢
  rw [joinS_size] at hl
  exact mJoin_at false (mkW xs ys) ⟨#[32]⟩ ⟨by rw [mkW_len]; omega, by omega⟩
theorem fmk_cat {xs ys : List (Bool × List Int)} (h : marB xs ys = true) : mConcatS [.sl false 1 [.sl false 1 (xs.map wrt'), .sl false 1 [.v (.string ⟨#[124]⟩)], .sl false 1 (ys.map wrt')]] = some (.sl false 1 ((mkW xs ys).map str)) := by
  obtain ⟨h1, h2, h3, _, _⟩ := mar_facts h
  have hc : catS [(false, xs.map rtx), (false, [⟨#[124]⟩]), (false, ys.map rtx)] = mkW xs ys := by simp [catS, mkW]
  have hm := mConcatS_at false [(false, xs.map rtx), (false, [⟨#[124]⟩]), (false, ys.map rtx)] (by rw [hc, mkW_len]; simp; omega)
  rw [hc] at hm
  simp only [List.map_cons, List.map_nil, srow, List.map_map] at hm
  exact hm
noncomputable def mFmk : List AV → Option AV := mk (fun _ => True) (fun (p : Bool × List (Bool × List Int) × Bool × List (Bool × List Int)) => [mkt p.1 p.2.1 p.2.2.1 p.2.2.2]) (fun p => .v (.string (fmkT p.2.1 p.2.2.2)))
theorem mFmk_at (b : Bool) (xs : List (Bool × List Int)) (c : Bool) (ys : List (Bool × List Int)) : mFmk [.agg [.sl b 1 (xs.map row), .sl c 1 (ys.map row)]] = some (.v (.string (fmkT xs ys))) :=
  mk_eq (enc := fun (p : Bool × List (Bool × List Int) × Bool × List (Bool × List Int)) => [mkt p.1 p.2.1 p.2.2.1 p.2.2.2]) (x := (b, xs, c, ys)) (fun x y h => by rw [mkt_inj h]) trivial
set_option maxHeartbeats 2000000 in
theorem implFmk_ok : FnOk Tryz.prog 47 mFmk := by
  refine mk_ok fun ⟨b, xs, c, ys⟩ _ => ?_
  have hm := mMar_at b xs c ys
  have hG : FnsOk Tryz.prog [(124, mMar), (126, mRtx), (125, mConcatS), (67, mJoin)] := (.cons implMar_ok (.cons rtx_ok (.cons concatS_ok (.cons implJoin_ok .nil))))
  refine callOk_awpZ [0] (ctx_ok eqOk hG) mixed (live := [true, true, true, false, false, true]) (dt := [(3, ⟨[(0, 3), (1, 3), (2, 3), (3, 4), (3, 5), (3, 6)], [0, 0, 1, 1, 0, 0, 1, 1, 1], []⟩)]) Tryz.func47 rfl (by kernel_rfl) (by kernel_rfl) fun w0 hlens => ?_
  clear hlens
  cases h : marB xs ys with
  | false =>
    rw [h] at hm
    simp [Tryz.f47, List.range, List.range.loop, ints, intss, int, bool, row, frac, fracs, ← List.map_take, ← List.map_drop, andThen_n, freeze, frzA, frzAL, sets, mkt, hm, h, fmkT]
  | true =>
    rw [h] at hm
    obtain ⟨h1, h2, h3, _, _⟩ := mar_facts h
    have r1 := mRtx_at b xs (by omega)
    have r2 := mRtx_at c ys (by omega)
    have hc := fmk_cat h
    have hj := fmk_join h
    have hR : fmkT xs ys = fmkS xs ys := by unfold fmkT; rw [if_pos h]
    rw [hR]
    simp [Tryz.f47, List.range, List.range.loop, ints, intss, int, bool, row, frac, fracs, ← List.map_take, ← List.map_drop, andThen_n, freeze, frzA, frzAL, sets, mkt, hm, r1, r2, hc, hj]
    done
end Go.Proofs.YtkfmhpgnhkdebaaGreatDoor.Ax
namespace Go.Proofs
open Go.Shelf
def Tryz.laysCount_ren : Go.Shelf.Ren := ⟨fun | 138 => 244 | 195 => 277 | 218 => 278 | 143 => 242 | 219 => 236 | 217 => 267 | 225 => 268 | 224 => 269 | 267 => 270 | 266 => 289 | 314 => 290 | n => n, fun | 9 => 9 | 3 => 3 | 4 => 4 | 5 => 5 | 0 => 0 | 46 => 167 | 146 => 232 | 51 => 206 | n => n, fun | 1 => 0 | n => n⟩
theorem Tryz.laysCount : Go.Proofs.Lays.n138 Tryz.prog Tryz.laysCount_ren := {
  mixed := by kernel_rfl
  f138 := Tryz.func244.trans (congrArg some (by kernel_rfl))
  f143 := Tryz.func242.trans (congrArg some (by kernel_rfl))
  f195 := Tryz.func277.trans (congrArg some (by kernel_rfl))
  f217 := Tryz.func267.trans (congrArg some (by kernel_rfl))
  f218 := Tryz.func278.trans (congrArg some (by kernel_rfl))
  f219 := Tryz.func236.trans (congrArg some (by kernel_rfl))
  f224 := Tryz.func269.trans (congrArg some (by kernel_rfl))
  f225 := Tryz.func268.trans (congrArg some (by kernel_rfl))
  f266 := Tryz.func289.trans (congrArg some (by kernel_rfl))
  f267 := Tryz.func270.trans (congrArg some (by kernel_rfl))
  f314 := Tryz.func290.trans (congrArg some (by kernel_rfl))
  t0 := Tryz.underlying0
  a0 := Tryz.isAgg0
  z0 := Tryz.sizeOf0
  v0 := Tryz.zeroValue0
  t3 := Tryz.underlying3
  a3 := Tryz.isAgg3
  z3 := Tryz.sizeOf3
  v3 := Tryz.zeroValue3
  t4 := Tryz.underlying4
  a4 := Tryz.isAgg4
  z4 := Tryz.sizeOf4
  v4 := Tryz.zeroValue4
  t5 := Tryz.underlying5
  a5 := Tryz.isAgg5
  z5 := Tryz.sizeOf5
  v5 := Tryz.zeroValue5
  t9 := Tryz.underlying9
  a9 := Tryz.isAgg9
  z9 := Tryz.sizeOf9
  v9 := Tryz.zeroValue9
  t46 := Tryz.underlying167
  a46 := Tryz.isAgg167
  z46 := Tryz.sizeOf167
  v46 := Tryz.zeroValue167
  t51 := Tryz.underlying206
  a51 := Tryz.isAgg206
  z51 := Tryz.sizeOf206
  v51 := Tryz.zeroValue206
  t146 := Tryz.underlying232
  a146 := Tryz.isAgg232
  z146 := Tryz.sizeOf232
  v146 := Tryz.zeroValue232
  g1 := by kernel_rfl }
end Go.Proofs
namespace Go.Proofs.YtkfmhpgnhkdebaaGreatDoor.Ax
open Go Go.RowKit
set_option linter.unusedSimpArgs false
def cntT (s : ByteArray) (c : UInt8) : Nat := (bl s).count c
noncomputable def mCntB : List AV → Option AV := mk (fun _ => True) (fun (p : ByteArray × UInt8) => [str p.1, str ⟨#[p.2]⟩]) (fun p => int (cntT p.1 p.2 : Int))
theorem mCntB_at (s : ByteArray) (c : UInt8) : mCntB [.v (.string s), .v (.string ⟨#[c]⟩)] = some (.v (.int .i64 (cntT s c : Int))) :=
  mk_eq (enc := fun (p : ByteArray × UInt8) => [str p.1, str ⟨#[p.2]⟩]) (x := (s, c)) (by
    rintro ⟨a, b⟩ ⟨a', b'⟩ h
    simp [str] at h
    rw [h.1, h.2]) trivial
theorem countS_ok : FnOk Tryz.prog 244 mCntB := by
  refine mk_ok fun ⟨s, c⟩ _ => ?_
  refine ⟨⟨_, Tryz.func244, by kernel_rfl, by kernel_rfl⟩, fun w F vals hF hv => ?_⟩
  simp only [RepL, Rep, str] at hv
  obtain ⟨v1, r1, e1, ⟨rfl, _⟩, v2, r2, rfl, ⟨rfl, _⟩, rfl⟩ := hv
  have hvals : vals = #[.string s, .string ⟨#[c]⟩] := by apply Array.ext'; rw [e1]
  subst hvals
  refine (Go.Proofs.Any.strings_Count_one Tryz.laysCount s c w).mono fun e w' h => ?_
  obtain ⟨rfl, rfl⟩ := h
  exact ⟨_, fun _ => False, rfl, Frm.refl _ _, fun _ h => h.elim, by simp [Own, int, Value.oneCell', cntT, bl, Lib.countByte]⟩
def gsR (W : List ByteArray) (N i : Nat) : List AV := (W.take i).map str ++ List.replicate (N - i) (.v (.string ⟨#[]⟩))
theorem gsR_len {W : List ByteArray} {N i : Nat} (h : i ≤ W.length) (hN : i ≤ N) : (gsR W N i).length = N := by simp [gsR]; omega
theorem gsR_set {W : List ByteArray} {N i : Nat} (h : i < W.length) (hN : i < N) : (gsR W N i).set i (str W[i]) = gsR W N (i + 1) := by
  have hl : ((W.take i).map str).length = i := by simp; omega
  have e : List.replicate (N - i) (AV.v (.string ⟨#[]⟩)) = .v (.string ⟨#[]⟩) :: List.replicate (N - (i + 1)) (.v (.string ⟨#[]⟩)) := by
    rw [show N - i = (N - (i + 1)) + 1 by omega, List.replicate_succ]
  unfold gsR
  rw [e, List.set_append_right _ _ (by omega), hl, Nat.sub_self, List.set_cons_zero, List.take_succ_eq_append_getElem h, List.map_append]
  simp
structure SpA (s : ByteArray) (c : UInt8) : Prop where
  sz : s.size ≤ 1000000
  ct : cntT s c + 1 = (splitS s c).length
noncomputable def mSpl1 : List AV → Option AV := mk (fun p => SpA p.1 p.2) (fun (p : ByteArray × UInt8) => [str p.1, str ⟨#[p.2]⟩, int 0, int (-1)]) (fun p => .sl false 1 ((splitS p.1 p.2).map str))
theorem mSpl1_at (s : ByteArray) (c : UInt8) (h : SpA s c) : mSpl1 [.v (.string s), .v (.string ⟨#[c]⟩), .v (.int .i64 0), .v (.int .i64 (-1))] = some (.sl false 1 ((splitS s c).map str)) :=
  mk_eq (enc := fun (p : ByteArray × UInt8) => [str p.1, str ⟨#[p.2]⟩, int 0, int (-1)]) (x := (s, c)) (by
    rintro ⟨a, b⟩ ⟨a', b'⟩ h
    simp [str] at h
    rw [h.1, h.2]) h
set_option maxHeartbeats 2000000 in
theorem genSplit_ok : FnOk Tryz.prog 188 mSpl1 := by
  refine mk_ok fun ⟨s, c⟩ hs => ?_
  obtain ⟨hsz, hct⟩ := hs
  simp only at hsz hct
  have hcn := mCntB_at s c
  have c1 : (⟨#[c]⟩ : ByteArray).size = 1 := rfl
  have hse : ¬ (⟨#[c]⟩ : ByteArray).toList = [] := by rw [ByteArray.toList_eq]; simp
  obtain ⟨f1, _⟩ := splitS_facts (s := s) (c := c)
  have hG : FnsOk Tryz.prog [(244, mCntB), (242, mIxb)] := (.cons countS_ok (.cons index_ok .nil))
  refine callOk_awp (ctx_ok eqOk hG) mixed (live := [true, true, true, true, false, false, false, false, true, true, true, true, false, true, false, true, false, false, false, false, true, false, false, false, false, false, false, false, false, false, false, false, false, false, false, false, true, false, false, false, false, true]) (dt := []) Tryz.func188 rfl (by kernel_rfl) (by kernel_rfl) fun w0 hlens => ?_
  clear hlens
  generalize hW : splitS s c = W at *
  obtain ⟨N, hN⟩ : ∃ N : Nat, N = W.length := ⟨_, rfl⟩
  have hk : cntT s c = N - 1 := by omega
  have hN1 : 1 ≤ N := by omega
  rw [hk] at hcn
  have e0 : ((N - 1 : Nat) : Int) = (N : Int) - 1 := by omega
  rw [e0] at hcn
  have v1 : IntKind.i64.wrap ((N : Int) - 1 + 1) = N := by rw [show (N : Int) - 1 + 1 = N by omega]; exact wrapI (by omega) (by omega)
  have v1' : IntKind.i64.wrap (N : Int) = N := wrapI (by omega) (by omega)
  have v2 : IntKind.i64.wrap ((s.size : Int) + 1) = (s.size : Int) + 1 := wrapI (by omega) (by omega)
  have v3 : min (N : Int) ((s.size : Int) + 1) = N := by omega
  have v4 : IntKind.i64.wrap ((N : Int) - 1) = (N : Int) - 1 := wrapI (by omega) (by omega)
  have hb : N ≤ 281474976710656 ∧ N ≤ 4611686018427387904 ∧ N * 16 ≤ 281474976710656 ∧ 16 * N ≤ 281474976710656 := by omega
  have z0 : List.replicate N (AV.v (.string ⟨#[]⟩)) = gsR W N 0 := by simp [gsR]
  simp [Tryz.f188, List.range, List.range.loop, ints, intss, int, bool, row, frac, fracs, ← List.map_take, ← List.map_drop, str, hse, hcn, c1, v1, v1', v2, v3, v4, hb]
  refine awp_loop_of (live := [true, true, true, true, false, false, false, false, true, true, true, true, false, true, false, true, false, false, false, false, true, false, false, false, false, false, false, false, false, false, false, false, false, false, false, false, true, false, false, false, false, true]) (ctx_ok eqOk hG) mixed [true, true, true, true, false, false, false, false, false, true, true] (α := {p : Nat × ByteArray // splitS p.2 c = W.drop p.1 ∧ p.1 < N ∧ p.2.size ≤ s.size}) (fun p => ⟨[str p.1.2, str ⟨#[c]⟩, int 0, int ((N : Int) - 1), .junk, .junk, .junk, .junk, .junk, .ref 0 [] 0 N, int p.1.1, .junk, .junk, .junk, .junk, .junk, .junk, .junk, .junk, .junk, .junk, .junk, .junk, .junk, .junk, .junk, .junk, .junk, .junk, .junk, .junk, .junk, .junk, .junk, .junk, .junk, .junk, .junk, .junk, .junk, .junk, .junk, .junk, .junk, .junk, .junk, .junk, .junk, .junk, .junk, .junk, .junk, .junk, .junk, .junk, .junk, .junk, .junk, .junk, .junk, .junk, .junk, .junk, .junk, .junk, .junk], [⟨true, .sl false 1 (gsR W N p.1.1)⟩]⟩) (fun p => N - p.1.1) ⟨(0, s), by simp [hW], by omega, Nat.le_refl _⟩ (by simp [sub, slotsLe, clean, keep, refsL, refs, once, place, renL, ren, List.replicate, int, bool, z0, str]) ?_
  rintro ⟨⟨i, r⟩, hr, hi, hrs⟩
  simp only at hr hi hrs
  simp only
  have hgl := gsR_len (W := W) (N := N) (i := i) (by omega) (by omega)
  have hgs := gsR_set (W := W) (N := N) (i := i) (by omega) hi
  have hgv : (gsR W N i)[i]'(by rw [hgl]; exact hi) = .v (.string ⟨#[]⟩) := by
    have e : (gsR W N i)[i]? = some (.v (.string ⟨#[]⟩)) := by
      unfold gsR
      have hl : ((W.take i).map str).length = i := by simp; omega
      rw [List.getElem?_append_right (by omega), hl, Nat.sub_self, List.getElem?_replicate, if_pos (by omega)]
    rw [List.getElem?_eq_getElem (by rw [hgl]; exact hi)] at e
    exact Option.some.inj e
  have hix := mIxb_at r c
  have hiW : i < W.length := by omega
  have hd0 : (W.drop i)[0]? = W[i]? := by rw [List.getElem?_drop]; simp
  by_cases hin : i < N - 1
  · have hini : (i : Int) < (N : Int) - 1 := by omega
    rcases split_idx (s := r) (c := c) with ⟨g1, g2⟩ | ⟨j, g1, g2, g3⟩
    · rw [g2] at hr
      have := congrArg List.length hr
      simp at this; omega
    · rw [g3] at hr
      rw [g1] at hix
      have hw0 : W[i] = r.extract 0 j := by
        have := congrArg (fun l => l[0]?) hr
        simp only [hd0, List.getElem?_eq_getElem hiW] at this
        simpa using this.symm
      have hr2 : splitS (r.extract (j + 1) r.size) c = W.drop (i + 1) := by
        have := congrArg (List.drop 1) hr
        rw [List.drop_drop] at this
        simpa using this
      have hes : (r.extract (j + 1) r.size).size ≤ s.size := by rw [ByteArray.size_extract]; omega
      rw [hw0] at hgs
      simp only [str] at hgs
      have hj0 : ¬ ((j : Int) < 0) := by omega
      have u1 : IntKind.i64.wrap (j : Int) = j := wrapI (by omega) (by omega)
      have u2 : IntKind.i64.wrap ((j : Int) + 1) = (j : Int) + 1 := wrapI (by omega) (by omega)
      have u3 : IntKind.i64.wrap ((i : Int) + 1) = (i : Int) + 1 := wrapI (by omega) (by omega)
      have hjr : j ≤ r.size := by omega
      have hjr1 : j + 1 ≤ r.size := by omega
      simp [List.range, List.range.loop, ints, intss, int, bool, row, frac, fracs, ← List.map_take, ← List.map_drop, str, hini, hix, hj0, u1, u2, u3, c1, hjr, hjr1, hgl, hi, hgv]
      exact ⟨⟨(i + 1, r.extract (j + 1) r.size), hr2, by omega, hes⟩, by simp [sub, slotsLe, clean, keep, refsL, refs, once, place, renL, ren, List.replicate, int, bool, str, hgs, hgv], by simp; omega⟩
  · obtain rfl : i = N - 1 := by omega
    have hini : ¬ (((N - 1 : Nat) : Int) < (N : Int) - 1) := by omega
    have hrl : W[N - 1] = r := by
      rcases split_idx (s := r) (c := c) with ⟨g1, g2⟩ | ⟨j, g1, g2, g3⟩
      · rw [g2] at hr
        have := congrArg (fun l => l[0]?) hr
        simp only [hd0, List.getElem?_eq_getElem hiW] at this
        simpa using this.symm
      · rw [g3] at hr
        have := congrArg List.length hr
        unfold splitS at this
        simp at this; omega
    rw [hrl] at hgs
    simp only [str] at hgs
    have u3 : IntKind.i64.wrap (((N - 1 : Nat) : Int) + 1) = (N : Int) := by rw [show ((N - 1 : Nat) : Int) + 1 = N by omega]; exact wrapI (by omega) (by omega)
    have hfin : gsR W N (N - 1 + 1) = W.map str := by
      unfold gsR
      rw [show N - 1 + 1 = N by omega, Nat.sub_self, List.take_of_length_le (by omega)]; simp
    have hNW : N ≤ W.length := by omega
    have htW : List.take N W = W := List.take_of_length_le (by omega)
    simp [List.range, List.range.loop, ints, intss, int, bool, row, frac, fracs, ← List.map_take, ← List.map_drop, str, hini, hgl, hi, u3, hgs, hfin, hgv, htW, ← hN]
    done
noncomputable def mSpl2 : List AV → Option AV := mk (fun p => SpA p.1 p.2) (fun (p : ByteArray × UInt8) => [str p.1, str ⟨#[p.2]⟩]) (fun p => .sl false 1 ((splitS p.1 p.2).map str))
theorem mSpl2_at (s : ByteArray) (c : UInt8) (h : SpA s c) : mSpl2 [.v (.string s), .v (.string ⟨#[c]⟩)] = some (.sl false 1 ((splitS s c).map str)) :=
  mk_eq (enc := fun (p : ByteArray × UInt8) => [str p.1, str ⟨#[p.2]⟩]) (x := (s, c)) (by
    rintro ⟨a, b⟩ ⟨a', b'⟩ h
    simp [str] at h
    rw [h.1, h.2]) h
theorem splitP_ok : FnOk Tryz.prog 123 mSpl2 := by
  refine mk_ok fun ⟨s, c⟩ hs => ?_
  have h1 := mSpl1_at s c hs
  have hG : FnsOk Tryz.prog [(188, mSpl1)] := (.cons genSplit_ok .nil)
  refine callOk_awp (ctx_ok eqOk hG) mixed (live := [true, true, false, false, true]) (dt := []) Tryz.func123 rfl (by kernel_rfl) (by kernel_rfl) fun w0 hlens => ?_
  clear hlens
  simp [Tryz.f123, List.range, List.range.loop, ints, intss, int, bool, row, frac, fracs, ← List.map_take, ← List.map_drop, str, h1]
end Go.Proofs.YtkfmhpgnhkdebaaGreatDoor.Ax
