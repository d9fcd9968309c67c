/-
  Texts that are joined and parted again. Plain Lean, no program in sight.
-/
import Derived.Test.YtigepnpiofcooaaGreatDoorCG9
import Derived.Test.YtigepnpiofcooaaGreatDoorCG8
import Derived.Shelf.Strings.Search2
namespace Go.Proofs.YtigepnpiofcooaaGreatDoor.Ax
open Go Go.RowKit
set_option linter.unusedSimpArgs false
theorem nob {s : ByteArray} {c : UInt8} (h : c ∉ bl s) : ∀ j, j < s.size → by1 s j ≠ c.toNat := fun j hj e => by
  have hj' : j < (bl s).length := by rw [bl_size]; exact hj
  rw [by1_bl, List.getElem?_eq_getElem hj'] at e
  exact h (UInt8.toNat_inj.1 e ▸ List.getElem_mem hj')
theorem split_word {s : ByteArray} {c : UInt8} (h : c ∉ bl s) : splitS s c = [s] := split_none (nob h)
theorem bl_one {c : UInt8} : bl ⟨#[c]⟩ = [c] := by simp [bl]
theorem cut_facts {a b : ByteArray} {c : UInt8} (ha : c ∉ bl a) : a.size < (a ++ ⟨#[c]⟩ ++ b).size ∧ by1 (a ++ ⟨#[c]⟩ ++ b) a.size = c.toNat ∧ (∀ i, i < a.size → by1 (a ++ ⟨#[c]⟩ ++ b) i ≠ c.toNat) ∧
    (a ++ ⟨#[c]⟩ ++ b).extract 0 a.size = a ∧ (a ++ ⟨#[c]⟩ ++ b).extract (a.size + 1) (a ++ ⟨#[c]⟩ ++ b).size = b := by
  have hs : bl (a ++ ⟨#[c]⟩ ++ b) = bl a ++ (c :: bl b) := by rw [bl_app, bl_app, bl_one]; simp
  have hl : (a ++ ⟨#[c]⟩ ++ b).size = (bl a).length + ((bl b).length + 1) := by rw [← bl_size, hs, List.length_append, List.length_cons]
  have ha' : (bl a).length = a.size := bl_size a
  refine ⟨by omega, ?_, fun i hi => ?_, ?_, ?_⟩
  · rw [by1_bl, hs, List.getElem?_append_right (by omega), ha', Nat.sub_self]; rfl
  · rw [by1_bl, hs, List.getElem?_append_left (by omega), ← by1_bl]
    exact nob ha i hi
  · apply bl_inj
    rw [bl_ex, hs, List.drop_zero, List.take_append_of_le_length (by omega), List.take_of_length_le (by omega)]
  · apply bl_inj
    rw [bl_ex, List.take_of_length_le (by rw [bl_size]; exact Nat.le_refl _), hs, ← ha', List.drop_append, List.drop_of_length_le (by omega), List.nil_append]
    simp
theorem split_app {a b : ByteArray} {c : UInt8} (ha : c ∉ bl a) : splitS (a ++ ⟨#[c]⟩ ++ b) c = a :: splitS b c := by
  obtain ⟨h1, h2, h3, h4, h5⟩ := cut_facts (a := a) (b := b) ha
  rw [split_some h1 h2 h3, h4, h5]
theorem joinS_bl {ws : List ByteArray} {s : ByteArray} : bl (joinS ws s) = Lib.join (ws.map bl) (bl s) := by unfold joinS; rw [bl_mk]
theorem joinS_one {w s : ByteArray} : joinS [w] s = w := by
  apply bl_inj
  unfold joinS
  rw [bl_mk]
  simp [Lib.join_one]
theorem joinS_cons {w x s : ByteArray} {ws : List ByteArray} : joinS (w :: x :: ws) s = w ++ s ++ joinS (x :: ws) s := by
  apply bl_inj
  rw [bl_app, bl_app, joinS_bl, joinS_bl]
  simp [Lib.join_cons, Lib.joinTail, List.append_assoc]
theorem split_join {c : UInt8} : ∀ {ws : List ByteArray}, ws ≠ [] → (∀ w ∈ ws, c ∉ bl w) → splitS (joinS ws ⟨#[c]⟩) c = ws
  | [], h, _ => (h rfl).elim
  | [w], _, h => by rw [joinS_one, split_word (h w (by simp))]
  | w :: x :: ws, _, h => by
    rw [joinS_cons, split_app (h w (by simp)), split_join (by simp) fun y hy => h y (by simp [hy])]
theorem itoa_bytes {n : Int} : ∀ b ∈ bl (itoaS n), b = 45 ∨ (48 ≤ b.toNat ∧ b.toNat ≤ 57) := fun b hb => by
  unfold itoaS at hb
  rw [bl_mk] at hb
  unfold Lib.itoa at hb
  split at hb
  · rcases List.mem_cons.1 hb with rfl | hb
    · exact .inl rfl
    · exact .inr ((dec_facts _).2.1 b hb)
  · exact .inr ((dec_facts _).2.1 b hb)
theorem itoa_pos {n : Int} (h : 0 ≤ n) : ∀ b ∈ bl (itoaS n), 48 ≤ b.toNat ∧ b.toNat ≤ 57 := fun b hb => by
  unfold itoaS at hb
  rw [bl_mk] at hb
  unfold Lib.itoa at hb
  rw [if_neg (by omega)] at hb
  exact (dec_facts _).2.1 b hb
theorem itoa_no {n : Int} {c : UInt8} (h1 : c ≠ 45) (h2 : c.toNat < 48 ∨ 57 < c.toNat) : c ∉ bl (itoaS n) := fun hc => by
  rcases itoa_bytes c hc with h | h
  · exact h1 h
  · omega
end Go.Proofs.YtigepnpiofcooaaGreatDoor.Ax
namespace Go.Proofs.YtigepnpiofcooaaGreatDoor.Ax
open Go Go.RowKit
set_option linter.unusedSimpArgs false
def prkL (s : ByteArray) : List Int := (bl s).map fun b => (b.toNat : Int) - 97
theorem prkL_len {s : ByteArray} : (prkL s).length = s.size := by simp [prkL, bl_size]
theorem prkL_succ {s : ByteArray} {k : Nat} (h : k < s.size) : (prkL s).take (k + 1) = (prkL s).take k ++ [(by1 s k : Int) - 97] := by
  have h' : k < (prkL s).length := by rw [prkL_len]; exact h
  have hb : k < (bl s).length := by rw [bl_size]; exact h
  rw [List.take_succ_eq_append_getElem h', by1_bl, List.getElem?_eq_getElem hb]
  simp [prkL]
def prkB (s : ByteArray) : Bool := decide (s.size ≤ 5) && rankB (prkL s).length (prkL s)
def prkAV (s : ByteArray) : AV := if prkB s = true then .tup [.sl false 1 ((prkL s).map int), .v (.bool true)] else .tup [.sl true 1 [], .v (.bool false)]
noncomputable def mPrk : List AV → Option AV := mk (fun s => s.size ≤ 4611686018427387904) (fun (s : ByteArray) => [str s]) (fun s => prkAV s)
theorem mPrk_at (s : ByteArray) (h : s.size ≤ 4611686018427387904) : mPrk [.v (.string s)] = some (prkAV s) :=
  mk_eq (enc := fun (s : ByteArray) => [str s]) (x := s) (fun a b h => by rw [str_inj h]) h
theorem prk_frk {l : List Int} (h : rankB l.length l = true) : prkL (frkS l) = l ∧ prkB (frkS l) = true ∧ (frkS l).size = l.length := by
  obtain ⟨_, n5, _, hin, _⟩ := rank_facts h
  have hb : bl (frkS l) = l.map leB := by simp [frkS, bl]
  have hl : prkL (frkS l) = l := by
    unfold prkL
    rw [hb, List.map_map]
    apply List.ext_getElem
    · simp
    · intro i h1 h2
      have hv := hin i h2
      simp only [List.getElem_map, Function.comp_apply, leB]
      generalize l[i] = x at *
      obtain ⟨y, rfl⟩ : ∃ y : Nat, x = y := ⟨x.toNat, by omega⟩
      exact (by decide +kernel : ∀ y : Nat, y < 5 → ((UInt8.ofNat (97 + (y : Int)).toNat).toNat : Int) - 97 = y) y (by omega)
  have hs : (frkS l).size = l.length := by rw [← bl_size, hb, List.length_map]
  refine ⟨hl, ?_, hs⟩
  unfold prkB
  rw [hl, hs, h]
  simp; omega
theorem frk_T {l : List Int} (h : rankB l.length l = true) : frkT l = frkS l := by unfold frkT; rw [if_pos h]
theorem frk_bytes {l : List Int} (h : rankB l.length l = true) : ∀ b ∈ bl (frkS l), 97 ≤ b.toNat ∧ b.toNat ≤ 101 := fun b hb => by
  obtain ⟨_, n5, _, hin, _⟩ := rank_facts h
  have e : bl (frkS l) = l.map leB := by simp [frkS, bl]
  rw [e] at hb
  obtain ⟨x, hx, rfl⟩ := List.mem_map.1 hb
  obtain ⟨i, hi, rfl⟩ := List.getElem_of_mem hx
  have hv := hin i hi
  generalize l[i] = x at *
  obtain ⟨y, rfl⟩ : ∃ y : Nat, x = y := ⟨x.toNat, by omega⟩
  exact (by decide +kernel : ∀ y : Nat, y < 5 → 97 ≤ (leB (y : Int)).toNat ∧ (leB (y : Int)).toNat ≤ 101) y (by omega)
set_option maxHeartbeats 2000000 in
theorem implPrk_ok : FnOk Tryz.prog 24 mPrk := by
  refine mk_ok fun s hs => ?_
  have hG : FnsOk Tryz.prog [(42, mIsRk)] := (.cons isRank_ok .nil)
  refine callOk_awp (ctx_ok eqOk hG) mixed (live := [true, false, true, true, true, true, false, false, true, false, true, true, true, false, false, false, false, false, false, false, false, false, false, false, false, true]) (dt := []) Tryz.func24 rfl (by kernel_rfl) (by kernel_rfl) fun w0 hlens => ?_
  clear hlens
  have hR : prkAV s = if prkB s = true then .tup [.sl false 1 ((prkL s).map int), .v (.bool true)] else .tup [.sl true 1 [], .v (.bool false)] := rfl
  have hB : prkB s = (decide (s.size ≤ 5) && rankB (prkL s).length (prkL s)) := rfl
  rw [prkL_len] at hB
  have hm := mIsRk_at false (prkL s)
  have hm0 := mIsRk_at true []
  have hl := prkL_len (s := s)
  have hsu := fun k (h : k < s.size) => prkL_succ h
  rw [hl] at hm
  generalize prkL s = L at *
  rw [hR]
  by_cases h5 : 5 < s.size
  · have h5i : (5 : Int) < (s.size : Int) := by omega
    have h5n : ¬ s.size ≤ 5 := by omega
    rw [if_neg (by rw [hB]; simp [h5n])]
    simp [Tryz.f24, List.range, List.range.loop, ints, intss, int, bool, row, frac, fracs, ← List.map_take, ← List.map_drop, str, h5, h5i]
  have h5i : ¬ (5 : Int) < (s.size : Int) := by omega
  have h5n : s.size ≤ 5 := by omega
  simp only [h5n, decide_true, Bool.true_and] at hB
  simp [Tryz.f24, List.range, List.range.loop, ints, intss, int, bool, row, frac, fracs, ← List.map_take, ← List.map_drop, str, h5, h5i]
  refine awp_range (live := [true, false, true, true, true, true, false, false, true, false, true, true, true, false, false, false, false, false, false, false, false, false, false, false, false, true]) (ctx_ok eqOk hG) mixed [true, false, false, false, true, false, false, false, false, false, true, true] (s.size) (fun k => True) (fun k => ⟨[str s, .junk, .junk, .junk, apW k, .junk, .junk, .junk, .junk, .junk, int s.size, int k, .junk, .junk, .junk, .junk, .junk, .junk, .junk, .junk, .junk, .junk, .junk, .junk, .junk, .junk, .junk], apWt ((L.take k).map int) k⟩) ?_ (by simp [sub, slotsLe, clean, keep, refsL, refs, once, place, renL, ren, List.replicate, int, bool, str, apW, apWt, apV]) ?_ ?_ ?_
  · omega
  · trivial
  · intro k hk _ hwk
    obtain ⟨e1, e2⟩ := by1_at hk
    have hst := hsu k hk
    rw [e2] at hst
    have hb : (s[k].toNat : Int) < 256 := by have := s[k].toNat_lt; omega
    have w1 : IntKind.i64.wrap (s[k].toNat : Int) = (s[k].toNat : Int) := wrapI (by omega) (by omega)
    have w2 : IntKind.i64.wrap ((s[k].toNat : Int) - 97) = (s[k].toNat : Int) - 97 := wrapI (by omega) (by omega)
    have hln : (L.take k).length = k := by simp; omega
    have hbb : k + 1 ≤ 4611686018427387904 ∧ (k + 1) * 8 ≤ 140737488355328 := by omega
    cases k with
    | zero =>
      simp [List.range, List.range.loop, ints, intss, int, bool, row, frac, fracs, ← List.map_take, ← List.map_drop, str, apW, apWt, apV, hk, e1, w1, w2, hst]
      try exact wrapI (by omega) (by omega)
    | succ k =>
      simp [List.range, List.range.loop, ints, intss, int, bool, row, frac, fracs, ← List.map_take, ← List.map_drop, str, apW, apWt, apV, hk, hwk, e1, w1, w2, hst, hln, hbb]
      try exact wrapI (by omega) (by omega)
  · intro _
    have ht : L.take s.size = L := List.take_of_length_le (by omega)
    rw [ht]
    cases hz : s.size with
    | zero =>
      have hL0 : L = [] := List.length_eq_zero_iff.1 (by omega)
      subst hL0
      have hr : rankB (0 : Nat) [] = false := rfl
      rw [hz, hr] at hB
      rw [hB]
      have hm0' : mIsRk [.sl true 1 []] = some (.v (.bool false)) := hm0
      simp [List.range, List.range.loop, ints, intss, int, bool, row, frac, fracs, ← List.map_take, ← List.map_drop, apW, apWt, apV, hm0']
    | succ n =>
      have ht2 : List.take (n + 1) L = L := List.take_of_length_le (by omega)
      rw [hz] at hl hm hB
      cases hr : rankB ((n + 1 : Nat) : Int) L with
      | false =>
        rw [hr] at hm hB
        rw [hB]
        simp [List.range, List.range.loop, ints, intss, int, bool, row, frac, fracs, ← List.map_take, ← List.map_drop, str, apW, apWt, apV, hl, hm, ht2]
      | true =>
        rw [hr] at hm hB
        rw [hB]
        simp [List.range, List.range.loop, ints, intss, int, bool, row, frac, fracs, ← List.map_take, ← List.map_drop, str, apW, apWt, apV, hl, hm, ht2]
end Go.Proofs.YtigepnpiofcooaaGreatDoor.Ax
namespace Go.Proofs.YtigepnpiofcooaaGreatDoor.Ax
open Go Go.RowKit
set_option linter.unusedSimpArgs false
def vtS (v : Vt) : ByteArray := itoaS v.2 ++ ⟨#[42]⟩ ++ frkT v.1.2
def wv (v : Vt) : AV := .v (.string (vtS v))
def fprS (vs : List Vt) : ByteArray := joinS (vs.map vtS) ⟨#[32]⟩
def fprT (s : Int) (vs : List Vt) : ByteArray := if profB s vs = true then (if vs = [] then ⟨#[45]⟩ ++ itoaS s else fprS vs) else ⟨#[]⟩
theorem vtS_size {s : Int} {v : Vt} (h : vtB s v = true) : (itoaS v.2).size ≤ 20 ∧ (frkT v.1.2).size ≤ 5 ∧ (vtS v).size ≤ 26 := by
  simp only [vtB, Bool.and_eq_true, inR_iff] at h
  obtain ⟨h1, h2⟩ := h
  have hl := (rank_facts h1).2.2.1
  have h5 := (rank_facts h1).2.1
  have e1 := itoa_size (n := v.2) (inI_small (by omega))
  have e2 : (frkT v.1.2).size ≤ 5 := by
    unfold frkT
    split
    · show (List.map leB v.1.2).toArray.size ≤ 5
      simp; omega
    · decide
  have e3 : (⟨#[42]⟩ : ByteArray).size = 1 := rfl
  refine ⟨e1, e2, ?_⟩
  unfold vtS
  rw [ByteArray.size_append, ByteArray.size_append, e3]
  omega
noncomputable def mFpr : List AV → Option AV := mk (fun _ => True) (fun (p : Int × Bool × List Vt) => [prof p.1 p.2.1 p.2.2]) (fun p => .v (.string (fprT p.1 p.2.2)))
theorem mFpr_at (s : Int) (nl : Bool) (vs : List Vt) : mFpr [.agg [.v (.int .i64 s), .sl nl 2 (vs.map vote)]] = some (.v (.string (fprT s vs))) :=
  mk_eq (enc := fun (p : Int × Bool × List Vt) => [prof p.1 p.2.1 p.2.2]) (x := (s, nl, vs)) (by
    rintro ⟨a, b, c⟩ ⟨a', b', c'⟩ h
    simp [prof, vts, int, map_vote_inj] at h
    obtain ⟨rfl, rfl, rfl⟩ := h
    rfl) trivial
theorem fpr_join {s : Int} {vs : List Vt} (h : profB s vs = true) : mJoin [.sl false 1 (vs.map wv), .v (.string ⟨#[32]⟩)] = some (.v (.string (fprS vs))) := by
  obtain ⟨_, h24, hall⟩ := prof_facts h
  have hl := join_len (c := 26) (sep := bl ⟨#[32]⟩) (ws := (vs.map vtS).map bl) (by
    intro w hw
    simp only [List.map_map, List.mem_map, Function.comp_apply] at hw
    obtain ⟨v, hv, rfl⟩ := hw
    rw [bl_size]
    have := hall v hv
    exact (vtS_size (s := s) (by simp [vtB, inR]; exact this)).2.2)
  have e1 : (bl ⟨#[32]⟩).length = 1 := rfl
  rw [List.length_map, List.length_map, e1] at hl
  have := mJoin_at false (vs.map vtS) ⟨#[32]⟩ ⟨by rw [List.length_map]; omega, by omega⟩
  rw [List.map_map] at this
  exact this
set_option maxHeartbeats 2000000 in
theorem implFpr_ok : FnOk Tryz.prog 39 mFpr := by
  refine mk_ok fun ⟨s, nl, vs⟩ _ => ?_
  have hpp := mProf_at s nl vs
  have hG : FnsOk Tryz.prog [(38, mProf), (37, mItoa), (53, mFrk), (54, mJoin)] := (.cons implProf_ok (.cons implFormatInt_ok (.cons implFrk_ok (.cons implJoin_ok .nil))))
  refine callOk_awpZ [0] (ctx_ok eqOk hG) mixed (live := [true, true, true, true, false, true, false, false, true, false, false, false, true, false, false, false, false, false, true, true, true, true]) (dt := [(9, ⟨[], [0, 0, 0, 0, 0, 0, 0, 0, 0, 1, 1], []⟩)]) Tryz.func39 rfl (by kernel_rfl) (by kernel_rfl) fun w0 hlens => ?_
  clear hlens
  cases h : profB s vs with
  | false =>
    rw [h] at hpp
    simp [Tryz.f39, List.range, List.range.loop, ints, intss, int, bool, row, frac, fracs, ← List.map_take, ← List.map_drop, andThen_n, freeze, frzA, frzAL, sets, prof, hpp, h, fprT]
  | true =>
    rw [h] at hpp
    obtain ⟨⟨s1, s5⟩, h24, hall⟩ := prof_facts h
    have hj := fpr_join h
    have hi := mItoa_at s (inI_small (by omega))
    have hz := itoa_size (n := s) (inI_small (by omega))
    have hR : fprT s vs = if vs = [] then ⟨#[45]⟩ ++ itoaS s else fprS vs := by unfold fprT; rw [if_pos h]
    rw [hR]
    by_cases hv : vs = []
    · subst hv
      simp only [List.map_nil] at hpp
      have c1 : (⟨#[45]⟩ : ByteArray).size = 1 := rfl
      have c2 : 1 + (itoaS s).size ≤ 9223372036854775807 := by omega
      simp [Tryz.f39, List.range, List.range.loop, ints, intss, int, bool, row, frac, fracs, ← List.map_take, ← List.map_drop, andThen_n, freeze, frzA, frzAL, sets, prof, hpp, hi, c1, c2]
      done
    have h0 : 0 < vs.length := List.length_pos_iff.2 hv
    have hz0 : ¬ ((vs.length : Int) = 0) := by omega
    have hzn : ¬ vs.length = 0 := by omega
    rw [if_neg hv]
    simp [Tryz.f39, List.range, List.range.loop, ints, intss, int, bool, row, frac, fracs, ← List.map_take, ← List.map_drop, andThen_n, freeze, frzA, frzAL, sets, prof, hpp, hv, hz0, hzn]
    refine awp_range (live := [true, true, true, true, false, true, false, false, true, false, false, false, true, false, false, false, false, false, true, true, true, true]) (ctx_ok eqOk hG) mixed [false, false, false, true, false, false, false, false, false, false, false, false, false, false, false, false, false, false, true, true, true] (vs.length) (fun k => True) (fun k => ⟨[.junk, .junk, .junk, apW k, .junk, .junk, .junk, .junk, .junk, .junk, .junk, .junk, .junk, .junk, .junk, .junk, .junk, .junk, vts nl vs, int vs.length, int k, .junk, .junk, .junk, .junk, .junk, .junk, .junk, .junk, .junk, .junk, .junk, .junk, .junk, .junk, .junk, .junk, .junk], apWt ((vs.take k).map wv) k⟩) ?_ (by simp [sub, slotsLe, clean, keep, refsL, refs, once, place, renL, ren, List.replicate, int, bool, prof, vts, apW, apWt, apV]) ?_ ?_ ?_
    · omega
    · trivial
    · intro k hk _ hwk
      have hvk := hall _ (List.getElem_mem hk)
      obtain ⟨z1, z2, z3⟩ := vtS_size (s := s) (v := vs[k]) (by simp [vtB, inR]; exact hvk)
      have i1 := mItoa_at vs[k].2 (inI_small (by omega))
      have i2 := mFrk_at vs[k].1.1 vs[k].1.2
      have htr := take_snoc (f := wv) hk
      have hln : (vs.take k).length = k := by simp; omega
      have hbb : k + 1 ≤ 4611686018427387904 ∧ (k + 1) * 16 ≤ 140737488355328 := by omega
      have c1 : (⟨#[42]⟩ : ByteArray).size = 1 := rfl
      have c2 : (itoaS vs[k].2).size + 1 ≤ 9223372036854775807 := by omega
      have c3 : (itoaS vs[k].2).size + 1 + (frkT vs[k].1.2).size ≤ 9223372036854775807 := by omega
      simp only [wv, vtS] at htr
      cases k with
      | zero =>
        simp at htr
        replace htr := htr.symm
        simp [List.range, List.range.loop, ints, intss, int, bool, row, frac, fracs, ← List.map_take, ← List.map_drop, prof, vts, vote, apW, apWt, apV, hk, i1, i2, c1, c2, c3, ByteArray.size_append, htr, hbb]
        have h1 : List.take 1 vs = [vs[0]] := by
          cases vs with
          | nil => exact absurd rfl hv
          | cons a l => rfl
        refine ⟨?_, wrapI (by omega) (by omega)⟩
        rw [h1]
        generalize vs[0] = v
        obtain ⟨⟨f, r⟩, n⟩ := v
        cases f
        · simp [wv, vtS]; exact ⟨r, n, ⟨rfl, rfl⟩, rfl⟩
        · simp [wv, vtS]; exact ⟨r, n, ⟨rfl, rfl⟩, rfl⟩
      | succ k =>
        simp [List.range, List.range.loop, ints, intss, int, bool, row, frac, fracs, ← List.map_take, ← List.map_drop, prof, vts, vote, apW, apWt, apV, hk, hwk, i1, i2, c1, c2, c3, ByteArray.size_append, htr, hln, hbb]
        try exact wrapI (by omega) (by omega)
    · intro _
      obtain ⟨m, hm⟩ : ∃ m, vs.length = m + 1 := ⟨vs.length - 1, by omega⟩
      have ht : vs.take (m + 1) = vs := List.take_of_length_le (by omega)
      rw [hm]
      simp [List.range, List.range.loop, ints, intss, int, bool, row, frac, fracs, ← List.map_take, ← List.map_drop, prof, vts, apW, apWt, apV, ht, hm, hj]
      done
end Go.Proofs.YtigepnpiofcooaaGreatDoor.Ax
namespace Go.Proofs.YtigepnpiofcooaaGreatDoor.Ax
open Go Go.RowKit
set_option linter.unusedSimpArgs false
theorem index2_ok : FnOk Tryz.prog 58 mIxb := by
  refine mk_ok fun ⟨s, c⟩ _ => ?_
  refine ⟨⟨_, Tryz.func58, by kernel_rfl, by kernel_rfl⟩, fun w F vals hF hv => ?_⟩
  simp only [RepL, Rep, str] at hv
  obtain ⟨v1, r1, e1, ⟨rfl, _⟩, v2, r2, rfl, ⟨rfl, _⟩, rfl⟩ := hv
  have hvals : vals = #[.string s, .string ⟨#[c]⟩] := by apply Array.ext'; rw [e1]
  subst hvals
  refine (Go.Proofs.Any.stringslite_Index_one (P := Tryz.prog) { Tryz.laysIndex with } s c w).mono fun e w' h => ?_
  obtain ⟨rfl, rfl⟩ := h
  exact ⟨_, fun _ => False, rfl, Frm.refl _ _, fun _ h => h.elim, by simp [Own, int, Value.oneCell', bl]⟩
def cutT (s : ByteArray) (c : UInt8) : ByteArray × ByteArray × Bool :=
  if Lib.indexByte (bl s) c < 0 then (s, ⟨#[]⟩, false) else (s.extract 0 (Lib.indexByte (bl s) c).toNat, s.extract ((Lib.indexByte (bl s) c).toNat + 1) s.size, true)
theorem cutT_app {a b : ByteArray} {c : UInt8} (h : c ∉ bl a) : cutT (a ++ ⟨#[c]⟩ ++ b) c = (a, b, true) := by
  obtain ⟨g1, g2, g3, g4, g5⟩ := cut_facts (b := b) h
  have hs : (bl (a ++ ⟨#[c]⟩ ++ b)).length = (a ++ ⟨#[c]⟩ ++ b).size := bl_size _
  have e : Lib.indexByte (bl (a ++ ⟨#[c]⟩ ++ b)) c = (a.size : Int) := by
    rcases idx_facts (l := bl (a ++ ⟨#[c]⟩ ++ b)) (c := c) with ⟨_, h2⟩ | ⟨k, h1, h2, h3, h4⟩
    · exact absurd rfl (h2 c (by rw [bl_app, bl_app, bl_one]; simp))
    · rw [h1]
      rw [hs] at h2
      rcases Nat.lt_trichotomy k a.size with hl | hl | hl
      · have := g3 k hl
        rw [by1_bl, List.getElem?_eq_getElem (by omega), Option.getD_some, h3] at this
        exact absurd rfl this
      · rw [hl]
      · have := h4 a.size hl
        rw [by1_bl, List.getElem?_eq_getElem (by omega), Option.getD_some] at g2
        exact absurd (UInt8.toNat_inj.1 g2) this
  unfold cutT
  rw [e, if_neg (by omega), Int.toNat_natCast, g4, g5]
def cutAV (p : ByteArray × ByteArray × Bool) : AV := .tup [.v (.string p.1), .v (.string p.2.1), .v (.bool p.2.2)]
noncomputable def mScut : List AV → Option AV := mk (fun p => p.1.size ≤ 4611686018427387904) (fun (p : ByteArray × UInt8) => [str p.1, str ⟨#[p.2]⟩]) (fun p => cutAV (cutT p.1 p.2))
theorem mScut_at (s : ByteArray) (c : UInt8) (h : s.size ≤ 4611686018427387904) : mScut [.v (.string s), .v (.string ⟨#[c]⟩)] = some (cutAV (cutT s c)) :=
  mk_eq (enc := fun (p : ByteArray × UInt8) => [str p.1, str ⟨#[p.2]⟩]) (x := (s, c)) (by
    rintro ⟨a, b⟩ ⟨a', b'⟩ h
    simp [str] at h
    rw [h.1, h.2]) h
set_option maxHeartbeats 1000000 in
theorem scut2_ok : FnOk Tryz.prog 41 mScut := by
  refine mk_ok fun ⟨s, c⟩ hs => ?_
  simp only at hs
  have hi := mIxb_at s c
  have c1 : (⟨#[c]⟩ : ByteArray).size = 1 := rfl
  have hG : FnsOk Tryz.prog [(58, mIxb)] := (.cons index2_ok .nil)
  refine callOk_awp (ctx_ok eqOk hG) mixed (live := [true, true, false, false, true, true, true, true, false, false, false, false, true]) (dt := [(3, ⟨[], [], []⟩)]) Tryz.func41 rfl (by kernel_rfl) (by kernel_rfl) fun w0 hlens => ?_
  clear hlens
  rcases idx_facts (l := bl s) (c := c) with ⟨e1, _⟩ | ⟨j, e1, e2, _, _⟩
  · have hT : cutT s c = (s, ⟨#[]⟩, false) := by unfold cutT; rw [e1, if_pos (by omega)]
    rw [e1] at hi
    simp [Tryz.f41, List.range, List.range.loop, ints, intss, int, bool, row, frac, fracs, ← List.map_take, ← List.map_drop, str, hi, hT, cutAV]
  · rw [bl_size] at e2
    have hT : cutT s c = (s.extract 0 j, s.extract (j + 1) s.size, true) := by unfold cutT; rw [e1, if_neg (by omega), Int.toNat_natCast]
    rw [e1] at hi
    have hj0 : ¬ ((j : Int) < 0) := by omega
    have v1 : IntKind.i64.wrap (j : Int) = j := wrapI (by omega) (by omega)
    have v2 : IntKind.i64.wrap ((j : Int) + 1) = (j : Int) + 1 := wrapI (by omega) (by omega)
    have hjr : j ≤ s.size := by omega
    have hjr1 : j + 1 ≤ s.size := by omega
    simp [Tryz.f41, List.range, List.range.loop, ints, intss, int, bool, row, frac, fracs, ← List.map_take, ← List.map_drop, str, hi, hT, cutAV, hj0, c1, v1, v2, hjr, hjr1]
theorem scut_ok : FnOk Tryz.prog 23 mScut := by
  refine mk_ok fun ⟨s, c⟩ hs => ?_
  have hi := mScut_at s c hs
  have hG : FnsOk Tryz.prog [(41, mScut)] := (.cons scut2_ok .nil)
  refine callOk_awp (ctx_ok eqOk hG) mixed (live := [true, true, false, false, true, true, true]) (dt := []) Tryz.func23 rfl (by kernel_rfl) (by kernel_rfl) fun w0 hlens => ?_
  clear hlens
  simp only [cutAV] at hi ⊢
  simp [Tryz.f23, List.range, List.range.loop, ints, intss, int, bool, row, frac, fracs, ← List.map_take, ← List.map_drop, str, hi]
def pfxB (s : ByteArray) (c : UInt8) : Bool := decide (1 ≤ s.size) && decide (s.extract 0 1 = ⟨#[c]⟩)
theorem pfx_not {s : ByteArray} {c : UInt8} (h : c ∉ bl s) : pfxB s c = false := by
  unfold pfxB
  by_cases h1 : 1 ≤ s.size
  · have : ¬ s.extract 0 1 = ⟨#[c]⟩ := fun e => by
      have e2 : bl (s.extract 0 1) = [c] := by rw [e, bl_one]
      rw [bl_ex, List.drop_zero] at e2
      exact h (List.mem_of_mem_take (by rw [e2]; simp))
    simp [this]
  · simp [h1]
noncomputable def mPfx : List AV → Option AV := mk (fun p => p.1.size ≤ 4611686018427387904) (fun (p : ByteArray × UInt8) => [str p.1, str ⟨#[p.2]⟩]) (fun p => .v (.bool (pfxB p.1 p.2)))
theorem mPfx_at (s : ByteArray) (c : UInt8) (h : s.size ≤ 4611686018427387904) : mPfx [.v (.string s), .v (.string ⟨#[c]⟩)] = some (.v (.bool (pfxB s c))) :=
  mk_eq (enc := fun (p : ByteArray × UInt8) => [str p.1, str ⟨#[p.2]⟩]) (x := (s, c)) (by
    rintro ⟨a, b⟩ ⟨a', b'⟩ h
    simp [str] at h
    rw [h.1, h.2]) h
set_option maxHeartbeats 1000000 in
theorem hasPrefix_ok : FnOk Tryz.prog 45 mPfx := by
  refine mk_ok fun ⟨s, c⟩ hs => ?_
  simp only at hs
  have c1 : (⟨#[c]⟩ : ByteArray).size = 1 := rfl
  have hG : FnsOk Tryz.prog [] := .nil
  refine callOk_awp (ctx_ok eqOk hG) mixed (live := [true, true, false, false, true]) (dt := []) Tryz.func45 rfl (by kernel_rfl) (by kernel_rfl) fun w0 hlens => ?_
  clear hlens
  by_cases h1 : 1 ≤ s.size
  · have h1i : ¬ (s.size : Int) < 1 := by omega
    have h1j : (1 : Int) ≤ (s.size : Int) := by omega
    have htl : ((s.extract 0 1).toList == [c]) = decide (s.extract 0 1 = ⟨#[c]⟩) := by
      rw [ByteArray.toList_eq]
      by_cases he : s.extract 0 1 = ⟨#[c]⟩
      · simp [he]
      · have : ¬ (s.extract 0 1).data.toList = [c] := fun e => he (bl_inj (by rw [bl_one]; exact e))
        rw [decide_eq_false he]
        exact beq_eq_false_iff_ne.2 this
    simp [Tryz.f45, List.range, List.range.loop, ints, intss, int, bool, row, frac, fracs, ← List.map_take, ← List.map_drop, str, c1, h1, h1i, h1j, pfxB, htl]
  · have h1i : (s.size : Int) < 1 := by omega
    have h1j : ¬ (1 : Int) ≤ (s.size : Int) := by omega
    simp [Tryz.f45, List.range, List.range.loop, ints, intss, int, bool, row, frac, fracs, ← List.map_take, ← List.map_drop, str, c1, h1, h1i, h1j, pfxB]
def cpxAV (s : ByteArray) (c : UInt8) : AV := if pfxB s c = true then .tup [.v (.string (s.extract 1 s.size)), .v (.bool true)] else .tup [.v (.string s), .v (.bool false)]
noncomputable def mCpx : List AV → Option AV := mk (fun p => p.1.size ≤ 4611686018427387904) (fun (p : ByteArray × UInt8) => [str p.1, str ⟨#[p.2]⟩]) (fun p => cpxAV p.1 p.2)
theorem mCpx_at (s : ByteArray) (c : UInt8) (h : s.size ≤ 4611686018427387904) : mCpx [.v (.string s), .v (.string ⟨#[c]⟩)] = some (cpxAV s c) :=
  mk_eq (enc := fun (p : ByteArray × UInt8) => [str p.1, str ⟨#[p.2]⟩]) (x := (s, c)) (by
    rintro ⟨a, b⟩ ⟨a', b'⟩ h
    simp [str] at h
    rw [h.1, h.2]) h
set_option maxHeartbeats 1000000 in
theorem cutPrefix2_ok : FnOk Tryz.prog 35 mCpx := by
  refine mk_ok fun ⟨s, c⟩ hs => ?_
  simp only at hs
  have hi := mPfx_at s c hs
  have c1 : (⟨#[c]⟩ : ByteArray).size = 1 := rfl
  have hG : FnsOk Tryz.prog [(45, mPfx)] := (.cons hasPrefix_ok .nil)
  refine callOk_awp (ctx_ok eqOk hG) mixed (live := [true, true, false, false, true, true, false, false, false, true]) (dt := []) Tryz.func35 rfl (by kernel_rfl) (by kernel_rfl) fun w0 hlens => ?_
  clear hlens
  cases h : pfxB s c with
  | false =>
    rw [h] at hi
    simp [Tryz.f35, List.range, List.range.loop, ints, intss, int, bool, row, frac, fracs, ← List.map_take, ← List.map_drop, str, hi, cpxAV, h]
  | true =>
    rw [h] at hi
    have h1 : 1 ≤ s.size := by simp [pfxB] at h; exact h.1
    simp [Tryz.f35, List.range, List.range.loop, ints, intss, int, bool, row, frac, fracs, ← List.map_take, ← List.map_drop, str, hi, cpxAV, h, c1, h1]
theorem cutPrefix_ok : FnOk Tryz.prog 19 mCpx := by
  refine mk_ok fun ⟨s, c⟩ hs => ?_
  have hi := mCpx_at s c hs
  have hG : FnsOk Tryz.prog [(35, mCpx)] := (.cons cutPrefix2_ok .nil)
  refine callOk_awp (ctx_ok eqOk hG) mixed (live := [true, true, false, false, true, true]) (dt := []) Tryz.func19 rfl (by kernel_rfl) (by kernel_rfl) fun w0 hlens => ?_
  clear hlens
  unfold cpxAV at hi ⊢
  cases h : pfxB s c with
  | false =>
    rw [h] at hi
    simp at hi
    simp [Tryz.f19, List.range, List.range.loop, ints, intss, int, bool, row, frac, fracs, ← List.map_take, ← List.map_drop, str, hi]
  | true =>
    rw [h] at hi
    simp at hi
    simp [Tryz.f19, List.range, List.range.loop, ints, intss, int, bool, row, frac, fracs, ← List.map_take, ← List.map_drop, str, hi]
end Go.Proofs.YtigepnpiofcooaaGreatDoor.Ax
namespace Go.Proofs.YtigepnpiofcooaaGreatDoor.Ax
open Go Go.RowKit
set_option linter.unusedSimpArgs false
theorem vt_of {s : Int} {v : Vt} (h : vtB s v = true) : rankB v.1.2.length v.1.2 = true ∧ inI v.2 ∧ (v.1.2.length : Int) = s := by
  simp only [vtB, Bool.and_eq_true, inR_iff] at h
  obtain ⟨h1, h2⟩ := h
  have hl := (rank_facts h1).2.2.1
  exact ⟨by rw [hl]; exact h1, inI_small (by omega), hl⟩
theorem vt_bytes {s : Int} {v : Vt} (h : vtB s v = true) : (32 : UInt8) ∉ bl (vtS v) ∧ (42 : UInt8) ∉ bl (itoaS v.2) ∧ (45 : UInt8) ∉ bl (vtS v) := by
  obtain ⟨hr, _, _⟩ := vt_of h
  simp only [vtB, Bool.and_eq_true, inR_iff] at h
  have hp := itoa_pos (n := v.2) (by omega)
  have hf := frk_bytes hr
  have hb : bl (vtS v) = bl (itoaS v.2) ++ [42] ++ bl (frkS v.1.2) := by
    unfold vtS
    rw [bl_app, bl_app, bl_one, frk_T hr]
  have key : ∀ c : UInt8, c.toNat < 42 ∨ c.toNat = 45 → c ∉ bl (vtS v) := fun c hc hm => by
    rw [hb] at hm
    simp only [List.mem_append, List.mem_singleton] at hm
    rcases hm with (hm | hm) | hm
    · have := hp c hm; omega
    · subst hm; have : (42 : UInt8).toNat = 42 := rfl; omega
    · have := hf c hm; omega
  exact ⟨key 32 (.inl (by decide)), itoa_no (by decide) (by decide), key 45 (.inr (by decide))⟩
theorem vt_cut {s : Int} {v : Vt} (h : vtB s v = true) : cutT (vtS v) 42 = (itoaS v.2, frkS v.1.2, true) := by
  obtain ⟨hr, _, _⟩ := vt_of h
  have := cutT_app (b := frkT v.1.2) (vt_bytes h).2.1
  rw [frk_T hr] at this
  unfold vtS
  rw [frk_T hr]
  exact this
theorem fpr_split {s : Int} {vs : List Vt} (h : profB s vs = true) (hne : vs ≠ []) : splitS (fprS vs) 32 = vs.map vtS := by
  obtain ⟨_, _, hall⟩ := prof_facts h
  unfold fprS
  refine split_join (by simpa using hne) fun w hw => ?_
  obtain ⟨v, hv, rfl⟩ := List.mem_map.1 hw
  exact (vt_bytes (s := s) (by have := hall v hv; simp [vtB, inR]; exact this)).1
theorem fpr_size {s : Int} {vs : List Vt} (h : profB s vs = true) : (fprS vs).size ≤ 1000 := by
  obtain ⟨_, h24, hall⟩ := prof_facts h
  have hl := join_len (c := 26) (sep := bl ⟨#[32]⟩) (ws := (vs.map vtS).map bl) (by
    intro w hw
    simp only [List.map_map, List.mem_map, Function.comp_apply] at hw
    obtain ⟨v, hv, rfl⟩ := hw
    rw [bl_size]
    have := hall v hv
    exact (vtS_size (s := s) (by simp [vtB, inR]; exact this)).2.2)
  have e1 : (bl ⟨#[32]⟩).length = 1 := rfl
  rw [List.length_map, List.length_map, e1] at hl
  unfold fprS
  rw [joinS_size]
  have : vs.length * (26 + 1) ≤ 24 * (26 + 1) := Nat.mul_le_mul_right _ h24
  omega
theorem join_mem {c : UInt8} {sep : ByteArray} : ∀ {ws : List ByteArray}, c ∉ bl sep → (∀ w ∈ ws, c ∉ bl w) → c ∉ bl (joinS ws sep)
  | [], _, _ => by unfold joinS; rw [bl_mk]; simp [Lib.join]
  | [w], _, h => by rw [joinS_one]; exact h w (by simp)
  | w :: x :: ws, hs, h => by
    rw [joinS_cons, bl_app, bl_app]
    have h1 := h w (by simp)
    have h2 := join_mem (ws := x :: ws) hs fun y hy => h y (by simp [hy])
    simp only [List.mem_append, not_or]
    exact ⟨⟨h1, hs⟩, h2⟩
theorem fpr_dash {s : Int} {vs : List Vt} (h : profB s vs = true) : pfxB (fprS vs) 45 = false := by
  obtain ⟨_, _, hall⟩ := prof_facts h
  refine pfx_not (join_mem (by decide) fun w hw => ?_)
  obtain ⟨v, hv, rfl⟩ := List.mem_map.1 hw
  exact (vt_bytes (s := s) (by have := hall v hv; simp [vtB, inR]; exact this)).2.2
end Go.Proofs.YtigepnpiofcooaaGreatDoor.Ax
namespace Go.Proofs.YtigepnpiofcooaaGreatDoor.Ax
open Go Go.RowKit
set_option linter.unusedSimpArgs false
set_option maxHeartbeats 2000000 in
theorem specPrk {l : List Int} (h : rankB l.length l = true) : CallOk Tryz.prog 30 [str (frkS l)] (.tup [.sl false 1 (l.map int), .v (.bool true)]) := by
  obtain ⟨h1, h5, _, _, _⟩ := rank_facts h
  obtain ⟨p1, _, p3⟩ := prk_frk h
  have hfr := mFrk_at false l
  rw [frk_T h] at hfr
  have hne : ¬ frkS l = ⟨#[]⟩ := fun e => by
    rw [e] at p3
    have e0 : (⟨#[]⟩ : ByteArray).size = 0 := rfl
    omega
  have hnl : ¬ (frkS l).toList = [] := fun e => by
    rw [ByteArray.toList_eq] at e
    have : (bl (frkS l)).length = 0 := by unfold bl; rw [e]; rfl
    rw [bl_size] at this; omega
  have hl := prkL_len (s := frkS l)
  have hsu := fun k (h : k < (frkS l).size) => prkL_succ h
  rw [p1] at hl hsu
  generalize frkS l = s at *
  obtain ⟨N, hN⟩ : ∃ N, N = s.size := ⟨_, rfl⟩
  have z0 : List.take 0 l = [] := rfl
  have hG : FnsOk Tryz.prog [(33, mFrk)] := (.cons specFrk_ok .nil)
  refine callOk_awp (ctx_ok eqOk hG) mixed (live := [true, false, true, true, true, true, false, false, false, false, true, false, false, false, false, false, false, false, false, false, false, false, false, false, false, false, false, false, true]) (dt := []) Tryz.func30 rfl (by kernel_rfl) (by kernel_rfl) fun w0 hlens => ?_
  clear hlens
  simp [Tryz.f30, List.range, List.range.loop, ints, intss, int, bool, row, frac, fracs, ← List.map_take, ← List.map_drop, str]
  refine awp_loop_of (live := [true, false, true, true, true, true, false, false, false, false, true, false, false, false, false, false, false, false, false, false, false, false, false, false, false, false, false, false, true]) (ctx_ok eqOk hG) mixed [true, false, false, false, true, true] (α := {p : Nat // p ≤ s.size}) (fun p => ⟨[str s, .junk, .junk, .junk, .ref 0 [] 0 p.1, int p.1, .junk, .junk, .junk, .junk, .junk, .junk, .junk, .junk, .junk, .junk, .junk, .junk, .junk, .junk, .junk, .junk, .junk, .junk, .junk, .junk, .junk, .junk, .junk, .junk], [⟨true, .sl false 1 ((l.take p.1).map int)⟩]⟩) (fun p => s.size - p.1) ⟨0, Nat.zero_le _⟩ (by simp [sub, slotsLe, clean, keep, refsL, refs, once, place, renL, ren, List.replicate, int, bool, str]) ?_
  rintro ⟨k, hk⟩
  simp only
  have hln : (l.take k).length = k := by simp; omega
  by_cases hks : k < s.size
  · have hki : (k : Int) < (s.size : Int) := by omega
    obtain ⟨e1, e2⟩ := by1_at hks
    have hst := hsu k hks
    rw [e2] at hst
    have hb : (s[k].toNat : Int) < 256 := by have := s[k].toNat_lt; omega
    have w1 : IntKind.i64.wrap (s[k].toNat : Int) = (s[k].toNat : Int) := wrapI (by omega) (by omega)
    have w2 : IntKind.i64.wrap ((s[k].toNat : Int) - 97) = (s[k].toNat : Int) - 97 := wrapI (by omega) (by omega)
    have w3 : IntKind.i64.wrap ((k : Int) + 1) = (k : Int) + 1 := wrapI (by omega) (by omega)
    have hbb : k + 1 ≤ 4611686018427387904 ∧ (k + 1) * 8 ≤ 140737488355328 := by omega
    simp [List.range, List.range.loop, ints, intss, int, bool, row, frac, fracs, ← List.map_take, ← List.map_drop, str, hks, hki, e1, w1, w2, w3, hln, hbb]
    exact ⟨⟨k + 1, hks⟩, by simp [sub, slotsLe, clean, keep, refsL, refs, once, place, renL, ren, List.replicate, int, bool, str, hst], by simp; omega⟩
  · obtain rfl : k = s.size := by omega
    have ht : l.take s.size = l := List.take_of_length_le (by omega)
    rw [ht]
    have hl' : s.size = l.length := by omega
    have hie : s.toList.isEmpty = false := by
      cases hsl : s.toList with
      | nil => exact absurd hsl hnl
      | cons _ _ => rfl
    simp [List.range, List.range.loop, ints, intss, int, bool, row, frac, fracs, ← List.map_take, ← List.map_drop, str, hfr, hne, hnl, hl, ht, hie]
    done
set_option maxHeartbeats 2000000 in
theorem specVt {s : Int} {v : Vt} (h : vtB s v = true) (hf : v.1.1 = false) : CallOk Tryz.prog 16 [str (vtS v)] (.tup [vote v, .v (.bool true)]) := by
  obtain ⟨hr, hi, _⟩ := vt_of h
  obtain ⟨z1, z2, z3⟩ := vtS_size h
  obtain ⟨b1, b2, b3⟩ := vt_bytes h
  have hsp := mSpa_at (vtS v) 42 (by omega)
  have hno : (42 : UInt8) ∉ bl (frkS v.1.2) := fun hm => by
    have := frk_bytes hr _ hm
    have e : (42 : UInt8).toNat = 42 := rfl
    omega
  have hw : splitS (vtS v) 42 = [itoaS v.2, frkS v.1.2] := by
    unfold vtS
    rw [frk_T hr, split_app b2, split_word hno]
  rw [hw] at hsp
  have m1 := mPI_at (itoaS v.2) (by omega)
  rw [pI_of hi] at m1
  obtain ⟨m, hm, m2⟩ := as_model (specPrk hr)
  simp only [str] at m2
  obtain ⟨⟨fl, l⟩, n⟩ := v
  simp only at hf m1 m2 hsp hr
  subst hf
  simp only [List.map_cons, List.map_nil] at hsp
  generalize vtS ((false, l), n) = t at *
  generalize itoaS n = t1 at *
  generalize frkS l = t2 at *
  have hG : FnsOk Tryz.prog [(15, mSpa), (14, mPI), (30, m)] := (.cons specSpa_ok (.cons specPI_ok (.cons hm .nil)))
  refine callOk_awp (ctx_ok eqOk hG) mixed (live := [true, false, true, true, true, true, true, true, true, false, false, false, false, true]) (dt := []) Tryz.func16 rfl (by kernel_rfl) (by kernel_rfl) fun w0 hlens => ?_
  clear hlens
  simp [Tryz.f16, List.range, List.range.loop, ints, intss, int, bool, row, frac, fracs, ← List.map_take, ← List.map_drop, str, hsp, m1, m2, vote]
  done
set_option maxHeartbeats 2000000 in
theorem specFpr_ok : FnOk Tryz.prog 18 mFpr := by
  refine mk_ok fun ⟨s, nl, vs⟩ _ => ?_
  have hpp := mProf_at s nl vs
  have hG : FnsOk Tryz.prog [(17, mProf), (29, mItoa), (33, mFrk), (34, mJoin)] := (.cons specProf_ok (.cons specFormatInt_ok (.cons specFrk_ok (.cons specJoin_ok .nil))))
  refine callOk_awpZ [0] (ctx_ok eqOk hG) mixed (live := [true, true, true, true, false, true, false, false, true, false, false, true, true, true, true, false, false, false, false, false, false, false, false, false, false, false, false, false, false, false, false, true]) (dt := [(7, ⟨[], [0, 0, 0, 0, 0, 0, 0, 0, 0, 1, 1], []⟩)]) Tryz.func18 rfl (by kernel_rfl) (by kernel_rfl) fun w0 hlens => ?_
  clear hlens
  cases h : profB s vs with
  | false =>
    rw [h] at hpp
    simp [Tryz.f18, List.range, List.range.loop, ints, intss, int, bool, row, frac, fracs, ← List.map_take, ← List.map_drop, andThen_n, freeze, frzA, frzAL, sets, prof, hpp, h, fprT]
  | true =>
    rw [h] at hpp
    obtain ⟨⟨s1, s5⟩, h24, hall⟩ := prof_facts h
    have hj := fpr_join h
    have hi := mItoa_at s (inI_small (by omega))
    have hz := itoa_size (n := s) (inI_small (by omega))
    have hR : fprT s vs = if vs = [] then ⟨#[45]⟩ ++ itoaS s else fprS vs := by unfold fprT; rw [if_pos h]
    rw [hR]
    simp [Tryz.f18, List.range, List.range.loop, ints, intss, int, bool, row, frac, fracs, ← List.map_take, ← List.map_drop, andThen_n, freeze, frzA, frzAL, sets, prof, hpp]
    refine awp_range (live := [true, true, true, true, false, true, false, false, true, false, false, true, true, true, true, false, false, false, false, false, false, false, false, false, false, false, false, false, false, false, false, true]) (ctx_ok eqOk hG) mixed [false, true, false, true, false, false, false, false, false, false, false, true, true, true] (vs.length) (fun k => True) (fun k => ⟨[.junk, .fp (prof s nl vs) 0, .junk, .ref 0 [] 0 k, .junk, .junk, .junk, .junk, .junk, .junk, .junk, vts nl vs, int vs.length, int k, .junk, .junk, .junk, .junk, .junk, .junk, .junk, .junk, .junk, .junk, .junk, .junk, .junk, .junk, .junk, .junk, .junk, .junk, .junk, .junk, .junk, .junk, .junk, .junk], [⟨true, .sl false 1 ((vs.take k).map wv)⟩]⟩) ?_ (by simp [sub, slotsLe, clean, keep, refsL, refs, once, place, renL, ren, List.replicate, int, bool, prof, vts]) ?_ ?_ ?_
    · omega
    · trivial
    · intro k hk _ hwk
      have hvk := hall _ (List.getElem_mem hk)
      obtain ⟨z1, z2, z3⟩ := vtS_size (s := s) (v := vs[k]) (by simp [vtB, inR]; exact hvk)
      have i1 := mItoa_at vs[k].2 (inI_small (by omega))
      have i2 := mFrk_at vs[k].1.1 vs[k].1.2
      have htr := take_snoc (f := wv) hk
      have hln : (vs.take k).length = k := by simp; omega
      have hbb : k + 1 ≤ 4611686018427387904 ∧ (k + 1) * 16 ≤ 140737488355328 := by omega
      have c1 : (⟨#[42]⟩ : ByteArray).size = 1 := rfl
      have c2 : (itoaS vs[k].2).size + 1 ≤ 9223372036854775807 := by omega
      have c3 : (itoaS vs[k].2).size + 1 + (frkT vs[k].1.2).size ≤ 9223372036854775807 := by omega
      simp only [wv, vtS] at htr
      simp [List.range, List.range.loop, ints, intss, int, bool, row, frac, fracs, ← List.map_take, ← List.map_drop, prof, vts, vote, hk, hwk, i1, i2, c1, c2, c3, ByteArray.size_append, htr, hln, hbb]
      try exact wrapI (by omega) (by omega)
    · intro _
      have ht : vs.take vs.length = vs := List.take_length
      rw [ht]
      by_cases hv : vs = []
      · subst hv
        have c1 : (⟨#[45]⟩ : ByteArray).size = 1 := rfl
        have c2 : 1 + (itoaS s).size ≤ 9223372036854775807 := by omega
        simp [List.range, List.range.loop, ints, intss, int, bool, row, frac, fracs, ← List.map_take, ← List.map_drop, prof, vts, hi, c1, c2]
        done
      · have hz0 : ¬ ((vs.length : Int) = 0) := by have := List.length_pos_iff.2 hv; omega
        simp [List.range, List.range.loop, ints, intss, int, bool, row, frac, fracs, ← List.map_take, ← List.map_drop, prof, vts, hv, hz0, hj]
        done
end Go.Proofs.YtigepnpiofcooaaGreatDoor.Ax
