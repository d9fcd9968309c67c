/-
  Contracts: FormatTable (both programs). No condition.
-/
import Derived.Test.YtkfmhpgnhkdebaaGreatDoorCG12
import Derived.Test.YtkfmhpgnhkdebaaGreatDoorCG8
import Derived.Test.YtkfmhpgnhkdebaaGreatDoorCG6
namespace Go.Proofs.YtkfmhpgnhkdebaaGreatDoor.Ax
open Go Go.RowKit
set_option linter.unusedSimpArgs false
theorem numS_len {xs : List Int} (h : ∀ n ∈ xs, inI n) : (bl (numS xs)).length ≤ 21 * xs.length + 1 := by
  unfold numS
  split
  · exact Nat.le_add_left _ _
  · unfold joinS
    rw [bl_mk]
    have hl := join_len (c := 20) (sep := bl ⟨#[44]⟩) (ws := (xs.map itoaS).map bl) (by
      intro w hw
      simp only [List.map_map, List.mem_map, Function.comp_apply] at hw
      obtain ⟨n, hn, rfl⟩ := hw
      unfold itoaS; rw [bl_mk]
      exact itoa_len (h n hn))
    have e1 : (bl ⟨#[44]⟩).length = 1 := rfl
    rw [List.length_map, List.length_map, e1] at hl
    omega
def rowS (r : Bool × List Int) : ByteArray := numS r.2
def wr (r : Bool × List Int) : AV := .v (.string (rowS r))
def tabS (xss : List (Bool × List Int)) : ByteArray := if xss = [] then ⟨#[61]⟩ else joinS (xss.map rowS) ⟨#[59]⟩
def tabOk (xss : List (Bool × List Int)) : Prop := xss.length ≤ 1048576 ∧ ∀ r ∈ xss, r.2.length ≤ 1048576 ∧ ∀ n ∈ r.2, inI n
noncomputable def mFTab : List AV → Option AV := mk (fun p => tabOk p.2) (fun (p : (Bool) × (List (Bool × List Int))) => [intss p.1 p.2]) (fun p => .v (.string (tabS p.2)))
theorem mFTab_at (nl : Bool) (xss : List (Bool × List Int)) (hpre : tabOk xss) : mFTab [.sl nl 1 (xss.map row)] = some (.v (.string (tabS xss))) :=
  mk_eq (enc := fun (p : (Bool) × (List (Bool × List Int))) => [intss p.1 p.2]) (x := (nl, xss)) (by rintro ⟨a0, a1⟩ ⟨b0, b1⟩ h; simp [ints, intss, int, bool, row, frac, fracs, map_int_inj, map_row_inj, frac_inj, map_frac_inj] at h; simp [h]) hpre
theorem tab_join {xss : List (Bool × List Int)} (h : tabOk xss) : mJoin [.sl false 1 (xss.map wr), .v (.string ⟨#[59]⟩)] = some (.v (.string (joinS (xss.map rowS) ⟨#[59]⟩))) := by
  have h1 := h.1
  have hl := join_len (c := 22020097) (sep := bl ⟨#[59]⟩) (ws := (xss.map rowS).map bl) (by
    intro w hw
    simp only [List.map_map, List.mem_map, Function.comp_apply] at hw
    obtain ⟨r, hr, rfl⟩ := hw
    have := numS_len (h.2 r hr).2
    have := (h.2 r hr).1
    unfold rowS
    omega)
  have e1 : (bl ⟨#[59]⟩).length = 1 := rfl
  rw [List.length_map, List.length_map, e1] at hl
  have := mJoin_at false (xss.map rowS) ⟨#[59]⟩ ⟨by rw [List.length_map]; omega, by omega⟩
  rw [List.map_map] at this
  exact this
set_option maxHeartbeats 1000000 in
theorem implFormatTable_ok : FnOk Tryz.prog 24 mFTab := by
  refine mk_ok fun ⟨nl, xss⟩ h => ?_
  simp only at h
  have hG : FnsOk Tryz.prog [(15, mFNum), (67, mJoin)] := (.cons implFormatNumbers_ok (.cons implJoin_ok .nil))
  refine callOk_awp (ctx_ok eqOk hG) mixed (live := [true, false, true, true, false, true, false, false, true, true, true, true, true]) (dt := []) Tryz.func24 rfl (by kernel_rfl) (by kernel_rfl) fun w0 hlens => ?_
  clear hlens
  have hN := h.1
  have hj := tab_join h
  rcases List.eq_nil_or_concat xss with rfl | ⟨l', x', hx⟩
  · simp (config := {contextual := true}) [Tryz.f24, List.range, List.range.loop, ints, intss, int, bool, row, frac, fracs, ← List.map_take, ← List.map_drop, tabS]
    try (refine awp_range (live := [true, false, true, true, false, true, false, false, true, true, true, true, true]) (ctx_ok eqOk hG) mixed [false, false, false, true, false, false, false, false, false, true, true, true] (0) (fun k => True) (fun k => ⟨[.junk, .junk, .junk, .ref 0 [] 0 0, .junk, .junk, .junk, .junk, .junk, intss nl [], int 0, int k, .junk, .junk, .junk, .junk, .junk, .junk, .junk, .junk, .junk, .junk, .junk], apV []⟩) ?_ (by simp [sub, slotsLe, clean, keep, refsL, refs, once, place, renL, ren, List.replicate, int, bool, intss, apW, apWt, apV]) ?_ ?_ ?_
         · omega
         · trivial
         · intro k hk; omega
         · intro _
           simp (config := {contextual := true}) [List.range, List.range.loop, ints, intss, int, bool, row, frac, fracs, ← List.map_take, ← List.map_drop, apV])
    done
  have hne : xss ≠ [] := by rw [hx]; simp
  have h0 : 0 < xss.length := List.length_pos_iff.2 hne
  have hz : ¬ ((xss.length : Int) = 0) := by omega
  have hnS : tabS xss = joinS (xss.map rowS) ⟨#[59]⟩ := by unfold tabS; rw [if_neg hne]
  clear hx
  simp (config := {contextual := true}) [Tryz.f24, List.range, List.range.loop, ints, intss, int, bool, row, frac, fracs, ← List.map_take, ← List.map_drop, hz, hne]
  refine awp_range (live := [true, false, true, true, false, true, false, false, true, true, true, true, true]) (ctx_ok eqOk hG) mixed [false, false, false, true, false, false, false, false, false, true, true, true] (xss.length) (fun k => True) (fun k => ⟨[.junk, .junk, .junk, apW k, .junk, .junk, .junk, .junk, .junk, intss nl xss, int xss.length, int k, .junk, .junk, .junk, .junk, .junk, .junk, .junk, .junk, .junk, .junk, .junk], apWt ((xss.take k).map wr) k⟩) ?_ (by simp [sub, slotsLe, clean, keep, refsL, refs, once, place, renL, ren, List.replicate, int, bool, intss, apW, apWt, apV]) ?_ ?_ ?_
  · omega
  · trivial
  · intro k hk _ hwk
    have hit := mFNum_at xss[k].1 xss[k].2 ⟨by have := (h.2 _ (List.getElem_mem hk)).1; omega, (h.2 _ (List.getElem_mem hk)).2⟩
    have htr := take_snoc (f := wr) hk
    have hb : k + 1 ≤ 4611686018427387904 ∧ (k + 1) * 16 ≤ 140737488355328 := by omega
    have htl : (xss.take k).length = k := by simp; omega
    cases k with
    | zero =>
      have hwk1 : IntKind.i64.wrap 1 = 1 := by decide
      simp only [List.take_zero, List.map_nil, List.nil_append, wr, rowS] at htr
      rw [Nat.zero_add] at htr
      have ht1 := htr.symm
      simp (config := {contextual := true}) [List.range, List.range.loop, ints, intss, int, bool, row, frac, fracs, ← List.map_take, ← List.map_drop, row, apW, apWt, apV, h0, hit, ht1, hb, hwk1]
    | succ k =>
      simp only [wr, rowS] at htr
      simp (config := {contextual := true}) [List.range, List.range.loop, ints, intss, int, bool, row, frac, fracs, ← List.map_take, ← List.map_drop, row, apW, apWt, apV, hk, hit, htr, hb, hwk, htl]
      exact wrapI (by omega) (by omega)
  · intro _
    obtain ⟨m, hm⟩ : ∃ m, xss.length = m + 1 := ⟨xss.length - 1, by omega⟩
    have ht : xss.take (m + 1) = xss := List.take_of_length_le (by omega)
    rw [hm]
    simp (config := {contextual := true}) [List.range, List.range.loop, ints, intss, int, bool, row, frac, fracs, ← List.map_take, ← List.map_drop, apW, apWt, apV, ht, hm, hj, hnS]
    done
end Go.Proofs.YtkfmhpgnhkdebaaGreatDoor.Ax
namespace Go.Proofs.YtkfmhpgnhkdebaaGreatDoor.Ax
open Go Go.RowKit
set_option linter.unusedSimpArgs false
theorem bl_inj {a b : ByteArray} (h : bl a = bl b) : a = b := by
  obtain ⟨⟨a⟩⟩ := a
  obtain ⟨⟨b⟩⟩ := b
  simp [bl] at h
  rw [h]
theorem bl_app {a b : ByteArray} : bl (a ++ b) = bl a ++ bl b := by
  simp [bl, ByteArray.data_append]
end Go.Proofs.YtkfmhpgnhkdebaaGreatDoor.Ax
namespace Go.Proofs.YtkfmhpgnhkdebaaGreatDoor.Ax
open Go Go.RowKit
set_option linter.unusedSimpArgs false
def byV (n : Int) : AV := .v (.int .u8 n)
def flT (l : List Int) : Nat → List Int
  | 0 => List.replicate l.length 0
  | k + 1 => (flT l k).set k (97 + at0 l k)
theorem flT_len {l : List Int} : ∀ {k : Nat}, (flT l k).length = l.length
  | 0 => by simp [flT]
  | k + 1 => by simp [flT, flT_len (l := l) (k := k)]
theorem flT_at {l : List Int} {i : Nat} (hi : i < l.length) : ∀ {k : Nat}, k ≤ l.length → (flT l k)[i]? = some (if i < k then 97 + l[i] else 0)
  | 0, _ => by simp [flT, hi]
  | k + 1, hk => by
    unfold flT
    by_cases e : k = i
    · subst e
      rw [List.getElem?_set_self (by rw [flT_len]; omega), at0_eq hi, if_pos (by omega)]
    · rw [List.getElem?_set_ne e, flT_at hi (k := k) (by omega)]
      by_cases h : i < k
      · rw [if_pos h, if_pos (by omega)]
      · rw [if_neg h, if_neg (by omega)]
theorem flT_all {l : List Int} : flT l l.length = l.map fun a => 97 + a := by
  apply List.ext_getElem?
  intro i
  by_cases hi : i < l.length
  · rw [flT_at hi (Nat.le_refl _), if_pos hi, List.getElem?_map, List.getElem?_eq_getElem hi]; rfl
  · rw [List.getElem?_eq_none (by rw [flT_len]; omega), List.getElem?_eq_none (by rw [List.length_map]; omega)]
def leB (a : Int) : UInt8 := UInt8.ofNat (97 + a).toNat
def frkS (l : List Int) : ByteArray := ⟨(l.map leB).toArray⟩
def frkT (l : List Int) : ByteArray := if rankB l.length l = true then frkS l else ⟨#[]⟩
theorem bytesOf_by : ∀ (ns : List Int), bytesOf (ns.map byV) = some (ns.map fun n => UInt8.ofNat n.toNat)
  | [] => rfl
  | n :: ns => by
    have ih := bytesOf_by ns
    rw [List.map_cons, byV, bytesOf, ih]
    rfl
noncomputable def mFrk : List AV → Option AV := mk (fun _ => True) (fun (p : (Bool) × (List Int)) => [ints p.1 p.2]) (fun p => .v (.string (frkT p.2)))
theorem mFrk_at (nl : Bool) (l : List Int) : mFrk [.sl nl 1 (l.map int)] = some (.v (.string (frkT l))) :=
  mk_eq (enc := fun (p : (Bool) × (List Int)) => [ints p.1 p.2]) (x := (nl, l)) (by rintro ⟨a0, a1⟩ ⟨b0, b1⟩ h; simp [ints, intss, int, bool, row, frac, fracs, map_int_inj, map_row_inj, frac_inj, map_frac_inj] at h; simp [h]) trivial
set_option maxHeartbeats 2000000 in
theorem implFrk_ok : FnOk Tryz.prog 21 mFrk := by
  refine mk_ok fun ⟨nl, l⟩ _ => ?_
  have hrr := mIsRk_at nl l
  have hG : FnsOk Tryz.prog [(84, mIsRk)] := (.cons isRank_ok .nil)
  refine callOk_awp (ctx_ok eqOk hG) mixed (live := [true, false, true, true, true, true, false, false, true, false, false, false, true, true, true, true]) (dt := []) Tryz.func21 rfl (by kernel_rfl) (by kernel_rfl) fun w0 hlens => ?_
  clear hlens
  unfold frkT
  cases hr : rankB l.length l with
  | false =>
    rw [hr] at hrr
    simp [Tryz.f21, List.range, List.range.loop, ints, intss, int, bool, row, frac, fracs, ← List.map_take, ← List.map_drop, hrr]
  | true =>
    rw [hr] at hrr
    obtain ⟨_, n5, _, hin, _⟩ := rank_facts hr
    have hz : List.replicate l.length (AV.v (.int .u8 0)) = (flT l 0).map byV := by simp [flT, byV]
    have hl5 : l.length ≤ 5 := by omega
    have hl6 : l.length ≤ 281474976710656 ∧ l.length ≤ 4611686018427387904 := by omega
    simp [Tryz.f21, List.range, List.range.loop, ints, intss, int, bool, row, frac, fracs, ← List.map_take, ← List.map_drop, nlt0, hrr, hl6]

    refine awp_range (live := [true, false, true, true, true, true, false, false, true, false, false, false, true, true, true, true]) (ctx_ok eqOk hG) mixed [false, false, false, true, false, false, false, false, false, false, false, false, true, true, true] (l.length) (fun k => True) (fun k => ⟨[.junk, .junk, .junk, .ref 0 [] 0 l.length, .junk, .junk, .junk, .junk, .junk, .junk, .junk, .junk, ints nl l, int l.length, int k, .junk, .junk, .junk, .junk, .junk, .junk, .junk, .junk, .junk, .junk, .junk, .junk, .junk], [⟨true, .sl false 1 ((flT l k).map byV)⟩]⟩) ?_ (by simp [sub, slotsLe, clean, keep, refsL, refs, once, place, renL, ren, List.replicate, int, bool, hz, ints]) ?_ ?_ ?_
    · omega
    · trivial
    · intro k hk _ hwk
      have hkI : (k : Int) < (l.length : Int) := by omega
      have hv := hin k hk
      have hs : flT l (k + 1) = (flT l k).set k (97 + at0 l k) := rfl
      rw [at0_eq hk] at hs
      have hfl := flT_len (l := l) (k := k)
      have w1 : IntKind.i64.wrap (97 + l[k]) = 97 + l[k] := wrapI (by omega) (by omega)
      have w2 : IntKind.u8.wrap (97 + l[k]) = 97 + l[k] := by
        generalize l[k] = x at *
        obtain ⟨y, rfl⟩ : ∃ y : Nat, x = y := ⟨x.toNat, by omega⟩
        exact (by decide +kernel : ∀ y : Nat, y < 6 → IntKind.u8.wrap (97 + (y : Int)) = 97 + (y : Int)) y (by omega)
      have hm : (flT l (k + 1)).map byV = ((flT l k).map byV).set k (AV.v (.int .u8 (97 + l[k]))) := by rw [hs, List.map_set]; rfl
      generalize flT l (k + 1) = B at *
      generalize flT l k = A at *
      simp [List.range, List.range.loop, ints, intss, int, bool, row, frac, fracs, ← List.map_take, ← List.map_drop, nlt0, hk, hkI, hwk, w1, w2, hfl, hm]
      simp [byV]
    · intro _
      have e := flT_all (l := l)
      have hfl := flT_len (l := l) (k := l.length)
      have hb := bytesOf_by (flT l l.length)
      have hf : frkS l = ⟨((flT l l.length).map fun n => UInt8.ofNat n.toNat).toArray⟩ := by
        rw [e, List.map_map]; rfl
      rw [hf]
      generalize flT l l.length = A at *
      have ht : (A.map byV).take l.length = A.map byV := List.take_of_length_le (by simp; omega)
      simp [List.range, List.range.loop, ints, intss, int, bool, row, frac, fracs, ← List.map_take, ← List.map_drop, nlt0, hfl, hb, ht]
end Go.Proofs.YtkfmhpgnhkdebaaGreatDoor.Ax
namespace Go.Proofs.YtkfmhpgnhkdebaaGreatDoor.Ax
open Go Go.RowKit
set_option linter.unusedSimpArgs false
def by1 (s : ByteArray) (i : Nat) : Nat := (s[i]?.getD 0).toNat
theorem by1_at {s : ByteArray} {i : Nat} (h : i < s.size) : s[i]? = some s[i] ∧ by1 s i = s[i].toNat := by
  have e : s[i]? = some s[i] := getElem?_pos s i h
  exact ⟨e, by unfold by1; rw [e]; rfl⟩
theorem str_inj {a b : ByteArray} (h : [str a] = [str b]) : a = b := by simpa [str] using h
end Go.Proofs.YtkfmhpgnhkdebaaGreatDoor.Ax
namespace Go.Proofs.YtkfmhpgnhkdebaaGreatDoor.Ax
open Go Go.RowKit
set_option linter.unusedSimpArgs false
def dvlL (l : List UInt8) : Nat := l.foldl (fun a c => 10 * a + (c.toNat - 48)) 0
theorem dvL_snoc {l : List UInt8} {c : UInt8} : dvlL (l ++ [c]) = 10 * dvlL l + (c.toNat - 48) := by simp [dvlL]
theorem dec_facts : ∀ u, dvlL (Lib.decDigits u) = u ∧ (∀ c ∈ Lib.decDigits u, 48 ≤ c.toNat ∧ c.toNat ≤ 57) ∧ 0 < (Lib.decDigits u).length := by
  intro u
  induction u using Nat.strongRecOn with
  | _ u ih =>
    by_cases h : u < 10
    · rw [dec_lt h]
      have e : (UInt8.ofNat (48 + u)).toNat = 48 + u := by simp; omega
      refine ⟨?_, ?_, by simp⟩
      · have := dvL_snoc (l := []) (c := UInt8.ofNat (48 + u))
        rw [List.nil_append, e] at this
        rw [this]; simp [dvlL]
      · intro c hc
        rw [List.mem_singleton] at hc
        subst hc
        rw [e]; omega
    · rw [dec_ge (by omega)]
      obtain ⟨i1, i2, i3⟩ := ih (u / 10) (by omega)
      have e : (UInt8.ofNat (48 + u % 10)).toNat = 48 + u % 10 := by simp; omega
      refine ⟨?_, ?_, by simp⟩
      · rw [dvL_snoc, i1, e]; omega
      · intro c hc
        rw [List.mem_append, List.mem_singleton] at hc
        rcases hc with hc | rfl
        · exact i2 c hc
        · rw [e]; omega
def vL : List UInt8 → Int
  | [] => 0
  | c :: r => if c.toNat = 45 then -(dvlL r : Int) else dvlL (c :: r)
theorem vL_itoa (n : Int) : vL (Lib.itoa n) = n := by
  unfold Lib.itoa
  split
  · obtain ⟨i1, _, _⟩ := dec_facts n.natAbs
    show (if (45 : UInt8).toNat = 45 then -(dvlL (Lib.decDigits n.natAbs) : Int) else dvlL (45 :: Lib.decDigits n.natAbs)) = n
    rw [if_pos (by decide), i1]; omega
  · obtain ⟨i1, i2, i3⟩ := dec_facts n.toNat
    generalize Lib.decDigits n.toNat = l at *
    cases l with
    | nil => simp at i3
    | cons c r =>
      show (if c.toNat = 45 then -(dvlL r : Int) else dvlL (c :: r)) = n
      have := i2 c (by simp)
      rw [if_neg (by omega), i1]; omega
theorem itoaS_inj {a b : Int} (h : itoaS a = itoaS b) : a = b := by
  have h1 : bl (itoaS a) = bl (itoaS b) := by rw [h]
  unfold itoaS at h1
  rw [bl_mk, bl_mk] at h1
  rw [← vL_itoa a, h1, vL_itoa]
open Classical in
noncomputable def pI (s : ByteArray) : Int × Bool := if h : ∃ n, inI n ∧ itoaS n = s then (Classical.choose h, true) else (0, false)
theorem pI_of {n : Int} (h : inI n) : pI (itoaS n) = (n, true) := by
  unfold pI
  have hx : ∃ m, inI m ∧ itoaS m = itoaS n := ⟨n, h, rfl⟩
  rw [dif_pos hx]
  have := Classical.choose_spec hx
  rw [itoaS_inj this.2]
theorem pI_no {s : ByteArray} (h : ∀ n, inI n → itoaS n = s → False) : pI s = (0, false) := by
  unfold pI
  rw [dif_neg]
  rintro ⟨n, h1, h2⟩
  exact h n h1 h2
theorem by1_mk {l : List UInt8} {i : Nat} : by1 ⟨l.toArray⟩ i = (l[i]?.getD 0).toNat := by
  unfold by1
  have hs : (⟨l.toArray⟩ : ByteArray).size = l.length := by simp [ByteArray.size]
  by_cases h : i < l.length
  · rw [getElem?_pos (⟨l.toArray⟩ : ByteArray) i (by rw [hs]; exact h), List.getElem?_eq_getElem h]
    rfl
  · rw [getElem?_neg (⟨l.toArray⟩ : ByteArray) i (by rw [hs]; exact h), List.getElem?_eq_none (by omega)]
theorem mk_bl (s : ByteArray) : s = ⟨(bl s).toArray⟩ := by unfold bl; rw [Array.toArray_toList]
theorem bl_size (s : ByteArray) : (bl s).length = s.size := by simp [bl]
theorem by1_bl {s : ByteArray} {i : Nat} : by1 s i = ((bl s)[i]?.getD 0).toNat := by
  conv => lhs; rw [mk_bl s]
  exact by1_mk
end Go.Proofs.YtkfmhpgnhkdebaaGreatDoor.Ax
