/-
  Contracts: GoodsLine (both programs). No condition.
-/
import Derived.Test.YtakladjlnkojjaaDoorCG179
import Derived.Test.YtakladjlnkojjaaDoorCG105
import Derived.Test.YtakladjlnkojjaaDoorCG75
namespace Go.Proofs.YtakladjlnkojjaaDoor.Ax
open Go Go.RowKit
set_option linter.unusedSimpArgs false

theorem bl_inj {a b : ByteArray} (h : bl a = bl b) : a = b := by
  obtain ⟨⟨a⟩⟩ := a
  obtain ⟨⟨b⟩⟩ := b
  simp [bl] at h
  rw [h]
theorem bl_app {a b : ByteArray} : bl (a ++ b) = bl a ++ bl b := by
  simp [bl, ByteArray.data_append]
theorem join6 {a b c d e f s : ByteArray} : joinS [a, b, c, d, e, f] s = a ++ s ++ b ++ s ++ c ++ s ++ d ++ s ++ e ++ s ++ f := by
  apply bl_inj
  simp only [bl_app]
  unfold joinS
  rw [bl_mk]
  simp [Lib.join_cons, Lib.joinTail, List.append_assoc]

/-- What the line is. -/
noncomputable def gooS (xss : List (Bool × List Int)) (b : List Int) : ByteArray :=
  ⟨#[116, 117, 114, 110, 115, 32]⟩ ++ numS (tkT xss (wid xss) (wid xss)) ++ ⟨#[32, 112, 114, 111, 100, 117, 99, 116, 32]⟩ ++ numS b ++ ⟨#[32, 102, 114, 101, 101, 32]⟩ ++ itoaS (cntF xss (allocs xss))
noncomputable def gooT (xss : List (Bool × List Int)) : ByteArray := if rectB xss 3 6 100 = true then gooS xss ((bestP xss (allocs xss)).getD []) else ⟨#[110, 111, 110, 101]⟩
noncomputable def mGoo : List AV → Option AV := mk (fun _ => True) (fun (p : (Bool) × (List (Bool × List Int))) => [intss p.1 p.2]) (fun p => .v (.string (gooT p.2)))
theorem mGoo_at (nl : Bool) (xss : List (Bool × List Int)) : mGoo [.sl nl 1 (xss.map row)] = some (.v (.string (gooT xss))) :=
  mk_eq (enc := fun (p : (Bool) × (List (Bool × List Int))) => [intss p.1 p.2]) (x := (nl, xss)) (by rintro ⟨a0, a1⟩ ⟨b0, b1⟩ h; simp [ints, intss, int, bool, row, frac, fracs, map_int_inj, map_row_inj, frac_inj, map_frac_inj] at h; simp [h]) trivial

structure GooF (xss : List (Bool × List Int)) (b : List Int) : Prop where
  hb : bestP xss (allocs xss) = some b
  ha : numOk (tkT xss (wid xss) (wid xss))
  hb2 : numOk b
  sa : (numS (tkT xss (wid xss) (wid xss))).size ≤ 200
  sb : (numS b).size ≤ 200
  ic : inI (cntF xss (allocs xss) : Int)
  sc : (itoaS (cntF xss (allocs xss) : Int)).size ≤ 20
theorem gooF {xss : List (Bool × List Int)} (h : rectB xss 3 6 100 = true) : ∃ b, GooF xss b := by
  have hl := rect_len h
  have hn := rect_pos h
  have hne : allocs xss ≠ [] := by
    have : (allocs xss).length = xss.length ^ (wid xss) := allL_len _
    intro e
    rw [e] at this
    have := Nat.pow_pos (n := wid xss) hn
    simp at *; omega
  obtain ⟨b, hb, hm⟩ := bestP_some (xss := xss) hne
  obtain ⟨b1, b2⟩ := allL_mem hm
  have ta := tkT_len (xss := xss) (m := wid xss) (k := wid xss)
  have tb := tkT_bd (xss := xss) (m := wid xss) hn (k := wid xss)
  have ha : numOk (tkT xss (wid xss) (wid xss)) := ⟨by omega, fun x hx => inI_small (by have := tb x hx; omega)⟩
  have hb2 : numOk b := ⟨by omega, fun x hx => inI_small (by have := b2 x hx; omega)⟩
  have h729 := allocs_all h
  have hle := cntF_le (xss := xss) (L := allocs xss)
  have ic : inI (cntF xss (allocs xss) : Int) := inI_small (by omega)
  have s1 := numS_size ha.2
  have s2 := numS_size hb2.2
  refine ⟨b, hb, ha, hb2, by omega, by omega, ic, ?_⟩
  have := itoa_len ic
  have e : (itoaS (cntF xss (allocs xss) : Int)).size = (bl (itoaS (cntF xss (allocs xss) : Int))).length := by unfold bl; rw [Array.length_toList]; rfl
  rw [e]; unfold itoaS; rw [bl_mk]; exact this

set_option maxHeartbeats 2000000 in
theorem implGoo_ok : FnOk Tryd.prog 10 mGoo := by
  refine mk_ok fun ⟨nl, xss⟩ _ => ?_
  have hG : FnsOk Tryd.prog [(34, (mGrid 3 6 100)), (36, mIdx), (35, mTake), (37, mMost), (39, mFNum), (41, mCntF), (40, mItoa), (38, mJoin)] := (.cons implValuesOk_ok (.cons indices_ok (.cons implTake_ok (.cons implMost_ok (.cons implFormatNumbers_ok (.cons implCntF_ok (.cons implFormatInt_ok (.cons implJoin_ok .nil))))))))
  refine callOk_awp (ctx_ok eqOk hG) mixed (live := [true, false, true, true, false, true, false, false, false, true]) (dt := []) Tryd.func10 rfl (by kernel_rfl) (by kernel_rfl) fun w0 hlens => ?_
  clear hlens
  cases h : rectB xss 3 6 100 with
  | false => simp [Tryd.f10, List.range, List.range.loop, ints, intss, int, bool, row, frac, fracs, ← List.map_take, ← List.map_drop, mGrid_at, h, gooT]
  | true =>
    obtain ⟨b, F⟩ := gooF h
    have hl := rect_len h
    have hi := mIdx_at xss.length (by omega)
    have ht := mTake_at nl xss false (idx xss.length) ⟨h, rfl⟩
    have hm := mMost_at nl xss h
    rw [F.hb] at hm
    have hc := mCntF_at nl xss h
    have h1 := mFNum_at false _ F.ha
    have h2 := mFNum_at false b F.hb2
    have h3 := mItoa_at _ F.ic
    have hg : gooT xss = gooS xss b := by unfold gooT; rw [if_pos h, F.hb]; rfl
    rw [hg]
    unfold gooS
    have sa := F.sa
    have sb := F.sb
    have sc := F.sc
    have tl := tkT_len (xss := xss) (m := wid xss) (k := wid xss)
    generalize tkT xss (wid xss) (wid xss) = T at *
    generalize cntF xss (allocs xss) = N at *
    have tkT' : List.take (wid xss) T = T := List.take_of_length_le (by omega)
    have tk : (idx xss.length).take xss.length = idx xss.length := List.take_of_length_le (by rw [idx_len]; exact Nat.le_refl _)
    have hj := mJoin_at false [⟨#[116, 117, 114, 110, 115]⟩, numS T, ⟨#[112, 114, 111, 100, 117, 99, 116]⟩, numS b, ⟨#[102, 114, 101, 101]⟩, itoaS N] ⟨#[32]⟩ ⟨by simp, by
      have e : (Lib.join (List.map bl [⟨#[116, 117, 114, 110, 115]⟩, numS T, ⟨#[112, 114, 111, 100, 117, 99, 116]⟩, numS b, ⟨#[102, 114, 101, 101]⟩, itoaS N]) (bl ⟨#[32]⟩)).length = 23 + (numS T).size + (numS b).size + (itoaS N).size - 2 := by
        have hs : ∀ a : ByteArray, (bl a).length = a.size := fun a => by simp [bl]
        simp [Lib.join_cons, Lib.joinTail, hs]
        have y1 : (⟨#[116, 117, 114, 110, 115]⟩ : ByteArray).size = 5 := rfl
        have y2 : (⟨#[32]⟩ : ByteArray).size = 1 := rfl
        have y3 : (⟨#[112, 114, 111, 100, 117, 99, 116]⟩ : ByteArray).size = 7 := rfl
        have y4 : (⟨#[102, 114, 101, 101]⟩ : ByteArray).size = 4 := rfl
        omega
      omega⟩
    rw [join6] at hj
    simp only [List.map_cons, List.map_nil, str] at hj
    simp [Tryd.f10, List.range, List.range.loop, ints, intss, int, bool, row, frac, fracs, ← List.map_take, ← List.map_drop, mGrid_at, h, hi, idx_len, tk, tkT', ht, hm, hc, h1, h2, h3, bestV, tl, hj]
    apply bl_inj
    simp only [bl_app]
    simp [bl]

set_option maxHeartbeats 2000000 in
theorem specGoo_ok : FnOk Tryd.prog 8 mGoo := by
  refine mk_ok fun ⟨nl, xss⟩ _ => ?_
  have hG : FnsOk Tryd.prog [(27, (mGrid 3 6 100)), (28, mTake), (30, mFNum), (32, mCntF), (31, mItoa)] := (.cons specValuesOk_ok (.cons specTake_ok (.cons specFormatNumbers_ok (.cons specCntF_ok (.cons specFormatInt_ok .nil)))))
  have hM : FnsMut Tryd.prog [] := .nil
  have hV : FnsMov Tryd.prog [] := .nil
  have hK : FnsFrz Tryd.prog [(29, true, mMost)] := (.cons specMost_ok .nil)
  refine callOk_awp (ctxH_ok eqOk hG hM hV hK) mixed (live := [true, false, true, true, true, true, false, true, false, false, false, true, false, false, true, true, true]) (dt := []) Tryd.func8 rfl (by kernel_rfl) (by kernel_rfl) fun w0 hlens => ?_
  clear hlens
  cases h : rectB xss 3 6 100 with
  | false => simp [Tryd.f8, List.range, List.range.loop, ints, intss, int, bool, row, frac, fracs, ← List.map_take, ← List.map_drop, List.all, mGrid_at, h, gooT]
  | true =>
    obtain ⟨b, F⟩ := gooF h
    have hl := rect_len h
    have ht := mTake_at nl xss false (idx xss.length) ⟨h, rfl⟩
    have hm := mMost_at nl xss h
    rw [F.hb] at hm
    have hc := mCntF_at nl xss h
    have h1 := mFNum_at false _ F.ha
    have h2 := mFNum_at false b F.hb2
    have h3 := mItoa_at _ F.ic
    have hg : gooT xss = gooS xss b := by unfold gooT; rw [if_pos h, F.hb]; rfl
    rw [hg]
    unfold gooS
    have sa := F.sa
    have sb := F.sb
    have sc := F.sc
    have tl := tkT_len (xss := xss) (m := wid xss) (k := wid xss)
    generalize tkT xss (wid xss) (wid xss) = T at *
    generalize cntF xss (allocs xss) = N at *
    have tkT' : List.take (wid xss) T = T := List.take_of_length_le (by omega)
    simp [Tryd.f8, List.range, List.range.loop, ints, intss, int, bool, row, frac, fracs, ← List.map_take, ← List.map_drop, List.all, mGrid_at, h]
    refine awp_range (live := [true, false, true, true, true, true, false, true, false, false, false, true, false, false, true, true, true]) (ctxH_ok eqOk hG hM hV hK) mixed [true, false, false, true, false, false, false, false, false, false, false, false, false, false, true, true] (xss.length) (fun k => True) (fun k => ⟨[intss nl xss, .junk, .junk, .ref 0 [] 0 k, .junk, .junk, .junk, .junk, .junk, .junk, .junk, .junk, .junk, .junk, int xss.length, int k, .junk, .junk, .junk, .junk, .junk, .junk, .junk, .junk, .junk, .junk, .junk, .junk, .junk, .junk, .junk, .junk, .junk, .junk, .junk, .junk, .junk, .junk, .junk, .junk, .junk, .junk, .junk, .junk, .junk, .junk], [⟨true, .sl false 1 ((idx k).map int)⟩]⟩) ?_ (by simp [sub, slotsLe, clean, keep, refsL, refs, once, place, renL, ren, List.replicate, int, bool, intss, idx]) ?_ ?_ ?_
    · omega
    · trivial
    · intro k hk _ hwk
      have hrs : (idx k).map int ++ [.v (.int .i64 k)] = (idx (k + 1)).map int := by simp [idx, List.range_succ, int]
      have hb : k + 1 ≤ 4611686018427387904 ∧ (k + 1) * 8 ≤ 140737488355328 := by omega
      simp [List.range, List.range.loop, ints, intss, int, bool, row, frac, fracs, ← List.map_take, ← List.map_drop, List.all, hk, hwk, idx_len, hrs, hb]
    · intro _
      have tk : (idx xss.length).take xss.length = idx xss.length := List.take_of_length_le (by rw [idx_len]; exact Nat.le_refl _)
      have z1 : (⟨#[116, 117, 114, 110, 115, 32]⟩ : ByteArray).size = 6 := rfl
      have z2 : (⟨#[32, 112, 114, 111, 100, 117, 99, 116, 32]⟩ : ByteArray).size = 9 := rfl
      have z3 : (⟨#[32, 102, 114, 101, 101, 32]⟩ : ByteArray).size = 6 := rfl
      have c1 : 6 + (numS T).size ≤ 9223372036854775807 := by omega
      have c2 : 6 + (numS T).size + 9 ≤ 9223372036854775807 := by omega
      have c3 : 6 + (numS T).size + 9 + (numS b).size ≤ 9223372036854775807 := by omega
      have c4 : 6 + (numS T).size + 9 + (numS b).size + 6 ≤ 9223372036854775807 := by omega
      have c5 : 6 + (numS T).size + 9 + (numS b).size + 6 + (itoaS N).size ≤ 9223372036854775807 := by omega
      simp [List.range, List.range.loop, ints, intss, int, bool, row, frac, fracs, ← List.map_take, ← List.map_drop, List.all, idx_len, tk, tkT', ht, hm, hc, h1, h2, h3, bestV, tl, ByteArray.size_append, z1, z2, z3, c1, c2, c3, c4, c5]

end Go.Proofs.YtakladjlnkojjaaDoor.Ax
