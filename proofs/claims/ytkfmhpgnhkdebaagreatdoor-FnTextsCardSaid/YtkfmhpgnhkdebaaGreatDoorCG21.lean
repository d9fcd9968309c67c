/-
  Contracts: strings.SplitSeq; ParseInt (the program's). No condition.
-/
import Derived.Test.YtkfmhpgnhkdebaaGreatDoorCG20
import Derived.Ground.NamesProg
import Derived.Shelf.Strconv.AtoiAll
import Derived.Test.YtkfmhpgnhkdebaaGreatDoorCG15
import Derived.Shelf.Strings.Search2
import Derived.Test.YtkfmhpgnhkdebaaGreatDoorCG17
import Derived.Test.YtkfmhpgnhkdebaaGreatDoorCG13
namespace Go.Proofs
open Go.Shelf
def Tryz.laysAtoi_ren : Go.Shelf.Ren := ⟨fun | 172 => 185 | 244 => 237 | 245 => 238 | 247 => 271 | 279 => 272 | 280 => 273 | 281 => 274 | 282 => 275 | 287 => 291 | 316 => 292 | 171 => 75 | 205 => 293 | 321 => 297 | 322 => 298 | 243 => 156 | 246 => 218 | 283 => 255 | 284 => 256 | 285 => 257 | 286 => 258 | 129 => 285 | 317 => 284 | 318 => 286 | 319 => 287 | 320 => 288 | 337 => 295 | 338 => 296 | n => n, fun | 9 => 9 | 3 => 3 | 75 => 181 | 76 => 182 | 4 => 4 | 5 => 5 | 167 => 237 | 37 => 33 | 0 => 0 | 85 => 238 | 2 => 2 | 168 => 240 | 53 => 208 | 175 => 253 | 46 => 167 | 210 => 257 | 127 => 223 | 145 => 266 | 143 => 264 | 21 => 21 | 171 => 227 | 173 => 229 | 212 => 250 | 51 => 206 | 20 => 20 | 213 => 251 | 232 => 267 | 233 => 268 | 80 => 200 | n => n, fun | 15 => 2 | 16 => 3 | 17 => 1 | 18 => 6 | 19 => 7 | n => n⟩
theorem Tryz.laysAtoi : Go.Proofs.LaysC.n172 Tryz.prog Tryz.laysAtoi_ren := {
  mixed := by kernel_rfl
  f129 := Tryz.func285.trans (congrArg some (by kernel_rfl))
  f171 := Tryz.func75.trans (congrArg some (by kernel_rfl))
  f172 := Tryz.func185.trans (congrArg some (by kernel_rfl))
  f205 := Tryz.func293.trans (congrArg some (by kernel_rfl))
  f243 := Tryz.func156.trans (congrArg some (by kernel_rfl))
  f244 := Tryz.func237.trans (congrArg some (by kernel_rfl))
  f245 := Tryz.func238.trans (congrArg some (by kernel_rfl))
  f246 := Tryz.func218.trans (congrArg some (by kernel_rfl))
  f247 := Tryz.func271.trans (congrArg some (by kernel_rfl))
  f279 := Tryz.func272.trans (congrArg some (by kernel_rfl))
  f280 := Tryz.func273.trans (congrArg some (by kernel_rfl))
  f281 := Tryz.func274.trans (congrArg some (by kernel_rfl))
  f282 := Tryz.func275.trans (congrArg some (by kernel_rfl))
  f283 := Tryz.func255.trans (congrArg some (by kernel_rfl))
  f284 := Tryz.func256.trans (congrArg some (by kernel_rfl))
  f285 := Tryz.func257.trans (congrArg some (by kernel_rfl))
  f286 := Tryz.func258.trans (congrArg some (by kernel_rfl))
  f287 := Tryz.func291.trans (congrArg some (by kernel_rfl))
  f316 := Tryz.func292.trans (congrArg some (by kernel_rfl))
  f317 := Tryz.func284.trans (congrArg some (by kernel_rfl))
  f318 := Tryz.func286.trans (congrArg some (by kernel_rfl))
  f319 := Tryz.func287.trans (congrArg some (by kernel_rfl))
  f320 := Tryz.func288.trans (congrArg some (by kernel_rfl))
  f321 := Tryz.func297.trans (congrArg some (by kernel_rfl))
  f322 := Tryz.func298.trans (congrArg some (by kernel_rfl))
  f337 := Tryz.func295.trans (congrArg some (by kernel_rfl))
  f338 := Tryz.func296.trans (congrArg some (by kernel_rfl))
  t0 := Tryz.underlying0
  a0 := Tryz.isAgg0
  z0 := Tryz.sizeOf0
  v0 := Tryz.zeroValue0
  t2 := Tryz.underlying2
  a2 := Tryz.isAgg2
  z2 := Tryz.sizeOf2
  v2 := Tryz.zeroValue2
  t3 := Tryz.underlying3
  a3 := Tryz.isAgg3
  z3 := Tryz.sizeOf3
  v3 := Tryz.zeroValue3
  t4 := Tryz.underlying4
  a4 := Tryz.isAgg4
  z4 := Tryz.sizeOf4
  v4 := Tryz.zeroValue4
  t5 := Tryz.underlying5
  a5 := Tryz.isAgg5
  z5 := Tryz.sizeOf5
  v5 := Tryz.zeroValue5
  t9 := Tryz.underlying9
  a9 := Tryz.isAgg9
  z9 := Tryz.sizeOf9
  v9 := Tryz.zeroValue9
  t20 := Tryz.underlying20
  a20 := Tryz.isAgg20
  z20 := Tryz.sizeOf20
  v20 := Tryz.zeroValue20
  t21 := Tryz.underlying21
  a21 := Tryz.isAgg21
  z21 := Tryz.sizeOf21
  v21 := Tryz.zeroValue21
  t37 := Tryz.underlying33
  a37 := Tryz.isAgg33
  z37 := Tryz.sizeOf33
  v37 := Tryz.zeroValue33
  t46 := Tryz.underlying167
  a46 := Tryz.isAgg167
  z46 := Tryz.sizeOf167
  v46 := Tryz.zeroValue167
  t51 := Tryz.underlying206
  a51 := Tryz.isAgg206
  z51 := Tryz.sizeOf206
  v51 := Tryz.zeroValue206
  t53 := Tryz.underlying208
  a53 := Tryz.isAgg208
  z53 := Tryz.sizeOf208
  v53 := Tryz.zeroValue208
  t75 := Tryz.underlying181
  a75 := Tryz.isAgg181
  z75 := Tryz.sizeOf181
  v75 := Tryz.zeroValue181
  t76 := Tryz.underlying182
  a76 := Tryz.isAgg182
  z76 := Tryz.sizeOf182
  v76 := Tryz.zeroValue182
  t85 := Tryz.underlying238
  a85 := Tryz.isAgg238
  z85 := Tryz.sizeOf238
  v85 := Tryz.zeroValue238
  t127 := Tryz.underlying223
  a127 := Tryz.isAgg223
  z127 := Tryz.sizeOf223
  v127 := Tryz.zeroValue223
  t143 := Tryz.underlying264
  a143 := Tryz.isAgg264
  z143 := Tryz.sizeOf264
  v143 := Tryz.zeroValue264
  t145 := Tryz.underlying266
  a145 := Tryz.isAgg266
  z145 := Tryz.sizeOf266
  v145 := Tryz.zeroValue266
  t167 := Tryz.underlying237
  a167 := Tryz.isAgg237
  z167 := Tryz.sizeOf237
  v167 := Tryz.zeroValue237
  t168 := Tryz.underlying240
  a168 := Tryz.isAgg240
  z168 := Tryz.sizeOf240
  v168 := Tryz.zeroValue240
  t171 := Tryz.underlying227
  a171 := Tryz.isAgg227
  z171 := Tryz.sizeOf227
  v171 := Tryz.zeroValue227
  t173 := Tryz.underlying229
  a173 := Tryz.isAgg229
  z173 := Tryz.sizeOf229
  v173 := Tryz.zeroValue229
  t175 := Tryz.underlying253
  a175 := Tryz.isAgg253
  z175 := Tryz.sizeOf253
  v175 := Tryz.zeroValue253
  t210 := Tryz.underlying257
  a210 := Tryz.isAgg257
  z210 := Tryz.sizeOf257
  v210 := Tryz.zeroValue257
  t212 := Tryz.underlying250
  a212 := Tryz.isAgg250
  z212 := Tryz.sizeOf250
  v212 := Tryz.zeroValue250
  t213 := Tryz.underlying251
  a213 := Tryz.isAgg251
  z213 := Tryz.sizeOf251
  t232 := Tryz.underlying267
  a232 := Tryz.isAgg267
  z232 := Tryz.sizeOf267
  v232 := Tryz.zeroValue267
  t233 := Tryz.underlying268
  a233 := Tryz.isAgg268
  z233 := Tryz.sizeOf268
  v233 := Tryz.zeroValue268
  g15 := by kernel_rfl
  g16 := by kernel_rfl
  g17 := by kernel_rfl
  g18 := by kernel_rfl
  g19 := by kernel_rfl
  t80 := Tryz.underlying200
  a80 := Tryz.isAgg200
  z80 := Tryz.sizeOf200
  v80 := Tryz.zeroValue200
  i0 := by kernel_rfl
  i2 := by kernel_rfl
  i3 := by kernel_rfl
  i4 := by kernel_rfl
  i5 := by kernel_rfl
  i9 := by kernel_rfl
  i20 := by kernel_rfl
  i21 := by kernel_rfl
  i37 := by kernel_rfl
  i46 := by kernel_rfl
  i51 := by kernel_rfl
  i53 := by kernel_rfl
  i75 := by kernel_rfl
  i76 := by kernel_rfl
  i80 := by kernel_rfl
  i85 := by kernel_rfl
  i127 := by kernel_rfl
  i143 := by kernel_rfl
  i145 := by kernel_rfl
  i167 := by kernel_rfl
  i168 := by kernel_rfl
  i171 := by kernel_rfl
  i173 := by kernel_rfl
  i175 := by kernel_rfl
  i210 := by kernel_rfl
  i212 := by kernel_rfl
  i232 := by kernel_rfl
  i233 := by kernel_rfl
  m15 := by kernel_rfl
  m16 := by kernel_rfl
  m17 := by kernel_rfl
  m18 := by kernel_rfl
  m19 := by kernel_rfl
  c0 := by kernel_rfl
  c2 := by kernel_rfl
  c3 := by kernel_rfl
  c4 := by kernel_rfl
  c5 := by kernel_rfl
  c9 := by kernel_rfl
  c20 := by kernel_rfl
  c21 := by kernel_rfl
  c37 := by kernel_rfl
  c46 := by kernel_rfl
  c51 := by kernel_rfl
  c53 := by kernel_rfl
  c75 := by kernel_rfl
  c76 := by kernel_rfl
  c80 := by kernel_rfl
  c85 := by kernel_rfl
  c127 := by kernel_rfl
  c143 := by kernel_rfl
  c145 := by kernel_rfl
  c167 := by kernel_rfl
  c168 := by kernel_rfl
  c171 := by kernel_rfl
  c173 := by kernel_rfl
  c175 := by kernel_rfl
  c210 := by kernel_rfl
  c212 := by kernel_rfl
  c213 := by kernel_rfl
  c232 := by kernel_rfl
  c233 := by kernel_rfl }
end Go.Proofs
namespace Go.Proofs.YtkfmhpgnhkdebaaGreatDoor.Ax
open Go Go.RowKit
set_option linter.unusedSimpArgs false
set_option maxHeartbeats 1000000 in
theorem splitSeqP_ok {s : ByteArray} {c : UInt8} (hsz : s.size ≤ 4611686018427387904) : SeqOk Tryz.prog 122 [str s, str ⟨#[c]⟩] ((splitS s c).map str) := by
  refine ⟨⟨_, Tryz.func122, by kernel_rfl, by kernel_rfl⟩, fun w F vals hF hv => ?_⟩
  simp only [RepL, Rep, str] at hv
  obtain ⟨v1, r1, e1, ⟨rfl, _⟩, v2, r2, rfl, ⟨rfl, _⟩, rfl⟩ := hv
  have hvals : vals = #[.string s, .string ⟨#[c]⟩] := by apply Array.ext'; rw [e1]
  subst hvals
  have h := (splitSeq_ok (c := c) hsz).2 w F #[.string s, .string ⟨#[c]⟩, .int .i64 0] hF (by simp [RepL, Rep, str, int, Value.oneCell'])
  go_enter Tryz.func122, Tryz.ntmps122
  go_wp2_with (go_at_call 187; refine h.mono ?_; rintro e W1 ⟨gf, cv, Bi, rfl, h1, h2, h3⟩)
  go_ret
  exact ⟨gf, cv, Bi, rfl, h1, h2, h3⟩
theorem err_of {n : String} {F : Nat → Prop} {w : World} {g : Nat} (h : ErrG n F w) (hg : Tryz.prog.globalNamed n = some g) : ∃ u v, w.cell? ⟨g, 0, none⟩ = some (.iface u v) := by
  obtain ⟨_, u, v, x, y, h2⟩ := h g hg
  exact ⟨u, v, by simp [World.cell?, h2]⟩
theorem own_ib {w : World} {n : Int} {b : Bool} : Own w true (fun _ => False) (fun _ => False) (.tup [.v (.int .i64 n), .v (.bool b)]) (.tuple #[.int .i64 n, .bool b]) := by
  simp [Own, OwnL, Value.oneCell']
  exact ⟨_, _, ⟨rfl, rfl⟩, fun _ => False, fun _ h => h, fun _ => False, fun _ h => h, fun _ h => h.elim, rfl, _, _, rfl, fun _ => False, fun _ h => h, fun _ => False, fun _ h => h, fun _ h => h.elim, rfl, rfl⟩
theorem frm_below {w w' : World} (h : Below w.heap.size w w') : Frm (fun _ => False) w w' := ⟨h.os, h.tape, h.output, h.size, fun k hk _ => h.block k hk⟩
set_option maxHeartbeats 2000000 in
theorem implPI_ok : FnOk Tryz.prog 119 mPI := by
  refine mk_ok fun s hs => ?_
  refine ⟨⟨_, Tryz.func119, by kernel_rfl, by kernel_rfl⟩, fun w F vals hF hv => ?_⟩
  simp only [RepL, Rep, str] at hv
  obtain ⟨v1, r1, e1, ⟨rfl, _⟩, rfl⟩ := hv
  have hvals : vals = #[.string s] := by apply Array.ext'; rw [e1]
  subst hvals
  rcases pI_atoi (s := s) with ⟨v, h1, h2, h3⟩ | ⟨h1, h3⟩
  · have hA := Any.strconv_Atoi_ok Tryz.laysAtoi s (by omega) v h1 w
    go_enter Tryz.func119, Tryz.ntmps119
    go_wp2_with (go_at_call 185; refine hA.mono ?_; rintro e W1 ⟨rfl, hW⟩)
    have hb1 : Below w.heap.size w W1 := by
      rcases hW with rfl | ⟨t, rfl⟩
      · exact Below.refl _ _
      · exact Lib.bytesWorld_below _ _ _
    have hfr := frm_below hb1
    have hF1 : Fit F W1 := ⟨fun b hb => Nat.lt_of_lt_of_le (hF.lt b hb) hfr.size, hF.gl.agree fun b hb => (hfr.block b (hF.lt b hb) id)⟩
    have hI := (implFormatInt_ok _ _ (mItoa_at v h2)).2 W1 F #[.int .i64 v] hF1 (by simp [RepL, Rep, Value.oneCell'])
    go_wp2_with (go_at_call 17; refine hI.mono ?_; rintro e W2 ⟨y, S, rfl, hf2, hS, ho⟩; simp only [Own] at ho; obtain ⟨rfl, _⟩ := ho)
    · rename_i hc
      go_ret2
      have hne : ¬ itoaS v = s := fun h => by subst h; simp at hc
      rw [h3, if_neg hne]
      exact ⟨_, fun _ => False, rfl, hfr.comp hf2 (fun _ _ h => h) (fun _ _ h => h), fun _ h => h.elim, own_ib⟩
    · rename_i hc
      go_ret2
      have he : itoaS v = s := by
        have : (itoaS v).toList = s.toList := by simpa using hc
        exact Decidable.byContradiction fun h => tl_ne h this
      rw [h3, if_pos he]
      exact ⟨_, fun _ => False, rfl, hfr.comp hf2 (fun _ _ h => h) (fun _ _ h => h), fun _ h => h.elim, own_ib⟩
  · have hlim : s.size ≤ 281474976710656 := hs
    rw [h3]
    obtain ⟨u1, p1, c1⟩ := err_of hF.gl.2.1 (g := Tryz.laysAtoi_ren.g 15) (by kernel_rfl)
    obtain ⟨u2, p2, c2⟩ := err_of hF.gl.2.2 (g := Tryz.laysAtoi_ren.g 16) (by kernel_rfl)
    rcases h1 with h1 | h1
    · have hA := Any.strconv_Atoi_syntax Tryz.laysAtoi s hlim h1 _ w c1 (.inr ⟨u1, p1, rfl⟩)
      go_enter Tryz.func119, Tryz.ntmps119
      go_wp2_with (go_at_call 185; refine hA.mono ?_; rintro e W1 ⟨N, rfl, hN, hW, hb⟩)
      go_ret2
      exact ⟨_, fun _ => False, rfl, frm_below hb, fun _ h => h.elim, own_ib⟩
    · have hA := Any.strconv_Atoi_range Tryz.laysAtoi s hlim h1 _ w c2 (.inr ⟨u2, p2, rfl⟩)
      go_enter Tryz.func119, Tryz.ntmps119
      go_wp2_with (go_at_call 185; refine hA.mono ?_; rintro e W1 ⟨N, rfl, hN, hW, hb⟩)
      go_ret2
      exact ⟨_, fun _ => False, rfl, frm_below hb, fun _ h => h.elim, own_ib⟩
end Go.Proofs.YtkfmhpgnhkdebaaGreatDoor.Ax
namespace Go.Proofs.YtkfmhpgnhkdebaaGreatDoor.Ax
open Go Go.RowKit
set_option linter.unusedSimpArgs false
def outN : List Int → AV
  | [] => .sl true 1 []
  | n :: l => .sl false 1 ((n :: l).map int)
theorem outN_ne {l : List Int} (h : l ≠ []) : outN l = .sl false 1 (l.map int) := by cases l with | nil => exact (h rfl).elim | cons _ _ => rfl
theorem deep3 {a b c : AV} (t : Nat) (tk : Tok) (h : ([⟨true, a⟩, ⟨true, b⟩, ⟨true, c⟩] : List Tok)[t]? = some tk) : tk.row = .junk ∨ tk.deep = true := by
  match t with
  | 0 => simp at h; subst h; exact .inr rfl
  | 1 => simp at h; subst h; exact .inr rfl
  | 2 => simp at h; subst h; exact .inr rfl
  | t + 3 => simp at h
set_option maxHeartbeats 2000000 in
theorem implPN_ok : FnOk Tryz.prog 127 (mPN true) := by
  refine mk_ok fun s hs => ?_
  have hG : FnsOk Tryz.prog [(119, mPI)] := (.cons implPI_ok .nil)
  refine callOk_of_tr (C := _) (ctx_ok eqOk hG) (dt := []) Tryz.func127 rfl (by kernel_rfl) (by kernel_rfl) fun w0 => ?_
  have hR0 : pnR true s = if s = ⟨#[45]⟩ then .tup [.sl true 1 [], .v (.bool true)] else if pnOk (splitS s 44) = true then .tup [.sl false 1 ((pnL (splitS s 44)).map int), .v (.bool true)] else .tup [.sl true 1 [], .v (.bool false)] := rfl
  refine tr_seq (tr_awp (live := [true, false, true, true, true, true, true, true, false, true, false, true, true, false, false, false, false, false, false, false, false, false, false, false, true]) (ctx_ok eqOk hG) mixed _ _ _ ?_)
  by_cases h45 : s = ⟨#[45]⟩
  · subst h45
    simp [Tryz.f127, List.range, List.range.loop, ints, intss, int, bool, row, frac, fracs, ← List.map_take, ← List.map_drop, andThen, str]
    refine tr_seq (tr_awp (live := [true, false, true, true, true, true, true, true, false, true, false, true, true, false, false, false, false, false, false, false, false, false, false, false, true]) (ctx_ok eqOk hG) mixed _ _ _ ?_)
    simp [List.range, List.range.loop, ints, intss, int, bool, row, frac, fracs, ← List.map_take, ← List.map_drop, andThen, str, hR0]
    done
  have hne : ¬ s.toList = [45] := by
    have := tl_ne h45
    simpa using this
  simp [Tryz.f127, List.range, List.range.loop, ints, intss, int, bool, row, frac, fracs, ← List.map_take, ← List.map_drop, andThen, str]
  refine tr_seq (tr_awp (live := [true, false, true, true, true, true, true, true, false, true, false, true, true, false, false, false, false, false, false, false, false, false, false, false, true]) (ctx_ok eqOk hG) mixed _ _ _ ?_)
  simp [List.range, List.range.loop, ints, intss, int, bool, row, frac, fracs, ← List.map_take, ← List.map_drop, andThen, str, hne, h45]
  refine tr_seq (tr_awp (live := [true, false, true, true, true, true, true, true, false, true, false, true, true, false, false, false, false, false, false, false, false, false, false, false, true]) (ctx_ok eqOk hG) mixed _ _ _ ?_)
  simp [List.range, List.range.loop, ints, intss, int, bool, row, frac, fracs, ← List.map_take, ← List.map_drop, andThen, str, hne, h45]
  rw [hR0, if_neg h45]
  obtain ⟨l1, l2⟩ := splitS_facts (s := s) (c := 44)
  have hseq := splitSeqP_ok (s := s) (c := 44) (by omega)
  have hw : splitS s 44 ≠ [] := by unfold splitS; simp
  generalize splitS s 44 = W at *
  refine tr_seq (tr_seqRange (live := [true, false, true, true, true, true, true, true, false, true, false, true, true, false, false, false, false, false, false, false, false, false, false, false, true]) (lv := [false, false, true, true, true]) (S0 := [.junk, .junk, .ptr 0 [] 0 0, .ptr 1 [] 0 0, .ptr 2 [] 0 0, .junk, .junk, .junk, .junk, .junk, .junk, .junk, .junk, .junk, .junk, .junk, .junk, .junk, .junk, .junk, .junk, .junk, .junk, .junk, .junk, .junk, .junk, .junk, .junk, .junk])
    (I := fun k => [⟨true, .sl false 1 [.sl true 1 []]⟩, ⟨true, .sl false 1 [bool false]⟩, ⟨true, .sl false 1 [outN (pnL (W.take k))]⟩]) [2, 3, 4]
    (ctx_ok eqOk hG) mixed rfl rfl rfl (pre := [_]) rfl rfl rfl rfl (by simp [List.range, List.range.loop, ints, intss, int, bool, row, frac, fracs, ← List.map_take, ← List.map_drop]; rfl) rfl (by simp [List.range, List.range.loop, ints, intss, int, bool, row, frac, fracs, ← List.map_take, ← List.map_drop, str]) hseq ?_ rfl (by simp) (by simp) (by decide) (chkS_all rfl) ?_ ⟨by kernel_rfl, by kernel_rfl⟩ (fun k => (W.take k).all (fun x => (pI x).2) = true ∧ k ≤ 20) (by simp) ?_ ?_)
  · refine (le_clean [false, false, true, true, true]).trans (le_sub ?_)
    simp [sub, slotsLe, clean, keep, refsL, refs, once, place, renL, ren, List.replicate, int, bool, outN, pnL]
  · exact fun _ _ => deep3
  · intro k x hx hpk pin l US w1
    rw [List.getElem?_map, Option.map_eq_some_iff] at hx
    obtain ⟨r0, hr0, rfl⟩ := hx
    obtain ⟨hk, hr0'⟩ := List.getElem?_eq_some_iff.1 hr0
    have hkl : k < W.length := hk
    have hm := mPI_at r0 (by have := l2 r0 (hr0' ▸ List.getElem_mem hk); omega)
    have hln := pnL_len (W := W) (k := k) (by omega)
    have hst := pnL_step hk
    rw [hr0'] at hst
    simp [List.range, List.range.loop, ints, intss, int, bool, row, frac, fracs, ← List.map_take, ← List.map_drop]
    simp only [asgP_normal]
    intro US' w1'
    cases hb : (pI r0).2 with
    | false =>
      have hf := pn_no hk (by rw [hr0']; exact hb)
      rw [hb] at hm
      simp [List.range, List.range.loop, ints, intss, int, bool, row, frac, fracs, ← List.map_take, ← List.map_drop, str, hm, hf, rngP, andThen, inBlock]
      exact deep3
    | true =>
      rw [hb] at hm
      by_cases h20 : k = 20
      · have hf := pn_many (W := W) (by omega)
        subst h20
        have hnz : outN (pnL (W.take 20)) = .sl false 1 ((pnL (W.take 20)).map int) := outN_ne (by intro h; rw [h] at hln; simp at hln)
        rw [hnz]
        simp [List.range, List.range.loop, ints, intss, int, bool, row, frac, fracs, ← List.map_take, ← List.map_drop, str, hm, hf, rngP, andThen, inBlock, hln]
        exact deep3
      · have h20i : ¬ ((k : Int) = 20) := by omega
        have hps := pn_step hk hpk.1 (by rw [hr0']; exact hb)
        have h20j : k + 1 ≤ 20 := by omega
        have hbb : k + 1 ≤ 4611686018427387904 ∧ (k + 1) * 8 ≤ 140737488355328 := by omega
        have hz' : outN (pnL (W.take (k + 1))) = .sl false 1 ((pnL (W.take k)).map int ++ [.v (.int .i64 (pI r0).1)]) := by rw [hst, outN_ne (by simp)]; simp [int]
        by_cases hk0 : k = 0
        · subst hk0
          have hz0 : pnL [] = [] := rfl
          have hn : outN [] = .sl true 1 [] := rfl
          simp [hz0] at hz'
          simp at hps
          simp [List.range, List.range.loop, ints, intss, int, bool, row, frac, fracs, ← List.map_take, ← List.map_drop, str, hm, rngP, andThen, inBlock, hz', hz0, hn]
          simpa using hps
        · have hz : outN (pnL (W.take k)) = .sl false 1 ((pnL (W.take k)).map int) := outN_ne (by intro h; rw [h] at hln; simp at hln; omega)
          simp [List.range, List.range.loop, ints, intss, int, bool, row, frac, fracs, ← List.map_take, ← List.map_drop, str, hm, rngP, andThen, inBlock, hz', hz, hln, h20i, hbb, h20j]
          simpa using hps
  · simp only [List.length_map, andThen, List.take_length]
    intro hpp
    have hz : outN (pnL W) = .sl false 1 ((pnL W).map int) := outN_ne (by intro h; simp [pnL] at h; exact hw h)
    refine tr_awp (live := [true, false, true, true, true, true, true, true, false, true, false, true, true, false, false, false, false, false, false, false, false, false, false, false, true]) (ctx_ok eqOk hG) mixed _ _ _ ?_
    have hok : pnOk W = true := by unfold pnOk; rw [hpp.1]; simp; exact hpp.2
    simp [List.range, List.range.loop, ints, intss, int, bool, row, frac, fracs, ← List.map_take, ← List.map_drop, hz, hok]
    done
end Go.Proofs.YtkfmhpgnhkdebaaGreatDoor.Ax
namespace Go.Proofs.YtkfmhpgnhkdebaaGreatDoor.Ax
open Go Go.RowKit
set_option linter.unusedSimpArgs false
def outTb : List (Bool × List Int) → AV
  | [] => .sl true 1 []
  | x :: l => .sl false 1 ((x :: l).map row)
theorem outT_ne {l : List (Bool × List Int)} (h : l ≠ []) : outTb l = .sl false 1 (l.map row) := by cases l with | nil => exact (h rfl).elim | cons _ _ => rfl
set_option maxHeartbeats 4000000 in
theorem implPT_ok : FnOk Tryz.prog 48 (mPT true) := by
  refine mk_ok fun s hs => ?_
  have hG : FnsOk Tryz.prog [(127, (mPN true))] := (.cons implPN_ok .nil)
  refine callOk_of_tr (C := _) (ctx_ok eqOk hG) (dt := []) Tryz.func48 rfl (by kernel_rfl) (by kernel_rfl) fun w0 => ?_
  have hR0 : ptbR true s = if s = ⟨#[61]⟩ then .tup [.sl true 1 [], .v (.bool true)] else if ptOk (splitS s 59) = true then .tup [.sl false 1 ((ptbL true (splitS s 59)).map row), .v (.bool true)] else .tup [.sl true 1 [], .v (.bool false)] := rfl
  refine tr_seq (tr_awp (live := [true, false, true, true, true, true, true, true, false, true, false, true, true, false, false, false, false, false, false, false, false, false, false, false, true]) (ctx_ok eqOk hG) mixed _ _ _ ?_)
  by_cases h45 : s = ⟨#[61]⟩
  · subst h45
    simp [Tryz.f48, List.range, List.range.loop, ints, intss, int, bool, row, frac, fracs, ← List.map_take, ← List.map_drop, andThen, str]
    refine tr_seq (tr_awp (live := [true, false, true, true, true, true, true, true, false, true, false, true, true, false, false, false, false, false, false, false, false, false, false, false, true]) (ctx_ok eqOk hG) mixed _ _ _ ?_)
    simp [List.range, List.range.loop, ints, intss, int, bool, row, frac, fracs, ← List.map_take, ← List.map_drop, andThen, str, hR0]
    done
  have hne : ¬ s.toList = [61] := by
    have := tl_ne h45
    simpa using this
  simp [Tryz.f48, List.range, List.range.loop, ints, intss, int, bool, row, frac, fracs, ← List.map_take, ← List.map_drop, andThen, str]
  refine tr_seq (tr_awp (live := [true, false, true, true, true, true, true, true, false, true, false, true, true, false, false, false, false, false, false, false, false, false, false, false, true]) (ctx_ok eqOk hG) mixed _ _ _ ?_)
  simp [List.range, List.range.loop, ints, intss, int, bool, row, frac, fracs, ← List.map_take, ← List.map_drop, andThen, str, hne, h45]
  refine tr_seq (tr_awp (live := [true, false, true, true, true, true, true, true, false, true, false, true, true, false, false, false, false, false, false, false, false, false, false, false, true]) (ctx_ok eqOk hG) mixed _ _ _ ?_)
  simp [List.range, List.range.loop, ints, intss, int, bool, row, frac, fracs, ← List.map_take, ← List.map_drop, andThen, str, hne, h45]
  rw [hR0, if_neg h45]
  obtain ⟨l1, l2⟩ := splitS_facts (s := s) (c := 59)
  have hseq := splitSeqP_ok (s := s) (c := 59) (by omega)
  have hw : splitS s 59 ≠ [] := by unfold splitS; simp
  generalize splitS s 59 = W at *
  refine tr_seq (tr_seqRange (live := [true, false, true, true, true, true, true, true, false, true, false, true, true, false, false, false, false, false, false, false, false, false, false, false, true]) (lv := [false, false, true, true, true]) (S0 := [.junk, .junk, .ptr 0 [] 0 0, .ptr 1 [] 0 0, .ptr 2 [] 0 0, .junk, .junk, .junk, .junk, .junk, .junk, .junk, .junk, .junk, .junk, .junk, .junk, .junk, .junk, .junk, .junk, .junk, .junk, .junk, .junk, .junk, .junk, .junk, .junk, .junk])
    (I := fun k => [⟨true, .sl false 1 [.sl true 1 []]⟩, ⟨true, .sl false 1 [bool false]⟩, ⟨true, .sl false 1 [outTb (ptbL true (W.take k))]⟩]) [2, 3, 4]
    (ctx_ok eqOk hG) mixed rfl rfl rfl (pre := [_]) rfl rfl rfl rfl (by simp [List.range, List.range.loop, ints, intss, int, bool, row, frac, fracs, ← List.map_take, ← List.map_drop]; rfl) rfl (by simp [List.range, List.range.loop, ints, intss, int, bool, row, frac, fracs, ← List.map_take, ← List.map_drop, str]) hseq ?_ rfl (by simp) (by simp) (by decide) (chkS_all rfl) ?_ ⟨by kernel_rfl, by kernel_rfl⟩ (fun k => (W.take k).all pnK = true ∧ k ≤ 20) (by simp) ?_ ?_)
  · refine (le_clean [false, false, true, true, true]).trans (le_sub ?_)
    simp [sub, slotsLe, clean, keep, refsL, refs, once, place, renL, ren, List.replicate, int, bool, outTb, ptbL]
  · exact fun _ _ => deep3
  · intro k x hx hpk pin l US w1
    rw [List.getElem?_map, Option.map_eq_some_iff] at hx
    obtain ⟨r0, hr0, rfl⟩ := hx
    obtain ⟨hk, hr0'⟩ := List.getElem?_eq_some_iff.1 hr0
    have hkl : k < W.length := hk
    have hm := mPN_at true r0 (by have := l2 r0 (hr0' ▸ List.getElem_mem hk); omega)
    rw [pnR_eq] at hm
    have hln := ptL_len (b := true) (W := W) (k := k) (by omega)
    have hst := ptL_step (b := true) hk
    rw [hr0'] at hst
    simp [List.range, List.range.loop, ints, intss, int, bool, row, frac, fracs, ← List.map_take, ← List.map_drop]
    simp only [asgP_normal]
    intro US' w1'
    cases hb : pnK r0 with
    | false =>
      have hf := pt_no hk (by rw [hr0']; exact hb)
      rw [hb] at hm
      simp at hm
      simp [List.range, List.range.loop, ints, intss, int, bool, row, frac, fracs, ← List.map_take, ← List.map_drop, str, hm, hf, rngP, andThen, inBlock]
      exact deep3
    | true =>
      rw [hb] at hm
      simp at hm
      by_cases h20 : k = 20
      · have hf := pt_many (W := W) (by omega)
        subst h20
        have hnz : outTb (ptbL true (W.take 20)) = .sl false 1 ((ptbL true (W.take 20)).map row) := outT_ne (by intro h; rw [h] at hln; simp at hln)
        rw [hnz]
        have hq : (prw true r0).1 = true ∧ (prw true r0).2 = [] ∨ (prw true r0).1 = false := by unfold prw; split <;> simp
        generalize prw true r0 = q at hm hq
        obtain ⟨nl, xs⟩ := q
        simp only at hq
        rcases hq with ⟨rfl, rfl⟩ | rfl
        · simp at hm
          simp [List.range, List.range.loop, ints, intss, int, bool, row, frac, fracs, ← List.map_take, ← List.map_drop, str, hm, hf, rngP, andThen, inBlock, hln]
          exact deep3
        · simp at hm
          simp [List.range, List.range.loop, ints, intss, int, bool, row, frac, fracs, ← List.map_take, ← List.map_drop, str, hm, hf, rngP, andThen, inBlock, hln]
          exact deep3
      · have h20i : ¬ ((k : Int) = 20) := by omega
        have hps := pt_step hk hpk.1 (by rw [hr0']; exact hb)
        have h20j : k + 1 ≤ 20 := by omega
        have hbb : k + 1 ≤ 4611686018427387904 ∧ (k + 1) * 24 ≤ 140737488355328 := by omega
        have hz' : outTb (ptbL true (W.take (k + 1))) = .sl false 1 ((ptbL true (W.take k)).map row ++ [row (prw true r0)]) := by rw [hst, outT_ne (by simp)]; simp
        have hq : (prw true r0).1 = true ∧ (prw true r0).2 = [] ∨ (prw true r0).1 = false := by unfold prw; split <;> simp
        generalize prw true r0 = q at hm hz' hst hq
        obtain ⟨nl, xs⟩ := q
        simp only at hq
        by_cases hk0 : k = 0
        · subst hk0
          have hz0 : ptbL true [] = [] := rfl
          have hn : outTb [] = .sl true 1 [] := rfl
          simp [hz0, row] at hz'
          simp at hps
          rcases hq with ⟨rfl, rfl⟩ | rfl
          · simp at hm hz'
            simp [List.range, List.range.loop, ints, intss, int, bool, row, frac, fracs, ← List.map_take, ← List.map_drop, str, hm, rngP, andThen, inBlock, hz', hz0, hn]
            simpa using hps
          · simp at hm hz'
            simp [List.range, List.range.loop, ints, intss, int, bool, row, frac, fracs, ← List.map_take, ← List.map_drop, str, hm, rngP, andThen, inBlock, hz', hz0, hn]
            simpa using hps
        · have hz : outTb (ptbL true (W.take k)) = .sl false 1 ((ptbL true (W.take k)).map row) := outT_ne (by intro h; rw [h] at hln; simp at hln; omega)
          rcases hq with ⟨rfl, rfl⟩ | rfl
          · simp [row] at hm hz'
            simp [List.range, List.range.loop, ints, intss, int, bool, row, frac, fracs, ← List.map_take, ← List.map_drop, str, hm, rngP, andThen, inBlock, hz', hz, hln, h20i, hbb, h20j]
            simpa using hps
          · simp [row] at hm hz'
            simp [List.range, List.range.loop, ints, intss, int, bool, row, frac, fracs, ← List.map_take, ← List.map_drop, str, hm, rngP, andThen, inBlock, hz', hz, hln, h20i, hbb, h20j]
            simpa using hps
  · simp only [List.length_map, andThen, List.take_length]
    intro hpp
    have hz : outTb (ptbL true W) = .sl false 1 ((ptbL true W).map row) := outT_ne (by intro h; simp [ptbL] at h; exact hw h)
    refine tr_awp (live := [true, false, true, true, true, true, true, true, false, true, false, true, true, false, false, false, false, false, false, false, false, false, false, false, true]) (ctx_ok eqOk hG) mixed _ _ _ ?_
    have hok : ptOk W = true := by unfold ptOk; rw [hpp.1]; simp; exact hpp.2
    simp [List.range, List.range.loop, ints, intss, int, bool, row, frac, fracs, ← List.map_take, ← List.map_drop, hz, hok]
    done
end Go.Proofs.YtkfmhpgnhkdebaaGreatDoor.Ax
namespace Go.Proofs.YtkfmhpgnhkdebaaGreatDoor.Ax
open Go Go.RowKit
set_option linter.unusedSimpArgs false
theorem index2_ok : FnOk Tryz.prog 236 mIxb := by
  refine mk_ok fun ⟨s, c⟩ _ => ?_
  refine ⟨⟨_, Tryz.func236, by kernel_rfl, by kernel_rfl⟩, fun w F vals hF hv => ?_⟩
  simp only [RepL, Rep, str] at hv
  obtain ⟨v1, r1, e1, ⟨rfl, _⟩, v2, r2, rfl, ⟨rfl, _⟩, rfl⟩ := hv
  have hvals : vals = #[.string s, .string ⟨#[c]⟩] := by apply Array.ext'; rw [e1]
  subst hvals
  refine (Go.Proofs.Any.stringslite_Index_one (P := Tryz.prog) { Tryz.laysIndex with } s c w).mono fun e w' h => ?_
  obtain ⟨rfl, rfl⟩ := h
  exact ⟨_, fun _ => False, rfl, Frm.refl _ _, fun _ h => h.elim, by simp [Own, int, Value.oneCell', bl]⟩
def cutT (s : ByteArray) (c : UInt8) : ByteArray × ByteArray × Bool :=
  if Lib.indexByte (bl s) c < 0 then (s, ⟨#[]⟩, false) else (s.extract 0 (Lib.indexByte (bl s) c).toNat, s.extract ((Lib.indexByte (bl s) c).toNat + 1) s.size, true)
theorem cutT_no {s : ByteArray} {c : UInt8} (h : c ∉ bl s) : cutT s c = (s, ⟨#[]⟩, false) := by
  unfold cutT
  rcases idx_facts (l := bl s) (c := c) with ⟨h1, _⟩ | ⟨k, _, h2, h3, _⟩
  · rw [h1, if_pos (by omega)]
  · exact absurd (h3 ▸ List.getElem_mem h2) h
theorem cutT_app {a b : ByteArray} {c : UInt8} (h : c ∉ bl a) : cutT (a ++ ⟨#[c]⟩ ++ b) c = (a, b, true) := by
  obtain ⟨g1, g2, g3, g4, g5⟩ := cut_facts (b := b) h
  have hs : (bl (a ++ ⟨#[c]⟩ ++ b)).length = (a ++ ⟨#[c]⟩ ++ b).size := bl_size _
  have e : Lib.indexByte (bl (a ++ ⟨#[c]⟩ ++ b)) c = (a.size : Int) := by
    rcases idx_facts (l := bl (a ++ ⟨#[c]⟩ ++ b)) (c := c) with ⟨_, h2⟩ | ⟨k, h1, h2, h3, h4⟩
    · exact absurd rfl (h2 c (by rw [bl_app, bl_app, bl_one]; simp))
    · rw [h1]
      rw [hs] at h2
      rcases Nat.lt_trichotomy k a.size with hl | hl | hl
      · have := g3 k hl
        rw [by1_bl, List.getElem?_eq_getElem (by omega), Option.getD_some, h3] at this
        exact absurd rfl this
      · rw [hl]
      · have := h4 a.size hl
        rw [by1_bl, List.getElem?_eq_getElem (by omega), Option.getD_some] at g2
        exact absurd (UInt8.toNat_inj.1 g2) this
  unfold cutT
  rw [e, if_neg (by omega), Int.toNat_natCast, g4, g5]
def cutAV (p : ByteArray × ByteArray × Bool) : AV := .tup [.v (.string p.1), .v (.string p.2.1), .v (.bool p.2.2)]
noncomputable def mScut : List AV → Option AV := mk (fun p => p.1.size ≤ 4611686018427387904) (fun (p : ByteArray × UInt8) => [str p.1, str ⟨#[p.2]⟩]) (fun p => cutAV (cutT p.1 p.2))
theorem mScut_at (s : ByteArray) (c : UInt8) (h : s.size ≤ 4611686018427387904) : mScut [.v (.string s), .v (.string ⟨#[c]⟩)] = some (cutAV (cutT s c)) :=
  mk_eq (enc := fun (p : ByteArray × UInt8) => [str p.1, str ⟨#[p.2]⟩]) (x := (s, c)) (by
    rintro ⟨a, b⟩ ⟨a', b'⟩ h
    simp [str] at h
    rw [h.1, h.2]) h
set_option maxHeartbeats 1000000 in
theorem scut2_ok : FnOk Tryz.prog 184 mScut := by
  refine mk_ok fun ⟨s, c⟩ hs => ?_
  simp only at hs
  have hi := mIxb_at s c
  have c1 : (⟨#[c]⟩ : ByteArray).size = 1 := rfl
  have hG : FnsOk Tryz.prog [(236, mIxb)] := (.cons index2_ok .nil)
  refine callOk_awp (ctx_ok eqOk hG) mixed (live := [true, true, false, false, true, true, true, true, false, false, false, false, true]) (dt := [(3, ⟨[], [], []⟩)]) Tryz.func184 rfl (by kernel_rfl) (by kernel_rfl) fun w0 hlens => ?_
  clear hlens
  rcases idx_facts (l := bl s) (c := c) with ⟨e1, _⟩ | ⟨j, e1, e2, _, _⟩
  · have hT : cutT s c = (s, ⟨#[]⟩, false) := by unfold cutT; rw [e1, if_pos (by omega)]
    rw [e1] at hi
    simp [Tryz.f184, List.range, List.range.loop, ints, intss, int, bool, row, frac, fracs, ← List.map_take, ← List.map_drop, str, hi, hT, cutAV]
  · rw [bl_size] at e2
    have hT : cutT s c = (s.extract 0 j, s.extract (j + 1) s.size, true) := by unfold cutT; rw [e1, if_neg (by omega), Int.toNat_natCast]
    rw [e1] at hi
    have hj0 : ¬ ((j : Int) < 0) := by omega
    have v1 : IntKind.i64.wrap (j : Int) = j := wrapI (by omega) (by omega)
    have v2 : IntKind.i64.wrap ((j : Int) + 1) = (j : Int) + 1 := wrapI (by omega) (by omega)
    have hjr : j ≤ s.size := by omega
    have hjr1 : j + 1 ≤ s.size := by omega
    simp [Tryz.f184, List.range, List.range.loop, ints, intss, int, bool, row, frac, fracs, ← List.map_take, ← List.map_drop, str, hi, hT, cutAV, hj0, c1, v1, v2, hjr, hjr1]
theorem scut_ok : FnOk Tryz.prog 118 mScut := by
  refine mk_ok fun ⟨s, c⟩ hs => ?_
  have hi := mScut_at s c hs
  have hG : FnsOk Tryz.prog [(184, mScut)] := (.cons scut2_ok .nil)
  refine callOk_awp (ctx_ok eqOk hG) mixed (live := [true, true, false, false, true, true, true]) (dt := []) Tryz.func118 rfl (by kernel_rfl) (by kernel_rfl) fun w0 hlens => ?_
  clear hlens
  simp only [cutAV] at hi ⊢
  simp [Tryz.f118, List.range, List.range.loop, ints, intss, int, bool, row, frac, fracs, ← List.map_take, ← List.map_drop, str, hi]
def pfxB (s : ByteArray) (c : UInt8) : Bool := decide (1 ≤ s.size) && decide (s.extract 0 1 = ⟨#[c]⟩)
theorem pfx_not {s : ByteArray} {c : UInt8} (h : c ∉ bl s) : pfxB s c = false := by
  unfold pfxB
  by_cases h1 : 1 ≤ s.size
  · have : ¬ s.extract 0 1 = ⟨#[c]⟩ := fun e => by
      have e2 : bl (s.extract 0 1) = [c] := by rw [e, bl_one]
      rw [bl_ex, List.drop_zero] at e2
      exact h (List.mem_of_mem_take (by rw [e2]; simp))
    simp [this]
  · simp [h1]
noncomputable def mPfx : List AV → Option AV := mk (fun p => p.1.size ≤ 4611686018427387904) (fun (p : ByteArray × UInt8) => [str p.1, str ⟨#[p.2]⟩]) (fun p => .v (.bool (pfxB p.1 p.2)))
theorem mPfx_at (s : ByteArray) (c : UInt8) (h : s.size ≤ 4611686018427387904) : mPfx [.v (.string s), .v (.string ⟨#[c]⟩)] = some (.v (.bool (pfxB s c))) :=
  mk_eq (enc := fun (p : ByteArray × UInt8) => [str p.1, str ⟨#[p.2]⟩]) (x := (s, c)) (by
    rintro ⟨a, b⟩ ⟨a', b'⟩ h
    simp [str] at h
    rw [h.1, h.2]) h
set_option maxHeartbeats 1000000 in
theorem hasPrefix_ok : FnOk Tryz.prog 239 mPfx := by
  refine mk_ok fun ⟨s, c⟩ hs => ?_
  simp only at hs
  have c1 : (⟨#[c]⟩ : ByteArray).size = 1 := rfl
  have hG : FnsOk Tryz.prog [] := .nil
  refine callOk_awp (ctx_ok eqOk hG) mixed (live := [true, true, false, false, true]) (dt := []) Tryz.func239 rfl (by kernel_rfl) (by kernel_rfl) fun w0 hlens => ?_
  clear hlens
  by_cases h1 : 1 ≤ s.size
  · have h1i : ¬ (s.size : Int) < 1 := by omega
    have h1j : (1 : Int) ≤ (s.size : Int) := by omega
    have htl : ((s.extract 0 1).toList == [c]) = decide (s.extract 0 1 = ⟨#[c]⟩) := by
      rw [ByteArray.toList_eq]
      by_cases he : s.extract 0 1 = ⟨#[c]⟩
      · simp [he]
      · have : ¬ (s.extract 0 1).data.toList = [c] := fun e => he (bl_inj (by rw [bl_one]; exact e))
        rw [decide_eq_false he]
        exact beq_eq_false_iff_ne.2 this
    simp [Tryz.f239, List.range, List.range.loop, ints, intss, int, bool, row, frac, fracs, ← List.map_take, ← List.map_drop, str, c1, h1, h1i, h1j, pfxB, htl]
  · have h1i : (s.size : Int) < 1 := by omega
    have h1j : ¬ (1 : Int) ≤ (s.size : Int) := by omega
    simp [Tryz.f239, List.range, List.range.loop, ints, intss, int, bool, row, frac, fracs, ← List.map_take, ← List.map_drop, str, c1, h1, h1i, h1j, pfxB]
def cpxAV (s : ByteArray) (c : UInt8) : AV := if pfxB s c = true then .tup [.v (.string (s.extract 1 s.size)), .v (.bool true)] else .tup [.v (.string s), .v (.bool false)]
noncomputable def mCpx : List AV → Option AV := mk (fun p => p.1.size ≤ 4611686018427387904) (fun (p : ByteArray × UInt8) => [str p.1, str ⟨#[p.2]⟩]) (fun p => cpxAV p.1 p.2)
theorem mCpx_at (s : ByteArray) (c : UInt8) (h : s.size ≤ 4611686018427387904) : mCpx [.v (.string s), .v (.string ⟨#[c]⟩)] = some (cpxAV s c) :=
  mk_eq (enc := fun (p : ByteArray × UInt8) => [str p.1, str ⟨#[p.2]⟩]) (x := (s, c)) (by
    rintro ⟨a, b⟩ ⟨a', b'⟩ h
    simp [str] at h
    rw [h.1, h.2]) h
set_option maxHeartbeats 1000000 in
theorem cutPrefix2_ok : FnOk Tryz.prog 186 mCpx := by
  refine mk_ok fun ⟨s, c⟩ hs => ?_
  simp only at hs
  have hi := mPfx_at s c hs
  have c1 : (⟨#[c]⟩ : ByteArray).size = 1 := rfl
  have hG : FnsOk Tryz.prog [(239, mPfx)] := (.cons hasPrefix_ok .nil)
  refine callOk_awp (ctx_ok eqOk hG) mixed (live := [true, true, false, false, true, true, false, false, false, true]) (dt := []) Tryz.func186 rfl (by kernel_rfl) (by kernel_rfl) fun w0 hlens => ?_
  clear hlens
  cases h : pfxB s c with
  | false =>
    rw [h] at hi
    simp [Tryz.f186, List.range, List.range.loop, ints, intss, int, bool, row, frac, fracs, ← List.map_take, ← List.map_drop, str, hi, cpxAV, h]
  | true =>
    rw [h] at hi
    have h1 : 1 ≤ s.size := by simp [pfxB] at h; exact h.1
    simp [Tryz.f186, List.range, List.range.loop, ints, intss, int, bool, row, frac, fracs, ← List.map_take, ← List.map_drop, str, hi, cpxAV, h, c1, h1]
theorem cutPrefix_ok : FnOk Tryz.prog 120 mCpx := by
  refine mk_ok fun ⟨s, c⟩ hs => ?_
  have hi := mCpx_at s c hs
  have hG : FnsOk Tryz.prog [(186, mCpx)] := (.cons cutPrefix2_ok .nil)
  refine callOk_awp (ctx_ok eqOk hG) mixed (live := [true, true, false, false, true, true]) (dt := []) Tryz.func120 rfl (by kernel_rfl) (by kernel_rfl) fun w0 hlens => ?_
  clear hlens
  unfold cpxAV at hi ⊢
  cases h : pfxB s c with
  | false =>
    rw [h] at hi
    simp at hi
    simp [Tryz.f120, List.range, List.range.loop, ints, intss, int, bool, row, frac, fracs, ← List.map_take, ← List.map_drop, str, hi]
  | true =>
    rw [h] at hi
    simp at hi
    simp [Tryz.f120, List.range, List.range.loop, ints, intss, int, bool, row, frac, fracs, ← List.map_take, ← List.map_drop, str, hi]
end Go.Proofs.YtkfmhpgnhkdebaaGreatDoor.Ax
namespace Go.Proofs.YtkfmhpgnhkdebaaGreatDoor.Ax
open Go Go.RowKit
set_option linter.unusedSimpArgs false
theorem vt_of {s : Int} {v : Vt} (h : vtB s v = true) : rankB v.1.2.length v.1.2 = true ∧ inI v.2 ∧ (v.1.2.length : Int) = s := by
  simp only [vtB, Bool.and_eq_true, inR_iff] at h
  obtain ⟨h1, h2⟩ := h
  have hl := (rank_facts h1).2.2.1
  exact ⟨by rw [hl]; exact h1, inI_small (by omega), hl⟩
theorem vt_bytes {s : Int} {v : Vt} (h : vtB s v = true) : (32 : UInt8) ∉ bl (vtS v) ∧ (42 : UInt8) ∉ bl (itoaS v.2) ∧ (45 : UInt8) ∉ bl (vtS v) := by
  obtain ⟨hr, _, _⟩ := vt_of h
  simp only [vtB, Bool.and_eq_true, inR_iff] at h
  have hp := itoa_pos (n := v.2) (by omega)
  have hf := frk_bytes hr
  have hb : bl (vtS v) = bl (itoaS v.2) ++ [42] ++ bl (frkS v.1.2) := by
    unfold vtS
    rw [bl_app, bl_app, bl_one, frk_T hr]
  have key : ∀ c : UInt8, c.toNat < 42 ∨ c.toNat = 45 → c ∉ bl (vtS v) := fun c hc hm => by
    rw [hb] at hm
    simp only [List.mem_append, List.mem_singleton] at hm
    rcases hm with (hm | hm) | hm
    · have := hp c hm; omega
    · subst hm; have : (42 : UInt8).toNat = 42 := rfl; omega
    · have := hf c hm; omega
  exact ⟨key 32 (.inl (by decide)), itoa_no (by decide) (by decide), key 45 (.inr (by decide))⟩
theorem vt_cut {s : Int} {v : Vt} (h : vtB s v = true) : cutT (vtS v) 42 = (itoaS v.2, frkS v.1.2, true) := by
  obtain ⟨hr, _, _⟩ := vt_of h
  have := cutT_app (b := frkT v.1.2) (vt_bytes h).2.1
  rw [frk_T hr] at this
  unfold vtS
  rw [frk_T hr]
  exact this
theorem fpr_split {s : Int} {vs : List Vt} (h : profB s vs = true) (hne : vs ≠ []) : splitS (fprS vs) 32 = vs.map vtS := by
  obtain ⟨_, _, hall⟩ := prof_facts h
  unfold fprS
  refine split_join (by simpa using hne) fun w hw => ?_
  obtain ⟨v, hv, rfl⟩ := List.mem_map.1 hw
  exact (vt_bytes (s := s) (by have := hall v hv; simp [vtB, inR]; exact this)).1
theorem fpr_size {s : Int} {vs : List Vt} (h : profB s vs = true) : (fprS vs).size ≤ 1000 := by
  obtain ⟨_, h24, hall⟩ := prof_facts h
  have hl := join_len (c := 26) (sep := bl ⟨#[32]⟩) (ws := (vs.map vtS).map bl) (by
    intro w hw
    simp only [List.map_map, List.mem_map, Function.comp_apply] at hw
    obtain ⟨v, hv, rfl⟩ := hw
    rw [bl_size]
    have := hall v hv
    exact (vtS_size (s := s) (by simp [vtB, inR]; exact this)).2.2)
  have e1 : (bl ⟨#[32]⟩).length = 1 := rfl
  rw [List.length_map, List.length_map, e1] at hl
  unfold fprS
  rw [joinS_size]
  have : vs.length * (26 + 1) ≤ 24 * (26 + 1) := Nat.mul_le_mul_right _ h24
  omega
theorem join_mem {c : UInt8} {sep : ByteArray} : ∀ {ws : List ByteArray}, c ∉ bl sep → (∀ w ∈ ws, c ∉ bl w) → c ∉ bl (joinS ws sep)
  | [], _, _ => by unfold joinS; rw [bl_mk]; simp [Lib.join]
  | [w], _, h => by rw [joinS_one]; exact h w (by simp)
  | w :: x :: ws, hs, h => by
    rw [joinS_cons, bl_app, bl_app]
    have h1 := h w (by simp)
    have h2 := join_mem (ws := x :: ws) hs fun y hy => h y (by simp [hy])
    simp only [List.mem_append, not_or]
    exact ⟨⟨h1, hs⟩, h2⟩
theorem fpr_dash {s : Int} {vs : List Vt} (h : profB s vs = true) : pfxB (fprS vs) 45 = false := by
  obtain ⟨_, _, hall⟩ := prof_facts h
  refine pfx_not (join_mem (by decide) fun w hw => ?_)
  obtain ⟨v, hv, rfl⟩ := List.mem_map.1 hw
  exact (vt_bytes (s := s) (by have := hall v hv; simp [vtB, inR]; exact this)).2.2
end Go.Proofs.YtkfmhpgnhkdebaaGreatDoor.Ax
