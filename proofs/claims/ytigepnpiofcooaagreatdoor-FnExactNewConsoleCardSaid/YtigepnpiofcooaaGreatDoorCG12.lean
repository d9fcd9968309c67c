/-
  Contracts: strings.SplitSeq; ParseInt (the program's). No condition.
-/
import Derived.Test.YtigepnpiofcooaaGreatDoorCG11
import Derived.Ground.NamesProg
import Derived.Shelf.Strconv.AtoiAll
import Derived.Test.YtigepnpiofcooaaGreatDoorCG10
import Derived.Test.YtigepnpiofcooaaGreatDoorCG8
import Derived.Test.YtigepnpiofcooaaGreatDoorCG6
import Derived.Deep.QuietTactic
import Derived.BigQuiet
namespace Go.Proofs
open Go.Shelf
def Tryz.laysAtoi_ren : Go.Shelf.Ren := ⟨fun | 172 => 36 | 244 => 46 | 245 => 47 | 247 => 59 | 279 => 60 | 280 => 61 | 281 => 62 | 282 => 63 | 287 => 73 | 316 => 74 | 171 => 48 | 205 => 75 | 321 => 83 | 322 => 84 | 243 => 64 | 246 => 76 | 283 => 85 | 284 => 86 | 285 => 87 | 286 => 88 | 129 => 92 | 317 => 91 | 318 => 93 | 319 => 94 | 320 => 95 | 337 => 98 | 338 => 99 | n => n, fun | 9 => 9 | 3 => 3 | 75 => 62 | 76 => 63 | 4 => 4 | 5 => 5 | 167 => 77 | 37 => 68 | 0 => 0 | 85 => 78 | 2 => 2 | 168 => 80 | 53 => 88 | 175 => 89 | 46 => 87 | 210 => 93 | 127 => 109 | 145 => 112 | 143 => 110 | 21 => 21 | 171 => 113 | 173 => 116 | 212 => 119 | 51 => 105 | 20 => 20 | 213 => 120 | 232 => 127 | 233 => 128 | 80 => 100 | n => n, fun | 15 => 1 | 16 => 2 | 17 => 5 | 18 => 6 | 19 => 7 | n => n⟩
theorem Tryz.laysAtoi : Go.Proofs.LaysC.n172 Tryz.prog Tryz.laysAtoi_ren := {
  mixed := by kernel_rfl
  f129 := Tryz.func92.trans (congrArg some (by kernel_rfl))
  f171 := Tryz.func48.trans (congrArg some (by kernel_rfl))
  f172 := Tryz.func36.trans (congrArg some (by kernel_rfl))
  f205 := Tryz.func75.trans (congrArg some (by kernel_rfl))
  f243 := Tryz.func64.trans (congrArg some (by kernel_rfl))
  f244 := Tryz.func46.trans (congrArg some (by kernel_rfl))
  f245 := Tryz.func47.trans (congrArg some (by kernel_rfl))
  f246 := Tryz.func76.trans (congrArg some (by kernel_rfl))
  f247 := Tryz.func59.trans (congrArg some (by kernel_rfl))
  f279 := Tryz.func60.trans (congrArg some (by kernel_rfl))
  f280 := Tryz.func61.trans (congrArg some (by kernel_rfl))
  f281 := Tryz.func62.trans (congrArg some (by kernel_rfl))
  f282 := Tryz.func63.trans (congrArg some (by kernel_rfl))
  f283 := Tryz.func85.trans (congrArg some (by kernel_rfl))
  f284 := Tryz.func86.trans (congrArg some (by kernel_rfl))
  f285 := Tryz.func87.trans (congrArg some (by kernel_rfl))
  f286 := Tryz.func88.trans (congrArg some (by kernel_rfl))
  f287 := Tryz.func73.trans (congrArg some (by kernel_rfl))
  f316 := Tryz.func74.trans (congrArg some (by kernel_rfl))
  f317 := Tryz.func91.trans (congrArg some (by kernel_rfl))
  f318 := Tryz.func93.trans (congrArg some (by kernel_rfl))
  f319 := Tryz.func94.trans (congrArg some (by kernel_rfl))
  f320 := Tryz.func95.trans (congrArg some (by kernel_rfl))
  f321 := Tryz.func83.trans (congrArg some (by kernel_rfl))
  f322 := Tryz.func84.trans (congrArg some (by kernel_rfl))
  f337 := Tryz.func98.trans (congrArg some (by kernel_rfl))
  f338 := Tryz.func99.trans (congrArg some (by kernel_rfl))
  t0 := Tryz.underlying0
  a0 := Tryz.isAgg0
  z0 := Tryz.sizeOf0
  v0 := Tryz.zeroValue0
  t2 := Tryz.underlying2
  a2 := Tryz.isAgg2
  z2 := Tryz.sizeOf2
  v2 := Tryz.zeroValue2
  t3 := Tryz.underlying3
  a3 := Tryz.isAgg3
  z3 := Tryz.sizeOf3
  v3 := Tryz.zeroValue3
  t4 := Tryz.underlying4
  a4 := Tryz.isAgg4
  z4 := Tryz.sizeOf4
  v4 := Tryz.zeroValue4
  t5 := Tryz.underlying5
  a5 := Tryz.isAgg5
  z5 := Tryz.sizeOf5
  v5 := Tryz.zeroValue5
  t9 := Tryz.underlying9
  a9 := Tryz.isAgg9
  z9 := Tryz.sizeOf9
  v9 := Tryz.zeroValue9
  t20 := Tryz.underlying20
  a20 := Tryz.isAgg20
  z20 := Tryz.sizeOf20
  v20 := Tryz.zeroValue20
  t21 := Tryz.underlying21
  a21 := Tryz.isAgg21
  z21 := Tryz.sizeOf21
  v21 := Tryz.zeroValue21
  t37 := Tryz.underlying68
  a37 := Tryz.isAgg68
  z37 := Tryz.sizeOf68
  v37 := Tryz.zeroValue68
  t46 := Tryz.underlying87
  a46 := Tryz.isAgg87
  z46 := Tryz.sizeOf87
  v46 := Tryz.zeroValue87
  t51 := Tryz.underlying105
  a51 := Tryz.isAgg105
  z51 := Tryz.sizeOf105
  v51 := Tryz.zeroValue105
  t53 := Tryz.underlying88
  a53 := Tryz.isAgg88
  z53 := Tryz.sizeOf88
  v53 := Tryz.zeroValue88
  t75 := Tryz.underlying62
  a75 := Tryz.isAgg62
  z75 := Tryz.sizeOf62
  v75 := Tryz.zeroValue62
  t76 := Tryz.underlying63
  a76 := Tryz.isAgg63
  z76 := Tryz.sizeOf63
  v76 := Tryz.zeroValue63
  t85 := Tryz.underlying78
  a85 := Tryz.isAgg78
  z85 := Tryz.sizeOf78
  v85 := Tryz.zeroValue78
  t127 := Tryz.underlying109
  a127 := Tryz.isAgg109
  z127 := Tryz.sizeOf109
  v127 := Tryz.zeroValue109
  t143 := Tryz.underlying110
  a143 := Tryz.isAgg110
  z143 := Tryz.sizeOf110
  v143 := Tryz.zeroValue110
  t145 := Tryz.underlying112
  a145 := Tryz.isAgg112
  z145 := Tryz.sizeOf112
  v145 := Tryz.zeroValue112
  t167 := Tryz.underlying77
  a167 := Tryz.isAgg77
  z167 := Tryz.sizeOf77
  v167 := Tryz.zeroValue77
  t168 := Tryz.underlying80
  a168 := Tryz.isAgg80
  z168 := Tryz.sizeOf80
  v168 := Tryz.zeroValue80
  t171 := Tryz.underlying113
  a171 := Tryz.isAgg113
  z171 := Tryz.sizeOf113
  v171 := Tryz.zeroValue113
  t173 := Tryz.underlying116
  a173 := Tryz.isAgg116
  z173 := Tryz.sizeOf116
  v173 := Tryz.zeroValue116
  t175 := Tryz.underlying89
  a175 := Tryz.isAgg89
  z175 := Tryz.sizeOf89
  v175 := Tryz.zeroValue89
  t210 := Tryz.underlying93
  a210 := Tryz.isAgg93
  z210 := Tryz.sizeOf93
  v210 := Tryz.zeroValue93
  t212 := Tryz.underlying119
  a212 := Tryz.isAgg119
  z212 := Tryz.sizeOf119
  v212 := Tryz.zeroValue119
  t213 := Tryz.underlying120
  a213 := Tryz.isAgg120
  z213 := Tryz.sizeOf120
  t232 := Tryz.underlying127
  a232 := Tryz.isAgg127
  z232 := Tryz.sizeOf127
  v232 := Tryz.zeroValue127
  t233 := Tryz.underlying128
  a233 := Tryz.isAgg128
  z233 := Tryz.sizeOf128
  v233 := Tryz.zeroValue128
  g15 := by kernel_rfl
  g16 := by kernel_rfl
  g17 := by kernel_rfl
  g18 := by kernel_rfl
  g19 := by kernel_rfl
  t80 := Tryz.underlying100
  a80 := Tryz.isAgg100
  z80 := Tryz.sizeOf100
  v80 := Tryz.zeroValue100
  i0 := by kernel_rfl
  i2 := by kernel_rfl
  i3 := by kernel_rfl
  i4 := by kernel_rfl
  i5 := by kernel_rfl
  i9 := by kernel_rfl
  i20 := by kernel_rfl
  i21 := by kernel_rfl
  i37 := by kernel_rfl
  i46 := by kernel_rfl
  i51 := by kernel_rfl
  i53 := by kernel_rfl
  i75 := by kernel_rfl
  i76 := by kernel_rfl
  i80 := by kernel_rfl
  i85 := by kernel_rfl
  i127 := by kernel_rfl
  i143 := by kernel_rfl
  i145 := by kernel_rfl
  i167 := by kernel_rfl
  i168 := by kernel_rfl
  i171 := by kernel_rfl
  i173 := by kernel_rfl
  i175 := by kernel_rfl
  i210 := by kernel_rfl
  i212 := by kernel_rfl
  i232 := by kernel_rfl
  i233 := by kernel_rfl
  m15 := by kernel_rfl
  m16 := by kernel_rfl
  m17 := by kernel_rfl
  m18 := by kernel_rfl
  m19 := by kernel_rfl
  c0 := by kernel_rfl
  c2 := by kernel_rfl
  c3 := by kernel_rfl
  c4 := by kernel_rfl
  c5 := by kernel_rfl
  c9 := by kernel_rfl
  c20 := by kernel_rfl
  c21 := by kernel_rfl
  c37 := by kernel_rfl
  c46 := by kernel_rfl
  c51 := by kernel_rfl
  c53 := by kernel_rfl
  c75 := by kernel_rfl
  c76 := by kernel_rfl
  c80 := by kernel_rfl
  c85 := by kernel_rfl
  c127 := by kernel_rfl
  c143 := by kernel_rfl
  c145 := by kernel_rfl
  c167 := by kernel_rfl
  c168 := by kernel_rfl
  c171 := by kernel_rfl
  c173 := by kernel_rfl
  c175 := by kernel_rfl
  c210 := by kernel_rfl
  c212 := by kernel_rfl
  c213 := by kernel_rfl
  c232 := by kernel_rfl
  c233 := by kernel_rfl }
end Go.Proofs
namespace Go.Proofs.YtigepnpiofcooaaGreatDoor.Ax
open Go Go.RowKit
set_option linter.unusedSimpArgs false
set_option maxHeartbeats 1000000 in
theorem splitSeqP_ok {s : ByteArray} {c : UInt8} (hsz : s.size ≤ 4611686018427387904) : SeqOk Tryz.prog 22 [str s, str ⟨#[c]⟩] ((splitS s c).map str) := by
  refine ⟨⟨_, Tryz.func22, by kernel_rfl, by kernel_rfl⟩, fun w F vals hF hv => ?_⟩
  simp only [RepL, Rep, str] at hv
  obtain ⟨v1, r1, e1, ⟨rfl, _⟩, v2, r2, rfl, ⟨rfl, _⟩, rfl⟩ := hv
  have hvals : vals = #[.string s, .string ⟨#[c]⟩] := by apply Array.ext'; rw [e1]
  subst hvals
  have h := (splitSeq_ok (c := c) hsz).2 w F #[.string s, .string ⟨#[c]⟩, .int .i64 0] hF (by simp [RepL, Rep, str, int, Value.oneCell'])
  go_enter Tryz.func22, Tryz.ntmps22
  go_wp2_with (go_at_call 40; refine h.mono ?_; rintro e W1 ⟨gf, cv, Bi, rfl, h1, h2, h3⟩)
  go_ret
  exact ⟨gf, cv, Bi, rfl, h1, h2, h3⟩
theorem err_of {n : String} {F : Nat → Prop} {w : World} {g : Nat} (h : ErrG n F w) (hg : Tryz.prog.globalNamed n = some g) : ∃ u v, w.cell? ⟨g, 0, none⟩ = some (.iface u v) := by
  obtain ⟨_, u, v, x, y, h2⟩ := h g hg
  exact ⟨u, v, by simp [World.cell?, h2]⟩
theorem own_ib {w : World} {n : Int} {b : Bool} : Own w true (fun _ => False) (fun _ => False) (.tup [.v (.int .i64 n), .v (.bool b)]) (.tuple #[.int .i64 n, .bool b]) := by
  simp [Own, OwnL, Value.oneCell']
  exact ⟨_, _, ⟨rfl, rfl⟩, fun _ => False, fun _ h => h, fun _ => False, fun _ h => h, fun _ h => h.elim, rfl, _, _, rfl, fun _ => False, fun _ h => h, fun _ => False, fun _ h => h, fun _ h => h.elim, rfl, rfl⟩
theorem frm_below {w w' : World} (h : Below w.heap.size w w') : Frm (fun _ => False) w w' := ⟨h.os, h.tape, h.output, h.size, fun k hk _ => h.block k hk⟩
set_option maxHeartbeats 2000000 in
theorem implPI_ok : FnOk Tryz.prog 20 mPI := by
  refine mk_ok fun s hs => ?_
  refine ⟨⟨_, Tryz.func20, by kernel_rfl, by kernel_rfl⟩, fun w F vals hF hv => ?_⟩
  simp only [RepL, Rep, str] at hv
  obtain ⟨v1, r1, e1, ⟨rfl, _⟩, rfl⟩ := hv
  have hvals : vals = #[.string s] := by apply Array.ext'; rw [e1]
  subst hvals
  rcases pI_atoi (s := s) with ⟨v, h1, h2, h3⟩ | ⟨h1, h3⟩
  · have hA := Any.strconv_Atoi_ok Tryz.laysAtoi s (by omega) v h1 w
    go_enter Tryz.func20, Tryz.ntmps20
    go_wp2_with (go_at_call 36; refine hA.mono ?_; rintro e W1 ⟨rfl, hW⟩)
    have hb1 : Below w.heap.size w W1 := by
      rcases hW with rfl | ⟨t, rfl⟩
      · exact Below.refl _ _
      · exact Lib.bytesWorld_below _ _ _
    have hfr := frm_below hb1
    have hF1 : Fit F W1 := ⟨fun b hb => Nat.lt_of_lt_of_le (hF.lt b hb) hfr.size, hF.gl.agree fun b hb => (hfr.block b (hF.lt b hb) id)⟩
    have hI := (implFormatInt_ok _ _ (mItoa_at v h2)).2 W1 F #[.int .i64 v] hF1 (by simp [RepL, Rep, Value.oneCell'])
    go_wp2_with (go_at_call 37; refine hI.mono ?_; rintro e W2 ⟨y, S, rfl, hf2, hS, ho⟩; simp only [Own] at ho; obtain ⟨rfl, _⟩ := ho)
    · rename_i hc
      go_ret2
      have hne : ¬ itoaS v = s := fun h => by subst h; simp at hc
      rw [h3, if_neg hne]
      exact ⟨_, fun _ => False, rfl, hfr.comp hf2 (fun _ _ h => h) (fun _ _ h => h), fun _ h => h.elim, own_ib⟩
    · rename_i hc
      go_ret2
      have he : itoaS v = s := by
        have : (itoaS v).toList = s.toList := by simpa using hc
        exact Decidable.byContradiction fun h => tl_ne h this
      rw [h3, if_pos he]
      exact ⟨_, fun _ => False, rfl, hfr.comp hf2 (fun _ _ h => h) (fun _ _ h => h), fun _ h => h.elim, own_ib⟩
  · have hlim : s.size ≤ 281474976710656 := hs
    rw [h3]
    obtain ⟨u1, p1, c1⟩ := err_of hF.gl.2.1 (g := Tryz.laysAtoi_ren.g 15) (by kernel_rfl)
    obtain ⟨u2, p2, c2⟩ := err_of hF.gl.2.2 (g := Tryz.laysAtoi_ren.g 16) (by kernel_rfl)
    rcases h1 with h1 | h1
    · have hA := Any.strconv_Atoi_syntax Tryz.laysAtoi s hlim h1 _ w c1 (.inr ⟨u1, p1, rfl⟩)
      go_enter Tryz.func20, Tryz.ntmps20
      go_wp2_with (go_at_call 36; refine hA.mono ?_; rintro e W1 ⟨N, rfl, hN, hW, hb⟩)
      go_ret2
      exact ⟨_, fun _ => False, rfl, frm_below hb, fun _ h => h.elim, own_ib⟩
    · have hA := Any.strconv_Atoi_range Tryz.laysAtoi s hlim h1 _ w c2 (.inr ⟨u2, p2, rfl⟩)
      go_enter Tryz.func20, Tryz.ntmps20
      go_wp2_with (go_at_call 36; refine hA.mono ?_; rintro e W1 ⟨N, rfl, hN, hW, hb⟩)
      go_ret2
      exact ⟨_, fun _ => False, rfl, frm_below hb, fun _ h => h.elim, own_ib⟩
end Go.Proofs.YtigepnpiofcooaaGreatDoor.Ax
namespace Go.Proofs.YtigepnpiofcooaaGreatDoor.Ax
open Go Go.RowKit
set_option linter.unusedSimpArgs false
theorem deep3 {a b c : AV} (t : Nat) (tk : Tok) (h : ([⟨true, a⟩, ⟨true, b⟩, ⟨true, c⟩] : List Tok)[t]? = some tk) : tk.row = .junk ∨ tk.deep = true := by
  match t with
  | 0 => simp at h; subst h; exact .inr rfl
  | 1 => simp at h; subst h; exact .inr rfl
  | 2 => simp at h; subst h; exact .inr rfl
  | t + 3 => simp at h
end Go.Proofs.YtigepnpiofcooaaGreatDoor.Ax
namespace Go.Proofs.YtigepnpiofcooaaGreatDoor.Ax
open Go Go.RowKit
set_option linter.unusedSimpArgs false
noncomputable def mFmd : List AV → Option (List Nat × AV) := mkV (fun p => profB p.1 p.2 = true) (fun (p : Int × List Vt) => [prof p.1 false p.2, str (fprT p.1 p.2)]) [0] (fun p => .tup [prof p.1 false p.2, .v (.bool true)])
theorem mFmd_at (s : Int) (vs : List Vt) (h : profB s vs = true) : mFmd [.agg [.v (.int .i64 s), .sl false 2 (vs.map vote)], .v (.string (fprT s vs))] = some ([0], .tup [.agg [.v (.int .i64 s), .sl false 2 (vs.map vote)], .v (.bool true)]) :=
  mkV_eq (enc := fun (p : Int × List Vt) => [prof p.1 false p.2, str (fprT p.1 p.2)]) (f := fun p => .tup [prof p.1 false p.2, .v (.bool true)]) (x := (s, vs)) (by
    rintro ⟨a, b⟩ ⟨a', b'⟩ h
    simp [prof, int, map_vote_inj] at h
    simp [h]) h
set_option maxHeartbeats 1000000 in
theorem fmd_ok : FnMov Tryz.prog 21 mFmd := by
  refine mkV_ok fun ⟨s, vs⟩ h => ?_
  simp only at h
  have hpp := mProf_at s false vs
  have hfp := mFpr_at s false vs
  rw [h] at hpp
  have hV : FnsMov Tryz.prog [] := .nil
  have hM : FnsMut Tryz.prog [] := .nil
  have hG : FnsOk Tryz.prog [(38, mProf), (39, mFpr)] := (.cons implProf_ok (.cons implFpr_ok .nil))
  refine movOk_awp (ctxV_ok eqOk hG hM hV) mixed (live := [true, true, true, false, true, true, false, false, false, false, false, false, false, false, true]) (dt := []) (mv := [0]) Tryz.func21 rfl (by kernel_rfl) (by kernel_rfl) fun US w0 hlens => ?_
  simp only [List.map, List.getD_cons_zero, List.getD_cons_succ, internL, intern, setSl, List.set, List.length_nil, List.nil_append, List.length_map]
  clear hlens
  simp [Tryz.f21, List.range, List.range.loop, ints, intss, int, bool, row, frac, fracs, ← List.map_take, ← List.map_drop, List.all, prof, str, hpp, hfp]
  done
def ppR (s : Int) (vs : List Vt) : AV := match vs with
  | [] => .agg [.v (.int .i64 0), .sl true 1 []]
  | v :: l => .agg [.v (.int .i64 s), .sl false 2 ((v :: l).map vote)]
theorem ppR_nil {s : Int} : ppR s [] = .agg [.v (.int .i64 0), .sl true 1 []] := rfl
theorem ppR_ne {s : Int} {vs : List Vt} (h : vs ≠ []) : ppR s vs = .agg [.v (.int .i64 s), .sl false 2 (vs.map vote)] := by cases vs with | nil => exact (h rfl).elim | cons _ _ => rfl
set_option maxHeartbeats 4000000 in
theorem implPpr (s : Int) (vs : List Vt) (h : profB s vs = true) (hne : vs ≠ []) (hfl : ∀ v ∈ vs, v.1.1 = false) : CallOk Tryz.prog 10 [str (fprS vs)] (.tup [prof s false vs, .v (.bool true)]) := by
  obtain ⟨_, h24, hall⟩ := prof_facts h
  have hT : fprT s vs = fprS vs := by unfold fprT; rw [if_pos h, if_neg hne]
  have hsz := fpr_size h
  have hdash := fpr_dash h
  have hsp := fpr_split h hne
  have hcp := mCpx_at (fprS vs) 45 (by omega)
  unfold cpxAV at hcp
  rw [hdash] at hcp
  simp at hcp
  have hmv := mFmd_at s vs h
  rw [hT] at hmv
  have hseq := splitSeqP_ok (s := fprS vs) (c := 32) (by omega)
  rw [hsp] at hseq
  generalize fprS vs = t at *
  have hG : FnsOk Tryz.prog [(19, mCpx), (20, mPI), (23, mScut), (24, mPrk)] := (.cons cutPrefix_ok (.cons implPI_ok (.cons scut_ok (.cons implPrk_ok .nil))))
  have hM : FnsMut Tryz.prog [] := .nil
  have hV : FnsMov Tryz.prog [(21, mFmd)] := (.cons fmd_ok .nil)
  refine callOk_of_tr (C := _) (ctxV_ok eqOk hG hM hV) (dt := []) Tryz.func10 rfl (by kernel_rfl) (by kernel_rfl) fun w0 => ?_
  refine tr_seq (tr_awp (live := [true, false, true, true, true, true, true, false, true, true, true, true, false, true, false, true, false, false, false, false, false, false, true, false, false, false, false, false, false, false, false, false, false, false, false, true, true, false, false, false, false, false, false, false, false, false, false, false, false, false, false, false, false, false, false, false, true]) (ctxV_ok eqOk hG hM hV) mixed _ _ _ ?_)
  simp [Tryz.f10, List.range, List.range.loop, ints, intss, int, bool, row, frac, fracs, ← List.map_take, ← List.map_drop, List.all, andThen, str]
  refine tr_seq (tr_awp (live := [true, false, true, true, true, true, true, false, true, true, true, true, false, true, false, true, false, false, false, false, false, false, true, false, false, false, false, false, false, false, false, false, false, false, false, true, true, false, false, false, false, false, false, false, false, false, false, false, false, false, false, false, false, false, false, false, true]) (ctxV_ok eqOk hG hM hV) mixed _ _ _ ?_)
  simp [List.range, List.range.loop, ints, intss, int, bool, row, frac, fracs, ← List.map_take, ← List.map_drop, List.all, andThen, str, hcp]
  refine tr_seq (tr_awp (live := [true, false, true, true, true, true, true, false, true, true, true, true, false, true, false, true, false, false, false, false, false, false, true, false, false, false, false, false, false, false, false, false, false, false, false, true, true, false, false, false, false, false, false, false, false, false, false, false, false, false, false, false, false, false, false, false, true]) (ctxV_ok eqOk hG hM hV) mixed _ _ _ ?_)
  simp [List.range, List.range.loop, ints, intss, int, bool, row, frac, fracs, ← List.map_take, ← List.map_drop, List.all, andThen, str]
  refine tr_seq (tr_seqRange (live := [true, false, true, true, true, true, true, false, true, true, true, true, false, true, false, true, false, false, false, false, false, false, true, false, false, false, false, false, false, false, false, false, false, false, false, true, true, false, false, false, false, false, false, false, false, false, false, false, false, false, false, false, false, false, false, false, true]) (lv := [true, false, true, true, false, false, false, false, true]) (S0 := [str t, .junk, .ptr 0 [] 0 0, .ptr 1 [] 0 0, .junk, .junk, .junk, .junk, .ptr 2 [] 0 0, .junk, .junk, .junk, .junk, .junk, .junk, .junk, .junk, .junk, .junk, .junk, .junk, .junk, .junk, .junk, .junk, .junk, .junk, .junk, .junk, .junk, .junk, .junk, .junk, .junk, .junk, .junk, .junk, .junk, .junk, .junk, .junk, .junk, .junk, .junk, .junk, .junk, .junk, .junk, .junk, .junk, .junk, .junk, .junk, .junk, .junk, .junk, .junk, .junk, .junk, .junk, .junk, .junk, .junk, .junk, .junk, .junk, .junk, .junk, .junk, .junk, .junk, .junk, .junk, .junk])
    (I := fun k => [⟨true, .sl false 2 [.agg [.v (.int .i64 0), .sl true 1 []]]⟩, ⟨true, .sl false 1 [bool false]⟩, ⟨true, .sl false 2 [ppR s (vs.take k)]⟩]) [0, 2, 3, 8]
    (ctxV_ok eqOk hG hM hV) mixed rfl rfl rfl (pre := [_]) rfl rfl rfl rfl (by simp [List.range, List.range.loop, ints, intss, int, bool, row, frac, fracs, ← List.map_take, ← List.map_drop]; rfl) rfl (by simp [List.range, List.range.loop, ints, intss, int, bool, row, frac, fracs, ← List.map_take, ← List.map_drop, str]) hseq ?_ rfl (by simp) (by simp) (by decide) (chkS_all rfl) ?_ ⟨by kernel_rfl, by kernel_rfl⟩ (fun _ => True) trivial ?_ ?_)
  · refine (le_clean [true, false, true, true, false, false, false, false, true]).trans (le_sub ?_)
    simp [sub, slotsLe, clean, keep, refsL, refs, once, place, renL, ren, List.replicate, int, bool, ppR_nil, str]
  · exact fun _ _ => deep3
  · intro k x hx _ pin l US w1
    rw [List.getElem?_map, Option.map_eq_some_iff] at hx
    obtain ⟨r0, hr0, rfl⟩ := hx
    rw [List.getElem?_map, Option.map_eq_some_iff] at hr0
    obtain ⟨v, hv, rfl⟩ := hr0
    obtain ⟨hk, hvk⟩ := List.getElem?_eq_some_iff.1 hv
    have hvt : vtB s v = true := by have := hall v (hvk ▸ List.getElem_mem hk); simp [vtB, inR]; exact this
    obtain ⟨z1, z2, z3⟩ := vtS_size hvt
    obtain ⟨w1', w2', w3'⟩ := vt_of hvt
    have m1 := mScut_at (vtS v) 42 (by omega)
    rw [vt_cut hvt] at m1
    have m2 := mPI_at (itoaS v.2) (by omega)
    rw [pI_of w2'] at m2
    obtain ⟨p1, p2, p3⟩ := prk_frk w1'
    have m3 := mPrk_at (frkS v.1.2) (by omega)
    unfold prkAV at m3
    rw [if_pos p2, p1] at m3
    have hk24 : ¬ ((k : Int) = 24) := by omega
    have hln : (vs.take k).length = k := by simp; omega
    have hst : ppR s (vs.take (k + 1)) = .agg [.v (.int .i64 s), .sl false 2 ((vs.take k).map vote ++ [.agg [.sl false 1 (v.1.2.map int), .v (.int .i64 v.2)]])] := by
      rw [List.take_succ_eq_append_getElem hk, hvk, ppR_ne (by simp), List.map_append]
      simp [vote, hfl v (hvk ▸ List.getElem_mem hk)]
    have hbb : k + 1 ≤ 4611686018427387904 ∧ (k + 1) * 32 ≤ 140737488355328 := by omega
    simp only [cutAV] at m1
    generalize vtS v = u at *
    simp [List.range, List.range.loop, ints, intss, int, bool, row, frac, fracs, ← List.map_take, ← List.map_drop]
    simp only [asgP_normal]
    intro US' w1''
    by_cases hk0 : k = 0
    · subst hk0
      simp at hst
      simp [List.range, List.range.loop, ints, intss, int, bool, row, frac, fracs, ← List.map_take, ← List.map_drop, List.all, str, m1, m2, m3, rngP, andThen, inBlock, ppR_nil, hst, w3']
      done
    · have hz : ppR s (vs.take k) = .agg [.v (.int .i64 s), .sl false 2 ((vs.take k).map vote)] := ppR_ne (by intro e; rw [e] at hln; simp at hln; omega)
      simp [List.range, List.range.loop, ints, intss, int, bool, row, frac, fracs, ← List.map_take, ← List.map_drop, List.all, str, m1, m2, m3, rngP, andThen, inBlock, hz, hst, hln, hk24, hbb, w3']
      done
  · simp only [List.length_map, andThen, List.take_length]
    intro _
    refine tr_awp (live := [true, false, true, true, true, true, true, false, true, true, true, true, false, true, false, true, false, false, false, false, false, false, true, false, false, false, false, false, false, false, false, false, false, false, false, true, true, false, false, false, false, false, false, false, false, false, false, false, false, false, false, false, false, false, false, false, true]) (ctxV_ok eqOk hG hM hV) mixed _ _ _ ?_
    rw [ppR_ne hne]
    simp [List.range, List.range.loop, ints, intss, int, bool, row, frac, fracs, ← List.map_take, ← List.map_drop, List.all, prof, str, hmv]
    done
end Go.Proofs.YtigepnpiofcooaaGreatDoor.Ax
namespace Go.Proofs.YtigepnpiofcooaaGreatDoor.Ax
open Go Go.RowKit
set_option linter.unusedSimpArgs false
def vmS (vs : List Vt) (i : Nat) : Nat := ((vs.take i).map fun v => v.1.2.length + 1).sum
theorem vmS_len : ∀ {vs : List Vt}, vs.length ≤ (vs.map fun v => v.1.2.length + 1).sum
  | [] => Nat.le_refl _
  | v :: vs => by
    have := vmS_len (vs := vs)
    simp only [List.map_cons, List.sum_cons, List.length_cons]; omega
theorem vmS_le {vs : List Vt} : vs.length ≤ vmS vs vs.length := by
  have := vmS_len (vs := vs)
  unfold vmS
  rwa [List.take_length]
theorem vmS_zero {vs : List Vt} : vmS vs 0 = 0 := rfl
theorem vmS_succ {vs : List Vt} {i : Nat} (h : i < vs.length) : vmS vs (i + 1) = vmS vs i + (vs[i].1.2.length + 1) := by
  unfold vmS
  rw [List.take_succ_eq_append_getElem h, List.map_append, List.sum_append]; simp
theorem vmS_mono {vs : List Vt} {i j : Nat} (h : i ≤ j) : vmS vs i ≤ vmS vs j := by
  unfold vmS
  have : vs.take j = vs.take i ++ (vs.take j).drop i := by
    have e : vs.take i = (vs.take j).take i := by rw [List.take_take, Nat.min_eq_left h]
    rw [e, List.take_append_drop]
  rw [this, List.map_append, List.sum_append]; omega
def vmO (k : Int) (vs : List Vt) (j : Nat) : Vt := (((vs.getD j ((true, []), 0)).1.1, mkd (k + vmS vs j) (vs.getD j ((true, []), 0)).1.2.length), k + vmS vs j + (vs.getD j ((true, []), 0)).1.2.length)
def vmT (k : Int) (vs : List Vt) (i : Nat) : List Vt := (List.range vs.length).map fun j => if j < i then vmO k vs j else vs.getD j ((true, []), 0)
def vmA (k : Int) (vs : List Vt) : List Vt := (List.range vs.length).map (vmO k vs)
theorem getDV {vs : List Vt} {i : Nat} (h : i < vs.length) : vs.getD i ((true, []), 0) = vs[i] := by simp [List.getD_eq_getElem?_getD, h]
theorem vmT_len {k : Int} {vs : List Vt} {i : Nat} : (vmT k vs i).length = vs.length := by simp [vmT]
theorem vmA_len {k : Int} {vs : List Vt} : (vmA k vs).length = vs.length := by simp [vmA]
theorem vmT_zero {k : Int} {vs : List Vt} : vmT k vs 0 = vs := by
  apply List.ext_getElem
  · simp [vmT]
  · intro i h1 h2
    simp only [vmT, List.getElem_map, List.getElem_range, Nat.not_lt_zero, if_false, getDV h2]
theorem vmT_all {k : Int} {vs : List Vt} : vmT k vs vs.length = vmA k vs := by
  refine List.map_congr_left fun j hj => ?_
  rw [List.mem_range] at hj
  rw [if_pos hj]
theorem vmT_at {k : Int} {vs : List Vt} {i : Nat} (h : i < vs.length) (h' : i < (vmT k vs i).length) : (vmT k vs i)[i] = vs[i] := by
  simp only [vmT, List.getElem_map, List.getElem_range, Nat.lt_irrefl, if_false, getDV h]
theorem vmA_at {k : Int} {vs : List Vt} {i : Nat} (h : i < vs.length) (h' : i < (vmA k vs).length) : (vmA k vs)[i] = ((vs[i].1.1, mkd (k + vmS vs i) vs[i].1.2.length), k + vmS vs i + vs[i].1.2.length) := by
  simp only [vmA, List.getElem_map, List.getElem_range, vmO, getDV h]
theorem vmT_set {k : Int} {vs : List Vt} {i : Nat} (h : i < vs.length) : ((vmT k vs i).map vote).set i (.agg [.sl vs[i].1.1 1 ((mkd (k + vmS vs i) vs[i].1.2.length).map int), .v (.int .i64 (k + vmS vs i + vs[i].1.2.length))]) = (vmT k vs (i + 1)).map vote := by
  have : (AV.agg [.sl vs[i].1.1 1 ((mkd (k + vmS vs i) vs[i].1.2.length).map int), .v (.int .i64 (k + vmS vs i + vs[i].1.2.length))]) = vote (vmO k vs i) := by simp only [vote, vmO, getDV h]
  rw [this, ← List.map_set]
  congr 1
  apply List.ext_getElem
  · simp [vmT]
  · intro j h1 h2
    rw [List.getElem_set]
    simp only [vmT, List.getElem_map, List.getElem_range]
    by_cases e : i = j
    · subst e; simp
    · rw [if_neg e]
      by_cases h3 : j < i
      · rw [if_pos h3, if_pos (by omega)]
      · rw [if_neg h3, if_neg (by omega)]
noncomputable def mMarkV : List AV → Option (Nat × AV × AV) := mkM (fun (p : Bool × List Vt × Int) => 0 ≤ p.2.2 ∧ p.2.2 + vmS p.2.1 p.2.1.length ≤ 2 ^ 61) (fun p => [vts p.1 p.2.1, int p.2.2]) (fun p => (0, int (p.2.2 + vmS p.2.1 p.2.1.length), vts p.1 (vmA p.2.2 p.2.1)))
theorem mMarkV_at (nl : Bool) (vs : List Vt) (k : Int) (h : 0 ≤ k ∧ k + vmS vs vs.length ≤ 2 ^ 61) : mMarkV [.sl nl 2 (vs.map vote), .v (.int .i64 k)] = some (0, .v (.int .i64 (k + vmS vs vs.length)), .sl nl 2 ((vmA k vs).map vote)) :=
  mkM_eq (enc := fun (p : Bool × List Vt × Int) => [vts p.1 p.2.1, int p.2.2]) (x := (nl, vs, k)) (by rintro ⟨a, b, c⟩ ⟨d, e, f⟩ h; simp [vts, int, map_vote_inj] at h; simp [h]) h
set_option maxHeartbeats 2000000 in
theorem markVoteS_ok : FnMut Tryz.prog 12 mMarkV := by
  refine mkM_ok fun ⟨nl, vs, k⟩ ⟨hk0, hk⟩ => ?_
  simp only at hk0 hk
  have hG : FnsOk Tryz.prog [] := .nil
  have hM : FnsMut Tryz.prog [(26, mMarkI)] := (.cons markIntS_ok .nil)
  refine mutOk_awp (ctxM_ok eqOk hG hM) mixed (live := [true, true, false, false, true, true, false, false, false, true]) (dt := []) (pos := 0) rfl Tryz.func12 rfl (by kernel_rfl) (by kernel_rfl) fun US Uv w0 hlens => ?_
  simp [Tryz.f12, List.range, List.range.loop, ints, intss, int, bool, row, frac, fracs, ← List.map_take, ← List.map_drop, ctxM]
  refine awp_range (live := [true, true, false, false, true, true, false, false, false, true]) (ctxM_ok eqOk hG hM) mixed [true, true, false, false, false, true] (vs.length) (fun i => True) (fun i => ⟨[.ref 0 [] 0 vs.length, int (k + vmS vs i), .junk, .junk, .junk, int i, .junk, .junk, .junk, .junk, .junk, .junk, .junk, .junk, .junk, .junk, .junk, .junk, .junk, .junk, .junk, .junk, .junk, .junk, .junk, .junk, .junk], [⟨true, .sl nl 2 ((vmT k vs i).map vote)⟩]⟩) ?_ (by simp [sub, slotsLe, clean, keep, refsL, refs, once, place, renL, ren, List.replicate, int, bool, vmT_zero, vmS_zero]) ?_ ?_ ?_
  · have := vmS_le (vs := vs); omega
  · trivial
  · intro i h _ hw
    have hs := vmT_set (k := k) h
    have h1 := vmS_succ h
    have h2 := vmS_mono (vs := vs) (show i + 1 ≤ vs.length from h)
    have hz := mMarkI_at vs[i].1.1 vs[i].1.2 (k + vmS vs i) ⟨by omega, by omega⟩
    have hw2 : IntKind.i64.wrap (k + (vmS vs i : Int) + (vs[i].1.2.length : Int) + 1) = k + (vmS vs (i + 1) : Int) := by
      rw [show k + (vmS vs i : Int) + (vs[i].1.2.length : Int) + 1 = k + (vmS vs (i + 1) : Int) by omega]
      exact wrapI (by omega) (by omega)
    simp (config := {contextual := true}) [List.range, List.range.loop, ints, intss, int, bool, row, frac, fracs, ← List.map_take, ← List.map_drop, List.eraseIdx, h, hw, vmT_len, vmT_at, vote, hz, mkd_len, hs, hw2]
    done
  · intro _
    simp (config := {contextual := true}) [List.range, List.range.loop, ints, intss, int, bool, row, frac, fracs, ← List.map_take, ← List.map_drop, List.eraseIdx, vmT_len, vmT_all, vmA_len]
noncomputable def mHeldV : List AV → Option AV := mk (fun (p : Bool × List Vt × Int) => 0 ≤ p.2.2 ∧ p.2.2 + vmS p.2.1 p.2.1.length ≤ 2 ^ 61) (fun p => [vts p.1 (vmA p.2.2 p.2.1), int p.2.2]) (fun p => int (p.2.2 + ((((vmA p.2.2 p.2.1).map fun v => v.1.2.length + 1).sum : Nat) : Int)))
theorem vmA_sum {k : Int} {vs : List Vt} : ((vmA k vs).map fun v => v.1.2.length + 1).sum = vmS vs vs.length := by
  have : ((vmA k vs).map fun v => v.1.2.length + 1) = vs.map fun v => v.1.2.length + 1 := by
    apply List.ext_getElem
    · simp [vmA]
    · intro i h1 h2
      have h3 : i < vs.length := by simpa using h2
      rw [List.getElem_map, List.getElem_map, vmA_at h3]; simp [mkd_len]
  rw [this]; simp [vmS]
theorem mHeldV_at (nl : Bool) (vs : List Vt) (k : Int) (h : 0 ≤ k ∧ k + vmS vs vs.length ≤ 2 ^ 61) : mHeldV [.sl nl 2 ((vmA k vs).map vote), .v (.int .i64 k)] = some (.v (.int .i64 (k + vmS vs vs.length))) := by
  refine (mk_eq (enc := fun p : Bool × List Vt × Int => [vts p.1 (vmA p.2.2 p.2.1), int p.2.2]) (x := (nl, vs, k)) (by
    rintro ⟨a, b, c⟩ ⟨d, e, f⟩ h
    simp [vts, int, map_vote_inj] at h
    obtain ⟨⟨_, h1⟩, rfl⟩ := h
    simp only [h1]) h).trans ?_
  simp only [int, vmA_sum]
set_option maxHeartbeats 2000000 in
theorem heldVoteS_ok : FnOk Tryz.prog 13 mHeldV := by
  refine mk_ok fun ⟨nl, vs, k⟩ ⟨hk0, hk⟩ => ?_
  simp only at hk0 hk
  simp only [vmA_sum]
  have hG : FnsOk Tryz.prog [(27, mHeldI)] := (.cons heldIntS_ok .nil)
  refine callOk_awp (ctx_ok eqOk hG) mixed (live := [true, true, false, false, true, true, false, false, false, true, false, false, false, false, false, false, false, false, false, false, true, false, false, false, false, false, false, true]) (dt := []) Tryz.func13 rfl (by kernel_rfl) (by kernel_rfl) fun w0 hlens => ?_
  clear hlens
  simp [Tryz.f13, List.range, List.range.loop, ints, intss, int, bool, row, frac, fracs, ← List.map_take, ← List.map_drop]
  refine awp_range (live := [true, true, false, false, true, true, false, false, false, true, false, false, false, false, false, false, false, false, false, false, true, false, false, false, false, false, false, true]) (ctx_ok eqOk hG) mixed [true, true, false, false, false, true] (vs.length) (fun i => True) (fun i => ⟨[vts nl (vmA k vs), int (k + vmS vs i), .junk, .junk, .junk, int i, .junk, .junk, .junk, .junk, .junk, .junk, .junk, .junk, .junk, .junk, .junk, .junk, .junk, .junk, .junk, .junk, .junk, .junk, .junk, .junk, .junk, .junk, .junk, .junk, .junk], []⟩) ?_ (by simp [sub, slotsLe, clean, keep, refsL, refs, once, place, renL, ren, List.replicate, int, bool, vts, vmS_zero]) ?_ ?_ ?_
  · have := vmS_le (vs := vs); omega
  · trivial
  · intro i h _ hw
    have h1 := vmS_succ h
    have h2 := vmS_mono (vs := vs) (show i + 1 ≤ vs.length from h)
    have hz := mHeldI_at vs[i].1.1 vs[i].1.2.length (k + vmS vs i) ⟨by omega, by omega⟩
    have hn : ¬ (k + (vmS vs i : Int) + (vs[i].1.2.length : Int) < 0) := by omega
    have hw2 : IntKind.i64.wrap (k + (vmS vs i : Int) + (vs[i].1.2.length : Int) + 1) = k + (vmS vs (i + 1) : Int) := by
      rw [show k + (vmS vs i : Int) + (vs[i].1.2.length : Int) + 1 = k + (vmS vs (i + 1) : Int) by omega]
      exact wrapI (by omega) (by omega)
    simp (config := {contextual := true}) [List.range, List.range.loop, ints, intss, int, bool, row, frac, fracs, ← List.map_take, ← List.map_drop, vts, vote, h, hw, vmA_len, vmA_at, hz, hn, hw2]
    done
  · intro _
    simp (config := {contextual := true}) [List.range, List.range.loop, ints, intss, int, bool, row, frac, fracs, ← List.map_take, ← List.map_drop, vts, vmA_len]
end Go.Proofs.YtigepnpiofcooaaGreatDoor.Ax
namespace Go.Proofs.YtigepnpiofcooaaGreatDoor.Ax
open Go Go.RowKit
set_option linter.unusedSimpArgs false
set_option maxHeartbeats 2000000 in
theorem markProfile_calls (x : Int) (nl : Bool) (vs : List Vt) (k : Int) (hk : 0 ≤ k ∧ k + vmS vs vs.length ≤ 2 ^ 61) (w : World) (F S : Nat → Prop) (h : Value) (hF : Fit F w) (hS : ∀ b, S b → b < w.heap.size ∧ ¬ F b) (hx : Excl w true (fun _ => False) S nl 2 (vs.map vote) h) :
    Calls Tryz.prog 7 #[.agg #[.int .i64 x, h], .int .i64 k] w fun e w' => ∃ S' : Nat → Prop, e = .returned (.int .i64 (k + vmS vs vs.length)) ∧ Frm S w w' ∧ (∀ b, S' b → S b ∨ (w.heap.size ≤ b ∧ b < w'.heap.size)) ∧ Excl w' true (fun _ => False) S' nl 2 ((vmA k vs).map vote) h := by
  obtain ⟨_, nl1, sz1, es1, es1', q1, q2, hcall⟩ := markVoteS_ok _ _ _ _ (mMarkV_at nl vs k hk)
  simp only [List.getElem?_cons_zero, Option.some.injEq, AV.sl.injEq] at q1 q2
  obtain ⟨rfl, rfl, rfl⟩ := q1
  obtain ⟨_, _, rfl⟩ := q2
  obtain ⟨ad, len, cap, rfl, hlen, h2, h3, h4⟩ := hx
  rw [List.length_map] at hlen
  subst hlen
  have hx : Excl w true (fun _ => False) S nl 2 (vs.map vote) (.slice ad vs.length cap) := ⟨ad, vs.length, cap, rfl, by simp, h2, h3, h4⟩
  have hfr := frm_alloc (w := w) (.cells #[.int .i64 x, .slice ad vs.length cap] 24)
  have hc := hcall (w.alloc (.cells #[.int .i64 x, .slice ad vs.length cap] 24)) F S #[.slice ad vs.length cap, .int .i64 k] (.slice ad vs.length cap) ⟨fun b hb => Nat.lt_of_lt_of_le (hF.lt b hb) hfr.size, hF.gl.agree fun b hb => hfr.block b (hF.lt b hb) id⟩
    (fun b hb => ⟨Nat.lt_of_lt_of_le (hS b hb).1 hfr.size, (hS b hb).2⟩) rfl (fun i a hi ha => by
      match i, hi with
      | 1, _ => simp at ha; subst ha; exact ⟨_, rfl, by simp [Rep, Value.oneCell']⟩
      | i + 2, _ => simp at ha) rfl (hx.weak (fun _ h => h) (fun _ h => h) fun b hb => hfr.block b (hb.elim (fun h => h.elim) fun h => (hS b h).1) id)
  clear hcall
  go_enter Tryz.func7, Tryz.ntmps7
  go_wp2_with (go_at_call 12; refine hc.mono ?_; rintro e W2 ⟨y, S', Sr, rfl, hfr2, hS', hSr, hdis, hown, hexc⟩; simp only [Own] at hown; obtain ⟨rfl, _⟩ := hown)
  go_ret
  exact ⟨S', rfl, ⟨hfr2.os.trans hfr.os, hfr2.tape.trans hfr.tape, hfr2.output.trans hfr.output, Nat.le_trans hfr.size hfr2.size, fun b hb hn => (hfr2.block b (Nat.lt_of_lt_of_le hb hfr.size) hn).trans (hfr.block b hb id)⟩,
    fun b hb => (hS' b hb).imp id fun h => ⟨Nat.le_trans hfr.size h.1, h.2⟩, hexc⟩
end Go.Proofs.YtigepnpiofcooaaGreatDoor.Ax
namespace Go.Proofs.YtigepnpiofcooaaGreatDoor.Ax
open Go Go.RowKit
set_option linter.unusedSimpArgs false
def vs0 : List Vt := [((false, [0, 1, 2]), 3), ((false, [1, 2, 0]), 2), ((false, [2, 0, 1]), 2)]
theorem vs0_text : fprS vs0 = ⟨#[51, 42, 97, 98, 99, 32, 50, 42, 98, 99, 97, 32, 50, 42, 99, 97, 98]⟩ := by kernel_rfl
theorem vs0_prof : profB 3 vs0 = true := by decide +kernel
theorem vs0_fl : ∀ v ∈ vs0, v.1.1 = false := by decide
theorem implNew : CallOk Tryz.prog 5 [] (prof 3 false vs0) := by
  obtain ⟨m, hm, e⟩ := as_model (implPpr 3 vs0 vs0_prof (by simp [vs0]) vs0_fl)
  rw [vs0_text] at e
  simp only [str, prof] at e
  generalize vs0 = vs at *
  have hG : FnsOk Tryz.prog [(10, m)] := (.cons hm .nil)
  refine callOk_awp (ctx_ok eqOk hG) mixed (live := [true, true]) (dt := []) Tryz.func5 rfl (by kernel_rfl) (by kernel_rfl) fun w0 hlens => ?_
  simp [Tryz.f5, List.range, List.range.loop, ints, intss, int, bool, row, frac, fracs, ← List.map_take, ← List.map_drop, e, prof]
  done
noncomputable def mPpr0 : List AV → Option AV := mk (fun _ => True) (fun (_ : Unit) => [str (fprS vs0)]) (fun _ => .tup [prof 3 false vs0, .v (.bool true)])
theorem mPpr0_at : mPpr0 [.v (.string ⟨#[51, 42, 97, 98, 99, 32, 50, 42, 98, 99, 97, 32, 50, 42, 99, 97, 98]⟩)] = some (.tup [.agg [.v (.int .i64 3), .sl false 2 (vs0.map vote)], .v (.bool true)]) := by
  have := mk_eq (pre := fun _ => True) (enc := fun (_ : Unit) => [str (fprS vs0)]) (f := fun _ => .tup [prof 3 false vs0, .v (.bool true)]) (x := ()) (fun _ _ _ => rfl) trivial
  rw [vs0_text] at this
  unfold mPpr0
  rw [vs0_text]
  exact this
theorem ppr0_ok : FnFrz Tryz.prog 9 true mPpr0 := by
  refine mk_frz fun _ _ => ?_
  exact specPpr 3 vs0 vs0_prof (by simp [vs0]) vs0_fl
theorem specNew : FrzOk Tryz.prog 4 [] true (prof 3 false vs0) := by
  have e := mPpr0_at
  generalize vs0 = vs at *
  have hG : FnsOk Tryz.prog [] := .nil
  have hM : FnsMut Tryz.prog [] := .nil
  have hV : FnsMov Tryz.prog [] := .nil
  have hK : FnsFrz Tryz.prog [(9, true, mPpr0)] := (.cons ppr0_ok .nil)
  refine frzOk_of_tr (C := _) (ctxH_ok eqOk hG hM hV hK) (dt := []) Tryz.func4 rfl (by kernel_rfl) (by kernel_rfl) fun A w0 => ?_
  refine tr_seq (tr_awp (live := [true, true]) (ctxH_ok eqOk hG hM hV hK) mixed _ _ _ ?_)
  simp [Tryz.f4, List.range, List.range.loop, ints, intss, int, bool, row, frac, fracs, ← List.map_take, ← List.map_drop, List.all, andThen]
  refine tr_seq (tr_awp (live := [true, true]) (ctxH_ok eqOk hG hM hV hK) mixed _ _ _ ?_)
  simp [List.range, List.range.loop, ints, intss, int, bool, row, frac, fracs, ← List.map_take, ← List.map_drop, List.all, andThen, e]
  refine Tr.pre (tr_awp (live := [true, true]) (ctxH_ok eqOk hG hM hV hK) mixed _ _ _ ?_) (le_freeze [1])
  simp [List.range, List.range.loop, ints, intss, int, bool, row, frac, fracs, ← List.map_take, ← List.map_drop, List.all, freeze, frzA, frzAL, sets, prof]
  done
noncomputable def mHeldP : List AV → Option AV := mk (fun (p : Int × Bool × List Vt × Int) => 0 ≤ p.2.2.2 ∧ p.2.2.2 + vmS p.2.2.1 p.2.2.1.length ≤ 2 ^ 61) (fun p => [prof p.1 p.2.1 (vmA p.2.2.2 p.2.2.1), int p.2.2.2]) (fun p => int (p.2.2.2 + ((((vmA p.2.2.2 p.2.2.1).map fun v => v.1.2.length + 1).sum : Nat) : Int)))
theorem mHeldP_at (s : Int) (nl : Bool) (vs : List Vt) (k : Int) (h : 0 ≤ k ∧ k + vmS vs vs.length ≤ 2 ^ 61) : mHeldP [.agg [.v (.int .i64 s), .sl nl 2 ((vmA k vs).map vote)], .v (.int .i64 k)] = some (.v (.int .i64 (k + vmS vs vs.length))) := by
  refine (mk_eq (enc := fun p : Int × Bool × List Vt × Int => [prof p.1 p.2.1 (vmA p.2.2.2 p.2.2.1), int p.2.2.2]) (x := (s, nl, vs, k)) (by
    rintro ⟨z, a, b, c⟩ ⟨z', d, e, f⟩ h
    simp [prof, int, map_vote_inj] at h
    obtain ⟨⟨_, _, h1⟩, rfl⟩ := h
    simp only [h1]) h).trans ?_
  simp only [int, vmA_sum]
theorem heldProfile_ok : FnOk Tryz.prog 8 mHeldP := by
  refine mk_ok fun ⟨s, nl, vs, k⟩ ⟨hk0, hk⟩ => ?_
  simp only at hk0 hk
  have hz := mHeldV_at nl vs k ⟨hk0, hk⟩
  simp only [vmA_sum]
  have hn : ¬ (k + (vmS vs vs.length : Int) < 0) := by omega
  generalize (vmA k vs) = M at *
  have hG : FnsOk Tryz.prog [(13, mHeldV)] := (.cons heldVoteS_ok .nil)
  refine callOk_awp (ctx_ok eqOk hG) mixed (live := [true, true, true, false, true, false, false, false, false, false, true]) (dt := []) Tryz.func8 rfl (by kernel_rfl) (by kernel_rfl) fun w0 hlens => ?_
  clear hlens
  simp [Tryz.f8, List.range, List.range.loop, ints, intss, int, bool, row, frac, fracs, ← List.map_take, ← List.map_drop, prof, hz, hn]
  done
end Go.Proofs.YtigepnpiofcooaaGreatDoor.Ax
