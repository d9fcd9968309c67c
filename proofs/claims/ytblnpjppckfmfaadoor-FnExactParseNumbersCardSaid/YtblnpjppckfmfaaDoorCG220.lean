/-
  Contracts: strings.SplitSeq; ParseInt (the program's). No condition.
-/
import Derived.Test.YtblnpjppckfmfaaDoorCG219
import Derived.Ground.NamesProg
import Derived.Shelf.Strconv.AtoiAll
namespace Go.Proofs
open Go.Shelf
def Tryd.laysAtoi_ren : Go.Shelf.Ren := ⟨fun | 172 => 37 | 244 => 58 | 245 => 59 | 247 => 76 | 279 => 77 | 280 => 78 | 281 => 79 | 282 => 80 | 287 => 97 | 316 => 98 | 171 => 60 | 205 => 99 | 321 => 111 | 322 => 112 | 243 => 81 | 246 => 100 | 283 => 113 | 284 => 114 | 285 => 115 | 286 => 116 | 129 => 122 | 317 => 121 | 318 => 123 | 319 => 124 | 320 => 125 | 337 => 126 | 338 => 127 | n => n, fun | 9 => 9 | 3 => 3 | 75 => 53 | 76 => 54 | 4 => 4 | 5 => 5 | 167 => 80 | 37 => 68 | 0 => 0 | 85 => 81 | 2 => 2 | 168 => 83 | 53 => 105 | 175 => 106 | 46 => 99 | 210 => 110 | 127 => 117 | 145 => 125 | 143 => 123 | 21 => 21 | 171 => 126 | 173 => 129 | 212 => 137 | 51 => 119 | 20 => 20 | 213 => 138 | 232 => 141 | 233 => 142 | 80 => 95 | n => n, fun | 15 => 3 | 16 => 4 | 17 => 5 | 18 => 6 | 19 => 7 | n => n⟩
theorem Tryd.laysAtoi : Go.Proofs.LaysC.n172 Tryd.prog Tryd.laysAtoi_ren := {
  mixed := by kernel_rfl
  f129 := Tryd.func122.trans (congrArg some (by kernel_rfl))
  f171 := Tryd.func60.trans (congrArg some (by kernel_rfl))
  f172 := Tryd.func37.trans (congrArg some (by kernel_rfl))
  f205 := Tryd.func99.trans (congrArg some (by kernel_rfl))
  f243 := Tryd.func81.trans (congrArg some (by kernel_rfl))
  f244 := Tryd.func58.trans (congrArg some (by kernel_rfl))
  f245 := Tryd.func59.trans (congrArg some (by kernel_rfl))
  f246 := Tryd.func100.trans (congrArg some (by kernel_rfl))
  f247 := Tryd.func76.trans (congrArg some (by kernel_rfl))
  f279 := Tryd.func77.trans (congrArg some (by kernel_rfl))
  f280 := Tryd.func78.trans (congrArg some (by kernel_rfl))
  f281 := Tryd.func79.trans (congrArg some (by kernel_rfl))
  f282 := Tryd.func80.trans (congrArg some (by kernel_rfl))
  f283 := Tryd.func113.trans (congrArg some (by kernel_rfl))
  f284 := Tryd.func114.trans (congrArg some (by kernel_rfl))
  f285 := Tryd.func115.trans (congrArg some (by kernel_rfl))
  f286 := Tryd.func116.trans (congrArg some (by kernel_rfl))
  f287 := Tryd.func97.trans (congrArg some (by kernel_rfl))
  f316 := Tryd.func98.trans (congrArg some (by kernel_rfl))
  f317 := Tryd.func121.trans (congrArg some (by kernel_rfl))
  f318 := Tryd.func123.trans (congrArg some (by kernel_rfl))
  f319 := Tryd.func124.trans (congrArg some (by kernel_rfl))
  f320 := Tryd.func125.trans (congrArg some (by kernel_rfl))
  f321 := Tryd.func111.trans (congrArg some (by kernel_rfl))
  f322 := Tryd.func112.trans (congrArg some (by kernel_rfl))
  f337 := Tryd.func126.trans (congrArg some (by kernel_rfl))
  f338 := Tryd.func127.trans (congrArg some (by kernel_rfl))
  t0 := Tryd.underlying0
  a0 := Tryd.isAgg0
  z0 := Tryd.sizeOf0
  v0 := Tryd.zeroValue0
  t2 := Tryd.underlying2
  a2 := Tryd.isAgg2
  z2 := Tryd.sizeOf2
  v2 := Tryd.zeroValue2
  t3 := Tryd.underlying3
  a3 := Tryd.isAgg3
  z3 := Tryd.sizeOf3
  v3 := Tryd.zeroValue3
  t4 := Tryd.underlying4
  a4 := Tryd.isAgg4
  z4 := Tryd.sizeOf4
  v4 := Tryd.zeroValue4
  t5 := Tryd.underlying5
  a5 := Tryd.isAgg5
  z5 := Tryd.sizeOf5
  v5 := Tryd.zeroValue5
  t9 := Tryd.underlying9
  a9 := Tryd.isAgg9
  z9 := Tryd.sizeOf9
  v9 := Tryd.zeroValue9
  t20 := Tryd.underlying20
  a20 := Tryd.isAgg20
  z20 := Tryd.sizeOf20
  v20 := Tryd.zeroValue20
  t21 := Tryd.underlying21
  a21 := Tryd.isAgg21
  z21 := Tryd.sizeOf21
  v21 := Tryd.zeroValue21
  t37 := Tryd.underlying68
  a37 := Tryd.isAgg68
  z37 := Tryd.sizeOf68
  v37 := Tryd.zeroValue68
  t46 := Tryd.underlying99
  a46 := Tryd.isAgg99
  z46 := Tryd.sizeOf99
  v46 := Tryd.zeroValue99
  t51 := Tryd.underlying119
  a51 := Tryd.isAgg119
  z51 := Tryd.sizeOf119
  v51 := Tryd.zeroValue119
  t53 := Tryd.underlying105
  a53 := Tryd.isAgg105
  z53 := Tryd.sizeOf105
  v53 := Tryd.zeroValue105
  t75 := Tryd.underlying53
  a75 := Tryd.isAgg53
  z75 := Tryd.sizeOf53
  v75 := Tryd.zeroValue53
  t76 := Tryd.underlying54
  a76 := Tryd.isAgg54
  z76 := Tryd.sizeOf54
  v76 := Tryd.zeroValue54
  t85 := Tryd.underlying81
  a85 := Tryd.isAgg81
  z85 := Tryd.sizeOf81
  v85 := Tryd.zeroValue81
  t127 := Tryd.underlying117
  a127 := Tryd.isAgg117
  z127 := Tryd.sizeOf117
  v127 := Tryd.zeroValue117
  t143 := Tryd.underlying123
  a143 := Tryd.isAgg123
  z143 := Tryd.sizeOf123
  v143 := Tryd.zeroValue123
  t145 := Tryd.underlying125
  a145 := Tryd.isAgg125
  z145 := Tryd.sizeOf125
  v145 := Tryd.zeroValue125
  t167 := Tryd.underlying80
  a167 := Tryd.isAgg80
  z167 := Tryd.sizeOf80
  v167 := Tryd.zeroValue80
  t168 := Tryd.underlying83
  a168 := Tryd.isAgg83
  z168 := Tryd.sizeOf83
  v168 := Tryd.zeroValue83
  t171 := Tryd.underlying126
  a171 := Tryd.isAgg126
  z171 := Tryd.sizeOf126
  v171 := Tryd.zeroValue126
  t173 := Tryd.underlying129
  a173 := Tryd.isAgg129
  z173 := Tryd.sizeOf129
  v173 := Tryd.zeroValue129
  t175 := Tryd.underlying106
  a175 := Tryd.isAgg106
  z175 := Tryd.sizeOf106
  v175 := Tryd.zeroValue106
  t210 := Tryd.underlying110
  a210 := Tryd.isAgg110
  z210 := Tryd.sizeOf110
  v210 := Tryd.zeroValue110
  t212 := Tryd.underlying137
  a212 := Tryd.isAgg137
  z212 := Tryd.sizeOf137
  v212 := Tryd.zeroValue137
  t213 := Tryd.underlying138
  a213 := Tryd.isAgg138
  z213 := Tryd.sizeOf138
  t232 := Tryd.underlying141
  a232 := Tryd.isAgg141
  z232 := Tryd.sizeOf141
  v232 := Tryd.zeroValue141
  t233 := Tryd.underlying142
  a233 := Tryd.isAgg142
  z233 := Tryd.sizeOf142
  v233 := Tryd.zeroValue142
  g15 := by kernel_rfl
  g16 := by kernel_rfl
  g17 := by kernel_rfl
  g18 := by kernel_rfl
  g19 := by kernel_rfl
  t80 := Tryd.underlying95
  a80 := Tryd.isAgg95
  z80 := Tryd.sizeOf95
  v80 := Tryd.zeroValue95
  i0 := by kernel_rfl
  i2 := by kernel_rfl
  i3 := by kernel_rfl
  i4 := by kernel_rfl
  i5 := by kernel_rfl
  i9 := by kernel_rfl
  i20 := by kernel_rfl
  i21 := by kernel_rfl
  i37 := by kernel_rfl
  i46 := by kernel_rfl
  i51 := by kernel_rfl
  i53 := by kernel_rfl
  i75 := by kernel_rfl
  i76 := by kernel_rfl
  i80 := by kernel_rfl
  i85 := by kernel_rfl
  i127 := by kernel_rfl
  i143 := by kernel_rfl
  i145 := by kernel_rfl
  i167 := by kernel_rfl
  i168 := by kernel_rfl
  i171 := by kernel_rfl
  i173 := by kernel_rfl
  i175 := by kernel_rfl
  i210 := by kernel_rfl
  i212 := by kernel_rfl
  i232 := by kernel_rfl
  i233 := by kernel_rfl
  m15 := by kernel_rfl
  m16 := by kernel_rfl
  m17 := by kernel_rfl
  m18 := by kernel_rfl
  m19 := by kernel_rfl
  c0 := by kernel_rfl
  c2 := by kernel_rfl
  c3 := by kernel_rfl
  c4 := by kernel_rfl
  c5 := by kernel_rfl
  c9 := by kernel_rfl
  c20 := by kernel_rfl
  c21 := by kernel_rfl
  c37 := by kernel_rfl
  c46 := by kernel_rfl
  c51 := by kernel_rfl
  c53 := by kernel_rfl
  c75 := by kernel_rfl
  c76 := by kernel_rfl
  c80 := by kernel_rfl
  c85 := by kernel_rfl
  c127 := by kernel_rfl
  c143 := by kernel_rfl
  c145 := by kernel_rfl
  c167 := by kernel_rfl
  c168 := by kernel_rfl
  c171 := by kernel_rfl
  c173 := by kernel_rfl
  c175 := by kernel_rfl
  c210 := by kernel_rfl
  c212 := by kernel_rfl
  c213 := by kernel_rfl
  c232 := by kernel_rfl
  c233 := by kernel_rfl }
end Go.Proofs
namespace Go.Proofs.YtblnpjppckfmfaaDoor.Ax
open Go Go.RowKit
set_option linter.unusedSimpArgs false

set_option maxHeartbeats 1000000 in
theorem splitSeqP_ok {s : ByteArray} {c : UInt8} (hsz : s.size ≤ 4611686018427387904) : SeqOk Tryd.prog 22 [str s, str ⟨#[c]⟩] ((splitS s c).map str) := by
  refine ⟨⟨_, Tryd.func22, by kernel_rfl, by kernel_rfl⟩, fun w F vals hF hv => ?_⟩
  simp only [RepL, Rep, str] at hv
  obtain ⟨v1, r1, e1, ⟨rfl, _⟩, v2, r2, rfl, ⟨rfl, _⟩, rfl⟩ := hv
  have hvals : vals = #[.string s, .string ⟨#[c]⟩] := by apply Array.ext'; rw [e1]
  subst hvals
  have h := (splitSeq_ok (c := c) hsz).2 w F #[.string s, .string ⟨#[c]⟩, .int .i64 0] hF (by simp [RepL, Rep, str, int, Value.oneCell'])
  go_enter Tryd.func22, Tryd.ntmps22
  go_wp2_with (go_at_call 36; refine h.mono ?_; rintro e W1 ⟨gf, cv, Bi, rfl, h1, h2, h3⟩)
  go_ret
  exact ⟨gf, cv, Bi, rfl, h1, h2, h3⟩

theorem err_of {n : String} {F : Nat → Prop} {w : World} {g : Nat} (h : ErrG n F w) (hg : Tryd.prog.globalNamed n = some g) : ∃ u v, w.cell? ⟨g, 0, none⟩ = some (.iface u v) := by
  obtain ⟨_, u, v, x, y, h2⟩ := h g hg
  exact ⟨u, v, by simp [World.cell?, h2]⟩

theorem own_ib {w : World} {n : Int} {b : Bool} : Own w true (fun _ => False) (fun _ => False) (.tup [.v (.int .i64 n), .v (.bool b)]) (.tuple #[.int .i64 n, .bool b]) := by
  simp [Own, OwnL, Value.oneCell']
  exact ⟨_, _, ⟨rfl, rfl⟩, fun _ => False, fun _ h => h, fun _ => False, fun _ h => h, fun _ h => h.elim, rfl, _, _, rfl, fun _ => False, fun _ h => h, fun _ => False, fun _ h => h, fun _ h => h.elim, rfl, rfl⟩
theorem frm_below {w w' : World} (h : Below w.heap.size w w') : Frm (fun _ => False) w w' := ⟨h.os, h.tape, h.output, h.size, fun k hk _ => h.block k hk⟩

set_option maxHeartbeats 2000000 in
theorem implPI_ok : FnOk Tryd.prog 23 mPI := by
  refine mk_ok fun s hs => ?_
  refine ⟨⟨_, Tryd.func23, by kernel_rfl, by kernel_rfl⟩, fun w F vals hF hv => ?_⟩
  simp only [RepL, Rep, str] at hv
  obtain ⟨v1, r1, e1, ⟨rfl, _⟩, rfl⟩ := hv
  have hvals : vals = #[.string s] := by apply Array.ext'; rw [e1]
  subst hvals
  rcases pI_atoi (s := s) with ⟨v, h1, h2, h3⟩ | ⟨h1, h3⟩
  · have hA := Any.strconv_Atoi_ok Tryd.laysAtoi s (by omega) v h1 w
    go_enter Tryd.func23, Tryd.ntmps23
    go_wp2_with (go_at_call 37; refine hA.mono ?_; rintro e W1 ⟨rfl, hW⟩)
    have hb1 : Below w.heap.size w W1 := by
      rcases hW with rfl | ⟨t, rfl⟩
      · exact Below.refl _ _
      · exact Lib.bytesWorld_below _ _ _
    have hfr := frm_below hb1
    have hF1 : Fit F W1 := ⟨fun b hb => Nat.lt_of_lt_of_le (hF.lt b hb) hfr.size, hF.gl.agree fun b hb => (hfr.block b (hF.lt b hb) id)⟩
    have hI := (implFormatInt_ok _ _ (mItoa_at v h2)).2 W1 F #[.int .i64 v] hF1 (by simp [RepL, Rep, Value.oneCell'])
    go_wp2_with (go_at_call 38; refine hI.mono ?_; rintro e W2 ⟨y, S, rfl, hf2, hS, ho⟩; simp only [Own] at ho; obtain ⟨rfl, _⟩ := ho)
    · rename_i hc
      go_ret2
      have hne : ¬ itoaS v = s := fun h => by subst h; simp at hc
      rw [h3, if_neg hne]
      exact ⟨_, fun _ => False, rfl, hfr.comp hf2 (fun _ _ h => h) (fun _ _ h => h), fun _ h => h.elim, own_ib⟩
    · rename_i hc
      go_ret2
      have he : itoaS v = s := by
        have : (itoaS v).toList = s.toList := by simpa using hc
        exact Decidable.byContradiction fun h => tl_ne h this
      rw [h3, if_pos he]
      exact ⟨_, fun _ => False, rfl, hfr.comp hf2 (fun _ _ h => h) (fun _ _ h => h), fun _ h => h.elim, own_ib⟩
  · have hlim : s.size ≤ 281474976710656 := hs
    rw [h3]
    obtain ⟨u1, p1, c1⟩ := err_of hF.gl.2.1 (g := Tryd.laysAtoi_ren.g 15) (by kernel_rfl)
    obtain ⟨u2, p2, c2⟩ := err_of hF.gl.2.2 (g := Tryd.laysAtoi_ren.g 16) (by kernel_rfl)
    rcases h1 with h1 | h1
    · have hA := Any.strconv_Atoi_syntax Tryd.laysAtoi s hlim h1 _ w c1 (.inr ⟨u1, p1, rfl⟩)
      go_enter Tryd.func23, Tryd.ntmps23
      go_wp2_with (go_at_call 37; refine hA.mono ?_; rintro e W1 ⟨N, rfl, hN, hW, hb⟩)
      go_ret2
      exact ⟨_, fun _ => False, rfl, frm_below hb, fun _ h => h.elim, own_ib⟩
    · have hA := Any.strconv_Atoi_range Tryd.laysAtoi s hlim h1 _ w c2 (.inr ⟨u2, p2, rfl⟩)
      go_enter Tryd.func23, Tryd.ntmps23
      go_wp2_with (go_at_call 37; refine hA.mono ?_; rintro e W1 ⟨N, rfl, hN, hW, hb⟩)
      go_ret2
      exact ⟨_, fun _ => False, rfl, frm_below hb, fun _ h => h.elim, own_ib⟩

end Go.Proofs.YtblnpjppckfmfaaDoor.Ax
