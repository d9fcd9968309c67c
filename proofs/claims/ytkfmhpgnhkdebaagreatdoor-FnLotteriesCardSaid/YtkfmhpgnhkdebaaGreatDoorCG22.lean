/-
  Contracts: the laws' comparisons of lists and of tables. No condition.
-/
import Derived.Test.YtkfmhpgnhkdebaaGreatDoorCG2
import Derived.Test.YtkfmhpgnhkdebaaGreatDoorCG8
import Derived.Test.YtkfmhpgnhkdebaaGreatDoorCG1
import Derived.Ground.NamesProg
import Derived.Shelf.LaysM
import Derived.Shelf.Strconv.Itoa3
import Derived.Shelf.Strings.OnBuilder
namespace Go.Proofs.YtkfmhpgnhkdebaaGreatDoor.Ax
open Go Go.RowKit
set_option linter.unusedSimpArgs false
theorem eq_at {α : Type} {a b : List α} (hl : a.length = b.length) (h : ∀ k (hk : k < a.length), a[k] = b[k]'(by omega)) : a = b := List.ext_getElem hl fun i h1 _ => h i h1
noncomputable def mSame : List AV → Option AV := mk (fun _ => True) (fun (p : (Bool) × (List Int) × (Bool) × (List Int)) => [ints p.1 p.2.1, ints p.2.2.1 p.2.2.2]) (fun p => bool (decide (p.2.1 = p.2.2.2)))
theorem mSame_at (nl : Bool) (a : List Int) (nl2 : Bool) (b : List Int) : mSame [.sl nl 1 (a.map int), .sl nl2 1 (b.map int)] = some (.v (.bool (decide (a = b)))) :=
  mk_eq (enc := fun (p : (Bool) × (List Int) × (Bool) × (List Int)) => [ints p.1 p.2.1, ints p.2.2.1 p.2.2.2]) (x := (nl, a, nl2, b)) (by rintro ⟨a0, a1, a2, a3⟩ ⟨b0, b1, b2, b3⟩ h; simp [ints, intss, int, bool, row, frac, fracs, map_int_inj, map_row_inj, frac_inj, map_frac_inj] at h; simp [h]) trivial
theorem same_ok : FnOk Tryz.prog 35 mSame := by
  refine mk_ok fun ⟨nl, a, nl2, b⟩ _ => ?_
  have hG : FnsOk Tryz.prog [] := .nil
  refine callOk_awp (ctx_ok eqOk hG) mixed (live := [true, true, false, false, true, true, true, false, false, false, false, true, true, true, true, true, false, false, false, false, false, false, false, false, true]) (dt := []) Tryz.func35 rfl (by kernel_rfl) (by kernel_rfl) fun w0 hlens => ?_
  generalize hr : decide (a = b) = r
  have hbl := (lens_ints.1 hlens.2.1).1
  clear hlens
  by_cases hl : a.length = b.length
  rotate_left
  · have hli : ¬ (a.length : Int) = (b.length : Int) := by omega
    have hrf : r = false := by rw [← hr]; simp; intro h; exact hl (by rw [h])
    subst hrf
    simp [Tryz.f35, List.range, List.range.loop, ints, intss, int, bool, row, frac, fracs, ← List.map_take, ← List.map_drop, hl, hli]
  have hli : (a.length : Int) = (b.length : Int) := by omega
  simp [Tryz.f35, List.range, List.range.loop, ints, intss, int, bool, row, frac, fracs, ← List.map_take, ← List.map_drop, hl, hli]
  refine awp_range (live := [true, true, false, false, true, true, true, false, false, false, false, true, true, true, true, true, false, false, false, false, false, false, false, false, true]) (ctx_ok eqOk hG) mixed [false, true, false, false, false, false, false, false, false, false, false, false, true, true, true] (b.length) (fun k => ∀ i (h : i < a.length), i < k → a[i] = b[i]'(by omega)) (fun k => ⟨[.junk, ints nl2 b, .junk, .junk, .junk, .junk, .junk, .junk, .junk, .junk, .junk, .junk, ints nl a, int b.length, int k, .junk, .junk, .junk, .junk, .junk, .junk, .junk, .junk, .junk, .junk, .junk], []⟩) ?_ (by simp [sub, slotsLe, clean, keep, refsL, refs, once, place, renL, ren, List.replicate, int, bool, ints, hl]) ?_ ?_ ?_
  · omega
  · intro i h hi; omega
  · intro k hk hp hwk
    have hka : k < a.length := by omega
    by_cases he : a[k] = b[k]
    · have hp' : ∀ i (h : i < a.length), i < k + 1 → a[i] = b[i]'(by omega) := fun i h hi => by
        by_cases e : i = k
        · subst e; exact he
        · exact hp i h (by omega)
      simp [List.range, List.range.loop, ints, intss, int, bool, row, frac, fracs, ← List.map_take, ← List.map_drop, hk, hka, hwk, he]
      exact hp'
    · have hrf : r = false := by rw [← hr]; simp; intro h; subst h; exact he rfl
      subst hrf
      simp [List.range, List.range.loop, ints, intss, int, bool, row, frac, fracs, ← List.map_take, ← List.map_drop, hk, hka, hwk, he]
  · intro hp
    have hrt : r = true := by rw [← hr]; simp; exact eq_at hl fun k hk => hp k hk (by omega)
    subst hrt
    simp [List.range, List.range.loop, ints, intss, int, bool, row, frac, fracs, ← List.map_take, ← List.map_drop]
end Go.Proofs.YtkfmhpgnhkdebaaGreatDoor.Ax
namespace Go.Proofs
open Go.Shelf
def Tryz.laysM171_ren : Go.Shelf.Ren := ⟨fun | 171 => 75 | 243 => 156 | 246 => 218 | 283 => 255 | 284 => 256 | 285 => 257 | 286 => 258 | 129 => 285 | 317 => 284 | 318 => 286 | 319 => 287 | 320 => 288 | 337 => 295 | 338 => 296 | n => n, fun | 3 => 3 | 9 => 9 | 2 => 2 | 4 => 4 | 171 => 227 | 0 => 0 | 53 => 208 | 37 => 33 | 5 => 5 | 173 => 229 | 212 => 250 | 51 => 206 | 20 => 20 | 213 => 251 | 46 => 167 | 232 => 267 | 233 => 268 | n => n, fun | 17 => 1 | 18 => 6 | 19 => 7 | n => n⟩
theorem Tryz.laysM171 : Go.Proofs.LaysM.n171 Tryz.prog Tryz.laysM171_ren := {
  mixed := by kernel_rfl
  f129 := Tryz.func285.trans (congrArg some (by kernel_rfl))
  f171 := Tryz.func75.trans (congrArg some (by kernel_rfl))
  f243 := Tryz.func156.trans (congrArg some (by kernel_rfl))
  f246 := Tryz.func218.trans (congrArg some (by kernel_rfl))
  f283 := Tryz.func255.trans (congrArg some (by kernel_rfl))
  f284 := Tryz.func256.trans (congrArg some (by kernel_rfl))
  f285 := Tryz.func257.trans (congrArg some (by kernel_rfl))
  f286 := Tryz.func258.trans (congrArg some (by kernel_rfl))
  f317 := Tryz.func284.trans (congrArg some (by kernel_rfl))
  f318 := Tryz.func286.trans (congrArg some (by kernel_rfl))
  f319 := Tryz.func287.trans (congrArg some (by kernel_rfl))
  f320 := Tryz.func288.trans (congrArg some (by kernel_rfl))
  f337 := Tryz.func295.trans (congrArg some (by kernel_rfl))
  f338 := Tryz.func296.trans (congrArg some (by kernel_rfl))
  t0 := Tryz.underlying0
  a0 := Tryz.isAgg0
  z0 := Tryz.sizeOf0
  v0 := Tryz.zeroValue0
  t2 := Tryz.underlying2
  a2 := Tryz.isAgg2
  z2 := Tryz.sizeOf2
  v2 := Tryz.zeroValue2
  t3 := Tryz.underlying3
  a3 := Tryz.isAgg3
  z3 := Tryz.sizeOf3
  v3 := Tryz.zeroValue3
  t4 := Tryz.underlying4
  a4 := Tryz.isAgg4
  z4 := Tryz.sizeOf4
  v4 := Tryz.zeroValue4
  t5 := Tryz.underlying5
  a5 := Tryz.isAgg5
  z5 := Tryz.sizeOf5
  v5 := Tryz.zeroValue5
  t9 := Tryz.underlying9
  a9 := Tryz.isAgg9
  z9 := Tryz.sizeOf9
  v9 := Tryz.zeroValue9
  t20 := Tryz.underlying20
  a20 := Tryz.isAgg20
  z20 := Tryz.sizeOf20
  v20 := Tryz.zeroValue20
  t37 := Tryz.underlying33
  a37 := Tryz.isAgg33
  z37 := Tryz.sizeOf33
  v37 := Tryz.zeroValue33
  t46 := Tryz.underlying167
  a46 := Tryz.isAgg167
  z46 := Tryz.sizeOf167
  v46 := Tryz.zeroValue167
  t51 := Tryz.underlying206
  a51 := Tryz.isAgg206
  z51 := Tryz.sizeOf206
  v51 := Tryz.zeroValue206
  t53 := Tryz.underlying208
  a53 := Tryz.isAgg208
  z53 := Tryz.sizeOf208
  v53 := Tryz.zeroValue208
  t171 := Tryz.underlying227
  a171 := Tryz.isAgg227
  z171 := Tryz.sizeOf227
  v171 := Tryz.zeroValue227
  t173 := Tryz.underlying229
  a173 := Tryz.isAgg229
  z173 := Tryz.sizeOf229
  v173 := Tryz.zeroValue229
  t212 := Tryz.underlying250
  a212 := Tryz.isAgg250
  z212 := Tryz.sizeOf250
  v212 := Tryz.zeroValue250
  t213 := Tryz.underlying251
  a213 := Tryz.isAgg251
  z213 := Tryz.sizeOf251
  t232 := Tryz.underlying267
  a232 := Tryz.isAgg267
  z232 := Tryz.sizeOf267
  v232 := Tryz.zeroValue267
  t233 := Tryz.underlying268
  a233 := Tryz.isAgg268
  z233 := Tryz.sizeOf268
  v233 := Tryz.zeroValue268
  g17 := by kernel_rfl
  g18 := by kernel_rfl
  g19 := by kernel_rfl
  i0 := by kernel_rfl
  i2 := by kernel_rfl
  i3 := by kernel_rfl
  i4 := by kernel_rfl
  i5 := by kernel_rfl
  i9 := by kernel_rfl
  i20 := by kernel_rfl
  i37 := by kernel_rfl
  i46 := by kernel_rfl
  i51 := by kernel_rfl
  i53 := by kernel_rfl
  i171 := by kernel_rfl
  i173 := by kernel_rfl
  i212 := by kernel_rfl
  i232 := by kernel_rfl
  i233 := by kernel_rfl
  m17 := by kernel_rfl
  m18 := by kernel_rfl
  m19 := by kernel_rfl }
end Go.Proofs
namespace Go.Proofs.YtkfmhpgnhkdebaaGreatDoor.Ax
open Go Go.RowKit
set_option linter.unusedSimpArgs false
def inI (n : Int) : Prop := -9223372036854775808 ≤ n ∧ n ≤ 9223372036854775807
def itoaS (n : Int) : ByteArray := ⟨(Lib.itoa n).toArray⟩
theorem tab_of {F : Nat → Prop} {w : World} (h : Gl F w) : Lib.TabIs Tryz.prog w "internal/strconv.uint64pow10" .u64 Lib.pow10Tab := by
  cases hg : Tryz.prog.globalNamed "internal/strconv.uint64pow10" with
  | none => exact absurd (show (Tryz.prog.globalNamed "internal/strconv.uint64pow10").isSome = true by kernel_rfl) (by rw [hg]; simp)
  | some g =>
    obtain ⟨_, x, y, h2⟩ := h.1 g hg
    unfold Lib.TabIs World.var?
    rw [hg]
    simp [h2]
noncomputable def mItoa : List AV → Option AV := mk inI (fun (n : Int) => [int n]) (fun n => .v (.string (itoaS n)))
theorem mItoa_at (n : Int) (h : inI n) : mItoa [.v (.int .i64 n)] = some (.v (.string (itoaS n))) :=
  mk_eq (enc := fun (n : Int) => [int n]) (x := n) (by intro a b h; simp [int] at h; rw [h]) h
theorem itoa_ok : FnOk Tryz.prog 75 mItoa := by
  refine mk_ok fun n hn => ?_
  refine ⟨⟨_, Tryz.func75, by kernel_rfl, by kernel_rfl⟩, fun w F vals hF hv => ?_⟩
  simp only [RepL, Rep, int] at hv
  obtain ⟨a, r1, e1, ⟨rfl, _⟩, rfl⟩ := hv
  have hvals : vals = #[.int .i64 n] := by apply Array.ext'; rw [e1]
  subst hvals
  refine (Go.Proofs.Any.strconv_Itoa Tryz.laysM171 n hn.1 hn.2 w (tab_of hF.gl)).mono fun e w' h => ?_
  obtain ⟨rfl, k, os, rfl⟩ := h
  refine ⟨_, fun _ => False, rfl, ⟨rfl, rfl, rfl, by simp [Go.Sort.grow, World.drewN], fun b hb _ => ?_⟩, fun _ h => h.elim, ?_⟩
  · simp [Go.Sort.grow, World.drewN, Array.getElem?_append, hb]
  · simp only [Own]; exact ⟨rfl, rfl⟩
theorem implFormatInt_ok : FnOk Tryz.prog 17 mItoa := by
  refine mk_ok fun n hn => ?_
  have hG : FnsOk Tryz.prog [(75, mItoa)] := (.cons itoa_ok .nil)
  refine callOk_awp (ctx_ok eqOk hG) mixed (live := [true, false, true]) (dt := []) Tryz.func17 rfl (by kernel_rfl) (by kernel_rfl) fun w0 hlens => ?_
  clear hlens
  have hm := mItoa_at n hn
  simp (config := {contextual := true}) [Tryz.f17, List.range, List.range.loop, ints, intss, int, bool, row, frac, fracs, ← List.map_take, ← List.map_drop, hm]
  done
end Go.Proofs.YtkfmhpgnhkdebaaGreatDoor.Ax
namespace Go.Proofs.YtkfmhpgnhkdebaaGreatDoor.Ax
open Go Go.RowKit
set_option linter.unusedSimpArgs false
theorem ba_size (l : List UInt8) : (⟨l.toArray⟩ : ByteArray).size = l.length := by
  simp [ByteArray.size]
theorem dec_lt {u : Nat} (h : u < 10) : Lib.decDigits u = [UInt8.ofNat (48 + u)] := by rw [Lib.decDigits, dif_pos h]
theorem dec_ge {u : Nat} (h : 10 ≤ u) : Lib.decDigits u = Lib.decDigits (u / 10) ++ [UInt8.ofNat (48 + u % 10)] := by rw [Lib.decDigits, dif_neg (by omega)]
theorem sz1 (x : UInt8) : ({ data := #[x] } : ByteArray).size = 1 := rfl
end Go.Proofs.YtkfmhpgnhkdebaaGreatDoor.Ax
namespace Go.Proofs
open Go.Shelf
def Tryz.laysJoin_ren : Go.Shelf.Ren := ⟨fun | 156 => 145 | 165 => 207 | 166 => 208 | 169 => 209 | 240 => 251 | 241 => 252 | 276 => 280 | 277 => 281 | n => n, fun | 31 => 91 | 9 => 9 | 3 => 3 | 4 => 4 | 0 => 0 | 20 => 20 | 72 => 198 | 76 => 182 | 70 => 196 | 37 => 33 | 75 => 181 | 127 => 223 | 164 => 244 | 5 => 5 | 80 => 200 | n => n, fun | n => n⟩
theorem Tryz.laysJoin : Go.Proofs.Lays.n156 Tryz.prog Tryz.laysJoin_ren := {
  mixed := by kernel_rfl
  f156 := Tryz.func145.trans (congrArg some (by kernel_rfl))
  f165 := Tryz.func207.trans (congrArg some (by kernel_rfl))
  f166 := Tryz.func208.trans (congrArg some (by kernel_rfl))
  f169 := Tryz.func209.trans (congrArg some (by kernel_rfl))
  f240 := Tryz.func251.trans (congrArg some (by kernel_rfl))
  f241 := Tryz.func252.trans (congrArg some (by kernel_rfl))
  f276 := Tryz.func280.trans (congrArg some (by kernel_rfl))
  f277 := Tryz.func281.trans (congrArg some (by kernel_rfl))
  t0 := Tryz.underlying0
  a0 := Tryz.isAgg0
  z0 := Tryz.sizeOf0
  v0 := Tryz.zeroValue0
  t3 := Tryz.underlying3
  a3 := Tryz.isAgg3
  z3 := Tryz.sizeOf3
  v3 := Tryz.zeroValue3
  t4 := Tryz.underlying4
  a4 := Tryz.isAgg4
  z4 := Tryz.sizeOf4
  v4 := Tryz.zeroValue4
  t9 := Tryz.underlying9
  a9 := Tryz.isAgg9
  z9 := Tryz.sizeOf9
  v9 := Tryz.zeroValue9
  t20 := Tryz.underlying20
  a20 := Tryz.isAgg20
  z20 := Tryz.sizeOf20
  v20 := Tryz.zeroValue20
  t31 := Tryz.underlying91
  a31 := Tryz.isAgg91
  z31 := Tryz.sizeOf91
  v31 := Tryz.zeroValue91
  t37 := Tryz.underlying33
  a37 := Tryz.isAgg33
  z37 := Tryz.sizeOf33
  v37 := Tryz.zeroValue33
  t70 := Tryz.underlying196
  a70 := Tryz.isAgg196
  z70 := Tryz.sizeOf196
  v70 := Tryz.zeroValue196
  t72 := Tryz.underlying198
  a72 := Tryz.isAgg198
  z72 := Tryz.sizeOf198
  v72 := Tryz.zeroValue198
  t75 := Tryz.underlying181
  a75 := Tryz.isAgg181
  z75 := Tryz.sizeOf181
  v75 := Tryz.zeroValue181
  t76 := Tryz.underlying182
  a76 := Tryz.isAgg182
  z76 := Tryz.sizeOf182
  v76 := Tryz.zeroValue182
  t127 := Tryz.underlying223
  a127 := Tryz.isAgg223
  z127 := Tryz.sizeOf223
  v127 := Tryz.zeroValue223
  t164 := Tryz.underlying244
  a164 := Tryz.isAgg244
  z164 := Tryz.sizeOf244
  v164 := Tryz.zeroValue244 }
theorem Tryz.extraJoin : Builder.Extra Tryz.prog Tryz.laysJoin_ren where
  sizeBuilder := by kernel_rfl
  liesBuilder := by kernel_rfl
  t5 := by kernel_rfl
  a5 := fun _ => YtkfmhpgnhkdebaaGreatDoor.Ax.run_isAgg (YtkfmhpgnhkdebaaGreatDoor.Ax.tyOf_ok YtkfmhpgnhkdebaaGreatDoor.Ax.ty5)
  z5 := fun _ => YtkfmhpgnhkdebaaGreatDoor.Ax.run_size (YtkfmhpgnhkdebaaGreatDoor.Ax.tyOf_ok YtkfmhpgnhkdebaaGreatDoor.Ax.ty5)
  v5 := fun _ => YtkfmhpgnhkdebaaGreatDoor.Ax.run_zero (YtkfmhpgnhkdebaaGreatDoor.Ax.tyOf_ok YtkfmhpgnhkdebaaGreatDoor.Ax.ty5)
  infoByte := by kernel_rfl
  cellsByte := by kernel_rfl
  sizeByte := by kernel_rfl
  neB5 := by decide
end Go.Proofs
namespace Go.Proofs.YtkfmhpgnhkdebaaGreatDoor.Ax
open Go Go.RowKit
set_option linter.unusedSimpArgs false
def str (s : ByteArray) : AV := .v (.string s)
def strs (nl : Bool) (ws : List ByteArray) : AV := .sl nl 1 (ws.map str)
theorem map_str_inj {a b : List ByteArray} : a.map str = b.map str ↔ a = b := by
  constructor
  · exact fun h => (List.map_inj_right (f := str) (fun x y h => by simpa [str] using h)).1 h
  · rintro rfl; rfl
def bl (s : ByteArray) : List UInt8 := s.data.toList
def joinS (ws : List ByteArray) (by' : ByteArray) : ByteArray := ⟨(Lib.join (ws.map bl) (bl by')).toArray⟩
def joinOk (ws : List ByteArray) (by' : ByteArray) : Prop := ws.length ≤ 140737488355328 ∧ (Lib.join (ws.map bl) (bl by')).length ≤ 140737488355328
noncomputable def mJoin : List AV → Option AV := mk (fun p => joinOk p.2.1 p.2.2) (fun (p : Bool × List ByteArray × ByteArray) => [strs p.1 p.2.1, str p.2.2]) (fun p => .v (.string (joinS p.2.1 p.2.2)))
theorem mJoin_at (nl : Bool) (ws : List ByteArray) (by' : ByteArray) (h : joinOk ws by') : mJoin [.sl nl 1 (ws.map str), .v (.string by')] = some (.v (.string (joinS ws by'))) :=
  mk_eq (enc := fun (p : Bool × List ByteArray × ByteArray) => [strs p.1 p.2.1, str p.2.2]) (x := (nl, ws, by')) (by rintro ⟨a, b, c⟩ ⟨d, e, f⟩ h; simp [strs, str] at h; simp [map_str_inj.1 (by simpa [str] using h.1.2), h]) h
theorem row_str {w : World} {F : Nat → Prop} {b : Nat} : ∀ {ws : List ByteArray} {o : Nat}, RepRow w F b 1 o (ws.map str) → ∀ (j : Nat) (x : ByteArray), ws[j]? = some x → w.cell? ⟨b, o + j, none⟩ = some (.string x) ∧ F b
  | [], _, _, j, x, h => by simp at h
  | y :: ws, o, hr, 0, x, h => by
    simp only [List.map_cons, RepRow, str, Rep] at hr
    obtain ⟨⟨v, ⟨rfl, _⟩, _, _, hb, hat⟩, _⟩ := hr
    simp at h
    subst h
    exact ⟨hat 0 _ (by simp [Value.cells]), hb⟩
  | y :: ws, o, hr, j + 1, x, h => by
    simp only [List.map_cons, RepRow] at hr
    have := row_str hr.2 j x (by simpa using h)
    rw [show o + (j + 1) = o + 1 + j by omega]
    exact this
theorem frm_of_below {w w' : World} (h : Below w.heap.size w w') : Frm (fun _ => False) w w' := by
  obtain ⟨h1, h2, h3, h4, h5⟩ := h
  exact ⟨h1, h2, h3, h4, fun k hk _ => h5 k hk⟩
theorem stringsJoin_ok : FnOk Tryz.prog 145 mJoin := by
  refine mk_ok fun ⟨nl, ws, by'⟩ ⟨hN, hL⟩ => ?_
  simp only at hN hL
  refine ⟨⟨_, Tryz.func145, by kernel_rfl, by kernel_rfl⟩, fun w F vals hF hv => ?_⟩
  simp only [strs, RepL, Rep, str] at hv
  obtain ⟨v1, r1, e1, ⟨a, len, cap, rfl, hlen, hcap, _, hrow⟩, v2, r2, rfl, ⟨rfl, _⟩, rfl⟩ := hv
  have hvals : vals = #[.slice a len cap, .string by'] := by apply Array.ext'; rw [e1]
  subst hvals
  simp only [List.length_map] at hlen
  subst hlen
  have key : Calls Tryz.prog 145 #[.slice a ws.length cap, .string by'] w fun e w' => e = .returned (.string (joinS ws by')) ∧ Below w.heap.size w w' := by
    cases hws : ws with
    | nil =>
      subst hws
      refine (Go.Proofs.Any.strings_Join_none Tryz.laysJoin Tryz.extraJoin a cap by' w).mono fun e w' h => ?_
      obtain ⟨rfl, rfl⟩ := h
      exact ⟨rfl, Below.refl _ _⟩
    | cons x ws' =>
      rw [← hws]
      have hne : ws ≠ [] := by rw [hws]; simp
      rcases hrow with ⟨_, _, h0, _⟩ | ⟨b, o, rfl, _, hrow⟩ | ⟨_, _, h0⟩
      · rw [hws] at h0; simp at h0
      · have hc := row_str (ws := ws) hrow
        refine (Go.Proofs.Any.strings_Join Tryz.laysJoin Tryz.extraJoin b o cap ws by' w (fun j x h => (hc j x h).1) (hF.lt b (hc 0 x (by rw [hws]; rfl)).2) hN hcap hL).mono fun e w' h => ?_
        exact h
      · exact absurd (List.map_eq_nil_iff.1 h0) hne
  refine key.mono fun e w' h => ?_
  obtain ⟨rfl, hb⟩ := h
  exact ⟨_, fun _ => False, rfl, frm_of_below hb, fun _ h => h.elim, by simp [Own, Value.oneCell']⟩
theorem implJoin_ok : FnOk Tryz.prog 67 mJoin := by
  refine mk_ok fun ⟨nl, ws, by'⟩ h => ?_
  have hG : FnsOk Tryz.prog [(145, mJoin)] := (.cons stringsJoin_ok .nil)
  refine callOk_awp (ctx_ok eqOk hG) mixed (live := [true, true, false, false, true]) (dt := []) Tryz.func67 rfl (by kernel_rfl) (by kernel_rfl) fun w0 hlens => ?_
  clear hlens
  have hm := mJoin_at nl ws by' h
  simp (config := {contextual := true}) [Tryz.f67, List.range, List.range.loop, ints, intss, int, bool, row, frac, fracs, ← List.map_take, ← List.map_drop, strs, str, hm]
  done
end Go.Proofs.YtkfmhpgnhkdebaaGreatDoor.Ax
namespace Go.Proofs.YtkfmhpgnhkdebaaGreatDoor.Ax
open Go Go.RowKit
set_option linter.unusedSimpArgs false
theorem bl_mk (l : List UInt8) : bl ⟨l.toArray⟩ = l := by simp [bl]
theorem size_bl (s : ByteArray) : s.size = (bl s).length := by unfold bl; rw [Array.length_toList]; rfl
end Go.Proofs.YtkfmhpgnhkdebaaGreatDoor.Ax
