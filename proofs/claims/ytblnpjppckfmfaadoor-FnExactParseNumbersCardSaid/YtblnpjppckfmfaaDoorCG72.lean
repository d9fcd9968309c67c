/-
  Contracts: strings.Join; both programs' Join. No condition.
-/
import Derived.Test.YtblnpjppckfmfaaDoorCG8
import Derived.Ground.NamesProg
import Derived.Shelf.Strings.OnBuilder
namespace Go.Proofs
open Go.Shelf
def Tryd.laysJoin_ren : Go.Shelf.Ren := ⟨fun | 156 => 70 | 165 => 88 | 166 => 89 | 169 => 90 | 240 => 106 | 241 => 107 | 276 => 118 | 277 => 119 | n => n, fun | 31 => 36 | 9 => 9 | 3 => 3 | 4 => 4 | 0 => 0 | 20 => 20 | 72 => 93 | 76 => 54 | 70 => 91 | 37 => 68 | 75 => 53 | 127 => 117 | 164 => 132 | 5 => 5 | 80 => 95 | n => n, fun | n => n⟩
theorem Tryd.laysJoin : Go.Proofs.Lays.n156 Tryd.prog Tryd.laysJoin_ren := {
  mixed := by kernel_rfl
  f156 := Tryd.func70.trans (congrArg some (by kernel_rfl))
  f165 := Tryd.func88.trans (congrArg some (by kernel_rfl))
  f166 := Tryd.func89.trans (congrArg some (by kernel_rfl))
  f169 := Tryd.func90.trans (congrArg some (by kernel_rfl))
  f240 := Tryd.func106.trans (congrArg some (by kernel_rfl))
  f241 := Tryd.func107.trans (congrArg some (by kernel_rfl))
  f276 := Tryd.func118.trans (congrArg some (by kernel_rfl))
  f277 := Tryd.func119.trans (congrArg some (by kernel_rfl))
  t0 := Tryd.underlying0
  a0 := Tryd.isAgg0
  z0 := Tryd.sizeOf0
  v0 := Tryd.zeroValue0
  t3 := Tryd.underlying3
  a3 := Tryd.isAgg3
  z3 := Tryd.sizeOf3
  v3 := Tryd.zeroValue3
  t4 := Tryd.underlying4
  a4 := Tryd.isAgg4
  z4 := Tryd.sizeOf4
  v4 := Tryd.zeroValue4
  t9 := Tryd.underlying9
  a9 := Tryd.isAgg9
  z9 := Tryd.sizeOf9
  v9 := Tryd.zeroValue9
  t20 := Tryd.underlying20
  a20 := Tryd.isAgg20
  z20 := Tryd.sizeOf20
  v20 := Tryd.zeroValue20
  t31 := Tryd.underlying36
  a31 := Tryd.isAgg36
  z31 := Tryd.sizeOf36
  v31 := Tryd.zeroValue36
  t37 := Tryd.underlying68
  a37 := Tryd.isAgg68
  z37 := Tryd.sizeOf68
  v37 := Tryd.zeroValue68
  t70 := Tryd.underlying91
  a70 := Tryd.isAgg91
  z70 := Tryd.sizeOf91
  v70 := Tryd.zeroValue91
  t72 := Tryd.underlying93
  a72 := Tryd.isAgg93
  z72 := Tryd.sizeOf93
  v72 := Tryd.zeroValue93
  t75 := Tryd.underlying53
  a75 := Tryd.isAgg53
  z75 := Tryd.sizeOf53
  v75 := Tryd.zeroValue53
  t76 := Tryd.underlying54
  a76 := Tryd.isAgg54
  z76 := Tryd.sizeOf54
  v76 := Tryd.zeroValue54
  t127 := Tryd.underlying117
  a127 := Tryd.isAgg117
  z127 := Tryd.sizeOf117
  v127 := Tryd.zeroValue117
  t164 := Tryd.underlying132
  a164 := Tryd.isAgg132
  z164 := Tryd.sizeOf132
  v164 := Tryd.zeroValue132 }
theorem Tryd.extraJoin : Builder.Extra Tryd.prog Tryd.laysJoin_ren where
  sizeBuilder := by kernel_rfl
  liesBuilder := by kernel_rfl
  t5 := by kernel_rfl
  a5 := fun _ => YtblnpjppckfmfaaDoor.Ax.run_isAgg (YtblnpjppckfmfaaDoor.Ax.tyOf_ok YtblnpjppckfmfaaDoor.Ax.ty5)
  z5 := fun _ => YtblnpjppckfmfaaDoor.Ax.run_size (YtblnpjppckfmfaaDoor.Ax.tyOf_ok YtblnpjppckfmfaaDoor.Ax.ty5)
  v5 := fun _ => YtblnpjppckfmfaaDoor.Ax.run_zero (YtblnpjppckfmfaaDoor.Ax.tyOf_ok YtblnpjppckfmfaaDoor.Ax.ty5)
  infoByte := by kernel_rfl
  cellsByte := by kernel_rfl
  sizeByte := by kernel_rfl
  neB5 := by decide
end Go.Proofs
namespace Go.Proofs.YtblnpjppckfmfaaDoor.Ax
open Go Go.RowKit
set_option linter.unusedSimpArgs false

def str (s : ByteArray) : AV := .v (.string s)
def strs (nl : Bool) (ws : List ByteArray) : AV := .sl nl 1 (ws.map str)
theorem map_str_inj {a b : List ByteArray} : a.map str = b.map str ↔ a = b := by
  constructor
  · exact fun h => (List.map_inj_right (f := str) (fun x y h => by simpa [str] using h)).1 h
  · rintro rfl; rfl

def bl (s : ByteArray) : List UInt8 := s.data.toList
def joinS (ws : List ByteArray) (by' : ByteArray) : ByteArray := ⟨(Lib.join (ws.map bl) (bl by')).toArray⟩
/-- The text is not too long. -/
def joinOk (ws : List ByteArray) (by' : ByteArray) : Prop := ws.length ≤ 140737488355328 ∧ (Lib.join (ws.map bl) (bl by')).length ≤ 140737488355328

noncomputable def mJoin : List AV → Option AV := mk (fun p => joinOk p.2.1 p.2.2) (fun (p : Bool × List ByteArray × ByteArray) => [strs p.1 p.2.1, str p.2.2]) (fun p => .v (.string (joinS p.2.1 p.2.2)))
theorem mJoin_at (nl : Bool) (ws : List ByteArray) (by' : ByteArray) (h : joinOk ws by') : mJoin [.sl nl 1 (ws.map str), .v (.string by')] = some (.v (.string (joinS ws by'))) :=
  mk_eq (enc := fun (p : Bool × List ByteArray × ByteArray) => [strs p.1 p.2.1, str p.2.2]) (x := (nl, ws, by')) (by rintro ⟨a, b, c⟩ ⟨d, e, f⟩ h; simp [strs, str] at h; simp [map_str_inj.1 (by simpa [str] using h.1.2), h]) h

theorem row_str {w : World} {F : Nat → Prop} {b : Nat} : ∀ {ws : List ByteArray} {o : Nat}, RepRow w F b 1 o (ws.map str) → ∀ (j : Nat) (x : ByteArray), ws[j]? = some x → w.cell? ⟨b, o + j, none⟩ = some (.string x) ∧ F b
  | [], _, _, j, x, h => by simp at h
  | y :: ws, o, hr, 0, x, h => by
    simp only [List.map_cons, RepRow, str, Rep] at hr
    obtain ⟨⟨v, ⟨rfl, _⟩, _, _, hb, hat⟩, _⟩ := hr
    simp at h
    subst h
    exact ⟨hat 0 _ (by simp [Value.cells]), hb⟩
  | y :: ws, o, hr, j + 1, x, h => by
    simp only [List.map_cons, RepRow] at hr
    have := row_str hr.2 j x (by simpa using h)
    rw [show o + (j + 1) = o + 1 + j by omega]
    exact this

theorem frm_of_below {w w' : World} (h : Below w.heap.size w w') : Frm (fun _ => False) w w' := by
  obtain ⟨h1, h2, h3, h4, h5⟩ := h
  exact ⟨h1, h2, h3, h4, fun k hk _ => h5 k hk⟩

theorem stringsJoin_ok : FnOk Tryd.prog 70 mJoin := by
  refine mk_ok fun ⟨nl, ws, by'⟩ ⟨hN, hL⟩ => ?_
  simp only at hN hL
  refine ⟨⟨_, Tryd.func70, by kernel_rfl, by kernel_rfl⟩, fun w F vals hF hv => ?_⟩
  simp only [strs, RepL, Rep, str] at hv
  obtain ⟨v1, r1, e1, ⟨a, len, cap, rfl, hlen, hcap, _, hrow⟩, v2, r2, rfl, ⟨rfl, _⟩, rfl⟩ := hv
  have hvals : vals = #[.slice a len cap, .string by'] := by apply Array.ext'; rw [e1]
  subst hvals
  simp only [List.length_map] at hlen
  subst hlen
  have key : Calls Tryd.prog 70 #[.slice a ws.length cap, .string by'] w fun e w' => e = .returned (.string (joinS ws by')) ∧ Below w.heap.size w w' := by
    cases hws : ws with
    | nil =>
      subst hws
      refine (Go.Proofs.Any.strings_Join_none Tryd.laysJoin Tryd.extraJoin a cap by' w).mono fun e w' h => ?_
      obtain ⟨rfl, rfl⟩ := h
      exact ⟨rfl, Below.refl _ _⟩
    | cons x ws' =>
      rw [← hws]
      have hne : ws ≠ [] := by rw [hws]; simp
      rcases hrow with ⟨_, _, h0, _⟩ | ⟨b, o, rfl, _, hrow⟩ | ⟨_, _, h0⟩
      · rw [hws] at h0; simp at h0
      · have hc := row_str (ws := ws) hrow
        refine (Go.Proofs.Any.strings_Join Tryd.laysJoin Tryd.extraJoin b o cap ws by' w (fun j x h => (hc j x h).1) (hF.lt b (hc 0 x (by rw [hws]; rfl)).2) hN hcap hL).mono fun e w' h => ?_
        exact h
      · exact absurd (List.map_eq_nil_iff.1 h0) hne
  refine key.mono fun e w' h => ?_
  obtain ⟨rfl, hb⟩ := h
  exact ⟨_, fun _ => False, rfl, frm_of_below hb, fun _ h => h.elim, by simp [Own, Value.oneCell']⟩

theorem implJoin_ok : FnOk Tryd.prog 52 mJoin := by
  refine mk_ok fun ⟨nl, ws, by'⟩ h => ?_
  have hG : FnsOk Tryd.prog [(70, mJoin)] := (.cons stringsJoin_ok .nil)
  refine callOk_awp (ctx_ok eqOk hG) mixed (live := [true, true, false, false, true]) (dt := []) Tryd.func52 rfl (by kernel_rfl) (by kernel_rfl) fun w0 hlens => ?_
  clear hlens
  have hm := mJoin_at nl ws by' h
  simp (config := {contextual := true}) [Tryd.f52, List.range, List.range.loop, ints, intss, int, bool, row, frac, fracs, ← List.map_take, ← List.map_drop, strs, str, hm]
  done

theorem join_snoc {xs : List (List UInt8)} (h : xs ≠ []) (x sep : List UInt8) : Lib.join (xs ++ [x]) sep = Lib.join xs sep ++ sep ++ x := by
  cases xs with
  | nil => exact absurd rfl h
  | cons y r => simp [Lib.join_cons, Lib.joinTail]

end Go.Proofs.YtblnpjppckfmfaaDoor.Ax
