/-
  Contracts: strings.Index, at one byte. No condition.
-/
import Derived.Test.YtblnpjppckfmfaaDoorCG216
import Derived.Ground.NamesProg
import Derived.Shelf.Strings.Search3
namespace Go.Proofs
open Go.Shelf
def Tryd.laysIndex_ren : Go.Shelf.Ren := ⟨fun | 143 => 57 | 219 => 75 | 217 => 93 | 225 => 94 | 224 => 95 | 267 => 96 | 266 => 109 | 314 => 110 | n => n, fun | 9 => 9 | 3 => 3 | 4 => 4 | 5 => 5 | 46 => 99 | 146 => 120 | 51 => 119 | n => n, fun | 1 => 2 | n => n⟩
theorem Tryd.laysIndex : Go.Proofs.Lays.n143 Tryd.prog Tryd.laysIndex_ren := {
  mixed := by kernel_rfl
  f143 := Tryd.func57.trans (congrArg some (by kernel_rfl))
  f217 := Tryd.func93.trans (congrArg some (by kernel_rfl))
  f219 := Tryd.func75.trans (congrArg some (by kernel_rfl))
  f224 := Tryd.func95.trans (congrArg some (by kernel_rfl))
  f225 := Tryd.func94.trans (congrArg some (by kernel_rfl))
  f266 := Tryd.func109.trans (congrArg some (by kernel_rfl))
  f267 := Tryd.func96.trans (congrArg some (by kernel_rfl))
  f314 := Tryd.func110.trans (congrArg some (by kernel_rfl))
  t3 := Tryd.underlying3
  a3 := Tryd.isAgg3
  z3 := Tryd.sizeOf3
  v3 := Tryd.zeroValue3
  t4 := Tryd.underlying4
  a4 := Tryd.isAgg4
  z4 := Tryd.sizeOf4
  v4 := Tryd.zeroValue4
  t5 := Tryd.underlying5
  a5 := Tryd.isAgg5
  z5 := Tryd.sizeOf5
  v5 := Tryd.zeroValue5
  t9 := Tryd.underlying9
  a9 := Tryd.isAgg9
  z9 := Tryd.sizeOf9
  v9 := Tryd.zeroValue9
  t46 := Tryd.underlying99
  a46 := Tryd.isAgg99
  z46 := Tryd.sizeOf99
  v46 := Tryd.zeroValue99
  t51 := Tryd.underlying119
  a51 := Tryd.isAgg119
  z51 := Tryd.sizeOf119
  v51 := Tryd.zeroValue119
  t146 := Tryd.underlying120
  a146 := Tryd.isAgg120
  z146 := Tryd.sizeOf120
  v146 := Tryd.zeroValue120
  g1 := by kernel_rfl }
end Go.Proofs
namespace Go.Proofs.YtblnpjppckfmfaaDoor.Ax
open Go Go.RowKit
set_option linter.unusedSimpArgs false

noncomputable def mIdx : List AV → Option AV := mk (fun _ => True) (fun (p : ByteArray × UInt8) => [str p.1, str ⟨#[p.2]⟩]) (fun p => int (Lib.indexByte (bl p.1) p.2))
theorem mIdx_at (s : ByteArray) (c : UInt8) : mIdx [.v (.string s), .v (.string ⟨#[c]⟩)] = some (.v (.int .i64 (Lib.indexByte (bl s) c))) :=
  mk_eq (enc := fun (p : ByteArray × UInt8) => [str p.1, str ⟨#[p.2]⟩]) (x := (s, c)) (by
    rintro ⟨a, b⟩ ⟨a', b'⟩ h
    simp [str] at h
    rw [h.1, h.2]) trivial

theorem index_ok : FnOk Tryd.prog 57 mIdx := by
  refine mk_ok fun ⟨s, c⟩ _ => ?_
  refine ⟨⟨_, Tryd.func57, by kernel_rfl, by kernel_rfl⟩, fun w F vals hF hv => ?_⟩
  simp only [RepL, Rep, str] at hv
  obtain ⟨v1, r1, e1, ⟨rfl, _⟩, v2, r2, rfl, ⟨rfl, _⟩, rfl⟩ := hv
  have hvals : vals = #[.string s, .string ⟨#[c]⟩] := by apply Array.ext'; rw [e1]
  subst hvals
  refine (Go.Proofs.Any.strings_Index_one Tryd.laysIndex s c w).mono fun e w' h => ?_
  obtain ⟨rfl, rfl⟩ := h
  exact ⟨_, fun _ => False, rfl, Frm.refl _ _, fun _ h => h.elim, by simp [Own, int, Value.oneCell', bl]⟩

/-- Where a byte lies first. -/
theorem idx_facts {l : List UInt8} {c : UInt8} : (Lib.indexByte l c = -1 ∧ ∀ x ∈ l, x ≠ c) ∨ ∃ k : Nat, Lib.indexByte l c = k ∧ ∃ h : k < l.length, l[k] = c ∧ ∀ j (hj : j < k), l[j] ≠ c := by
  induction l with
  | nil => exact .inl ⟨rfl, fun x hx => by simp at hx⟩
  | cons b l ih =>
    by_cases hb : b = c
    · subst hb
      exact .inr ⟨0, by simp [Lib.indexByte], by simp, rfl, fun j hj => by omega⟩
    · have hbb : (b == c) = false := by simpa using hb
      rcases ih with ⟨h1, h2⟩ | ⟨k, h1, h2, h3, h4⟩
      · refine .inl ⟨by simp [Lib.indexByte, hbb, h1], fun x hx => ?_⟩
        rcases List.mem_cons.1 hx with rfl | hx
        · exact hb
        · exact h2 x hx
      · refine .inr ⟨k + 1, ?_, by simp; exact h2, by simpa using h3, fun j hj => ?_⟩
        · have : ¬ ((k : Int) = -1) := by omega
          simp [Lib.indexByte, hbb, h1, this]
        · cases j with
          | zero => simpa using hb
          | succ j => simpa using h4 j (by omega)

end Go.Proofs.YtblnpjppckfmfaaDoor.Ax
