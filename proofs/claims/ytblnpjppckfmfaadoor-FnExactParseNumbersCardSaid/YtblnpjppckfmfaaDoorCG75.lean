/-
  Contracts: FormatTable (both programs). No condition.
-/
import Derived.Test.YtblnpjppckfmfaaDoorCG74
namespace Go.Proofs.YtblnpjppckfmfaaDoor.Ax
open Go Go.RowKit
set_option linter.unusedSimpArgs false

theorem numS_len {xs : List Int} (h : ∀ n ∈ xs, inI n) : (bl (numS xs)).length ≤ 21 * xs.length + 1 := by
  unfold numS
  split
  · exact Nat.le_add_left _ _
  · unfold joinS
    rw [bl_mk]
    have hl := join_len (c := 20) (sep := bl ⟨#[44]⟩) (ws := (xs.map itoaS).map bl) (by
      intro w hw
      simp only [List.map_map, List.mem_map, Function.comp_apply] at hw
      obtain ⟨n, hn, rfl⟩ := hw
      unfold itoaS; rw [bl_mk]
      exact itoa_len (h n hn))
    have e1 : (bl ⟨#[44]⟩).length = 1 := rfl
    rw [List.length_map, List.length_map, e1] at hl
    omega

def rowS (r : Bool × List Int) : ByteArray := numS r.2
def wr (r : Bool × List Int) : AV := .v (.string (rowS r))
def tabS (xss : List (Bool × List Int)) : ByteArray := if xss = [] then ⟨#[61]⟩ else joinS (xss.map rowS) ⟨#[59]⟩
def tabOk (xss : List (Bool × List Int)) : Prop := xss.length ≤ 1048576 ∧ ∀ r ∈ xss, r.2.length ≤ 1048576 ∧ ∀ n ∈ r.2, inI n
noncomputable def mFTab : List AV → Option AV := mk (fun p => tabOk p.2) (fun (p : (Bool) × (List (Bool × List Int))) => [intss p.1 p.2]) (fun p => .v (.string (tabS p.2)))
theorem mFTab_at (nl : Bool) (xss : List (Bool × List Int)) (hpre : tabOk xss) : mFTab [.sl nl 1 (xss.map row)] = some (.v (.string (tabS xss))) :=
  mk_eq (enc := fun (p : (Bool) × (List (Bool × List Int))) => [intss p.1 p.2]) (x := (nl, xss)) (by rintro ⟨a0, a1⟩ ⟨b0, b1⟩ h; simp [ints, intss, int, bool, row, frac, fracs, map_int_inj, map_row_inj, frac_inj, map_frac_inj] at h; simp [h]) hpre

theorem tab_join {xss : List (Bool × List Int)} (h : tabOk xss) : mJoin [.sl false 1 (xss.map wr), .v (.string ⟨#[59]⟩)] = some (.v (.string (joinS (xss.map rowS) ⟨#[59]⟩))) := by
  have h1 := h.1
  have hl := join_len (c := 22020097) (sep := bl ⟨#[59]⟩) (ws := (xss.map rowS).map bl) (by
    intro w hw
    simp only [List.map_map, List.mem_map, Function.comp_apply] at hw
    obtain ⟨r, hr, rfl⟩ := hw
    have := numS_len (h.2 r hr).2
    have := (h.2 r hr).1
    unfold rowS
    omega)
  have e1 : (bl ⟨#[59]⟩).length = 1 := rfl
  rw [List.length_map, List.length_map, e1] at hl
  have := mJoin_at false (xss.map rowS) ⟨#[59]⟩ ⟨by rw [List.length_map]; omega, by omega⟩
  rw [List.map_map] at this
  exact this

theorem row_need {xss : List (Bool × List Int)} {r : Bool × List Int} (h : r ∈ xss) : r.2.length ≤ rowSum xss xss.length := by
  obtain ⟨k, hk, rfl⟩ := List.getElem_of_mem h
  have h1 := rowSum_succ hk
  have h2 := rowSum_mono (xss := xss) (show k + 1 ≤ xss.length by omega)
  omega
theorem tab_own {xss : List (Bool × List Int)} (h : need xss ≤ 1048576) (hx : ∀ r ∈ xss, ∀ n ∈ r.2, inI n) : tabOk (own xss) := by
  unfold need at h
  refine ⟨by simp only [own, List.length_map]; omega, fun r hr => ?_⟩
  simp only [own, List.mem_map] at hr
  obtain ⟨p, hp, rfl⟩ := hr
  have h9 := row_need hp
  have h8 : p.2.length ≤ 1048576 := by omega
  exact ⟨h8, fun n hn => hx p hp n hn⟩

end Go.Proofs.YtblnpjppckfmfaaDoor.Ax
