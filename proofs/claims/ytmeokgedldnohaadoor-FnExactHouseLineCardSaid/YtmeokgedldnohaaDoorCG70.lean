/-
  Contracts: decimal numerals (strconv.Itoa; both programs' FormatInt). No condition.
-/
import Derived.Test.YtmeokgedldnohaaDoorCG8
import Derived.Shelf.Lay
import Derived.Ground.NamesProg
import Derived.Shelf.LaysM
import Derived.Shelf.Strconv.Itoa3
namespace Go.Proofs
shelf_lay LaysM.n171 Nm 171 at Tryd as Tryd.laysM171
end Go.Proofs
namespace Go.Proofs.YtmeokgedldnohaaDoor.Ax
open Go Go.RowKit
set_option linter.unusedSimpArgs false

def inI (n : Int) : Prop := -9223372036854775808 ≤ n ∧ n ≤ 9223372036854775807
def itoaS (n : Int) : ByteArray := ⟨(Lib.itoa n).toArray⟩

theorem tab_of {F : Nat → Prop} {w : World} (h : Gl F w) : Lib.TabIs Tryd.prog w "internal/strconv.uint64pow10" .u64 Lib.pow10Tab := by
  cases hg : Tryd.prog.globalNamed "internal/strconv.uint64pow10" with
  | none => exact absurd (show (Tryd.prog.globalNamed "internal/strconv.uint64pow10").isSome = true by kernel_rfl) (by rw [hg]; simp)
  | some g =>
    obtain ⟨_, x, y, h2⟩ := h g hg
    unfold Lib.TabIs World.var?
    rw [hg]
    simp [h2]

noncomputable def mItoa : List AV → Option AV := mk inI (fun (n : Int) => [int n]) (fun n => .v (.string (itoaS n)))
theorem mItoa_at (n : Int) (h : inI n) : mItoa [.v (.int .i64 n)] = some (.v (.string (itoaS n))) :=
  mk_eq (enc := fun (n : Int) => [int n]) (x := n) (by intro a b h; simp [int] at h; rw [h]) h

theorem itoa_ok : FnOk Tryd.prog 94 mItoa := by
  refine mk_ok fun n hn => ?_
  refine ⟨⟨_, Tryd.func94, by kernel_rfl, by kernel_rfl⟩, fun w F vals hF hv => ?_⟩
  simp only [RepL, Rep, int] at hv
  obtain ⟨a, r1, e1, ⟨rfl, _⟩, rfl⟩ := hv
  have hvals : vals = #[.int .i64 n] := by apply Array.ext'; rw [e1]
  subst hvals
  refine (Go.Proofs.Any.strconv_Itoa Tryd.laysM171 n hn.1 hn.2 w (tab_of hF.gl)).mono fun e w' h => ?_
  obtain ⟨rfl, k, os, rfl⟩ := h
  refine ⟨_, fun _ => False, rfl, ⟨rfl, rfl, rfl, by simp [Go.Sort.grow, World.drewN], fun b hb _ => ?_⟩, fun _ h => h.elim, ?_⟩
  · simp [Go.Sort.grow, World.drewN, Array.getElem?_append, hb]
  · simp only [Own]; exact ⟨rfl, rfl⟩

theorem implFormatInt_ok : FnOk Tryd.prog 54 mItoa := by
  refine mk_ok fun n hn => ?_
  have hG : FnsOk Tryd.prog [(94, mItoa)] := (.cons itoa_ok .nil)
  refine callOk_awp (ctx_ok eqOk hG) mixed (live := [true, false, true]) (dt := []) Tryd.func54 rfl (by kernel_rfl) (by kernel_rfl) fun w0 hlens => ?_
  clear hlens
  have hm := mItoa_at n hn
  simp (config := {contextual := true}) [Tryd.f54, List.range, List.range.loop, ints, intss, int, bool, row, frac, fracs, ← List.map_take, ← List.map_drop, hm]
  done

end Go.Proofs.YtmeokgedldnohaaDoor.Ax
