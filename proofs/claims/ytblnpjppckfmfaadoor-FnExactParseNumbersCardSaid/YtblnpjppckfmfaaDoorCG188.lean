/-
  Six words joined. Plain Lean, no program in sight.
-/
import Derived.Test.YtblnpjppckfmfaaDoorCG105
import Derived.Test.YtblnpjppckfmfaaDoorCG75
namespace Go.Proofs.YtblnpjppckfmfaaDoor.Ax
open Go Go.RowKit
set_option linter.unusedSimpArgs false

theorem bl_inj {a b : ByteArray} (h : bl a = bl b) : a = b := by
  obtain ⟨⟨a⟩⟩ := a
  obtain ⟨⟨b⟩⟩ := b
  simp [bl] at h
  rw [h]
theorem bl_app {a b : ByteArray} : bl (a ++ b) = bl a ++ bl b := by
  simp [bl, ByteArray.data_append]
theorem join6 {a b c d e f s : ByteArray} : joinS [a, b, c, d, e, f] s = a ++ s ++ b ++ s ++ c ++ s ++ d ++ s ++ e ++ s ++ f := by
  apply bl_inj
  simp only [bl_app]
  unfold joinS
  rw [bl_mk]
  simp [Lib.join_cons, Lib.joinTail, List.append_assoc]


end Go.Proofs.YtblnpjppckfmfaaDoor.Ax
