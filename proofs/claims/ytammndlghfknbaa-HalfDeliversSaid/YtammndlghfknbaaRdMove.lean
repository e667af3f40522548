/- What HalfDelivers is handed: moves, read out of the world. -/
import Derived.Test.YtammndlghfknbaaRdHalf
import Derived.Test.YtammndlghfknbaaHalfD
set_option linter.unusedSimpArgs false
set_option maxRecDepth 20000
set_option linter.unusedVariables false
namespace Go.Proofs.Ytammndlghfknbaa
open Go Go.Eng Go.RowKit

def Mv.w (m : Mv) : Prop := w64 m.kind ∧ w64 m.at_ ∧ w64 m.num
theorem move_rd : Rd Try.prog 46 Mv.w Mv.row :=
  (Rd.struct Try.underlying46 (by kernel_rfl : _ = 3)
    (.cons (wd := 1) rfl (by kernel_rfl) int_rd (.cons (wd := 1) rfl (by kernel_rfl) int_rd (.cons (wd := 1) rfl (by kernel_rfl) int_rd .nil)))).map
    (fun p => (⟨p.1, p.2.1, p.2.2.1⟩ : Mv)) fun p h => ⟨⟨h.1, h.2.1, h.2.2.1⟩, rfl⟩
theorem moves_rd : Rd Try.prog 43 (fun ms : List Mv => (∀ m ∈ ms, m.w) ∧ ms.length * 24 ≤ 140737488351232 ∧ ms.length < 9223372036854775808) fun ms => [.ext false 3 (ms.map Mv.row)] :=
  Rd.slice 3 24 Try.underlying43 (by kernel_rfl) (by kernel_rfl) (by decide) (fun _ => rfl) move_rd
end Go.Proofs.Ytammndlghfknbaa
