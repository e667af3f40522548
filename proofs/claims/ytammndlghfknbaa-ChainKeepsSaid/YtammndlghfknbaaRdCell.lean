/- What the chain's statements are handed: cells, read out of the world. -/
import Derived.Test.YtammndlghfknbaaEngW
import Derived.Test.YtammndlghfknbaaCell
set_option linter.unusedSimpArgs false
set_option maxRecDepth 20000
set_option linter.unusedVariables false
namespace Go.Proofs.Ytammndlghfknbaa
open Go Go.Eng Go.RowKit

def w64 (n : Int) : Prop := -9223372036854775808 ≤ n ∧ n < 9223372036854775808
theorem int_rd : Rd Try.prog 3 w64 fun n => [I n] := Rd.i64 Try.underlying3
theorem bool_rd : Rd Try.prog 4 (fun _ : Bool => True) fun b => [Bo b] := Rd.bool Try.underlying4
def Cell.w (m : Cell) : Prop := w64 m.num ∧ w64 m.state ∧ w64 m.node ∧ w64 m.next
theorem cell_rd : Rd Try.prog 61 Cell.w Cell.row :=
  (Rd.struct Try.underlying61 (by kernel_rfl : _ = 4)
    (.cons (wd := 1) rfl (by kernel_rfl) int_rd (.cons (wd := 1) rfl (by kernel_rfl) int_rd (.cons (wd := 1) rfl (by kernel_rfl) int_rd (.cons (wd := 1) rfl (by kernel_rfl) int_rd .nil))))).map
    (fun p => (⟨p.1, p.2.1, p.2.2.1, p.2.2.2.1⟩ : Cell)) fun p h => ⟨⟨h.1, h.2.1, h.2.2.1, h.2.2.2.1⟩, rfl⟩
theorem cells_rd : Rd Try.prog 51 (fun cs : List Cell => (∀ c ∈ cs, c.w) ∧ cs.length * 32 ≤ 140737488351232 ∧ cs.length < 9223372036854775808) fun cs => [cellX false cs] :=
  Rd.slice 4 32 Try.underlying51 (by kernel_rfl) (by kernel_rfl) (by decide) (fun _ => rfl) cell_rd
theorem bools_rd : Rd Try.prog 65 (fun bs : List Bool => (∀ b ∈ bs, True) ∧ bs.length * 1 ≤ 140737488351232 ∧ bs.length < 9223372036854775808) fun bs => [.ext false 1 (bs.map fun b => [Bo b])] :=
  Rd.slice 1 1 Try.underlying65 (by kernel_rfl) (by kernel_rfl) (by decide) (fun _ => rfl) bool_rd
end Go.Proofs.Ytammndlghfknbaa
