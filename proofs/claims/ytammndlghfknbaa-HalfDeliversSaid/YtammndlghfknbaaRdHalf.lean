/- What the half edges' statements are handed: messages and edges, read out of the world. -/
import Derived.Test.YtammndlghfknbaaEngW
import Derived.Test.YtammndlghfknbaaHalfA
set_option linter.unusedSimpArgs false
set_option maxRecDepth 20000
set_option linter.unusedVariables false
namespace Go.Proofs.Ytammndlghfknbaa
open Go Go.Eng Go.RowKit

def w64 (n : Int) : Prop := -9223372036854775808 ≤ n ∧ n < 9223372036854775808
theorem int_rd : Rd Try.prog 3 w64 fun n => [I n] := Rd.i64 Try.underlying3
def Msg.w (m : Msg) : Prop := w64 m.kind ∧ w64 m.obj ∧ w64 m.node ∧ w64 m.num ∧ w64 m.whr
theorem msg_rd : Rd Try.prog 26 Msg.w Msg.row :=
  (Rd.struct Try.underlying26 (by kernel_rfl : _ = 5)
    (.cons (wd := 1) rfl (by kernel_rfl) int_rd (.cons (wd := 1) rfl (by kernel_rfl) int_rd (.cons (wd := 1) rfl (by kernel_rfl) int_rd (.cons (wd := 1) rfl (by kernel_rfl) int_rd (.cons (wd := 1) rfl (by kernel_rfl) int_rd .nil)))))).map
    (fun p => (⟨p.1, p.2.1, p.2.2.1, p.2.2.2.1, p.2.2.2.2.1⟩ : Msg)) fun p h => ⟨⟨h.1, h.2.1, h.2.2.1, h.2.2.2.1, h.2.2.2.2.1⟩, rfl⟩
theorem msgs_rd : Rd Try.prog 22 (fun ms : List Msg => (∀ m ∈ ms, m.w) ∧ ms.length * 40 ≤ 140737488351232 ∧ ms.length < 9223372036854775808) fun ms => [.ext false 5 (ms.map Msg.row)] :=
  Rd.slice 5 40 Try.underlying22 (by kernel_rfl) (by kernel_rfl) (by decide) (fun _ => rfl) msg_rd
def Edge.row (e : Edge) : List Sv := [I e.peer, I e.base, .ext false 5 (e.out.map Msg.row), I e.seen]
structure Edge.w (e : Edge) : Prop where
  peer : w64 e.peer
  base : w64 e.base
  seen : w64 e.seen
  out : ∀ m ∈ e.out, m.w
  size : e.out.length * 40 ≤ 140737488351232
theorem edge_rd : Rd Try.prog 24 Edge.w Edge.row :=
  (Rd.struct Try.underlying24 (by kernel_rfl : _ = 4)
    (.cons (wd := 1) rfl (by kernel_rfl) int_rd (.cons (wd := 1) rfl (by kernel_rfl) int_rd (.cons (wd := 1) rfl (by kernel_rfl) msgs_rd (.cons (wd := 1) rfl (by kernel_rfl) int_rd .nil))))).map
    (fun p => (⟨p.1, p.2.1, p.2.2.1, p.2.2.2.1⟩ : Edge)) fun p h => ⟨⟨h.1, h.2.1, h.2.2.2.1, h.2.2.1.1, h.2.2.1.2.1⟩, rfl⟩
end Go.Proofs.Ytammndlghfknbaa
