/- What the tree's statements are handed: lists of numbers, numbers, ends; read out of the world. -/
import Derived.Test.YtiklbnianbejdaaEngW
import Derived.Test.YtiklbnianbejdaaTree1
set_option linter.unusedSimpArgs false
set_option maxRecDepth 20000
set_option linter.unusedVariables false
namespace Go.Proofs.Ytiklbnianbejdaa
open Go Go.Eng Go.RowKit

def w64 (n : Int) : Prop := -9223372036854775808 ≤ n ∧ n < 9223372036854775808
theorem int_rd : Rd Try.prog 3 w64 fun n => [I n] := Rd.i64 Try.underlying3
theorem ints_rd : Rd Try.prog 22 (fun ps : List Int => (∀ p ∈ ps, w64 p) ∧ ps.length * 8 ≤ 140737488351232 ∧ ps.length < 9223372036854775808) fun ps => [intX false ps] :=
  Rd.slice 1 8 Try.underlying22 (by kernel_rfl) (by kernel_rfl) (by decide) (fun _ => rfl) int_rd
structure TEnds where
  a : Int
  b : Int
  c : Int
def TEnds.row (x : TEnds) : List Sv := [I x.a, I x.b, I x.c]
def TEnds.w (x : TEnds) : Prop := w64 x.a ∧ w64 x.b ∧ w64 x.c
end Go.Proofs.Ytiklbnianbejdaa
