/- chain: the law ChainTurns. -/
import Derived.Test.YtiklbnianbejdaaChainC
set_option linter.unusedSimpArgs false
set_option maxRecDepth 20000
set_option linter.unusedVariables false
namespace Go.Proofs.Ytiklbnianbejdaa.Ch
open Go Go.Eng Go.RowKit

theorem addS_len (cs : List Cell) (n : Int) : (addS cs n).length = cs.length + 1 := by simp [addS]
theorem cellsameself_pcon (a : List Cell) (f g : Bool) (ha : a.length * 32 ≤ 140737488355328) : PCon Try.prog 35 [cellX f a, cellX g a] (Bo true) [] := by
  have := refsame_pcon a a f g ha
  rwa [show (a == a) = true by simp] at this
end Go.Proofs.Ytiklbnianbejdaa.Ch
