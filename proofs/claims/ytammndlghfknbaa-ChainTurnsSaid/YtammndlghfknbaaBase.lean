/- What the seats' texts have in common. -/
import Derived.Test.YtammndlghfknbaaEngK
import Derived.Test.YtammndlghfknbaaEngTab
set_option linter.unusedSimpArgs false
set_option linter.unusedVariables false
namespace Go.Proofs.Ytammndlghfknbaa
open Go Go.Eng Go.RowKit

abbrev I (n : Int) : Sv := .val (.int .i64 n)
abbrev Bo (b : Bool) : Sv := .val (.bool b)
theorem wrap64 {n : Int} (h : -9223372036854775808 ≤ n) (h' : n < 9223372036854775808) : IntKind.i64.wrap n = n := by
  simp [IntKind.wrap, IntKind.bits, IntKind.signed]
  omega
theorem wrapN {i : Nat} (h : i + 1 < 9223372036854775808) : IntKind.i64.wrap ((i : Int) + 1) = ((i + 1 : Nat) : Int) := by
  rw [wrap64 (by omega) (by omega)]; rfl
/-- A block of rows that name no local block. -/
abbrev mkB (e wd : Nat) (rows : List (List Sv)) : Blk := ⟨e, wd, true, true, rows⟩
theorem eqTys_ok : eqTys.all (eqOk Try.prog) = true := by kernel_rfl
theorem eqOk_of {t : Nat} (h : eqTys.contains t = true) : eqOk gm.P t = true := List.all_eq_true.1 eqTys_ok t (by simpa using h)
end Go.Proofs.Ytammndlghfknbaa
