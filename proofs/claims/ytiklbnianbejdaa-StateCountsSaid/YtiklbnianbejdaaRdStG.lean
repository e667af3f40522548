/- States, for good. -/
import Derived.Test.YtiklbnianbejdaaRdSt
import Derived.Test.YtiklbnianbejdaaUp
set_option linter.unusedSimpArgs false
set_option maxRecDepth 20000
set_option linter.unusedVariables false
namespace Go.Proofs.Ytiklbnianbejdaa
open Go Go.Eng Go.RowKit

theorem upR_rows {α : Type} {f g : α → List Sv} (h : ∀ x, upL (f x) = g x) (l : List α) : upR (l.map f) = l.map g := by
  rw [upR_map, List.map_map]
  exact List.map_congr_left fun x _ => h x
theorem up_ow (o : Ow) : upL (Ow.row false o) = Ow.row true o := by
  simp only [Ow.row, upL, Sv.up, upR_rows (f := Ch.Cell.row) (g := Ch.Cell.row) fun _ => rfl]
theorem up_ed (o : Hf.Edge) : upL (edRow false o) = edRow true o := by
  simp only [edRow, upL, Sv.up, upR_rows (f := Hf.Msg.row) (g := Hf.Msg.row) fun _ => rfl]
theorem up_sta (s : Sta) : upL (Sta.row false s) = Sta.row true s := by
  simp only [Sta.row, upL, Sv.up, upR_rows up_ow, upR_rows up_ed, upR_rows (f := Asq.row) (g := Asq.row) fun _ => rfl, upR_rows (f := Fnd.row) (g := Fnd.row) fun _ => rfl]
theorem up_ints (ps : List Int) : upR (intR ps) = intR ps := upR_rows (f := fun p => [I p]) (g := fun p => [I p]) (fun _ => rfl) ps
end Go.Proofs.Ytiklbnianbejdaa
