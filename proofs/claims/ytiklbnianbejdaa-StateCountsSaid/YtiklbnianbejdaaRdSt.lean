/- What the states' statements are handed, read out of the world. -/
import Derived.Test.YtiklbnianbejdaaEngW
import Derived.Test.YtiklbnianbejdaaRdTree
import Derived.Test.YtiklbnianbejdaaSt1
set_option linter.unusedSimpArgs false
set_option maxRecDepth 20000
set_option linter.unusedVariables false
namespace Go.Proofs.Ytiklbnianbejdaa
open Go Go.Eng Go.RowKit

def msgw (m : Hf.Msg) : Prop := w64 m.kind ∧ w64 m.obj ∧ w64 m.node ∧ w64 m.num ∧ w64 m.whr
theorem msg_rd : Rd Try.prog 45 msgw Hf.Msg.row :=
  (Rd.struct Try.underlying45 (by kernel_rfl : _ = 5)
    (.cons (wd := 1) rfl (by kernel_rfl) int_rd (.cons (wd := 1) rfl (by kernel_rfl) int_rd (.cons (wd := 1) rfl (by kernel_rfl) int_rd (.cons (wd := 1) rfl (by kernel_rfl) int_rd (.cons (wd := 1) rfl (by kernel_rfl) int_rd .nil)))))).map
    (fun p => (⟨p.1, p.2.1, p.2.2.1, p.2.2.2.1, p.2.2.2.2.1⟩ : Hf.Msg)) fun p h => ⟨⟨h.1, h.2.1, h.2.2.1, h.2.2.2.1, h.2.2.2.2.1⟩, rfl⟩
theorem msgs_rd : Rd Try.prog 58 (fun ms : List Hf.Msg => (∀ m ∈ ms, msgw m) ∧ ms.length * 40 ≤ 140737488351232 ∧ ms.length < 9223372036854775808) fun ms => [.ext false 5 (ms.map Hf.Msg.row)] :=
  Rd.slice 5 40 Try.underlying58 (by kernel_rfl) (by kernel_rfl) (by decide) (fun _ => rfl) msg_rd
structure edw (e : Hf.Edge) : Prop where
  peer : w64 e.peer
  base : w64 e.base
  seen : w64 e.seen
  size : e.out.length * 40 ≤ 140737488351232
theorem edge_rd : Rd Try.prog 60 edw (edRow false) :=
  (Rd.struct Try.underlying60 (by kernel_rfl : _ = 4)
    (.cons (wd := 1) rfl (by kernel_rfl) int_rd (.cons (wd := 1) rfl (by kernel_rfl) int_rd (.cons (wd := 1) rfl (by kernel_rfl) msgs_rd (.cons (wd := 1) rfl (by kernel_rfl) int_rd .nil))))).map
    (fun p => (⟨p.1, p.2.1, p.2.2.1, p.2.2.2.1⟩ : Hf.Edge)) fun p h => ⟨⟨h.1, h.2.1, h.2.2.2.1, h.2.2.1.2.1⟩, rfl⟩
theorem edges_rd : Rd Try.prog 26 (fun l : List Hf.Edge => (∀ e ∈ l, edw e) ∧ l.length * 48 ≤ 140737488351232 ∧ l.length < 9223372036854775808) fun l => [.ext false 4 (l.map (edRow false))] :=
  Rd.slice 4 48 Try.underlying26 (by kernel_rfl) (by kernel_rfl) (by decide) (fun _ => rfl) edge_rd
def cellw (m : Ch.Cell) : Prop := w64 m.num ∧ w64 m.state ∧ w64 m.node ∧ w64 m.next
theorem cell_rd : Rd Try.prog 57 cellw Ch.Cell.row :=
  (Rd.struct Try.underlying57 (by kernel_rfl : _ = 4)
    (.cons (wd := 1) rfl (by kernel_rfl) int_rd (.cons (wd := 1) rfl (by kernel_rfl) int_rd (.cons (wd := 1) rfl (by kernel_rfl) int_rd (.cons (wd := 1) rfl (by kernel_rfl) int_rd .nil))))).map
    (fun p => (⟨p.1, p.2.1, p.2.2.1, p.2.2.2.1⟩ : Ch.Cell)) fun p h => ⟨⟨h.1, h.2.1, h.2.2.1, h.2.2.2.1⟩, rfl⟩
theorem cells_rd : Rd Try.prog 53 (fun cs : List Ch.Cell => (∀ c ∈ cs, cellw c) ∧ cs.length * 32 ≤ 140737488351232 ∧ cs.length < 9223372036854775808) fun cs => [Ch.cellX false cs] :=
  Rd.slice 4 32 Try.underlying53 (by kernel_rfl) (by kernel_rfl) (by decide) (fun _ => rfl) cell_rd
structure oww (o : Ow) : Prop where
  arrow : w64 o.arrow
  made : w64 o.made
  cells : ∀ c ∈ o.cells, cellw c
  size : o.cells.length * 32 ≤ 140737488351232
theorem own_rd : Rd Try.prog 55 oww (Ow.row false) :=
  (Rd.struct Try.underlying55 (by kernel_rfl : _ = 3)
    (.cons (wd := 1) rfl (by kernel_rfl) int_rd (.cons (wd := 1) rfl (by kernel_rfl) int_rd (.cons (wd := 1) rfl (by kernel_rfl) cells_rd .nil)))).map
    (fun p => (⟨p.1, p.2.1, p.2.2.1⟩ : Ow)) fun p h => ⟨⟨h.1, h.2.1, h.2.2.1.1, h.2.2.1.2.1⟩, rfl⟩
theorem owns_rd : Rd Try.prog 25 (fun l : List Ow => (∀ e ∈ l, oww e) ∧ l.length * 40 ≤ 140737488351232 ∧ l.length < 9223372036854775808) fun l => [.ext false 3 (l.map (Ow.row false))] :=
  Rd.slice 3 40 Try.underlying25 (by kernel_rfl) (by kernel_rfl) (by decide) (fun _ => rfl) own_rd
def askw (a : Asq) : Prop := w64 a.obj ∧ w64 a.num
theorem ask_rd : Rd Try.prog 64 askw Asq.row :=
  (Rd.struct Try.underlying64 (by kernel_rfl : _ = 2)
    (.cons (wd := 1) rfl (by kernel_rfl) int_rd (.cons (wd := 1) rfl (by kernel_rfl) int_rd .nil))).map
    (fun p => (⟨p.1, p.2.1⟩ : Asq)) fun p h => ⟨⟨h.1, h.2.1⟩, rfl⟩
theorem asks_rd : Rd Try.prog 27 (fun l : List Asq => (∀ e ∈ l, askw e) ∧ l.length * 16 ≤ 140737488351232 ∧ l.length < 9223372036854775808) fun l => [.ext false 2 (l.map Asq.row)] :=
  Rd.slice 2 16 Try.underlying27 (by kernel_rfl) (by kernel_rfl) (by decide) (fun _ => rfl) ask_rd
def fndw (a : Fnd) : Prop := w64 a.obj ∧ w64 a.num ∧ w64 a.whr
theorem fnd_rd : Rd Try.prog 62 fndw Fnd.row :=
  (Rd.struct Try.underlying62 (by kernel_rfl : _ = 3)
    (.cons (wd := 1) rfl (by kernel_rfl) int_rd (.cons (wd := 1) rfl (by kernel_rfl) int_rd (.cons (wd := 1) rfl (by kernel_rfl) int_rd .nil)))).map
    (fun p => (⟨p.1, p.2.1, p.2.2.1⟩ : Fnd)) fun p h => ⟨⟨h.1, h.2.1, h.2.2.1⟩, rfl⟩
theorem fnds_rd : Rd Try.prog 28 (fun l : List Fnd => (∀ e ∈ l, fndw e) ∧ l.length * 24 ≤ 140737488351232 ∧ l.length < 9223372036854775808) fun l => [.ext false 3 (l.map Fnd.row)] :=
  Rd.slice 3 24 Try.underlying28 (by kernel_rfl) (by kernel_rfl) (by decide) (fun _ => rfl) fnd_rd
structure Sta.w (s : Sta) : Prop where
  me : w64 s.me
  asked : w64 s.asked
  ows : ∀ o ∈ s.objs, oww o
  eds : ∀ e ∈ s.edges, edw e
  ask : ∀ a ∈ s.asks, askw a
  fnd : ∀ a ∈ s.got, fndw a
  sz : s.sz
theorem state_rd : Rd Try.prog 30 Sta.w (Sta.row false) :=
  (Rd.struct Try.underlying30 (by kernel_rfl : _ = 6)
    (.cons (wd := 1) rfl (by kernel_rfl) int_rd (.cons (wd := 1) rfl (by kernel_rfl) owns_rd (.cons (wd := 1) rfl (by kernel_rfl) edges_rd (.cons (wd := 1) rfl (by kernel_rfl) int_rd (.cons (wd := 1) rfl (by kernel_rfl) asks_rd (.cons (wd := 1) rfl (by kernel_rfl) fnds_rd .nil))))))).map
    (fun p => (⟨p.1, p.2.1, p.2.2.1, p.2.2.2.1, p.2.2.2.2.1, p.2.2.2.2.2.1⟩ : Sta)) fun p h => ⟨⟨h.1, h.2.2.2.1, h.2.1.1, h.2.2.1.1, h.2.2.2.2.1.1, h.2.2.2.2.2.1.1, ⟨h.2.1.2.1, fun o ho => (h.2.1.1 o ho).size, h.2.2.1.2.1, fun o ho => (h.2.2.1.1 o ho).size, h.2.2.2.2.1.2.1, h.2.2.2.2.2.1.2.1⟩⟩, rfl⟩
end Go.Proofs.Ytiklbnianbejdaa
