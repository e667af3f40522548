/-
  No cell of these rows narrows 'for every input' (looked for: loops, veiled, ifaces, maps, wideKeys, modest, calm, conditions, laid).
  DERIVED. THE GIVEN ROWS OF THIS SEAT. 6 by the template 'for every input the law returns true; each argument reads behind the call as it read before'; 0 by the template 'total and deterministic' (their statements: YtiklbnianbejdaaTotals.lean).
  GIVEN WITH THE SEED: the statements are not yours to turn. If you find one false, say at which input.
  Laid BY PROGRAM, IN A SANDBOX (cutbox-rows.mjs): the forced cells as the released guide's own fill.sh prints them over the translation 98a829ce251cc298… (all of the seat's roots in one cut). By AI agents, Wed Nov 11 2026. No macro, syntax, notation, axiom, sorry.
-/
import Derived.Test.YtiklbnianbejdaaChecked
import GoSem.Claim
import GoSem.ClaimJoined
import GoSem.ClaimMapViews
import Derived.JoinedTies
import Derived.KernelRfl
namespace Go.Proofs.Ytiklbnianbejdaa
/- THE CELL 'sum', in the pinned program and in every row, IS THE sha256 OF THE DUMP (.gsa) THAT YtiklbnianbejdaaProg.lean LOADS. Nothing in Lean hashes anything: it is a label: what it is worth is what the hold of that sum in a sandbox is worth. -/
noncomputable def Try.pinned : Pinned := { name := "ytiklbnianbejdaa", sum := "98a829ce251cc298b5dae706100829aacd6a823ca99a8d33166022d785c7834d", checked := Try.checked }
namespace Rows
def none {H : Type} : Left H := { results := [], args := [] }

/-- 'fletchlaw14.StateFirsts': WHATEVER THE INPUT: true; the input reads as it did. -/
def stateFirstsSpec : ChangeSpec := { name := "stateFirsts", fn := fun _ => fun
  | [d1, d2, d3] => { results := [.lit (.bool true)], args := [d1, d2, d3] }
  | _ => none }
def stateFirstsRow : OpenClaim := { program := "ytiklbnianbejdaa", sum := "98a829ce251cc298b5dae706100829aacd6a823ca99a8d33166022d785c7834d", func := "fletch/fletchlaw14.StateFirsts", spec := "stateFirsts", unfollowed := true, recurses := true, apart := false }
def StateFirstsSaid : Prop := stateFirstsRow.holds Try.pinned (OpenSpec.ofChange stateFirstsSpec)

/-- ITS FALSE NEIGHBOUR: 'it returns false'. Refute it at one input. -/
def stateFirstsWrong : ChangeSpec := { name := "stateFirsts", fn := fun _ => fun
  | [d1, d2, d3] => { results := [.lit (.bool false)], args := [d1, d2, d3] }
  | _ => none }
def StateFirstsWrongFalsely : Prop := stateFirstsRow.holds Try.pinned (OpenSpec.ofChange stateFirstsWrong)

/-- 'fletchlaw14.StateGoods': WHATEVER THE INPUT: true; the input reads as it did. -/
def stateGoodsSpec : ChangeSpec := { name := "stateGoods", fn := fun _ => fun
  | [d1, d2] => { results := [.lit (.bool true)], args := [d1, d2] }
  | _ => none }
def stateGoodsRow : OpenClaim := { program := "ytiklbnianbejdaa", sum := "98a829ce251cc298b5dae706100829aacd6a823ca99a8d33166022d785c7834d", func := "fletch/fletchlaw14.StateGoods", spec := "stateGoods", unfollowed := true, recurses := true, apart := false }
def StateGoodsSaid : Prop := stateGoodsRow.holds Try.pinned (OpenSpec.ofChange stateGoodsSpec)

/-- ITS FALSE NEIGHBOUR: 'it returns false'. Refute it at one input. -/
def stateGoodsWrong : ChangeSpec := { name := "stateGoods", fn := fun _ => fun
  | [d1, d2] => { results := [.lit (.bool false)], args := [d1, d2] }
  | _ => none }
def StateGoodsWrongFalsely : Prop := stateGoodsRow.holds Try.pinned (OpenSpec.ofChange stateGoodsWrong)

/-- 'fletchlaw14.StateMeans': WHATEVER THE INPUT: true; the input reads as it did. -/
def stateMeansSpec : ChangeSpec := { name := "stateMeans", fn := fun _ => fun
  | [d1, d2, d3] => { results := [.lit (.bool true)], args := [d1, d2, d3] }
  | _ => none }
def stateMeansRow : OpenClaim := { program := "ytiklbnianbejdaa", sum := "98a829ce251cc298b5dae706100829aacd6a823ca99a8d33166022d785c7834d", func := "fletch/fletchlaw14.StateMeans", spec := "stateMeans", unfollowed := true, recurses := true, apart := false }
def StateMeansSaid : Prop := stateMeansRow.holds Try.pinned (OpenSpec.ofChange stateMeansSpec)

/-- ITS FALSE NEIGHBOUR: 'it returns false'. Refute it at one input. -/
def stateMeansWrong : ChangeSpec := { name := "stateMeans", fn := fun _ => fun
  | [d1, d2, d3] => { results := [.lit (.bool false)], args := [d1, d2, d3] }
  | _ => none }
def StateMeansWrongFalsely : Prop := stateMeansRow.holds Try.pinned (OpenSpec.ofChange stateMeansWrong)

/-- 'fletchlaw14.StateKeeps': WHATEVER THE INPUT: true; the input reads as it did. -/
def stateKeepsSpec : ChangeSpec := { name := "stateKeeps", fn := fun _ => fun
  | [d1, d2, d3] => { results := [.lit (.bool true)], args := [d1, d2, d3] }
  | _ => none }
def stateKeepsRow : OpenClaim := { program := "ytiklbnianbejdaa", sum := "98a829ce251cc298b5dae706100829aacd6a823ca99a8d33166022d785c7834d", func := "fletch/fletchlaw14.StateKeeps", spec := "stateKeeps", unfollowed := true, recurses := true, apart := false }
def StateKeepsSaid : Prop := stateKeepsRow.holds Try.pinned (OpenSpec.ofChange stateKeepsSpec)

/-- ITS FALSE NEIGHBOUR: 'it returns false'. Refute it at one input. -/
def stateKeepsWrong : ChangeSpec := { name := "stateKeeps", fn := fun _ => fun
  | [d1, d2, d3] => { results := [.lit (.bool false)], args := [d1, d2, d3] }
  | _ => none }
def StateKeepsWrongFalsely : Prop := stateKeepsRow.holds Try.pinned (OpenSpec.ofChange stateKeepsWrong)

/-- 'fletchlaw14.StateSames': WHATEVER THE INPUT: true; the input reads as it did. -/
def stateSamesSpec : ChangeSpec := { name := "stateSames", fn := fun _ => fun
  | [d1, d2] => { results := [.lit (.bool true)], args := [d1, d2] }
  | _ => none }
def stateSamesRow : OpenClaim := { program := "ytiklbnianbejdaa", sum := "98a829ce251cc298b5dae706100829aacd6a823ca99a8d33166022d785c7834d", func := "fletch/fletchlaw14.StateSames", spec := "stateSames", unfollowed := true, recurses := true, apart := false }
def StateSamesSaid : Prop := stateSamesRow.holds Try.pinned (OpenSpec.ofChange stateSamesSpec)

/-- ITS FALSE NEIGHBOUR: 'it returns false'. Refute it at one input. -/
def stateSamesWrong : ChangeSpec := { name := "stateSames", fn := fun _ => fun
  | [d1, d2] => { results := [.lit (.bool false)], args := [d1, d2] }
  | _ => none }
def StateSamesWrongFalsely : Prop := stateSamesRow.holds Try.pinned (OpenSpec.ofChange stateSamesWrong)

/-- 'fletchlaw14.StateCounts': WHATEVER THE INPUT: true; the input reads as it did. -/
def stateCountsSpec : ChangeSpec := { name := "stateCounts", fn := fun _ => fun
  | [d1, d2, d3] => { results := [.lit (.bool true)], args := [d1, d2, d3] }
  | _ => none }
def stateCountsRow : OpenClaim := { program := "ytiklbnianbejdaa", sum := "98a829ce251cc298b5dae706100829aacd6a823ca99a8d33166022d785c7834d", func := "fletch/fletchlaw14.StateCounts", spec := "stateCounts", unfollowed := true, recurses := true, apart := false }
def StateCountsSaid : Prop := stateCountsRow.holds Try.pinned (OpenSpec.ofChange stateCountsSpec)

/-- ITS FALSE NEIGHBOUR: 'it returns false'. Refute it at one input. -/
def stateCountsWrong : ChangeSpec := { name := "stateCounts", fn := fun _ => fun
  | [d1, d2, d3] => { results := [.lit (.bool false)], args := [d1, d2, d3] }
  | _ => none }
def StateCountsWrongFalsely : Prop := stateCountsRow.holds Try.pinned (OpenSpec.ofChange stateCountsWrong)

/- THE SECOND FORM. 'bulk': how many values and letters a reading holds, each counted each time it is reached (what is shared counts as often as it is met; a slice's spare places count too). A statement '..UptoSaid' is the law's where the arguments, and the package variables that the reading takes, are together of bulk at most 1048576: NARROWER than '..Said'. Prove '..Said' where nothing that the law and all that it calls make is longer than what came in: it says more and counts as full. Else prove '..UptoSaid'. A law counts once. -/
mutual
def uptoBulk {H : Type} : DataW H → Nat
  | .lit (.string bytes) => bytes.length + 1
  | .lit _ => 1
  | .nil => 1
  | .ptr d => uptoBulk d + 1
  | .slice elems spare => uptoBulkAll elems + uptoBulkAll spare + 1
  | .agg parts => uptoBulkAll parts + 1
  | .iface _ d => uptoBulk d + 1
  | .map entries => uptoBulkEntries entries + 1
  | .held _ => 1
def uptoBulkAll {H : Type} : List (DataW H) → Nat
  | [] => 0
  | d :: r => uptoBulk d + uptoBulkAll r
def uptoBulkEntries {H : Type} : List (Lit × DataW H) → Nat
  | [] => 0
  | x :: r => uptoBulkEntry x + uptoBulkEntries r
def uptoBulkEntry {H : Type} : Lit × DataW H → Nat
  | (.string bytes, d) => bytes.length + uptoBulk d + 1
  | (_, d) => uptoBulk d + 1
 end
def uptoSmall : (H : Type) → List (DataW H) → Bool := fun _ ds => decide (uptoBulkAll ds ≤ 1048576)
def OpenSpec.upto (s : _root_.Go.ChangeSpec) : _root_.Go.OpenSpec := { _root_.Go.OpenSpec.ofChange s with cond := some uptoSmall }

/-- 'fletchlaw14.StateFirsts', WHERE WHAT IT READS IS OF BULK AT MOST 1048576: true; the input reads as it did. -/
def stateFirstsUptoRow : OpenClaim := { program := "ytiklbnianbejdaa", sum := "98a829ce251cc298b5dae706100829aacd6a823ca99a8d33166022d785c7834d", func := "fletch/fletchlaw14.StateFirsts", spec := "stateFirsts", unfollowed := true, recurses := true, apart := false, narrowed := true }
def StateFirstsUptoSaid : Prop := stateFirstsUptoRow.holds Try.pinned (OpenSpec.upto stateFirstsSpec)

/-- 'fletchlaw14.StateGoods', WHERE WHAT IT READS IS OF BULK AT MOST 1048576: true; the input reads as it did. -/
def stateGoodsUptoRow : OpenClaim := { program := "ytiklbnianbejdaa", sum := "98a829ce251cc298b5dae706100829aacd6a823ca99a8d33166022d785c7834d", func := "fletch/fletchlaw14.StateGoods", spec := "stateGoods", unfollowed := true, recurses := true, apart := false, narrowed := true }
def StateGoodsUptoSaid : Prop := stateGoodsUptoRow.holds Try.pinned (OpenSpec.upto stateGoodsSpec)

/-- 'fletchlaw14.StateMeans', WHERE WHAT IT READS IS OF BULK AT MOST 1048576: true; the input reads as it did. -/
def stateMeansUptoRow : OpenClaim := { program := "ytiklbnianbejdaa", sum := "98a829ce251cc298b5dae706100829aacd6a823ca99a8d33166022d785c7834d", func := "fletch/fletchlaw14.StateMeans", spec := "stateMeans", unfollowed := true, recurses := true, apart := false, narrowed := true }
def StateMeansUptoSaid : Prop := stateMeansUptoRow.holds Try.pinned (OpenSpec.upto stateMeansSpec)

/-- 'fletchlaw14.StateKeeps', WHERE WHAT IT READS IS OF BULK AT MOST 1048576: true; the input reads as it did. -/
def stateKeepsUptoRow : OpenClaim := { program := "ytiklbnianbejdaa", sum := "98a829ce251cc298b5dae706100829aacd6a823ca99a8d33166022d785c7834d", func := "fletch/fletchlaw14.StateKeeps", spec := "stateKeeps", unfollowed := true, recurses := true, apart := false, narrowed := true }
def StateKeepsUptoSaid : Prop := stateKeepsUptoRow.holds Try.pinned (OpenSpec.upto stateKeepsSpec)

/-- 'fletchlaw14.StateSames', WHERE WHAT IT READS IS OF BULK AT MOST 1048576: true; the input reads as it did. -/
def stateSamesUptoRow : OpenClaim := { program := "ytiklbnianbejdaa", sum := "98a829ce251cc298b5dae706100829aacd6a823ca99a8d33166022d785c7834d", func := "fletch/fletchlaw14.StateSames", spec := "stateSames", unfollowed := true, recurses := true, apart := false, narrowed := true }
def StateSamesUptoSaid : Prop := stateSamesUptoRow.holds Try.pinned (OpenSpec.upto stateSamesSpec)

/-- 'fletchlaw14.StateCounts', WHERE WHAT IT READS IS OF BULK AT MOST 1048576: true; the input reads as it did. -/
def stateCountsUptoRow : OpenClaim := { program := "ytiklbnianbejdaa", sum := "98a829ce251cc298b5dae706100829aacd6a823ca99a8d33166022d785c7834d", func := "fletch/fletchlaw14.StateCounts", spec := "stateCounts", unfollowed := true, recurses := true, apart := false, narrowed := true }
def StateCountsUptoSaid : Prop := stateCountsUptoRow.holds Try.pinned (OpenSpec.upto stateCountsSpec)

end Rows
end Go.Proofs.Ytiklbnianbejdaa
