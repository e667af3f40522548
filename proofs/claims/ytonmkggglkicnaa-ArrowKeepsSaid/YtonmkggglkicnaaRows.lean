/-
  No cell of these rows narrows 'for every input' (looked for: loops, veiled, ifaces, maps, wideKeys, modest, calm, conditions, laid).
  DERIVED. THE GIVEN ROWS OF THIS SEAT. 8 by the template 'for every input the law returns true; each argument reads behind the call as it read before'; 0 by the template 'total and deterministic' (their statements: YtonmkggglkicnaaTotals.lean).
  GIVEN WITH THE SEED: the statements are not yours to turn. If you find one false, say at which input.
  Laid BY PROGRAM, IN A SANDBOX (cutbox-rows.mjs): the forced cells as the released guide's own fill.sh prints them over the translation 59f0c396e0689a4e… (all of the seat's roots in one cut). By AI agents, Wed Nov 11 2026. No macro, syntax, notation, axiom, sorry.
-/
import Derived.Test.YtonmkggglkicnaaChecked
import GoSem.Claim
import GoSem.ClaimJoined
import GoSem.ClaimMapViews
import Derived.JoinedTies
import Derived.KernelRfl
namespace Go.Proofs.Ytonmkggglkicnaa
/- THE CELL 'sum', in the pinned program and in every row, IS THE sha256 OF THE DUMP (.gsa) THAT YtonmkggglkicnaaProg.lean LOADS. Nothing in Lean hashes anything: it is a label: what it is worth is what the hold of that sum in a sandbox is worth. -/
noncomputable def Try.pinned : Pinned := { name := "ytonmkggglkicnaa", sum := "59f0c396e0689a4e1bb9cb8289a084fcf13d7d94e6426736e8c1967f7ab934f2", checked := Try.checked }
namespace Rows
def none {H : Type} : Left H := { results := [], args := [] }

/-- 'fletchlaw12.ArrowSteps': WHATEVER THE INPUT: true; the input reads as it did. -/
def arrowStepsSpec : ChangeSpec := { name := "arrowSteps", fn := fun _ => fun
  | [d1, d2, d3] => { results := [.lit (.bool true)], args := [d1, d2, d3] }
  | _ => none }
def arrowStepsRow : OpenClaim := { program := "ytonmkggglkicnaa", sum := "59f0c396e0689a4e1bb9cb8289a084fcf13d7d94e6426736e8c1967f7ab934f2", func := "fletch/fletchlaw12.ArrowSteps", spec := "arrowSteps", unfollowed := true, recurses := true, apart := false }
def ArrowStepsSaid : Prop := arrowStepsRow.holds Try.pinned (OpenSpec.ofChange arrowStepsSpec)

/-- ITS FALSE NEIGHBOUR: 'it returns false'. Refute it at one input. -/
def arrowStepsWrong : ChangeSpec := { name := "arrowSteps", fn := fun _ => fun
  | [d1, d2, d3] => { results := [.lit (.bool false)], args := [d1, d2, d3] }
  | _ => none }
def ArrowStepsWrongFalsely : Prop := arrowStepsRow.holds Try.pinned (OpenSpec.ofChange arrowStepsWrong)

/-- 'fletchlaw12.ArrowRuns': WHATEVER THE INPUT: true; the input reads as it did. -/
def arrowRunsSpec : ChangeSpec := { name := "arrowRuns", fn := fun _ => fun
  | [d1, d2, d3] => { results := [.lit (.bool true)], args := [d1, d2, d3] }
  | _ => none }
def arrowRunsRow : OpenClaim := { program := "ytonmkggglkicnaa", sum := "59f0c396e0689a4e1bb9cb8289a084fcf13d7d94e6426736e8c1967f7ab934f2", func := "fletch/fletchlaw12.ArrowRuns", spec := "arrowRuns", unfollowed := true, recurses := true, apart := false }
def ArrowRunsSaid : Prop := arrowRunsRow.holds Try.pinned (OpenSpec.ofChange arrowRunsSpec)

/-- ITS FALSE NEIGHBOUR: 'it returns false'. Refute it at one input. -/
def arrowRunsWrong : ChangeSpec := { name := "arrowRuns", fn := fun _ => fun
  | [d1, d2, d3] => { results := [.lit (.bool false)], args := [d1, d2, d3] }
  | _ => none }
def ArrowRunsWrongFalsely : Prop := arrowRunsRow.holds Try.pinned (OpenSpec.ofChange arrowRunsWrong)

/-- 'fletchlaw12.ArrowFollows': WHATEVER THE INPUT: true; the input reads as it did. -/
def arrowFollowsSpec : ChangeSpec := { name := "arrowFollows", fn := fun _ => fun
  | [d1, d2, d3] => { results := [.lit (.bool true)], args := [d1, d2, d3] }
  | _ => none }
def arrowFollowsRow : OpenClaim := { program := "ytonmkggglkicnaa", sum := "59f0c396e0689a4e1bb9cb8289a084fcf13d7d94e6426736e8c1967f7ab934f2", func := "fletch/fletchlaw12.ArrowFollows", spec := "arrowFollows", unfollowed := true, recurses := true, apart := false }
def ArrowFollowsSaid : Prop := arrowFollowsRow.holds Try.pinned (OpenSpec.ofChange arrowFollowsSpec)

/-- ITS FALSE NEIGHBOUR: 'it returns false'. Refute it at one input. -/
def arrowFollowsWrong : ChangeSpec := { name := "arrowFollows", fn := fun _ => fun
  | [d1, d2, d3] => { results := [.lit (.bool false)], args := [d1, d2, d3] }
  | _ => none }
def ArrowFollowsWrongFalsely : Prop := arrowFollowsRow.holds Try.pinned (OpenSpec.ofChange arrowFollowsWrong)

/-- 'fletchlaw12.ArrowLists': WHATEVER THE INPUT: true; the input reads as it did. -/
def arrowListsSpec : ChangeSpec := { name := "arrowLists", fn := fun _ => fun
  | [d1, d2, d3] => { results := [.lit (.bool true)], args := [d1, d2, d3] }
  | _ => none }
def arrowListsRow : OpenClaim := { program := "ytonmkggglkicnaa", sum := "59f0c396e0689a4e1bb9cb8289a084fcf13d7d94e6426736e8c1967f7ab934f2", func := "fletch/fletchlaw12.ArrowLists", spec := "arrowLists", unfollowed := true, recurses := true, apart := false }
def ArrowListsSaid : Prop := arrowListsRow.holds Try.pinned (OpenSpec.ofChange arrowListsSpec)

/-- ITS FALSE NEIGHBOUR: 'it returns false'. Refute it at one input. -/
def arrowListsWrong : ChangeSpec := { name := "arrowLists", fn := fun _ => fun
  | [d1, d2, d3] => { results := [.lit (.bool false)], args := [d1, d2, d3] }
  | _ => none }
def ArrowListsWrongFalsely : Prop := arrowListsRow.holds Try.pinned (OpenSpec.ofChange arrowListsWrong)

/-- 'fletchlaw12.ArrowTwice': WHATEVER THE INPUT: true; the input reads as it did. -/
def arrowTwiceSpec : ChangeSpec := { name := "arrowTwice", fn := fun _ => fun
  | [d1, d2, d3] => { results := [.lit (.bool true)], args := [d1, d2, d3] }
  | _ => none }
def arrowTwiceRow : OpenClaim := { program := "ytonmkggglkicnaa", sum := "59f0c396e0689a4e1bb9cb8289a084fcf13d7d94e6426736e8c1967f7ab934f2", func := "fletch/fletchlaw12.ArrowTwice", spec := "arrowTwice", unfollowed := true, recurses := true, apart := false }
def ArrowTwiceSaid : Prop := arrowTwiceRow.holds Try.pinned (OpenSpec.ofChange arrowTwiceSpec)

/-- ITS FALSE NEIGHBOUR: 'it returns false'. Refute it at one input. -/
def arrowTwiceWrong : ChangeSpec := { name := "arrowTwice", fn := fun _ => fun
  | [d1, d2, d3] => { results := [.lit (.bool false)], args := [d1, d2, d3] }
  | _ => none }
def ArrowTwiceWrongFalsely : Prop := arrowTwiceRow.holds Try.pinned (OpenSpec.ofChange arrowTwiceWrong)

/-- 'fletchlaw12.ArrowReverses': WHATEVER THE INPUT: true; the input reads as it did. -/
def arrowReversesSpec : ChangeSpec := { name := "arrowReverses", fn := fun _ => fun
  | [d1, d2, d3] => { results := [.lit (.bool true)], args := [d1, d2, d3] }
  | _ => none }
def arrowReversesRow : OpenClaim := { program := "ytonmkggglkicnaa", sum := "59f0c396e0689a4e1bb9cb8289a084fcf13d7d94e6426736e8c1967f7ab934f2", func := "fletch/fletchlaw12.ArrowReverses", spec := "arrowReverses", unfollowed := true, recurses := true, apart := false }
def ArrowReversesSaid : Prop := arrowReversesRow.holds Try.pinned (OpenSpec.ofChange arrowReversesSpec)

/-- ITS FALSE NEIGHBOUR: 'it returns false'. Refute it at one input. -/
def arrowReversesWrong : ChangeSpec := { name := "arrowReverses", fn := fun _ => fun
  | [d1, d2, d3] => { results := [.lit (.bool false)], args := [d1, d2, d3] }
  | _ => none }
def ArrowReversesWrongFalsely : Prop := arrowReversesRow.holds Try.pinned (OpenSpec.ofChange arrowReversesWrong)

/-- 'fletchlaw12.ArrowKeeps': WHATEVER THE INPUT: true; the input reads as it did. -/
def arrowKeepsSpec : ChangeSpec := { name := "arrowKeeps", fn := fun _ => fun
  | [d1, d2, d3] => { results := [.lit (.bool true)], args := [d1, d2, d3] }
  | _ => none }
def arrowKeepsRow : OpenClaim := { program := "ytonmkggglkicnaa", sum := "59f0c396e0689a4e1bb9cb8289a084fcf13d7d94e6426736e8c1967f7ab934f2", func := "fletch/fletchlaw12.ArrowKeeps", spec := "arrowKeeps", unfollowed := true, recurses := true, apart := false }
def ArrowKeepsSaid : Prop := arrowKeepsRow.holds Try.pinned (OpenSpec.ofChange arrowKeepsSpec)

/-- ITS FALSE NEIGHBOUR: 'it returns false'. Refute it at one input. -/
def arrowKeepsWrong : ChangeSpec := { name := "arrowKeeps", fn := fun _ => fun
  | [d1, d2, d3] => { results := [.lit (.bool false)], args := [d1, d2, d3] }
  | _ => none }
def ArrowKeepsWrongFalsely : Prop := arrowKeepsRow.holds Try.pinned (OpenSpec.ofChange arrowKeepsWrong)

/-- 'fletchlaw12.ArrowGoes': WHATEVER THE INPUT: true; the input reads as it did. -/
def arrowGoesSpec : ChangeSpec := { name := "arrowGoes", fn := fun _ => fun
  | [d1, d2, d3] => { results := [.lit (.bool true)], args := [d1, d2, d3] }
  | _ => none }
def arrowGoesRow : OpenClaim := { program := "ytonmkggglkicnaa", sum := "59f0c396e0689a4e1bb9cb8289a084fcf13d7d94e6426736e8c1967f7ab934f2", func := "fletch/fletchlaw12.ArrowGoes", spec := "arrowGoes", unfollowed := true, recurses := true, apart := false }
def ArrowGoesSaid : Prop := arrowGoesRow.holds Try.pinned (OpenSpec.ofChange arrowGoesSpec)

/-- ITS FALSE NEIGHBOUR: 'it returns false'. Refute it at one input. -/
def arrowGoesWrong : ChangeSpec := { name := "arrowGoes", fn := fun _ => fun
  | [d1, d2, d3] => { results := [.lit (.bool false)], args := [d1, d2, d3] }
  | _ => none }
def ArrowGoesWrongFalsely : Prop := arrowGoesRow.holds Try.pinned (OpenSpec.ofChange arrowGoesWrong)

/- THE SECOND FORM. 'bulk': how many values and letters a reading holds, each counted each time it is reached (what is shared counts as often as it is met; a slice's spare places count too). A statement '..UptoSaid' is the law's where the arguments, and the package variables that the reading takes, are together of bulk at most 1048576: NARROWER than '..Said'. Prove '..Said' where nothing that the law and all that it calls make is longer than what came in: it says more and counts as full. Else prove '..UptoSaid'. A law counts once. -/
mutual
def uptoBulk {H : Type} : DataW H → Nat
  | .lit (.string bytes) => bytes.length + 1
  | .lit _ => 1
  | .nil => 1
  | .ptr d => uptoBulk d + 1
  | .slice elems spare => uptoBulkAll elems + uptoBulkAll spare + 1
  | .agg parts => uptoBulkAll parts + 1
  | .iface _ d => uptoBulk d + 1
  | .map entries => uptoBulkEntries entries + 1
  | .held _ => 1
def uptoBulkAll {H : Type} : List (DataW H) → Nat
  | [] => 0
  | d :: r => uptoBulk d + uptoBulkAll r
def uptoBulkEntries {H : Type} : List (Lit × DataW H) → Nat
  | [] => 0
  | x :: r => uptoBulkEntry x + uptoBulkEntries r
def uptoBulkEntry {H : Type} : Lit × DataW H → Nat
  | (.string bytes, d) => bytes.length + uptoBulk d + 1
  | (_, d) => uptoBulk d + 1
 end
def uptoSmall : (H : Type) → List (DataW H) → Bool := fun _ ds => decide (uptoBulkAll ds ≤ 1048576)
def OpenSpec.upto (s : _root_.Go.ChangeSpec) : _root_.Go.OpenSpec := { _root_.Go.OpenSpec.ofChange s with cond := some uptoSmall }

/-- 'fletchlaw12.ArrowSteps', WHERE WHAT IT READS IS OF BULK AT MOST 1048576: true; the input reads as it did. -/
def arrowStepsUptoRow : OpenClaim := { program := "ytonmkggglkicnaa", sum := "59f0c396e0689a4e1bb9cb8289a084fcf13d7d94e6426736e8c1967f7ab934f2", func := "fletch/fletchlaw12.ArrowSteps", spec := "arrowSteps", unfollowed := true, recurses := true, apart := false, narrowed := true }
def ArrowStepsUptoSaid : Prop := arrowStepsUptoRow.holds Try.pinned (OpenSpec.upto arrowStepsSpec)

/-- 'fletchlaw12.ArrowRuns', WHERE WHAT IT READS IS OF BULK AT MOST 1048576: true; the input reads as it did. -/
def arrowRunsUptoRow : OpenClaim := { program := "ytonmkggglkicnaa", sum := "59f0c396e0689a4e1bb9cb8289a084fcf13d7d94e6426736e8c1967f7ab934f2", func := "fletch/fletchlaw12.ArrowRuns", spec := "arrowRuns", unfollowed := true, recurses := true, apart := false, narrowed := true }
def ArrowRunsUptoSaid : Prop := arrowRunsUptoRow.holds Try.pinned (OpenSpec.upto arrowRunsSpec)

/-- 'fletchlaw12.ArrowFollows', WHERE WHAT IT READS IS OF BULK AT MOST 1048576: true; the input reads as it did. -/
def arrowFollowsUptoRow : OpenClaim := { program := "ytonmkggglkicnaa", sum := "59f0c396e0689a4e1bb9cb8289a084fcf13d7d94e6426736e8c1967f7ab934f2", func := "fletch/fletchlaw12.ArrowFollows", spec := "arrowFollows", unfollowed := true, recurses := true, apart := false, narrowed := true }
def ArrowFollowsUptoSaid : Prop := arrowFollowsUptoRow.holds Try.pinned (OpenSpec.upto arrowFollowsSpec)

/-- 'fletchlaw12.ArrowLists', WHERE WHAT IT READS IS OF BULK AT MOST 1048576: true; the input reads as it did. -/
def arrowListsUptoRow : OpenClaim := { program := "ytonmkggglkicnaa", sum := "59f0c396e0689a4e1bb9cb8289a084fcf13d7d94e6426736e8c1967f7ab934f2", func := "fletch/fletchlaw12.ArrowLists", spec := "arrowLists", unfollowed := true, recurses := true, apart := false, narrowed := true }
def ArrowListsUptoSaid : Prop := arrowListsUptoRow.holds Try.pinned (OpenSpec.upto arrowListsSpec)

/-- 'fletchlaw12.ArrowTwice', WHERE WHAT IT READS IS OF BULK AT MOST 1048576: true; the input reads as it did. -/
def arrowTwiceUptoRow : OpenClaim := { program := "ytonmkggglkicnaa", sum := "59f0c396e0689a4e1bb9cb8289a084fcf13d7d94e6426736e8c1967f7ab934f2", func := "fletch/fletchlaw12.ArrowTwice", spec := "arrowTwice", unfollowed := true, recurses := true, apart := false, narrowed := true }
def ArrowTwiceUptoSaid : Prop := arrowTwiceUptoRow.holds Try.pinned (OpenSpec.upto arrowTwiceSpec)

/-- 'fletchlaw12.ArrowReverses', WHERE WHAT IT READS IS OF BULK AT MOST 1048576: true; the input reads as it did. -/
def arrowReversesUptoRow : OpenClaim := { program := "ytonmkggglkicnaa", sum := "59f0c396e0689a4e1bb9cb8289a084fcf13d7d94e6426736e8c1967f7ab934f2", func := "fletch/fletchlaw12.ArrowReverses", spec := "arrowReverses", unfollowed := true, recurses := true, apart := false, narrowed := true }
def ArrowReversesUptoSaid : Prop := arrowReversesUptoRow.holds Try.pinned (OpenSpec.upto arrowReversesSpec)

/-- 'fletchlaw12.ArrowKeeps', WHERE WHAT IT READS IS OF BULK AT MOST 1048576: true; the input reads as it did. -/
def arrowKeepsUptoRow : OpenClaim := { program := "ytonmkggglkicnaa", sum := "59f0c396e0689a4e1bb9cb8289a084fcf13d7d94e6426736e8c1967f7ab934f2", func := "fletch/fletchlaw12.ArrowKeeps", spec := "arrowKeeps", unfollowed := true, recurses := true, apart := false, narrowed := true }
def ArrowKeepsUptoSaid : Prop := arrowKeepsUptoRow.holds Try.pinned (OpenSpec.upto arrowKeepsSpec)

/-- 'fletchlaw12.ArrowGoes', WHERE WHAT IT READS IS OF BULK AT MOST 1048576: true; the input reads as it did. -/
def arrowGoesUptoRow : OpenClaim := { program := "ytonmkggglkicnaa", sum := "59f0c396e0689a4e1bb9cb8289a084fcf13d7d94e6426736e8c1967f7ab934f2", func := "fletch/fletchlaw12.ArrowGoes", spec := "arrowGoes", unfollowed := true, recurses := true, apart := false, narrowed := true }
def ArrowGoesUptoSaid : Prop := arrowGoesUptoRow.holds Try.pinned (OpenSpec.upto arrowGoesSpec)

end Rows
end Go.Proofs.Ytonmkggglkicnaa
