/-
  No cell of these rows narrows 'for every input' (looked for: loops, veiled, ifaces, maps, wideKeys, modest, calm, conditions, laid).
  DERIVED. THE GIVEN ROWS OF THIS SEAT. 12 by the template 'for every input the law returns true; each argument reads behind the call as it read before'; 0 by the template 'total and deterministic' (their statements: YtammndlghfknbaaTotals.lean).
  GIVEN WITH THE SEED: the statements are not yours to turn. If you find one false, say at which input.
  Laid BY PROGRAM, IN A SANDBOX (cutbox-rows.mjs): the forced cells as the released guide's own fill.sh prints them over the translation 15803ef7956b9af0… (all of the seat's roots in one cut). By AI agents, Wed Nov 11 2026. No macro, syntax, notation, axiom, sorry.
-/
import Derived.Test.YtammndlghfknbaaChecked
import GoSem.Claim
import GoSem.ClaimJoined
import GoSem.ClaimMapViews
import Derived.JoinedTies
import Derived.KernelRfl
namespace Go.Proofs.Ytammndlghfknbaa
/- THE CELL 'sum', in the pinned program and in every row, IS THE sha256 OF THE DUMP (.gsa) THAT YtammndlghfknbaaProg.lean LOADS. Nothing in Lean hashes anything: it is a label: what it is worth is what the hold of that sum in a sandbox is worth. -/
noncomputable def Try.pinned : Pinned := { name := "ytammndlghfknbaa", sum := "15803ef7956b9af01a3afa3ce0f83a311b56012900af8e34bdba84148bec22ed", checked := Try.checked }
namespace Rows
def none {H : Type} : Left H := { results := [], args := [] }

/-- 'fletchlaw11.HalfPushes': WHATEVER THE INPUT: true; the input reads as it did. -/
def halfPushesSpec : ChangeSpec := { name := "halfPushes", fn := fun _ => fun
  | [d1, d2] => { results := [.lit (.bool true)], args := [d1, d2] }
  | _ => none }
def halfPushesRow : OpenClaim := { program := "ytammndlghfknbaa", sum := "15803ef7956b9af01a3afa3ce0f83a311b56012900af8e34bdba84148bec22ed", func := "fletch/fletchlaw11.HalfPushes", spec := "halfPushes", unfollowed := true, recurses := true, apart := false }
def HalfPushesSaid : Prop := halfPushesRow.holds Try.pinned (OpenSpec.ofChange halfPushesSpec)

/-- ITS FALSE NEIGHBOUR: 'it returns false'. Refute it at one input. -/
def halfPushesWrong : ChangeSpec := { name := "halfPushes", fn := fun _ => fun
  | [d1, d2] => { results := [.lit (.bool false)], args := [d1, d2] }
  | _ => none }
def HalfPushesWrongFalsely : Prop := halfPushesRow.holds Try.pinned (OpenSpec.ofChange halfPushesWrong)

/-- 'fletchlaw11.HalfWords': WHATEVER THE INPUT: true; the input reads as it did. -/
def halfWordsSpec : ChangeSpec := { name := "halfWords", fn := fun _ => fun
  | [d1, d2, d3] => { results := [.lit (.bool true)], args := [d1, d2, d3] }
  | _ => none }
def halfWordsRow : OpenClaim := { program := "ytammndlghfknbaa", sum := "15803ef7956b9af01a3afa3ce0f83a311b56012900af8e34bdba84148bec22ed", func := "fletch/fletchlaw11.HalfWords", spec := "halfWords", unfollowed := true, recurses := true, apart := false }
def HalfWordsSaid : Prop := halfWordsRow.holds Try.pinned (OpenSpec.ofChange halfWordsSpec)

/-- ITS FALSE NEIGHBOUR: 'it returns false'. Refute it at one input. -/
def halfWordsWrong : ChangeSpec := { name := "halfWords", fn := fun _ => fun
  | [d1, d2, d3] => { results := [.lit (.bool false)], args := [d1, d2, d3] }
  | _ => none }
def HalfWordsWrongFalsely : Prop := halfWordsRow.holds Try.pinned (OpenSpec.ofChange halfWordsWrong)

/-- 'fletchlaw11.HalfHears': WHATEVER THE INPUT: true; the input reads as it did. -/
def halfHearsSpec : ChangeSpec := { name := "halfHears", fn := fun _ => fun
  | [d1, d2] => { results := [.lit (.bool true)], args := [d1, d2] }
  | _ => none }
def halfHearsRow : OpenClaim := { program := "ytammndlghfknbaa", sum := "15803ef7956b9af01a3afa3ce0f83a311b56012900af8e34bdba84148bec22ed", func := "fletch/fletchlaw11.HalfHears", spec := "halfHears", unfollowed := true, recurses := true, apart := false }
def HalfHearsSaid : Prop := halfHearsRow.holds Try.pinned (OpenSpec.ofChange halfHearsSpec)

/-- ITS FALSE NEIGHBOUR: 'it returns false'. Refute it at one input. -/
def halfHearsWrong : ChangeSpec := { name := "halfHears", fn := fun _ => fun
  | [d1, d2] => { results := [.lit (.bool false)], args := [d1, d2] }
  | _ => none }
def HalfHearsWrongFalsely : Prop := halfHearsRow.holds Try.pinned (OpenSpec.ofChange halfHearsWrong)

/-- 'fletchlaw11.HalfTakes': WHATEVER THE INPUT: true; the input reads as it did. -/
def halfTakesSpec : ChangeSpec := { name := "halfTakes", fn := fun _ => fun
  | [d1, d2, d3] => { results := [.lit (.bool true)], args := [d1, d2, d3] }
  | _ => none }
def halfTakesRow : OpenClaim := { program := "ytammndlghfknbaa", sum := "15803ef7956b9af01a3afa3ce0f83a311b56012900af8e34bdba84148bec22ed", func := "fletch/fletchlaw11.HalfTakes", spec := "halfTakes", unfollowed := true, recurses := true, apart := false }
def HalfTakesSaid : Prop := halfTakesRow.holds Try.pinned (OpenSpec.ofChange halfTakesSpec)

/-- ITS FALSE NEIGHBOUR: 'it returns false'. Refute it at one input. -/
def halfTakesWrong : ChangeSpec := { name := "halfTakes", fn := fun _ => fun
  | [d1, d2, d3] => { results := [.lit (.bool false)], args := [d1, d2, d3] }
  | _ => none }
def HalfTakesWrongFalsely : Prop := halfTakesRow.holds Try.pinned (OpenSpec.ofChange halfTakesWrong)

/-- 'fletchlaw11.HalfLeft': WHATEVER THE INPUT: true; the input reads as it did. -/
def halfLeftSpec : ChangeSpec := { name := "halfLeft", fn := fun _ => fun
  | [d1, d2, d3] => { results := [.lit (.bool true)], args := [d1, d2, d3] }
  | _ => none }
def halfLeftRow : OpenClaim := { program := "ytammndlghfknbaa", sum := "15803ef7956b9af01a3afa3ce0f83a311b56012900af8e34bdba84148bec22ed", func := "fletch/fletchlaw11.HalfLeft", spec := "halfLeft", unfollowed := true, recurses := true, apart := false }
def HalfLeftSaid : Prop := halfLeftRow.holds Try.pinned (OpenSpec.ofChange halfLeftSpec)

/-- ITS FALSE NEIGHBOUR: 'it returns false'. Refute it at one input. -/
def halfLeftWrong : ChangeSpec := { name := "halfLeft", fn := fun _ => fun
  | [d1, d2, d3] => { results := [.lit (.bool false)], args := [d1, d2, d3] }
  | _ => none }
def HalfLeftWrongFalsely : Prop := halfLeftRow.holds Try.pinned (OpenSpec.ofChange halfLeftWrong)

/-- 'fletchlaw11.HalfDelivers': WHATEVER THE INPUT: true; the input reads as it did. -/
def halfDeliversSpec : ChangeSpec := { name := "halfDelivers", fn := fun _ => fun
  | [d] => { results := [.lit (.bool true)], args := [d] }
  | _ => none }
def halfDeliversRow : OpenClaim := { program := "ytammndlghfknbaa", sum := "15803ef7956b9af01a3afa3ce0f83a311b56012900af8e34bdba84148bec22ed", func := "fletch/fletchlaw11.HalfDelivers", spec := "halfDelivers", unfollowed := true, recurses := true, apart := false }
def HalfDeliversSaid : Prop := halfDeliversRow.holds Try.pinned (OpenSpec.ofChange halfDeliversSpec)

/-- ITS FALSE NEIGHBOUR: 'it returns false'. Refute it at one input. -/
def halfDeliversWrong : ChangeSpec := { name := "halfDelivers", fn := fun _ => fun
  | [d] => { results := [.lit (.bool false)], args := [d] }
  | _ => none }
def HalfDeliversWrongFalsely : Prop := halfDeliversRow.holds Try.pinned (OpenSpec.ofChange halfDeliversWrong)

/-- 'fletchlaw11.HalfKeeps': WHATEVER THE INPUT: true; the input reads as it did. -/
def halfKeepsSpec : ChangeSpec := { name := "halfKeeps", fn := fun _ => fun
  | [d1, d2, d3] => { results := [.lit (.bool true)], args := [d1, d2, d3] }
  | _ => none }
def halfKeepsRow : OpenClaim := { program := "ytammndlghfknbaa", sum := "15803ef7956b9af01a3afa3ce0f83a311b56012900af8e34bdba84148bec22ed", func := "fletch/fletchlaw11.HalfKeeps", spec := "halfKeeps", unfollowed := true, recurses := true, apart := false }
def HalfKeepsSaid : Prop := halfKeepsRow.holds Try.pinned (OpenSpec.ofChange halfKeepsSpec)

/-- ITS FALSE NEIGHBOUR: 'it returns false'. Refute it at one input. -/
def halfKeepsWrong : ChangeSpec := { name := "halfKeeps", fn := fun _ => fun
  | [d1, d2, d3] => { results := [.lit (.bool false)], args := [d1, d2, d3] }
  | _ => none }
def HalfKeepsWrongFalsely : Prop := halfKeepsRow.holds Try.pinned (OpenSpec.ofChange halfKeepsWrong)

/-- 'fletchlaw13.ChainTurns': WHATEVER THE INPUT: true; the input reads as it did. -/
def chainTurnsSpec : ChangeSpec := { name := "chainTurns", fn := fun _ => fun
  | [d1, d2, d3] => { results := [.lit (.bool true)], args := [d1, d2, d3] }
  | _ => none }
def chainTurnsRow : OpenClaim := { program := "ytammndlghfknbaa", sum := "15803ef7956b9af01a3afa3ce0f83a311b56012900af8e34bdba84148bec22ed", func := "fletch/fletchlaw13.ChainTurns", spec := "chainTurns", unfollowed := true, recurses := true, apart := false }
def ChainTurnsSaid : Prop := chainTurnsRow.holds Try.pinned (OpenSpec.ofChange chainTurnsSpec)

/-- ITS FALSE NEIGHBOUR: 'it returns false'. Refute it at one input. -/
def chainTurnsWrong : ChangeSpec := { name := "chainTurns", fn := fun _ => fun
  | [d1, d2, d3] => { results := [.lit (.bool false)], args := [d1, d2, d3] }
  | _ => none }
def ChainTurnsWrongFalsely : Prop := chainTurnsRow.holds Try.pinned (OpenSpec.ofChange chainTurnsWrong)

/-- 'fletchlaw13.ChainKeeps': WHATEVER THE INPUT: true; the input reads as it did. -/
def chainKeepsSpec : ChangeSpec := { name := "chainKeeps", fn := fun _ => fun
  | [d1, d2, d3] => { results := [.lit (.bool true)], args := [d1, d2, d3] }
  | _ => none }
def chainKeepsRow : OpenClaim := { program := "ytammndlghfknbaa", sum := "15803ef7956b9af01a3afa3ce0f83a311b56012900af8e34bdba84148bec22ed", func := "fletch/fletchlaw13.ChainKeeps", spec := "chainKeeps", unfollowed := true, recurses := true, apart := false }
def ChainKeepsSaid : Prop := chainKeepsRow.holds Try.pinned (OpenSpec.ofChange chainKeepsSpec)

/-- ITS FALSE NEIGHBOUR: 'it returns false'. Refute it at one input. -/
def chainKeepsWrong : ChangeSpec := { name := "chainKeeps", fn := fun _ => fun
  | [d1, d2, d3] => { results := [.lit (.bool false)], args := [d1, d2, d3] }
  | _ => none }
def ChainKeepsWrongFalsely : Prop := chainKeepsRow.holds Try.pinned (OpenSpec.ofChange chainKeepsWrong)

/-- 'fletchlaw13.ChainGoods': WHATEVER THE INPUT: true; the input reads as it did. -/
def chainGoodsSpec : ChangeSpec := { name := "chainGoods", fn := fun _ => fun
  | [d1, d2, d3] => { results := [.lit (.bool true)], args := [d1, d2, d3] }
  | _ => none }
def chainGoodsRow : OpenClaim := { program := "ytammndlghfknbaa", sum := "15803ef7956b9af01a3afa3ce0f83a311b56012900af8e34bdba84148bec22ed", func := "fletch/fletchlaw13.ChainGoods", spec := "chainGoods", unfollowed := true, recurses := true, apart := false }
def ChainGoodsSaid : Prop := chainGoodsRow.holds Try.pinned (OpenSpec.ofChange chainGoodsSpec)

/-- ITS FALSE NEIGHBOUR: 'it returns false'. Refute it at one input. -/
def chainGoodsWrong : ChangeSpec := { name := "chainGoods", fn := fun _ => fun
  | [d1, d2, d3] => { results := [.lit (.bool false)], args := [d1, d2, d3] }
  | _ => none }
def ChainGoodsWrongFalsely : Prop := chainGoodsRow.holds Try.pinned (OpenSpec.ofChange chainGoodsWrong)

/-- 'fletchlaw13.ChainStays': WHATEVER THE INPUT: true; the input reads as it did. -/
def chainStaysSpec : ChangeSpec := { name := "chainStays", fn := fun _ => fun
  | [d1, d2, d3] => { results := [.lit (.bool true)], args := [d1, d2, d3] }
  | _ => none }
def chainStaysRow : OpenClaim := { program := "ytammndlghfknbaa", sum := "15803ef7956b9af01a3afa3ce0f83a311b56012900af8e34bdba84148bec22ed", func := "fletch/fletchlaw13.ChainStays", spec := "chainStays", unfollowed := true, recurses := true, apart := false }
def ChainStaysSaid : Prop := chainStaysRow.holds Try.pinned (OpenSpec.ofChange chainStaysSpec)

/-- ITS FALSE NEIGHBOUR: 'it returns false'. Refute it at one input. -/
def chainStaysWrong : ChangeSpec := { name := "chainStays", fn := fun _ => fun
  | [d1, d2, d3] => { results := [.lit (.bool false)], args := [d1, d2, d3] }
  | _ => none }
def ChainStaysWrongFalsely : Prop := chainStaysRow.holds Try.pinned (OpenSpec.ofChange chainStaysWrong)

/-- 'fletchlaw13.ChainGoes': WHATEVER THE INPUT: true; the input reads as it did. -/
def chainGoesSpec : ChangeSpec := { name := "chainGoes", fn := fun _ => fun
  | [d1, d2] => { results := [.lit (.bool true)], args := [d1, d2] }
  | _ => none }
def chainGoesRow : OpenClaim := { program := "ytammndlghfknbaa", sum := "15803ef7956b9af01a3afa3ce0f83a311b56012900af8e34bdba84148bec22ed", func := "fletch/fletchlaw13.ChainGoes", spec := "chainGoes", unfollowed := true, recurses := true, apart := false }
def ChainGoesSaid : Prop := chainGoesRow.holds Try.pinned (OpenSpec.ofChange chainGoesSpec)

/-- ITS FALSE NEIGHBOUR: 'it returns false'. Refute it at one input. -/
def chainGoesWrong : ChangeSpec := { name := "chainGoes", fn := fun _ => fun
  | [d1, d2] => { results := [.lit (.bool false)], args := [d1, d2] }
  | _ => none }
def ChainGoesWrongFalsely : Prop := chainGoesRow.holds Try.pinned (OpenSpec.ofChange chainGoesWrong)

/- THE SECOND FORM. 'bulk': how many values and letters a reading holds, each counted each time it is reached (what is shared counts as often as it is met; a slice's spare places count too). A statement '..UptoSaid' is the law's where the arguments, and the package variables that the reading takes, are together of bulk at most 1048576: NARROWER than '..Said'. Prove '..Said' where nothing that the law and all that it calls make is longer than what came in: it says more and counts as full. Else prove '..UptoSaid'. A law counts once. -/
mutual
def uptoBulk {H : Type} : DataW H → Nat
  | .lit (.string bytes) => bytes.length + 1
  | .lit _ => 1
  | .nil => 1
  | .ptr d => uptoBulk d + 1
  | .slice elems spare => uptoBulkAll elems + uptoBulkAll spare + 1
  | .agg parts => uptoBulkAll parts + 1
  | .iface _ d => uptoBulk d + 1
  | .map entries => uptoBulkEntries entries + 1
  | .held _ => 1
def uptoBulkAll {H : Type} : List (DataW H) → Nat
  | [] => 0
  | d :: r => uptoBulk d + uptoBulkAll r
def uptoBulkEntries {H : Type} : List (Lit × DataW H) → Nat
  | [] => 0
  | x :: r => uptoBulkEntry x + uptoBulkEntries r
def uptoBulkEntry {H : Type} : Lit × DataW H → Nat
  | (.string bytes, d) => bytes.length + uptoBulk d + 1
  | (_, d) => uptoBulk d + 1
 end
def uptoSmall : (H : Type) → List (DataW H) → Bool := fun _ ds => decide (uptoBulkAll ds ≤ 1048576)
def OpenSpec.upto (s : _root_.Go.ChangeSpec) : _root_.Go.OpenSpec := { _root_.Go.OpenSpec.ofChange s with cond := some uptoSmall }

/-- 'fletchlaw11.HalfPushes', WHERE WHAT IT READS IS OF BULK AT MOST 1048576: true; the input reads as it did. -/
def halfPushesUptoRow : OpenClaim := { program := "ytammndlghfknbaa", sum := "15803ef7956b9af01a3afa3ce0f83a311b56012900af8e34bdba84148bec22ed", func := "fletch/fletchlaw11.HalfPushes", spec := "halfPushes", unfollowed := true, recurses := true, apart := false, narrowed := true }
def HalfPushesUptoSaid : Prop := halfPushesUptoRow.holds Try.pinned (OpenSpec.upto halfPushesSpec)

/-- 'fletchlaw11.HalfWords', WHERE WHAT IT READS IS OF BULK AT MOST 1048576: true; the input reads as it did. -/
def halfWordsUptoRow : OpenClaim := { program := "ytammndlghfknbaa", sum := "15803ef7956b9af01a3afa3ce0f83a311b56012900af8e34bdba84148bec22ed", func := "fletch/fletchlaw11.HalfWords", spec := "halfWords", unfollowed := true, recurses := true, apart := false, narrowed := true }
def HalfWordsUptoSaid : Prop := halfWordsUptoRow.holds Try.pinned (OpenSpec.upto halfWordsSpec)

/-- 'fletchlaw11.HalfHears', WHERE WHAT IT READS IS OF BULK AT MOST 1048576: true; the input reads as it did. -/
def halfHearsUptoRow : OpenClaim := { program := "ytammndlghfknbaa", sum := "15803ef7956b9af01a3afa3ce0f83a311b56012900af8e34bdba84148bec22ed", func := "fletch/fletchlaw11.HalfHears", spec := "halfHears", unfollowed := true, recurses := true, apart := false, narrowed := true }
def HalfHearsUptoSaid : Prop := halfHearsUptoRow.holds Try.pinned (OpenSpec.upto halfHearsSpec)

/-- 'fletchlaw11.HalfTakes', WHERE WHAT IT READS IS OF BULK AT MOST 1048576: true; the input reads as it did. -/
def halfTakesUptoRow : OpenClaim := { program := "ytammndlghfknbaa", sum := "15803ef7956b9af01a3afa3ce0f83a311b56012900af8e34bdba84148bec22ed", func := "fletch/fletchlaw11.HalfTakes", spec := "halfTakes", unfollowed := true, recurses := true, apart := false, narrowed := true }
def HalfTakesUptoSaid : Prop := halfTakesUptoRow.holds Try.pinned (OpenSpec.upto halfTakesSpec)

/-- 'fletchlaw11.HalfLeft', WHERE WHAT IT READS IS OF BULK AT MOST 1048576: true; the input reads as it did. -/
def halfLeftUptoRow : OpenClaim := { program := "ytammndlghfknbaa", sum := "15803ef7956b9af01a3afa3ce0f83a311b56012900af8e34bdba84148bec22ed", func := "fletch/fletchlaw11.HalfLeft", spec := "halfLeft", unfollowed := true, recurses := true, apart := false, narrowed := true }
def HalfLeftUptoSaid : Prop := halfLeftUptoRow.holds Try.pinned (OpenSpec.upto halfLeftSpec)

/-- 'fletchlaw11.HalfDelivers', WHERE WHAT IT READS IS OF BULK AT MOST 1048576: true; the input reads as it did. -/
def halfDeliversUptoRow : OpenClaim := { program := "ytammndlghfknbaa", sum := "15803ef7956b9af01a3afa3ce0f83a311b56012900af8e34bdba84148bec22ed", func := "fletch/fletchlaw11.HalfDelivers", spec := "halfDelivers", unfollowed := true, recurses := true, apart := false, narrowed := true }
def HalfDeliversUptoSaid : Prop := halfDeliversUptoRow.holds Try.pinned (OpenSpec.upto halfDeliversSpec)

/-- 'fletchlaw11.HalfKeeps', WHERE WHAT IT READS IS OF BULK AT MOST 1048576: true; the input reads as it did. -/
def halfKeepsUptoRow : OpenClaim := { program := "ytammndlghfknbaa", sum := "15803ef7956b9af01a3afa3ce0f83a311b56012900af8e34bdba84148bec22ed", func := "fletch/fletchlaw11.HalfKeeps", spec := "halfKeeps", unfollowed := true, recurses := true, apart := false, narrowed := true }
def HalfKeepsUptoSaid : Prop := halfKeepsUptoRow.holds Try.pinned (OpenSpec.upto halfKeepsSpec)

/-- 'fletchlaw13.ChainTurns', WHERE WHAT IT READS IS OF BULK AT MOST 1048576: true; the input reads as it did. -/
def chainTurnsUptoRow : OpenClaim := { program := "ytammndlghfknbaa", sum := "15803ef7956b9af01a3afa3ce0f83a311b56012900af8e34bdba84148bec22ed", func := "fletch/fletchlaw13.ChainTurns", spec := "chainTurns", unfollowed := true, recurses := true, apart := false, narrowed := true }
def ChainTurnsUptoSaid : Prop := chainTurnsUptoRow.holds Try.pinned (OpenSpec.upto chainTurnsSpec)

/-- 'fletchlaw13.ChainKeeps', WHERE WHAT IT READS IS OF BULK AT MOST 1048576: true; the input reads as it did. -/
def chainKeepsUptoRow : OpenClaim := { program := "ytammndlghfknbaa", sum := "15803ef7956b9af01a3afa3ce0f83a311b56012900af8e34bdba84148bec22ed", func := "fletch/fletchlaw13.ChainKeeps", spec := "chainKeeps", unfollowed := true, recurses := true, apart := false, narrowed := true }
def ChainKeepsUptoSaid : Prop := chainKeepsUptoRow.holds Try.pinned (OpenSpec.upto chainKeepsSpec)

/-- 'fletchlaw13.ChainGoods', WHERE WHAT IT READS IS OF BULK AT MOST 1048576: true; the input reads as it did. -/
def chainGoodsUptoRow : OpenClaim := { program := "ytammndlghfknbaa", sum := "15803ef7956b9af01a3afa3ce0f83a311b56012900af8e34bdba84148bec22ed", func := "fletch/fletchlaw13.ChainGoods", spec := "chainGoods", unfollowed := true, recurses := true, apart := false, narrowed := true }
def ChainGoodsUptoSaid : Prop := chainGoodsUptoRow.holds Try.pinned (OpenSpec.upto chainGoodsSpec)

/-- 'fletchlaw13.ChainStays', WHERE WHAT IT READS IS OF BULK AT MOST 1048576: true; the input reads as it did. -/
def chainStaysUptoRow : OpenClaim := { program := "ytammndlghfknbaa", sum := "15803ef7956b9af01a3afa3ce0f83a311b56012900af8e34bdba84148bec22ed", func := "fletch/fletchlaw13.ChainStays", spec := "chainStays", unfollowed := true, recurses := true, apart := false, narrowed := true }
def ChainStaysUptoSaid : Prop := chainStaysUptoRow.holds Try.pinned (OpenSpec.upto chainStaysSpec)

/-- 'fletchlaw13.ChainGoes', WHERE WHAT IT READS IS OF BULK AT MOST 1048576: true; the input reads as it did. -/
def chainGoesUptoRow : OpenClaim := { program := "ytammndlghfknbaa", sum := "15803ef7956b9af01a3afa3ce0f83a311b56012900af8e34bdba84148bec22ed", func := "fletch/fletchlaw13.ChainGoes", spec := "chainGoes", unfollowed := true, recurses := true, apart := false, narrowed := true }
def ChainGoesUptoSaid : Prop := chainGoesUptoRow.holds Try.pinned (OpenSpec.upto chainGoesSpec)

end Rows
end Go.Proofs.Ytammndlghfknbaa
