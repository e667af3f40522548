/- chain: Succeed, Grant, Release; the reference's. -/
import Derived.Test.YtiklbnianbejdaaCell
set_option linter.unusedSimpArgs false
set_option maxRecDepth 20000
set_option linter.unusedVariables false
namespace Go.Proofs.Ytiklbnianbejdaa.Ch
open Go Go.Eng Go.RowKit

/-- A list and a word: what most of these answer. -/
abbrev cellsR (cs : List Cell) (b : Bool) : Sv := .tup [.own 0 cs.length, Bo b]
theorem RetP.cellsN {hp : Hp} {b : Bool} : RetP hp (.tup [.val (.slice none 0 0), Bo b]) (cellsR [] b) [cellB []] :=
  RetP.go [(57, 4)] [hp.length] (by simp) ⟨⟨_, hpGet_new, VwB.refl⟩, rfl⟩ ⟨⟨⟨_, rfl, nlB_new _⟩, rfl⟩, rfl, rfl⟩ (by (repeat' (first | exact trivial | exact rfl | with_reducible assumption | (refine And.intro ?_ ?_) | (refine Exists.intro _ (And.intro rfl ?_)) | (refine Exists.intro _ (Exists.intro _ (And.intro rfl (And.intro rfl ?_)))) | (refine Or.inl ⟨rfl, rfl, ?_⟩) | (refine Or.inl ⟨rfl, ?_⟩; focus (fail_if_success (refine And.intro ?_ ?_))) | (refine Or.inl (?_ : (_ : Nat) = _ ∧ _); refine ⟨?_, ?_⟩; focus (first | (simp only [List.length_map]; done) | (simp only [List.length_map, List.length_append, List.length_cons, List.length_nil]; done))) | exact Or.inl rfl | (refine Or.inr (Or.inr ⟨?_, ?_⟩)) | (refine Or.inr ⟨?_, ?_⟩) | (refine fun h => ?_; first | exact h | exact rfl | (cases h; done)) | (refine om8 ?_; simp only [← List.map_drop, ← List.map_take]; exact rfl) | ((first | refine om1 ?_ | refine om2 ?_ | refine om3 ?_ | refine om4 ?_ | refine om5 ?_ | refine om6 ?_ | refine om7 ?_); first | (simp only [List.length_map]; done) | (simp only [List.length_map]; omega) | omega)))) ⟨trivial, trivial⟩
theorem RetP.cells2 {hp : Hp} (cs : List Cell) {b : Bool} {k n : Nat} {rows : List (List Sv)} (hk : hpGet hp k = some ⟨57, 4, true, true, rows⟩) (hr : rows = cs.map Cell.row) (hn : n = cs.length) : RetP hp (.tup [.own k n, Bo b]) (cellsR cs b) [cellB cs] := by
  subst hr
  subst hn
  exact RetP.go [] [k] (by simp) ⟨⟨_, hpGet_app hk _, VwB.refl⟩, rfl⟩ ⟨⟨rfl, rfl⟩, rfl, rfl⟩ (by (repeat' (first | exact trivial | exact rfl | with_reducible assumption | (refine And.intro ?_ ?_) | (refine Exists.intro _ (And.intro rfl ?_)) | (refine Exists.intro _ (Exists.intro _ (And.intro rfl (And.intro rfl ?_)))) | (refine Or.inl ⟨rfl, rfl, ?_⟩) | (refine Or.inl ⟨rfl, ?_⟩; focus (fail_if_success (refine And.intro ?_ ?_))) | (refine Or.inl (?_ : (_ : Nat) = _ ∧ _); refine ⟨?_, ?_⟩; focus (first | (simp only [List.length_map]; done) | (simp only [List.length_map, List.length_append, List.length_cons, List.length_nil]; done))) | exact Or.inl rfl | (refine Or.inr (Or.inr ⟨?_, ?_⟩)) | (refine Or.inr ⟨?_, ?_⟩) | (refine fun h => ?_; first | exact h | exact rfl | (cases h; done)) | (refine om8 ?_; simp only [← List.map_drop, ← List.map_take]; exact rfl) | ((first | refine om1 ?_ | refine om2 ?_ | refine om3 ?_ | refine om4 ?_ | refine om5 ?_ | refine om6 ?_ | refine om7 ?_); first | (simp only [List.length_map]; done) | (simp only [List.length_map]; omega) | omega)))) ⟨cell_fr cs, trivial⟩
/-- The same, told by content. -/
abbrev cellsX (cs : List Cell) (b : Bool) : Sv := .tup [cellX true cs, Bo b]
theorem FrR_cells (cs : List Cell) : Sv.Fr (cellX true cs) := ⟨rfl, cell_fr cs⟩
theorem RetP.cellsXo {hp : Hp} (cs : List Cell) {b : Bool} {k n : Nat} {rows : List (List Sv)} (hk : hpGet hp k = some ⟨57, 4, true, true, rows⟩) (hr : rows = cs.map Cell.row) (hn : n = cs.length) : RetP hp (.tup [.own k n, Bo b]) (cellsX cs b) [] := by
  subst hr
  subst hn
  exact RetP.go [] [] (by simp) rfl ⟨⟨rfl, _, hpGet_app hk _, .inl ⟨by simp, rfl, .inl ⟨rfl, rfl⟩⟩⟩, rfl, rfl⟩ ⟨FrR_cells cs, trivial, trivial⟩ trivial
def succS (cs : List Cell) (node num : Int) : List Cell × Bool :=
  if h : cs = [] then ([], false) else if (cs.getLast h).state = 3 then (cs.dropLast, true) else (cs.set (cs.length - 1) ⟨(cs.getLast h).num, (cs.getLast h).state, node, num⟩, false)
def isHeld (c : Cell) : Bool := c.state == 2
def waits (n : Int) (c : Cell) : Bool := c.num == n && c.state == 1
def grantS (cs : List Cell) (n : Int) : List Cell × Bool :=
  match cs.findIdx? (waits n) with
  | none => (cs, false)
  | some i => (cs.set i ⟨(cs.getD i default).num, 2, (cs.getD i default).node, (cs.getD i default).next⟩, true)
/-- The reference's Succeed. -/
theorem take_row (cs : List Cell) (i : Nat) (h : i < cs.length) : (cs.take i).map Cell.row ++ [Cell.row cs[i]] = (cs.take (i + 1)).map Cell.row := by
  rw [List.take_succ_eq_append_getElem h, List.map_append]
  rfl
/-- One cell more. -/
theorem grantS_snoc (cs : List Cell) (c : Cell) (n : Int) : grantS (cs ++ [c]) n = if (grantS cs n).2 = true then ((grantS cs n).1 ++ [c], true) else if waits n c = true then ((grantS cs n).1 ++ [⟨c.num, 2, c.node, c.next⟩], true) else ((grantS cs n).1 ++ [c], false) := by
  unfold grantS
  rw [List.findIdx?_append]
  cases hx : cs.findIdx? (waits n) with
  | some i =>
    have hil : i < cs.length := by
      rw [List.findIdx?_eq_some_iff_getElem] at hx
      exact hx.1
    simp [List.getElem?_append_left hil, hil]
  | none =>
    cases hc : waits n c with
    | true => simp [List.findIdx?_cons, hc]
    | false => simp [List.findIdx?_cons, hc]
theorem grantS_len (cs : List Cell) (n : Int) : (grantS cs n).1.length = cs.length := by
  unfold grantS
  split <;> simp
end Go.Proofs.Ytiklbnianbejdaa.Ch
