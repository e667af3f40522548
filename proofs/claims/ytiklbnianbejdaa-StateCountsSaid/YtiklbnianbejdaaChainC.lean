/- chain: slices.Delete, Release. -/
import Derived.Test.YtiklbnianbejdaaChainB
set_option linter.unusedSimpArgs false
set_option maxRecDepth 20000
set_option linter.unusedVariables false
namespace Go.Proofs.Ytiklbnianbejdaa.Ch
open Go Go.Eng Go.RowKit

abbrev relW (r : List Cell × Int × Int × Int) : Sv := .tup [.own 0 r.1.length, I r.2.1, I r.2.2.1, I r.2.2.2]
theorem RetP.relNo {hp : Hp} : RetP hp (.tup [.val (.slice none 0 0), I 0, I 0, I 22]) (relW ([], 0, 0, 22)) [cellB []] :=
  RetP.go [(57, 4)] [hp.length] (by simp) ⟨⟨_, hpGet_new, VwB.refl⟩, rfl⟩ ⟨⟨⟨_, rfl, nlB_new _⟩, rfl⟩, rfl, rfl, rfl, rfl⟩ (by (repeat' (first | exact trivial | exact rfl | with_reducible assumption | (refine And.intro ?_ ?_) | (refine Exists.intro _ (And.intro rfl ?_)) | (refine Exists.intro _ (Exists.intro _ (And.intro rfl (And.intro rfl ?_)))) | (refine Or.inl ⟨rfl, rfl, ?_⟩) | (refine Or.inl ⟨rfl, ?_⟩; focus (fail_if_success (refine And.intro ?_ ?_))) | (refine Or.inl (?_ : (_ : Nat) = _ ∧ _); refine ⟨?_, ?_⟩; focus (first | (simp only [List.length_map]; done) | (simp only [List.length_map, List.length_append, List.length_cons, List.length_nil]; done))) | exact Or.inl rfl | (refine Or.inr (Or.inr ⟨?_, ?_⟩)) | (refine Or.inr ⟨?_, ?_⟩) | (refine fun h => ?_; first | exact h | exact rfl | (cases h; done)) | (refine om8 ?_; simp only [← List.map_drop, ← List.map_take]; exact rfl) | ((first | refine om1 ?_ | refine om2 ?_ | refine om3 ?_ | refine om4 ?_ | refine om5 ?_ | refine om6 ?_ | refine om7 ?_); first | (simp only [List.length_map]; done) | (simp only [List.length_map]; omega) | omega)))) ⟨trivial, trivial⟩
theorem RetP.rel2 {hp : Hp} (cs : List Cell) {a b c : Int} {k n : Nat} {rows : List (List Sv)} (hk : hpGet hp k = some ⟨57, 4, true, true, rows⟩) (hr : rows = cs.map Cell.row) (hn : n = cs.length) : RetP hp (.tup [.own k n, I a, I b, I c]) (relW (cs, a, b, c)) [cellB cs] := by
  subst hr
  subst hn
  exact RetP.go [] [k] (by simp) ⟨⟨_, hpGet_app hk _, VwB.refl⟩, rfl⟩ ⟨⟨rfl, rfl⟩, rfl, rfl, rfl, rfl⟩ (by (repeat' (first | exact trivial | exact rfl | with_reducible assumption | (refine And.intro ?_ ?_) | (refine Exists.intro _ (And.intro rfl ?_)) | (refine Exists.intro _ (Exists.intro _ (And.intro rfl (And.intro rfl ?_)))) | (refine Or.inl ⟨rfl, rfl, ?_⟩) | (refine Or.inl ⟨rfl, ?_⟩; focus (fail_if_success (refine And.intro ?_ ?_))) | (refine Or.inl (?_ : (_ : Nat) = _ ∧ _); refine ⟨?_, ?_⟩; focus (first | (simp only [List.length_map]; done) | (simp only [List.length_map, List.length_append, List.length_cons, List.length_nil]; done))) | exact Or.inl rfl | (refine Or.inr (Or.inr ⟨?_, ?_⟩)) | (refine Or.inr ⟨?_, ?_⟩) | (refine fun h => ?_; first | exact h | exact rfl | (cases h; done)) | (refine om8 ?_; simp only [← List.map_drop, ← List.map_take]; exact rfl) | ((first | refine om1 ?_ | refine om2 ?_ | refine om3 ?_ | refine om4 ?_ | refine om5 ?_ | refine om6 ?_ | refine om7 ?_); first | (simp only [List.length_map]; done) | (simp only [List.length_map]; omega) | omega)))) ⟨cell_fr cs, trivial⟩
/-! ### Laws -/
theorem succS_len (cs : List Cell) (a b : Int) : (succS cs a b).1.length ≤ cs.length := by
  unfold succS
  split
  · simp
  · split <;> simp
theorem relS_len (cs : List Cell) : (relS cs).1.length ≤ cs.length := by
  unfold relS
  split
  · simp
  · simp only
    split
    · simp
    · exact List.length_eraseIdx_le _ _
end Go.Proofs.Ytiklbnianbejdaa.Ch
