/- chain: the reference's Release. -/
import Derived.Test.YtiklbnianbejdaaChainA
set_option linter.unusedSimpArgs false
set_option maxRecDepth 20000
set_option linter.unusedVariables false
namespace Go.Proofs.Ytiklbnianbejdaa.Ch
open Go Go.Eng Go.RowKit

def relS (cs : List Cell) : List Cell × Int × Int × Int :=
  match cs.findIdx? isHeld with
  | none => ([], 0, 0, 22)
  | some i => let c := cs.getD i default; if c.node = -1 then (cs.set i ⟨c.num, 3, c.node, c.next⟩, -1, 0, 0) else (cs.eraseIdx i, c.node, c.next, 0)
abbrev relR (r : List Cell × Int × Int × Int) : Sv := .tup [cellX true r.1, I r.2.1, I r.2.2.1, I r.2.2.2]
def atI (cs : List Cell) : Int := match cs.findIdx? isHeld with | some i => i | none => -1
theorem RetP.relN {hp : Hp} : RetP hp (.tup [.val (.slice none 0 0), I 0, I 0, I 22]) (relR ([], 0, 0, 22)) [] :=
  RetP.go [] [] (by simp) rfl ⟨rfl, rfl, rfl, rfl, rfl⟩ ⟨FrR_cells [], trivial, trivial, trivial, trivial⟩ trivial
theorem RetP.relO {hp : Hp} (cs : List Cell) {a b c : Int} {k n : Nat} {rows : List (List Sv)} (hk : hpGet hp k = some ⟨57, 4, true, true, rows⟩) (hr : rows = cs.map Cell.row) (hn : n = cs.length) : RetP hp (.tup [.own k n, I a, I b, I c]) (relR (cs, a, b, c)) [] := by
  subst hr
  subst hn
  exact RetP.go [] [] (by simp) rfl ⟨⟨rfl, _, hpGet_app hk _, .inl ⟨by simp, rfl, .inl ⟨rfl, rfl⟩⟩⟩, rfl, rfl, rfl, rfl⟩ ⟨FrR_cells cs, trivial, trivial, trivial, trivial⟩ trivial
theorem atI_snoc (cs : List Cell) (c : Cell) : atI (cs ++ [c]) = if atI cs < 0 ∧ c.state = 2 then (cs.length : Int) else atI cs := by
  unfold atI
  rw [List.findIdx?_append]
  cases hx : cs.findIdx? isHeld with
  | some i =>
    rw [if_neg (by simp only; omega)]
    simp
  | none =>
    cases hc : isHeld c with
    | true =>
      have : c.state = 2 := by simpa [isHeld] using hc
      simp [List.findIdx?_cons, hc, this]
    | false =>
      have : ¬ c.state = 2 := by simpa [isHeld] using hc
      simp [List.findIdx?_cons, hc, this]
theorem atI_range (cs : List Cell) : -1 ≤ atI cs ∧ atI cs < cs.length := by
  unfold atI
  split
  · rename_i i hx
    rw [List.findIdx?_eq_some_iff_getElem] at hx
    obtain ⟨h, _⟩ := hx
    omega
  · omega
/-- What stands behind j rounds. -/
def LL (cs : List Cell) (k j : Nat) : List Cell :=
  let c := cs.getD k default
  if c.node = -1 then (cs.take j).set k ⟨c.num, 3, c.node, c.next⟩ else (cs.take j).eraseIdx k
theorem LL_len (cs : List Cell) (k j : Nat) : (LL cs k j).length ≤ cs.length := by
  unfold LL
  simp only
  split
  · simp
    omega
  · have := List.length_eraseIdx_le (cs.take j) k
    simp at this
    omega
theorem LL_snoc (cs : List Cell) (k j : Nat) (h : j < cs.length) : LL cs k (j + 1) = if j = k then (if cs[j].node = -1 then LL cs k j ++ [⟨cs[j].num, 3, cs[j].node, cs[j].next⟩] else LL cs k j) else LL cs k j ++ [cs[j]] := by
  unfold LL
  simp only
  rw [List.take_succ_eq_append_getElem h]
  by_cases hjk : j = k
  · subst hjk
    rw [if_pos rfl]
    have hd : cs.getD j default = cs[j] := by simp [h]
    rw [hd]
    split
    · rw [List.set_append_right _ _ (show (cs.take j).length ≤ j by rw [List.length_take]; omega), List.set_eq_of_length_le (show (cs.take j).length ≤ j by rw [List.length_take]; omega)]
      simp [Nat.min_eq_left (Nat.le_of_lt h)]
    · rw [List.eraseIdx_append_of_length_le (show (cs.take j).length ≤ j by rw [List.length_take]; omega), List.eraseIdx_of_length_le (show (cs.take j).length ≤ j by rw [List.length_take]; omega)]
      simp [Nat.min_eq_left (Nat.le_of_lt h)]
  · rw [if_neg hjk]
    by_cases hlt : j < k
    · have e1 : ∀ x, (cs.take j ++ [cs[j]]).set k x = cs.take j ++ [cs[j]] := fun x => List.set_eq_of_length_le (by simp; omega)
      have e2 : ∀ x, (cs.take j).set k x = cs.take j := fun x => List.set_eq_of_length_le (by simp; omega)
      have e3 : (cs.take j ++ [cs[j]]).eraseIdx k = cs.take j ++ [cs[j]] := List.eraseIdx_of_length_le (by simp; omega)
      have e4 : (cs.take j).eraseIdx k = cs.take j := List.eraseIdx_of_length_le (by simp; omega)
      simp only [e1, e2, e3, e4, ite_self]
    · have hl : k < (cs.take j).length := by simp; omega
      rw [List.set_append_left _ _ hl, List.eraseIdx_append_of_lt_length hl]
      split <;> rfl
end Go.Proofs.Ytiklbnianbejdaa.Ch
