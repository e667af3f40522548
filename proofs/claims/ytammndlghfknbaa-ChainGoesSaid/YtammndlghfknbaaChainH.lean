/- chain: the law ChainGoes: plain law. -/
import Derived.Test.YtammndlghfknbaaChainG
set_option linter.unusedSimpArgs false
set_option maxRecDepth 20000
set_option linter.unusedVariables false
namespace Go.Proofs.Ytammndlghfknbaa
open Go Go.Eng Go.RowKit

/-- n requests that wait, from number k on, each the successor of the one ahead. -/
def waitL (me : Int) : Int → Nat → List Cell
  | _, 0 => []
  | k, n + 1 => ⟨k, 1, if n = 0 then -1 else me, if n = 0 then 0 else k + 1⟩ :: waitL me (k + 1) n
/-- Behind one in state st. -/
def goL (me st k : Int) (n : Nat) : List Cell := ⟨k, st, if n = 0 then -1 else me, if n = 0 then 0 else k + 1⟩ :: waitL me (k + 1) n
theorem waitL_len (me : Int) : ∀ (n : Nat) (k : Int), (waitL me k n).length = n
  | 0, _ => rfl
  | n + 1, k => by simp [waitL, waitL_len me n]
theorem goL_len (me st k : Int) (n : Nat) : (goL me st k n).length = n + 1 := by simp [goL, waitL_len]
theorem waitL_go (me k : Int) (n : Nat) : waitL me k (n + 1) = goL me 1 k n := rfl
theorem succS_cons (c d : Cell) (cs : List Cell) (a b : Int) : succS (c :: d :: cs) a b = (c :: (succS (d :: cs) a b).1, (succS (d :: cs) a b).2) := by
  unfold succS
  simp only [reduceCtorEq, dite_false, List.getLast_cons_cons]
  split
  · rename_i h
    simp [h]
  · rename_i h
    simp [h, List.set_cons_succ]
theorem go_ask (me : Int) : ∀ (n : Nat) (st k : Int), st ≠ 3 → (succS (goL me st k n) me (k + n + 1)).2 = false ∧ addS (succS (goL me st k n) me (k + n + 1)).1 (k + n + 1) = goL me st k (n + 1)
  | 0, st, k, h => by
    simp [goL, waitL, succS, addS, h]
  | n + 1, st, k, h => by
    have ih := go_ask me n 1 (k + 1) (by omega)
    have e : k + 1 + (n : Int) + 1 = k + ((n + 1 : Nat) : Int) + 1 := by omega
    rw [e] at ih
    have h1 : goL me st k (n + 1) = ⟨k, st, me, k + 1⟩ :: goL me 1 (k + 1) n := by simp [goL, waitL]
    have h2 : goL me st k (n + 1 + 1) = ⟨k, st, me, k + 1⟩ :: goL me 1 (k + 1) (n + 1) := by simp [goL, waitL]
    rw [h1, h2]
    have h3 : succS (⟨k, st, me, k + 1⟩ :: goL me 1 (k + 1) n) me (k + ((n + 1 : Nat) : Int) + 1) = (⟨k, st, me, k + 1⟩ :: (succS (goL me 1 (k + 1) n) me (k + ((n + 1 : Nat) : Int) + 1)).1, (succS (goL me 1 (k + 1) n) me (k + ((n + 1 : Nat) : Int) + 1)).2) := succS_cons _ _ _ _ _
    rw [h3]
    refine ⟨ih.1, ?_⟩
    rw [← ih.2]
    simp [addS]
theorem go_ask0 (me k : Int) : succS (goL me 3 k 0) me (k + 1) = ([], true) ∧ addS [] (k + 1) = goL me 1 (k + 1) 0 := by
  simp [goL, waitL, succS, addS]
theorem go_grant (me k : Int) (n : Nat) : grantS (goL me 1 k n) k = (goL me 2 k n, true) := by
  simp [goL, grantS, waits, List.findIdx?_cons]
theorem wait_open (me : Int) : ∀ (n : Nat) (k : Int), openS (waitL me k n) = n
  | 0, _ => rfl
  | n + 1, k => by
    simp only [waitL]
    rw [openS_cons, wait_open me n]
    simp
    omega
theorem go_open (me st k : Int) (n : Nat) : openS (goL me st k n) = (if st = 1 ∨ st = 2 then 1 else 0) + n := by
  unfold goL
  rw [openS_cons, wait_open]
theorem go_rel0 (me k : Int) : relS (goL me 2 k 0) = (goL me 3 k 0, -1, 0, 0) := by
  unfold goL
  rw [rel_first _ _ rfl]
  simp
theorem go_rel (me k : Int) (n : Nat) (h : me ≠ -1) : relS (goL me 2 k (n + 1)) = (goL me 1 (k + 1) n, me, k + 1, 0) := by
  unfold goL
  rw [rel_first _ _ rfl]
  simp [h, waitL]
theorem go_relN (me k : Int) : relS (goL me 3 k 0) = ([], 0, 0, 22) := by
  simp [goL, waitL, relS, isHeld, List.findIdx?_cons]
theorem waitL_getD (me : Int) : ∀ (n : Nat) (k : Int) (i : Nat), i < n → (waitL me k n).getD i default = ⟨k + i, 1, if i + 1 = n then -1 else me, if i + 1 = n then 0 else k + i + 1⟩
  | n + 1, k, 0, _ => by
    simp only [waitL, List.getD_cons_zero]
    simp
  | n + 1, k, i + 1, h => by
    simp only [waitL, List.getD_cons_succ]
    rw [waitL_getD me n (k + 1) i (by omega)]
    simp
    first | done | (refine ⟨by omega, ?_⟩; split <;> omega) | omega
theorem goL_getD (me st k : Int) (n i : Nat) (h : i < n + 1) : (goL me st k n).getD i default = ⟨k + i, if i = 0 then st else 1, if i = n then -1 else me, if i = n then 0 else k + i + 1⟩ := by
  cases i with
  | zero =>
    simp only [goL, List.getD_cons_zero]
    simp
    by_cases h : n = 0
    · simp [h]
    · simp [h, Ne.symm h]
  | succ i =>
    simp only [goL, List.getD_cons_succ]
    rw [waitL_getD me n (k + 1) i (by omega)]
    simp
    first | done | (refine ⟨by omega, ?_⟩; split <;> omega) | omega
theorem go_good (me st k : Int) (n : Nat) (hm : 0 ≤ me ∧ me < 32) (hst : st = 2 ∨ (st = 3 ∧ n = 0)) (hk : 0 ≤ k ∧ (st = 2 → 1 ≤ k) ∧ k + n ≤ 1099511627776) : goodC (goL me st k n) me true = true := by
  rw [goodC_iff]
  refine ⟨fun _ => by rw [goL_len]; omega, fun i hi => ?_⟩
  rw [goL_len] at hi ⊢
  rw [goL_getD me st k n i hi]
  have h1 : 0 < i → (goL me st k n).getD (i - 1) default = ⟨k + (i - 1 : Nat), if i - 1 = 0 then st else 1, if i - 1 = n then -1 else me, if i - 1 = n then 0 else k + (i - 1 : Nat) + 1⟩ := fun _ => goL_getD me st k n (i - 1) (by omega)
  have h2 : i < n → (goL me st k n).getD (i + 1) default = ⟨k + (i + 1 : Nat), if i + 1 = 0 then st else 1, if i + 1 = n then -1 else me, if i + 1 = n then 0 else k + (i + 1 : Nat) + 1⟩ := fun _ => goL_getD me st k n (i + 1) (by omega)
  simp only
  refine ⟨by omega, by omega, ?_, ?_, fun h => ?_, ?_, fun _ h => ?_, fun h => ?_⟩
  · split <;> omega
  · split <;> omega
  · rw [h1 h]
    simp only
    rw [if_neg (by omega : ¬ i = 0)]
    omega
  · intro h0
    rcases hst with rfl | ⟨rfl, rfl⟩
    · have := hk.2.1 rfl
      omega
    · rw [if_pos (by omega)]
  · rw [if_pos (by omega), if_pos (by omega)]
    exact ⟨rfl, rfl⟩
  · have hin : i < n := by
      have : ¬ (i + 1 = n + 1) := fun e => h ⟨by first | rfl | trivial, e⟩
      omega
    rw [if_neg (by omega : ¬ i = n), if_neg (by omega : ¬ i = n), h2 hin]
    simp only
    refine ⟨?_, hm.1, hm.2, by omega, by omega, fun _ => ⟨by omega, by omega⟩⟩
    split <;> omega
theorem go_last (me st k : Int) (n : Nat) {j : Nat} (hj : j = n) : nth ((goL me st k n).map Cell.row) j = some (Cell.row ⟨k + n, if n = 0 then st else 1, -1, 0⟩) := by
  have := nth_getD (goL me st k n) n hj (by rw [goL_len]; omega)
  rw [this, goL_getD me st k n n (by omega)]
  simp
end Go.Proofs.Ytammndlghfknbaa
