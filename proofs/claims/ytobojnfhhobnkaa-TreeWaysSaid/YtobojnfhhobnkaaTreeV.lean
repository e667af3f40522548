/- tree: Path and Dist of any two numbers. -/
import Derived.Test.YtobojnfhhobnkaaTreeR
import Derived.Test.YtobojnfhhobnkaaTreeI
import Derived.Test.YtobojnfhhobnkaaTreeT
set_option linter.unusedSimpArgs false
set_option maxRecDepth 20000
set_option linter.unusedVariables false
namespace Go.Proofs.Ytobojnfhhobnkaa
open Go Go.Eng Go.RowKit

/-- The way between two numbers; none where one of them is no node. -/
def pathN (ps : List Int) (a b : Int) : List Nat := if hasB ps a = true ∧ hasB ps b = true then wy ps a.toNat b.toNat else []
def natIt (y : Nat) : List Sv := [I (y : Int)]
theorem natIt_map (ys : List Nat) : (ys.map fun (x : Nat) => (x : Int)).map oneIt = ys.map natIt := by
  rw [List.map_map]
  rfl
theorem pathAll_icon (f : Bool) (ps : List Int) (L : List (List Int)) (a b : Int) (h : Tr1 ps) : ICon Try.prog 31 (fun y => .val y :: pathCaps f ps L a b) ((pathN ps a b).map natIt) := by
  unfold pathN
  by_cases hab : hasB ps a = true ∧ hasB ps b = true
  · rw [if_pos hab, ← natIt_map]
    obtain ⟨h1, h2⟩ := hab
    have e1 := hasB_iff.1 h1
    have e2 := hasB_iff.1 h2
    obtain ⟨w1, w2⟩ := h.p.way (t := b.toNat) (by omega) _ a.toNat (by omega) rfl
    rw [show ((b.toNat : Nat) : Int) = b by omega] at w1
    rw [show ((a.toNat : Nat) : Int) = a by omega] at w2
    exact path1_icon f ps L a b _ h h1 h2 w2 w1
  · rw [if_neg hab]
    refine path1O_icon f ps L a b ?_
    rw [← Bool.not_eq_true, ← Bool.not_eq_true]
    exact Decidable.not_and_iff_or_not.1 hab
theorem pathN_len {ps : List Int} (h : Tr1 ps) (a b : Int) : (pathN ps a b).length ≤ 32 := by
  have hle := h.le
  unfold pathN
  split
  · rename_i hab
    have e1 := hasB_iff.1 hab.1
    have e2 := hasB_iff.1 hab.2
    have := h.p.wy_len (s := a.toNat) (t := b.toNat) (by omega) (by omega)
    have := h.p.dst_lt (s := a.toNat) (t := b.toNat) (by omega) (by omega)
    omega
  · simp
theorem distAll_pcon (ps : List Int) (L : List (List Int)) (a b : Int) (h : Tr1 ps) : PCon Try.prog 19 [treeX true ps L, I a, I b] (I ((pathN ps a b).length - 1)) [] := by
  have h1 := pathAll_icon true ps L a b h
  rw [← natIt_map] at h1
  have h2 := dist_pcon ps L a b _ h1 (by have := pathN_len h a b; simp; omega)
  rwa [List.length_map] at h2
theorem pathN_in {ps : List Int} {a b : Nat} (ha : a < ps.length) (hb : b < ps.length) : pathN ps a b = wy ps a b := by
  unfold pathN
  rw [if_pos ⟨hasB_iff.2 ⟨by omega, by omega⟩, hasB_iff.2 ⟨by omega, by omega⟩⟩]
  rfl
end Go.Proofs.Ytobojnfhhobnkaa
