/- Arrays of two, read out of the world. -/
import Derived.Test.YtonmkggglkicnaaRdTree
import Derived.OpenShut
set_option linter.unusedSimpArgs false
set_option maxRecDepth 20000
set_option linter.unusedVariables false
namespace Go.Proofs.Ytonmkggglkicnaa
open Go Go.Eng Go.RowKit

theorem okWide_arrU {P : Program} {w : World} {r : Reach} {base : Nat} {t : TypeId} {v : Value} {n : Nat} {e : TypeId} (ht : P.underlying t = some (.array n e)) (h : Value.okWide P w r base t v) : ∃ cs, v = .agg cs ∧ cs.size = P.cellsOf t := by
  simp only [Value.okWide, ht] at h
  obtain ⟨cs, h1, h2, _⟩ := h
  exact ⟨cs, h1, h2⟩
theorem Rd.arr2 {P : Program} {t e : TypeId} {α : Type} {Q : α → Prop} {enc : α → List Sv} (wd : Nat) (ht : P.underlying t = some (.array 2 e)) (hc : P.cellsOf e = wd) (hc2 : P.cellsOf t = wd + wd) (r : Rd P e Q enc) : Rd P t (fun p : α × α => Q p.1 ∧ Q p.2) fun p => enc p.1 ++ enc p.2 := by
  intro H en c fuel cs x hX h hw
  obtain ⟨xs, m, rfl, rfl, hl, hxl, hget⟩ := DataW.trod_array ht h
  have hwt : ∀ i (hi : i < xs.length), ∀ n ∈ xs[i].1.weights P e, n ≤ reachBytes := fun i hi n hn => hw n (by
    simp only [DataW.weights, ht]
    exact weightsAll_mem (List.mem_map.2 ⟨xs[i], List.getElem_mem _, rfl⟩) n hn)
  have g0 := hget 0 (by omega)
  have g1 := hget 1 (by omega)
  rw [List.getElem?_eq_getElem (by omega), hc] at g0 g1
  obtain ⟨a, ha, h1⟩ := r H en c m _ _ hX g0 (hwt 0 (by omega))
  obtain ⟨b, hb, h2⟩ := r H en c m _ _ hX g1 (hwt 1 (by omega))
  refine ⟨(a, b), ⟨ha, hb⟩, ?_⟩
  have := RelL_append _ h1 h2
  rw [Nat.zero_mul, List.drop_zero, Nat.one_mul, List.take_of_length_le (l := cs.drop wd) (by rw [List.length_drop, hl, hc2]; omega), List.take_append_drop] at this
  exact this
theorem pair_rd : Rd Try.prog 45 (fun p : Int × Int => w64 p.1 ∧ w64 p.2) fun p => [I p.1, I p.2] := Rd.arr2 1 Try.underlying45 (by kernel_rfl) (by kernel_rfl) int_rd
end Go.Proofs.Ytonmkggglkicnaa
