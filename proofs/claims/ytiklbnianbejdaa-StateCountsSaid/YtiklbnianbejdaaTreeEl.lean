/- tree: the list of the edges. -/
import Derived.Test.YtiklbnianbejdaaTree5
import Derived.Test.YtiklbnianbejdaaWk
set_option linter.unusedSimpArgs false
set_option maxRecDepth 20000
set_option linter.unusedVariables false
namespace Go.Proofs.Ytiklbnianbejdaa
open Go Go.Eng Go.RowKit

/-! The list of the edges. -/
def rowE (ps : List Int) (a b : Nat) : List (Int × Int) := ((List.range b).filter fun v => decide (a < v) && isNear ps a v).map fun v => ((a : Int), ((v : Nat) : Int))
def eL (ps : List Int) (a : Nat) : List (Int × Int) := (List.range a).flatMap fun u => rowE ps u ps.length
theorem eL_succ (ps : List Int) (a : Nat) : eL ps (a + 1) = eL ps a ++ rowE ps a ps.length := by
  unfold eL
  rw [List.range_succ, List.flatMap_append]
  simp
theorem rowE_zero (ps : List Int) (a : Nat) : rowE ps a (a + 1) = [] := by
  unfold rowE
  rw [List.map_eq_nil_iff, List.filter_eq_nil_iff]
  intro v hv
  simp only [List.mem_range] at hv
  simp; omega
theorem rowE_succ (ps : List Int) {a b : Nat} (h : a < b) : rowE ps a (b + 1) = if isNear ps a b = true then rowE ps a b ++ [((a : Int), (b : Int))] else rowE ps a b := by
  unfold rowE
  rw [List.range_succ, List.filter_append, List.map_append]
  cases hn : isNear ps a b <;> simp [hn, h]
theorem isNear_comm (ps : List Int) (a b : Nat) : isNear ps a b = isNear ps b a := by
  unfold isNear; exact Bool.or_comm _ _
theorem edgeRow_near (ps : List Int) (a n : Nat) : edgeRow a (nearTo ps a n) = rowE ps a n := by
  unfold edgeRow nearTo rowE
  rw [List.filter_map, List.map_map, List.filter_filter]
  have e : (List.range n).filter (fun u => ((fun v : Int => decide ((a : Int) < v)) ∘ fun (u : Nat) => (u : Int)) u && isNear ps u a) = (List.range n).filter fun v => decide (a < v) && isNear ps a v := by
    refine List.filter_congr fun v _ => ?_
    rw [isNear_comm ps v a]
    simp
  rw [e]
  rfl
theorem Tr1.eL_all {ps : List Int} (h : Tr1 ps) : ∀ i, i ≤ ps.length → eL ps i ++ edgeFrom i ((nearOf ps).drop i) = edgeFrom 0 (nearOf ps)
  | 0, _ => by simp [eL]
  | i + 1, hi => by
    rw [← Tr1.eL_all h i (by omega), edgeFrom_at (nearOf ps) (i := i) (by rw [nearOf_length]; omega), h.p.near_list (by omega), edgeRow_near, eL_succ, List.append_assoc]
theorem Tr1.eL_eq {ps : List Int} (h : Tr1 ps) : eL ps ps.length = edgeFrom 0 (nearOf ps) := by
  have := h.eL_all ps.length (Nat.le_refl _)
  rw [List.drop_of_length_le (by rw [nearOf_length]; exact Nat.le_refl _)] at this
  simpa [edgeFrom] using this
theorem eL_mem {ps : List Int} {u v : Nat} (hu : u < ps.length) (hv : v < ps.length) (huv : u < v) (hn : isNear ps u v = true) : ((u : Int), (v : Int)) ∈ eL ps ps.length := by
  unfold eL rowE
  simp only [List.mem_flatMap, List.mem_range, List.mem_map, List.mem_filter]
  exact ⟨u, hu, v, ⟨hv, by simp [huv, hn]⟩, rfl⟩
theorem eL_at {ps : List Int} {p : Int × Int} (h : p ∈ eL ps ps.length) : ∃ u v : Nat, p = ((u : Int), (v : Int)) ∧ u < v ∧ v < ps.length ∧ isNear ps u v = true := by
  unfold eL rowE at h
  simp only [List.mem_flatMap, List.mem_range, List.mem_map, List.mem_filter] at h
  obtain ⟨u, hu, v, ⟨hv, h1⟩, rfl⟩ := h
  simp only [Bool.and_eq_true, decide_eq_true_eq] at h1
  exact ⟨u, v, rfl, h1.1, hv, h1.2⟩
theorem indexS_ge (xs : List Int) (x : Int) : decide (indexS xs x ≥ 0) = xs.contains x := by
  unfold indexS
  cases h : xs.findIdx? (· == x) with
  | none =>
    rw [List.findIdx?_eq_none_iff] at h
    have : xs.contains x = false := by
      rw [Bool.eq_false_iff]
      intro hc
      have := h x (by simpa using hc)
      simp at this
    rw [this]; rfl
  | some i =>
    have := List.findIdx?_eq_some_iff_getElem.1 h
    obtain ⟨hi, he, _⟩ := this
    have hc : xs.contains x = true := by
      rw [List.contains_iff_mem]
      have := List.getElem_mem hi
      rwa [eq_of_beq he] at this
    rw [hc]
    simp
theorem contains_pcon (f : Bool) (xs : List Int) (x : Int) (h : xs.length < 9223372036854775808) : PCon Try.prog 65 [intX f xs, I x] (Bo (xs.contains x)) [] := by
  refine pcon_of (G := gm) Try.func65 rfl rfl rfl ?_
  refine W.c1 (index_pcon f xs x h) ?_
  exact RetP.v (congrArg Value.bool (indexS_ge xs x))
end Go.Proofs.Ytiklbnianbejdaa
