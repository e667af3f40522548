/- What half edges do, in plain Lean. -/
import Derived.Test.YtammndlghfknbaaHalfC
import Derived.Test.YtammndlghfknbaaHalfPushes
set_option linter.unusedSimpArgs false
set_option maxRecDepth 20000
set_option linter.unusedVariables false
namespace Go.Proofs.Ytammndlghfknbaa
open Go Go.Eng Go.RowKit

theorem good_iff (e : Edge) : e.good = true ↔ e.fit ∧ ∀ m ∈ e.out, m.valid = true := by simp [Edge.good]
theorem heardS_len (e : Edge) (n : Int) : (heardS e n).1.out.length ≤ e.out.length := by
  unfold heardS
  split
  · simp [Edge.zero]
  · split <;> simp
theorem takeS_len (e : Edge) : (takeS e).1.out.length ≤ e.out.length := by
  unfold takeS
  split
  · simp [Edge.zero]
  · split <;> simp [Edge.zero]
theorem take_good (e : Edge) (h : e.good = true) (hs : e.seen < 1099511627776) : ({ e with seen := e.seen + 1 } : Edge).good = true := by
  rw [good_iff] at *
  refine ⟨?_, h.2⟩
  have := h.1
  unfold Edge.fit at *
  simp only
  omega
theorem heard_good (e : Edge) (n : Int) (h : e.good = true) : (heardS e n).1.good = true ∧ (heardS e n).2 = 0 ∧ (heardS e n).1.seen = e.seen ∧ e.base ≤ (heardS e n).1.base ∧ (heardS e n).1.base + (heardS e n).1.out.length = e.base + e.out.length := by
  have hg := h
  rw [good_iff] at h
  obtain ⟨h1, h2⟩ := h
  unfold Edge.fit at h1
  unfold heardS
  rw [if_neg (by simp [hg])]
  split
  · rename_i h3
    refine ⟨?_, rfl, rfl, by simp only; omega, by simp only [List.length_drop]; omega⟩
    rw [good_iff]
    refine ⟨?_, fun m hm => h2 m (List.mem_of_mem_drop hm)⟩
    unfold Edge.fit
    simp only [List.length_drop]
    omega
  · exact ⟨hg, rfl, rfl, Int.le_refl _, rfl⟩
theorem push_good (e : Edge) (m : Msg) (h : e.good = true) (h0 : (pushS e m).2 = 0) : (pushS e m).1.good = true ∧ (pushS e m).1.seen = e.seen := by
  have hg := h
  rw [good_iff] at h
  obtain ⟨h1, h2⟩ := h
  unfold Edge.fit at h1
  unfold pushS at *
  rw [if_neg (by simp [hg])] at *
  split at h0
  · simp at h0
  · rename_i hv
    rw [if_neg hv]
    split at h0
    · simp at h0
    · rename_i h3
      rw [if_neg h3]
      refine ⟨?_, rfl⟩
      rw [good_iff]
      refine ⟨?_, fun x hx => ?_⟩
      · unfold Edge.fit
        simp only [List.length_append, List.length_cons, List.length_nil]
        omega
      · rcases List.mem_append.1 hx with hx | hx
        · exact h2 x hx
        · simp at hx
          subst hx
          simpa using hv
theorem sameself_pcon (a : Edge) (f g : Bool) (ha : a.out.length * 40 ≤ 140737488355328) : PCon Try.prog 20 [a.exf f, a.exf g] (Bo true) [] := by
  have := same_pcon a a f g ha
  rwa [same_self] at this
end Go.Proofs.Ytammndlghfknbaa
