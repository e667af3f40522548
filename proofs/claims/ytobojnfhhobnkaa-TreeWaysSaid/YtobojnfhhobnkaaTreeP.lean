/- trees, in plain Lean: chains of parents; the next node on the way; ways and distances. -/
import Derived.Test.YtobojnfhhobnkaaTreeF
set_option linter.unusedSimpArgs false
set_option maxRecDepth 20000
set_option linter.unusedVariables false
namespace Go.Proofs.Ytobojnfhhobnkaa
open Go Go.Eng Go.RowKit

/-- A node and its ancestors. -/
def chain (ps : List Int) : Nat → Nat → List Nat
  | 0, v => [v]
  | k + 1, v => v :: (if ps.getD v 0 < 0 then [] else chain ps k (ps.getD v 0).toNat)
def ch (ps : List Int) (v : Nat) : List Nat := chain ps ps.length v
theorem chain_more {ps : List Int} : ∀ {k : Nat} {v : Nat}, hits ps k v = true → (∀ v : Nat, v < ps.length → -1 ≤ ps.getD v 0 ∧ ps.getD v 0 < ps.length) → v < ps.length → ∀ {j : Nat}, k ≤ j → chain ps j v = chain ps k v
  | 0, v, h, _, _, _, _ => by cases h
  | k + 1, v, h, hb, hv, j, hj => by
    obtain ⟨j, rfl⟩ : ∃ i, j = i + 1 := ⟨j - 1, by omega⟩
    simp only [chain]
    congr 1
    split
    · rfl
    · rename_i hp
      have h1 := hb v hv
      simp only [hits, Int.toNat_natCast] at h
      rw [if_neg (by omega)] at h
      have e : ps.getD v 0 = (((ps.getD v 0).toNat : Nat) : Int) := by omega
      exact chain_more (by rw [e] at h; exact h) hb (by omega) (by omega)
structure TrP (ps : List Int) : Prop where
  bd : ∀ v : Nat, v < ps.length → -1 ≤ ps.getD v 0 ∧ ps.getD v 0 < ps.length ∧ ps.getD v 0 ≠ v
  up : ∀ v : Nat, v < ps.length → hits ps ps.length v = true
  one : ∀ u v : Nat, u < ps.length → v < ps.length → ps.getD u 0 = -1 → ps.getD v 0 = -1 → u = v
theorem Tr1.p {ps : List Int} (h : Tr1 ps) : TrP ps := by
  have hb : ∀ v : Nat, v < ps.length → (¬ ps.getD v 0 < -1 ∧ ¬ (ps.length : Int) ≤ ps.getD v 0 ∧ ¬ ps.getD v 0 = v) ∧ ¬ (ps.getD v 0 = -1 ∧ (ps.take v).any (· == -1) = true) := fun v hv => by
    have := h.ok v hv
    simp only [badAt, Bool.or_eq_false_iff, Bool.and_eq_false_iff, decide_eq_false_iff_not] at this
    refine ⟨⟨this.1.1.1, this.1.1.2, this.1.2⟩, ?_⟩
    rintro ⟨h1, h2⟩
    rcases this.2 with h3 | h3
    · exact h3 h1
    · rw [h3] at h2; cases h2
  refine ⟨fun v hv => by have := (hb v hv).1; omega, h.up, ?_⟩
  have key : ∀ u v : Nat, u < v → v < ps.length → ps.getD u 0 = -1 → ps.getD v 0 = -1 → False := fun u v huv hv hu1 hv1 => by
    refine (hb v hv).2 ⟨hv1, ?_⟩
    rw [List.any_eq_true]
    refine ⟨-1, ?_, by simp⟩
    rw [List.mem_iff_getElem?]
    refine ⟨u, ?_⟩
    rw [List.getElem?_take, if_pos huv]
    rw [List.getD_eq_getElem?_getD, List.getElem?_eq_getElem (by omega)] at hu1
    rw [List.getElem?_eq_getElem (by omega)]
    simpa using hu1
  intro u v hu hv hu1 hv1
  rcases Nat.lt_trichotomy u v with h1 | h1 | h1
  · exact (key u v h1 hv hu1 hv1).elim
  · exact h1
  · exact (key v u h1 hu hv1 hu1).elim
section
variable {ps : List Int} (h : TrP ps)
include h
theorem TrP.ch_eq {v : Nat} (hv : v < ps.length) : ch ps v = v :: (if ps.getD v 0 < 0 then [] else ch ps (ps.getD v 0).toNat) := by
  have h0 := h.up v hv
  obtain ⟨k, hk⟩ : ∃ k, ps.length = k + 1 := ⟨ps.length - 1, by omega⟩
  unfold ch
  rw [hk] at h0 ⊢
  simp only [chain]
  congr 1
  split
  · rfl
  · have hb := h.bd v hv
    simp only [hits, Int.toNat_natCast] at h0
    rw [if_neg (by omega)] at h0
    have e : ps.getD v 0 = (((ps.getD v 0).toNat : Nat) : Int) := by omega
    have := chain_more (ps := ps) (k := k) (v := (ps.getD v 0).toNat) (by rw [e] at h0; exact h0) (fun u hu => ⟨(h.bd u hu).1, (h.bd u hu).2.1⟩) (by omega) (j := k + 1) (by omega)
    simp only [chain] at this
    exact this.symm
/-- How deep a node lies. -/
theorem TrP.ch_self {v : Nat} (hv : v < ps.length) : v ∈ ch ps v := by rw [h.ch_eq hv]; simp
theorem TrP.ind {P : Nat → Prop} (hP : ∀ v, v < ps.length → (0 ≤ ps.getD v 0 → P (ps.getD v 0).toNat) → P v) : ∀ v, v < ps.length → P v := by
  have : ∀ n v, v < ps.length → (ch ps v).length ≤ n → P v := by
    intro n
    induction n with
    | zero => intro v hv hl; rw [h.ch_eq hv] at hl; simp at hl
    | succ n ih =>
      intro v hv hl
      refine hP v hv fun h0 => ih _ (by have := h.bd v hv; omega) ?_
      rw [h.ch_eq hv, if_neg (by omega)] at hl
      simpa using hl
  exact fun v hv => this _ v hv (Nat.le_refl _)
theorem TrP.ch_lt : ∀ v, v < ps.length → ∀ x ∈ ch ps v, x < ps.length := by
  refine h.ind fun v hv ih x hx => ?_
  rw [h.ch_eq hv] at hx
  rcases List.mem_cons.1 hx with rfl | hx
  · exact hv
  · split at hx
    · simp at hx
    · exact ih (by omega) x hx
theorem TrP.ch_par {x : Nat} : ∀ v, v < ps.length → x ∈ ch ps v → 0 ≤ ps.getD x 0 → (ps.getD x 0).toNat ∈ ch ps v := by
  refine h.ind fun v hv ih hx h0 => ?_
  rw [h.ch_eq hv] at hx ⊢
  rcases List.mem_cons.1 hx with rfl | hx
  · rw [if_neg (by omega)]
    exact List.mem_cons_of_mem _ (h.ch_self (by have := h.bd x hv; omega))
  · split at hx
    · simp at hx
    · rename_i h1
      rw [if_neg h1]
      exact List.mem_cons_of_mem _ (ih (by omega) hx h0)
/-- In a chain, the deeper ones come first. -/
theorem TrP.ch_dep : ∀ v, v < ps.length → ∀ x ∈ ch ps v, x = v ∨ (ch ps x).length < (ch ps v).length := by
  refine h.ind fun v hv ih x hx => ?_
  rw [h.ch_eq hv] at hx
  rcases List.mem_cons.1 hx with rfl | hx
  · exact .inl rfl
  · right
    split at hx
    · simp at hx
    · rename_i h1
      rw [h.ch_eq hv, if_neg h1]
      rw [List.length_cons]
      rcases ih (by omega) x hx with e | h2
      · rw [e]; omega
      · omega
theorem TrP.dep_par {v : Nat} (hv : v < ps.length) (h0 : 0 ≤ ps.getD v 0) : (ch ps v).length = (ch ps (ps.getD v 0).toNat).length + 1 := by
  rw [h.ch_eq hv, if_neg (by omega)]
  simp
/-- Every chain ends at the root. -/
theorem TrP.ch_root {r : Nat} (hr : r < ps.length) (h1 : ps.getD r 0 = -1) : ∀ v, v < ps.length → r ∈ ch ps v := by
  refine h.ind fun v hv ih => ?_
  rw [h.ch_eq hv]
  by_cases h0 : 0 ≤ ps.getD v 0
  · rw [if_neg (by omega)]
    exact List.mem_cons_of_mem _ (ih h0)
  · have hb := h.bd v hv
    have := h.one r v hr hv h1 (by omega)
    subst this
    simp
/-- Two of a chain with the same parent are one. -/
theorem TrP.ch_one {x y : Nat} : ∀ v, v < ps.length → x ∈ ch ps v → y ∈ ch ps v → ps.getD x 0 = ps.getD y 0 → x = y := by
  have key : ∀ v, v < ps.length → ∀ z ∈ ch ps v, z ≠ v → 0 ≤ ps.getD v 0 → ps.getD z 0 ≠ ps.getD v 0 := fun v hv z hz hne h0 he => by
    have hz2 : z ∈ ch ps (ps.getD v 0).toNat := by
      rw [h.ch_eq hv, if_neg (by omega)] at hz
      rcases List.mem_cons.1 hz with rfl | hz
      · exact absurd rfl hne
      · exact hz
    have hb := h.bd v hv
    have hzl := h.ch_lt v hv z hz
    have h2 := h.dep_par hzl (by omega)
    rw [he] at h2
    rcases h.ch_dep _ (by omega) z hz2 with h3 | h3
    · have := (h.bd z hzl).2.2
      omega
    · omega
  refine h.ind fun v hv ih hx hy he => ?_
  by_cases hxv : x = v
  · by_cases hyv : y = v
    · rw [hxv, hyv]
    · by_cases h0 : 0 ≤ ps.getD v 0
      · exact absurd (by rw [← he, hxv]) (key v hv y hy hyv h0)
      · rw [h.ch_eq hv, if_pos (by omega)] at hy
        simp at hy
        exact absurd hy hyv
  · by_cases h0 : 0 ≤ ps.getD v 0
    · by_cases hyv : y = v
      · exact absurd (by rw [he, hyv]) (key v hv x hx hxv h0)
      · rw [h.ch_eq hv, if_neg (by omega)] at hx hy
        rcases List.mem_cons.1 hx with e | hx
        · exact absurd e hxv
        rcases List.mem_cons.1 hy with e | hy
        · exact absurd e hyv
        exact ih h0 hx hy he
    · rw [h.ch_eq hv, if_pos (by omega)] at hx
      simp at hx
      exact absurd hx hxv
end
end Go.Proofs.Ytobojnfhhobnkaa
