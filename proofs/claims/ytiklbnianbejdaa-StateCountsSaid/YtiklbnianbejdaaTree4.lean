/- trees, in plain Lean; Path and Dist of any two numbers. -/
import Derived.Test.YtiklbnianbejdaaTree1
import Derived.Test.YtiklbnianbejdaaTree3
set_option linter.unusedSimpArgs false
set_option maxRecDepth 20000
set_option linter.unusedVariables false
/- trees, in plain Lean: chains of parents; the next node on the way; ways and distances. -/
namespace Go.Proofs.Ytiklbnianbejdaa
open Go Go.Eng Go.RowKit

/-- A node and its ancestors. -/
def chain (ps : List Int) : Nat → Nat → List Nat
  | 0, v => [v]
  | k + 1, v => v :: (if ps.getD v 0 < 0 then [] else chain ps k (ps.getD v 0).toNat)
def ch (ps : List Int) (v : Nat) : List Nat := chain ps ps.length v
theorem chain_more {ps : List Int} : ∀ {k : Nat} {v : Nat}, hits ps k v = true → (∀ v : Nat, v < ps.length → -1 ≤ ps.getD v 0 ∧ ps.getD v 0 < ps.length) → v < ps.length → ∀ {j : Nat}, k ≤ j → chain ps j v = chain ps k v
  | 0, v, h, _, _, _, _ => by cases h
  | k + 1, v, h, hb, hv, j, hj => by
    obtain ⟨j, rfl⟩ : ∃ i, j = i + 1 := ⟨j - 1, by omega⟩
    simp only [chain]
    congr 1
    split
    · rfl
    · rename_i hp
      have h1 := hb v hv
      simp only [hits, Int.toNat_natCast] at h
      rw [if_neg (by omega)] at h
      have e : ps.getD v 0 = (((ps.getD v 0).toNat : Nat) : Int) := by omega
      exact chain_more (by rw [e] at h; exact h) hb (by omega) (by omega)
structure TrP (ps : List Int) : Prop where
  bd : ∀ v : Nat, v < ps.length → -1 ≤ ps.getD v 0 ∧ ps.getD v 0 < ps.length ∧ ps.getD v 0 ≠ v
  up : ∀ v : Nat, v < ps.length → hits ps ps.length v = true
  one : ∀ u v : Nat, u < ps.length → v < ps.length → ps.getD u 0 = -1 → ps.getD v 0 = -1 → u = v
theorem Tr1.p {ps : List Int} (h : Tr1 ps) : TrP ps := by
  have hb : ∀ v : Nat, v < ps.length → (¬ ps.getD v 0 < -1 ∧ ¬ (ps.length : Int) ≤ ps.getD v 0 ∧ ¬ ps.getD v 0 = v) ∧ ¬ (ps.getD v 0 = -1 ∧ (ps.take v).any (· == -1) = true) := fun v hv => by
    have := h.ok v hv
    simp only [badAt, Bool.or_eq_false_iff, Bool.and_eq_false_iff, decide_eq_false_iff_not] at this
    refine ⟨⟨this.1.1.1, this.1.1.2, this.1.2⟩, ?_⟩
    rintro ⟨h1, h2⟩
    rcases this.2 with h3 | h3
    · exact h3 h1
    · rw [h3] at h2; cases h2
  refine ⟨fun v hv => by have := (hb v hv).1; omega, h.up, ?_⟩
  have key : ∀ u v : Nat, u < v → v < ps.length → ps.getD u 0 = -1 → ps.getD v 0 = -1 → False := fun u v huv hv hu1 hv1 => by
    refine (hb v hv).2 ⟨hv1, ?_⟩
    rw [List.any_eq_true]
    refine ⟨-1, ?_, by simp⟩
    rw [List.mem_iff_getElem?]
    refine ⟨u, ?_⟩
    rw [List.getElem?_take, if_pos huv]
    rw [List.getD_eq_getElem?_getD, List.getElem?_eq_getElem (by omega)] at hu1
    rw [List.getElem?_eq_getElem (by omega)]
    simpa using hu1
  intro u v hu hv hu1 hv1
  rcases Nat.lt_trichotomy u v with h1 | h1 | h1
  · exact (key u v h1 hv hu1 hv1).elim
  · exact h1
  · exact (key v u h1 hu hv1 hu1).elim
section
variable {ps : List Int} (h : TrP ps)
include h
theorem TrP.ch_eq {v : Nat} (hv : v < ps.length) : ch ps v = v :: (if ps.getD v 0 < 0 then [] else ch ps (ps.getD v 0).toNat) := by
  have h0 := h.up v hv
  obtain ⟨k, hk⟩ : ∃ k, ps.length = k + 1 := ⟨ps.length - 1, by omega⟩
  unfold ch
  rw [hk] at h0 ⊢
  simp only [chain]
  congr 1
  split
  · rfl
  · have hb := h.bd v hv
    simp only [hits, Int.toNat_natCast] at h0
    rw [if_neg (by omega)] at h0
    have e : ps.getD v 0 = (((ps.getD v 0).toNat : Nat) : Int) := by omega
    have := chain_more (ps := ps) (k := k) (v := (ps.getD v 0).toNat) (by rw [e] at h0; exact h0) (fun u hu => ⟨(h.bd u hu).1, (h.bd u hu).2.1⟩) (by omega) (j := k + 1) (by omega)
    simp only [chain] at this
    exact this.symm
/-- How deep a node lies. -/
theorem TrP.ch_self {v : Nat} (hv : v < ps.length) : v ∈ ch ps v := by rw [h.ch_eq hv]; simp
theorem TrP.ind {P : Nat → Prop} (hP : ∀ v, v < ps.length → (0 ≤ ps.getD v 0 → P (ps.getD v 0).toNat) → P v) : ∀ v, v < ps.length → P v := by
  have : ∀ n v, v < ps.length → (ch ps v).length ≤ n → P v := by
    intro n
    induction n with
    | zero => intro v hv hl; rw [h.ch_eq hv] at hl; simp at hl
    | succ n ih =>
      intro v hv hl
      refine hP v hv fun h0 => ih _ (by have := h.bd v hv; omega) ?_
      rw [h.ch_eq hv, if_neg (by omega)] at hl
      simpa using hl
  exact fun v hv => this _ v hv (Nat.le_refl _)
theorem TrP.ch_lt : ∀ v, v < ps.length → ∀ x ∈ ch ps v, x < ps.length := by
  refine h.ind fun v hv ih x hx => ?_
  rw [h.ch_eq hv] at hx
  rcases List.mem_cons.1 hx with rfl | hx
  · exact hv
  · split at hx
    · simp at hx
    · exact ih (by omega) x hx
theorem TrP.ch_par {x : Nat} : ∀ v, v < ps.length → x ∈ ch ps v → 0 ≤ ps.getD x 0 → (ps.getD x 0).toNat ∈ ch ps v := by
  refine h.ind fun v hv ih hx h0 => ?_
  rw [h.ch_eq hv] at hx ⊢
  rcases List.mem_cons.1 hx with rfl | hx
  · rw [if_neg (by omega)]
    exact List.mem_cons_of_mem _ (h.ch_self (by have := h.bd x hv; omega))
  · split at hx
    · simp at hx
    · rename_i h1
      rw [if_neg h1]
      exact List.mem_cons_of_mem _ (ih (by omega) hx h0)
/-- In a chain, the deeper ones come first. -/
theorem TrP.ch_dep : ∀ v, v < ps.length → ∀ x ∈ ch ps v, x = v ∨ (ch ps x).length < (ch ps v).length := by
  refine h.ind fun v hv ih x hx => ?_
  rw [h.ch_eq hv] at hx
  rcases List.mem_cons.1 hx with rfl | hx
  · exact .inl rfl
  · right
    split at hx
    · simp at hx
    · rename_i h1
      rw [h.ch_eq hv, if_neg h1]
      rw [List.length_cons]
      rcases ih (by omega) x hx with e | h2
      · rw [e]; omega
      · omega
theorem TrP.dep_par {v : Nat} (hv : v < ps.length) (h0 : 0 ≤ ps.getD v 0) : (ch ps v).length = (ch ps (ps.getD v 0).toNat).length + 1 := by
  rw [h.ch_eq hv, if_neg (by omega)]
  simp
/-- Every chain ends at the root. -/
theorem TrP.ch_root {r : Nat} (hr : r < ps.length) (h1 : ps.getD r 0 = -1) : ∀ v, v < ps.length → r ∈ ch ps v := by
  refine h.ind fun v hv ih => ?_
  rw [h.ch_eq hv]
  by_cases h0 : 0 ≤ ps.getD v 0
  · rw [if_neg (by omega)]
    exact List.mem_cons_of_mem _ (ih h0)
  · have hb := h.bd v hv
    have := h.one r v hr hv h1 (by omega)
    subst this
    simp
/-- Two of a chain with the same parent are one. -/
theorem TrP.ch_one {x y : Nat} : ∀ v, v < ps.length → x ∈ ch ps v → y ∈ ch ps v → ps.getD x 0 = ps.getD y 0 → x = y := by
  have key : ∀ v, v < ps.length → ∀ z ∈ ch ps v, z ≠ v → 0 ≤ ps.getD v 0 → ps.getD z 0 ≠ ps.getD v 0 := fun v hv z hz hne h0 he => by
    have hz2 : z ∈ ch ps (ps.getD v 0).toNat := by
      rw [h.ch_eq hv, if_neg (by omega)] at hz
      rcases List.mem_cons.1 hz with rfl | hz
      · exact absurd rfl hne
      · exact hz
    have hb := h.bd v hv
    have hzl := h.ch_lt v hv z hz
    have h2 := h.dep_par hzl (by omega)
    rw [he] at h2
    rcases h.ch_dep _ (by omega) z hz2 with h3 | h3
    · have := (h.bd z hzl).2.2
      omega
    · omega
  refine h.ind fun v hv ih hx hy he => ?_
  by_cases hxv : x = v
  · by_cases hyv : y = v
    · rw [hxv, hyv]
    · by_cases h0 : 0 ≤ ps.getD v 0
      · exact absurd (by rw [← he, hxv]) (key v hv y hy hyv h0)
      · rw [h.ch_eq hv, if_pos (by omega)] at hy
        simp at hy
        exact absurd hy hyv
  · by_cases h0 : 0 ≤ ps.getD v 0
    · by_cases hyv : y = v
      · exact absurd (by rw [he, hyv]) (key v hv x hx hxv h0)
      · rw [h.ch_eq hv, if_neg (by omega)] at hx hy
        rcases List.mem_cons.1 hx with e | hx
        · exact absurd e hxv
        rcases List.mem_cons.1 hy with e | hy
        · exact absurd e hyv
        exact ih h0 hx hy he
    · rw [h.ch_eq hv, if_pos (by omega)] at hx
      simp at hx
      exact absurd hx hxv
end
end Go.Proofs.Ytiklbnianbejdaa

/- trees, in plain Lean: the next node on the way, ways, distances. -/
namespace Go.Proofs.Ytiklbnianbejdaa
open Go Go.Eng Go.RowKit

theorem chain_len (ps : List Int) : ∀ k v, (chain ps k v).length ≤ k + 1
  | 0, v => by simp [chain]
  | k + 1, v => by
    simp only [chain, List.length_cons]
    split
    · simp
    · have := chain_len ps k (ps.getD v 0).toNat; omega
/-- The next node on the way from s to t. -/
def nxt (ps : List Int) (s t : Nat) : Nat := (nextS ps s t).toNat
section
variable {ps : List Int} (h : TrP ps)
include h
theorem TrP.climb_ch (s : Nat) : ∀ (k t : Nat), t < ps.length → hits ps k t = true → climb ps s k t = match (ch ps t).find? (fun y => ps.getD y 0 == (s : Int)) with | some y => (y : Int) | none => ps.getD s 0
  | 0, t, _, hh => by cases hh
  | k + 1, t, ht, hh => by
    have hb := h.bd t ht
    simp only [hits, Int.toNat_natCast] at hh
    rw [climb, if_neg (by omega), h.ch_eq ht, List.find?_cons]
    simp only [Int.toNat_natCast]
    by_cases h1 : ps.getD t 0 = (s : Int)
    · rw [if_pos h1, show (ps.getD t 0 == (s : Int)) = true by rw [h1]; simp]
    · rw [if_neg h1, show (ps.getD t 0 == (s : Int)) = false by rw [beq_eq_false_iff_ne]; exact h1]
      simp only
      by_cases h2 : ps.getD t 0 < 0
      · rw [if_pos h2, climb_neg ps s k h2]
        simp
      · rw [if_neg h2]
        rw [if_neg (by omega)] at hh
        have e : ps.getD t 0 = (((ps.getD t 0).toNat : Nat) : Int) := by omega
        rw [e, TrP.climb_ch s k (ps.getD t 0).toNat (by omega) (by rw [← e]; exact hh), Int.toNat_natCast]
theorem TrP.next_eq {s t : Nat} (hs : s < ps.length) (ht : t < ps.length) (hne : s ≠ t) : nextS ps s t = match (ch ps t).find? (fun y => ps.getD y 0 == (s : Int)) with | some y => (y : Int) | none => ps.getD s 0 := by
  unfold nextS
  rw [if_neg (by rw [hasB_iff.2 ⟨by omega, by omega⟩, hasB_iff.2 ⟨by omega, by omega⟩]; simp), if_neg (by omega)]
  exact h.climb_ch s _ t ht (h.up t ht)
theorem TrP.child {s : Nat} : ∀ t, t < ps.length → s ∈ ch ps t → s ≠ t → ∃ y, y ∈ ch ps t ∧ ps.getD y 0 = (s : Int) := by
  refine h.ind fun t ht ih hs hne => ?_
  rw [h.ch_eq ht] at hs ⊢
  rcases List.mem_cons.1 hs with e | hs
  · exact absurd e hne
  split at hs
  · simp at hs
  · rename_i h1
    rw [if_neg h1]
    by_cases h2 : s = (ps.getD t 0).toNat
    · exact ⟨t, by simp, by omega⟩
    · obtain ⟨y, hy, e⟩ := ih (by omega) hs h2
      exact ⟨y, List.mem_cons_of_mem _ hy, e⟩
theorem TrP.desc {s t : Nat} (ht : t < ps.length) (hs : s ∈ ch ps t) (hne : s ≠ t) : ∃ y, y ∈ ch ps t ∧ ps.getD y 0 = (s : Int) ∧ nextS ps s t = (y : Int) := by
  obtain ⟨y0, h1, h2⟩ := h.child t ht hs hne
  rw [h.next_eq (h.ch_lt t ht s hs) ht hne]
  cases hf : (ch ps t).find? (fun y => ps.getD y 0 == (s : Int)) with
  | none =>
    rw [List.find?_eq_none] at hf
    exact absurd (by rw [h2]; simp) (hf y0 h1)
  | some y =>
    have := List.find?_some hf
    exact ⟨y, List.mem_of_find?_eq_some hf, by simpa using this, rfl⟩
theorem TrP.asc {s t : Nat} (hs : s < ps.length) (ht : t < ps.length) (hn : s ∉ ch ps t) : 0 ≤ ps.getD s 0 ∧ nextS ps s t = ps.getD s 0 := by
  have hne : s ≠ t := fun e => hn (by rw [e]; exact h.ch_self ht)
  refine ⟨?_, ?_⟩
  · rcases Int.lt_or_le (ps.getD s 0) 0 with h0 | h0
    · have := h.bd s hs
      exact absurd (h.ch_root hs (by omega) t ht) hn
    · exact h0
  · rw [h.next_eq hs ht hne]
    cases hf : (ch ps t).find? (fun y => ps.getD y 0 == (s : Int)) with
    | none => rfl
    | some y =>
      exfalso
      have h1 := List.find?_some hf
      have h2 := List.mem_of_find?_eq_some hf
      have h1 : ps.getD y 0 = (s : Int) := by simpa using h1
      have := h.ch_par t ht h2 (by omega)
      rw [h1] at this
      exact hn (by simpa using this)
/-- The next node is a node, beside the first. -/
theorem TrP.nxt_ok {s t : Nat} (hs : s < ps.length) (ht : t < ps.length) (hne : s ≠ t) : nxt ps s t < ps.length ∧ isNear ps s (nxt ps s t) = true ∧ nextS ps s t = (nxt ps s t : Nat) := by
  unfold nxt isNear
  by_cases hc : s ∈ ch ps t
  · obtain ⟨y, h1, h2, h3⟩ := h.desc ht hc hne
    rw [h3, Int.toNat_natCast]
    exact ⟨h.ch_lt t ht y h1, by simp only [h2]; simp, rfl⟩
  · obtain ⟨h1, h2⟩ := h.asc hs ht hc
    have hb := h.bd s hs
    rw [h2]
    refine ⟨by omega, ?_, by omega⟩
    rw [show (((ps.getD s 0).toNat : Nat) : Int) = ps.getD s 0 by omega]
    simp
/-- Of two neighbours one is the next of the other. -/
theorem TrP.near_or {u v t : Nat} (hu : u < ps.length) (hv : v < ps.length) (ht : t < ps.length) (hn : isNear ps u v = true) : nxt ps u t = v ∧ u ≠ t ∨ nxt ps v t = u ∧ v ≠ t := by
  have key : ∀ u v : Nat, u < ps.length → v < ps.length → ps.getD u 0 = (v : Int) → nxt ps u t = v ∧ u ≠ t ∨ nxt ps v t = u ∧ v ≠ t := fun u v hu hv he => by
    by_cases hc : u ∈ ch ps t
    · right
      have hvc : v ∈ ch ps t := by
        have := h.ch_par t ht hc (by omega)
        rw [he] at this
        simpa using this
      have hne : v ≠ t := fun e => by
        subst e
        rcases h.ch_dep v hv u hc with h1 | h1
        · have := (h.bd u hu).2.2; omega
        · have h2 := h.dep_par hu (by omega)
          rw [he, Int.toNat_natCast] at h2
          omega
      obtain ⟨y, h1, h2, h3⟩ := h.desc ht hvc hne
      refine ⟨?_, hne⟩
      unfold nxt
      rw [h3, Int.toNat_natCast]
      exact h.ch_one t ht h1 hc (by rw [h2, he])
    · left
      obtain ⟨h1, h2⟩ := h.asc hu ht hc
      refine ⟨?_, fun e => hc (by rw [e]; exact h.ch_self ht)⟩
      unfold nxt
      rw [h2, he, Int.toNat_natCast]
  unfold isNear at hn
  simp only [Bool.or_eq_true, decide_eq_true_eq] at hn
  rcases hn with hn | hn
  · exact key u v hu hv hn
  · exact (key v u hv hu hn).symm
end
/-- A bound for the way's length. -/
def mu' (ps : List Int) (s t : Nat) : Nat := if s ∈ ch ps t then (ch ps t).length - (ch ps s).length else (ch ps s).length + (ch ps t).length
theorem mu'_le (ps : List Int) (s t : Nat) : mu' ps s t ≤ 2 * ps.length + 2 := by
  have h1 := chain_len ps ps.length s
  have h2 := chain_len ps ps.length t
  unfold mu' ch
  split <;> omega
theorem TrP.mu_nxt {ps : List Int} (h : TrP ps) {s t : Nat} (hs : s < ps.length) (ht : t < ps.length) (hne : s ≠ t) : mu' ps (nxt ps s t) t < mu' ps s t := by
  by_cases hc : s ∈ ch ps t
  · obtain ⟨y, h1, h2, h3⟩ := h.desc ht hc hne
    have hy := h.ch_lt t ht y h1
    have h4 := h.dep_par hy (by omega)
    rw [h2, Int.toNat_natCast] at h4
    unfold nxt
    rw [h3, Int.toNat_natCast]
    unfold mu'
    rw [if_pos hc, if_pos h1]
    rcases h.ch_dep t ht y h1 with e | h5
    · rw [e] at h4 ⊢; omega
    · omega
  · obtain ⟨h1, h2⟩ := h.asc hs ht hc
    have h4 := h.dep_par hs h1
    have h5 : 0 < (ch ps s).length := by rw [h.ch_eq hs]; simp
    unfold nxt
    rw [h2]
    unfold mu'
    rw [if_neg hc]
    split <;> omega
/-- The way from s to t. -/
def wayN (ps : List Int) (t : Nat) : Nat → Nat → List Nat
  | 0, s => [s]
  | k + 1, s => if s = t then [s] else s :: wayN ps t k (nxt ps s t)
def wy (ps : List Int) (s t : Nat) : List Nat := wayN ps t (2 * ps.length + 2) s
theorem TrP.way_more {ps : List Int} (h : TrP ps) {t : Nat} (ht : t < ps.length) : ∀ (k s : Nat), s < ps.length → mu' ps s t ≤ k → ∀ j, k ≤ j → wayN ps t j s = wayN ps t k s
  | 0, s, hs, hk, j, hj => by
    by_cases he : s = t
    · cases j with
      | zero => rfl
      | succ j => simp [wayN, he]
    · have := h.mu_nxt hs ht he; omega
  | k + 1, s, hs, hk, j, hj => by
    obtain ⟨j, rfl⟩ : ∃ i, j = i + 1 := ⟨j - 1, by omega⟩
    simp only [wayN]
    split
    · rfl
    · rename_i he
      have h1 := h.mu_nxt hs ht he
      rw [h.way_more ht k _ (h.nxt_ok hs ht he).1 (by omega) j (by omega)]
theorem TrP.wy_eq {ps : List Int} (h : TrP ps) {s t : Nat} (hs : s < ps.length) (ht : t < ps.length) : wy ps s t = if s = t then [s] else s :: wy ps (nxt ps s t) t := by
  unfold wy
  rw [show 2 * ps.length + 2 = (2 * ps.length + 1) + 1 by omega, wayN]
  split
  · rfl
  · rename_i he
    have h1 := h.mu_nxt hs ht he
    have h2 := mu'_le ps s t
    rw [show wayN ps t (2 * ps.length + 1) (nxt ps s t) = wayN ps t (2 * ps.length + 1 + 1) (nxt ps s t) from (h.way_more ht (2 * ps.length + 1) _ (h.nxt_ok hs ht he).1 (by omega) _ (by omega)).symm]
/-- How far two nodes lie apart. -/
def dst (ps : List Int) (s t : Nat) : Nat := (wy ps s t).length - 1
section
variable {ps : List Int} (h : TrP ps)
include h
theorem TrP.wy_pos {s t : Nat} (hs : s < ps.length) (ht : t < ps.length) : 0 < (wy ps s t).length := by rw [h.wy_eq hs ht]; split <;> simp
theorem TrP.dst_self {t : Nat} (ht : t < ps.length) : dst ps t t = 0 := by unfold dst; rw [h.wy_eq ht ht, if_pos rfl]; rfl
theorem TrP.dst_nxt {s t : Nat} (hs : s < ps.length) (ht : t < ps.length) (hne : s ≠ t) : dst ps s t = dst ps (nxt ps s t) t + 1 := by
  have := h.wy_pos (h.nxt_ok hs ht hne).1 ht
  unfold dst
  rw [h.wy_eq hs ht, if_neg hne, List.length_cons]
  omega
theorem TrP.dst_zero {s t : Nat} (hs : s < ps.length) (ht : t < ps.length) (h0 : dst ps s t = 0) : s = t := by
  rcases Nat.decEq s t with hne | e
  · have := h.dst_nxt hs ht hne; omega
  · exact e
omit h in
theorem near_sym {u v : Nat} (hn : isNear ps u v = true) : isNear ps v u = true := by
  unfold isNear at *
  simp only [Bool.or_eq_true] at *
  exact hn.symm
/-- Neighbours lie one apart, from whatever node. -/
theorem TrP.near_dst {u v t : Nat} (hu : u < ps.length) (hv : v < ps.length) (ht : t < ps.length) (hn : isNear ps u v = true) : dst ps u t = dst ps v t + 1 ∧ nxt ps u t = v ∨ dst ps v t = dst ps u t + 1 ∧ nxt ps v t = u := by
  rcases h.near_or hu hv ht hn with ⟨h1, h2⟩ | ⟨h1, h2⟩
  · left
    have := h.dst_nxt hu ht h2
    rw [h1] at this
    exact ⟨this, h1⟩
  · right
    have := h.dst_nxt hv ht h2
    rw [h1] at this
    exact ⟨this, h1⟩
theorem TrP.wy_lt {t : Nat} (ht : t < ps.length) : ∀ (n s : Nat), s < ps.length → dst ps s t = n → ∀ x ∈ wy ps s t, x < ps.length
  | 0, s, hs, hd, x, hx => by
    rw [h.wy_eq hs ht, if_pos (h.dst_zero hs ht hd)] at hx
    simp at hx; omega
  | n + 1, s, hs, hd, x, hx => by
    rw [h.wy_eq hs ht] at hx
    split at hx
    · simp at hx; omega
    · rename_i hne
      have := h.dst_nxt hs ht hne
      rcases List.mem_cons.1 hx with rfl | hx
      · exact hs
      · exact TrP.wy_lt ht n _ (h.nxt_ok hs ht hne).1 (by omega) x hx
/-- The way, as the engine's list. -/
theorem TrP.way {t : Nat} (ht : t < ps.length) : ∀ (n s : Nat), s < ps.length → dst ps s t = n → Way ps t ((wy ps s t).map fun (x : Nat) => (x : Int)) ∧ ((wy ps s t).map fun (x : Nat) => (x : Int)).head? = some (s : Int)
  | 0, s, hs, hd => by
    have e := h.dst_zero hs ht hd
    rw [h.wy_eq hs ht, if_pos e]
    exact ⟨by show (s : Int) = t; omega, rfl⟩
  | n + 1, s, hs, hd => by
    have hne : s ≠ t := fun e => by rw [e, h.dst_self ht] at hd; cases hd
    have h1 := h.dst_nxt hs ht hne
    obtain ⟨k1, k2, k3⟩ := h.nxt_ok hs ht hne
    obtain ⟨h2, h3⟩ := TrP.way ht n _ k1 (by omega)
    rw [h.wy_eq hs ht, if_neg hne]
    refine ⟨?_, rfl⟩
    rw [List.map_cons]
    generalize hys : (wy ps (nxt ps s t) t).map (fun (x : Nat) => (x : Int)) = ys at h2 h3
    cases ys with
    | nil => cases h3
    | cons y r =>
      simp only [List.head?_cons, Option.some.injEq] at h3
      exact ⟨by omega, by rw [k3, h3], h2⟩
end
end Go.Proofs.Ytiklbnianbejdaa

/- trees, in plain Lean: the way back, the triangle, the node where three ways meet. -/
namespace Go.Proofs.Ytiklbnianbejdaa
open Go Go.Eng Go.RowKit

theorem nodup_le : ∀ (n : Nat) (l : List Nat), l.Nodup → (∀ x ∈ l, x < n) → l.length ≤ n
  | 0, l, _, hl => by
    cases l with
    | nil => simp
    | cons x l => have := hl x (by simp); omega
  | n + 1, l, hn, hl => by
    have h1 := nodup_le n (l.erase n) (hn.erase n) (fun x hx => by
      have h2 := hl x (List.mem_of_mem_erase hx)
      have h3 : x ≠ n := fun e => by subst e; exact (hn.not_mem_erase) hx
      omega)
    have h2 := List.length_erase (l := l) (a := n)
    split at h2 <;> omega
section
variable {ps : List Int} (h : TrP ps)
include h
theorem TrP.wy_len {s t : Nat} (hs : s < ps.length) (ht : t < ps.length) : (wy ps s t).length = dst ps s t + 1 := by
  have := h.wy_pos hs ht
  unfold dst; omega
/-- What comes behind a node of a way is the way from it. -/
theorem TrP.wy_at {t : Nat} (ht : t < ps.length) : ∀ (j s : Nat), s < ps.length → ∀ hj : j < (wy ps s t).length, wy ps ((wy ps s t)[j]) t = (wy ps s t).drop j ∧ dst ps ((wy ps s t)[j]) t + j = dst ps s t ∧ (wy ps s t)[j] < ps.length
  | 0, s, hs, hj => by
    have e : (wy ps s t)[0] = s := by
      simp only [h.wy_eq hs ht]
      split <;> rfl
    rw [e]
    exact ⟨by simp, by omega, hs⟩
  | j + 1, s, hs, hj => by
    by_cases he : s = t
    · rw [h.wy_eq hs ht, if_pos he] at hj
      simp at hj
    · obtain ⟨k1, k2, k3⟩ := h.nxt_ok hs ht he
      have e : wy ps s t = s :: wy ps (nxt ps s t) t := by rw [h.wy_eq hs ht, if_neg he]
      have hj' : j < (wy ps (nxt ps s t) t).length := by rw [e] at hj; simpa using hj
      obtain ⟨i1, i2, i3⟩ := TrP.wy_at ht j _ k1 hj'
      have e2 : (wy ps s t)[j + 1] = (wy ps (nxt ps s t) t)[j] := by simp only [e, List.getElem_cons_succ]
      have := h.dst_nxt hs ht he
      rw [e2]
      refine ⟨?_, by omega, i3⟩
      rw [i1, e, List.drop_succ_cons]
theorem TrP.wy_head {s t : Nat} (hs : s < ps.length) (ht : t < ps.length) (hj : 0 < (wy ps s t).length) : (wy ps s t)[0] = s := by
  simp only [h.wy_eq hs ht]
  split <;> rfl
theorem TrP.wy_last {s t : Nat} (hs : s < ps.length) (ht : t < ps.length) (hj : dst ps s t < (wy ps s t).length) : (wy ps s t)[dst ps s t] = t := by
  obtain ⟨_, h1, h2⟩ := h.wy_at ht (dst ps s t) s hs hj
  exact h.dst_zero h2 ht (by omega)
theorem TrP.wy_nodup {s t : Nat} (hs : s < ps.length) (ht : t < ps.length) : (wy ps s t).Nodup := by
  rw [List.nodup_iff_pairwise_ne, List.pairwise_iff_getElem]
  intro i j hi hj hij e
  have h1 := (h.wy_at ht i s hs hi).2.1
  have h2 := (h.wy_at ht j s hs hj).2.1
  rw [e] at h1
  omega
theorem TrP.dst_lt {s t : Nat} (hs : s < ps.length) (ht : t < ps.length) : dst ps s t < ps.length := by
  have h1 := nodup_le ps.length (wy ps s t) (h.wy_nodup hs ht) (h.wy_lt ht _ s hs rfl)
  have h2 := h.wy_len hs ht
  omega
/-- Step by step. -/
theorem TrP.wy_next {s t j : Nat} (hs : s < ps.length) (ht : t < ps.length) (hj : j + 1 < (wy ps s t).length) : nxt ps ((wy ps s t)[j]) t = (wy ps s t)[j + 1] ∧ isNear ps ((wy ps s t)[j]) ((wy ps s t)[j + 1]) = true ∧ (wy ps s t)[j] ≠ t := by
  obtain ⟨h1, h2, h3⟩ := h.wy_at ht j s hs (by omega)
  have hl := h.wy_len hs ht
  have hne : (wy ps s t)[j] ≠ t := fun e => by rw [e, h.dst_self ht] at h2; omega
  obtain ⟨k1, k2, k3⟩ := h.nxt_ok h3 ht hne
  rw [h.wy_eq h3 ht, if_neg hne, List.drop_eq_getElem_cons (by omega)] at h1
  injection h1 with _ h1
  have e : nxt ps ((wy ps s t)[j]) t = (wy ps s t)[j + 1] := by
    have h4 := h.wy_head k1 ht (h.wy_pos k1 ht)
    rw [← h4]
    simp only [h1]
    rw [List.getElem_drop]
  exact ⟨e, e ▸ k2, hne⟩
/-- Seen from its beginning, a way is walked back. -/
theorem TrP.wy_back {s t : Nat} (hs : s < ps.length) (ht : t < ps.length) : ∀ j (hj : j + 1 < (wy ps s t).length), nxt ps ((wy ps s t)[j + 1]) s = (wy ps s t)[j] ∧ (wy ps s t)[j + 1] ≠ s
  | 0, hj => by
    obtain ⟨h1, h2, h3⟩ := h.wy_next hs ht hj
    have e := h.wy_head hs ht (by omega)
    rcases h.near_or (h.wy_at ht 0 s hs (by omega)).2.2 (h.wy_at ht 1 s hs hj).2.2 hs h2 with ⟨_, k2⟩ | k
    · exact absurd e k2
    · exact k
  | j + 1, hj => by
    obtain ⟨i1, i2⟩ := TrP.wy_back hs ht j (by omega)
    obtain ⟨h1, h2, h3⟩ := h.wy_next hs ht hj
    rcases h.near_or (h.wy_at ht (j + 1) s hs (by omega)).2.2 (h.wy_at ht (j + 2) s hs hj).2.2 hs h2 with ⟨k1, k2⟩ | k
    · exfalso
      rw [i1] at k1
      have := List.pairwise_iff_getElem.1 (List.nodup_iff_pairwise_ne.1 (h.wy_nodup hs ht)) j (j + 1 + 1) (by omega) hj (by omega)
      exact this k1
    · exact k
theorem TrP.wy_rev_at {s t : Nat} (hs : s < ps.length) (ht : t < ps.length) : ∀ j (hj : j < (wy ps s t).length), wy ps ((wy ps s t)[j]) s = ((wy ps s t).take (j + 1)).reverse
  | 0, hj => by
    rw [h.wy_head hs ht hj, h.wy_eq hs hs, if_pos rfl]
    have := h.wy_head hs ht hj
    rw [List.take_succ_eq_append_getElem hj, this]
    simp
  | j + 1, hj => by
    obtain ⟨i1, i2⟩ := h.wy_back hs ht j hj
    rw [h.wy_eq (h.wy_at ht (j + 1) s hs hj).2.2 hs, if_neg i2, i1, TrP.wy_rev_at hs ht j (by omega), List.take_succ_eq_append_getElem hj, List.reverse_append]
    rfl
theorem TrP.wy_rev {s t : Nat} (hs : s < ps.length) (ht : t < ps.length) : wy ps t s = (wy ps s t).reverse := by
  have hl := h.wy_len hs ht
  have h1 := h.wy_rev_at hs ht (dst ps s t) (by omega)
  rw [h.wy_last hs ht (by omega), List.take_of_length_le (by omega)] at h1
  exact h1
theorem TrP.dst_sym {s t : Nat} (hs : s < ps.length) (ht : t < ps.length) : dst ps s t = dst ps t s := by
  have h1 := congrArg List.length (h.wy_rev hs ht)
  rw [List.length_reverse, h.wy_len hs ht, h.wy_len ht hs] at h1
  omega
theorem TrP.tri {c : Nat} (hc : c < ps.length) : ∀ (n a b : Nat), a < ps.length → b < ps.length → dst ps a c = n → dst ps a b ≤ n + dst ps c b ∧ dst ps c b ≤ n + dst ps a b
  | 0, a, b, ha, hb, hn => by rw [h.dst_zero ha hc hn]; omega
  | n + 1, a, b, ha, hb, hn => by
    have hne : a ≠ c := fun e => by rw [e, h.dst_self hc] at hn; cases hn
    obtain ⟨k1, k2, _⟩ := h.nxt_ok ha hc hne
    have h1 := h.dst_nxt ha hc hne
    have h2 := TrP.tri hc n (nxt ps a c) b k1 hb (by omega)
    rcases h.near_dst ha k1 hb k2 with h3 | h3 <;> omega
/-- A node lies on a way if the distances add up. -/
theorem TrP.mem_of {t : Nat} (ht : t < ps.length) {x : Nat} (hx : x < ps.length) : ∀ (n s : Nat), s < ps.length → dst ps s x = n → n + dst ps x t = dst ps s t → x ∈ wy ps s t
  | 0, s, hs, hn, _ => by
    rw [← h.dst_zero hs hx hn, h.wy_eq hs ht]
    split <;> simp
  | n + 1, s, hs, hn, he => by
    have hne : s ≠ x := fun e => by rw [e, h.dst_self hx] at hn; cases hn
    obtain ⟨k1, k2, _⟩ := h.nxt_ok hs hx hne
    have h1 := h.dst_nxt hs hx hne
    have h2 := (h.tri hx n (nxt ps s x) t k1 ht (by omega)).1
    have hst : s ≠ t := fun e => by rw [e, h.dst_self ht] at he; omega
    rcases h.near_dst hs k1 ht k2 with ⟨h3, h4⟩ | ⟨h3, _⟩
    · rw [h.wy_eq hs ht, if_neg hst, h4]
      exact List.mem_cons_of_mem _ (TrP.mem_of ht hx n _ k1 (by omega) (by omega))
    · omega
theorem TrP.mem_iff {s t x : Nat} (hs : s < ps.length) (ht : t < ps.length) (hx : x < ps.length) : x ∈ wy ps s t ↔ dst ps s x + dst ps x t = dst ps s t := by
  constructor
  · intro hm
    obtain ⟨j, hj, rfl⟩ := List.mem_iff_getElem.1 hm
    have h1 := (h.wy_at ht j s hs hj).2.1
    have h2 := congrArg List.length (h.wy_rev_at hs ht j hj)
    rw [h.wy_len hx hs, List.length_reverse, List.length_take] at h2
    have h3 := h.dst_sym hs hx
    omega
  · exact fun he => h.mem_of ht hx _ s hs rfl he
/-- Along a way, the distance from a third node falls first and rises then. -/
theorem TrP.turn {a b c : Nat} (ha : a < ps.length) (hb : b < ps.length) (hc : c < ps.length) : ∃ m, m < ps.length ∧ m ∈ wy ps a c ∧ m ∈ wy ps a b ∧ m ∈ wy ps b c := by
  -- by the number of steps from a to c
  have key : ∀ n a, a < ps.length → dst ps a c = n → ∃ m, m < ps.length ∧ dst ps a m + dst ps m c = dst ps a c ∧ dst ps a m + dst ps m b = dst ps a b ∧ dst ps c m + dst ps m b = dst ps c b := by
    intro n
    induction n with
    | zero =>
      intro a ha hn
      have e := h.dst_zero ha hc hn
      subst e
      exact ⟨a, ha, by rw [h.dst_self ha], by rw [h.dst_self ha]; omega, by rw [h.dst_self ha]; omega⟩
    | succ n ih =>
      intro a ha hn
      have hne : a ≠ c := fun e => by rw [e, h.dst_self hc] at hn; cases hn
      obtain ⟨k1, k2, _⟩ := h.nxt_ok ha hc hne
      have h1 := h.dst_nxt ha hc hne
      obtain ⟨m, m1, m2, m3, m4⟩ := ih (nxt ps a c) k1 (by omega)
      rcases h.near_dst ha k1 hb k2 with ⟨h3, h4⟩ | ⟨h3, h4⟩
      · -- nearer to b
        have t1 := (h.tri k1 1 a m ha m1 (by have := h.near_dst ha k1 k1 k2; rw [h.dst_self k1] at this; omega)).1
        have t2 := (h.tri m1 _ a c ha hc rfl).1
        exact ⟨m, m1, by omega, by have := (h.tri m1 _ a b ha hb rfl).1; omega, m4⟩
      · -- farther from b: the turn is a
        refine ⟨a, ha, by rw [h.dst_self ha]; omega, by rw [h.dst_self ha]; omega, ?_⟩
        -- from here on the distance rises
        have rise : ∀ n a, a < ps.length → dst ps a c = n + 1 → dst ps (nxt ps a c) b = dst ps a b + 1 → dst ps c b = n + 1 + dst ps a b := by
          intro n
          induction n with
          | zero =>
            intro a ha hn hr
            have hne : a ≠ c := fun e => by rw [e, h.dst_self hc] at hn; cases hn
            have h1 := h.dst_nxt ha hc hne
            rw [h.dst_zero (h.nxt_ok ha hc hne).1 hc (by omega)] at hr
            omega
          | succ n ih =>
            intro a ha hn hr
            have hne : a ≠ c := fun e => by rw [e, h.dst_self hc] at hn; cases hn
            obtain ⟨k1, k2, _⟩ := h.nxt_ok ha hc hne
            have h1 := h.dst_nxt ha hc hne
            have hne2 : nxt ps a c ≠ c := fun e => by rw [e, h.dst_self hc] at h1; omega
            obtain ⟨q1, q2, _⟩ := h.nxt_ok k1 hc hne2
            have h2 := h.dst_nxt k1 hc hne2
            have e1 : nxt ps (nxt ps a c) b = a := by
              rcases h.near_dst ha k1 hb k2 with ⟨h3, _⟩ | ⟨_, h4⟩
              · omega
              · exact h4
            have := ih (nxt ps a c) k1 (by omega) (by
              rcases h.near_dst k1 q1 hb q2 with ⟨_, h4⟩ | ⟨h3, _⟩
              · rw [e1] at h4
                rw [← h4] at h2
                omega
              · exact h3)
            omega
        have := rise n a ha hn h3
        have := h.dst_sym ha hc
        omega
  obtain ⟨m, m1, m2, m3, m4⟩ := key _ a ha rfl
  refine ⟨m, m1, (h.mem_iff ha hc m1).2 m2, (h.mem_iff ha hb m1).2 m3, (h.mem_iff hb hc m1).2 ?_⟩
  have := h.dst_sym hc m1
  have := h.dst_sym m1 hb
  have := h.dst_sym hc hb
  omega
/-- .. and at one node alone. -/
theorem TrP.turn_one {a b c m k : Nat} (ha : a < ps.length) (hb : b < ps.length) (hc : c < ps.length) (h1 : m ∈ wy ps a b) (h2 : m ∈ wy ps b c) (h3 : m ∈ wy ps c a) (k1 : k ∈ wy ps a b) (k2 : k ∈ wy ps b c) (k3 : k ∈ wy ps c a) : m = k := by
  have hm := h.wy_lt hb _ a ha rfl m h1
  have hk := h.wy_lt hb _ a ha rfl k k1
  have e1 := (h.mem_iff ha hb hm).1 h1
  have e2 := (h.mem_iff hb hc hm).1 h2
  have e3 := (h.mem_iff hc ha hm).1 h3
  have f1 := (h.mem_iff ha hb hk).1 k1
  have f2 := (h.mem_iff hb hc hk).1 k2
  have f3 := (h.mem_iff hc ha hk).1 k3
  have s1 := h.dst_sym ha hm
  have s2 := h.dst_sym hb hm
  have s3 := h.dst_sym hc hm
  have s4 := h.dst_sym ha hk
  have s5 := h.dst_sym hb hk
  have s6 := h.dst_sym hc hk
  obtain ⟨i, hi, ei⟩ := List.mem_iff_getElem.1 h1
  obtain ⟨j, hj, ej⟩ := List.mem_iff_getElem.1 k1
  have g1 := (h.wy_at hb i a ha hi).2.1
  have g2 := (h.wy_at hb j a ha hj).2.1
  rw [ei] at g1
  rw [ej] at g2
  have : i = j := by omega
  subst this
  rw [← ei, ← ej]
end
end Go.Proofs.Ytiklbnianbejdaa

/- trees, in plain Lean: the lists of neighbours that New makes. -/
namespace Go.Proofs.Ytiklbnianbejdaa
open Go Go.Eng Go.RowKit

theorem sorted_eq : ∀ (l m : List Int), l.Pairwise (· < ·) → m.Pairwise (· < ·) → (∀ x, x ∈ l ↔ x ∈ m) → l = m
  | [], [], _, _, _ => rfl
  | [], b :: m, _, _, h => by have := (h b).2 (by simp); simp at this
  | a :: l, [], _, _, h => by have := (h a).1 (by simp); simp at this
  | a :: l, b :: m, hl, hm, h => by
    rw [List.pairwise_cons] at hl hm
    have e : a = b := by
      have h1 := (h a).1 (by simp)
      have h2 := (h b).2 (by simp)
      rcases List.mem_cons.1 h1 with h1 | h1
      · exact h1
      · rcases List.mem_cons.1 h2 with h2 | h2
        · exact h2.symm
        · have := hm.1 a h1
          have := hl.1 b h2
          omega
    subst e
    rw [sorted_eq l m hl.2 hm.2 fun x => ?_]
    constructor
    · intro hx
      rcases List.mem_cons.1 ((h x).1 (List.mem_cons_of_mem _ hx)) with h1 | h1
      · have := hl.1 x hx; omega
      · exact h1
    · intro hx
      rcases List.mem_cons.1 ((h x).2 (List.mem_cons_of_mem _ hx)) with h1 | h1
      · have := hm.1 x hx; omega
      · exact h1
theorem sortI_mem (l : List Int) (x : Int) : x ∈ sortI l ↔ x ∈ l := (List.mergeSort_perm l _).mem_iff
theorem sortI_lt (l : List Int) (h : l.Nodup) : (sortI l).Pairwise (· < ·) := by
  have h1 : (sortI l).Pairwise (fun x y => decide (x ≤ y) = true) := List.pairwise_mergeSort (fun a b c hab hbc => by simp at *; omega) (fun a b => by simp; omega) l
  have h2 : (sortI l).Nodup := (List.mergeSort_perm l _).nodup_iff.2 h
  rw [List.nodup_iff_pairwise_ne] at h2
  refine (List.Pairwise.and h1 h2).imp fun hab => ?_
  have h3 := of_decide_eq_true hab.1
  have h4 := hab.2
  omega
theorem addE_get (L : List (List Int)) (i : Nat) (x : Int) (v : Nat) (hi : i < L.length) : (addE L i x).getD v [] = if i = v then L.getD v [] ++ [x] else L.getD v [] := by
  unfold addE
  rw [List.getD_eq_getElem?_getD, List.getElem?_set]
  split
  · rename_i e
    subst e
    first | rfl | (rw [if_pos hi]; rfl)
  · rw [← List.getD_eq_getElem?_getD]
section
variable {ps : List Int} (h : TrP ps)
include h
theorem TrP.no_two {u v : Nat} (hu : u < ps.length) (hv : v < ps.length) (h1 : ps.getD u 0 = (v : Int)) (h2 : ps.getD v 0 = (u : Int)) : False := by
  have a1 := h.dep_par hu (by omega)
  have a2 := h.dep_par hv (by omega)
  rw [h1, Int.toNat_natCast] at a1
  rw [h2, Int.toNat_natCast] at a2
  omega
theorem TrP.nw : ∀ i, i ≤ ps.length → ∀ v, v < ps.length → ((nwL ps i).getD v []).Nodup ∧ ∀ x : Int, x ∈ (nwL ps i).getD v [] ↔ ∃ u : Nat, u < ps.length ∧ x = u ∧ (v < i ∧ ps.getD v 0 = (u : Int) ∨ u < i ∧ ps.getD u 0 = (v : Int))
  | 0, _, v, hv => by
    have e : (nwL ps 0).getD v [] = [] := by simp [nwL, hv]
    rw [e]
    refine ⟨List.nodup_nil, fun x => ⟨fun hx => by simp at hx, ?_⟩⟩
    rintro ⟨u, _, _, ⟨h1, _⟩ | ⟨h1, _⟩⟩ <;> omega
  | i + 1, hi, v, hv => by
    obtain ⟨n1, n2⟩ := TrP.nw i (by omega) v hv
    have hll := nwL_length ps i
    have hb := h.bd i (by omega)
    by_cases hp : ps.getD i 0 < 0
    · rw [show nwL ps (i + 1) = nwL ps i by rw [nwL, if_pos hp]]
      refine ⟨n1, fun x => (n2 x).trans ?_⟩
      constructor
      · rintro ⟨u, h1, h2, ⟨h3, h4⟩ | ⟨h3, h4⟩⟩
        · exact ⟨u, h1, h2, .inl ⟨by omega, h4⟩⟩
        · exact ⟨u, h1, h2, .inr ⟨by omega, h4⟩⟩
      · rintro ⟨u, h1, h2, ⟨h3, h4⟩ | ⟨h3, h4⟩⟩
        · refine ⟨u, h1, h2, .inl ⟨?_, h4⟩⟩
          rcases Nat.lt_or_ge v i with h5 | h5
          · exact h5
          · have : v = i := by omega
            subst this; omega
        · refine ⟨u, h1, h2, .inr ⟨?_, h4⟩⟩
          rcases Nat.lt_or_ge u i with h5 | h5
          · exact h5
          · have : u = i := by omega
            subst this; omega
    · obtain ⟨p, hpp⟩ : ∃ p : Nat, ps.getD i 0 = p := ⟨(ps.getD i 0).toNat, by omega⟩
      rw [show nwL ps (i + 1) = addE (addE (nwL ps i) i p) p i by rw [nwL, if_neg hp, hpp, Int.toNat_natCast]]
      rw [addE_get _ _ _ _ (by rw [addE_len]; omega), addE_get _ _ _ _ (by omega)]
      rw [hpp] at hb
      by_cases hvi : i = v
      · subst hvi
        rw [if_neg (by omega), if_pos rfl]
        refine ⟨?_, fun x => ?_⟩
        · rw [List.nodup_append]
          refine ⟨n1, by simp, fun x hx y hy e => ?_⟩
          simp at hy
          subst hy
          subst e
          obtain ⟨u, h1, h2, ⟨h3, _⟩ | ⟨h3, h4⟩⟩ := (n2 _).1 hx
          · omega
          · exact h.no_two (u := i) (v := u) (by omega) h1 (by omega) h4
        · rw [List.mem_append, n2 x]
          constructor
          · rintro (⟨u, h1, h2, ⟨h3, h4⟩ | ⟨h3, h4⟩⟩ | hx)
            · omega
            · exact ⟨u, h1, h2, .inr ⟨by omega, h4⟩⟩
            · simp at hx
              exact ⟨p, by omega, hx, .inl ⟨by omega, hpp⟩⟩
          · rintro ⟨u, h1, h2, ⟨h3, h4⟩ | ⟨h3, h4⟩⟩
            · right; simp; omega
            · left
              refine ⟨u, h1, h2, .inr ⟨?_, h4⟩⟩
              rcases Nat.lt_or_ge u i with h5 | h5
              · exact h5
              · have : u = i := by omega
                subst this; omega
      · rw [if_neg hvi]
        by_cases hvp : p = v
        · subst hvp
          rw [if_pos rfl]
          refine ⟨?_, fun x => ?_⟩
          · rw [List.nodup_append]
            refine ⟨n1, by simp, fun x hx y hy e => ?_⟩
            simp at hy
            subst hy
            subst e
            obtain ⟨u, h1, h2, ⟨h3, h4⟩ | ⟨h3, _⟩⟩ := (n2 _).1 hx
            · exact h.no_two (u := i) (v := p) (by omega) hv hpp (by omega)
            · omega
          · rw [List.mem_append, n2 x]
            constructor
            · rintro (⟨u, h1, h2, ⟨h3, h4⟩ | ⟨h3, h4⟩⟩ | hx)
              · exact ⟨u, h1, h2, .inl ⟨by omega, h4⟩⟩
              · exact ⟨u, h1, h2, .inr ⟨by omega, h4⟩⟩
              · simp at hx
                exact ⟨i, by omega, hx, .inr ⟨by omega, hpp⟩⟩
            · rintro ⟨u, h1, h2, ⟨h3, h4⟩ | ⟨h3, h4⟩⟩
              · left; exact ⟨u, h1, h2, .inl ⟨by omega, h4⟩⟩
              · rcases Nat.lt_or_ge u i with h5 | h5
                · left; exact ⟨u, h1, h2, .inr ⟨h5, h4⟩⟩
                · right; simp; omega
        · rw [if_neg hvp]
          refine ⟨n1, fun x => (n2 x).trans ?_⟩
          constructor
          · rintro ⟨u, h1, h2, ⟨h3, h4⟩ | ⟨h3, h4⟩⟩
            · exact ⟨u, h1, h2, .inl ⟨by omega, h4⟩⟩
            · exact ⟨u, h1, h2, .inr ⟨by omega, h4⟩⟩
          · rintro ⟨u, h1, h2, ⟨h3, h4⟩ | ⟨h3, h4⟩⟩
            · exact ⟨u, h1, h2, .inl ⟨by omega, h4⟩⟩
            · refine ⟨u, h1, h2, .inr ⟨?_, h4⟩⟩
              rcases Nat.lt_or_ge u i with h5 | h5
              · exact h5
              · have : u = i := by omega
                subst this; omega
/-- **The neighbours that New lays are the neighbours, rising.** -/
theorem TrP.near_list {v : Nat} (hv : v < ps.length) : (nearOf ps).getD v [] = nearTo ps v ps.length := by
  obtain ⟨n1, n2⟩ := h.nw ps.length (Nat.le_refl _) v hv
  have e : (nearOf ps).getD v [] = sortI ((nwL ps ps.length).getD v []) := by
    unfold nearOf
    rw [List.getD_eq_getElem?_getD, List.getElem?_map, List.getD_eq_getElem?_getD, List.getElem?_eq_getElem (by rw [nwL_length]; exact hv)]
    rfl
  rw [e]
  refine sorted_eq _ _ (sortI_lt _ n1) ?_ fun x => ?_
  · unfold nearTo
    rw [List.pairwise_map]
    exact (List.Pairwise.filter _ List.pairwise_lt_range).imp fun hab => by omega
  · rw [sortI_mem, n2]
    unfold nearTo isNear
    simp only [List.mem_map, List.mem_filter, List.mem_range, Bool.or_eq_true, decide_eq_true_eq]
    constructor
    · rintro ⟨u, h1, h2, ⟨_, h4⟩ | ⟨_, h4⟩⟩
      · exact ⟨u, ⟨h1, .inr h4⟩, h2.symm⟩
      · exact ⟨u, ⟨h1, .inl h4⟩, h2.symm⟩
    · rintro ⟨u, ⟨h1, h4 | h4⟩, h2⟩
      · exact ⟨u, h1, h2.symm, .inr ⟨h1, h4⟩⟩
      · exact ⟨u, h1, h2.symm, .inl ⟨hv, h4⟩⟩
end
end Go.Proofs.Ytiklbnianbejdaa

/- tree: Path and Dist of any two numbers. -/
namespace Go.Proofs.Ytiklbnianbejdaa
open Go Go.Eng Go.RowKit

/-- The way between two numbers; none where one of them is no node. -/
def pathN (ps : List Int) (a b : Int) : List Nat := if hasB ps a = true ∧ hasB ps b = true then wy ps a.toNat b.toNat else []
def natIt (y : Nat) : List Sv := [I (y : Int)]
theorem natIt_map (ys : List Nat) : (ys.map fun (x : Nat) => (x : Int)).map oneIt = ys.map natIt := by
  rw [List.map_map]
  rfl
theorem pathN_len {ps : List Int} (h : Tr1 ps) (a b : Int) : (pathN ps a b).length ≤ 32 := by
  have hle := h.le
  unfold pathN
  split
  · rename_i hab
    have e1 := hasB_iff.1 hab.1
    have e2 := hasB_iff.1 hab.2
    have := h.p.wy_len (s := a.toNat) (t := b.toNat) (by omega) (by omega)
    have := h.p.dst_lt (s := a.toNat) (t := b.toNat) (by omega) (by omega)
    omega
  · simp
theorem pathN_in {ps : List Int} {a b : Nat} (ha : a < ps.length) (hb : b < ps.length) : pathN ps a b = wy ps a b := by
  unfold pathN
  rw [if_pos ⟨hasB_iff.2 ⟨by omega, by omega⟩, hasB_iff.2 ⟨by omega, by omega⟩⟩]
  rfl
end Go.Proofs.Ytiklbnianbejdaa

/- trees: ways as blocks; what a way's nodes are. -/
namespace Go.Proofs.Ytiklbnianbejdaa
open Go Go.Eng Go.RowKit

theorem next_in {ps : List Int} (L : List (List Int)) (h : Tr1 ps) {u v : Nat} (hu : u < ps.length) (hv : v < ps.length) (hne : u ≠ v) : PCon Try.prog 29 [treeX true ps L, I u, I v] (I (nxt ps u v)) [] := by
  have h1 := next_pcon true ps L u v h
  rwa [(h.p.nxt_ok hu hv hne).2.2] at h1
def marks (bs : List Bool) (xs : List Nat) : List Bool := xs.foldl (fun bs x => bs.set x true) bs
theorem marks_len (xs : List Nat) : ∀ bs, (marks bs xs).length = bs.length := by
  induction xs with
  | nil => intro bs; rfl
  | cons x xs ih => intro bs; show (marks (bs.set x true) xs).length = _; rw [ih]; simp
theorem marks_snoc (bs : List Bool) (ys : List Nat) {j : Nat} (hj : j < ys.length) : marks bs (ys.take (j + 1)) = (marks bs (ys.take j)).set ys[j] true := by
  unfold marks
  rw [List.take_succ_eq_append_getElem hj, List.foldl_append]
  rfl
theorem marks_get (xs : List Nat) : ∀ (bs : List Bool) {v : Nat}, v ∉ xs → (marks bs xs)[v]? = bs[v]? := by
  induction xs with
  | nil => intro bs v _; rfl
  | cons x xs ih =>
    intro bs v hv
    show (marks (bs.set x true) xs)[v]? = _
    rw [ih _ (fun h => hv (List.mem_cons_of_mem _ h)), List.getElem?_set_ne (fun e => hv (by rw [e]; simp))]
abbrev boolR (bs : List Bool) : List (List Sv) := bs.map fun b => [Bo b]
def boolB (bs : List Bool) : Blk := mkB 4 1 (boolR bs)
abbrev natR (ys : List Nat) : List (List Sv) := ys.map natIt
def natB (ys : List Nat) : Blk := mkB 3 1 (natR ys)
theorem getD_get {l : List Nat} {j : Nat} (h : j < l.length) : l.getD j 0 = l[j] := by simp [h]
theorem nat_get (ys : List Nat) {n : Nat} (k : Nat) (hn : n = k) (h : k < ys.length) : nth (natR ys) n = some [I (ys.getD k 0 : Int)] := by
  rw [getD_get h]
  exact nth_map natIt ys k hn h
theorem way_facts {ps : List Int} (h : TrP ps) {a b : Nat} (ha : a < ps.length) (hb : b < ps.length) : ∃ ys, wy ps a b = ys ∧ ys.Nodup ∧ ys.length = dst ps a b + 1 ∧ (∀ j, j < ys.length → ys.getD j 0 < ps.length ∧ dst ps (ys.getD j 0) b + j = dst ps a b) ∧
    (∀ j, j + 1 < ys.length → nxt ps (ys.getD j 0) b = ys.getD (j + 1) 0 ∧ isNear ps (ys.getD j 0) (ys.getD (j + 1) 0) = true ∧ ys.getD j 0 ≠ b) ∧ ys.getD 0 0 = a ∧ ys.getD (dst ps a b) 0 = b := by
  have hl := h.wy_len ha hb
  refine ⟨_, rfl, h.wy_nodup ha hb, hl, fun j hj => ?_, fun j hj => ?_, ?_, ?_⟩
  · rw [getD_get hj]
    have := h.wy_at hb j a ha hj
    exact ⟨this.2.2, this.2.1⟩
  · rw [getD_get hj, getD_get (show j < _ by omega)]
    exact h.wy_next ha hb hj
  · rw [getD_get (h.wy_pos ha hb)]
    exact h.wy_head ha hb _
  · rw [getD_get (show dst ps a b < _ by omega)]
    exact h.wy_last ha hb _
theorem take_snoc (ys : List Nat) {j : Nat} (hj : j < ys.length) : natR (ys.take j) ++ [[I (ys[j] : Int)]] = natR (ys.take (j + 1)) := by
  rw [List.take_succ_eq_append_getElem hj, natR, natR, List.map_append]
  rfl
end Go.Proofs.Ytiklbnianbejdaa
