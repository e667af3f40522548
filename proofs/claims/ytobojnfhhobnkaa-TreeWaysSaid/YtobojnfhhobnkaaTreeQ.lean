/- trees, in plain Lean: the next node on the way, ways, distances. -/
import Derived.Test.YtobojnfhhobnkaaTreeP
set_option linter.unusedSimpArgs false
set_option maxRecDepth 20000
set_option linter.unusedVariables false
namespace Go.Proofs.Ytobojnfhhobnkaa
open Go Go.Eng Go.RowKit

theorem chain_len (ps : List Int) : ∀ k v, (chain ps k v).length ≤ k + 1
  | 0, v => by simp [chain]
  | k + 1, v => by
    simp only [chain, List.length_cons]
    split
    · simp
    · have := chain_len ps k (ps.getD v 0).toNat; omega
/-- The next node on the way from s to t. -/
def nxt (ps : List Int) (s t : Nat) : Nat := (nextS ps s t).toNat
section
variable {ps : List Int} (h : TrP ps)
include h
theorem TrP.climb_ch (s : Nat) : ∀ (k t : Nat), t < ps.length → hits ps k t = true → climb ps s k t = match (ch ps t).find? (fun y => ps.getD y 0 == (s : Int)) with | some y => (y : Int) | none => ps.getD s 0
  | 0, t, _, hh => by cases hh
  | k + 1, t, ht, hh => by
    have hb := h.bd t ht
    simp only [hits, Int.toNat_natCast] at hh
    rw [climb, if_neg (by omega), h.ch_eq ht, List.find?_cons]
    simp only [Int.toNat_natCast]
    by_cases h1 : ps.getD t 0 = (s : Int)
    · rw [if_pos h1, show (ps.getD t 0 == (s : Int)) = true by rw [h1]; simp]
    · rw [if_neg h1, show (ps.getD t 0 == (s : Int)) = false by rw [beq_eq_false_iff_ne]; exact h1]
      simp only
      by_cases h2 : ps.getD t 0 < 0
      · rw [if_pos h2, climb_neg ps s k h2]
        simp
      · rw [if_neg h2]
        rw [if_neg (by omega)] at hh
        have e : ps.getD t 0 = (((ps.getD t 0).toNat : Nat) : Int) := by omega
        rw [e, TrP.climb_ch s k (ps.getD t 0).toNat (by omega) (by rw [← e]; exact hh), Int.toNat_natCast]
theorem TrP.next_eq {s t : Nat} (hs : s < ps.length) (ht : t < ps.length) (hne : s ≠ t) : nextS ps s t = match (ch ps t).find? (fun y => ps.getD y 0 == (s : Int)) with | some y => (y : Int) | none => ps.getD s 0 := by
  unfold nextS
  rw [if_neg (by rw [hasB_iff.2 ⟨by omega, by omega⟩, hasB_iff.2 ⟨by omega, by omega⟩]; simp), if_neg (by omega)]
  exact h.climb_ch s _ t ht (h.up t ht)
theorem TrP.child {s : Nat} : ∀ t, t < ps.length → s ∈ ch ps t → s ≠ t → ∃ y, y ∈ ch ps t ∧ ps.getD y 0 = (s : Int) := by
  refine h.ind fun t ht ih hs hne => ?_
  rw [h.ch_eq ht] at hs ⊢
  rcases List.mem_cons.1 hs with e | hs
  · exact absurd e hne
  split at hs
  · simp at hs
  · rename_i h1
    rw [if_neg h1]
    by_cases h2 : s = (ps.getD t 0).toNat
    · exact ⟨t, by simp, by omega⟩
    · obtain ⟨y, hy, e⟩ := ih (by omega) hs h2
      exact ⟨y, List.mem_cons_of_mem _ hy, e⟩
theorem TrP.desc {s t : Nat} (ht : t < ps.length) (hs : s ∈ ch ps t) (hne : s ≠ t) : ∃ y, y ∈ ch ps t ∧ ps.getD y 0 = (s : Int) ∧ nextS ps s t = (y : Int) := by
  obtain ⟨y0, h1, h2⟩ := h.child t ht hs hne
  rw [h.next_eq (h.ch_lt t ht s hs) ht hne]
  cases hf : (ch ps t).find? (fun y => ps.getD y 0 == (s : Int)) with
  | none =>
    rw [List.find?_eq_none] at hf
    exact absurd (by rw [h2]; simp) (hf y0 h1)
  | some y =>
    have := List.find?_some hf
    exact ⟨y, List.mem_of_find?_eq_some hf, by simpa using this, rfl⟩
theorem TrP.asc {s t : Nat} (hs : s < ps.length) (ht : t < ps.length) (hn : s ∉ ch ps t) : 0 ≤ ps.getD s 0 ∧ nextS ps s t = ps.getD s 0 := by
  have hne : s ≠ t := fun e => hn (by rw [e]; exact h.ch_self ht)
  refine ⟨?_, ?_⟩
  · rcases Int.lt_or_le (ps.getD s 0) 0 with h0 | h0
    · have := h.bd s hs
      exact absurd (h.ch_root hs (by omega) t ht) hn
    · exact h0
  · rw [h.next_eq hs ht hne]
    cases hf : (ch ps t).find? (fun y => ps.getD y 0 == (s : Int)) with
    | none => rfl
    | some y =>
      exfalso
      have h1 := List.find?_some hf
      have h2 := List.mem_of_find?_eq_some hf
      have h1 : ps.getD y 0 = (s : Int) := by simpa using h1
      have := h.ch_par t ht h2 (by omega)
      rw [h1] at this
      exact hn (by simpa using this)
/-- The next node is a node, beside the first. -/
theorem TrP.nxt_ok {s t : Nat} (hs : s < ps.length) (ht : t < ps.length) (hne : s ≠ t) : nxt ps s t < ps.length ∧ isNear ps s (nxt ps s t) = true ∧ nextS ps s t = (nxt ps s t : Nat) := by
  unfold nxt isNear
  by_cases hc : s ∈ ch ps t
  · obtain ⟨y, h1, h2, h3⟩ := h.desc ht hc hne
    rw [h3, Int.toNat_natCast]
    exact ⟨h.ch_lt t ht y h1, by simp only [h2]; simp, rfl⟩
  · obtain ⟨h1, h2⟩ := h.asc hs ht hc
    have hb := h.bd s hs
    rw [h2]
    refine ⟨by omega, ?_, by omega⟩
    rw [show (((ps.getD s 0).toNat : Nat) : Int) = ps.getD s 0 by omega]
    simp
/-- Of two neighbours one is the next of the other. -/
theorem TrP.near_or {u v t : Nat} (hu : u < ps.length) (hv : v < ps.length) (ht : t < ps.length) (hn : isNear ps u v = true) : nxt ps u t = v ∧ u ≠ t ∨ nxt ps v t = u ∧ v ≠ t := by
  have key : ∀ u v : Nat, u < ps.length → v < ps.length → ps.getD u 0 = (v : Int) → nxt ps u t = v ∧ u ≠ t ∨ nxt ps v t = u ∧ v ≠ t := fun u v hu hv he => by
    by_cases hc : u ∈ ch ps t
    · right
      have hvc : v ∈ ch ps t := by
        have := h.ch_par t ht hc (by omega)
        rw [he] at this
        simpa using this
      have hne : v ≠ t := fun e => by
        subst e
        rcases h.ch_dep v hv u hc with h1 | h1
        · have := (h.bd u hu).2.2; omega
        · have h2 := h.dep_par hu (by omega)
          rw [he, Int.toNat_natCast] at h2
          omega
      obtain ⟨y, h1, h2, h3⟩ := h.desc ht hvc hne
      refine ⟨?_, hne⟩
      unfold nxt
      rw [h3, Int.toNat_natCast]
      exact h.ch_one t ht h1 hc (by rw [h2, he])
    · left
      obtain ⟨h1, h2⟩ := h.asc hu ht hc
      refine ⟨?_, fun e => hc (by rw [e]; exact h.ch_self ht)⟩
      unfold nxt
      rw [h2, he, Int.toNat_natCast]
  unfold isNear at hn
  simp only [Bool.or_eq_true, decide_eq_true_eq] at hn
  rcases hn with hn | hn
  · exact key u v hu hv hn
  · exact (key v u hv hu hn).symm
end
/-- A bound for the way's length. -/
def mu' (ps : List Int) (s t : Nat) : Nat := if s ∈ ch ps t then (ch ps t).length - (ch ps s).length else (ch ps s).length + (ch ps t).length
theorem mu'_le (ps : List Int) (s t : Nat) : mu' ps s t ≤ 2 * ps.length + 2 := by
  have h1 := chain_len ps ps.length s
  have h2 := chain_len ps ps.length t
  unfold mu' ch
  split <;> omega
theorem TrP.mu_nxt {ps : List Int} (h : TrP ps) {s t : Nat} (hs : s < ps.length) (ht : t < ps.length) (hne : s ≠ t) : mu' ps (nxt ps s t) t < mu' ps s t := by
  by_cases hc : s ∈ ch ps t
  · obtain ⟨y, h1, h2, h3⟩ := h.desc ht hc hne
    have hy := h.ch_lt t ht y h1
    have h4 := h.dep_par hy (by omega)
    rw [h2, Int.toNat_natCast] at h4
    unfold nxt
    rw [h3, Int.toNat_natCast]
    unfold mu'
    rw [if_pos hc, if_pos h1]
    rcases h.ch_dep t ht y h1 with e | h5
    · rw [e] at h4 ⊢; omega
    · omega
  · obtain ⟨h1, h2⟩ := h.asc hs ht hc
    have h4 := h.dep_par hs h1
    have h5 : 0 < (ch ps s).length := by rw [h.ch_eq hs]; simp
    unfold nxt
    rw [h2]
    unfold mu'
    rw [if_neg hc]
    split <;> omega
/-- The way from s to t. -/
def wayN (ps : List Int) (t : Nat) : Nat → Nat → List Nat
  | 0, s => [s]
  | k + 1, s => if s = t then [s] else s :: wayN ps t k (nxt ps s t)
def wy (ps : List Int) (s t : Nat) : List Nat := wayN ps t (2 * ps.length + 2) s
theorem TrP.way_more {ps : List Int} (h : TrP ps) {t : Nat} (ht : t < ps.length) : ∀ (k s : Nat), s < ps.length → mu' ps s t ≤ k → ∀ j, k ≤ j → wayN ps t j s = wayN ps t k s
  | 0, s, hs, hk, j, hj => by
    by_cases he : s = t
    · cases j with
      | zero => rfl
      | succ j => simp [wayN, he]
    · have := h.mu_nxt hs ht he; omega
  | k + 1, s, hs, hk, j, hj => by
    obtain ⟨j, rfl⟩ : ∃ i, j = i + 1 := ⟨j - 1, by omega⟩
    simp only [wayN]
    split
    · rfl
    · rename_i he
      have h1 := h.mu_nxt hs ht he
      rw [h.way_more ht k _ (h.nxt_ok hs ht he).1 (by omega) j (by omega)]
theorem TrP.wy_eq {ps : List Int} (h : TrP ps) {s t : Nat} (hs : s < ps.length) (ht : t < ps.length) : wy ps s t = if s = t then [s] else s :: wy ps (nxt ps s t) t := by
  unfold wy
  rw [show 2 * ps.length + 2 = (2 * ps.length + 1) + 1 by omega, wayN]
  split
  · rfl
  · rename_i he
    have h1 := h.mu_nxt hs ht he
    have h2 := mu'_le ps s t
    rw [show wayN ps t (2 * ps.length + 1) (nxt ps s t) = wayN ps t (2 * ps.length + 1 + 1) (nxt ps s t) from (h.way_more ht (2 * ps.length + 1) _ (h.nxt_ok hs ht he).1 (by omega) _ (by omega)).symm]
/-- How far two nodes lie apart. -/
def dst (ps : List Int) (s t : Nat) : Nat := (wy ps s t).length - 1
section
variable {ps : List Int} (h : TrP ps)
include h
theorem TrP.wy_pos {s t : Nat} (hs : s < ps.length) (ht : t < ps.length) : 0 < (wy ps s t).length := by rw [h.wy_eq hs ht]; split <;> simp
theorem TrP.dst_self {t : Nat} (ht : t < ps.length) : dst ps t t = 0 := by unfold dst; rw [h.wy_eq ht ht, if_pos rfl]; rfl
theorem TrP.dst_nxt {s t : Nat} (hs : s < ps.length) (ht : t < ps.length) (hne : s ≠ t) : dst ps s t = dst ps (nxt ps s t) t + 1 := by
  have := h.wy_pos (h.nxt_ok hs ht hne).1 ht
  unfold dst
  rw [h.wy_eq hs ht, if_neg hne, List.length_cons]
  omega
theorem TrP.dst_zero {s t : Nat} (hs : s < ps.length) (ht : t < ps.length) (h0 : dst ps s t = 0) : s = t := by
  rcases Nat.decEq s t with hne | e
  · have := h.dst_nxt hs ht hne; omega
  · exact e
omit h in
theorem near_sym {u v : Nat} (hn : isNear ps u v = true) : isNear ps v u = true := by
  unfold isNear at *
  simp only [Bool.or_eq_true] at *
  exact hn.symm
/-- Neighbours lie one apart, from whatever node. -/
theorem TrP.near_dst {u v t : Nat} (hu : u < ps.length) (hv : v < ps.length) (ht : t < ps.length) (hn : isNear ps u v = true) : dst ps u t = dst ps v t + 1 ∧ nxt ps u t = v ∨ dst ps v t = dst ps u t + 1 ∧ nxt ps v t = u := by
  rcases h.near_or hu hv ht hn with ⟨h1, h2⟩ | ⟨h1, h2⟩
  · left
    have := h.dst_nxt hu ht h2
    rw [h1] at this
    exact ⟨this, h1⟩
  · right
    have := h.dst_nxt hv ht h2
    rw [h1] at this
    exact ⟨this, h1⟩
theorem TrP.wy_lt {t : Nat} (ht : t < ps.length) : ∀ (n s : Nat), s < ps.length → dst ps s t = n → ∀ x ∈ wy ps s t, x < ps.length
  | 0, s, hs, hd, x, hx => by
    rw [h.wy_eq hs ht, if_pos (h.dst_zero hs ht hd)] at hx
    simp at hx; omega
  | n + 1, s, hs, hd, x, hx => by
    rw [h.wy_eq hs ht] at hx
    split at hx
    · simp at hx; omega
    · rename_i hne
      have := h.dst_nxt hs ht hne
      rcases List.mem_cons.1 hx with rfl | hx
      · exact hs
      · exact TrP.wy_lt ht n _ (h.nxt_ok hs ht hne).1 (by omega) x hx
/-- The way, as the engine's list. -/
theorem TrP.way {t : Nat} (ht : t < ps.length) : ∀ (n s : Nat), s < ps.length → dst ps s t = n → Way ps t ((wy ps s t).map fun (x : Nat) => (x : Int)) ∧ ((wy ps s t).map fun (x : Nat) => (x : Int)).head? = some (s : Int)
  | 0, s, hs, hd => by
    have e := h.dst_zero hs ht hd
    rw [h.wy_eq hs ht, if_pos e]
    exact ⟨by show (s : Int) = t; omega, rfl⟩
  | n + 1, s, hs, hd => by
    have hne : s ≠ t := fun e => by rw [e, h.dst_self ht] at hd; cases hd
    have h1 := h.dst_nxt hs ht hne
    obtain ⟨k1, k2, k3⟩ := h.nxt_ok hs ht hne
    obtain ⟨h2, h3⟩ := TrP.way ht n _ k1 (by omega)
    rw [h.wy_eq hs ht, if_neg hne]
    refine ⟨?_, rfl⟩
    rw [List.map_cons]
    generalize hys : (wy ps (nxt ps s t) t).map (fun (x : Nat) => (x : Int)) = ys at h2 h3
    cases ys with
    | nil => cases h3
    | cons y r =>
      simp only [List.head?_cons, Option.some.injEq] at h3
      exact ⟨by omega, by rw [k3, h3], h2⟩
end
end Go.Proofs.Ytobojnfhhobnkaa
