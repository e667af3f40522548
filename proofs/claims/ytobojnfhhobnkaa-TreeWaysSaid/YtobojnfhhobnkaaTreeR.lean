/- trees, in plain Lean: the way back, the triangle, the node where three ways meet. -/
import Derived.Test.YtobojnfhhobnkaaTreeQ
set_option linter.unusedSimpArgs false
set_option maxRecDepth 20000
set_option linter.unusedVariables false
namespace Go.Proofs.Ytobojnfhhobnkaa
open Go Go.Eng Go.RowKit

theorem nodup_le : ∀ (n : Nat) (l : List Nat), l.Nodup → (∀ x ∈ l, x < n) → l.length ≤ n
  | 0, l, _, hl => by
    cases l with
    | nil => simp
    | cons x l => have := hl x (by simp); omega
  | n + 1, l, hn, hl => by
    have h1 := nodup_le n (l.erase n) (hn.erase n) (fun x hx => by
      have h2 := hl x (List.mem_of_mem_erase hx)
      have h3 : x ≠ n := fun e => by subst e; exact (hn.not_mem_erase) hx
      omega)
    have h2 := List.length_erase (l := l) (a := n)
    split at h2 <;> omega
section
variable {ps : List Int} (h : TrP ps)
include h
theorem TrP.wy_len {s t : Nat} (hs : s < ps.length) (ht : t < ps.length) : (wy ps s t).length = dst ps s t + 1 := by
  have := h.wy_pos hs ht
  unfold dst; omega
/-- What comes behind a node of a way is the way from it. -/
theorem TrP.wy_at {t : Nat} (ht : t < ps.length) : ∀ (j s : Nat), s < ps.length → ∀ hj : j < (wy ps s t).length, wy ps ((wy ps s t)[j]) t = (wy ps s t).drop j ∧ dst ps ((wy ps s t)[j]) t + j = dst ps s t ∧ (wy ps s t)[j] < ps.length
  | 0, s, hs, hj => by
    have e : (wy ps s t)[0] = s := by
      simp only [h.wy_eq hs ht]
      split <;> rfl
    rw [e]
    exact ⟨by simp, by omega, hs⟩
  | j + 1, s, hs, hj => by
    by_cases he : s = t
    · rw [h.wy_eq hs ht, if_pos he] at hj
      simp at hj
    · obtain ⟨k1, k2, k3⟩ := h.nxt_ok hs ht he
      have e : wy ps s t = s :: wy ps (nxt ps s t) t := by rw [h.wy_eq hs ht, if_neg he]
      have hj' : j < (wy ps (nxt ps s t) t).length := by rw [e] at hj; simpa using hj
      obtain ⟨i1, i2, i3⟩ := TrP.wy_at ht j _ k1 hj'
      have e2 : (wy ps s t)[j + 1] = (wy ps (nxt ps s t) t)[j] := by simp only [e, List.getElem_cons_succ]
      have := h.dst_nxt hs ht he
      rw [e2]
      refine ⟨?_, by omega, i3⟩
      rw [i1, e, List.drop_succ_cons]
theorem TrP.wy_head {s t : Nat} (hs : s < ps.length) (ht : t < ps.length) (hj : 0 < (wy ps s t).length) : (wy ps s t)[0] = s := by
  simp only [h.wy_eq hs ht]
  split <;> rfl
theorem TrP.wy_last {s t : Nat} (hs : s < ps.length) (ht : t < ps.length) (hj : dst ps s t < (wy ps s t).length) : (wy ps s t)[dst ps s t] = t := by
  obtain ⟨_, h1, h2⟩ := h.wy_at ht (dst ps s t) s hs hj
  exact h.dst_zero h2 ht (by omega)
theorem TrP.wy_nodup {s t : Nat} (hs : s < ps.length) (ht : t < ps.length) : (wy ps s t).Nodup := by
  rw [List.nodup_iff_pairwise_ne, List.pairwise_iff_getElem]
  intro i j hi hj hij e
  have h1 := (h.wy_at ht i s hs hi).2.1
  have h2 := (h.wy_at ht j s hs hj).2.1
  rw [e] at h1
  omega
theorem TrP.dst_lt {s t : Nat} (hs : s < ps.length) (ht : t < ps.length) : dst ps s t < ps.length := by
  have h1 := nodup_le ps.length (wy ps s t) (h.wy_nodup hs ht) (h.wy_lt ht _ s hs rfl)
  have h2 := h.wy_len hs ht
  omega
/-- Step by step. -/
theorem TrP.wy_next {s t j : Nat} (hs : s < ps.length) (ht : t < ps.length) (hj : j + 1 < (wy ps s t).length) : nxt ps ((wy ps s t)[j]) t = (wy ps s t)[j + 1] ∧ isNear ps ((wy ps s t)[j]) ((wy ps s t)[j + 1]) = true ∧ (wy ps s t)[j] ≠ t := by
  obtain ⟨h1, h2, h3⟩ := h.wy_at ht j s hs (by omega)
  have hl := h.wy_len hs ht
  have hne : (wy ps s t)[j] ≠ t := fun e => by rw [e, h.dst_self ht] at h2; omega
  obtain ⟨k1, k2, k3⟩ := h.nxt_ok h3 ht hne
  rw [h.wy_eq h3 ht, if_neg hne, List.drop_eq_getElem_cons (by omega)] at h1
  injection h1 with _ h1
  have e : nxt ps ((wy ps s t)[j]) t = (wy ps s t)[j + 1] := by
    have h4 := h.wy_head k1 ht (h.wy_pos k1 ht)
    rw [← h4]
    simp only [h1]
    rw [List.getElem_drop]
  exact ⟨e, e ▸ k2, hne⟩
/-- Seen from its beginning, a way is walked back. -/
theorem TrP.wy_back {s t : Nat} (hs : s < ps.length) (ht : t < ps.length) : ∀ j (hj : j + 1 < (wy ps s t).length), nxt ps ((wy ps s t)[j + 1]) s = (wy ps s t)[j] ∧ (wy ps s t)[j + 1] ≠ s
  | 0, hj => by
    obtain ⟨h1, h2, h3⟩ := h.wy_next hs ht hj
    have e := h.wy_head hs ht (by omega)
    rcases h.near_or (h.wy_at ht 0 s hs (by omega)).2.2 (h.wy_at ht 1 s hs hj).2.2 hs h2 with ⟨_, k2⟩ | k
    · exact absurd e k2
    · exact k
  | j + 1, hj => by
    obtain ⟨i1, i2⟩ := TrP.wy_back hs ht j (by omega)
    obtain ⟨h1, h2, h3⟩ := h.wy_next hs ht hj
    rcases h.near_or (h.wy_at ht (j + 1) s hs (by omega)).2.2 (h.wy_at ht (j + 2) s hs hj).2.2 hs h2 with ⟨k1, k2⟩ | k
    · exfalso
      rw [i1] at k1
      have := List.pairwise_iff_getElem.1 (List.nodup_iff_pairwise_ne.1 (h.wy_nodup hs ht)) j (j + 1 + 1) (by omega) hj (by omega)
      exact this k1
    · exact k
theorem TrP.wy_rev_at {s t : Nat} (hs : s < ps.length) (ht : t < ps.length) : ∀ j (hj : j < (wy ps s t).length), wy ps ((wy ps s t)[j]) s = ((wy ps s t).take (j + 1)).reverse
  | 0, hj => by
    rw [h.wy_head hs ht hj, h.wy_eq hs hs, if_pos rfl]
    have := h.wy_head hs ht hj
    rw [List.take_succ_eq_append_getElem hj, this]
    simp
  | j + 1, hj => by
    obtain ⟨i1, i2⟩ := h.wy_back hs ht j hj
    rw [h.wy_eq (h.wy_at ht (j + 1) s hs hj).2.2 hs, if_neg i2, i1, TrP.wy_rev_at hs ht j (by omega), List.take_succ_eq_append_getElem hj, List.reverse_append]
    rfl
theorem TrP.wy_rev {s t : Nat} (hs : s < ps.length) (ht : t < ps.length) : wy ps t s = (wy ps s t).reverse := by
  have hl := h.wy_len hs ht
  have h1 := h.wy_rev_at hs ht (dst ps s t) (by omega)
  rw [h.wy_last hs ht (by omega), List.take_of_length_le (by omega)] at h1
  exact h1
theorem TrP.dst_sym {s t : Nat} (hs : s < ps.length) (ht : t < ps.length) : dst ps s t = dst ps t s := by
  have h1 := congrArg List.length (h.wy_rev hs ht)
  rw [List.length_reverse, h.wy_len hs ht, h.wy_len ht hs] at h1
  omega
theorem TrP.tri {c : Nat} (hc : c < ps.length) : ∀ (n a b : Nat), a < ps.length → b < ps.length → dst ps a c = n → dst ps a b ≤ n + dst ps c b ∧ dst ps c b ≤ n + dst ps a b
  | 0, a, b, ha, hb, hn => by rw [h.dst_zero ha hc hn]; omega
  | n + 1, a, b, ha, hb, hn => by
    have hne : a ≠ c := fun e => by rw [e, h.dst_self hc] at hn; cases hn
    obtain ⟨k1, k2, _⟩ := h.nxt_ok ha hc hne
    have h1 := h.dst_nxt ha hc hne
    have h2 := TrP.tri hc n (nxt ps a c) b k1 hb (by omega)
    rcases h.near_dst ha k1 hb k2 with h3 | h3 <;> omega
/-- A node lies on a way if the distances add up. -/
theorem TrP.mem_of {t : Nat} (ht : t < ps.length) {x : Nat} (hx : x < ps.length) : ∀ (n s : Nat), s < ps.length → dst ps s x = n → n + dst ps x t = dst ps s t → x ∈ wy ps s t
  | 0, s, hs, hn, _ => by
    rw [← h.dst_zero hs hx hn, h.wy_eq hs ht]
    split <;> simp
  | n + 1, s, hs, hn, he => by
    have hne : s ≠ x := fun e => by rw [e, h.dst_self hx] at hn; cases hn
    obtain ⟨k1, k2, _⟩ := h.nxt_ok hs hx hne
    have h1 := h.dst_nxt hs hx hne
    have h2 := (h.tri hx n (nxt ps s x) t k1 ht (by omega)).1
    have hst : s ≠ t := fun e => by rw [e, h.dst_self ht] at he; omega
    rcases h.near_dst hs k1 ht k2 with ⟨h3, h4⟩ | ⟨h3, _⟩
    · rw [h.wy_eq hs ht, if_neg hst, h4]
      exact List.mem_cons_of_mem _ (TrP.mem_of ht hx n _ k1 (by omega) (by omega))
    · omega
theorem TrP.mem_iff {s t x : Nat} (hs : s < ps.length) (ht : t < ps.length) (hx : x < ps.length) : x ∈ wy ps s t ↔ dst ps s x + dst ps x t = dst ps s t := by
  constructor
  · intro hm
    obtain ⟨j, hj, rfl⟩ := List.mem_iff_getElem.1 hm
    have h1 := (h.wy_at ht j s hs hj).2.1
    have h2 := congrArg List.length (h.wy_rev_at hs ht j hj)
    rw [h.wy_len hx hs, List.length_reverse, List.length_take] at h2
    have h3 := h.dst_sym hs hx
    omega
  · exact fun he => h.mem_of ht hx _ s hs rfl he
/-- Along a way, the distance from a third node falls first and rises then. -/
theorem TrP.turn {a b c : Nat} (ha : a < ps.length) (hb : b < ps.length) (hc : c < ps.length) : ∃ m, m < ps.length ∧ m ∈ wy ps a c ∧ m ∈ wy ps a b ∧ m ∈ wy ps b c := by
  -- by the number of steps from a to c
  have key : ∀ n a, a < ps.length → dst ps a c = n → ∃ m, m < ps.length ∧ dst ps a m + dst ps m c = dst ps a c ∧ dst ps a m + dst ps m b = dst ps a b ∧ dst ps c m + dst ps m b = dst ps c b := by
    intro n
    induction n with
    | zero =>
      intro a ha hn
      have e := h.dst_zero ha hc hn
      subst e
      exact ⟨a, ha, by rw [h.dst_self ha], by rw [h.dst_self ha]; omega, by rw [h.dst_self ha]; omega⟩
    | succ n ih =>
      intro a ha hn
      have hne : a ≠ c := fun e => by rw [e, h.dst_self hc] at hn; cases hn
      obtain ⟨k1, k2, _⟩ := h.nxt_ok ha hc hne
      have h1 := h.dst_nxt ha hc hne
      obtain ⟨m, m1, m2, m3, m4⟩ := ih (nxt ps a c) k1 (by omega)
      rcases h.near_dst ha k1 hb k2 with ⟨h3, h4⟩ | ⟨h3, h4⟩
      · -- nearer to b
        have t1 := (h.tri k1 1 a m ha m1 (by have := h.near_dst ha k1 k1 k2; rw [h.dst_self k1] at this; omega)).1
        have t2 := (h.tri m1 _ a c ha hc rfl).1
        exact ⟨m, m1, by omega, by have := (h.tri m1 _ a b ha hb rfl).1; omega, m4⟩
      · -- farther from b: the turn is a
        refine ⟨a, ha, by rw [h.dst_self ha]; omega, by rw [h.dst_self ha]; omega, ?_⟩
        -- from here on the distance rises
        have rise : ∀ n a, a < ps.length → dst ps a c = n + 1 → dst ps (nxt ps a c) b = dst ps a b + 1 → dst ps c b = n + 1 + dst ps a b := by
          intro n
          induction n with
          | zero =>
            intro a ha hn hr
            have hne : a ≠ c := fun e => by rw [e, h.dst_self hc] at hn; cases hn
            have h1 := h.dst_nxt ha hc hne
            rw [h.dst_zero (h.nxt_ok ha hc hne).1 hc (by omega)] at hr
            omega
          | succ n ih =>
            intro a ha hn hr
            have hne : a ≠ c := fun e => by rw [e, h.dst_self hc] at hn; cases hn
            obtain ⟨k1, k2, _⟩ := h.nxt_ok ha hc hne
            have h1 := h.dst_nxt ha hc hne
            have hne2 : nxt ps a c ≠ c := fun e => by rw [e, h.dst_self hc] at h1; omega
            obtain ⟨q1, q2, _⟩ := h.nxt_ok k1 hc hne2
            have h2 := h.dst_nxt k1 hc hne2
            have e1 : nxt ps (nxt ps a c) b = a := by
              rcases h.near_dst ha k1 hb k2 with ⟨h3, _⟩ | ⟨_, h4⟩
              · omega
              · exact h4
            have := ih (nxt ps a c) k1 (by omega) (by
              rcases h.near_dst k1 q1 hb q2 with ⟨_, h4⟩ | ⟨h3, _⟩
              · rw [e1] at h4
                rw [← h4] at h2
                omega
              · exact h3)
            omega
        have := rise n a ha hn h3
        have := h.dst_sym ha hc
        omega
  obtain ⟨m, m1, m2, m3, m4⟩ := key _ a ha rfl
  refine ⟨m, m1, (h.mem_iff ha hc m1).2 m2, (h.mem_iff ha hb m1).2 m3, (h.mem_iff hb hc m1).2 ?_⟩
  have := h.dst_sym hc m1
  have := h.dst_sym m1 hb
  have := h.dst_sym hc hb
  omega
/-- .. and at one node alone. -/
theorem TrP.turn_one {a b c m k : Nat} (ha : a < ps.length) (hb : b < ps.length) (hc : c < ps.length) (h1 : m ∈ wy ps a b) (h2 : m ∈ wy ps b c) (h3 : m ∈ wy ps c a) (k1 : k ∈ wy ps a b) (k2 : k ∈ wy ps b c) (k3 : k ∈ wy ps c a) : m = k := by
  have hm := h.wy_lt hb _ a ha rfl m h1
  have hk := h.wy_lt hb _ a ha rfl k k1
  have e1 := (h.mem_iff ha hb hm).1 h1
  have e2 := (h.mem_iff hb hc hm).1 h2
  have e3 := (h.mem_iff hc ha hm).1 h3
  have f1 := (h.mem_iff ha hb hk).1 k1
  have f2 := (h.mem_iff hb hc hk).1 k2
  have f3 := (h.mem_iff hc ha hk).1 k3
  have s1 := h.dst_sym ha hm
  have s2 := h.dst_sym hb hm
  have s3 := h.dst_sym hc hm
  have s4 := h.dst_sym ha hk
  have s5 := h.dst_sym hb hk
  have s6 := h.dst_sym hc hk
  obtain ⟨i, hi, ei⟩ := List.mem_iff_getElem.1 h1
  obtain ⟨j, hj, ej⟩ := List.mem_iff_getElem.1 k1
  have g1 := (h.wy_at hb i a ha hi).2.1
  have g2 := (h.wy_at hb j a ha hj).2.1
  rw [ei] at g1
  rw [ej] at g2
  have : i = j := by omega
  subst this
  rw [← ei, ← ej]
end
end Go.Proofs.Ytobojnfhhobnkaa
