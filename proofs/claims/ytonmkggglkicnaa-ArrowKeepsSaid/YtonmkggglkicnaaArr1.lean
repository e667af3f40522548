/- Arrows over a tree, in plain words: quiet arrows are those that lead to one node; a find turns those of its path. -/
import Derived.Test.YtonmkggglkicnaaTreeEl
set_option linter.unusedSimpArgs false
set_option maxRecDepth 20000
set_option linter.unusedVariables false
namespace Go.Proofs.Ytonmkggglkicnaa
open Go Go.Eng Go.RowKit

/-- All arrows lead to s. -/
def tw (ps : List Int) (s : Nat) : List Int := (List.range ps.length).map fun (v : Nat) => nextS ps v s
theorem tw_len (ps : List Int) (s : Nat) : (tw ps s).length = ps.length := by simp [tw]
theorem tw_get (ps : List Int) (s : Nat) {v : Nat} (hv : v < ps.length) : (tw ps s).getD v 0 = nextS ps v s := by simp [tw, hv]
theorem nextS_self {ps : List Int} {s : Nat} (hs : s < ps.length) : nextS ps s s = s := by
  have e : hasB ps (s : Int) = true := hasB_iff.2 (by omega)
  unfold nextS
  rw [if_neg (by rw [e]; simp), if_pos rfl]
/-- Whether the arrow of a node can be. -/
def legAt (ps aw : List Int) (v : Nat) : Bool := decide (aw.getD v 0 = v) || (nearTo ps v ps.length).contains (aw.getD v 0)
def legB (ps aw : List Int) : Bool := decide (aw.length = ps.length) && (List.range ps.length).all (legAt ps aw)
/-- The nodes whose arrows point at themselves, of the first i. -/
def snk (aw : List Int) (i : Nat) : List Int := ((List.range i).filter fun v => decide (aw.getD v 0 = (v : Int))).map fun (v : Nat) => (v : Int)
theorem snk_succ (aw : List Int) (i : Nat) : snk aw (i + 1) = if aw.getD i 0 = (i : Int) then snk aw i ++ [(i : Int)] else snk aw i := by
  unfold snk
  rw [List.range_succ, List.filter_append, List.map_append]
  by_cases h : aw.getD i 0 = (i : Int)
  · rw [if_pos h, List.filter_cons_of_pos (by simpa using h)]; rfl
  · rw [if_neg h, List.filter_cons_of_neg (by simpa using h)]; simp
theorem snk_le (aw : List Int) (i : Nat) : (snk aw i).length ≤ i := by
  unfold snk
  have := List.length_filter_le (fun v => decide (aw.getD v 0 = (v : Int))) (List.range i)
  simp only [List.length_map, List.length_range] at *
  exact this
/-- Of the two arrows over an edge just one points over it. -/
def oneB (aw : List Int) (u v : Nat) : Bool := !((aw.getD u 0 == (v : Int)) == (aw.getD v 0 == (u : Int)))
def quB (ps aw : List Int) : Bool := legB ps aw && (decide ((snk aw aw.length).length = 1) && (List.range ps.length).all fun u => (List.range ps.length).all fun v => !(decide (u < v) && isNear ps u v) || oneB aw u v)
theorem near_mem {ps : List Int} {v : Nat} {x : Int} : x ∈ nearTo ps v ps.length ↔ ∃ u : Nat, x = u ∧ u < ps.length ∧ isNear ps u v = true := by
  unfold nearTo
  simp only [List.mem_map, List.mem_filter, List.mem_range]
  constructor
  · rintro ⟨u, ⟨h1, h2⟩, rfl⟩; exact ⟨u, rfl, h1, h2⟩
  · rintro ⟨u, rfl, h1, h2⟩; exact ⟨u, ⟨h1, h2⟩, rfl⟩
theorem legAt_iff {ps aw : List Int} {v : Nat} : legAt ps aw v = true ↔ aw.getD v 0 = (v : Int) ∨ ∃ u : Nat, aw.getD v 0 = u ∧ u < ps.length ∧ isNear ps u v = true := by
  unfold legAt
  rw [Bool.or_eq_true, decide_eq_true_eq, List.contains_iff_mem, near_mem]
theorem snk_mem {aw : List Int} {x : Int} {i : Nat} : x ∈ snk aw i ↔ ∃ v : Nat, x = v ∧ v < i ∧ aw.getD v 0 = (v : Int) := by
  unfold snk
  simp only [List.mem_map, List.mem_filter, List.mem_range, decide_eq_true_eq]
  constructor
  · rintro ⟨u, ⟨h1, h2⟩, rfl⟩; exact ⟨u, rfl, h1, h2⟩
  · rintro ⟨u, rfl, h1, h2⟩; exact ⟨u, ⟨h1, h2⟩, rfl⟩
theorem snk_nodup (aw : List Int) (i : Nat) : (snk aw i).Nodup := by
  unfold snk
  have h1 : ((List.range i).filter fun v => decide (aw.getD v 0 = (v : Int))).Nodup := List.nodup_range.filter _
  rw [List.nodup_iff_pairwise_ne] at h1 ⊢
  rw [List.pairwise_map]
  exact h1.imp fun hne e => hne (by omega)
structure Qu (ps aw : List Int) : Prop where
  len : aw.length = ps.length
  leg : ∀ v, v < ps.length → legAt ps aw v = true
  one : (snk aw aw.length).length = 1
  ed : ∀ u v : Nat, v < ps.length → u < v → isNear ps u v = true → oneB aw u v = true
theorem quB_iff {ps aw : List Int} : quB ps aw = true ↔ Qu ps aw := by
  unfold quB legB
  simp only [Bool.and_eq_true, decide_eq_true_eq, List.all_eq_true, List.mem_range]
  constructor
  · rintro ⟨⟨h1, h2⟩, h3, h4⟩
    refine ⟨h1, h2, h3, fun u v hv huv hn => ?_⟩
    have := h4 u (by omega) v hv
    simpa [huv, hn] using this
  · rintro ⟨h1, h2, h3, h4⟩
    refine ⟨⟨h1, h2⟩, h3, fun u hu v hv => ?_⟩
    rcases Bool.eq_false_or_eq_true (decide (u < v) && isNear ps u v) with h | h
    · rw [h]
      simp only [Bool.and_eq_true, decide_eq_true_eq] at h
      simpa using h4 u v hv h.1 h.2
    · rw [h]; rfl
theorem one_is {l : List Int} (h : l.length = 1) : ∃ x, l = [x] := by
  match l, h with
  | [x], _ => exact ⟨x, rfl⟩
section
variable {ps : List Int} (h : TrP ps)
include h
theorem TrP.tw_at {s v : Nat} (hs : s < ps.length) (hv : v < ps.length) : (tw ps s).getD v 0 = if v = s then (s : Int) else (nxt ps v s : Nat) := by
  rw [tw_get ps s hv]
  split
  · rename_i e; rw [e, nextS_self hs]
  · rename_i e; exact (h.nxt_ok hv hs e).2.2
theorem TrP.tw_qu {s : Nat} (hs : s < ps.length) : Qu ps (tw ps s) := by
  have hg : ∀ v, v < ps.length → (tw ps s).getD v 0 = if v = s then (s : Int) else (nxt ps v s : Nat) := fun v hv => h.tw_at hs hv
  have hself : ∀ v, v < ps.length → ((tw ps s).getD v 0 = (v : Int) ↔ v = s) := fun v hv => by
    rw [hg v hv]
    constructor
    · intro e
      split at e
      · assumption
      · rename_i hne
        have := h.dst_nxt hv hs hne
        rw [show nxt ps v s = v by omega] at this
        omega
    · rintro rfl
      rw [if_pos rfl]
  refine ⟨tw_len ps s, fun v hv => legAt_iff.2 ?_, ?_, fun u v hv huv hn => ?_⟩
  · by_cases e : v = s
    · exact .inl ((hself v hv).2 e)
    · rw [hg v hv, if_neg e]
      obtain ⟨h1, h2, _⟩ := h.nxt_ok hv hs e
      exact .inr ⟨_, rfl, h1, near_sym h2⟩
  · have h1 : ∀ x, x ∈ snk (tw ps s) (tw ps s).length ↔ x = (s : Int) := fun x => by
      rw [snk_mem, tw_len]
      constructor
      · rintro ⟨v, rfl, hv, e⟩
        rw [(hself v hv).1 e]
      · rintro rfl
        exact ⟨s, rfl, hs, (hself s hs).2 rfl⟩
    have h2 := snk_nodup (tw ps s) (tw ps s).length
    match hl : snk (tw ps s) (tw ps s).length with
    | [] => have := (h1 s).2 rfl; rw [hl] at this; cases this
    | [x] => rfl
    | x :: y :: l =>
      rw [hl] at h1 h2
      have e1 := (h1 x).1 (by simp)
      have e2 := (h1 y).1 (by simp)
      rw [e1, e2] at h2
      simp at h2
  · have hu : u < ps.length := by omega
    have key : ((tw ps s).getD u 0 = (v : Int)) ≠ ((tw ps s).getD v 0 = (u : Int)) := by
      rw [hg u hu, hg v hv]
      rcases h.near_dst hu hv hs hn with ⟨h1, h2⟩ | ⟨h1, h2⟩
      · have hus : u ≠ s := by rintro rfl; rw [h.dst_self hu] at h1; omega
        rw [if_neg hus, h2]
        intro e
        have e2 := e.mp rfl
        split at e2
        · omega
        · rename_i hvs
          have := h.dst_nxt hv hs hvs
          rw [show nxt ps v s = u by omega] at this
          omega
      · have hvs : v ≠ s := by rintro rfl; rw [h.dst_self hv] at h1; omega
        rw [if_neg hvs, h2]
        intro e
        have e2 := e.mpr rfl
        split at e2
        · omega
        · rename_i hus
          have := h.dst_nxt hu hs hus
          rw [show nxt ps u s = v by omega] at this
          omega
    unfold oneB
    by_cases c1 : (tw ps s).getD u 0 = (v : Int) <;> by_cases c2 : (tw ps s).getD v 0 = (u : Int) <;> simp_all
/-- Quiet arrows lead to one node. -/
theorem TrP.qu_tw {aw : List Int} (q : Qu ps aw) : ∃ s : Nat, s < ps.length ∧ aw = tw ps s := by
  obtain ⟨x, hx⟩ := one_is q.one
  obtain ⟨s, rfl, hs, hss⟩ := snk_mem.1 (show x ∈ snk aw aw.length by rw [hx]; simp)
  rw [q.len] at hs
  have hone : ∀ v : Nat, v < ps.length → aw.getD v 0 = (v : Int) → v = s := fun v hv e => by
    have := (snk_mem (aw := aw) (x := v) (i := aw.length)).2 ⟨v, rfl, by rw [q.len]; exact hv, e⟩
    rw [hx] at this
    simp only [List.mem_singleton] at this
    omega
  have key : ∀ (k v : Nat), v < ps.length → ps.length ≤ dst ps v s + k → v ≠ s → aw.getD v 0 = (nxt ps v s : Nat) := by
    intro k
    induction k with
    | zero => intro v hv hk; have := h.dst_lt hv hs; omega
    | succ k ih =>
      intro v hv hk hne
      rcases legAt_iff.1 (q.leg v hv) with e | ⟨u, e, hu, hn⟩
      · exact absurd (hone v hv e) hne
      rcases h.near_dst hv hu hs (near_sym hn) with ⟨h1, h2⟩ | ⟨h1, h2⟩
      · rw [e, h2]
      · exfalso
        have hus : u ≠ s := by rintro rfl; rw [h.dst_self hu] at h1; omega
        have hu2 := ih u hu (by omega) hus
        rw [h2] at hu2
        have huv : u ≠ v := by rintro rfl; omega
        rcases Nat.lt_or_gt_of_ne huv with hl | hl
        · have := q.ed u v hv hl hn
          unfold oneB at this
          rw [e, hu2] at this
          simp at this
        · have := q.ed v u hu hl (near_sym hn)
          unfold oneB at this
          rw [e, hu2] at this
          simp at this
  refine ⟨s, hs, List.ext_getElem (by rw [tw_len, q.len]) fun i h1 h2 => ?_⟩
  have hi : i < ps.length := by rw [tw_len] at h2; exact h2
  have e1 : aw.getD i 0 = aw[i] := by simp [h1]
  have e2 : (tw ps s).getD i 0 = (tw ps s)[i] := by simp [h2]
  rw [← e1, ← e2, h.tw_at hs hi]
  split
  · rename_i e; rw [e]; exact hss
  · rename_i e; exact key ps.length i hi (by omega) e
/-- Off the path, an arrow to the one end leads to the other one. -/
theorem TrP.mem_nxt {v m s : Nat} (hv : v < ps.length) (hm : m < ps.length) (hs : s < ps.length) (h1 : m ∈ wy ps v s) (hne : m ≠ v) : nxt ps v m = nxt ps v s := by
  have hvs : v ≠ s := by
    rintro rfl
    rw [h.wy_eq hv hv, if_pos rfl] at h1
    simp at h1
    exact hne h1
  have e1 := h.dst_nxt hv hs hvs
  obtain ⟨n1, n2, _⟩ := h.nxt_ok hv hs hvs
  have e2 : m ∈ wy ps (nxt ps v s) s := by
    rw [h.wy_eq hv hs, if_neg hvs] at h1
    exact (List.mem_cons.1 h1).resolve_left hne
  have d1 := (h.mem_iff hv hs hm).1 h1
  have d2 := (h.mem_iff n1 hs hm).1 e2
  rcases h.near_dst hv n1 hm n2 with ⟨_, h3⟩ | ⟨h3, _⟩
  · exact h3
  · omega
theorem TrP.off_path {f s v : Nat} (hf : f < ps.length) (hs : s < ps.length) (hv : v < ps.length) (hn : v ∉ wy ps f s) : nxt ps v s = nxt ps v f := by
  obtain ⟨m, hm, m1, m2, m3⟩ := h.turn hv hf hs
  have hmv : m ≠ v := by rintro rfl; exact hn m3
  rw [← h.mem_nxt hv hm hs m1 hmv, ← h.mem_nxt hv hm hf m2 hmv]
/-- The arrows of a find's first j stops turned. -/
def arr (ps : List Int) (f s j : Nat) : List Int := (List.range ps.length).map fun (v : Nat) => if v ∈ (wy ps f s).take j then nextS ps v f else nextS ps v s
omit h in
theorem arr_len (ps : List Int) (f s j : Nat) : (arr ps f s j).length = ps.length := by simp [arr]
omit h in
theorem arr_get (ps : List Int) (f s j : Nat) {v : Nat} (hv : v < ps.length) : (arr ps f s j).getD v 0 = if v ∈ (wy ps f s).take j then nextS ps v f else nextS ps v s := by simp [arr, hv]
omit h in
theorem arr_zero (ps : List Int) (f s : Nat) : arr ps f s 0 = tw ps s := by simp [arr, tw]
omit h in
theorem arr_set (ps : List Int) (f s : Nat) {j : Nat} (hj : j < (wy ps f s).length) : (arr ps f s j).set ((wy ps f s)[j]) (nextS ps ((wy ps f s)[j] : Nat) f) = arr ps f s (j + 1) := by
  refine List.ext_getElem (by simp [arr]) fun i h1 h2 => ?_
  rw [List.getElem_set]
  simp only [arr, List.getElem_map, List.getElem_range]
  have hm : i ∈ (wy ps f s).take (j + 1) ↔ i ∈ (wy ps f s).take j ∨ i = (wy ps f s)[j] := by rw [List.take_succ_eq_append_getElem hj, List.mem_append, List.mem_singleton]
  split
  · rename_i e; rw [if_pos (hm.2 (.inr e.symm)), e]
  · rename_i e
    by_cases hi : i ∈ (wy ps f s).take j
    · rw [if_pos hi, if_pos (hm.2 (.inl hi))]
    · rw [if_neg hi, if_neg (fun h => (hm.1 h).elim hi fun h => e h.symm)]
theorem TrP.arr_end {f s : Nat} (hf : f < ps.length) (hs : s < ps.length) : arr ps f s (dst ps f s + 1) = tw ps f := by
  refine List.ext_getElem (by simp [arr, tw]) fun i h1 h2 => ?_
  have hi : i < ps.length := by simpa [arr] using h1
  simp only [arr, tw, List.getElem_map, List.getElem_range]
  rw [List.take_of_length_le (by rw [h.wy_len hf hs]; omega)]
  split
  · rfl
  · rename_i e
    have his : i ≠ s := by
      rintro rfl
      have := List.getElem_mem (show dst ps f i < (wy ps f i).length by rw [h.wy_len hf hs]; omega)
      rw [h.wy_last hf hs] at this
      exact e this
    have hif : i ≠ f := by
      rintro rfl
      have := List.getElem_mem (h.wy_pos hf hs)
      rw [h.wy_head hf hs] at this
      exact e this
    rw [(h.nxt_ok hi hs his).2.2, (h.nxt_ok hi hf hif).2.2, h.off_path hf hs hi e]
/-- Where the arrow of the j-th stop points, before the find has come to it and behind it. -/
theorem TrP.arr_at {f s j : Nat} (hf : f < ps.length) (hs : s < ps.length) (hj : j < (wy ps f s).length) : (arr ps f s j).getD ((wy ps f s)[j]) 0 = nextS ps ((wy ps f s)[j] : Nat) s := by
  have hl := (h.wy_at hs j f hf hj).2.2
  rw [arr_get ps f s j hl, if_neg]
  intro hm
  have hnd := h.wy_nodup hf hs
  obtain ⟨i, hi, e⟩ := List.mem_iff_getElem.1 hm
  rw [List.getElem_take] at e
  rw [List.length_take] at hi
  have := (List.getElem_inj hnd).1 e
  omega
theorem TrP.way_next {f s j : Nat} (hf : f < ps.length) (hs : s < ps.length) (hj : j < (wy ps f s).length) :
    (j = dst ps f s → (wy ps f s)[j] = s ∧ nextS ps ((wy ps f s)[j] : Nat) s = s) ∧
    (∀ hj2 : j + 1 < (wy ps f s).length, (wy ps f s)[j] ≠ s ∧ nextS ps ((wy ps f s)[j] : Nat) s = ((wy ps f s)[j + 1] : Nat) ∧ nextS ps ((wy ps f s)[j + 1] : Nat) f = ((wy ps f s)[j] : Nat) ∧ (wy ps f s)[j] ≠ (wy ps f s)[j + 1]) := by
  constructor
  · rintro rfl
    rw [h.wy_last hf hs]
    exact ⟨rfl, nextS_self hs⟩
  · intro hj2
    have hl := (h.wy_at hs j f hf hj).2.2
    have hl2 := (h.wy_at hs (j + 1) f hf hj2).2.2
    obtain ⟨a1, a2, a3⟩ := h.wy_next hf hs hj2
    obtain ⟨b1, b2⟩ := h.wy_back hf hs j hj2
    refine ⟨a3, ?_, ?_, fun e => ?_⟩
    · rw [(h.nxt_ok hl hs a3).2.2, a1]
    · rw [(h.nxt_ok hl2 hf b2).2.2, b1]
    · have := (List.getElem_inj (h.wy_nodup hf hs)).1 e
      omega
end
end Go.Proofs.Ytonmkggglkicnaa
