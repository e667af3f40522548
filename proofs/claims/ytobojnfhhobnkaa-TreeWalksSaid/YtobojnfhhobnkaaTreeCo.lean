/- Trees, in plain Lean: how many edges there are, and that a walk comes to each node once. -/
import Derived.Test.YtobojnfhhobnkaaTreeWk
set_option linter.unusedSimpArgs false
set_option maxRecDepth 20000
set_option linter.unusedVariables false
namespace Go.Proofs.Ytobojnfhhobnkaa
open Go Go.Eng Go.RowKit

/-- How many cells there are in the lists that f counts. -/
def cnt (f : Int → Int → Bool) : Int → List (List Int) → Nat
  | _, [] => 0
  | u, l :: r => l.countP (f u) + cnt f (u + 1) r
theorem cnt_set (f : Int → Int → Bool) (x : List Int) : ∀ (L : List (List Int)) (u : Int) (i : Nat), i < L.length → cnt f u (L.set i x) + (L.getD i []).countP (f (u + i)) = cnt f u L + x.countP (f (u + i))
  | [], _, _, h => by simp at h
  | l :: L, u, 0, _ => by simp [cnt]; omega
  | l :: L, u, i + 1, h => by
    have := cnt_set f x L (u + 1) i (by simpa using h)
    rw [show u + 1 + (i : Int) = u + ((i + 1 : Nat) : Int) by omega] at this
    simp only [List.set_cons_succ, cnt, List.getD_cons_succ]
    omega
theorem cnt_addE (f : Int → Int → Bool) (L : List (List Int)) (i : Nat) (x : Int) (h : i < L.length) : cnt f 0 (addE L i x) = cnt f 0 L + if f i x = true then 1 else 0 := by
  have := cnt_set f (L.getD i [] ++ [x]) L 0 i h
  rw [List.countP_append, List.countP_singleton, show (0 : Int) + (i : Int) = i by omega] at this
  unfold addE
  omega
theorem cnt_sort (f : Int → Int → Bool) : ∀ (L : List (List Int)) (u : Int), cnt f u (L.map sortI) = cnt f u L
  | [], _ => rfl
  | l :: L, u => by
    simp only [List.map_cons, cnt]
    rw [cnt_sort f L, show (sortI l).countP (f u) = l.countP (f u) from (List.mergeSort_perm l _).countP_eq _]
theorem edgeFrom_len : ∀ (L : List (List Int)) (u : Int), (edgeFrom u L).length = cnt (fun u v => decide (u < v)) u L
  | [], _ => rfl
  | l :: L, u => by
    rw [edgeFrom, List.length_append, edgeFrom_len L, cnt, edgeRow, List.length_map, List.countP_eq_length_filter]
theorem edgeFrom_mem : ∀ (L : List (List Int)) (u : Int) (p : Int × Int), p ∈ edgeFrom u L → ∃ i : Nat, i < L.length ∧ p.1 = u + i ∧ p.2 ∈ L.getD i [] ∧ p.1 < p.2
  | [], _, _, h => by simp [edgeFrom] at h
  | l :: L, u, p, h => by
    rw [edgeFrom, List.mem_append] at h
    rcases h with h | h
    · unfold edgeRow at h
      simp only [List.mem_map, List.mem_filter, decide_eq_true_eq] at h
      obtain ⟨v, ⟨h1, h2⟩, rfl⟩ := h
      exact ⟨0, by simp, by simp, by simpa using h1, h2⟩
    · obtain ⟨i, h1, h2, h3, h4⟩ := edgeFrom_mem L (u + 1) p h
      exact ⟨i + 1, by simpa using h1, by omega, by simpa using h3, h4⟩
/-- The lengths of the first lists together. -/
def lsum (L : List (List Int)) : Nat → Nat
  | 0 => 0
  | i + 1 => lsum L i + (L.getD i []).length
theorem lsum_cons (l : List Int) (L : List (List Int)) : ∀ i, lsum (l :: L) (i + 1) = l.length + lsum L i
  | 0 => by simp [lsum]
  | i + 1 => by rw [lsum, lsum_cons l L i, lsum, List.getD_cons_succ]; omega
theorem lsum_cnt : ∀ (L : List (List Int)) (u : Int), lsum L L.length = cnt (fun _ _ => true) u L
  | [], _ => rfl
  | l :: L, u => by
    rw [List.length_cons, lsum_cons, lsum_cnt L (u + 1), cnt, List.countP_true]
theorem lsum_le (ps : List Int) (L : List (List Int)) (K : Nat) (h : ∀ i, (L.getD i []).length ≤ K) : ∀ i, lsum L i ≤ K * i
  | 0 => by simp [lsum]
  | i + 1 => by
    have := lsum_le ps L K h i
    have := h i
    rw [lsum, Nat.mul_succ]; omega
/-- The nodes that have a parent. -/
def kids (ps : List Int) : Nat → Nat
  | 0 => 0
  | i + 1 => kids ps i + if ps.getD i 0 < 0 then 0 else 1
section
variable {ps : List Int}
theorem TrP.cnt_nw (h : TrP ps) (f : Int → Int → Bool) (k : Nat) (hf : ∀ u v : Int, u ≠ v → (if f u v = true then 1 else 0) + (if f v u = true then 1 else 0) = k) : ∀ i, i ≤ ps.length → cnt f 0 (nwL ps i) = k * kids ps i
  | 0, _ => by
    rw [nwL, kids]
    have : ∀ n (u : Int), cnt f u (List.replicate n []) = 0 := fun n => by
      induction n with
      | zero => intro u; rfl
      | succ n ih => intro u; rw [List.replicate_succ, cnt, ih]; rfl
    rw [this]; rfl
  | i + 1, hi => by
    have ih := TrP.cnt_nw h f k hf i (by omega)
    have hb := h.bd i (by omega)
    rw [nwL, kids]
    by_cases h0 : ps.getD i 0 < 0
    · rw [if_pos h0, if_pos h0, ih]; rfl
    · rw [if_neg h0, if_neg h0, cnt_addE _ _ _ _ (by rw [addE_len, nwL_length]; omega), cnt_addE _ _ _ _ (by rw [nwL_length]; omega), ih, Nat.mul_add, ← hf i (ps.getD i 0) (fun e => hb.2.2 e.symm)]
      rw [show (((ps.getD i 0).toNat : Nat) : Int) = ps.getD i 0 by omega]
      omega
theorem TrP.kids_eq (h : TrP ps) {r : Nat} (hr : r < ps.length) (h1 : ps.getD r 0 = -1) : ∀ i, i ≤ ps.length → kids ps i = if i ≤ r then i else i - 1
  | 0, _ => by simp [kids]
  | i + 1, hi => by
    rw [kids, TrP.kids_eq h hr h1 i (by omega)]
    have hb := h.bd i (by omega)
    by_cases e : i = r
    · subst e
      rw [if_pos (Nat.le_refl _), if_pos (by omega), if_neg (by omega)]; omega
    · have : ps.getD i 0 ≠ -1 := fun e2 => e (h.one i r (by omega) hr e2 h1)
      rw [if_neg (c := ps.getD i 0 < 0) (by omega)]
      split <;> split <;> omega
theorem Tr1.edges_len (h : Tr1 ps) : (edgeFrom 0 (nearOf ps)).length = ps.length - 1 := by
  obtain ⟨r, _, hr, h1⟩ := root_at h
  rw [edgeFrom_len, nearOf, cnt_sort, h.p.cnt_nw _ 1 (fun u v hne => by
    by_cases h1 : u < v
    · rw [if_pos (by simpa using h1), if_neg (by simp; omega)]
    · rw [if_neg (by simpa using h1), if_pos (by simp; omega)]) _ (Nat.le_refl _), h.p.kids_eq hr h1 _ (Nat.le_refl _), if_neg (by omega)]
  omega
theorem Tr1.near_sum (h : Tr1 ps) : lsum (nearOf ps) ps.length = 2 * (ps.length - 1) := by
  obtain ⟨r, _, hr, h1⟩ := root_at h
  have e := lsum_cnt (nearOf ps) 0
  rw [nearOf_length] at e
  rw [e, nearOf, cnt_sort, h.p.cnt_nw _ 2 (fun u v hne => rfl) _ (Nat.le_refl _), h.p.kids_eq hr h1 _ (Nat.le_refl _), if_neg (by omega)]
theorem Tr1.edge_at (h : Tr1 ps) {j : Nat} (hj : j < (edgeFrom 0 (nearOf ps)).length) : ∃ u v : Nat, (edgeFrom 0 (nearOf ps))[j] = ((u : Int), (v : Int)) ∧ u < v ∧ v < ps.length ∧ (ps.getD u 0 = v ∨ ps.getD v 0 = u) := by
  obtain ⟨i, h1, h2, h3, h4⟩ := edgeFrom_mem _ _ _ (List.getElem_mem hj)
  rw [nearOf_length] at h1
  rw [h.p.near_list h1] at h3
  obtain ⟨u, e1, e2, e3⟩ := near_at h3
  refine ⟨i, u, Prod.ext (by omega) e1, by omega, e2, ?_⟩
  have : ps.getD u 0 = i ∨ ps.getD i 0 = u := by simpa [isNear] using e3
  exact this.symm
end

/- The walk. -/
/-- Each one is new, and beside one that is there. -/
def Grow (ps : List Int) (r : Nat) : List Nat → List Nat → Prop
  | _, [] => True
  | S, x :: l => x ∉ S ∧ (x = r ∨ nxt ps x r ∈ S) ∧ Grow ps r (S ++ [x]) l
theorem grow_append {ps : List Int} {r : Nat} : ∀ {l S m : List Nat}, Grow ps r S l → Grow ps r (S ++ l) m → Grow ps r S (l ++ m)
  | [], S, m, _, h => by simpa using h
  | x :: l, S, m, ⟨h1, h2, h3⟩, h => ⟨h1, h2, grow_append h3 (by simpa using h)⟩
theorem grow_at {ps : List Int} {r : Nat} : ∀ {l S : List Nat}, Grow ps r S l → ∀ (j : Nat) (hj : j < l.length), l[j] ∉ S ++ l.take j ∧ (l[j] = r ∨ nxt ps l[j] r ∈ S ++ l.take j)
  | x :: l, S, ⟨h1, h2, _⟩, 0, _ => by simpa using ⟨h1, h2⟩
  | x :: l, S, ⟨_, _, h3⟩, j + 1, hj => by
    have := grow_at h3 j (by simpa using hj)
    simpa using this
theorem len_sub : ∀ (l m : List Nat), l.Nodup → (∀ x ∈ l, x ∈ m) → l.length ≤ m.length
  | [], _, _, _ => by simp
  | x :: l, m, hn, hs => by
    have hx := hs x (by simp)
    have h1 := len_sub l (m.erase x) (List.nodup_cons.1 hn).2 (fun y hy => by
      have : y ≠ x := fun e => (List.nodup_cons.1 hn).1 (e ▸ hy)
      exact (List.mem_erase_of_ne this).2 (hs y (by simp [hy])))
    have h2 := List.length_erase_of_mem hx
    have h3 : 0 < m.length := List.length_pos_of_mem hx
    simp only [List.length_cons]
    omega
theorem grow_nodup {ps : List Int} {r : Nat} : ∀ {l S : List Nat}, Grow ps r S l → l.Nodup ∧ ∀ x ∈ l, x ∉ S
  | [], _, _ => by simp
  | x :: l, S, ⟨h1, _, h3⟩ => by
    obtain ⟨g1, g2⟩ := grow_nodup h3
    refine ⟨List.nodup_cons.2 ⟨fun hx => g2 x hx (by simp), g1⟩, fun y hy => ?_⟩
    rcases List.mem_cons.1 hy with rfl | hy
    · exact h1
    · exact fun hs => g2 y hy (by simp [hs])
theorem near_nodup (ps : List Int) (a n : Nat) : (nearTo ps a n).Nodup := by
  unfold nearTo
  have h1 : ((List.range n).filter fun u => isNear ps u a).Nodup := List.nodup_range.filter _
  rw [List.nodup_iff_pairwise_ne] at h1 ⊢
  rw [List.pairwise_map]
  exact h1.imp fun hne e => hne (by omega)
section
variable {ps : List Int} (h : TrP ps) {r : Nat} (hr : r < ps.length)
include h hr
theorem TrP.wy_step {x u : Nat} (hx : x < ps.length) (hu : u ∈ wy ps x r) (hne : u ≠ r) : nxt ps u r ∈ wy ps x r := by
  obtain ⟨j, hj, rfl⟩ := List.mem_iff_getElem.1 hu
  have h1 := h.wy_at hr j x hx hj
  have h2 := h.wy_len hx hr
  have h3 : j + 1 < (wy ps x r).length := by
    rcases Nat.lt_or_ge (j + 1) (wy ps x r).length with h3 | h3
    · exact h3
    · exact absurd (h.dst_zero h1.2.2 hr (by omega)) hne
  rw [(h.wy_next hx hr h3).1]
  exact List.getElem_mem h3
theorem TrP.wy_same {x u v : Nat} (hx : x < ps.length) (hu : u ∈ wy ps x r) (hv : v ∈ wy ps x r) (he : dst ps u r = dst ps v r) : u = v := by
  obtain ⟨i, hi, rfl⟩ := List.mem_iff_getElem.1 hu
  obtain ⟨j, hj, rfl⟩ := List.mem_iff_getElem.1 hv
  have h1 := h.wy_at hr i x hx hi
  have h2 := h.wy_at hr j x hx hj
  have e : i = j := by omega
  subst e
  rfl
theorem TrP.wy_here {x : Nat} (hx : x < ps.length) : x ∈ wy ps x r := by
  have := h.wy_head hx hr (h.wy_pos hx hr)
  have hm := List.getElem_mem (h.wy_pos hx hr)
  rwa [this] at hm
/-- Where a walk goes on from a node: away from the one that it began at. -/
theorem TrP.wk_next {a : Nat} {b v : Int} (ha : a < ps.length) (hb : a = r ∧ b = -1 ∨ a ≠ r ∧ b = (nxt ps a r : Nat)) (hv : v ∈ nearTo ps a ps.length) (hvb : v ≠ b) : ∃ u : Nat, v = u ∧ u < ps.length ∧ isNear ps u a = true ∧ u ≠ r ∧ nxt ps u r = a ∧ dst ps u r = dst ps a r + 1 := by
  obtain ⟨u, rfl, hu, hn⟩ := near_at hv
  refine ⟨u, rfl, hu, hn, ?_⟩
  rcases h.near_dst ha hu hr (near_sym hn) with ⟨h1, h2⟩ | ⟨h1, h2⟩
  · exfalso
    rcases hb with ⟨e, _⟩ | ⟨_, e⟩
    · rw [e, h.dst_self hr] at h1; omega
    · exact hvb (by rw [e, h2])
  · exact ⟨fun e => by rw [e, h.dst_self hr] at h1; omega, h2, h1⟩
theorem TrP.wk_mem : ∀ (k a : Nat) (b d : Int), a < ps.length → (a = r ∧ b = -1 ∨ a ≠ r ∧ b = (nxt ps a r : Nat)) → d = dst ps a r → ∀ p ∈ wk ps k a b d, ∃ x : Nat, p = ((x : Int), (dst ps x r : Int)) ∧ x < ps.length ∧ a ∈ wy ps x r
  | 0, _, _, _, _, _, _, p, hp => by simp [wk] at hp
  | k + 1, a, b, d, ha, hb, hd, p, hp => by
    rw [wk] at hp
    rcases List.mem_cons.1 hp with rfl | hp
    · exact ⟨a, by rw [hd], ha, h.wy_here hr ha⟩
    · simp only [List.mem_flatMap, List.mem_filter, bne_iff_ne] at hp
      obtain ⟨v, ⟨h1, h2⟩, h3⟩ := hp
      obtain ⟨u, rfl, hu, _, hur, hn, hdu⟩ := h.wk_next hr ha hb h1 h2
      rw [Int.toNat_natCast] at h3
      obtain ⟨x, e, hx, hm⟩ := TrP.wk_mem k u a (d + 1) hu (.inr ⟨hur, by rw [hn]⟩) (by rw [hd, hdu]; omega) p h3
      exact ⟨x, e, hx, hn ▸ h.wy_step hr hx hm hur⟩
/-- The nodes of a walk. -/
theorem TrP.wk_grow : ∀ (k a : Nat) (b d : Int) (S : List Nat), a < ps.length → (a = r ∧ b = -1 ∨ a ≠ r ∧ b = (nxt ps a r : Nat)) → d = dst ps a r → (∀ x, x < ps.length → a ∈ wy ps x r → x ∉ S) → (a = r ∨ nxt ps a r ∈ S) → Grow ps r S ((wk ps k a b d).map fun p => p.1.toNat)
  | 0, _, _, _, _, _, _, _, _, _ => by simp [wk, Grow]
  | k + 1, a, b, d, S, ha, hb, hd, hS, hin => by
    rw [wk, List.map_cons]
    simp only [Int.toNat_natCast]
    refine ⟨hS a ha (h.wy_here hr ha), hin, ?_⟩
    have key : ∀ (vs : List Int), vs.Nodup → (∀ v ∈ vs, v ∈ nearTo ps a ps.length ∧ v ≠ b) → ∀ T : List Nat, a ∈ T → (∀ v ∈ vs, ∀ x, x < ps.length → v.toNat ∈ wy ps x r → x ∉ T) → Grow ps r T ((vs.flatMap fun v => wk ps k v.toNat a (d + 1)).map fun p => p.1.toNat) := by
      intro vs
      induction vs with
      | nil => intro _ _ _ _ _; trivial
      | cons v vs ih =>
        intro hnd hv T haT hT
        obtain ⟨h1, h2⟩ := hv v (by simp)
        obtain ⟨u, rfl, hu, _, hur, hn, hdu⟩ := h.wk_next hr ha hb h1 h2
        rw [List.flatMap_cons, List.map_append]
        have hT1 := hT u (by simp)
        rw [Int.toNat_natCast] at hT1 ⊢
        have hd1 : d + 1 = (dst ps u r : Nat) := by rw [hd, hdu]; omega
        refine grow_append (TrP.wk_grow k u a (d + 1) T hu (.inr ⟨hur, by rw [hn]⟩) hd1 hT1 (.inr (hn ▸ haT))) ?_
        refine ih (List.nodup_cons.1 hnd).2 (fun w hw => hv w (by simp [hw])) _ (by simp [haT]) fun w hw x hx hm => ?_
        rw [List.mem_append]
        rintro (hx1 | hx1)
        · exact hT w (by simp [hw]) x hx hm hx1
        · simp only [List.mem_map] at hx1
          obtain ⟨p, hp, e⟩ := hx1
          obtain ⟨y, rfl, hy, hmy⟩ := h.wk_mem hr k u a (d + 1) hu (.inr ⟨hur, by rw [hn]⟩) hd1 p hp
          simp only [Int.toNat_natCast] at e
          subst e
          obtain ⟨g1, g2⟩ := hv w (by simp [hw])
          obtain ⟨u', rfl, _, _, _, _, hdu'⟩ := h.wk_next hr ha hb g1 g2
          rw [Int.toNat_natCast] at hm
          have := h.wy_same hr hy hmy hm (by rw [hdu, hdu'])
          subst this
          exact (List.nodup_cons.1 hnd).1 hw
    refine key _ ((near_nodup ps a ps.length).filter _) (fun v hv => by simpa using hv) _ (by simp) fun v hv x hx hm => ?_
    simp only [List.mem_filter, bne_iff_ne] at hv
    obtain ⟨u, rfl, hu, _, hur, hn, hdu⟩ := h.wk_next hr ha hb hv.1 hv.2
    rw [Int.toNat_natCast] at hm
    rw [List.mem_append]
    rintro (hx1 | hx1)
    · exact hS x hx (hn ▸ h.wy_step hr hx hm hur) hx1
    · simp only [List.mem_singleton] at hx1
      subst hx1
      have := (h.mem_iff hx hr hu).1 hm
      omega
theorem TrP.wk_closed : ∀ (k a : Nat) (b d : Int), a < ps.length → Go.Proofs.Ytobojnfhhobnkaa.wok ps k a b → (a = r ∧ b = -1 ∨ a ≠ r ∧ b = (nxt ps a r : Nat)) → ∀ u ∈ (wk ps k a b d).map (fun p => p.1.toNat), ∀ v, v < ps.length → v ≠ r → nxt ps v r = u → v ∈ (wk ps k a b d).map (fun p => p.1.toNat)
  | 0, _, _, _, _, hk, _, _, _, _, _, _, _ => hk.elim
  | k + 1, a, b, d, ha, hk, hb, u, hu, v, hv, hvr, hn => by
    rw [wk, List.map_cons] at hu ⊢
    simp only [Int.toNat_natCast] at hu ⊢
    rw [List.mem_cons] at hu ⊢
    right
    obtain ⟨k1, k2, _⟩ := h.nxt_ok hv hr hvr
    rw [hn] at k1 k2
    have hdv := h.dst_nxt hv hr hvr
    rw [hn] at hdv
    simp only [List.map_flatMap, List.mem_flatMap, List.mem_filter, bne_iff_ne] at hu ⊢
    rcases hu with rfl | ⟨w, ⟨w1, w2⟩, w3⟩
    · have hin : (v : Int) ∈ nearTo ps u ps.length := by
        unfold nearTo
        simp only [List.mem_map, List.mem_filter, List.mem_range]
        exact ⟨v, ⟨hv, k2⟩, rfl⟩
      have hvb : (v : Int) ≠ b := by
        rcases hb with ⟨_, e⟩ | ⟨e1, e⟩
        · omega
        · intro e2
          have e3 : v = nxt ps u r := by omega
          have := h.dst_nxt ha hr e1
          rw [← e3] at this
          omega
      refine ⟨v, ⟨hin, hvb⟩, ?_⟩
      have := hk v hin hvb
      rw [Int.toNat_natCast] at this ⊢
      cases k with
      | zero => exact this.elim
      | succ k => simp [wk]
    · refine ⟨w, ⟨w1, w2⟩, ?_⟩
      have hk2 := hk w w1 w2
      obtain ⟨x, rfl, hx, _, hxr, hnx, _⟩ := h.wk_next hr ha hb w1 w2
      rw [Int.toNat_natCast] at w3 hk2 ⊢
      exact TrP.wk_closed k x a (d + 1) hx hk2 (.inr ⟨hxr, by rw [hnx]⟩) u w3 v hv hvr hn
theorem TrP.wk_all : ∀ (n x : Nat), x < ps.length → dst ps x r = n → x ∈ (wk ps ps.length r (-1) 0).map (fun p => p.1.toNat)
  | 0, x, hx, hn => by
    have e := h.dst_zero hx hr hn
    subst e
    obtain ⟨n, hn⟩ : ∃ n, ps.length = n + 1 := ⟨ps.length - 1, by omega⟩
    rw [hn, wk]
    simp
  | n + 1, x, hx, hn => by
    have hne : x ≠ r := fun e => by subst e; rw [h.dst_self hx] at hn; omega
    obtain ⟨k1, _, _⟩ := h.nxt_ok hx hr hne
    have hd := h.dst_nxt hx hr hne
    exact h.wk_closed hr ps.length r (-1) 0 hr (h.wok hr ps.length r (-1) hr (by omega) (.inl ⟨rfl, rfl⟩)) (.inl ⟨rfl, rfl⟩) _ (TrP.wk_all n (nxt ps x r) k1 (by omega)) x hx hne rfl
def farIt (ps : List Int) (r : Nat) (x : Nat) : List Sv := [I x, I (dst ps x r)]
theorem TrP.walk_facts : ∃ xs : List Nat, (walkL ps r).map wkIt = xs.map (farIt ps r) ∧ xs.length = ps.length ∧ ∀ j (hj : j < xs.length), xs[j] < ps.length ∧ xs[j] ∉ xs.take j ∧ (xs[j] = r ∨ nxt ps xs[j] r ∈ xs.take j) := by
  have hrb : hasB ps (r : Int) = true := hasB_iff.2 (by omega)
  have hmem := h.wk_mem hr ps.length r (-1) 0 hr (.inl ⟨rfl, rfl⟩) (by rw [h.dst_self hr]; rfl)
  have hgr := h.wk_grow hr ps.length r (-1) 0 [] hr (.inl ⟨rfl, rfl⟩) (by rw [h.dst_self hr]; rfl) (fun _ _ _ => by simp) (.inl rfl)
  have hall := h.wk_all hr
  rw [walkL, if_pos hrb, Int.toNat_natCast]
  generalize wk ps ps.length r (-1) 0 = W at *
  refine ⟨W.map fun p => p.1.toNat, ?_, ?_, fun j hj => ?_⟩
  · rw [List.map_map]
    refine List.map_congr_left fun p hp => ?_
    obtain ⟨x, rfl, _, _⟩ := hmem p hp
    rfl
  · obtain ⟨g1, _⟩ := grow_nodup hgr
    have h1 := nodup_le ps.length _ g1 (fun x hx => by
      obtain ⟨p, hp, rfl⟩ := List.mem_map.1 hx
      obtain ⟨x, rfl, hx, _⟩ := hmem p hp
      simpa using hx)
    have h2 := len_sub (List.range ps.length) _ List.nodup_range (fun x hx => hall _ x (List.mem_range.1 hx) rfl)
    rw [List.length_range] at h2
    omega
  · have := grow_at hgr j hj
    simp only [List.nil_append] at this
    refine ⟨?_, this⟩
    obtain ⟨p, hp, e⟩ := List.mem_map.1 (List.getElem_mem hj)
    obtain ⟨x, rfl, hx, _⟩ := hmem p hp
    rw [← e]
    simpa using hx
end
/-- How far is known behind the nodes xs. -/
def farL (ps : List Int) (r : Nat) (xs : List Nat) : List Int := (List.range ps.length).map fun x => if x ∈ xs then (dst ps x r : Int) else -1
theorem farL_len (ps : List Int) (r : Nat) (xs : List Nat) : (farL ps r xs).length = ps.length := by simp [farL]
theorem farL_get (ps : List Int) (r : Nat) (xs : List Nat) {x : Nat} (hx : x < ps.length) : (farL ps r xs).getD x 0 = if x ∈ xs then (dst ps x r : Int) else -1 := by simp [farL, hx]
theorem farL_set (ps : List Int) (r : Nat) (xs : List Nat) (x : Nat) : (farL ps r xs).set x (dst ps x r) = farL ps r (xs ++ [x]) := by
  refine List.ext_getElem (by simp [farL]) fun i h1 h2 => ?_
  rw [List.getElem_set]
  simp only [farL, List.getElem_map, List.getElem_range, List.mem_append, List.mem_singleton]
  by_cases e : x = i
  · subst e; simp
  · rw [if_neg e]
    have : ¬ i = x := fun e2 => e e2.symm
    simp [this]
theorem farL_nil (ps : List Int) (r : Nat) : farL ps r [] = List.replicate ps.length (-1) := by
  refine List.ext_getElem (by simp [farL]) fun i h1 h2 => ?_
  simp [farL]
end Go.Proofs.Ytobojnfhhobnkaa
