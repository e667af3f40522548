/- arrow: Step, Toward, Legal, Sinks, Quiet. -/
import Derived.Test.YtonmkggglkicnaaArr1
import Derived.Test.YtonmkggglkicnaaWk
set_option linter.unusedSimpArgs false
set_option maxRecDepth 20000
set_option linter.unusedVariables false
namespace Go.Proofs.Ytonmkggglkicnaa
open Go Go.Eng Go.RowKit

theorem step_pcon (me a fr : Int) : PCon Try.prog 11 [I me, I a, I fr] (.tup [I fr, I (if a = me then -1 else a)]) [] := by
  refine pcon_of (G := gm) Try.func11 rfl rfl rfl ?_
  by_cases h : a = me
  · rw [if_pos h]
    refine W.go ?_
    exact RetP.ii rfl rfl
  · rw [if_neg h]
    refine W.go ?_
    exact RetP.ii rfl rfl
theorem indexS_ge (xs : List Int) (x : Int) : decide (indexS xs x ≥ 0) = xs.contains x := by
  unfold indexS
  cases h : xs.findIdx? (· == x) with
  | none =>
    rw [List.findIdx?_eq_none_iff] at h
    have : xs.contains x = false := by
      rw [Bool.eq_false_iff]
      intro hc
      have := h x (by simpa using hc)
      simp at this
    rw [this]; rfl
  | some i =>
    have := List.findIdx?_eq_some_iff_getElem.1 h
    obtain ⟨hi, he, _⟩ := this
    have hc : xs.contains x = true := by
      rw [List.contains_iff_mem]
      have := List.getElem_mem hi
      rwa [eq_of_beq he] at this
    rw [hc]
    simp
theorem contains_pcon (f : Bool) (xs : List Int) (x : Int) (h : xs.length < 9223372036854775808) : PCon Try.prog 33 [intX f xs, I x] (Bo (xs.contains x)) [] := by
  refine pcon_of (G := gm) Try.func33 rfl rfl rfl ?_
  refine W.c1 (index_pcon f xs x h) ?_
  exact RetP.v (congrArg Value.bool (indexS_ge xs x))
/-- An own list, as content for good. -/
theorem RetP.ownX {hp : Hp} {k n : Nat} {gr : Bool} (xs : List Int) (h : hpGet hp k = some ⟨3, 1, true, gr, intR xs⟩) (hn : n = xs.length) : RetP hp (.own k n) (intX true xs) [] := by
  subst hn
  exact RetP.go [] [] (by simp) rfl ⟨rfl, _, hpGet_app h _, .inl ⟨by simp, rfl, .inl ⟨rfl, rfl⟩⟩⟩ ⟨rfl, int_fr xs⟩ trivial
theorem RetP.nilX {hp : Hp} : RetP hp (.val (.slice none 0 0)) (intX true []) [] := RetP.go [] [] (by simp) rfl rfl ⟨rfl, int_fr []⟩ trivial
/-- Toward, of the first i nodes. -/
def towI (ps : List Int) (home : Int) (i : Nat) : List Int := if hasB ps home = true then (List.range i).map fun (v : Nat) => nextS ps v home else []
theorem towI_len (ps : List Int) (home : Int) (i : Nat) : (towI ps home i).length ≤ i := by
  unfold towI; split <;> simp
theorem towI_zero (ps : List Int) (home : Int) : towI ps home 0 = [] := by simp [towI]
theorem towI_yes {ps : List Int} {home : Int} (h : hasB ps home = true) (i : Nat) : towI ps home (i + 1) = towI ps home i ++ [nextS ps i home] := by
  unfold towI
  rw [if_pos h, if_pos h, List.range_succ, List.map_append]; rfl
theorem towI_no {ps : List Int} {home : Int} (h : hasB ps home = false) (i : Nat) : towI ps home i = [] := by
  unfold towI; rw [h, if_neg (by simp)]
theorem towI_tw {ps : List Int} {s : Nat} (hs : s < ps.length) : towI ps s ps.length = tw ps s := by
  unfold towI
  rw [if_pos (hasB_iff.2 (by omega))]; rfl
theorem nextS_no {ps : List Int} {s t : Int} (h : hasB ps t = false) : nextS ps s t = -1 := by
  unfold nextS; rw [if_pos (.inr h)]
theorem TrP.nextS_yes {ps : List Int} (h : TrP ps) {s : Nat} (hs : s < ps.length) {t : Int} (ht : hasB ps t = true) : 0 ≤ nextS ps s t := by
  have ht := hasB_iff.1 ht
  obtain ⟨t, rfl⟩ : ∃ k : Nat, t = k := ⟨t.toNat, by omega⟩
  by_cases e : s = t
  · rw [e, nextS_self (by omega)]; omega
  · rw [(h.nxt_ok hs (by omega) e).2.2]; omega
set_option maxHeartbeats 1000000 in
theorem toward_pcon (f : Bool) (ps : List Int) (L : List (List Int)) (home : Int) (h : Tr1 ps) : PCon Try.prog 18 [treeX f ps L, I home] (.own 0 (towI ps home ps.length).length) [intB (towI ps home ps.length)] := by
  refine pcon_of (G := gm) Try.func18 rfl rfl rfl ?_
  have hle := h.le
  have cs := size_pcon f ps L
  have cn := fun s => next_pcon f ps L s home h
  refine W.c1 cs ?_
  refine LoopV.on (σ := Nat) rfl (fun i => [(0, treeX f ps L), (1, I home), (5, .own 0 (towI ps home i).length), (9, I ps.length), (10, I i)]) (fun i => [some (intB (towI ps home i))]) (fun i => i ≤ ps.length) (fun i => ps.length - i) 0 (by rw [towI_zero]; exact AtS.v [(3, 1)] [0]) (Nat.zero_le _) ?_
  intro i hi
  have hl := towI_len ps home i
  rcases Nat.lt_or_ge i ps.length with him | him
  · have c1 := cn i
    cases hb : hasB ps home with
    | true =>
      have hp := h.p.nextS_yes him hb
      have hs := towI_yes hb i
      generalize towI ps home i = T at *
      generalize nextS ps i home = x at *
      refine W.c1 c1 ?_
      refine nx (i + 1) (by omega) (by omega) ?_
      rw [hs, List.length_append]
      exact AtS.v [] [2]
    | false =>
      have hs := towI_no hb
      rw [nextS_no hb] at c1
      simp only [hs]
      refine W.c1 c1 ?_
      exact nx (i + 1) (by omega) (by omega) (AtS.v [] [0])
  · have e : i = ps.length := by omega
    subst e
    refine W.go ?_
    exact RetP.own rfl (int_fr _)
theorem towardN_pcon (home : Int) : PCon Try.prog 18 [treeN, I home] (.own 0 0) [intB []] := by
  refine pcon_of (G := gm) Try.func18 rfl rfl rfl ?_
  refine W.c1 sizeN_pcon ?_
  refine LoopV.on (σ := Nat) rfl (fun i => [(5, .val (.slice none 0 0)), (9, I 0), (10, I 0)]) (fun i => []) (fun i => True) (fun i => 0) 0 (AtS.v [] []) trivial ?_
  intro i _
  refine W.go ?_
  exact RetP.nil
set_option maxHeartbeats 1000000 in
theorem towardX_pcon (f : Bool) (ps : List Int) (L : List (List Int)) (home : Int) (h : Tr1 ps) : PCon Try.prog 18 [treeX f ps L, I home] (intX true (towI ps home ps.length)) [] := by
  refine pcon_of (G := gm) Try.func18 rfl rfl rfl ?_
  have hle := h.le
  have cs := size_pcon f ps L
  have cn := fun s => next_pcon f ps L s home h
  refine W.c1 cs ?_
  refine LoopV.on (σ := Nat) rfl (fun i => [(0, treeX f ps L), (1, I home), (5, .own 0 (towI ps home i).length), (9, I ps.length), (10, I i)]) (fun i => [some (intB (towI ps home i))]) (fun i => i ≤ ps.length) (fun i => ps.length - i) 0 (by rw [towI_zero]; exact AtS.v [(3, 1)] [0]) (Nat.zero_le _) ?_
  intro i hi
  have hl := towI_len ps home i
  rcases Nat.lt_or_ge i ps.length with him | him
  · have c1 := cn i
    cases hb : hasB ps home with
    | true =>
      have hp := h.p.nextS_yes him hb
      have hs := towI_yes hb i
      generalize towI ps home i = T at *
      generalize nextS ps i home = x at *
      refine W.c1 c1 ?_
      refine nx (i + 1) (by omega) (by omega) ?_
      rw [hs, List.length_append]
      exact AtS.v [] [2]
    | false =>
      have hs := towI_no hb
      rw [nextS_no hb] at c1
      simp only [hs]
      refine W.c1 c1 ?_
      exact nx (i + 1) (by omega) (by omega) (AtS.v [] [0])
  · have e : i = ps.length := by omega
    subst e
    refine W.go ?_
    exact RetP.ownX _ rfl rfl
theorem towardNX_pcon (home : Int) : PCon Try.prog 18 [treeN, I home] (intX true []) [] := by
  refine pcon_of (G := gm) Try.func18 rfl rfl rfl ?_
  refine W.c1 sizeN_pcon ?_
  refine LoopV.on (σ := Nat) rfl (fun i => [(5, .val (.slice none 0 0)), (9, I 0), (10, I 0)]) (fun i => []) (fun i => True) (fun i => 0) 0 (AtS.v [] []) trivial ?_
  intro i _
  refine W.go ?_
  exact RetP.nilX
theorem legalN_pcon (f : Bool) (aw : List Int) : PCon Try.prog 19 [treeN, intX f aw] (Bo false) [] := by
  refine pcon_of (G := gm) Try.func19 rfl rfl rfl ?_
  refine W.c1 sizeN_pcon ?_
  exact RetP.v rfl
theorem legB_no {ps aw : List Int} {v : Nat} (hv : v < ps.length) (h : legAt ps aw v = false) : legB ps aw = false := by
  unfold legB
  rw [Bool.and_eq_false_iff]
  right
  rw [List.all_eq_false]
  exact ⟨v, by simpa using hv, by simp [h]⟩
theorem legB_yes {ps aw : List Int} (hl : aw.length = ps.length) (h : ∀ v, v < ps.length → legAt ps aw v = true) : legB ps aw = true := by
  unfold legB
  simp only [Bool.and_eq_true, decide_eq_true_eq, List.all_eq_true, List.mem_range]
  exact ⟨hl, h⟩
set_option maxHeartbeats 1000000 in
theorem legal_pcon (f g : Bool) (ps aw : List Int) (h : Tr1 ps) (ha : aw.length < 9223372036854775808) : PCon Try.prog 19 [treeX true ps (nearOf ps), intX g aw] (Bo (legB ps aw)) [] := by
  refine pcon_of (G := gm) Try.func19 rfl rfl rfl ?_
  have hle := h.le
  have hpos := h.pos
  have cs := size_pcon true ps (nearOf ps)
  by_cases hl : aw.length = ps.length
  case neg =>
    have e : legB ps aw = false := by unfold legB; simp [hl]
    rw [e]
    refine W.c1 cs ?_
    exact RetP.v rfl
  have cn := fun v => neighAll_pcon ps v h
  refine W.c1 cs ?_
  refine LoopV.on (σ := Nat) rfl (fun i => [(0, treeX true ps (nearOf ps)), (1, intX g aw), (17, intX g aw), (18, I aw.length), (19, I i)]) (fun i => []) (fun i => i ≤ ps.length ∧ ∀ v, v < i → legAt ps aw v = true) (fun i => ps.length - i) 0 (AtS.v [] []) ⟨Nat.zero_le _, by simp⟩ ?_
  rintro i ⟨hi, hok⟩
  rcases Nat.lt_or_ge i ps.length with him | him
  · have hg := int_get aw i (Int.toNat_natCast i) (by omega)
    have c1 := cn i
    rw [show nbr ps (i : Int) = nearTo ps i ps.length by rw [nbr, if_pos (hasB_iff.2 (by omega)), Int.toNat_natCast]] at c1
    have c2 := contains_pcon false (nearTo ps i ps.length) (aw.getD i 0) (by have := nearTo_le ps i ps.length; omega)
    have hno := fun e => legB_no (ps := ps) (aw := aw) him e
    have hok' : legAt ps aw i = true → ∀ v, v < i + 1 → legAt ps aw v = true := fun e v hv => by
      rcases Nat.lt_or_ge v i with h1 | h1
      · exact hok v h1
      · rw [show v = i by omega]; exact e
    by_cases hav : aw.getD i 0 = (i : Int)
    · have hok' := hok' (legAt_iff.2 (.inl hav))
      clear hok hno
      generalize aw.getD i 0 = x at *
      refine W.d1 hg ?_
      exact nx (i + 1) (by omega) ⟨by omega, hok'⟩ (AtS.v [] [])
    · cases hc : (nearTo ps i ps.length).contains (aw.getD i 0) with
      | true =>
        have hok' := hok' (by unfold legAt; rw [hc]; simp)
        rw [hc] at c2
        clear hok hno hc
        generalize aw.getD i 0 = x at *
        refine W.d3 hg c1 c2 ?_
        exact nx (i + 1) (by omega) ⟨by omega, hok'⟩ (AtS.v [] [])
      | false =>
        have hno := hno (by unfold legAt; rw [hc]; simpa using hav)
        rw [hc] at c2
        rw [hno]
        clear hok hok' hno hc
        generalize aw.getD i 0 = x at *
        refine W.d3 hg c1 c2 ?_
        exact RetP.v rfl
  · have e : i = ps.length := by omega
    subst e
    rw [legB_yes hl hok]
    clear hok
    refine W.go ?_
    exact RetP.v rfl
set_option maxHeartbeats 1000000 in
theorem sinks_pcon (f : Bool) (aw : List Int) (ha : aw.length * 8 ≤ 140737488351232) : PCon Try.prog 21 [intX f aw] (.own 0 (snk aw aw.length).length) [intB (snk aw aw.length)] := by
  refine pcon_of (G := gm) Try.func21 rfl rfl rfl ?_
  refine W.go ?_
  refine LoopV.on (σ := Nat) rfl (fun i => [(3, .own 0 (snk aw i).length), (6, intX f aw), (7, I aw.length), (8, I i)]) (fun i => [some (intB (snk aw i))]) (fun i => i ≤ aw.length) (fun i => aw.length - i) 0 (AtS.v [(3, 1)] [0]) (Nat.zero_le _) ?_
  intro i hi
  have hl := snk_le aw i
  rcases Nat.lt_or_ge i aw.length with him | him
  · have hg := int_get aw i (Int.toNat_natCast i) him
    have hs := snk_succ aw i
    by_cases hx : aw.getD i 0 = (i : Int)
    · rw [if_pos hx] at hs
      generalize snk aw i = T at *
      generalize aw.getD i 0 = x at *
      refine W.c1 hg ?_
      refine nx (i + 1) (by omega) (by omega) ?_
      rw [hs, List.length_append]
      exact AtS.v [] [2]
    · rw [if_neg hx] at hs
      generalize aw.getD i 0 = x at *
      refine W.c1 hg ?_
      refine nx (i + 1) (by omega) (by omega) ?_
      rw [hs]
      exact AtS.v [] [0]
  · have e : i = aw.length := by omega
    subst e
    refine W.go ?_
    exact RetP.own rfl (int_fr _)
end Go.Proofs.Ytonmkggglkicnaa
