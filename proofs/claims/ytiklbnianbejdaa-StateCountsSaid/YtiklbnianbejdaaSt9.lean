/- The reference's Same; copies (printed by gen_st9.py). -/
import Derived.Test.YtiklbnianbejdaaSt8
set_option linter.unusedSimpArgs false
set_option maxRecDepth 20000
set_option linter.unusedVariables false
namespace Go.Proofs.Ytiklbnianbejdaa
open Go Go.Eng Go.RowKit

theorem same_more {α : Type} {xs ys : List α} {i : Nat} (h1 : i < xs.length) (h2 : i < ys.length) (h : ∀ j (h1 : j < xs.length) (h2 : j < ys.length), j < i → xs[j] = ys[j]) (he : xs[i] = ys[i]) : ∀ j (h1 : j < xs.length) (h2 : j < ys.length), j < i + 1 → xs[j] = ys[j] := fun j a b hj => by
  rcases Nat.lt_or_ge j i with h3 | h3
  · exact h j a b h3
  · have : j = i := by omega
    subst this; exact he
theorem cells_eq (a b : List Ch.Cell) : (a == b) = eqL cellEq default a b := by
  rw [Bool.eq_iff_iff, beq_iff_eq, eqL_iff cellEq_iff]
theorem edge_eq (a b : Hf.Edge) : a.same b = edEq a b := by
  rw [Bool.eq_iff_iff, edEq_iff]
  unfold Hf.Edge.same
  simp only [Bool.and_eq_true, beq_iff_eq]
  constructor
  · rintro ⟨⟨⟨h1, h2⟩, h3⟩, h4⟩
    cases a; cases b; simp_all
  · rintro rfl
    exact ⟨⟨⟨rfl, rfl⟩, rfl⟩, rfl⟩
theorem staEq_no {a b : Sta} (h : a ≠ b) : staEq a b = false := by
  rw [Bool.eq_false_iff]
  exact fun e => h ((staEq_iff a b).1 e)
set_option maxHeartbeats 4000000 in
theorem refssame_pcon (f g : Bool) (a b : Sta) (ha : a.sz) : PCon Try.prog 14 [.agg (a.row f), .agg (b.row g)] (Bo (staEq a b)) [] := by
  refine pcon_of (G := gm) Try.func14 rfl rfl rfl ?_
  obtain ⟨me, objs, edges, asked, asks, got⟩ := a
  obtain ⟨me', objs', edges', asked', asks', got'⟩ := b
  obtain ⟨h1, h2, h3, h4, h5, h6⟩ := ha
  dsimp only at h1 h2 h3 h4 h5 h6
  by_cases hfr : me = me' ∧ asked = asked' ∧ objs.length = objs'.length ∧ edges.length = edges'.length ∧ asks.length = asks'.length ∧ got.length = got'.length
  case neg =>
    rw [staEq_no (fun e => hfr (by cases e; exact ⟨rfl, rfl, rfl, rfl, rfl, rfl⟩))]
    clear h2 h4
    refine W.go ?_
    exact RetP.v rfl
  obtain ⟨rfl, rfl, l1, l2, l3, l4⟩ := hfr
  have hfin : objs = objs' → edges = edges' → asks = asks' → got = got' → staEq ⟨me, objs, edges, asked, asks, got⟩ ⟨me, objs', edges', asked, asks', got'⟩ = true := fun a b c d => (staEq_iff _ _).2 (by rw [a, b, c, d])
  have n1 : objs ≠ objs' → staEq ⟨me, objs, edges, asked, asks, got⟩ ⟨me, objs', edges', asked, asks', got'⟩ = false := fun h => staEq_no fun e => h (by injection e)
  have n2 : edges ≠ edges' → staEq ⟨me, objs, edges, asked, asks, got⟩ ⟨me, objs', edges', asked, asks', got'⟩ = false := fun h => staEq_no fun e => h (by injection e)
  have n3 : asks ≠ asks' → staEq ⟨me, objs, edges, asked, asks, got⟩ ⟨me, objs', edges', asked, asks', got'⟩ = false := fun h => staEq_no fun e => h (by injection e)
  have n4 : got ≠ got' → staEq ⟨me, objs, edges, asked, asks, got⟩ ⟨me, objs', edges', asked, asks', got'⟩ = false := fun h => staEq_no fun e => h (by injection e)
  generalize staEq ⟨me, objs, edges, asked, asks, got⟩ ⟨me, objs', edges', asked, asks', got'⟩ = R at *
  refine W.go ?_
  refine LoopV.on (σ := Nat) rfl (fun i => [(2, .ptr 0 0 0), (3, .ptr 1 0 0), (59, I objs.length), (60, I i)]) (fun _ => [some ⟨30, 6, false, false, [Sta.row f ⟨me, objs, edges, asked, asks, got⟩]⟩, some ⟨30, 6, false, false, [Sta.row g ⟨me, objs', edges', asked, asks', got'⟩]⟩]) (fun i => i ≤ objs.length ∧ ∀ j (h1 : j < objs.length) (h2 : j < objs'.length), j < i → objs[j] = objs'[j]) (fun i => objs.length - i) 0 (AtS.v [] [0, 1]) ⟨Nat.zero_le _, by simp⟩ ?_
  rintro i ⟨hi, hok⟩
  rcases Nat.lt_or_ge i objs.length with him | him
  · have him' : i < objs'.length := by omega
    have g1 := rows_get (Ow.row f) objs (Int.toNat_natCast i) him
    have g2 := rows_get (Ow.row g) objs' (Int.toNat_natCast i) him'
    have hmore := same_more him him' hok
    have hno : objs[i] ≠ objs'[i] → R = false := fun h => n1 (fun e => h (by subst e; rfl))
    have hc := Ch.refsame_pcon objs[i].cells objs'[i].cells f g (by have := h2 _ (List.getElem_mem him); omega)
    rw [cells_eq] at hc
    clear hok hfin
    generalize objs[i] = x at *
    generalize objs'[i] = y at *
    refine W.c2 g1 g2 ?_
    obtain ⟨xa, xm, xc⟩ := x
    obtain ⟨ya, ym, yc⟩ := y
    dsimp only at hc hmore hno ⊢
    replace hmore := fun (h : (xa == ya && xm == ym && eqL cellEq default xc yc) = true) => hmore ((owEq_iff ⟨xa, xm, xc⟩ ⟨ya, ym, yc⟩).1 h)
    replace hno := fun (h : (xa == ya && xm == ym && eqL cellEq default xc yc) = false) => hno (fun e => by
      have h3 : (xa == ya && xm == ym && eqL cellEq default xc yc) = true := (owEq_iff ⟨xa, xm, xc⟩ ⟨ya, ym, yc⟩).2 e
      rw [h] at h3; cases h3)
    generalize eqL cellEq default xc yc = b3 at *
    refine W.c1 hc ?_
    refine Br.mk (fun hb => ?_) (fun hb => ?_)
    · rw [hno (by revert hb; cases h : (xa == ya) <;> cases h2 : (xm == ym) <;> cases b3 <;> simp [bne, h, h2])]
      refine W.go ?_
      exact RetP.v rfl
    · replace hmore := hmore (by revert hb; cases h : (xa == ya) <;> cases h2 : (xm == ym) <;> cases b3 <;> simp [bne, h, h2])
      clear hno
      refine W.go ?_
      exact nx (i + 1) (by omega) ⟨by omega, hmore⟩ (AtS.v [] [0, 1])
  have eobjs : objs = objs' := List.ext_getElem l1 fun j a b => hok j a b (by omega)
  clear hok n1 h2
  refine W.go ?_
  refine LoopV.on (σ := Nat) rfl (fun i => [(2, .ptr 0 0 0), (3, .ptr 1 0 0), (110, I edges.length), (111, I i)]) (fun _ => [some ⟨30, 6, false, false, [Sta.row f ⟨me, objs, edges, asked, asks, got⟩]⟩, some ⟨30, 6, false, false, [Sta.row g ⟨me, objs', edges', asked, asks', got'⟩]⟩]) (fun i => i ≤ edges.length ∧ ∀ j (h1 : j < edges.length) (h2 : j < edges'.length), j < i → edges[j] = edges'[j]) (fun i => edges.length - i) 0 (AtS.v [] [0, 1]) ⟨Nat.zero_le _, by simp⟩ ?_
  rintro i ⟨hi, hok⟩
  rcases Nat.lt_or_ge i edges.length with him | him
  · have him' : i < edges'.length := by omega
    have g1 := rows_get (edRow f) edges (Int.toNat_natCast i) him
    have g2 := rows_get (edRow g) edges' (Int.toNat_natCast i) him'
    have hmore := same_more him him' hok
    have hno : edges[i] ≠ edges'[i] → R = false := fun h => n2 (fun e => h (by subst e; rfl))
    have hc := Hf.same_pcon edges[i] edges'[i] f g (by have := h4 _ (List.getElem_mem him); omega)
    rw [edge_eq] at hc
    clear hok hfin
    generalize edges[i] = x at *
    generalize edges'[i] = y at *
    cases hb : edEq x y with
    | true =>
      replace hmore := hmore ((edEq_iff x y).1 hb)
      rw [hb] at hc
      clear hno hb
      cases x
      cases y
      refine W.c3 g1 g2 hc ?_
      exact nx (i + 1) (by omega) ⟨by omega, hmore⟩ (AtS.v [] [0, 1])
    | false =>
      rw [hno (fun e => by rw [(edEq_iff x y).2 e] at hb; cases hb)]
      rw [hb] at hc
      clear hmore hno hb
      cases x
      cases y
      refine W.c3 g1 g2 hc ?_
      exact RetP.v rfl
  have eedges : edges = edges' := List.ext_getElem l2 fun j a b => hok j a b (by omega)
  clear hok n2 h4
  refine W.go ?_
  refine LoopV.on (σ := Nat) rfl (fun i => [(2, .ptr 0 0 0), (3, .ptr 1 0 0), (129, I asks.length), (130, I i)]) (fun _ => [some ⟨30, 6, false, false, [Sta.row f ⟨me, objs, edges, asked, asks, got⟩]⟩, some ⟨30, 6, false, false, [Sta.row g ⟨me, objs', edges', asked, asks', got'⟩]⟩]) (fun i => i ≤ asks.length ∧ ∀ j (h1 : j < asks.length) (h2 : j < asks'.length), j < i → asks[j] = asks'[j]) (fun i => asks.length - i) 0 (AtS.v [] [0, 1]) ⟨Nat.zero_le _, by simp⟩ ?_
  rintro i ⟨hi, hok⟩
  rcases Nat.lt_or_ge i asks.length with him | him
  · have him' : i < asks'.length := by omega
    have g1 := rows_get Asq.row asks (Int.toNat_natCast i) him
    have g2 := rows_get Asq.row asks' (Int.toNat_natCast i) him'
    have hmore := same_more him him' hok
    have hno : asks[i] ≠ asks'[i] → R = false := fun h => n3 (fun e => h (by subst e; rfl))
    clear hok hfin
    generalize asks[i] = x at *
    generalize asks'[i] = y at *
    refine W.c2 g1 g2 ?_
    refine Br.mk (fun hb => ?_) (fun hb => ?_)
    · replace hmore := hmore (by
        clear hno hmore g1 g2
        cases x
        cases y
        simp_all)
      clear hno
      refine W.go ?_
      exact nx (i + 1) (by omega) ⟨by omega, hmore⟩ (AtS.v [] [0, 1])
    · rw [hno (by
        rintro rfl
        simp at hb)]
      refine W.go ?_
      exact RetP.v rfl
  have easks : asks = asks' := List.ext_getElem l3 fun j a b => hok j a b (by omega)
  clear hok n3
  refine W.go ?_
  refine LoopV.on (σ := Nat) rfl (fun i => [(2, .ptr 0 0 0), (3, .ptr 1 0 0), (147, I got.length), (148, I i)]) (fun _ => [some ⟨30, 6, false, false, [Sta.row f ⟨me, objs, edges, asked, asks, got⟩]⟩, some ⟨30, 6, false, false, [Sta.row g ⟨me, objs', edges', asked, asks', got'⟩]⟩]) (fun i => i ≤ got.length ∧ ∀ j (h1 : j < got.length) (h2 : j < got'.length), j < i → got[j] = got'[j]) (fun i => got.length - i) 0 (AtS.v [] [0, 1]) ⟨Nat.zero_le _, by simp⟩ ?_
  rintro i ⟨hi, hok⟩
  rcases Nat.lt_or_ge i got.length with him | him
  · have him' : i < got'.length := by omega
    have g1 := rows_get Fnd.row got (Int.toNat_natCast i) him
    have g2 := rows_get Fnd.row got' (Int.toNat_natCast i) him'
    have hmore := same_more him him' hok
    have hno : got[i] ≠ got'[i] → R = false := fun h => n4 (fun e => h (by subst e; rfl))
    clear hok hfin
    generalize got[i] = x at *
    generalize got'[i] = y at *
    refine W.c2 g1 g2 ?_
    refine Br.mk (fun hb => ?_) (fun hb => ?_)
    · replace hmore := hmore (by
        clear hno hmore g1 g2
        cases x
        cases y
        simp_all)
      clear hno
      refine W.go ?_
      exact nx (i + 1) (by omega) ⟨by omega, hmore⟩ (AtS.v [] [0, 1])
    · rw [hno (by
        rintro rfl
        simp at hb)]
      refine W.go ?_
      exact RetP.v rfl
  have egot : got = got' := List.ext_getElem l4 fun j a b => hok j a b (by omega)
  clear hok n4
  refine W.go ?_
  rw [hfin eobjs eedges easks egot]
  exact RetP.v rfl
end Go.Proofs.Ytiklbnianbejdaa
