/- tree: the reference's Neighbours. -/
import Derived.Test.YtobojnfhhobnkaaTreeD
set_option linter.unusedSimpArgs false
set_option maxRecDepth 20000
set_option linter.unusedVariables false
namespace Go.Proofs.Ytobojnfhhobnkaa
open Go Go.Eng Go.RowKit

/-- A node's neighbours among the first i, rising. -/
def nearTo (ps : List Int) (v : Nat) (i : Nat) : List Int := ((List.range i).filter fun u => isNear ps u v).map fun (u : Nat) => (u : Int)
theorem nearTo_succ (ps : List Int) (v i : Nat) : nearTo ps v (i + 1) = if isNear ps i v = true then nearTo ps v i ++ [(i : Int)] else nearTo ps v i := by
  unfold nearTo
  rw [List.range_succ, List.filter_append, List.map_append]
  cases h : isNear ps i v <;> simp [h]
theorem nearTo_le (ps : List Int) (v i : Nat) : (nearTo ps v i).length ≤ i := by
  unfold nearTo
  have := List.length_filter_le (fun u => isNear ps u v) (List.range i)
  simp only [List.length_map, List.length_range] at *
  exact this
set_option maxHeartbeats 1000000 in
theorem refneigh_pcon (f : Bool) (ps : List Int) (v : Int) (h : ps.length * 8 ≤ 140737488351232) (h1 : hasB ps v = true) : PCon Try.prog 21 [intX f ps, I v] (.own 0 (nearTo ps v.toNat ps.length).length) [intB (nearTo ps v.toNat ps.length)] := by
  refine pcon_of (G := gm) Try.func21 rfl rfl rfl ?_
  have hv := hasB_iff.1 h1
  obtain ⟨w, rfl⟩ : ∃ w : Nat, v = w := ⟨v.toNat, by omega⟩
  rw [show ((w : Int)).toNat = w by omega]
  repeat' (conv => whnf
           first
           | (refine get_id ?_; first | refine Get.mk _ rfl ?_)
           | (refine need_id ?_; first | refine Need.a ?_)
           | (refine eqk_id ?_; first | refine EqK.a ?_)
           | (refine br_id ?_; first | refine Br.t ?_ | refine Br.f ?_ | (refine Br.pos ?_ ?_; focus (with_reducible assumption)) | (refine Br.neg ?_ ?_; focus (with_reducible assumption)) | (refine Br.dpos ?_ ?_; focus (first | with_reducible exact rfl | with_reducible exact Int.le_refl _ | with_reducible assumption)) | (refine Br.dneg ?_ ?_; focus (with_reducible assumption)) | (refine Br.d (fun _ => ?_) (fun _ => ?_) <;> (first | (exfalso; omega; done) | skip)) | refine Br.n ?_ | (refine Br.s (fun _ => ?_) (fun _ => ?_) <;> (first | (exfalso; omega; done) | skip)) | (refine Br.mk (fun _ => ?_) (fun _ => ?_) <;> (first | (exfalso; omega; done) | skip)))
           | (refine regv_id ?_; first | refine RegV.d ?_)
           | refine NilB.mk (fun b hb => ?_)
           | (refine alv_and ?_ ?_; focus (first | rfl | done))
           | refine DrawV.mk [] ?_
           | (refine appc_id ?_; first | refine AppC.growA ?_ | refine AppC.place ?_))
  all_goals (try (conv => whnf))
  refine LoopV.on (σ := Nat × List Int) rfl (fun s => [(0, intX f ps), (1, I w), (5, .own 0 s.2.length), (6, I s.1)]) (fun s => [some (intB s.2)]) (fun s => s.1 ≤ ps.length ∧ s.2 = nearTo ps w s.1) (fun s => ps.length - s.1) (0, []) ?_ ⟨Nat.zero_le _, rfl⟩ ?_
  · refine AtS.mk [(3, 1)] [0] rfl (by simp) rfl ?_ ?_
    · (repeat' (first | exact trivial | exact rfl | with_reducible assumption | (refine And.intro ?_ ?_) | (refine Exists.intro _ (And.intro rfl ?_)) | (refine Exists.intro _ (Exists.intro _ (And.intro rfl (And.intro rfl ?_)))) | (refine Or.inl ⟨rfl, rfl, ?_⟩) | (refine Or.inl ⟨rfl, ?_⟩; focus (fail_if_success (refine And.intro ?_ ?_))) | (refine Or.inl (?_ : (_ : Nat) = _ ∧ _); refine ⟨?_, ?_⟩; focus (first | (simp only [List.length_map]; done) | (simp only [List.length_map, List.length_append, List.length_cons, List.length_nil]; done))) | exact Or.inl rfl | (refine Or.inr (Or.inr ⟨?_, ?_⟩)) | (refine Or.inr ⟨?_, ?_⟩) | (refine fun h => ?_; first | exact h | exact rfl | (cases h; done)) | (refine om8 ?_; simp only [← List.map_drop, ← List.map_take]; exact rfl) | ((first | refine om1 ?_ | refine om2 ?_ | refine om3 ?_ | refine om4 ?_ | refine om5 ?_ | refine om6 ?_ | refine om7 ?_); first | (simp only [List.length_map]; done) | (simp only [List.length_map]; omega) | omega)))
    · (repeat' (first | exact trivial | exact rfl | with_reducible assumption | (refine And.intro ?_ ?_) | (refine Exists.intro _ (And.intro rfl ?_)) | (refine Exists.intro _ (Exists.intro _ (And.intro rfl (And.intro rfl ?_)))) | (refine Or.inl ⟨rfl, rfl, ?_⟩) | (refine Or.inl ⟨rfl, ?_⟩; focus (fail_if_success (refine And.intro ?_ ?_))) | (refine Or.inl (?_ : (_ : Nat) = _ ∧ _); refine ⟨?_, ?_⟩; focus (first | (simp only [List.length_map]; done) | (simp only [List.length_map, List.length_append, List.length_cons, List.length_nil]; done))) | exact Or.inl rfl | (refine Or.inr (Or.inr ⟨?_, ?_⟩)) | (refine Or.inr ⟨?_, ?_⟩) | (refine fun h => ?_; first | exact h | exact rfl | (cases h; done)) | (refine om8 ?_; simp only [← List.map_drop, ← List.map_take]; exact rfl) | ((first | refine om1 ?_ | refine om2 ?_ | refine om3 ?_ | refine om4 ?_ | refine om5 ?_ | refine om6 ?_ | refine om7 ?_); first | (simp only [List.length_map]; done) | (simp only [List.length_map]; omega) | omega)))
  rintro ⟨i, L⟩ ⟨hi, hL⟩
  simp only at hi hL
  have hn := fun hk => near_pcon f ps i w hk (by omega)
  have hs := nearTo_succ ps w i
  have hl := nearTo_le ps w i
  rw [← hL] at hs hl
  by_cases hk : i < ps.length
  · have hn := hn hk
    cases hb : isNear ps i w with
    | true =>
      rw [hb] at hn hs
      repeat' (conv => whnf
               first
               | (refine get_id ?_; first | refine Get.mk _ rfl ?_)
               | (refine need_id ?_; first | refine Need.a ?_ | refine Need.mk (by (exact ⟨rfl, rfl, rfl, by simp [intB], rfl, rfl⟩)) ?_)
               | (refine eqk_id ?_; first | refine EqK.a ?_)
               | (refine br_id ?_; first | refine Br.t ?_ | refine Br.f ?_ | (refine Br.pos ?_ ?_; focus (with_reducible assumption)) | (refine Br.neg ?_ ?_; focus (with_reducible assumption)) | (refine Br.dpos ?_ ?_; focus (first | with_reducible exact rfl | with_reducible exact Int.le_refl _ | with_reducible assumption)) | (refine Br.dneg ?_ ?_; focus (with_reducible assumption)) | (refine Br.d (fun _ => ?_) (fun _ => ?_) <;> (first | (exfalso; omega; done) | skip)) | refine Br.n ?_ | (refine Br.s (fun _ => ?_) (fun _ => ?_) <;> (first | (exfalso; omega; done) | skip)) | (refine Br.mk (fun _ => ?_) (fun _ => ?_) <;> (first | (exfalso; omega; done) | skip)))
               | (refine regv_id ?_; first | refine RegV.d ?_)
               | refine NilB.mk (fun b hb => ?_)
               | (refine alv_and ?_ ?_; focus (first | rfl | done))
               | refine DrawV.mk [] ?_
               | (refine appc_id ?_; first | refine AppC.growA ?_ | refine AppC.grow (by (simp [intB])) ?_ | refine AppC.place ?_)
               | (refine call_id ?_; first
                    | refine CallV.c (hn) ?_
                    | refine CallV.e (hn) ?_)
               | (refine calls_id ?_; first
                    | refine CallS.c (hn) ?_
                    | refine CallS.e (hn) ?_))
      all_goals (try (conv => whnf))
      · refine nx (i + 1, L ++ [(i : Int)]) (by simp only; omega) ⟨by simp only; omega, by simp only; rw [hs, if_pos rfl]⟩ (AtS.mk [] [2] rfl (by simp) rfl ⟨⟨_, rfl, rfl, rfl, rfl, .inl ⟨rfl, rfl, by simp [intB]⟩⟩, rfl⟩ ?_)
        (repeat' (first | exact trivial | exact rfl | with_reducible assumption | (refine And.intro ?_ ?_) | (refine Exists.intro _ (And.intro rfl ?_)) | (refine Exists.intro _ (Exists.intro _ (And.intro rfl (And.intro rfl ?_)))) | (refine Or.inl ⟨rfl, rfl, ?_⟩) | (refine Or.inl ⟨rfl, ?_⟩; focus (fail_if_success (refine And.intro ?_ ?_))) | (refine Or.inl (?_ : (_ : Nat) = _ ∧ _); refine ⟨?_, ?_⟩; focus (first | (simp only [List.length_map]; done) | (simp only [List.length_map, List.length_append, List.length_cons, List.length_nil]; done))) | exact Or.inl rfl | (refine Or.inr (Or.inr ⟨?_, ?_⟩)) | (refine Or.inr ⟨?_, ?_⟩) | (refine fun h => ?_; first | exact h | exact rfl | (cases h; done)) | (refine om8 ?_; simp only [← List.map_drop, ← List.map_take]; exact rfl) | ((first | refine om1 ?_ | refine om2 ?_ | refine om3 ?_ | refine om4 ?_ | refine om5 ?_ | refine om6 ?_ | refine om7 ?_); first | (simp only [List.length_map]; done) | (simp only [List.length_map]; omega) | omega)))
        simp
    | false =>
      rw [hb] at hn hs
      repeat' (conv => whnf
               first
               | (refine get_id ?_; first | refine Get.mk _ rfl ?_)
               | (refine need_id ?_; first | refine Need.a ?_)
               | (refine eqk_id ?_; first | refine EqK.a ?_)
               | (refine br_id ?_; first | refine Br.t ?_ | refine Br.f ?_ | (refine Br.pos ?_ ?_; focus (with_reducible assumption)) | (refine Br.neg ?_ ?_; focus (with_reducible assumption)) | (refine Br.dpos ?_ ?_; focus (first | with_reducible exact rfl | with_reducible exact Int.le_refl _ | with_reducible assumption)) | (refine Br.dneg ?_ ?_; focus (with_reducible assumption)) | (refine Br.d (fun _ => ?_) (fun _ => ?_) <;> (first | (exfalso; omega; done) | skip)) | refine Br.n ?_ | (refine Br.s (fun _ => ?_) (fun _ => ?_) <;> (first | (exfalso; omega; done) | skip)) | (refine Br.mk (fun _ => ?_) (fun _ => ?_) <;> (first | (exfalso; omega; done) | skip)))
               | (refine regv_id ?_; first | refine RegV.d ?_)
               | refine NilB.mk (fun b hb => ?_)
               | (refine alv_and ?_ ?_; focus (first | rfl | done))
               | refine DrawV.mk [] ?_
               | (refine appc_id ?_; first | refine AppC.growA ?_ | refine AppC.place ?_)
               | (refine call_id ?_; first
                    | refine CallV.c (hn) ?_
                    | refine CallV.e (hn) ?_)
               | (refine calls_id ?_; first
                    | refine CallS.c (hn) ?_
                    | refine CallS.e (hn) ?_))
      all_goals (try (conv => whnf))
      refine nx (i + 1, L) (by simp only; omega) ⟨by simp only; omega, by simp only; rw [hs, if_neg (by simp)]⟩ (AtS.mk [] [0] rfl (by simp) rfl ?_ ?_)
      all_goals (repeat' (first | exact trivial | exact rfl | with_reducible assumption | (refine And.intro ?_ ?_) | (refine Exists.intro _ (And.intro rfl ?_)) | (refine Exists.intro _ (Exists.intro _ (And.intro rfl (And.intro rfl ?_)))) | (refine Or.inl ⟨rfl, rfl, ?_⟩) | (refine Or.inl ⟨rfl, ?_⟩; focus (fail_if_success (refine And.intro ?_ ?_))) | (refine Or.inl (?_ : (_ : Nat) = _ ∧ _); refine ⟨?_, ?_⟩; focus (first | (simp only [List.length_map]; done) | (simp only [List.length_map, List.length_append, List.length_cons, List.length_nil]; done))) | exact Or.inl rfl | (refine Or.inr (Or.inr ⟨?_, ?_⟩)) | (refine Or.inr ⟨?_, ?_⟩) | (refine fun h => ?_; first | exact h | exact rfl | (cases h; done)) | (refine om8 ?_; simp only [← List.map_drop, ← List.map_take]; exact rfl) | ((first | refine om1 ?_ | refine om2 ?_ | refine om3 ?_ | refine om4 ?_ | refine om5 ?_ | refine om6 ?_ | refine om7 ?_); first | (simp only [List.length_map]; done) | (simp only [List.length_map]; omega) | omega)))
  · repeat' (conv => whnf
             first
             | (refine get_id ?_; first | refine Get.mk _ rfl ?_)
             | (refine need_id ?_; first | refine Need.a ?_)
             | (refine eqk_id ?_; first | refine EqK.a ?_)
             | (refine br_id ?_; first | refine Br.t ?_ | refine Br.f ?_ | (refine Br.pos ?_ ?_; focus (with_reducible assumption)) | (refine Br.neg ?_ ?_; focus (with_reducible assumption)) | (refine Br.dpos ?_ ?_; focus (first | with_reducible exact rfl | with_reducible exact Int.le_refl _ | with_reducible assumption)) | (refine Br.dneg ?_ ?_; focus (with_reducible assumption)) | (refine Br.d (fun _ => ?_) (fun _ => ?_) <;> (first | (exfalso; omega; done) | skip)) | refine Br.n ?_ | (refine Br.s (fun _ => ?_) (fun _ => ?_) <;> (first | (exfalso; omega; done) | skip)) | (refine Br.mk (fun _ => ?_) (fun _ => ?_) <;> (first | (exfalso; omega; done) | skip)))
             | (refine regv_id ?_; first | refine RegV.d ?_)
             | refine NilB.mk (fun b hb => ?_)
             | (refine alv_and ?_ ?_; focus (first | rfl | done))
             | refine DrawV.mk [] ?_
             | (refine appc_id ?_; first | refine AppC.growA ?_ | refine AppC.place ?_))
    all_goals (try (conv => whnf))
    have e : i = ps.length := by omega
    subst e
    rw [← hL]
    exact RetP.own rfl (int_fr _)
theorem refneighO_pcon (f : Bool) (ps : List Int) (v : Int) (h : ps.length < 9223372036854775808) (h1 : hasB ps v = false) : PCon Try.prog 21 [intX f ps, I v] (.own 0 0) [intB []] := by
  refine pcon_of (G := gm) Try.func21 rfl rfl rfl ?_
  have hv : ¬(0 ≤ v ∧ v < ps.length) := fun h2 => by rw [hasB_iff.2 h2] at h1; cases h1
  repeat' (conv => whnf
           first
           | (refine get_id ?_; first | refine Get.mk _ rfl ?_)
           | (refine need_id ?_; first | refine Need.a ?_)
           | (refine eqk_id ?_; first | refine EqK.a ?_)
           | (refine br_id ?_; first | refine Br.t ?_ | refine Br.f ?_ | (refine Br.pos ?_ ?_; focus (with_reducible assumption)) | (refine Br.neg ?_ ?_; focus (with_reducible assumption)) | (refine Br.dpos ?_ ?_; focus (first | with_reducible exact rfl | with_reducible exact Int.le_refl _ | with_reducible assumption)) | (refine Br.dneg ?_ ?_; focus (with_reducible assumption)) | (refine Br.d (fun _ => ?_) (fun _ => ?_) <;> (first | (exfalso; omega; done) | skip)) | refine Br.n ?_ | (refine Br.s (fun _ => ?_) (fun _ => ?_) <;> (first | (exfalso; omega; done) | skip)) | (refine Br.mk (fun _ => ?_) (fun _ => ?_) <;> (first | (exfalso; omega; done) | skip)))
           | (refine regv_id ?_; first | refine RegV.d ?_)
           | refine NilB.mk (fun b hb => ?_)
           | (refine alv_and ?_ ?_; focus (first | rfl | done))
           | refine DrawV.mk [] ?_
           | (refine appc_id ?_; first | refine AppC.growA ?_ | refine AppC.place ?_))
  all_goals (try (conv => whnf))
  all_goals exact RetP.nil
end Go.Proofs.Ytobojnfhhobnkaa
