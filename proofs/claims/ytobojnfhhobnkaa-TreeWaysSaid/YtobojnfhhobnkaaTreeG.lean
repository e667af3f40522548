/- tree: paths of nodes that are not there; Dist; Edges. -/
import Derived.Test.YtobojnfhhobnkaaTreeF
set_option linter.unusedSimpArgs false
set_option maxRecDepth 20000
set_option linter.unusedVariables false
namespace Go.Proofs.Ytobojnfhhobnkaa
open Go Go.Eng Go.RowKit

theorem path1O_icon (f : Bool) (ps : List Int) (L : List (List Int)) (a b : Int) (h : hasB ps a = false ∨ hasB ps b = false) : ICon Try.prog 31 (fun y => .val y :: pathCaps f ps L a b) (([] : List Int).map oneIt) := by
  refine icon_of (G := gm) Try.func31 rfl rfl fun l => ?_
  unfold pathCaps
  have c1 := has_pcon f ps L a
  have c2 := has_pcon f ps L b
  cases ha : hasB ps a with
  | false =>
    rw [ha] at c1
    repeat' (conv => whnf
             first
             | (refine get_id ?_; first | refine Get.mk _ rfl ?_)
             | (refine need_id ?_; first | refine Need.a ?_)
             | (refine eqk_id ?_; first | refine EqK.a ?_)
             | (refine br_id ?_; first | refine Br.t ?_ | refine Br.f ?_ | (refine Br.pos ?_ ?_; focus (with_reducible assumption)) | (refine Br.neg ?_ ?_; focus (with_reducible assumption)) | (refine Br.dpos ?_ ?_; focus (first | with_reducible exact rfl | with_reducible exact Int.le_refl _ | with_reducible assumption)) | (refine Br.dneg ?_ ?_; focus (with_reducible assumption)) | (refine Br.d (fun _ => ?_) (fun _ => ?_)) | refine Br.n ?_ | (refine Br.s (fun _ => ?_) (fun _ => ?_)) | (refine Br.mk (fun _ => ?_) (fun _ => ?_)))
             | (refine regv_id ?_; first | refine RegV.d ?_)
             | refine NilB.mk (fun b hb => ?_)
             | (refine alv_and ?_ ?_; focus (first | rfl | done))
             | refine DrawV.mk [] ?_
             | (refine appc_id ?_; first | refine AppC.growA ?_ | refine AppC.place ?_)
             | (refine call_id ?_; first
                  | refine CallV.c (c1) ?_
                  | refine CallV.e (c1) ?_)
             | (refine calls_id ?_; first
                  | refine CallS.c (c1) ?_
                  | refine CallS.e (c1) ?_))
    all_goals (try (conv => whnf))
    exact RetI.all rfl rfl trivial
  | true =>
    have hb : hasB ps b = false := by rcases h with h | h
                                      · rw [ha] at h; cases h
                                      · exact h
    rw [ha] at c1
    rw [hb] at c2
    repeat' (conv => whnf
             first
             | (refine get_id ?_; first | refine Get.mk _ rfl ?_)
             | (refine need_id ?_; first | refine Need.a ?_)
             | (refine eqk_id ?_; first | refine EqK.a ?_)
             | (refine br_id ?_; first | refine Br.t ?_ | refine Br.f ?_ | (refine Br.pos ?_ ?_; focus (with_reducible assumption)) | (refine Br.neg ?_ ?_; focus (with_reducible assumption)) | (refine Br.dpos ?_ ?_; focus (first | with_reducible exact rfl | with_reducible exact Int.le_refl _ | with_reducible assumption)) | (refine Br.dneg ?_ ?_; focus (with_reducible assumption)) | (refine Br.d (fun _ => ?_) (fun _ => ?_)) | refine Br.n ?_ | (refine Br.s (fun _ => ?_) (fun _ => ?_)) | (refine Br.mk (fun _ => ?_) (fun _ => ?_)))
             | (refine regv_id ?_; first | refine RegV.d ?_)
             | refine NilB.mk (fun b hb => ?_)
             | (refine alv_and ?_ ?_; focus (first | rfl | done))
             | refine DrawV.mk [] ?_
             | (refine appc_id ?_; first | refine AppC.growA ?_ | refine AppC.place ?_)
             | (refine call_id ?_; first
                  | refine CallV.c (c1) ?_
                  | refine CallV.c (c2) ?_
                  | refine CallV.e (c1) ?_
                  | refine CallV.e (c2) ?_)
             | (refine calls_id ?_; first
                  | refine CallS.c (c1) ?_
                  | refine CallS.c (c2) ?_
                  | refine CallS.e (c1) ?_
                  | refine CallS.e (c2) ?_))
    all_goals (try (conv => whnf))
    exact RetI.all rfl rfl trivial
theorem dist_pcon (ps : List Int) (L : List (List Int)) (a b : Int) (xs : List Int) (hcon : ICon Try.prog 31 (fun y => .val y :: pathCaps true ps L a b) (xs.map oneIt)) (hl : xs.length < 9223372036854775808) : PCon Try.prog 19 [treeX true ps L, I a, I b] (I (xs.length - 1)) [] := by
  refine pcon_of (G := gm) Try.func19 rfl rfl rfl ?_
  unfold pathCaps at hcon
  have c1 := path_pcon ps L a b
  unfold pathCaps at c1
  repeat' (conv => whnf
           first
           | (refine get_id ?_; first | refine Get.mk _ rfl ?_)
           | (refine need_id ?_; first | refine Need.a ?_)
           | (refine eqk_id ?_; first | refine EqK.a ?_)
           | (refine br_id ?_; first | refine Br.t ?_ | refine Br.f ?_ | (refine Br.pos ?_ ?_; focus (with_reducible assumption)) | (refine Br.neg ?_ ?_; focus (with_reducible assumption)) | (refine Br.dpos ?_ ?_; focus (first | with_reducible exact rfl | with_reducible exact Int.le_refl _ | with_reducible assumption)) | (refine Br.dneg ?_ ?_; focus (with_reducible assumption)) | (refine Br.d (fun _ => ?_) (fun _ => ?_)) | refine Br.n ?_ | (refine Br.s (fun _ => ?_) (fun _ => ?_)) | (refine Br.mk (fun _ => ?_) (fun _ => ?_)))
           | (refine regv_id ?_; first | refine RegV.d ?_)
           | refine NilB.mk (fun b hb => ?_)
           | (refine alv_and ?_ ?_; focus (first | rfl | done))
           | refine DrawV.mk [] ?_
           | (refine appc_id ?_; first | refine AppC.growA ?_ | refine AppC.place ?_)
           | (refine call_id ?_; first
                | refine CallV.c (c1) ?_
                | refine CallV.e (c1) ?_)
           | (refine calls_id ?_; first
                | refine CallS.c (c1) ?_
                | refine CallS.e (c1) ?_))
  all_goals (try (conv => whnf))
  refine RangeV.on rfl xs oneIt 1 31 [.ref true [treeX true ps L], .ref true [I a], .ref true [I b]] [(7, .ptr 0 0 0), (11, .clo 31 [.ref true [treeX true ps L], .ref true [I a], .ref true [I b]])]
      (fun j : Nat => [some ⟨3, 1, true, false, [[I ((j : Int) - 1)]]⟩]) (fun j s => s = j) 0 hcon ?_ rfl rfl rfl (fun x => ⟨rfl, rfl⟩) (Nat.zero_le _) rfl (fun _ => rfl) ?_ ?_
  · refine AtS.mk [] [0] rfl (by simp) rfl ?_ ?_
    · (repeat' (first | exact trivial | exact rfl | with_reducible assumption | (refine And.intro ?_ ?_) | (refine Exists.intro _ (And.intro rfl ?_)) | (refine Exists.intro _ (Exists.intro _ (And.intro rfl (And.intro rfl ?_)))) | (refine Or.inl ⟨rfl, rfl, ?_⟩) | (refine Or.inl ⟨rfl, ?_⟩; focus (fail_if_success (refine And.intro ?_ ?_))) | (refine Or.inl (?_ : (_ : Nat) = _ ∧ _); refine ⟨?_, ?_⟩; focus (first | (simp only [List.length_map]; done) | (simp only [List.length_map, List.length_append, List.length_cons, List.length_nil]; done))) | exact Or.inl rfl | (refine Or.inr (Or.inr ⟨?_, ?_⟩)) | (refine Or.inr ⟨?_, ?_⟩) | (refine fun h => ?_; first | exact h | exact rfl | (cases h; done)) | (refine om8 ?_; simp only [← List.map_drop, ← List.map_take]; exact rfl) | ((first | refine om1 ?_ | refine om2 ?_ | refine om3 ?_ | refine om4 ?_ | refine om5 ?_ | refine om6 ?_ | refine om7 ?_); first | (simp only [List.length_map]; done) | (simp only [List.length_map]; omega) | omega)))
    · (repeat' (first | exact trivial | exact rfl | with_reducible assumption | (refine And.intro ?_ ?_) | (refine Exists.intro _ (And.intro rfl ?_)) | (refine Exists.intro _ (Exists.intro _ (And.intro rfl (And.intro rfl ?_)))) | (refine Or.inl ⟨rfl, rfl, ?_⟩) | (refine Or.inl ⟨rfl, ?_⟩; focus (fail_if_success (refine And.intro ?_ ?_))) | (refine Or.inl (?_ : (_ : Nat) = _ ∧ _); refine ⟨?_, ?_⟩; focus (first | (simp only [List.length_map]; done) | (simp only [List.length_map, List.length_append, List.length_cons, List.length_nil]; done))) | exact Or.inl rfl | (refine Or.inr (Or.inr ⟨?_, ?_⟩)) | (refine Or.inr ⟨?_, ?_⟩) | (refine fun h => ?_; first | exact h | exact rfl | (cases h; done)) | (refine om8 ?_; simp only [← List.map_drop, ← List.map_take]; exact rfl) | ((first | refine om1 ?_ | refine om2 ?_ | refine om3 ?_ | refine om4 ?_ | refine om5 ?_ | refine om6 ?_ | refine om7 ?_); first | (simp only [List.length_map]; done) | (simp only [List.length_map]; omega) | omega)))
  · rintro _ hj j rfl
    repeat' (conv => whnf
             first
             | (refine get_id ?_; first | refine Get.mk _ rfl ?_)
             | (refine need_id ?_; first | refine Need.a ?_)
             | (refine eqk_id ?_; first | refine EqK.a ?_)
             | (refine br_id ?_; first | refine Br.t ?_ | refine Br.f ?_ | (refine Br.pos ?_ ?_; focus (with_reducible assumption)) | (refine Br.neg ?_ ?_; focus (with_reducible assumption)) | (refine Br.dpos ?_ ?_; focus (first | with_reducible exact rfl | with_reducible exact Int.le_refl _ | with_reducible assumption)) | (refine Br.dneg ?_ ?_; focus (with_reducible assumption)) | (refine Br.d (fun _ => ?_) (fun _ => ?_)) | refine Br.n ?_ | (refine Br.s (fun _ => ?_) (fun _ => ?_)) | (refine Br.mk (fun _ => ?_) (fun _ => ?_)))
             | (refine regv_id ?_; first | refine RegV.d ?_)
             | refine NilB.mk (fun b hb => ?_)
             | (refine alv_and ?_ ?_; focus (first | rfl | done))
             | refine DrawV.mk [] ?_
             | (refine appc_id ?_; first | refine AppC.growA ?_ | refine AppC.place ?_))
    all_goals (try (conv => whnf))
    refine nxr (j + 1) rfl (AtS.mk [] [0] rfl (by simp) rfl ?_ ?_)
    · (repeat' (first | exact trivial | exact rfl | with_reducible assumption | (refine And.intro ?_ ?_) | (refine Exists.intro _ (And.intro rfl ?_)) | (refine Exists.intro _ (Exists.intro _ (And.intro rfl (And.intro rfl ?_)))) | (refine Or.inl ⟨rfl, rfl, ?_⟩) | (refine Or.inl ⟨rfl, ?_⟩; focus (fail_if_success (refine And.intro ?_ ?_))) | (refine Or.inl (?_ : (_ : Nat) = _ ∧ _); refine ⟨?_, ?_⟩; focus (first | (simp only [List.length_map]; done) | (simp only [List.length_map, List.length_append, List.length_cons, List.length_nil]; done))) | exact Or.inl rfl | (refine Or.inr (Or.inr ⟨?_, ?_⟩)) | (refine Or.inr ⟨?_, ?_⟩) | (refine fun h => ?_; first | exact h | exact rfl | (cases h; done)) | (refine om8 ?_; simp only [← List.map_drop, ← List.map_take]; exact rfl) | ((first | refine om1 ?_ | refine om2 ?_ | refine om3 ?_ | refine om4 ?_ | refine om5 ?_ | refine om6 ?_ | refine om7 ?_); first | (simp only [List.length_map]; done) | (simp only [List.length_map]; omega) | omega)))
      rw [show ((j + 1 : Nat) : Int) - 1 = (j : Int) - 1 + 1 by omega]
      rfl
    · (repeat' (first | exact trivial | exact rfl | with_reducible assumption | (refine And.intro ?_ ?_) | (refine Exists.intro _ (And.intro rfl ?_)) | (refine Exists.intro _ (Exists.intro _ (And.intro rfl (And.intro rfl ?_)))) | (refine Or.inl ⟨rfl, rfl, ?_⟩) | (refine Or.inl ⟨rfl, ?_⟩; focus (fail_if_success (refine And.intro ?_ ?_))) | (refine Or.inl (?_ : (_ : Nat) = _ ∧ _); refine ⟨?_, ?_⟩; focus (first | (simp only [List.length_map]; done) | (simp only [List.length_map, List.length_append, List.length_cons, List.length_nil]; done))) | exact Or.inl rfl | (refine Or.inr (Or.inr ⟨?_, ?_⟩)) | (refine Or.inr ⟨?_, ?_⟩) | (refine fun h => ?_; first | exact h | exact rfl | (cases h; done)) | (refine om8 ?_; simp only [← List.map_drop, ← List.map_take]; exact rfl) | ((first | refine om1 ?_ | refine om2 ?_ | refine om3 ?_ | refine om4 ?_ | refine om5 ?_ | refine om6 ?_ | refine om7 ?_); first | (simp only [List.length_map]; done) | (simp only [List.length_map]; omega) | omega)))
  · rintro j rfl
    repeat' (conv => whnf
             first
             | (refine get_id ?_; first | refine Get.mk _ rfl ?_)
             | (refine need_id ?_; first | refine Need.a ?_)
             | (refine eqk_id ?_; first | refine EqK.a ?_)
             | (refine br_id ?_; first | refine Br.t ?_ | refine Br.f ?_ | (refine Br.pos ?_ ?_; focus (with_reducible assumption)) | (refine Br.neg ?_ ?_; focus (with_reducible assumption)) | (refine Br.dpos ?_ ?_; focus (first | with_reducible exact rfl | with_reducible exact Int.le_refl _ | with_reducible assumption)) | (refine Br.dneg ?_ ?_; focus (with_reducible assumption)) | (refine Br.d (fun _ => ?_) (fun _ => ?_)) | refine Br.n ?_ | (refine Br.s (fun _ => ?_) (fun _ => ?_)) | (refine Br.mk (fun _ => ?_) (fun _ => ?_)))
             | (refine regv_id ?_; first | refine RegV.d ?_)
             | refine NilB.mk (fun b hb => ?_)
             | (refine alv_and ?_ ?_; focus (first | rfl | done))
             | refine DrawV.mk [] ?_
             | (refine appc_id ?_; first | refine AppC.growA ?_ | refine AppC.place ?_))
    all_goals (try (conv => whnf))
    exact RetP.v rfl
end Go.Proofs.Ytobojnfhhobnkaa
