/- The reference's Good, Push, Same. -/
import Derived.Test.YtiklbnianbejdaaHalfA
set_option linter.unusedSimpArgs false
set_option maxRecDepth 20000
set_option linter.unusedVariables false
namespace Go.Proofs.Ytiklbnianbejdaa.Hf
open Go Go.Eng Go.RowKit

theorem refgood_pcon (e : Edge) (f : Bool) (h : e.out.length * 40 ≤ 140737488355328) : PCon Try.prog 44 [e.exf f] (Bo e.good) [] := by
  refine pcon_of (G := gm) Try.func44 rfl rfl rfl ?_
  repeat' (conv => whnf
           first
           | (refine get_id ?_; first | refine Get.mk _ rfl ?_)
           | (refine need_id ?_; first | refine Need.a ?_)
           | (refine eqk_id ?_; first | refine EqK.a ?_)
           | (refine br_id ?_; first | refine Br.t ?_ | refine Br.f ?_ | (refine Br.pos ?_ ?_; focus (with_reducible assumption)) | (refine Br.neg ?_ ?_; focus (with_reducible assumption)) | (refine Br.dpos ?_ ?_; focus (first | with_reducible exact rfl | with_reducible exact Int.le_refl _ | with_reducible assumption)) | (refine Br.dneg ?_ ?_; focus (with_reducible assumption)) | (refine Br.d (fun _ => ?_) (fun _ => ?_)) | refine Br.n ?_ | (refine Br.s (fun _ => ?_) (fun _ => ?_)) | (refine Br.mk (fun _ => ?_) (fun _ => ?_)))
           | (refine regv_id ?_; first | refine RegV.d ?_)
           | refine NilB.mk (fun b hb => ?_)
           | (refine alv_and ?_ ?_; focus (first | rfl | done))
           | refine DrawV.mk [] ?_
           | (refine appc_id ?_; first | refine AppC.growA ?_ | refine AppC.place ?_))
  all_goals (try (conv => whnf))
  case' refine_2.refine_2.refine_2.refine_2.refine_2.refine_2.refine_2.refine_2 =>
    have hfit : e.fit := by unfold Edge.fit; omega
    refine LoopV.on (σ := Nat) rfl (fun i => [(49, .ext f 5 (e.out.map Msg.row)), (50, I e.out.length), (51, I i)]) (fun _ => []) (fun i => i ≤ e.out.length ∧ ∀ j (hj : j < e.out.length), j < i → e.out[j].valid = true) (fun i => e.out.length - i) 0 ?_ ⟨Nat.zero_le _, fun _ _ h => by omega⟩ ?_
    · refine AtS.mk [] [] rfl List.nodup_nil rfl rfl ?_
      (repeat' (first | exact trivial | exact rfl | with_reducible assumption | (refine And.intro ?_ ?_) | (refine Exists.intro _ (And.intro rfl ?_)) | (refine Exists.intro _ (Exists.intro _ (And.intro rfl (And.intro rfl ?_)))) | (refine Or.inl ⟨rfl, rfl, ?_⟩) | (refine Or.inl ⟨rfl, ?_⟩; focus (fail_if_success (refine And.intro ?_ ?_))) | (refine Or.inl (?_ : (_ : Nat) = _ ∧ _); refine ⟨?_, ?_⟩; focus (first | (simp only [List.length_map]; done) | (simp only [List.length_map, List.length_append, List.length_cons, List.length_nil]; done))) | exact Or.inl rfl | (refine Or.inr (Or.inr ⟨?_, ?_⟩)) | (refine Or.inr ⟨?_, ?_⟩) | (refine fun h => ?_; first | exact h | exact rfl | (cases h; done)) | (refine om8 ?_; simp only [← List.map_drop, ← List.map_take]; exact rfl) | ((first | refine om1 ?_ | refine om2 ?_ | refine om3 ?_ | refine om4 ?_ | refine om5 ?_ | refine om6 ?_ | refine om7 ?_); first | (simp only [List.length_map]; done) | (simp only [List.length_map]; omega) | omega)))
    rintro i ⟨hi, hall⟩
    repeat' (conv => whnf
             first
             | (refine get_id ?_; first | refine Get.mk _ rfl ?_ | refine Get.mk _ (nth_map Msg.row e.out i rfl (by simp_all)) ?_)
             | (refine need_id ?_; first | refine Need.a ?_)
             | (refine eqk_id ?_; first | refine EqK.a ?_)
             | (refine br_id ?_; first | refine Br.t ?_ | refine Br.f ?_ | (refine Br.pos ?_ ?_; focus (with_reducible assumption)) | (refine Br.neg ?_ ?_; focus (with_reducible assumption)) | (refine Br.dpos ?_ ?_; focus (first | with_reducible exact rfl | with_reducible exact Int.le_refl _ | with_reducible assumption)) | (refine Br.dneg ?_ ?_; focus (with_reducible assumption)) | (refine Br.d (fun _ => ?_) (fun _ => ?_)) | refine Br.n ?_ | (refine Br.s (fun _ => ?_) (fun _ => ?_)) | (refine Br.mk (fun _ => ?_) (fun _ => ?_)))
             | (refine regv_id ?_; first | refine RegV.d ?_)
             | refine NilB.mk (fun b hb => ?_)
             | (refine alv_and ?_ ?_; focus (first | rfl | done))
             | refine DrawV.mk [] ?_
             | (refine appc_id ?_; first | refine AppC.growA ?_ | refine AppC.place ?_)
             | (refine call_id ?_; first
                  | refine CallV.c (refvalid_pcon _) ?_
                  | refine CallV.e (refvalid_pcon _) ?_)
             | (refine calls_id ?_; first
                  | refine CallS.c (refvalid_pcon _) ?_
                  | refine CallS.e (refvalid_pcon _) ?_))
    all_goals (try (conv => whnf))
    · refine nx (i + 1) (by omega) ⟨by omega, fun j hj h1 => ?_⟩ (AtS.mk [] [] rfl List.nodup_nil rfl rfl ?_)
      · by_cases e : j = i
        · subst e; assumption
        · exact hall j hj (by omega)
      · (repeat' (first | exact trivial | exact rfl | with_reducible assumption | (refine And.intro ?_ ?_) | (refine Exists.intro _ (And.intro rfl ?_)) | (refine Exists.intro _ (Exists.intro _ (And.intro rfl (And.intro rfl ?_)))) | (refine Or.inl ⟨rfl, rfl, ?_⟩) | (refine Or.inl ⟨rfl, ?_⟩; focus (fail_if_success (refine And.intro ?_ ?_))) | (refine Or.inl (?_ : (_ : Nat) = _ ∧ _); refine ⟨?_, ?_⟩; focus (first | (simp only [List.length_map]; done) | (simp only [List.length_map, List.length_append, List.length_cons, List.length_nil]; done))) | exact Or.inl rfl | (refine Or.inr (Or.inr ⟨?_, ?_⟩)) | (refine Or.inr ⟨?_, ?_⟩) | (refine fun h => ?_; first | exact h | exact rfl | (cases h; done)) | (refine om8 ?_; simp only [← List.map_drop, ← List.map_take]; exact rfl) | ((first | refine om1 ?_ | refine om2 ?_ | refine om3 ?_ | refine om4 ?_ | refine om5 ?_ | refine om6 ?_ | refine om7 ?_); first | (simp only [List.length_map]; done) | (simp only [List.length_map]; omega) | omega)))
    · refine RetP.v ?_
      have hi' : i < e.out.length := by omega
      have : e.good = false := by
        unfold Edge.good
        simp only [hfit, decide_true, Bool.true_and]
        rw [List.all_eq_false]
        exact ⟨_, List.getElem_mem hi', by simp [*]⟩
      rw [this]
    · refine RetP.v ?_
      have : e.good = true := by
        unfold Edge.good
        simp only [hfit, decide_true, Bool.true_and, List.all_eq_true]
        intro m hm
        obtain ⟨j, hj, rfl⟩ := List.mem_iff_getElem.1 hm
        exact hall j hj (by omega)
      rw [this]
  all_goals refine RetP.v ?_
  all_goals
    have : e.good = false := by
      unfold Edge.good
      have : ¬ e.fit := by unfold Edge.fit; omega
      simp [this]
    rw [this]
def Edge.same (a b : Edge) : Bool := a.peer == b.peer && a.base == b.base && a.seen == b.seen && a.out == b.out
theorem same_pcon (a b : Edge) (f g : Bool) (ha : a.out.length * 40 ≤ 140737488355328) : PCon Try.prog 36 [a.exf f, b.exf g] (Bo (a.same b)) [] := by
  refine pcon_of (G := gm) Try.func36 rfl rfl rfl ?_
  repeat' (conv => whnf
           first
           | (refine get_id ?_; first | refine Get.mk _ rfl ?_)
           | (refine need_id ?_; first | refine Need.a ?_)
           | (refine eqk_id ?_; first | refine EqK.a ?_)
           | (refine br_id ?_; first | refine Br.t ?_ | refine Br.f ?_ | (refine Br.pos ?_ ?_; focus (with_reducible assumption)) | (refine Br.neg ?_ ?_; focus (with_reducible assumption)) | (refine Br.dpos ?_ ?_; focus (first | with_reducible exact rfl | with_reducible exact Int.le_refl _ | with_reducible assumption)) | (refine Br.dneg ?_ ?_; focus (with_reducible assumption)) | (refine Br.d (fun _ => ?_) (fun _ => ?_)) | refine Br.n ?_ | (refine Br.s (fun _ => ?_) (fun _ => ?_)) | (refine Br.mk (fun _ => ?_) (fun _ => ?_)))
           | (refine regv_id ?_; first | refine RegV.d ?_)
           | refine NilB.mk (fun b hb => ?_)
           | (refine alv_and ?_ ?_; focus (first | rfl | done))
           | refine DrawV.mk [] ?_
           | (refine appc_id ?_; first | refine AppC.growA ?_ | refine AppC.place ?_))
  all_goals (try (conv => whnf))
  case' refine_1.refine_1.refine_1.refine_1 =>
    have hl : a.out.length = b.out.length := by omega
    refine LoopV.on (σ := Nat) rfl (fun i => [(2, .ptr 0 0 0), (3, .ptr 1 0 0), (36, I a.out.length), (37, I i)])
      (fun _ => [some ⟨60, 4, false, false, [[I a.peer, I a.base, .ext f 5 (a.out.map Msg.row), I a.seen]]⟩, some ⟨60, 4, false, false, [[I b.peer, I b.base, .ext g 5 (b.out.map Msg.row), I b.seen]]⟩])
      (fun i => i ≤ a.out.length ∧ ∀ j, j < i → a.out[j]? = b.out[j]?) (fun i => a.out.length - i) 0 ?_ ⟨Nat.zero_le _, fun _ h => by omega⟩ ?_
    · refine AtS.mk [] [0, 1] rfl (by simp) rfl ?_ ?_
      · (repeat' (first | exact trivial | exact rfl | with_reducible assumption | (refine And.intro ?_ ?_) | (refine Exists.intro _ (And.intro rfl ?_)) | (refine Exists.intro _ (Exists.intro _ (And.intro rfl (And.intro rfl ?_)))) | (refine Or.inl ⟨rfl, rfl, ?_⟩) | (refine Or.inl ⟨rfl, ?_⟩; focus (fail_if_success (refine And.intro ?_ ?_))) | (refine Or.inl (?_ : (_ : Nat) = _ ∧ _); refine ⟨?_, ?_⟩; focus (first | (simp only [List.length_map]; done) | (simp only [List.length_map, List.length_append, List.length_cons, List.length_nil]; done))) | exact Or.inl rfl | (refine Or.inr (Or.inr ⟨?_, ?_⟩)) | (refine Or.inr ⟨?_, ?_⟩) | (refine fun h => ?_; first | exact h | exact rfl | (cases h; done)) | (refine om8 ?_; simp only [← List.map_drop, ← List.map_take]; exact rfl) | ((first | refine om1 ?_ | refine om2 ?_ | refine om3 ?_ | refine om4 ?_ | refine om5 ?_ | refine om6 ?_ | refine om7 ?_); first | (simp only [List.length_map]; done) | (simp only [List.length_map]; omega) | omega)))
      · (repeat' (first | exact trivial | exact rfl | with_reducible assumption | (refine And.intro ?_ ?_) | (refine Exists.intro _ (And.intro rfl ?_)) | (refine Exists.intro _ (Exists.intro _ (And.intro rfl (And.intro rfl ?_)))) | (refine Or.inl ⟨rfl, rfl, ?_⟩) | (refine Or.inl ⟨rfl, ?_⟩; focus (fail_if_success (refine And.intro ?_ ?_))) | (refine Or.inl (?_ : (_ : Nat) = _ ∧ _); refine ⟨?_, ?_⟩; focus (first | (simp only [List.length_map]; done) | (simp only [List.length_map, List.length_append, List.length_cons, List.length_nil]; done))) | exact Or.inl rfl | (refine Or.inr (Or.inr ⟨?_, ?_⟩)) | (refine Or.inr ⟨?_, ?_⟩) | (refine fun h => ?_; first | exact h | exact rfl | (cases h; done)) | (refine om8 ?_; simp only [← List.map_drop, ← List.map_take]; exact rfl) | ((first | refine om1 ?_ | refine om2 ?_ | refine om3 ?_ | refine om4 ?_ | refine om5 ?_ | refine om6 ?_ | refine om7 ?_); first | (simp only [List.length_map]; done) | (simp only [List.length_map]; omega) | omega)))
    rintro i ⟨hi, hall⟩
    repeat' (conv => whnf
             first
             | (refine get_id ?_; first | refine Get.mk _ rfl ?_ | refine Get.mk _ (nth_map Msg.row a.out i rfl (by omega)) ?_ | refine Get.mk _ (nth_map Msg.row b.out i rfl (by omega)) ?_)
             | (refine need_id ?_; first | refine Need.a ?_)
             | (refine eqk_id ?_; first | refine EqK.a ?_)
             | (refine br_id ?_; first | refine Br.t ?_ | refine Br.f ?_ | (refine Br.pos ?_ ?_; focus (with_reducible assumption)) | (refine Br.neg ?_ ?_; focus (with_reducible assumption)) | (refine Br.dpos ?_ ?_; focus (first | with_reducible exact rfl | with_reducible exact Int.le_refl _ | with_reducible assumption)) | (refine Br.dneg ?_ ?_; focus (with_reducible assumption)) | (refine Br.d (fun _ => ?_) (fun _ => ?_)) | refine Br.n ?_ | (refine Br.s (fun _ => ?_) (fun _ => ?_)) | (refine Br.mk (fun _ => ?_) (fun _ => ?_)))
             | (refine regv_id ?_; first | refine RegV.d ?_)
             | refine NilB.mk (fun b hb => ?_)
             | (refine alv_and ?_ ?_; focus (first | rfl | done))
             | refine DrawV.mk [] ?_
             | (refine appc_id ?_; first | refine AppC.growA ?_ | refine AppC.place ?_))
    all_goals (try (conv => whnf))
    · rename_i hx
      refine nx (i + 1) (by omega) ⟨by omega, fun j hj => ?_⟩ (AtS.mk [] [0, 1] rfl (by simp) rfl ?_ ?_)
      · by_cases e : j = i
        · subst e
          rw [List.getElem?_eq_getElem (by omega), List.getElem?_eq_getElem (by omega)]
          congr 1
          try simp only [Bool.and_eq_true, beq_iff_eq] at hx
          obtain ⟨h1, h2, h3, h4, h5⟩ := hx
          exact Msg.ext h1 h2 h3 h4 h5
        · exact hall j (by omega)
      · (repeat' (first | exact trivial | exact rfl | with_reducible assumption | (refine And.intro ?_ ?_) | (refine Exists.intro _ (And.intro rfl ?_)) | (refine Exists.intro _ (Exists.intro _ (And.intro rfl (And.intro rfl ?_)))) | (refine Or.inl ⟨rfl, rfl, ?_⟩) | (refine Or.inl ⟨rfl, ?_⟩; focus (fail_if_success (refine And.intro ?_ ?_))) | (refine Or.inl (?_ : (_ : Nat) = _ ∧ _); refine ⟨?_, ?_⟩; focus (first | (simp only [List.length_map]; done) | (simp only [List.length_map, List.length_append, List.length_cons, List.length_nil]; done))) | exact Or.inl rfl | (refine Or.inr (Or.inr ⟨?_, ?_⟩)) | (refine Or.inr ⟨?_, ?_⟩) | (refine fun h => ?_; first | exact h | exact rfl | (cases h; done)) | (refine om8 ?_; simp only [← List.map_drop, ← List.map_take]; exact rfl) | ((first | refine om1 ?_ | refine om2 ?_ | refine om3 ?_ | refine om4 ?_ | refine om5 ?_ | refine om6 ?_ | refine om7 ?_); first | (simp only [List.length_map]; done) | (simp only [List.length_map]; omega) | omega)))
      · (repeat' (first | exact trivial | exact rfl | with_reducible assumption | (refine And.intro ?_ ?_) | (refine Exists.intro _ (And.intro rfl ?_)) | (refine Exists.intro _ (Exists.intro _ (And.intro rfl (And.intro rfl ?_)))) | (refine Or.inl ⟨rfl, rfl, ?_⟩) | (refine Or.inl ⟨rfl, ?_⟩; focus (fail_if_success (refine And.intro ?_ ?_))) | (refine Or.inl (?_ : (_ : Nat) = _ ∧ _); refine ⟨?_, ?_⟩; focus (first | (simp only [List.length_map]; done) | (simp only [List.length_map, List.length_append, List.length_cons, List.length_nil]; done))) | exact Or.inl rfl | (refine Or.inr (Or.inr ⟨?_, ?_⟩)) | (refine Or.inr ⟨?_, ?_⟩) | (refine fun h => ?_; first | exact h | exact rfl | (cases h; done)) | (refine om8 ?_; simp only [← List.map_drop, ← List.map_take]; exact rfl) | ((first | refine om1 ?_ | refine om2 ?_ | refine om3 ?_ | refine om4 ?_ | refine om5 ?_ | refine om6 ?_ | refine om7 ?_); first | (simp only [List.length_map]; done) | (simp only [List.length_map]; omega) | omega)))
    · rename_i hx
      refine RetP.v ?_
      have : (a.out == b.out) = false := by
        rw [beq_eq_false_iff_ne]
        intro e
        have : a.out[i]'(by omega) = b.out[i]'(by omega) := by simp [e]
        rw [this] at hx
        simp at hx
      simp [Edge.same, this]
    · refine RetP.v ?_
      have : a.out = b.out := List.ext_getElem? fun j => by
        by_cases hj : j < i
        · exact hall j hj
        · rw [List.getElem?_eq_none (by omega), List.getElem?_eq_none (by omega)]
      simp [Edge.same, *]
  · refine RetP.v ?_
    have : (a.out == b.out) = false := by
      rw [beq_eq_false_iff_ne]
      intro e
      simp_all
    simp [Edge.same, this]
  all_goals refine RetP.v ?_
  all_goals simp [Edge.same, *]
end Go.Proofs.Ytiklbnianbejdaa.Hf
