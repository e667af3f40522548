/- half.Left, and what it hands over. -/
import Derived.Test.YtammndlghfknbaaHalfF
set_option linter.unusedSimpArgs false
set_option maxRecDepth 20000
set_option linter.unusedVariables false
namespace Go.Proofs.Ytammndlghfknbaa
open Go Go.Eng Go.RowKit

/-- The messages beyond those that have been seen, with their numbers. -/
def leftFrom (seen : Int) : Int → List Msg → List (Int × Msg)
  | _, [] => []
  | b, m :: ms => if b + 1 ≤ seen then leftFrom seen (b + 1) ms else (b + 1, m) :: leftFrom seen (b + 1) ms
def leftS (e : Edge) (seen : Int) : List (Int × Msg) := if e.good = true then leftFrom seen e.base e.out else []
def leftIt (p : Int × Msg) : List Sv := [I p.1, .agg p.2.row]
theorem leftIt_fr (l : List (Int × Msg)) : FrR (l.map leftIt) := FrR_map leftIt (fun p => by unfold leftIt Msg.row; simp [Sv.Fr.go, Sv.Fr]) l
def leftCaps (e : Edge) (seen : Int) : List Sv := [.ref true [Bo e.good], .ref true [.ext true 5 (e.out.map Msg.row)], .ref true [I e.peer, I e.base, .any, I e.seen], .ref true [I seen]]
theorem left_pcon (e : Edge) (f : Bool) (seen : Int) (h : e.out.length * 40 ≤ 140737488355328) : PCon Try.prog 27 [e.exf f, I seen] (.clo 48 (leftCaps e seen)) [] := by
  refine pcon_of (G := gm) Try.func27 rfl rfl rfl ?_
  repeat' (conv => whnf
           first
           | (refine get_id ?_; first | refine Get.mk _ rfl ?_)
           | (refine need_id ?_; first | refine Need.a ?_)
           | (refine eqk_id ?_; first | refine EqK.a ?_)
           | (refine br_id ?_; first | refine Br.t ?_ | refine Br.f ?_ | (refine Br.pos ?_ ?_; focus (with_reducible assumption)) | (refine Br.neg ?_ ?_; focus (with_reducible assumption)) | (refine Br.dpos ?_ ?_; focus (first | with_reducible exact rfl | with_reducible exact Int.le_refl _ | with_reducible assumption)) | (refine Br.dneg ?_ ?_; focus (with_reducible assumption)) | (refine Br.d (fun _ => ?_) (fun _ => ?_)) | refine Br.n ?_ | (refine Br.s (fun _ => ?_) (fun _ => ?_)) | (refine Br.mk (fun _ => ?_) (fun _ => ?_)))
           | (refine regv_id ?_; first | refine RegV.d ?_)
           | refine NilB.mk (fun b hb => ?_)
           | (refine alv_and ?_ ?_; focus (first | rfl | done))
           | refine DrawV.mk [] ?_
           | (refine appc_id ?_; first | refine AppC.growA ?_ | refine AppC.place ?_)
           | (refine call_id ?_; first
                | refine CallV.c (good_pcon e _ h) ?_
                | refine CallV.c (clone_pcon _ e.out h) ?_
                | refine CallV.e (good_pcon e _ h) ?_
                | refine CallV.e (clone_pcon _ e.out h) ?_)
           | (refine calls_id ?_; first
                | refine CallS.c (good_pcon e _ h) ?_
                | refine CallS.c (clone_pcon _ e.out h) ?_
                | refine CallS.e (good_pcon e _ h) ?_
                | refine CallS.e (clone_pcon _ e.out h) ?_))
  all_goals (try (conv => whnf))
  exact RetP.go [] [] (by simp) rfl (by unfold leftCaps; (repeat' (first | exact trivial | exact rfl | with_reducible assumption | (refine ⟨_, rfl, ?_⟩) | (refine ⟨_, _, rfl, rfl, ?_⟩) | (refine And.intro ?_ ?_) | (refine Or.inl ⟨rfl, rfl, ?_⟩) | (refine Or.inl ⟨rfl, ?_⟩; focus (fail_if_success (refine And.intro ?_ ?_))) | (refine Or.inl (?_ : (_ : Nat) = _ ∧ _); refine ⟨?_, ?_⟩; focus (first | (simp only [List.length_map]; done) | (simp only [List.length_map, List.length_append, List.length_cons, List.length_nil]; done))) | exact Or.inl rfl | (refine Or.inr (Or.inr ⟨?_, ?_⟩)) | (refine Or.inr ⟨?_, ?_⟩) | (refine fun h => ?_; first | exact h | exact rfl | (cases h; done)) | (refine om8 ?_; simp only [← List.map_drop, ← List.map_take]; exact rfl) | ((first | refine om1 ?_ | refine om2 ?_ | refine om3 ?_ | refine om4 ?_ | refine om5 ?_ | refine om6 ?_ | refine om7 ?_); first | (simp only [List.length_map]; done) | (simp only [List.length_map]; omega) | omega)))) (by unfold leftCaps; simp [Sv.Fr, Sv.Fr.go]; exact msg_fr e.out) trivial
theorem drop_next {α : Type} {l r : List α} {x : α} {j : Nat} (h : l.drop j = x :: r) : ∃ hj : j < l.length, l[j] = x ∧ l.drop (j + 1) = r := by
  have hj : j < l.length := by
    rcases Nat.lt_or_ge j l.length with h1 | h1
    · exact h1
    · rw [List.drop_eq_nil_of_le h1] at h; cases h
  rw [List.drop_eq_getElem_cons hj] at h
  injection h with h1 h2
  exact ⟨hj, h1, h2⟩
theorem leftFrom_at (seen : Int) {b : Int} {ms : List Msg} {i : Nat} (h : i < ms.length) : leftFrom seen (b + i) (ms.drop i) = if b + i + 1 ≤ seen then leftFrom seen (b + (i + 1 : Nat)) (ms.drop (i + 1)) else (b + i + 1, ms[i]) :: leftFrom seen (b + (i + 1 : Nat)) (ms.drop (i + 1)) := by
  rw [List.drop_eq_getElem_cons h, leftFrom, show b + (i : Int) + 1 = b + ((i + 1 : Nat) : Int) by omega]
theorem left1_icon (e : Edge) (seen : Int) (h : e.out.length * 40 ≤ 140737488355328) : ICon Try.prog 48 (fun y => .val y :: leftCaps e seen) ((leftS e seen).map leftIt) := by
  refine icon_of (G := gm) Try.func48 rfl rfl fun l => ?_
  rcases Bool.eq_false_or_eq_true e.good with hg | hg
  · have hf := good_fit e hg
    unfold Edge.fit at hf
    have hl : leftS e seen = leftFrom seen e.base e.out := by simp [leftS, hg]
    rw [hl]
    unfold leftCaps
    rw [hg]
    repeat' (conv => whnf
             first
             | (refine get_id ?_; first | refine Get.mk _ rfl ?_)
             | (refine need_id ?_; first | refine Need.a ?_)
             | (refine eqk_id ?_; first | refine EqK.a ?_)
             | (refine br_id ?_; first | refine Br.t ?_ | refine Br.f ?_ | (refine Br.pos ?_ ?_; focus (with_reducible assumption)) | (refine Br.neg ?_ ?_; focus (with_reducible assumption)) | (refine Br.dpos ?_ ?_; focus (first | with_reducible exact rfl | with_reducible exact Int.le_refl _ | with_reducible assumption)) | (refine Br.dneg ?_ ?_; focus (with_reducible assumption)) | (refine Br.d (fun _ => ?_) (fun _ => ?_)) | refine Br.n ?_ | (refine Br.s (fun _ => ?_) (fun _ => ?_)) | (refine Br.mk (fun _ => ?_) (fun _ => ?_)))
             | (refine regv_id ?_; first | refine RegV.d ?_)
             | refine NilB.mk (fun b hb => ?_)
             | (refine alv_and ?_ ?_; focus (first | rfl | done))
             | refine DrawV.mk [] ?_
             | (refine appc_id ?_; first | refine AppC.growA ?_ | refine AppC.place ?_))
    all_goals (try (conv => whnf))
    generalize hits : leftFrom seen e.base e.out = its
    refine LoopV.on (σ := Nat × Nat) rfl (fun s => [(0, .val (.func (.yield l) #[] #[])), (3, .ref true [I e.peer, I e.base, .any, I e.seen]), (4, .ref true [I seen]), (11, .ext true 5 (e.out.map Msg.row)), (12, I e.out.length), (13, I s.1)]) (fun s => [some (gB ((its.map leftIt).take s.2))])
      (fun s => s.1 ≤ e.out.length ∧ its.drop s.2 = leftFrom seen (e.base + s.1) (e.out.drop s.1)) (fun s => e.out.length - s.1) (0, 0) ?_ ⟨Nat.zero_le _, by simp [hits]⟩ ?_
    · refine AtS.mk [] [0] rfl (by simp) rfl ?_ ?_
      · exact ⟨⟨_, rfl, VwB.refl⟩, rfl⟩
      · (repeat' (first | exact trivial | exact rfl | with_reducible assumption | (refine ⟨_, rfl, ?_⟩) | (refine ⟨_, _, rfl, rfl, ?_⟩) | (refine And.intro ?_ ?_) | (refine Or.inl ⟨rfl, rfl, ?_⟩) | (refine Or.inl ⟨rfl, ?_⟩; focus (fail_if_success (refine And.intro ?_ ?_))) | (refine Or.inl (?_ : (_ : Nat) = _ ∧ _); refine ⟨?_, ?_⟩; focus (first | (simp only [List.length_map]; done) | (simp only [List.length_map, List.length_append, List.length_cons, List.length_nil]; done))) | exact Or.inl rfl | (refine Or.inr (Or.inr ⟨?_, ?_⟩)) | (refine Or.inr ⟨?_, ?_⟩) | (refine fun h => ?_; first | exact h | exact rfl | (cases h; done)) | (refine om8 ?_; simp only [← List.map_drop, ← List.map_take]; exact rfl) | ((first | refine om1 ?_ | refine om2 ?_ | refine om3 ?_ | refine om4 ?_ | refine om5 ?_ | refine om6 ?_ | refine om7 ?_); first | (simp only [List.length_map]; done) | (simp only [List.length_map]; omega) | omega)))
    rintro ⟨i, j⟩ ⟨hi, hd⟩
    simp only at hi hd
    repeat' (conv => whnf
             first
             | (refine get_id ?_; first | refine Get.mk _ rfl ?_ | refine Get.mk _ (nth_map Msg.row e.out i rfl (by omega)) ?_)
             | (refine need_id ?_; first | refine Need.a ?_)
             | (refine eqk_id ?_; first | refine EqK.a ?_)
             | (refine br_id ?_; first | refine Br.t ?_ | refine Br.f ?_ | (refine Br.pos ?_ ?_; focus (with_reducible assumption)) | (refine Br.neg ?_ ?_; focus (with_reducible assumption)) | (refine Br.dpos ?_ ?_; focus (first | with_reducible exact rfl | with_reducible exact Int.le_refl _ | with_reducible assumption)) | (refine Br.dneg ?_ ?_; focus (with_reducible assumption)) | (refine Br.d (fun _ => ?_) (fun _ => ?_)) | refine Br.n ?_ | (refine Br.s (fun _ => ?_) (fun _ => ?_)) | (refine Br.mk (fun _ => ?_) (fun _ => ?_)))
             | (refine regv_id ?_; first | refine RegV.d ?_)
             | refine NilB.mk (fun b hb => ?_)
             | (refine alv_and ?_ ?_; focus (first | rfl | done))
             | refine DrawV.mk [] ?_
             | (refine appc_id ?_; first | refine AppC.growA ?_ | refine AppC.place ?_))
    all_goals (try (conv => whnf))
    · rename_i h1 h2
      simp only at h1 h2
      rw [leftFrom_at seen (by omega), if_pos (by omega)] at hd
      refine nx (i + 1, j) (by simp only; omega) ⟨by simp only; omega, by rw [hd]⟩ (AtS.mk [] [0] rfl (by simp) rfl ⟨⟨_, rfl, VwB.refl⟩, rfl⟩ ?_)
      (repeat' (first | exact trivial | exact rfl | with_reducible assumption | (refine ⟨_, rfl, ?_⟩) | (refine ⟨_, _, rfl, rfl, ?_⟩) | (refine And.intro ?_ ?_) | (refine Or.inl ⟨rfl, rfl, ?_⟩) | (refine Or.inl ⟨rfl, ?_⟩; focus (fail_if_success (refine And.intro ?_ ?_))) | (refine Or.inl (?_ : (_ : Nat) = _ ∧ _); refine ⟨?_, ?_⟩; focus (first | (simp only [List.length_map]; done) | (simp only [List.length_map, List.length_append, List.length_cons, List.length_nil]; done))) | exact Or.inl rfl | (refine Or.inr (Or.inr ⟨?_, ?_⟩)) | (refine Or.inr ⟨?_, ?_⟩) | (refine fun h => ?_; first | exact h | exact rfl | (cases h; done)) | (refine om8 ?_; simp only [← List.map_drop, ← List.map_take]; exact rfl) | ((first | refine om1 ?_ | refine om2 ?_ | refine om3 ?_ | refine om4 ?_ | refine om5 ?_ | refine om6 ?_ | refine om7 ?_); first | (simp only [List.length_map]; done) | (simp only [List.length_map]; omega) | omega)))
    · rename_i h1 h2
      simp only at h1 h2
      rw [leftFrom_at seen (by omega), if_neg (by omega)] at hd
      obtain ⟨hj, hx, hr⟩ := drop_next hd
      refine YieldV.next its leftIt j hj rfl rfl (by repeat' (first | exact trivial | refine And.intro ?_ ?_)) (by repeat' (first | exact trivial | refine And.intro ?_ ?_)) rfl (by rw [hx, show e.base + (i : Int) + 1 = e.base + 1 + i by omega]; rfl) ?_ ?_
      · repeat' (conv => whnf
                 first
                 | (refine get_id ?_; first | refine Get.mk _ rfl ?_)
                 | (refine need_id ?_; first | refine Need.a ?_)
                 | (refine eqk_id ?_; first | refine EqK.a ?_)
                 | (refine br_id ?_; first | refine Br.t ?_ | refine Br.f ?_ | (refine Br.pos ?_ ?_; focus (with_reducible assumption)) | (refine Br.neg ?_ ?_; focus (with_reducible assumption)) | (refine Br.dpos ?_ ?_; focus (first | with_reducible exact rfl | with_reducible exact Int.le_refl _ | with_reducible assumption)) | (refine Br.dneg ?_ ?_; focus (with_reducible assumption)) | (refine Br.d (fun _ => ?_) (fun _ => ?_)) | refine Br.n ?_ | (refine Br.s (fun _ => ?_) (fun _ => ?_)) | (refine Br.mk (fun _ => ?_) (fun _ => ?_)))
                 | (refine regv_id ?_; first | refine RegV.d ?_)
                 | refine NilB.mk (fun b hb => ?_)
                 | (refine alv_and ?_ ?_; focus (first | rfl | done))
                 | refine DrawV.mk [] ?_
                 | (refine appc_id ?_; first | refine AppC.growA ?_ | refine AppC.place ?_))
        all_goals (try (conv => whnf))
        refine nx (i + 1, j + 1) (by simp only; omega) ⟨by simp only; omega, by rw [hr]⟩ (AtS.mk [] [0] rfl (by simp) rfl ⟨⟨_, rfl, VwB.refl⟩, rfl⟩ ?_)
        (repeat' (first | exact trivial | exact rfl | with_reducible assumption | (refine ⟨_, rfl, ?_⟩) | (refine ⟨_, _, rfl, rfl, ?_⟩) | (refine And.intro ?_ ?_) | (refine Or.inl ⟨rfl, rfl, ?_⟩) | (refine Or.inl ⟨rfl, ?_⟩; focus (fail_if_success (refine And.intro ?_ ?_))) | (refine Or.inl (?_ : (_ : Nat) = _ ∧ _); refine ⟨?_, ?_⟩; focus (first | (simp only [List.length_map]; done) | (simp only [List.length_map, List.length_append, List.length_cons, List.length_nil]; done))) | exact Or.inl rfl | (refine Or.inr (Or.inr ⟨?_, ?_⟩)) | (refine Or.inr ⟨?_, ?_⟩) | (refine fun h => ?_; first | exact h | exact rfl | (cases h; done)) | (refine om8 ?_; simp only [← List.map_drop, ← List.map_take]; exact rfl) | ((first | refine om1 ?_ | refine om2 ?_ | refine om3 ?_ | refine om4 ?_ | refine om5 ?_ | refine om6 ?_ | refine om7 ?_); first | (simp only [List.length_map]; done) | (simp only [List.length_map]; omega) | omega)))
      · repeat' (conv => whnf
                 first
                 | (refine get_id ?_; first | refine Get.mk _ rfl ?_)
                 | (refine need_id ?_; first | refine Need.a ?_)
                 | (refine eqk_id ?_; first | refine EqK.a ?_)
                 | (refine br_id ?_; first | refine Br.t ?_ | refine Br.f ?_ | (refine Br.pos ?_ ?_; focus (with_reducible assumption)) | (refine Br.neg ?_ ?_; focus (with_reducible assumption)) | (refine Br.dpos ?_ ?_; focus (first | with_reducible exact rfl | with_reducible exact Int.le_refl _ | with_reducible assumption)) | (refine Br.dneg ?_ ?_; focus (with_reducible assumption)) | (refine Br.d (fun _ => ?_) (fun _ => ?_)) | refine Br.n ?_ | (refine Br.s (fun _ => ?_) (fun _ => ?_)) | (refine Br.mk (fun _ => ?_) (fun _ => ?_)))
                 | (refine regv_id ?_; first | refine RegV.d ?_)
                 | refine NilB.mk (fun b hb => ?_)
                 | (refine alv_and ?_ ?_; focus (first | rfl | done))
                 | refine DrawV.mk [] ?_
                 | (refine appc_id ?_; first | refine AppC.growA ?_ | refine AppC.place ?_))
        all_goals (try (conv => whnf))
        exact RetI.stop rfl (FrR_take _ (leftIt_fr its))
    · rename_i h1
      simp only at h1
      rw [List.drop_eq_nil_of_le (show e.out.length ≤ i by omega)] at hd
      have hj : its.length ≤ j := by simpa [leftFrom] using hd
      exact RetI.all rfl (List.take_of_length_le (by simpa using hj)) (leftIt_fr its)
  · have hl : leftS e seen = [] := by simp [leftS, hg]
    rw [hl]
    unfold leftCaps
    rw [hg]
    repeat' (conv => whnf
             first
             | (refine get_id ?_; first | refine Get.mk _ rfl ?_)
             | (refine need_id ?_; first | refine Need.a ?_)
             | (refine eqk_id ?_; first | refine EqK.a ?_)
             | (refine br_id ?_; first | refine Br.t ?_ | refine Br.f ?_ | (refine Br.pos ?_ ?_; focus (with_reducible assumption)) | (refine Br.neg ?_ ?_; focus (with_reducible assumption)) | (refine Br.dpos ?_ ?_; focus (first | with_reducible exact rfl | with_reducible exact Int.le_refl _ | with_reducible assumption)) | (refine Br.dneg ?_ ?_; focus (with_reducible assumption)) | (refine Br.d (fun _ => ?_) (fun _ => ?_)) | refine Br.n ?_ | (refine Br.s (fun _ => ?_) (fun _ => ?_)) | (refine Br.mk (fun _ => ?_) (fun _ => ?_)))
             | (refine regv_id ?_; first | refine RegV.d ?_)
             | refine NilB.mk (fun b hb => ?_)
             | (refine alv_and ?_ ?_; focus (first | rfl | done))
             | refine DrawV.mk [] ?_
             | (refine appc_id ?_; first | refine AppC.growA ?_ | refine AppC.place ?_))
    all_goals (try (conv => whnf))
    exact RetI.all rfl rfl trivial
end Go.Proofs.Ytammndlghfknbaa
