/- tree: the reference's Check; small functions. -/
import Derived.Test.YtobojnfhhobnkaaTreeA
set_option linter.unusedSimpArgs false
set_option maxRecDepth 20000
set_option linter.unusedVariables false
namespace Go.Proofs.Ytobojnfhhobnkaa
open Go Go.Eng Go.RowKit

def roots (ps : List Int) (i : Nat) : Int := if (ps.take i).any (· == -1) = true then 1 else 0
theorem roots_snoc (ps : List Int) (i : Nat) (h : i < ps.length) : roots ps (i + 1) = if ps.getD i 0 = -1 then 1 else roots ps i := by
  unfold roots
  rw [rooted_snoc ps i h]
  by_cases hp : ps.getD i 0 = -1
  · rw [if_pos hp, if_pos (by simp only [eq_self, iff_true, true_iff, iff_false, false_iff, decide_eq_true_eq, decide_eq_false_iff_not, Bool.or_eq_true, Bool.and_eq_true, Bool.or_eq_false_iff, Bool.and_eq_false_iff, Bool.not_eq_true', Bool.not_eq_false', beq_iff_eq, beq_eq_false_iff_ne, bne_iff_ne, bne_eq_false_iff_eq, ne_eq, Bool.true_and, Bool.and_true, Bool.false_or, Bool.or_false, Bool.true_or, Bool.or_true, Bool.false_and, Bool.and_false, Bool.not_true, Bool.not_false, reduceCtorEq, not_false_eq_true, not_true_eq_false, and_true, true_and, or_false, false_or, or_true, true_or, and_false, false_and, Bool.cond_eq_ite]; exact .inr hp)]
  · rw [if_neg hp]
    have : (ps.getD i 0 == -1) = false := by simp only [eq_self, iff_true, true_iff, iff_false, false_iff, decide_eq_true_eq, decide_eq_false_iff_not, Bool.or_eq_true, Bool.and_eq_true, Bool.or_eq_false_iff, Bool.and_eq_false_iff, Bool.not_eq_true', Bool.not_eq_false', beq_iff_eq, beq_eq_false_iff_ne, bne_iff_ne, bne_eq_false_iff_eq, ne_eq, Bool.true_and, Bool.and_true, Bool.false_or, Bool.or_false, Bool.true_or, Bool.or_true, Bool.false_and, Bool.and_false, Bool.not_true, Bool.not_false, reduceCtorEq, not_false_eq_true, not_true_eq_false, and_true, true_and, or_false, false_or, or_true, true_or, and_false, false_and, Bool.cond_eq_ite]; exact hp
    rw [this, Bool.or_false]
theorem roots_range (ps : List Int) (i : Nat) : roots ps i = 0 ∧ (ps.take i).any (· == -1) = false ∨ roots ps i = 1 ∧ (ps.take i).any (· == -1) = true := by
  unfold roots
  cases (ps.take i).any (· == -1) <;> simp
set_option maxHeartbeats 1000000 in
theorem refcheck_pcon (f : Bool) (ps : List Int) (h : ps.length < 9223372036854775808) : PCon Try.prog 13 [intX f ps] (.tup [I (checkS ps).1, I (checkS ps).2]) [] := by
  refine pcon_of (G := gm) Try.func13 rfl rfl rfl ?_
  repeat' (conv => whnf
           first
           | (refine get_id ?_; first | refine Get.mk _ rfl ?_)
           | (refine need_id ?_; first | refine Need.a ?_)
           | (refine eqk_id ?_; first | refine EqK.a ?_)
           | (refine br_id ?_; first | refine Br.t ?_ | refine Br.f ?_ | (refine Br.pos ?_ ?_; focus (with_reducible assumption)) | (refine Br.neg ?_ ?_; focus (with_reducible assumption)) | (refine Br.dpos ?_ ?_; focus (first | with_reducible exact rfl | with_reducible exact Int.le_refl _ | with_reducible assumption)) | (refine Br.dneg ?_ ?_; focus (with_reducible assumption)) | (refine Br.d (fun _ => ?_) (fun _ => ?_) <;> (first | (exfalso; omega; done) | skip)) | refine Br.n ?_ | (refine Br.s (fun _ => ?_) (fun _ => ?_) <;> (first | (exfalso; omega; done) | skip)) | (refine Br.mk (fun _ => ?_) (fun _ => ?_) <;> (first | (exfalso; omega; done) | skip)))
           | (refine regv_id ?_; first | refine RegV.qg ?_ | refine RegV.d ?_)
           | (refine gds_id ?_; apply GdS.mk)
           | (refine and_id ?_; exact ⟨rfl, rfl, rfl⟩)
           | (refine imp_id ?_; first | refine imp_s (fun _ => ?_) | refine fun _ => ?_)
           | refine NilB.mk (fun b hb => ?_)
           | (refine alv_and ?_ ?_; focus (first | rfl | done))
           | refine DrawV.mk [] ?_
           | (refine appc_id ?_; first | refine AppC.growA ?_ | refine AppC.place ?_))
  all_goals (try (conv => whnf))
  · exact RetP.ii (by unfold checkS; rw [if_pos (by omega)]) (by unfold checkS; rw [if_pos (by omega)])
  · exact RetP.ii (by unfold checkS; rw [if_neg (by omega), if_pos (by omega)]) (by unfold checkS; rw [if_neg (by omega), if_pos (by omega)])
  refine LoopV.on (σ := Nat) rfl (fun i => [(0, intX f ps), (4, I ps.length), (5, I (roots ps i)), (6, I i)]) (fun _ => []) (fun i => i ≤ ps.length ∧ okTo ps i) (fun i => ps.length - i) 0 ?_ ⟨Nat.zero_le _, fun _ h => by omega⟩ ?_
  · refine AtS.mk [] [] rfl List.nodup_nil rfl rfl ?_
    (repeat' (first | exact trivial | exact rfl | with_reducible assumption | (refine And.intro ?_ ?_) | (refine Exists.intro _ (And.intro rfl ?_)) | (refine Exists.intro _ (Exists.intro _ (And.intro rfl (And.intro rfl ?_)))) | (refine Or.inl ⟨rfl, rfl, ?_⟩) | (refine Or.inl ⟨rfl, ?_⟩; focus (fail_if_success (refine And.intro ?_ ?_))) | (refine Or.inl (?_ : (_ : Nat) = _ ∧ _); refine ⟨?_, ?_⟩; focus (first | (simp only [List.length_map]; done) | (simp only [List.length_map, List.length_append, List.length_cons, List.length_nil]; done))) | exact Or.inl rfl | (refine Or.inr (Or.inr ⟨?_, ?_⟩)) | (refine Or.inr ⟨?_, ?_⟩) | (refine fun h => ?_; first | exact h | exact rfl | (cases h; done)) | (refine om8 ?_; simp only [← List.map_drop, ← List.map_take]; exact rfl) | ((first | refine om1 ?_ | refine om2 ?_ | refine om3 ?_ | refine om4 ?_ | refine om5 ?_ | refine om6 ?_ | refine om7 ?_); first | (simp only [List.length_map]; done) | (simp only [List.length_map]; omega) | omega)))
  rintro i ⟨hi, hok⟩
  have hrr := roots_range ps i
  have hsn := fun hl => roots_snoc ps i hl
  have hr : roots ps i = 0 ∨ roots ps i = 1 := by rcases hrr with h | h <;> omega
  generalize hro : roots ps i = ro at *
  repeat' (conv => whnf
           first
           | (refine get_id ?_; first | refine Get.mk _ rfl ?_ | refine Get.mk _ (int_get ps i rfl (by omega)) ?_)
           | (refine need_id ?_; first | refine Need.a ?_)
           | (refine eqk_id ?_; first | refine EqK.a ?_)
           | (refine br_id ?_; first | refine Br.t ?_ | refine Br.f ?_ | (refine Br.pos ?_ ?_; focus (with_reducible assumption)) | (refine Br.neg ?_ ?_; focus (with_reducible assumption)) | (refine Br.dpos ?_ ?_; focus (first | with_reducible exact rfl | with_reducible exact Int.le_refl _ | with_reducible assumption)) | (refine Br.dneg ?_ ?_; focus (with_reducible assumption)) | (refine Br.d (fun _ => ?_) (fun _ => ?_) <;> (first | (exfalso; omega; done) | skip)) | refine Br.n ?_ | (refine Br.s (fun _ => ?_) (fun _ => ?_) <;> (first | (exfalso; omega; done) | skip)) | (refine Br.mk (fun _ => ?_) (fun _ => ?_) <;> (first | (exfalso; omega; done) | skip)))
           | (refine regv_id ?_; first | refine RegV.qg ?_ | refine RegV.d ?_)
           | (refine gds_id ?_; apply GdS.mk)
           | (refine and_id ?_; exact ⟨rfl, rfl, rfl⟩)
           | (refine imp_id ?_; first | refine imp_s (fun _ => ?_) | refine fun _ => ?_)
           | refine NilB.mk (fun b hb => ?_)
           | (refine alv_and ?_ ?_; focus (first | rfl | done))
           | refine DrawV.mk [] ?_
           | (refine appc_id ?_; first | refine AppC.growA ?_ | refine AppC.place ?_))
  all_goals (try (conv => whnf))
  · rename_i hx hb
    have e := checkS_bad (by omega) (by omega) (by omega) (v := i) (by unfold badAt; simp only [eq_self, iff_true, true_iff, iff_false, false_iff, decide_eq_true_eq, decide_eq_false_iff_not, Bool.or_eq_true, Bool.and_eq_true, Bool.or_eq_false_iff, Bool.and_eq_false_iff, Bool.not_eq_true', Bool.not_eq_false', beq_iff_eq, beq_eq_false_iff_ne, bne_iff_ne, bne_eq_false_iff_eq, ne_eq, Bool.true_and, Bool.and_true, Bool.false_or, Bool.or_false, Bool.true_or, Bool.or_true, Bool.false_and, Bool.and_false, Bool.not_true, Bool.not_false, reduceCtorEq, not_false_eq_true, not_true_eq_false, and_true, true_and, or_false, false_or, or_true, true_or, and_false, false_and, Bool.cond_eq_ite]; omega) hok
    exact RetP.ii (by rw [e]) (by rw [e])
  · rename_i hx hb h1 h2
    have e := checkS_bad (by omega) (by omega) (by omega) (v := i) (by
      unfold badAt
      rcases hrr with h | h
      · omega
      · rw [h.2]
        simp only [eq_self, iff_true, true_iff, iff_false, false_iff, decide_eq_true_eq, decide_eq_false_iff_not, Bool.or_eq_true, Bool.and_eq_true, Bool.or_eq_false_iff, Bool.and_eq_false_iff, Bool.not_eq_true', Bool.not_eq_false', beq_iff_eq, beq_eq_false_iff_ne, bne_iff_ne, bne_eq_false_iff_eq, ne_eq, Bool.true_and, Bool.and_true, Bool.false_or, Bool.or_false, Bool.true_or, Bool.or_true, Bool.false_and, Bool.and_false, Bool.not_true, Bool.not_false, reduceCtorEq, not_false_eq_true, not_true_eq_false, and_true, true_and, or_false, false_or, or_true, true_or, and_false, false_and, Bool.cond_eq_ite]
        omega) hok
    exact RetP.ii (by rw [e]) (by rw [e])
  · rename_i hx hb h1 h2
    refine nx (i + 1) (by omega) ⟨by omega, fun u hu => ?_⟩ (AtS.mk [] [] rfl List.nodup_nil rfl rfl ?_)
    · by_cases e : u = i
      · subst e
        unfold badAt
        rcases hrr with h | h
        · rw [h.2]
          simp only [eq_self, iff_true, true_iff, iff_false, false_iff, decide_eq_true_eq, decide_eq_false_iff_not, Bool.or_eq_true, Bool.and_eq_true, Bool.or_eq_false_iff, Bool.and_eq_false_iff, Bool.not_eq_true', Bool.not_eq_false', beq_iff_eq, beq_eq_false_iff_ne, bne_iff_ne, bne_eq_false_iff_eq, ne_eq, Bool.true_and, Bool.and_true, Bool.false_or, Bool.or_false, Bool.true_or, Bool.or_true, Bool.false_and, Bool.and_false, Bool.not_true, Bool.not_false, reduceCtorEq, not_false_eq_true, not_true_eq_false, and_true, true_and, or_false, false_or, or_true, true_or, and_false, false_and, Bool.cond_eq_ite]
          omega
        · omega
      · exact hok u (by omega)
    · have e1 := hsn (by omega)
      rw [if_pos h1] at e1
      have e2 : roots ps (i + 1) = ro + 1 := by omega
      rw [e2]
      (repeat' (first | exact trivial | exact rfl | with_reducible assumption | (refine And.intro ?_ ?_) | (refine Exists.intro _ (And.intro rfl ?_)) | (refine Exists.intro _ (Exists.intro _ (And.intro rfl (And.intro rfl ?_)))) | (refine Or.inl ⟨rfl, rfl, ?_⟩) | (refine Or.inl ⟨rfl, ?_⟩; focus (fail_if_success (refine And.intro ?_ ?_))) | (refine Or.inl (?_ : (_ : Nat) = _ ∧ _); refine ⟨?_, ?_⟩; focus (first | (simp only [List.length_map]; done) | (simp only [List.length_map, List.length_append, List.length_cons, List.length_nil]; done))) | exact Or.inl rfl | (refine Or.inr (Or.inr ⟨?_, ?_⟩)) | (refine Or.inr ⟨?_, ?_⟩) | (refine fun h => ?_; first | exact h | exact rfl | (cases h; done)) | (refine om8 ?_; simp only [← List.map_drop, ← List.map_take]; exact rfl) | ((first | refine om1 ?_ | refine om2 ?_ | refine om3 ?_ | refine om4 ?_ | refine om5 ?_ | refine om6 ?_ | refine om7 ?_); first | (simp only [List.length_map]; done) | (simp only [List.length_map]; omega) | omega)))
  · rename_i hx hb h1
    refine nx (i + 1) (by omega) ⟨by omega, fun u hu => ?_⟩ (AtS.mk [] [] rfl List.nodup_nil rfl rfl ?_)
    · by_cases e : u = i
      · subst e
        unfold badAt
        simp only [eq_self, iff_true, true_iff, iff_false, false_iff, decide_eq_true_eq, decide_eq_false_iff_not, Bool.or_eq_true, Bool.and_eq_true, Bool.or_eq_false_iff, Bool.and_eq_false_iff, Bool.not_eq_true', Bool.not_eq_false', beq_iff_eq, beq_eq_false_iff_ne, bne_iff_ne, bne_eq_false_iff_eq, ne_eq, Bool.true_and, Bool.and_true, Bool.false_or, Bool.or_false, Bool.true_or, Bool.or_true, Bool.false_and, Bool.and_false, Bool.not_true, Bool.not_false, reduceCtorEq, not_false_eq_true, not_true_eq_false, and_true, true_and, or_false, false_or, or_true, true_or, and_false, false_and, Bool.cond_eq_ite]
        omega
      · exact hok u (by omega)
    · rw [hsn (by omega), if_neg h1]
      (repeat' (first | exact trivial | exact rfl | with_reducible assumption | (refine And.intro ?_ ?_) | (refine Exists.intro _ (And.intro rfl ?_)) | (refine Exists.intro _ (Exists.intro _ (And.intro rfl (And.intro rfl ?_)))) | (refine Or.inl ⟨rfl, rfl, ?_⟩) | (refine Or.inl ⟨rfl, ?_⟩; focus (fail_if_success (refine And.intro ?_ ?_))) | (refine Or.inl (?_ : (_ : Nat) = _ ∧ _); refine ⟨?_, ?_⟩; focus (first | (simp only [List.length_map]; done) | (simp only [List.length_map, List.length_append, List.length_cons, List.length_nil]; done))) | exact Or.inl rfl | (refine Or.inr (Or.inr ⟨?_, ?_⟩)) | (refine Or.inr ⟨?_, ?_⟩) | (refine fun h => ?_; first | exact h | exact rfl | (cases h; done)) | (refine om8 ?_; simp only [← List.map_drop, ← List.map_take]; exact rfl) | ((first | refine om1 ?_ | refine om2 ?_ | refine om3 ?_ | refine om4 ?_ | refine om5 ?_ | refine om6 ?_ | refine om7 ?_); first | (simp only [List.length_map]; done) | (simp only [List.length_map]; omega) | omega)))
  have hi' : i = ps.length := by omega
  subst hi'
  refine LoopV.on (σ := Nat) rfl (fun i => [(0, intX f ps), (4, I ps.length), (8, I i)]) (fun _ => []) (fun i => i ≤ ps.length ∧ ∀ u : Nat, u < i → hits ps ps.length u = true) (fun i => ps.length - i) 0 ?_ ⟨Nat.zero_le _, fun _ h => by omega⟩ ?_
  · refine AtS.mk [] [] rfl List.nodup_nil rfl rfl ?_
    (repeat' (first | exact trivial | exact rfl | with_reducible assumption | (refine And.intro ?_ ?_) | (refine Exists.intro _ (And.intro rfl ?_)) | (refine Exists.intro _ (Exists.intro _ (And.intro rfl (And.intro rfl ?_)))) | (refine Or.inl ⟨rfl, rfl, ?_⟩) | (refine Or.inl ⟨rfl, ?_⟩; focus (fail_if_success (refine And.intro ?_ ?_))) | (refine Or.inl (?_ : (_ : Nat) = _ ∧ _); refine ⟨?_, ?_⟩; focus (first | (simp only [List.length_map]; done) | (simp only [List.length_map, List.length_append, List.length_cons, List.length_nil]; done))) | exact Or.inl rfl | (refine Or.inr (Or.inr ⟨?_, ?_⟩)) | (refine Or.inr ⟨?_, ?_⟩) | (refine fun h => ?_; first | exact h | exact rfl | (cases h; done)) | (refine om8 ?_; simp only [← List.map_drop, ← List.map_take]; exact rfl) | ((first | refine om1 ?_ | refine om2 ?_ | refine om3 ?_ | refine om4 ?_ | refine om5 ?_ | refine om6 ?_ | refine om7 ?_); first | (simp only [List.length_map]; done) | (simp only [List.length_map]; omega) | omega)))
  rintro i ⟨hi, hall⟩
  repeat' (conv => whnf
           first
           | (refine get_id ?_; first | refine Get.mk _ rfl ?_ | refine Get.mk _ (int_get ps i rfl (by omega)) ?_)
           | (refine need_id ?_; first | refine Need.a ?_)
           | (refine eqk_id ?_; first | refine EqK.a ?_)
           | (refine br_id ?_; first | refine Br.t ?_ | refine Br.f ?_ | (refine Br.pos ?_ ?_; focus (with_reducible assumption)) | (refine Br.neg ?_ ?_; focus (with_reducible assumption)) | (refine Br.dpos ?_ ?_; focus (first | with_reducible exact rfl | with_reducible exact Int.le_refl _ | with_reducible assumption)) | (refine Br.dneg ?_ ?_; focus (with_reducible assumption)) | (refine Br.d (fun _ => ?_) (fun _ => ?_) <;> (first | (exfalso; omega; done) | skip)) | refine Br.n ?_ | (refine Br.s (fun _ => ?_) (fun _ => ?_) <;> (first | (exfalso; omega; done) | skip)) | (refine Br.mk (fun _ => ?_) (fun _ => ?_) <;> (first | (exfalso; omega; done) | skip)))
           | (refine regv_id ?_; first | refine RegV.qg ?_ | refine RegV.d ?_)
           | (refine gds_id ?_; apply GdS.mk)
           | (refine and_id ?_; exact ⟨rfl, rfl, rfl⟩)
           | (refine imp_id ?_; first | refine imp_s (fun _ => ?_) | refine fun _ => ?_)
           | refine NilB.mk (fun b hb => ?_)
           | (refine alv_and ?_ ?_; focus (first | rfl | done))
           | refine DrawV.mk [] ?_
           | (refine appc_id ?_; first | refine AppC.growA ?_ | refine AppC.place ?_))
  all_goals (try (conv => whnf))
  · refine LoopV.on (σ := Nat × Int) rfl (fun s => [(0, intX f ps), (4, I ps.length), (8, I i), (9, I s.2), (10, I s.1)]) (fun _ => []) (fun s => s.1 ≤ ps.length ∧ -1 ≤ s.2 ∧ s.2 < ps.length ∧ (s.2 = -1 → hits ps ps.length i = true) ∧ (0 ≤ s.2 → hits ps (ps.length - s.1) s.2 = hits ps ps.length i)) (fun s => ps.length - s.1) (0, i) ?_ ⟨Nat.zero_le _, by simp only; omega, by simp only; omega, by simp only; omega, fun _ => rfl⟩ ?_
    · refine AtS.mk [] [] rfl List.nodup_nil rfl rfl ?_
      (repeat' (first | exact trivial | exact rfl | with_reducible assumption | (refine And.intro ?_ ?_) | (refine Exists.intro _ (And.intro rfl ?_)) | (refine Exists.intro _ (Exists.intro _ (And.intro rfl (And.intro rfl ?_)))) | (refine Or.inl ⟨rfl, rfl, ?_⟩) | (refine Or.inl ⟨rfl, ?_⟩; focus (fail_if_success (refine And.intro ?_ ?_))) | (refine Or.inl (?_ : (_ : Nat) = _ ∧ _); refine ⟨?_, ?_⟩; focus (first | (simp only [List.length_map]; done) | (simp only [List.length_map, List.length_append, List.length_cons, List.length_nil]; done))) | exact Or.inl rfl | (refine Or.inr (Or.inr ⟨?_, ?_⟩)) | (refine Or.inr ⟨?_, ?_⟩) | (refine fun h => ?_; first | exact h | exact rfl | (cases h; done)) | (refine om8 ?_; simp only [← List.map_drop, ← List.map_take]; exact rfl) | ((first | refine om1 ?_ | refine om2 ?_ | refine om3 ?_ | refine om4 ?_ | refine om5 ?_ | refine om6 ?_ | refine om7 ?_); first | (simp only [List.length_map]; done) | (simp only [List.length_map]; omega) | omega)))
    rintro ⟨k, a⟩ ⟨hk, ha0, ha1, hm, hh⟩
    simp only at hk ha0 ha1 hm hh
    dsimp only
    by_cases ha : a = -1
    · have hmm := hm ha
      subst ha
      clear hh hm
      repeat' (conv => whnf
               first
               | (refine get_id ?_; first | refine Get.mk _ rfl ?_ | refine Get.mk _ (int_get ps 0 rfl (by omega)) ?_)
               | (refine need_id ?_; first | refine Need.a ?_)
               | (refine eqk_id ?_; first | refine EqK.a ?_)
               | (refine br_id ?_; first | refine Br.t ?_ | refine Br.f ?_ | (refine Br.pos ?_ ?_; focus (with_reducible assumption)) | (refine Br.neg ?_ ?_; focus (with_reducible assumption)) | (refine Br.dpos ?_ ?_; focus (first | with_reducible exact rfl | with_reducible exact Int.le_refl _ | with_reducible assumption)) | (refine Br.dneg ?_ ?_; focus (with_reducible assumption)) | (refine Br.d (fun _ => ?_) (fun _ => ?_) <;> (first | (exfalso; omega; done) | skip)) | refine Br.n ?_ | (refine Br.s (fun _ => ?_) (fun _ => ?_) <;> (first | (exfalso; omega; done) | skip)) | (refine Br.mk (fun _ => ?_) (fun _ => ?_) <;> (first | (exfalso; omega; done) | skip)))
               | (refine regv_id ?_; first | refine RegV.qg ?_ | refine RegV.d ?_)
               | (refine gds_id ?_; apply GdS.mk)
               | (refine and_id ?_; exact ⟨rfl, rfl, rfl⟩)
               | (refine imp_id ?_; first | refine imp_s (fun _ => ?_) | refine fun _ => ?_)
               | refine NilB.mk (fun b hb => ?_)
               | (refine alv_and ?_ ?_; focus (first | rfl | done))
               | refine DrawV.mk [] ?_
               | (refine appc_id ?_; first | refine AppC.growA ?_ | refine AppC.place ?_))
      all_goals (try (conv => whnf))
      · exfalso
        rename_i hx
        simp at hx
      refine nx (i + 1) (by omega) ⟨by omega, fun u hu => ?_⟩ (AtS.mk [] [] rfl List.nodup_nil rfl rfl ?_)
      · by_cases e : u = i
        · subst e
          exact hmm
        · exact hall u (by omega)
      · (repeat' (first | exact trivial | exact rfl | with_reducible assumption | (refine And.intro ?_ ?_) | (refine Exists.intro _ (And.intro rfl ?_)) | (refine Exists.intro _ (Exists.intro _ (And.intro rfl (And.intro rfl ?_)))) | (refine Or.inl ⟨rfl, rfl, ?_⟩) | (refine Or.inl ⟨rfl, ?_⟩; focus (fail_if_success (refine And.intro ?_ ?_))) | (refine Or.inl (?_ : (_ : Nat) = _ ∧ _); refine ⟨?_, ?_⟩; focus (first | (simp only [List.length_map]; done) | (simp only [List.length_map, List.length_append, List.length_cons, List.length_nil]; done))) | exact Or.inl rfl | (refine Or.inr (Or.inr ⟨?_, ?_⟩)) | (refine Or.inr ⟨?_, ?_⟩) | (refine fun h => ?_; first | exact h | exact rfl | (cases h; done)) | (refine om8 ?_; simp only [← List.map_drop, ← List.map_take]; exact rfl) | ((first | refine om1 ?_ | refine om2 ?_ | refine om3 ?_ | refine om4 ?_ | refine om5 ?_ | refine om6 ?_ | refine om7 ?_); first | (simp only [List.length_map]; done) | (simp only [List.length_map]; omega) | omega)))
    · have hb := ok_bounds hok (show 0 ≤ a by omega) ha1
      have hh := hh (by omega)
      clear hm
      repeat' (conv => whnf
               first
               | (refine get_id ?_; first | refine Get.mk _ rfl ?_ | refine Get.mk _ (int_get ps a.toNat rfl (by omega)) ?_)
               | (refine need_id ?_; first | refine Need.a ?_)
               | (refine eqk_id ?_; first | refine EqK.a ?_)
               | (refine br_id ?_; first | refine Br.t ?_ | refine Br.f ?_ | (refine Br.pos ?_ ?_; focus (with_reducible assumption)) | (refine Br.neg ?_ ?_; focus (with_reducible assumption)) | (refine Br.dpos ?_ ?_; focus (first | with_reducible exact rfl | with_reducible exact Int.le_refl _ | with_reducible assumption)) | (refine Br.dneg ?_ ?_; focus (with_reducible assumption)) | (refine Br.d (fun _ => ?_) (fun _ => ?_) <;> (first | (exfalso; omega; done) | skip)) | refine Br.n ?_ | (refine Br.s (fun _ => ?_) (fun _ => ?_) <;> (first | (exfalso; omega; done) | skip)) | (refine Br.mk (fun _ => ?_) (fun _ => ?_) <;> (first | (exfalso; omega; done) | skip)))
               | (refine regv_id ?_; first | refine RegV.qg ?_ | refine RegV.d ?_)
               | (refine gds_id ?_; apply GdS.mk)
               | (refine and_id ?_; exact ⟨rfl, rfl, rfl⟩)
               | (refine imp_id ?_; first | refine imp_s (fun _ => ?_) | refine fun _ => ?_)
               | refine NilB.mk (fun b hb => ?_)
               | (refine alv_and ?_ ?_; focus (first | rfl | done))
               | refine DrawV.mk [] ?_
               | (refine appc_id ?_; first | refine AppC.growA ?_ | refine AppC.place ?_))
      all_goals (try (conv => whnf))
      · refine nx (k + 1, ps.getD a.toNat 0) (by simp only; omega) ⟨by simp only; omega, by simp only; omega, by simp only; omega, fun h2 => ?_, fun h2 => ?_⟩ (AtS.mk [] [] rfl List.nodup_nil rfl rfl ?_)
        · simp only at h2
          rw [← hh, hits_succ ps (show 0 < ps.length - k by omega), if_pos h2]
        · simp only at h2 ⊢
          rw [← hh, hits_succ ps (show 0 < ps.length - k by omega), if_neg (by omega)]
          rfl
        · (repeat' (first | exact trivial | exact rfl | with_reducible assumption | (refine And.intro ?_ ?_) | (refine Exists.intro _ (And.intro rfl ?_)) | (refine Exists.intro _ (Exists.intro _ (And.intro rfl (And.intro rfl ?_)))) | (refine Or.inl ⟨rfl, rfl, ?_⟩) | (refine Or.inl ⟨rfl, ?_⟩; focus (fail_if_success (refine And.intro ?_ ?_))) | (refine Or.inl (?_ : (_ : Nat) = _ ∧ _); refine ⟨?_, ?_⟩; focus (first | (simp only [List.length_map]; done) | (simp only [List.length_map, List.length_append, List.length_cons, List.length_nil]; done))) | exact Or.inl rfl | (refine Or.inr (Or.inr ⟨?_, ?_⟩)) | (refine Or.inr ⟨?_, ?_⟩) | (refine fun h => ?_; first | exact h | exact rfl | (cases h; done)) | (refine om8 ?_; simp only [← List.map_drop, ← List.map_take]; exact rfl) | ((first | refine om1 ?_ | refine om2 ?_ | refine om3 ?_ | refine om4 ?_ | refine om5 ?_ | refine om6 ?_ | refine om7 ?_); first | (simp only [List.length_map]; done) | (simp only [List.length_map]; omega) | omega)))
      · have e := checkS_far (by omega) (by omega) hok (v := i) (by omega) (by rw [← hh, show ps.length - k = 0 by omega]; rfl) hall
        exact RetP.ii (by rw [e]) (by rw [e])
  · have e := checkS_ok (by omega) (by omega) hok (fun u hu => hall u (by omega))
    exact RetP.ii (by rw [e]) (by rw [e])
end Go.Proofs.Ytobojnfhhobnkaa
