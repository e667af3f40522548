/- The law TreePaths. -/
import Derived.Test.YtobojnfhhobnkaaTree5
import Derived.Test.YtobojnfhhobnkaaRdTree
set_option linter.unusedSimpArgs false
set_option maxRecDepth 20000
set_option linter.unusedVariables false
namespace Go.Proofs.Ytobojnfhhobnkaa
open Go Go.Eng Go.RowKit

theorem takeI_snoc (P : List Int) {j : Nat} (hj : j < P.length) : intR (P.take j) ++ [[I P[j]]] = intR (P.take (j + 1)) := by
  rw [List.take_succ_eq_append_getElem hj, intR, intR, List.map_append]
  rfl
set_option maxHeartbeats 2000000 in
theorem treePaths_pcon (ps : List Int) (x : TEnds) (hl : ps.length < 9223372036854775808) (hx : x.w) : PCon Try.prog 4 [intX false ps, .agg x.row] (Bo true) [] := by
  refine pcon_of (G := gm) Try.func4 rfl rfl rfl ?_
  obtain ⟨a, b, c⟩ := x
  simp only [TEnds.row]
  by_cases h : (checkS ps).2 = 0
  case neg =>
    have hn := new_bad false ps hl h
    generalize checkS ps = r at h hn
    obtain ⟨r1, r2⟩ := r
    dsimp only at h
    repeat' (conv => whnf
             first
             | (refine get_id ?_; first | refine Get.mk _ rfl ?_)
             | (refine need_id ?_; first | refine Need.a ?_)
             | (refine eqk_id ?_; first | refine EqK.a ?_)
             | (refine br_id ?_; first | refine Br.t ?_ | refine Br.f ?_ | (refine Br.pos ?_ ?_; focus (with_reducible assumption)) | (refine Br.neg ?_ ?_; focus (with_reducible assumption)) | (refine Br.dpos ?_ ?_; focus (first | with_reducible exact rfl | with_reducible exact Int.le_refl _ | with_reducible assumption)) | (refine Br.dneg ?_ ?_; focus (with_reducible assumption)) | (refine Br.d (fun _ => ?_) (fun _ => ?_) <;> (first | (exfalso; omega; done) | skip)) | refine Br.n ?_ | (refine Br.s (fun _ => ?_) (fun _ => ?_) <;> (first | (exfalso; omega; done) | skip)) | (refine Br.mk (fun _ => ?_) (fun _ => ?_) <;> (first | (exfalso; omega; done) | skip)))
             | (refine regv_id ?_; first | refine RegV.d (id := 1) ?_ | refine RegV.qg ?_ | refine RegV.d ?_)
             | (refine gds_id ?_; apply GdS.mk)
             | (refine and_id ?_; exact ⟨rfl, rfl, rfl⟩)
             | (refine imp_id ?_; first | refine imp_s (fun _ => ?_) | refine fun _ => ?_)
             | refine NilB.mk (fun b hb => ?_)
             | (refine alv_and ?_ ?_; focus (first | rfl | done))
             | refine DrawV.mk [] ?_
             | (refine appc_id ?_; first | refine AppC.growA ?_ | refine AppC.place ?_)
             | (refine call_id ?_; first
                  | refine CallV.c (wakes_pcon) ?_
                  | refine CallV.c (hn) ?_
                  | refine CallV.e (wakes_pcon) ?_
                  | refine CallV.e (hn) ?_)
             | (refine calls_id ?_; first
                  | refine CallS.c (wakes_pcon) ?_
                  | refine CallS.c (hn) ?_
                  | refine CallS.e (wakes_pcon) ?_
                  | refine CallS.e (hn) ?_))
    all_goals (try (conv => whnf))
    exact RetP.v rfl
  have ht := (tr1_iff ps).1 h
  have hn := new_ok false ps ht
  have c8 := refpath_pcon false ps a b ht
  have hpl : (pathI ps a b).length = (pathN ps a b).length := by simp [pathI]
  have hp32 := pathN_len ht a b
  have i1 := pathAll_icon true ps (nearOf ps) a b ht
  rw [← natIt_map] at i1
  change ICon _ _ _ ((pathI ps a b).map oneIt) at i1
  rw [← hpl] at hp32
  clear hpl
  have c9 := same_pcon false false (pathI ps a b) (by omega)
  generalize pathI ps a b = P at *
  generalize nearOf ps = L at *
  repeat' (conv => whnf
           first
           | (refine get_id ?_; first | refine Get.mk _ rfl ?_)
           | (refine need_id ?_; first | refine Need.a ?_)
           | (refine eqk_id ?_; first | refine EqK.a ?_)
           | (refine br_id ?_; first | refine Br.t ?_ | refine Br.f ?_ | (refine Br.pos ?_ ?_; focus (with_reducible assumption)) | (refine Br.neg ?_ ?_; focus (with_reducible assumption)) | (refine Br.dpos ?_ ?_; focus (first | with_reducible exact rfl | with_reducible exact Int.le_refl _ | with_reducible assumption)) | (refine Br.dneg ?_ ?_; focus (with_reducible assumption)) | (refine Br.d (fun _ => ?_) (fun _ => ?_) <;> (first | (exfalso; omega; done) | skip)) | refine Br.n ?_ | (refine Br.s (fun _ => ?_) (fun _ => ?_) <;> (first | (exfalso; omega; done) | skip)) | (refine Br.mk (fun _ => ?_) (fun _ => ?_) <;> (first | (exfalso; omega; done) | skip)))
           | (refine regv_id ?_; first | refine RegV.d (id := 1) ?_ | refine RegV.qg ?_ | refine RegV.d ?_)
           | (refine gds_id ?_; apply GdS.mk)
           | (refine and_id ?_; exact ⟨rfl, rfl, rfl⟩)
           | (refine imp_id ?_; first | refine imp_s (fun _ => ?_) | refine fun _ => ?_)
           | refine NilB.mk (fun b hb => ?_)
           | (refine alv_and ?_ ?_; focus (first | rfl | done))
           | refine DrawV.mk [] ?_
           | (refine appc_id ?_; first | refine AppC.growA ?_ | refine AppC.place ?_)
           | (refine call_id ?_; first
                | refine CallV.c (wakes_pcon) ?_
                | refine CallV.c (hn) ?_
                | refine CallV.c (c8) ?_
                | refine CallV.c (path_pcon ps L a b) ?_
                | refine CallV.e (wakes_pcon) ?_
                | refine CallV.e (hn) ?_
                | refine CallV.e (c8) ?_
                | refine CallV.e (path_pcon ps L a b) ?_)
           | (refine calls_id ?_; first
                | refine CallS.c (wakes_pcon) ?_
                | refine CallS.c (hn) ?_
                | refine CallS.c (c8) ?_
                | refine CallS.c (path_pcon ps L a b) ?_
                | refine CallS.e (wakes_pcon) ?_
                | refine CallS.e (hn) ?_
                | refine CallS.e (c8) ?_
                | refine CallS.e (path_pcon ps L a b) ?_))
  all_goals (try (conv => whnf))
  refine RangeV.on rfl P oneIt 5 31 (pathCaps true ps L a b) [(4, .ptr 0 0 0), (7, .ptr 1 0 0), (8, treeX true ps L), (10, .ptr 3 0 0), (11, .clo 31 (pathCaps true ps L a b)), (12, .ptr 4 0 0), (43, .clo 31 (pathCaps true ps L a b))]
    (fun j : Nat => [some ⟨4, 1, true, false, [[Bo false]]⟩, some ⟨3, 1, true, false, [[I c]]⟩, some (intB P), some ⟨22, 1, false, false, [[.own 2 P.length]]⟩, some ⟨22, 1, false, false, [[.own 5 j]]⟩, some (intB (P.take j))])
    (fun j s => s = j) 0 i1 ?_ rfl rfl rfl (fun x => ⟨rfl, rfl⟩) (Nat.zero_le _) rfl (fun _ => rfl) ?_ ?_
  · refine AtS.mk [(3, 1)] [1, 2, 3, 4, 5, 6] rfl (by simp) rfl ?_ ?_
    · (repeat' (first | exact trivial | exact rfl | with_reducible assumption | (refine And.intro ?_ ?_) | (refine Exists.intro _ (And.intro rfl ?_)) | (refine Exists.intro _ (Exists.intro _ (And.intro rfl (And.intro rfl ?_)))) | (refine Or.inl ⟨rfl, rfl, ?_⟩) | (refine Or.inl ⟨rfl, ?_⟩; focus (fail_if_success (refine And.intro ?_ ?_))) | (refine Or.inl (?_ : (_ : Nat) = _ ∧ _); refine ⟨?_, ?_⟩; focus (first | (simp only [List.length_map]; done) | (simp only [List.length_map, List.length_append, List.length_cons, List.length_nil]; done))) | exact Or.inl rfl | (refine Or.inr (Or.inr ⟨?_, ?_⟩)) | (refine Or.inr ⟨?_, ?_⟩) | (refine fun h => ?_; first | exact h | exact rfl | (cases h; done)) | (refine om8 ?_; simp only [← List.map_drop, ← List.map_take]; exact rfl) | ((first | refine om1 ?_ | refine om2 ?_ | refine om3 ?_ | refine om4 ?_ | refine om5 ?_ | refine om6 ?_ | refine om7 ?_); first | (simp only [List.length_map]; done) | (simp only [List.length_map]; omega) | omega)))
      all_goals done
    · unfold pathCaps
      (repeat' (first | exact trivial | exact rfl | with_reducible assumption | (refine And.intro ?_ ?_) | (refine Exists.intro _ (And.intro rfl ?_)) | (refine Exists.intro _ (Exists.intro _ (And.intro rfl (And.intro rfl ?_)))) | (refine Or.inl ⟨rfl, rfl, ?_⟩) | (refine Or.inl ⟨rfl, ?_⟩; focus (fail_if_success (refine And.intro ?_ ?_))) | (refine Or.inl (?_ : (_ : Nat) = _ ∧ _); refine ⟨?_, ?_⟩; focus (first | (simp only [List.length_map]; done) | (simp only [List.length_map, List.length_append, List.length_cons, List.length_nil]; done))) | exact Or.inl rfl | (refine Or.inr (Or.inr ⟨?_, ?_⟩)) | (refine Or.inr ⟨?_, ?_⟩) | (refine fun h => ?_; first | exact h | exact rfl | (cases h; done)) | (refine om8 ?_; simp only [← List.map_drop, ← List.map_take]; exact rfl) | ((first | refine om1 ?_ | refine om2 ?_ | refine om3 ?_ | refine om4 ?_ | refine om5 ?_ | refine om6 ?_ | refine om7 ?_); first | (simp only [List.length_map]; done) | (simp only [List.length_map]; omega) | omega)))
  · rintro _ hj j rfl
    have hsn := takeI_snoc P hj
    have htl : (intR (P.take j)).length = j := by simp [intR]; omega
    unfold intB oneIt
    generalize P[j] = v at *
    repeat' (conv => whnf
             first
             | (refine get_id ?_; first | refine Get.mk _ rfl ?_)
             | (refine need_id ?_; first | refine Need.a ?_ | refine Need.mk (by (exact ⟨rfl, rfl, rfl, htl.symm, rfl, rfl⟩)) ?_)
             | (refine eqk_id ?_; first | refine EqK.a ?_)
             | (refine br_id ?_; first | refine Br.t ?_ | refine Br.f ?_ | (refine Br.pos ?_ ?_; focus (with_reducible assumption)) | (refine Br.neg ?_ ?_; focus (with_reducible assumption)) | (refine Br.dpos ?_ ?_; focus (first | with_reducible exact rfl | with_reducible exact Int.le_refl _ | with_reducible assumption)) | (refine Br.dneg ?_ ?_; focus (with_reducible assumption)) | (refine Br.d (fun _ => ?_) (fun _ => ?_) <;> (first | (exfalso; omega; done) | skip)) | refine Br.n ?_ | (refine Br.s (fun _ => ?_) (fun _ => ?_) <;> (first | (exfalso; omega; done) | skip)) | (refine Br.mk (fun _ => ?_) (fun _ => ?_) <;> (first | (exfalso; omega; done) | skip)))
             | (refine regv_id ?_; first | refine RegV.qg ?_ | refine RegV.d ?_)
             | (refine gds_id ?_; apply GdS.mk)
             | (refine and_id ?_; exact ⟨rfl, rfl, rfl⟩)
             | (refine imp_id ?_; first | refine imp_s (fun _ => ?_) | refine fun _ => ?_)
             | refine NilB.mk (fun b hb => ?_)
             | (refine alv_and ?_ ?_; focus (first | rfl | done))
             | refine DrawV.mk [] ?_
             | (refine appc_id ?_; first | refine AppC.growA ?_ | refine AppC.grow (by (exact htl.symm)) ?_ | refine AppC.place ?_))
    all_goals (try (conv => whnf))
    refine nxr (j + 1) rfl (AtS.mk [] [0, 1, 2, 3, 4, 7] rfl (by simp) rfl ?_ ?_)
    · (repeat' (first | exact trivial | exact rfl | with_reducible assumption | (refine And.intro ?_ ?_) | (refine Exists.intro _ (And.intro rfl ?_)) | (refine Exists.intro _ (Exists.intro _ (And.intro rfl (And.intro rfl ?_)))) | (refine Or.inl ⟨rfl, rfl, ?_⟩) | (refine Or.inl ⟨rfl, ?_⟩; focus (fail_if_success (refine And.intro ?_ ?_))) | (refine Or.inl (?_ : (_ : Nat) = _ ∧ _); refine ⟨?_, ?_⟩; focus (first | (simp only [List.length_map]; done) | (simp only [List.length_map, List.length_append, List.length_cons, List.length_nil]; done))) | exact Or.inl rfl | (refine Or.inr (Or.inr ⟨?_, ?_⟩)) | (refine Or.inr ⟨?_, ?_⟩) | (refine fun h => ?_; first | exact h | exact rfl | (cases h; done)) | (refine om8 ?_; simp only [← List.map_drop, ← List.map_take]; exact rfl) | ((first | refine om1 ?_ | refine om2 ?_ | refine om3 ?_ | refine om4 ?_ | refine om5 ?_ | refine om6 ?_ | refine om7 ?_); first | (simp only [List.length_map]; done) | (simp only [List.length_map]; omega) | omega)))
      all_goals exact hsn
    · (repeat' (first | exact trivial | exact rfl | with_reducible assumption | (refine And.intro ?_ ?_) | (refine Exists.intro _ (And.intro rfl ?_)) | (refine Exists.intro _ (Exists.intro _ (And.intro rfl (And.intro rfl ?_)))) | (refine Or.inl ⟨rfl, rfl, ?_⟩) | (refine Or.inl ⟨rfl, ?_⟩; focus (fail_if_success (refine And.intro ?_ ?_))) | (refine Or.inl (?_ : (_ : Nat) = _ ∧ _); refine ⟨?_, ?_⟩; focus (first | (simp only [List.length_map]; done) | (simp only [List.length_map, List.length_append, List.length_cons, List.length_nil]; done))) | exact Or.inl rfl | (refine Or.inr (Or.inr ⟨?_, ?_⟩)) | (refine Or.inr ⟨?_, ?_⟩) | (refine fun h => ?_; first | exact h | exact rfl | (cases h; done)) | (refine om8 ?_; simp only [← List.map_drop, ← List.map_take]; exact rfl) | ((first | refine om1 ?_ | refine om2 ?_ | refine om3 ?_ | refine om4 ?_ | refine om5 ?_ | refine om6 ?_ | refine om7 ?_); first | (simp only [List.length_map]; done) | (simp only [List.length_map]; omega) | omega)))
  rintro j rfl
  rw [List.take_length]
  repeat' (conv => whnf
           first
           | (refine get_id ?_; first | refine Get.mk _ rfl ?_)
           | (refine need_id ?_; first | refine Need.a ?_)
           | (refine eqk_id ?_; first | refine EqK.a ?_)
           | (refine br_id ?_; first | refine Br.t ?_ | refine Br.f ?_ | (refine Br.pos ?_ ?_; focus (with_reducible assumption)) | (refine Br.neg ?_ ?_; focus (with_reducible assumption)) | (refine Br.dpos ?_ ?_; focus (first | with_reducible exact rfl | with_reducible exact Int.le_refl _ | with_reducible assumption)) | (refine Br.dneg ?_ ?_; focus (with_reducible assumption)) | (refine Br.d (fun _ => ?_) (fun _ => ?_) <;> (first | (exfalso; omega; done) | skip)) | refine Br.n ?_ | (refine Br.s (fun _ => ?_) (fun _ => ?_) <;> (first | (exfalso; omega; done) | skip)) | (refine Br.mk (fun _ => ?_) (fun _ => ?_) <;> (first | (exfalso; omega; done) | skip)))
           | (refine regv_id ?_; first | refine RegV.qg ?_ | refine RegV.d ?_)
           | (refine gds_id ?_; apply GdS.mk)
           | (refine and_id ?_; exact ⟨rfl, rfl, rfl⟩)
           | (refine imp_id ?_; first | refine imp_s (fun _ => ?_) | refine fun _ => ?_)
           | refine NilB.mk (fun b hb => ?_)
           | (refine alv_and ?_ ?_; focus (first | rfl | done))
           | refine DrawV.mk [] ?_
           | (refine appc_id ?_; first | refine AppC.growA ?_ | refine AppC.place ?_))
  all_goals (try (conv => whnf))
  refine RangeV.on rfl P oneIt 7 31 (pathCaps true ps L a b) [(4, .ptr 0 0 0), (7, .ptr 1 0 0), (8, treeX true ps L), (10, .ptr 3 0 0), (12, .ptr 4 0 0), (14, .ptr 6 0 0), (54, .clo 31 (pathCaps true ps L a b))]
    (fun j : Nat => [some ⟨4, 1, true, false, [[Bo false]]⟩, some ⟨3, 1, true, false, [[I c]]⟩, some (intB P), some ⟨22, 1, false, false, [[.own 2 P.length]]⟩, some ⟨22, 1, false, false, [[.own 5 P.length]]⟩, some (intB P), some ⟨3, 1, true, false, [[I j]]⟩])
    (fun j s => s = j) 0 i1 ?_ rfl rfl rfl (fun x => ⟨rfl, rfl⟩) (Nat.zero_le _) rfl (fun _ => rfl) ?_ ?_
  · refine AtS.mk [] [0, 1, 2, 3, 4, 5, 6] rfl (by simp) rfl ?_ ?_
    · (repeat' (first | exact trivial | exact rfl | with_reducible assumption | (refine And.intro ?_ ?_) | (refine Exists.intro _ (And.intro rfl ?_)) | (refine Exists.intro _ (Exists.intro _ (And.intro rfl (And.intro rfl ?_)))) | (refine Or.inl ⟨rfl, rfl, ?_⟩) | (refine Or.inl ⟨rfl, ?_⟩; focus (fail_if_success (refine And.intro ?_ ?_))) | (refine Or.inl (?_ : (_ : Nat) = _ ∧ _); refine ⟨?_, ?_⟩; focus (first | (simp only [List.length_map]; done) | (simp only [List.length_map, List.length_append, List.length_cons, List.length_nil]; done))) | exact Or.inl rfl | (refine Or.inr (Or.inr ⟨?_, ?_⟩)) | (refine Or.inr ⟨?_, ?_⟩) | (refine fun h => ?_; first | exact h | exact rfl | (cases h; done)) | (refine om8 ?_; simp only [← List.map_drop, ← List.map_take]; exact rfl) | ((first | refine om1 ?_ | refine om2 ?_ | refine om3 ?_ | refine om4 ?_ | refine om5 ?_ | refine om6 ?_ | refine om7 ?_); first | (simp only [List.length_map]; done) | (simp only [List.length_map]; omega) | omega)))
    · unfold pathCaps
      (repeat' (first | exact trivial | exact rfl | with_reducible assumption | (refine And.intro ?_ ?_) | (refine Exists.intro _ (And.intro rfl ?_)) | (refine Exists.intro _ (Exists.intro _ (And.intro rfl (And.intro rfl ?_)))) | (refine Or.inl ⟨rfl, rfl, ?_⟩) | (refine Or.inl ⟨rfl, ?_⟩; focus (fail_if_success (refine And.intro ?_ ?_))) | (refine Or.inl (?_ : (_ : Nat) = _ ∧ _); refine ⟨?_, ?_⟩; focus (first | (simp only [List.length_map]; done) | (simp only [List.length_map, List.length_append, List.length_cons, List.length_nil]; done))) | exact Or.inl rfl | (refine Or.inr (Or.inr ⟨?_, ?_⟩)) | (refine Or.inr ⟨?_, ?_⟩) | (refine fun h => ?_; first | exact h | exact rfl | (cases h; done)) | (refine om8 ?_; simp only [← List.map_drop, ← List.map_take]; exact rfl) | ((first | refine om1 ?_ | refine om2 ?_ | refine om3 ?_ | refine om4 ?_ | refine om5 ?_ | refine om6 ?_ | refine om7 ?_); first | (simp only [List.length_map]; done) | (simp only [List.length_map]; omega) | omega)))
  · rintro _ hj j rfl
    have hg := int_get P j (Int.toNat_natCast j) hj
    rw [show P.getD j 0 = P[j] by simp [hj]] at hg
    unfold oneIt
    generalize P[j] = v at *
    repeat' (conv => whnf
             first
             | (refine get_id ?_; first | refine Get.mk _ rfl ?_ | refine Get.mk _ (hg) ?_)
             | (refine need_id ?_; first | refine Need.a ?_)
             | (refine eqk_id ?_; first | refine EqK.a ?_)
             | (refine br_id ?_; first | refine Br.t ?_ | refine Br.f ?_ | (refine Br.pos ?_ ?_; focus (with_reducible assumption)) | (refine Br.neg ?_ ?_; focus (with_reducible assumption)) | (refine Br.dpos ?_ ?_; focus (first | with_reducible exact rfl | with_reducible exact Int.le_refl _ | with_reducible assumption)) | (refine Br.dneg ?_ ?_; focus (with_reducible assumption)) | (refine Br.d (fun _ => ?_) (fun _ => ?_) <;> (first | (exfalso; omega; done) | skip)) | refine Br.n ?_ | (refine Br.s (fun _ => ?_) (fun _ => ?_) <;> (first | (exfalso; omega; done) | skip)) | (refine Br.mk (fun _ => ?_) (fun _ => ?_) <;> (first | (exfalso; omega; done) | skip)))
             | (refine regv_id ?_; first | refine RegV.qg ?_ | refine RegV.d ?_)
             | (refine gds_id ?_; apply GdS.mk)
             | (refine and_id ?_; exact ⟨rfl, rfl, rfl⟩)
             | (refine imp_id ?_; first | refine imp_s (fun _ => ?_) | refine fun _ => ?_)
             | refine NilB.mk (fun b hb => ?_)
             | (refine alv_and ?_ ?_; focus (first | rfl | done))
             | refine DrawV.mk [] ?_
             | (refine appc_id ?_; first | refine AppC.growA ?_ | refine AppC.place ?_)
             | (refine call_id ?_; first
                  | refine CallV.c (c9) ?_
                  | refine CallV.e (c9) ?_)
             | (refine calls_id ?_; first
                  | refine CallS.c (c9) ?_
                  | refine CallS.e (c9) ?_))
    all_goals (try (conv => whnf))
    · exact RetP.v rfl
    · refine nxr (j + 1) rfl (AtS.mk [] [0, 1, 2, 3, 4, 5, 6] rfl (by simp) rfl ?_ ?_)
      · (repeat' (first | exact trivial | exact rfl | with_reducible assumption | (refine And.intro ?_ ?_) | (refine Exists.intro _ (And.intro rfl ?_)) | (refine Exists.intro _ (Exists.intro _ (And.intro rfl (And.intro rfl ?_)))) | (refine Or.inl ⟨rfl, rfl, ?_⟩) | (refine Or.inl ⟨rfl, ?_⟩; focus (fail_if_success (refine And.intro ?_ ?_))) | (refine Or.inl (?_ : (_ : Nat) = _ ∧ _); refine ⟨?_, ?_⟩; focus (first | (simp only [List.length_map]; done) | (simp only [List.length_map, List.length_append, List.length_cons, List.length_nil]; done))) | exact Or.inl rfl | (refine Or.inr (Or.inr ⟨?_, ?_⟩)) | (refine Or.inr ⟨?_, ?_⟩) | (refine fun h => ?_; first | exact h | exact rfl | (cases h; done)) | (refine om8 ?_; simp only [← List.map_drop, ← List.map_take]; exact rfl) | ((first | refine om1 ?_ | refine om2 ?_ | refine om3 ?_ | refine om4 ?_ | refine om5 ?_ | refine om6 ?_ | refine om7 ?_); first | (simp only [List.length_map]; done) | (simp only [List.length_map]; omega) | omega)))
      · (repeat' (first | exact trivial | exact rfl | with_reducible assumption | (refine And.intro ?_ ?_) | (refine Exists.intro _ (And.intro rfl ?_)) | (refine Exists.intro _ (Exists.intro _ (And.intro rfl (And.intro rfl ?_)))) | (refine Or.inl ⟨rfl, rfl, ?_⟩) | (refine Or.inl ⟨rfl, ?_⟩; focus (fail_if_success (refine And.intro ?_ ?_))) | (refine Or.inl (?_ : (_ : Nat) = _ ∧ _); refine ⟨?_, ?_⟩; focus (first | (simp only [List.length_map]; done) | (simp only [List.length_map, List.length_append, List.length_cons, List.length_nil]; done))) | exact Or.inl rfl | (refine Or.inr (Or.inr ⟨?_, ?_⟩)) | (refine Or.inr ⟨?_, ?_⟩) | (refine fun h => ?_; first | exact h | exact rfl | (cases h; done)) | (refine om8 ?_; simp only [← List.map_drop, ← List.map_take]; exact rfl) | ((first | refine om1 ?_ | refine om2 ?_ | refine om3 ?_ | refine om4 ?_ | refine om5 ?_ | refine om6 ?_ | refine om7 ?_); first | (simp only [List.length_map]; done) | (simp only [List.length_map]; omega) | omega)))
  rintro j rfl
  repeat' (conv => whnf
           first
           | (refine get_id ?_; first | refine Get.mk _ rfl ?_)
           | (refine need_id ?_; first | refine Need.a ?_)
           | (refine eqk_id ?_; first | refine EqK.a ?_)
           | (refine br_id ?_; first | refine Br.t ?_ | refine Br.f ?_ | (refine Br.pos ?_ ?_; focus (with_reducible assumption)) | (refine Br.neg ?_ ?_; focus (with_reducible assumption)) | (refine Br.dpos ?_ ?_; focus (first | with_reducible exact rfl | with_reducible exact Int.le_refl _ | with_reducible assumption)) | (refine Br.dneg ?_ ?_; focus (with_reducible assumption)) | (refine Br.d (fun _ => ?_) (fun _ => ?_) <;> (first | (exfalso; omega; done) | skip)) | refine Br.n ?_ | (refine Br.s (fun _ => ?_) (fun _ => ?_) <;> (first | (exfalso; omega; done) | skip)) | (refine Br.mk (fun _ => ?_) (fun _ => ?_) <;> (first | (exfalso; omega; done) | skip)))
           | (refine regv_id ?_; first | refine RegV.qg ?_ | refine RegV.d ?_)
           | (refine gds_id ?_; apply GdS.mk)
           | (refine and_id ?_; exact ⟨rfl, rfl, rfl⟩)
           | (refine imp_id ?_; first | refine imp_s (fun _ => ?_) | refine fun _ => ?_)
           | refine NilB.mk (fun b hb => ?_)
           | (refine alv_and ?_ ?_; focus (first | rfl | done))
           | refine DrawV.mk [] ?_
           | (refine appc_id ?_; first | refine AppC.growA ?_ | refine AppC.place ?_)
           | (refine call_id ?_; first
                | refine CallV.c (c9) ?_
                | refine CallV.e (c9) ?_)
           | (refine calls_id ?_; first
                | refine CallS.c (c9) ?_
                | refine CallS.e (c9) ?_))
  all_goals (try (conv => whnf))
  exact RetP.v rfl
end Go.Proofs.Ytobojnfhhobnkaa
