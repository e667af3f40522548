/- tree.New's answer; what a tree must do; the law TreeChecks. -/
import Derived.Test.YtobojnfhhobnkaaTreeS
set_option linter.unusedSimpArgs false
set_option maxRecDepth 20000
set_option linter.unusedVariables false
namespace Go.Proofs.Ytobojnfhhobnkaa
open Go Go.Eng Go.RowKit

/-- The lists of the neighbours, rising. -/
def nearOf (ps : List Int) : List (List Int) := (nwL ps ps.length).map sortI
theorem nearOf_length (ps : List Int) : (nearOf ps).length = ps.length := by simp [nearOf, nwL_length]
theorem new_ok (f : Bool) (ps : List Int) (h : Tr1 ps) : PCon Try.prog 14 [intX f ps] (.tup [treeX true ps (nearOf ps), I 0]) [] := new_pcon sort_ok f ps h
theorem new_bad (f : Bool) (ps : List Int) (hl : ps.length < 9223372036854775808) (h : (checkS ps).2 ≠ 0) : PCon Try.prog 14 [intX f ps] (.tup [treeN, I (checkS ps).2]) [] := by
  refine pcon_of (G := gm) Try.func14 rfl rfl rfl ?_
  have hc := check_pcon f ps hl
  generalize checkS ps = r at hc h
  obtain ⟨r1, r2⟩ := r
  repeat' (conv => whnf
           first
           | (refine get_id ?_; first | refine Get.mk _ rfl ?_)
           | (refine need_id ?_; first | refine Need.a ?_)
           | (refine eqk_id ?_; first | refine EqK.a ?_)
           | (refine br_id ?_; first | refine Br.t ?_ | refine Br.f ?_ | (refine Br.pos ?_ ?_; focus (with_reducible assumption)) | (refine Br.neg ?_ ?_; focus (with_reducible assumption)) | (refine Br.dpos ?_ ?_; focus (first | with_reducible exact rfl | with_reducible exact Int.le_refl _ | with_reducible assumption)) | (refine Br.dneg ?_ ?_; focus (with_reducible assumption)) | (refine Br.d (fun _ => ?_) (fun _ => ?_) <;> (first | (exfalso; omega; done) | skip)) | refine Br.n ?_ | (refine Br.s (fun _ => ?_) (fun _ => ?_) <;> (first | (exfalso; omega; done) | skip)) | (refine Br.mk (fun _ => ?_) (fun _ => ?_) <;> (first | (exfalso; omega; done) | skip)))
           | (refine regv_id ?_; first | refine RegV.d ?_)
           | refine NilB.mk (fun b hb => ?_)
           | (refine alv_and ?_ ?_; focus (first | rfl | done))
           | refine DrawV.mk [] ?_
           | (refine appc_id ?_; first | refine AppC.growA ?_ | refine AppC.place ?_)
           | (refine call_id ?_; first
                | refine CallV.c (hc) ?_
                | refine CallV.e (hc) ?_)
           | (refine calls_id ?_; first
                | refine CallS.c (hc) ?_
                | refine CallS.e (hc) ?_))
  all_goals (try (conv => whnf))
  exact RetM.mk [] [] (.tup [treeN, I r2]) [] List.nodup_nil rfl rfl (by (repeat' (first | exact trivial | exact rfl | with_reducible assumption | (refine And.intro ?_ ?_) | (refine Exists.intro _ (And.intro rfl ?_)) | (refine Exists.intro _ (Exists.intro _ (And.intro rfl (And.intro rfl ?_)))) | (refine Or.inl ⟨rfl, rfl, ?_⟩) | (refine Or.inl ⟨rfl, ?_⟩; focus (fail_if_success (refine And.intro ?_ ?_))) | (refine Or.inl (?_ : (_ : Nat) = _ ∧ _); refine ⟨?_, ?_⟩; focus (first | (simp only [List.length_map]; done) | (simp only [List.length_map, List.length_append, List.length_cons, List.length_nil]; done))) | exact Or.inl rfl | (refine Or.inr (Or.inr ⟨?_, ?_⟩)) | (refine Or.inr ⟨?_, ?_⟩) | (refine fun h => ?_; first | exact h | exact rfl | (cases h; done)) | (refine om8 ?_; simp only [← List.map_drop, ← List.map_take]; exact rfl) | ((first | refine om1 ?_ | refine om2 ?_ | refine om3 ?_ | refine om4 ?_ | refine om5 ?_ | refine om6 ?_ | refine om7 ?_); first | (simp only [List.length_map]; done) | (simp only [List.length_map]; omega) | omega)))) (by simp [Sv.Fr, Sv.Fr.go]) trivial ⟨rfl, rfl⟩
def p0 : List Int := [-1, 0, 0, 1]
theorem p0_tr : Tr1 p0 := (tr1_iff p0).1 (by decide)
theorem wakes_pcon : PCon Try.prog 11 [] (Bo true) [] := by
  refine pcon_of (G := gm) Try.func11 rfl rfl rfl ?_
  have c1 := new_ok false p0 p0_tr
  have c2 := size_pcon true p0 (nearOf p0)
  have c3 := next_pcon true p0 (nearOf p0) 3 2 p0_tr
  rw [show nextS p0 3 2 = 1 by decide] at c3
  have c4 := next_pcon true p0 (nearOf p0) 0 3 p0_tr
  rw [show nextS p0 0 3 = 1 by decide] at c4
  have hw : Way p0 2 [3, 1, 0, 2] := by
    refine ⟨by decide, by decide, by decide, by decide, by decide, by decide, rfl⟩
  have c5 := dist_pcon p0 (nearOf p0) 3 2 [3, 1, 0, 2] (path1_icon true p0 (nearOf p0) 3 2 [3, 1, 0, 2] p0_tr (by decide) (by decide) rfl hw) (by decide)
  generalize nearOf p0 = L at *
  repeat' (conv => whnf
           first
           | (refine get_id ?_; first | refine Get.mk _ rfl ?_)
           | (refine need_id ?_; first | refine Need.a ?_)
           | (refine eqk_id ?_; first | refine EqK.a ?_)
           | (refine br_id ?_; first | refine Br.t ?_ | refine Br.f ?_ | (refine Br.pos ?_ ?_; focus (with_reducible assumption)) | (refine Br.neg ?_ ?_; focus (with_reducible assumption)) | (refine Br.dpos ?_ ?_; focus (first | with_reducible exact rfl | with_reducible exact Int.le_refl _ | with_reducible assumption)) | (refine Br.dneg ?_ ?_; focus (with_reducible assumption)) | (refine Br.d (fun _ => ?_) (fun _ => ?_) <;> (first | (exfalso; omega; done) | skip)) | refine Br.n ?_ | (refine Br.s (fun _ => ?_) (fun _ => ?_) <;> (first | (exfalso; omega; done) | skip)) | (refine Br.mk (fun _ => ?_) (fun _ => ?_) <;> (first | (exfalso; omega; done) | skip)))
           | (refine regv_id ?_; first | refine RegV.qg ?_ | refine RegV.d ?_)
           | (refine gds_id ?_; apply GdS.mk)
           | (refine and_id ?_; exact ⟨rfl, rfl, rfl⟩)
           | (refine imp_id ?_; first | refine imp_s (fun _ => ?_) | refine fun _ => ?_)
           | refine NilB.mk (fun b hb => ?_)
           | (refine alv_and ?_ ?_; focus (first | rfl | done))
           | refine DrawV.mk [] ?_
           | (refine appc_id ?_; first | refine AppC.growA ?_ | refine AppC.place ?_)
           | (refine call_id ?_; first
                | refine CallV.c (c1) ?_
                | refine CallV.c (c2) ?_
                | refine CallV.c (c3) ?_
                | refine CallV.c (c4) ?_
                | refine CallV.c (c5) ?_
                | refine CallV.e (c1) ?_
                | refine CallV.e (c2) ?_
                | refine CallV.e (c3) ?_
                | refine CallV.e (c4) ?_
                | refine CallV.e (c5) ?_)
           | (refine calls_id ?_; first
                | refine CallS.c (c1) ?_
                | refine CallS.c (c2) ?_
                | refine CallS.c (c3) ?_
                | refine CallS.c (c4) ?_
                | refine CallS.c (c5) ?_
                | refine CallS.e (c1) ?_
                | refine CallS.e (c2) ?_
                | refine CallS.e (c3) ?_
                | refine CallS.e (c4) ?_
                | refine CallS.e (c5) ?_))
  all_goals (try (conv => whnf))
  exact RetP.v rfl
theorem treeChecks_pcon (ps : List Int) (hl : ps.length < 9223372036854775808) : PCon Try.prog 3 [intX false ps] (Bo true) [] := by
  refine pcon_of (G := gm) Try.func3 rfl rfl rfl ?_
  have hc := check_pcon false ps hl
  have hr := refcheck_pcon false ps hl
  by_cases h : (checkS ps).2 = 0
  · have hn := new_ok false ps ((tr1_iff ps).1 h)
    generalize checkS ps = r at hc hr h
    obtain ⟨r1, r2⟩ := r
    dsimp only at h
    subst h
    generalize nearOf ps = L at *
    repeat' (conv => whnf
             first
             | (refine get_id ?_; first | refine Get.mk _ rfl ?_)
             | (refine need_id ?_; first | refine Need.a ?_)
             | (refine eqk_id ?_; first | refine EqK.a ?_)
             | (refine br_id ?_; first | refine Br.t ?_ | refine Br.f ?_ | (refine Br.pos ?_ ?_; focus (with_reducible assumption)) | (refine Br.neg ?_ ?_; focus (with_reducible assumption)) | (refine Br.dpos ?_ ?_; focus (first | with_reducible exact rfl | with_reducible exact Int.le_refl _ | with_reducible assumption)) | (refine Br.dneg ?_ ?_; focus (with_reducible assumption)) | (refine Br.d (fun _ => ?_) (fun _ => ?_) <;> (first | (exfalso; omega; done) | skip)) | refine Br.n ?_ | (refine Br.s (fun _ => ?_) (fun _ => ?_) <;> (first | (exfalso; omega; done) | skip)) | (refine Br.mk (fun _ => ?_) (fun _ => ?_) <;> (first | (exfalso; omega; done) | skip)))
             | (refine regv_id ?_; first | refine RegV.qg ?_ | refine RegV.d ?_)
             | (refine gds_id ?_; apply GdS.mk)
             | (refine and_id ?_; exact ⟨rfl, rfl, rfl⟩)
             | (refine imp_id ?_; first | refine imp_s (fun _ => ?_) | refine fun _ => ?_)
             | refine NilB.mk (fun b hb => ?_)
             | (refine alv_and ?_ ?_; focus (first | rfl | done))
             | refine DrawV.mk [] ?_
             | (refine appc_id ?_; first | refine AppC.growA ?_ | refine AppC.place ?_)
             | (refine call_id ?_; first
                  | refine CallV.c (wakes_pcon) ?_
                  | refine CallV.c (hc) ?_
                  | refine CallV.c (hr) ?_
                  | refine CallV.c (hn) ?_
                  | refine CallV.e (wakes_pcon) ?_
                  | refine CallV.e (hc) ?_
                  | refine CallV.e (hr) ?_
                  | refine CallV.e (hn) ?_)
             | (refine calls_id ?_; first
                  | refine CallS.c (wakes_pcon) ?_
                  | refine CallS.c (hc) ?_
                  | refine CallS.c (hr) ?_
                  | refine CallS.c (hn) ?_
                  | refine CallS.e (wakes_pcon) ?_
                  | refine CallS.e (hc) ?_
                  | refine CallS.e (hr) ?_
                  | refine CallS.e (hn) ?_))
    all_goals (try (conv => whnf))
    exact RetP.v (by simp)
  · have hn := new_bad false ps hl h
    generalize checkS ps = r at hc hr h hn
    obtain ⟨r1, r2⟩ := r
    dsimp only at h
    repeat' (conv => whnf
             first
             | (refine get_id ?_; first | refine Get.mk _ rfl ?_)
             | (refine need_id ?_; first | refine Need.a ?_)
             | (refine eqk_id ?_; first | refine EqK.a ?_)
             | (refine br_id ?_; first | refine Br.t ?_ | refine Br.f ?_ | (refine Br.pos ?_ ?_; focus (with_reducible assumption)) | (refine Br.neg ?_ ?_; focus (with_reducible assumption)) | (refine Br.dpos ?_ ?_; focus (first | with_reducible exact rfl | with_reducible exact Int.le_refl _ | with_reducible assumption)) | (refine Br.dneg ?_ ?_; focus (with_reducible assumption)) | (refine Br.d (fun _ => ?_) (fun _ => ?_) <;> (first | (exfalso; omega; done) | skip)) | refine Br.n ?_ | (refine Br.s (fun _ => ?_) (fun _ => ?_) <;> (first | (exfalso; omega; done) | skip)) | (refine Br.mk (fun _ => ?_) (fun _ => ?_) <;> (first | (exfalso; omega; done) | skip)))
             | (refine regv_id ?_; first | refine RegV.qg ?_ | refine RegV.d ?_)
             | (refine gds_id ?_; apply GdS.mk)
             | (refine and_id ?_; exact ⟨rfl, rfl, rfl⟩)
             | (refine imp_id ?_; first | refine imp_s (fun _ => ?_) | refine fun _ => ?_)
             | refine NilB.mk (fun b hb => ?_)
             | (refine alv_and ?_ ?_; focus (first | rfl | done))
             | refine DrawV.mk [] ?_
             | (refine appc_id ?_; first | refine AppC.growA ?_ | refine AppC.place ?_)
             | (refine call_id ?_; first
                  | refine CallV.c (wakes_pcon) ?_
                  | refine CallV.c (hc) ?_
                  | refine CallV.c (hr) ?_
                  | refine CallV.c (hn) ?_
                  | refine CallV.e (wakes_pcon) ?_
                  | refine CallV.e (hc) ?_
                  | refine CallV.e (hr) ?_
                  | refine CallV.e (hn) ?_)
             | (refine calls_id ?_; first
                  | refine CallS.c (wakes_pcon) ?_
                  | refine CallS.c (hc) ?_
                  | refine CallS.c (hr) ?_
                  | refine CallS.c (hn) ?_
                  | refine CallS.e (wakes_pcon) ?_
                  | refine CallS.e (hc) ?_
                  | refine CallS.e (hr) ?_
                  | refine CallS.e (hn) ?_))
    all_goals (try (conv => whnf))
    exact RetP.v (by simp [h])
end Go.Proofs.Ytobojnfhhobnkaa
