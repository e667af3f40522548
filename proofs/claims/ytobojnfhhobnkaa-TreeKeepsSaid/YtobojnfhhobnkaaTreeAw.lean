/- The law TreeAnswers: its walk. -/
import Derived.Test.YtobojnfhhobnkaaTree5
set_option linter.unusedSimpArgs false
set_option maxRecDepth 20000
set_option linter.unusedVariables false
namespace Go.Proofs.Ytobojnfhhobnkaa
open Go Go.Eng Go.RowKit

theorem refneighAll_pcon (f : Bool) (ps : List Int) (v : Int) (h : Tr1 ps) : PCon Try.prog 21 [intX f ps, I v] (.own 0 (nbr ps v).length) [intB (nbr ps v)] := by
  have hle := h.le
  unfold nbr
  by_cases hv : hasB ps v = true
  · rw [if_pos hv]
    exact refneigh_pcon f ps v (by omega) hv
  · rw [if_neg hv]
    exact refneighO_pcon f ps v (by omega) (by simpa using hv)
set_option maxHeartbeats 2000000 in
theorem treeAnswers_pcon (ps : List Int) (a b : Int) (hl : ps.length < 9223372036854775808) : PCon Try.prog 8 [intX false ps, I a, I b] (Bo true) [] := by
  refine pcon_of (G := gm) Try.func8 rfl rfl rfl ?_
  by_cases h : (checkS ps).2 = 0
  case neg =>
    have hn := new_bad false ps hl h
    generalize checkS ps = r at h hn
    obtain ⟨r1, r2⟩ := r
    dsimp only at h
    repeat' (conv => whnf
             first
             | (refine get_id ?_; first | refine Get.mk _ rfl ?_)
             | (refine need_id ?_; first | refine Need.a ?_)
             | (refine eqk_id ?_; first | refine EqK.a ?_)
             | (refine br_id ?_; first | refine Br.t ?_ | refine Br.f ?_ | (refine Br.pos ?_ ?_; focus (with_reducible assumption)) | (refine Br.neg ?_ ?_; focus (with_reducible assumption)) | (refine Br.dpos ?_ ?_; focus (first | with_reducible exact rfl | with_reducible exact Int.le_refl _ | with_reducible assumption)) | (refine Br.dneg ?_ ?_; focus (with_reducible assumption)) | (refine Br.d (fun _ => ?_) (fun _ => ?_) <;> (first | (exfalso; omega; done) | skip)) | refine Br.n ?_ | (refine Br.s (fun _ => ?_) (fun _ => ?_) <;> (first | (exfalso; omega; done) | skip)) | (refine Br.mk (fun _ => ?_) (fun _ => ?_) <;> (first | (exfalso; omega; done) | skip)))
             | (refine regv_id ?_; first | refine RegV.d (id := 4) ?_ | refine RegV.qg ?_ | refine RegV.d ?_)
             | (refine gds_id ?_; apply GdS.mk)
             | (refine and_id ?_; exact ⟨rfl, rfl, rfl⟩)
             | (refine imp_id ?_; first | refine imp_s (fun _ => ?_) | refine fun _ => ?_)
             | refine NilB.mk (fun b hb => ?_)
             | (refine alv_and ?_ ?_; focus (first | rfl | done))
             | refine DrawV.mk [] ?_
             | (refine appc_id ?_; first | refine AppC.growA ?_ | refine AppC.place ?_)
             | (refine call_id ?_; first
                  | refine CallV.c (wakes_pcon) ?_
                  | refine CallV.c (hn) ?_
                  | refine CallV.c (sizeN_pcon) ?_
                  | refine CallV.c (rootN_pcon) ?_
                  | refine CallV.c (neighN_pcon a) ?_
                  | refine CallV.c (nextN_pcon a b) ?_
                  | refine CallV.c (distN_pcon a b) ?_
                  | refine CallV.e (wakes_pcon) ?_
                  | refine CallV.e (hn) ?_
                  | refine CallV.e (sizeN_pcon) ?_
                  | refine CallV.e (rootN_pcon) ?_
                  | refine CallV.e (neighN_pcon a) ?_
                  | refine CallV.e (nextN_pcon a b) ?_
                  | refine CallV.e (distN_pcon a b) ?_)
             | (refine calls_id ?_; first
                  | refine CallS.c (wakes_pcon) ?_
                  | refine CallS.c (hn) ?_
                  | refine CallS.c (sizeN_pcon) ?_
                  | refine CallS.c (rootN_pcon) ?_
                  | refine CallS.c (neighN_pcon a) ?_
                  | refine CallS.c (nextN_pcon a b) ?_
                  | refine CallS.c (distN_pcon a b) ?_
                  | refine CallS.e (wakes_pcon) ?_
                  | refine CallS.e (hn) ?_
                  | refine CallS.e (sizeN_pcon) ?_
                  | refine CallS.e (rootN_pcon) ?_
                  | refine CallS.e (neighN_pcon a) ?_
                  | refine CallS.e (nextN_pcon a b) ?_
                  | refine CallS.e (distN_pcon a b) ?_))
    all_goals (try (conv => whnf))
    exact RetP.v rfl
  have ht := (tr1_iff ps).1 h
  have hle := ht.le
  have hn := new_ok false ps ht
  have c1 := neighAll_pcon ps a ht
  have c2 := refneighAll_pcon false ps a ht
  have c3 := size_pcon true ps (nearOf ps)
  have c4 := root_pcon true ps (nearOf ps) (by omega)
  obtain ⟨r, hr, hrn, hrp⟩ := root_at ht
  rw [hr] at c4
  have hg := int_get ps r (Int.toNat_natCast r) hrn
  rw [hrp] at hg
  have c5 := next_pcon true ps (nearOf ps) a b ht
  have c6 := refnext_pcon false ps a b ht
  have c7 := distAll_pcon ps (nearOf ps) a b ht
  have c8 := refpath_pcon false ps a b ht
  have hpl : (pathI ps a b).length = (pathN ps a b).length := by simp [pathI]
  have hp32 := pathN_len ht a b
  rw [← hpl] at c7 hp32
  have hnl : (nbr ps a).length ≤ 32 := by
    unfold nbr
    split
    · have := nearTo_le ps a.toNat ps.length; omega
    · simp
  have c9 := same_pcon false false (nbr ps a) (by omega)
  generalize pathI ps a b = P at *
  generalize nextS ps a b = x at *
  generalize nbr ps a = N at *
  generalize nearOf ps = L at *
  repeat' (conv => whnf
           first
           | (refine get_id ?_; first | refine Get.mk _ rfl ?_ | refine Get.mk _ (hg) ?_)
           | (refine need_id ?_; first | refine Need.a ?_)
           | (refine eqk_id ?_; first | refine EqK.a ?_)
           | (refine br_id ?_; first | refine Br.t ?_ | refine Br.f ?_ | (refine Br.pos ?_ ?_; focus (with_reducible assumption)) | (refine Br.neg ?_ ?_; focus (with_reducible assumption)) | (refine Br.dpos ?_ ?_; focus (first | with_reducible exact rfl | with_reducible exact Int.le_refl _ | with_reducible assumption)) | (refine Br.dneg ?_ ?_; focus (with_reducible assumption)) | (refine Br.d (fun _ => ?_) (fun _ => ?_) <;> (first | (exfalso; omega; done) | skip)) | refine Br.n ?_ | (refine Br.s (fun _ => ?_) (fun _ => ?_) <;> (first | (exfalso; omega; done) | skip)) | (refine Br.mk (fun _ => ?_) (fun _ => ?_) <;> (first | (exfalso; omega; done) | skip)))
           | (refine regv_id ?_; first | refine RegV.d (id := 4) ?_ | refine RegV.d (id := 11) ?_ | refine RegV.qg ?_ | refine RegV.d ?_)
           | (refine gds_id ?_; apply GdS.mk)
           | (refine and_id ?_; exact ⟨rfl, rfl, rfl⟩)
           | (refine imp_id ?_; first | refine imp_s (fun _ => ?_) | refine fun _ => ?_)
           | refine NilB.mk (fun b hb => ?_)
           | (refine alv_and ?_ ?_; focus (first | rfl | done))
           | refine DrawV.mk [] ?_
           | (refine appc_id ?_; first | refine AppC.growA ?_ | refine AppC.place ?_)
           | (refine call_id ?_; first
                | refine CallV.c (wakes_pcon) ?_
                | refine CallV.c (hn) ?_
                | refine CallV.c (sizeN_pcon) ?_
                | refine CallV.c (rootN_pcon) ?_
                | refine CallV.c (neighN_pcon a) ?_
                | refine CallV.c (nextN_pcon a b) ?_
                | refine CallV.c (distN_pcon a b) ?_
                | refine CallV.c (c1) ?_
                | refine CallV.c (c2) ?_
                | refine CallV.c (c3) ?_
                | refine CallV.c (c4) ?_
                | refine CallV.c (c5) ?_
                | refine CallV.c (c6) ?_
                | refine CallV.c (c7) ?_
                | refine CallV.c (c8) ?_
                | refine CallV.c (c9) ?_
                | refine CallV.e (wakes_pcon) ?_
                | refine CallV.e (hn) ?_
                | refine CallV.e (sizeN_pcon) ?_
                | refine CallV.e (rootN_pcon) ?_
                | refine CallV.e (neighN_pcon a) ?_
                | refine CallV.e (nextN_pcon a b) ?_
                | refine CallV.e (distN_pcon a b) ?_
                | refine CallV.e (c1) ?_
                | refine CallV.e (c2) ?_
                | refine CallV.e (c3) ?_
                | refine CallV.e (c4) ?_
                | refine CallV.e (c5) ?_
                | refine CallV.e (c6) ?_
                | refine CallV.e (c7) ?_
                | refine CallV.e (c8) ?_
                | refine CallV.e (c9) ?_)
           | (refine calls_id ?_; first
                | refine CallS.c (wakes_pcon) ?_
                | refine CallS.c (hn) ?_
                | refine CallS.c (sizeN_pcon) ?_
                | refine CallS.c (rootN_pcon) ?_
                | refine CallS.c (neighN_pcon a) ?_
                | refine CallS.c (nextN_pcon a b) ?_
                | refine CallS.c (distN_pcon a b) ?_
                | refine CallS.c (c1) ?_
                | refine CallS.c (c2) ?_
                | refine CallS.c (c3) ?_
                | refine CallS.c (c4) ?_
                | refine CallS.c (c5) ?_
                | refine CallS.c (c6) ?_
                | refine CallS.c (c7) ?_
                | refine CallS.c (c8) ?_
                | refine CallS.c (c9) ?_
                | refine CallS.e (wakes_pcon) ?_
                | refine CallS.e (hn) ?_
                | refine CallS.e (sizeN_pcon) ?_
                | refine CallS.e (rootN_pcon) ?_
                | refine CallS.e (neighN_pcon a) ?_
                | refine CallS.e (nextN_pcon a b) ?_
                | refine CallS.e (distN_pcon a b) ?_
                | refine CallS.e (c1) ?_
                | refine CallS.e (c2) ?_
                | refine CallS.e (c3) ?_
                | refine CallS.e (c4) ?_
                | refine CallS.e (c5) ?_
                | refine CallS.e (c6) ?_
                | refine CallS.e (c7) ?_
                | refine CallS.e (c8) ?_
                | refine CallS.e (c9) ?_))
  all_goals (try (conv => whnf))
  exact RetP.v (by simp)
end Go.Proofs.Ytobojnfhhobnkaa
