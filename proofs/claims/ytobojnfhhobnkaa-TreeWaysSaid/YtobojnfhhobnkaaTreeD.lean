/- tree: Root, Neighbours; the nil tree; the reference's Near and Neighbours. -/
import Derived.Test.YtobojnfhhobnkaaTreeC
set_option linter.unusedSimpArgs false
set_option maxRecDepth 20000
set_option linter.unusedVariables false
namespace Go.Proofs.Ytobojnfhhobnkaa
open Go Go.Eng Go.RowKit

theorem root_pcon (f : Bool) (ps : List Int) (L : List (List Int)) (h : ps.length < 9223372036854775808) : PCon Try.prog 23 [treeX f ps L] (I (indexS ps (-1))) [] := by
  refine pcon_of (G := gm) Try.func23 rfl rfl rfl ?_
  repeat' (conv => whnf
           first
           | (refine get_id ?_; first | refine Get.mk _ rfl ?_)
           | (refine need_id ?_; first | refine Need.a ?_)
           | (refine eqk_id ?_; first | refine EqK.a ?_)
           | (refine br_id ?_; first | refine Br.t ?_ | refine Br.f ?_ | (refine Br.pos ?_ ?_; focus (with_reducible assumption)) | (refine Br.neg ?_ ?_; focus (with_reducible assumption)) | (refine Br.dpos ?_ ?_; focus (first | with_reducible exact rfl | with_reducible exact Int.le_refl _ | with_reducible assumption)) | (refine Br.dneg ?_ ?_; focus (with_reducible assumption)) | (refine Br.d (fun _ => ?_) (fun _ => ?_)) | refine Br.n ?_ | (refine Br.s (fun _ => ?_) (fun _ => ?_)) | (refine Br.mk (fun _ => ?_) (fun _ => ?_)))
           | (refine regv_id ?_; first | refine RegV.d ?_)
           | refine NilB.mk (fun b hb => ?_)
           | (refine alv_and ?_ ?_; focus (first | rfl | done))
           | refine DrawV.mk [] ?_
           | (refine appc_id ?_; first | refine AppC.growA ?_ | refine AppC.place ?_)
           | (refine call_id ?_; first
                | refine CallV.c (index_pcon true ps (-1) h) ?_
                | refine CallV.e (index_pcon true ps (-1) h) ?_)
           | (refine calls_id ?_; first
                | refine CallS.c (index_pcon true ps (-1) h) ?_
                | refine CallS.e (index_pcon true ps (-1) h) ?_))
  all_goals (try (conv => whnf))
  exact RetP.v rfl
theorem rootN_pcon : PCon Try.prog 23 [treeN] (I (-1)) [] := by
  refine pcon_of (G := gm) Try.func23 rfl rfl rfl ?_
  repeat' (conv => whnf
           first
           | (refine get_id ?_; first | refine Get.mk _ rfl ?_)
           | (refine need_id ?_; first | refine Need.a ?_)
           | (refine eqk_id ?_; first | refine EqK.a ?_)
           | (refine br_id ?_; first | refine Br.t ?_ | refine Br.f ?_ | (refine Br.pos ?_ ?_; focus (with_reducible assumption)) | (refine Br.neg ?_ ?_; focus (with_reducible assumption)) | (refine Br.dpos ?_ ?_; focus (first | with_reducible exact rfl | with_reducible exact Int.le_refl _ | with_reducible assumption)) | (refine Br.dneg ?_ ?_; focus (with_reducible assumption)) | (refine Br.d (fun _ => ?_) (fun _ => ?_)) | refine Br.n ?_ | (refine Br.s (fun _ => ?_) (fun _ => ?_)) | (refine Br.mk (fun _ => ?_) (fun _ => ?_)))
           | (refine regv_id ?_; first | refine RegV.d ?_)
           | refine NilB.mk (fun b hb => ?_)
           | (refine alv_and ?_ ?_; focus (first | rfl | done))
           | refine DrawV.mk [] ?_
           | (refine appc_id ?_; first | refine AppC.growA ?_ | refine AppC.place ?_))
  all_goals (try (conv => whnf))
  exact RetP.v rfl
theorem nextN_pcon (s t : Int) : PCon Try.prog 20 [treeN, I s, I t] (I (-1)) [] := by
  refine pcon_of (G := gm) Try.func20 rfl rfl rfl ?_
  repeat' (conv => whnf
           first
           | (refine get_id ?_; first | refine Get.mk _ rfl ?_)
           | (refine need_id ?_; first | refine Need.a ?_)
           | (refine eqk_id ?_; first | refine EqK.a ?_)
           | (refine br_id ?_; first | refine Br.t ?_ | refine Br.f ?_ | (refine Br.pos ?_ ?_; focus (with_reducible assumption)) | (refine Br.neg ?_ ?_; focus (with_reducible assumption)) | (refine Br.dpos ?_ ?_; focus (first | with_reducible exact rfl | with_reducible exact Int.le_refl _ | with_reducible assumption)) | (refine Br.dneg ?_ ?_; focus (with_reducible assumption)) | (refine Br.d (fun _ => ?_) (fun _ => ?_)) | refine Br.n ?_ | (refine Br.s (fun _ => ?_) (fun _ => ?_)) | (refine Br.mk (fun _ => ?_) (fun _ => ?_)))
           | (refine regv_id ?_; first | refine RegV.qg ?_ | refine RegV.d ?_)
           | (refine gds_id ?_; apply GdS.mk)
           | (refine and_id ?_; exact ⟨rfl, rfl, rfl⟩)
           | (refine imp_id ?_; first | refine imp_s (fun _ => ?_) | refine fun _ => ?_)
           | refine NilB.mk (fun b hb => ?_)
           | (refine alv_and ?_ ?_; focus (first | rfl | done))
           | refine DrawV.mk [] ?_
           | (refine appc_id ?_; first | refine AppC.growA ?_ | refine AppC.place ?_)
           | (refine call_id ?_; first
                | refine CallV.c (hasN_pcon s) ?_
                | refine CallV.c (hasN_pcon t) ?_
                | refine CallV.e (hasN_pcon s) ?_
                | refine CallV.e (hasN_pcon t) ?_)
           | (refine calls_id ?_; first
                | refine CallS.c (hasN_pcon s) ?_
                | refine CallS.c (hasN_pcon t) ?_
                | refine CallS.e (hasN_pcon s) ?_
                | refine CallS.e (hasN_pcon t) ?_))
  all_goals (try (conv => whnf))
  · exact RetP.v rfl
theorem near_get (L : List (List Int)) {n : Nat} (k : Nat) (hn : n = k) (h : k < L.length) : nth (L.map fun l => [intX true l]) n = some [intX true (L.getD k [])] := by
  rw [nth_map (fun l => [intX true l]) L k hn h]
  simp [h]
theorem neigh_pcon (f : Bool) (ps : List Int) (L : List (List Int)) (v : Int) (hL : L.length = ps.length) (h1 : hasB ps v = true) (h2 : (L.getD v.toNat []).length * 8 ≤ 140737488355328) : PCon Try.prog 18 [treeX f ps L, I v] (.own 0 (L.getD v.toNat []).length) [intB (L.getD v.toNat [])] := by
  refine pcon_of (G := gm) Try.func18 rfl rfl rfl ?_
  have c1 := has_pcon f ps L v
  rw [h1] at c1
  have h3 := hasB_iff.1 h1
  repeat' (conv => whnf
           first
           | (refine get_id ?_; first | refine Get.mk _ rfl ?_ | refine Get.mk _ (near_get L v.toNat rfl (by omega)) ?_)
           | (refine need_id ?_; first | refine Need.a ?_)
           | (refine eqk_id ?_; first | refine EqK.a ?_)
           | (refine br_id ?_; first | refine Br.t ?_ | refine Br.f ?_ | (refine Br.pos ?_ ?_; focus (with_reducible assumption)) | (refine Br.neg ?_ ?_; focus (with_reducible assumption)) | (refine Br.dpos ?_ ?_; focus (first | with_reducible exact rfl | with_reducible exact Int.le_refl _ | with_reducible assumption)) | (refine Br.dneg ?_ ?_; focus (with_reducible assumption)) | (refine Br.d (fun _ => ?_) (fun _ => ?_)) | refine Br.n ?_ | (refine Br.s (fun _ => ?_) (fun _ => ?_)) | (refine Br.mk (fun _ => ?_) (fun _ => ?_)))
           | (refine regv_id ?_; first | refine RegV.d ?_)
           | refine NilB.mk (fun b hb => ?_)
           | (refine alv_and ?_ ?_; focus (first | rfl | done))
           | refine DrawV.mk [] ?_
           | (refine appc_id ?_; first | refine AppC.growA ?_ | refine AppC.place ?_)
           | (refine call_id ?_; first
                | refine CallV.c (c1) ?_
                | refine CallV.c (clone_pcon true (L.getD v.toNat []) h2) ?_
                | refine CallV.e (c1) ?_
                | refine CallV.e (clone_pcon true (L.getD v.toNat []) h2) ?_)
           | (refine calls_id ?_; first
                | refine CallS.c (c1) ?_
                | refine CallS.c (clone_pcon true (L.getD v.toNat []) h2) ?_
                | refine CallS.e (c1) ?_
                | refine CallS.e (clone_pcon true (L.getD v.toNat []) h2) ?_))
  all_goals (try (conv => whnf))
  exact RetP.own rfl (int_fr _)
theorem neighO_pcon (f : Bool) (ps : List Int) (L : List (List Int)) (v : Int) (h1 : hasB ps v = false) : PCon Try.prog 18 [treeX f ps L, I v] (.own 0 0) [intB []] := by
  refine pcon_of (G := gm) Try.func18 rfl rfl rfl ?_
  have c1 := has_pcon f ps L v
  rw [h1] at c1
  repeat' (conv => whnf
           first
           | (refine get_id ?_; first | refine Get.mk _ rfl ?_)
           | (refine need_id ?_; first | refine Need.a ?_)
           | (refine eqk_id ?_; first | refine EqK.a ?_)
           | (refine br_id ?_; first | refine Br.t ?_ | refine Br.f ?_ | (refine Br.pos ?_ ?_; focus (with_reducible assumption)) | (refine Br.neg ?_ ?_; focus (with_reducible assumption)) | (refine Br.dpos ?_ ?_; focus (first | with_reducible exact rfl | with_reducible exact Int.le_refl _ | with_reducible assumption)) | (refine Br.dneg ?_ ?_; focus (with_reducible assumption)) | (refine Br.d (fun _ => ?_) (fun _ => ?_)) | refine Br.n ?_ | (refine Br.s (fun _ => ?_) (fun _ => ?_)) | (refine Br.mk (fun _ => ?_) (fun _ => ?_)))
           | (refine regv_id ?_; first | refine RegV.d ?_)
           | refine NilB.mk (fun b hb => ?_)
           | (refine alv_and ?_ ?_; focus (first | rfl | done))
           | refine DrawV.mk [] ?_
           | (refine appc_id ?_; first | refine AppC.growA ?_ | refine AppC.place ?_)
           | (refine call_id ?_; first
                | refine CallV.c (c1) ?_
                | refine CallV.e (c1) ?_)
           | (refine calls_id ?_; first
                | refine CallS.c (c1) ?_
                | refine CallS.e (c1) ?_))
  all_goals (try (conv => whnf))
  exact RetP.nil
theorem neighN_pcon (v : Int) : PCon Try.prog 18 [treeN, I v] (.own 0 0) [intB []] := by
  refine pcon_of (G := gm) Try.func18 rfl rfl rfl ?_
  repeat' (conv => whnf
           first
           | (refine get_id ?_; first | refine Get.mk _ rfl ?_)
           | (refine need_id ?_; first | refine Need.a ?_)
           | (refine eqk_id ?_; first | refine EqK.a ?_)
           | (refine br_id ?_; first | refine Br.t ?_ | refine Br.f ?_ | (refine Br.pos ?_ ?_; focus (with_reducible assumption)) | (refine Br.neg ?_ ?_; focus (with_reducible assumption)) | (refine Br.dpos ?_ ?_; focus (first | with_reducible exact rfl | with_reducible exact Int.le_refl _ | with_reducible assumption)) | (refine Br.dneg ?_ ?_; focus (with_reducible assumption)) | (refine Br.d (fun _ => ?_) (fun _ => ?_)) | refine Br.n ?_ | (refine Br.s (fun _ => ?_) (fun _ => ?_)) | (refine Br.mk (fun _ => ?_) (fun _ => ?_)))
           | (refine regv_id ?_; first | refine RegV.d ?_)
           | refine NilB.mk (fun b hb => ?_)
           | (refine alv_and ?_ ?_; focus (first | rfl | done))
           | refine DrawV.mk [] ?_
           | (refine appc_id ?_; first | refine AppC.growA ?_ | refine AppC.place ?_)
           | (refine call_id ?_; first
                | refine CallV.c (hasN_pcon v) ?_
                | refine CallV.e (hasN_pcon v) ?_)
           | (refine calls_id ?_; first
                | refine CallS.c (hasN_pcon v) ?_
                | refine CallS.e (hasN_pcon v) ?_))
  all_goals (try (conv => whnf))
  exact RetP.nil
def isNear (ps : List Int) (a b : Nat) : Bool := decide (ps.getD a 0 = b) || decide (ps.getD b 0 = a)
theorem near_pcon (f : Bool) (ps : List Int) (a b : Nat) (ha : a < ps.length) (hb : b < ps.length) : PCon Try.prog 27 [intX f ps, I a, I b] (Bo (isNear ps a b)) [] := by
  refine pcon_of (G := gm) Try.func27 rfl rfl rfl ?_
  repeat' (conv => whnf
           first
           | (refine get_id ?_; first | refine Get.mk _ rfl ?_ | refine Get.mk _ (int_get ps a rfl (by omega)) ?_ | refine Get.mk _ (int_get ps b rfl (by omega)) ?_)
           | (refine need_id ?_; first | refine Need.a ?_)
           | (refine eqk_id ?_; first | refine EqK.a ?_)
           | (refine br_id ?_; first | refine Br.t ?_ | refine Br.f ?_ | (refine Br.pos ?_ ?_; focus (with_reducible assumption)) | (refine Br.neg ?_ ?_; focus (with_reducible assumption)) | (refine Br.dpos ?_ ?_; focus (first | with_reducible exact rfl | with_reducible exact Int.le_refl _ | with_reducible assumption)) | (refine Br.dneg ?_ ?_; focus (with_reducible assumption)) | (refine Br.d (fun _ => ?_) (fun _ => ?_)) | refine Br.n ?_ | (refine Br.s (fun _ => ?_) (fun _ => ?_)) | (refine Br.mk (fun _ => ?_) (fun _ => ?_)))
           | (refine regv_id ?_; first | refine RegV.qg ?_ | refine RegV.d ?_)
           | (refine gds_id ?_; apply GdS.mk)
           | (refine and_id ?_; exact ⟨rfl, rfl, rfl⟩)
           | (refine imp_id ?_; first | refine imp_s (fun _ => ?_) | refine fun _ => ?_)
           | refine NilB.mk (fun b hb => ?_)
           | (refine alv_and ?_ ?_; focus (first | rfl | done))
           | refine DrawV.mk [] ?_
           | (refine appc_id ?_; first | refine AppC.growA ?_ | refine AppC.place ?_))
  all_goals (try (conv => whnf))
  exact RetP.v (by unfold isNear; simp; rfl)
end Go.Proofs.Ytobojnfhhobnkaa
