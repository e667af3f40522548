/- The law HalfPushes: its walk. -/
import Derived.Test.YtammndlghfknbaaHalfB
set_option linter.unusedSimpArgs false
set_option maxRecDepth 20000
set_option linter.unusedVariables false
namespace Go.Proofs.Ytammndlghfknbaa
open Go Go.Eng Go.RowKit

theorem same_self (e : Edge) : e.same e = true := by simp [Edge.same]
theorem pushS_len (e : Edge) (m : Msg) : (pushS e m).1.out.length ≤ 1024 := by
  unfold pushS
  split
  · simp [Edge.zero]
  · rename_i h
    have := good_len e (by simpa using h)
    split
    · simp [Edge.zero]
    · split
      · simp [Edge.zero]
      · simp; omega
set_option maxRecDepth 20000 in
theorem halfPushes_pcon (e : Edge) (m : Msg) (h : e.out.length * 40 ≤ 140737488351232) : PCon Try.prog 3 [e.exf false, .agg m.row] (Bo true) [] := by
  have hl := pushS_len e m
  refine pcon_of (G := gm) Try.func3 rfl rfl rfl ?_
  repeat' (conv => whnf
           first
           | (refine get_id ?_; first | refine Get.mk _ rfl ?_)
           | (refine need_id ?_; first | refine Need.a ?_)
           | (refine eqk_id ?_; first | refine EqK.a ?_)
           | (refine br_id ?_; first | refine Br.t ?_ | refine Br.f ?_ | (refine Br.pos ?_ ?_; focus (with_reducible assumption)) | (refine Br.neg ?_ ?_; focus (with_reducible assumption)) | (refine Br.dpos ?_ ?_; focus (first | with_reducible exact rfl | with_reducible exact Int.le_refl _ | with_reducible assumption)) | (refine Br.dneg ?_ ?_; focus (with_reducible assumption)) | (refine Br.d (fun _ => ?_) (fun _ => ?_)) | refine Br.n ?_ | (refine Br.s (fun _ => ?_) (fun _ => ?_)) | (refine Br.mk (fun _ => ?_) (fun _ => ?_)))
           | (refine regv_id ?_; first | refine RegV.d ?_)
           | refine NilB.mk (fun b hb => ?_)
           | (refine alv_and ?_ ?_; focus (first | rfl | done))
           | refine DrawV.mk [] ?_
           | (refine appc_id ?_; first | refine AppC.growA ?_ | refine AppC.place ?_)
           | (refine call_id ?_; first
                | refine CallV.c (wakes_pcon) ?_
                | refine CallV.c (push_pcon e _ m (by omega)) ?_
                | refine CallV.c (refpush_pcon e _ m (by omega)) ?_
                | refine CallV.c (good_pcon e _ (by omega)) ?_
                | refine CallV.c (refgood_pcon e _ (by omega)) ?_
                | refine CallV.c (same_pcon (pushS e m).1 (pushS e m).1 false false (by omega)) ?_
                | refine CallV.e (wakes_pcon) ?_
                | refine CallV.e (push_pcon e _ m (by omega)) ?_
                | refine CallV.e (refpush_pcon e _ m (by omega)) ?_
                | refine CallV.e (good_pcon e _ (by omega)) ?_
                | refine CallV.e (refgood_pcon e _ (by omega)) ?_
                | refine CallV.e (same_pcon (pushS e m).1 (pushS e m).1 false false (by omega)) ?_)
           | (refine calls_id ?_; first
                | refine CallS.c (wakes_pcon) ?_
                | refine CallS.c (push_pcon e _ m (by omega)) ?_
                | refine CallS.c (refpush_pcon e _ m (by omega)) ?_
                | refine CallS.c (good_pcon e _ (by omega)) ?_
                | refine CallS.c (refgood_pcon e _ (by omega)) ?_
                | refine CallS.c (same_pcon (pushS e m).1 (pushS e m).1 false false (by omega)) ?_
                | refine CallS.e (wakes_pcon) ?_
                | refine CallS.e (push_pcon e _ m (by omega)) ?_
                | refine CallS.e (refpush_pcon e _ m (by omega)) ?_
                | refine CallS.e (good_pcon e _ (by omega)) ?_
                | refine CallS.e (refgood_pcon e _ (by omega)) ?_
                | refine CallS.e (same_pcon (pushS e m).1 (pushS e m).1 false false (by omega)) ?_))
  all_goals (try (conv => whnf))
  · refine RetP.v ?_
    rw [same_self]
  all_goals (exact absurd rfl (by assumption))
end Go.Proofs.Ytammndlghfknbaa
