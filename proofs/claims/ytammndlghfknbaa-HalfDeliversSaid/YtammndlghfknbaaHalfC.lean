/- half: Take; the reference's Heard, Fits, Take. -/
import Derived.Test.YtammndlghfknbaaHalfB
set_option linter.unusedSimpArgs false
set_option maxRecDepth 20000
set_option linter.unusedVariables false
namespace Go.Proofs.Ytammndlghfknbaa
open Go Go.Eng Go.RowKit

def takeS (e : Edge) : Edge × Int := if e.good = false then (.zero, 24) else if e.seen = 1099511627776 then (.zero, 23) else ({ e with seen := e.seen + 1 }, 0)
theorem take_pcon (e : Edge) (f : Bool) (h : e.out.length * 40 ≤ 140737488355328) : PCon Try.prog 23 [e.exf f] (edgeR (takeS e)) [msgB (takeS e).1.out] := by
  refine pcon_of (G := gm) Try.func23 rfl rfl rfl ?_
  rcases Bool.eq_false_or_eq_true e.good with hgd | hgd
  · have hf := good_fit e hgd
    unfold Edge.fit at hf
    repeat' (conv => whnf
             first
             | (refine get_id ?_; first | refine Get.mk _ rfl ?_)
             | (refine need_id ?_; first | refine Need.a ?_)
             | (refine eqk_id ?_; first | refine EqK.a ?_)
             | (refine br_id ?_; first | refine Br.t ?_ | refine Br.f ?_ | (refine Br.pos ?_ ?_; focus (with_reducible assumption)) | (refine Br.neg ?_ ?_; focus (with_reducible assumption)) | (refine Br.dpos ?_ ?_; focus (first | with_reducible exact rfl | with_reducible exact Int.le_refl _ | with_reducible assumption)) | (refine Br.dneg ?_ ?_; focus (with_reducible assumption)) | (refine Br.d (fun _ => ?_) (fun _ => ?_)) | refine Br.n ?_ | (refine Br.s (fun _ => ?_) (fun _ => ?_)) | (refine Br.mk (fun _ => ?_) (fun _ => ?_)))
             | (refine regv_id ?_; first | refine RegV.d ?_)
             | refine NilB.mk (fun b hb => ?_)
             | (refine alv_and ?_ ?_; focus (first | rfl | done))
             | refine DrawV.mk [] ?_
             | (refine appc_id ?_; first | refine AppC.growA ?_ | refine AppC.place ?_)
             | (refine call_id ?_; first
                  | refine CallV.c (good_pcon e _ h) ?_
                  | refine CallV.c (copied_pcon e _ h) ?_
                  | refine CallV.e (good_pcon e _ h) ?_
                  | refine CallV.e (copied_pcon e _ h) ?_)
             | (refine calls_id ?_; first
                  | refine CallS.c (good_pcon e _ h) ?_
                  | refine CallS.c (copied_pcon e _ h) ?_
                  | refine CallS.e (good_pcon e _ h) ?_
                  | refine CallS.e (copied_pcon e _ h) ?_))
    all_goals (try (conv => whnf))
    · rw [show takeS e = (.zero, 23) by simp [takeS, *]]
      exact RetP.zeroE
    · rw [show takeS e = ({ e with seen := e.seen + 1 }, 0) by simp [takeS, *]]
      exact RetP.edge { e with seen := e.seen + 1 } rfl rfl rfl
  · repeat' (conv => whnf
             first
             | (refine get_id ?_; first | refine Get.mk _ rfl ?_)
             | (refine need_id ?_; first | refine Need.a ?_)
             | (refine eqk_id ?_; first | refine EqK.a ?_)
             | (refine br_id ?_; first | refine Br.t ?_ | refine Br.f ?_ | (refine Br.pos ?_ ?_; focus (with_reducible assumption)) | (refine Br.neg ?_ ?_; focus (with_reducible assumption)) | (refine Br.dpos ?_ ?_; focus (first | with_reducible exact rfl | with_reducible exact Int.le_refl _ | with_reducible assumption)) | (refine Br.dneg ?_ ?_; focus (with_reducible assumption)) | (refine Br.d (fun _ => ?_) (fun _ => ?_)) | refine Br.n ?_ | (refine Br.s (fun _ => ?_) (fun _ => ?_)) | (refine Br.mk (fun _ => ?_) (fun _ => ?_)))
             | (refine regv_id ?_; first | refine RegV.d ?_)
             | refine NilB.mk (fun b hb => ?_)
             | (refine alv_and ?_ ?_; focus (first | rfl | done))
             | refine DrawV.mk [] ?_
             | (refine appc_id ?_; first | refine AppC.growA ?_ | refine AppC.place ?_)
             | (refine call_id ?_; first
                  | refine CallV.c (good_pcon e _ h) ?_
                  | refine CallV.e (good_pcon e _ h) ?_)
             | (refine calls_id ?_; first
                  | refine CallS.c (good_pcon e _ h) ?_
                  | refine CallS.e (good_pcon e _ h) ?_))
    all_goals (try (conv => whnf))
    rw [show takeS e = (.zero, 24) by simp [takeS, *]]
    exact RetP.zeroE
theorem reftake_pcon (e : Edge) (f : Bool) (h : e.out.length * 40 ≤ 140737488355328) : PCon Try.prog 24 [e.exf f] (edgeR (takeS e)) [msgB (takeS e).1.out] := by
  refine pcon_of (G := gm) Try.func24 rfl rfl rfl ?_
  rcases Bool.eq_false_or_eq_true e.good with hgd | hgd
  · have hf := good_fit e hgd
    unfold Edge.fit at hf
    repeat' (conv => whnf
             first
             | (refine get_id ?_; first | refine Get.mk _ rfl ?_)
             | (refine need_id ?_; first | refine Need.a ?_)
             | (refine eqk_id ?_; first | refine EqK.a ?_)
             | (refine br_id ?_; first | refine Br.t ?_ | refine Br.f ?_ | (refine Br.pos ?_ ?_; focus (with_reducible assumption)) | (refine Br.neg ?_ ?_; focus (with_reducible assumption)) | (refine Br.dpos ?_ ?_; focus (first | with_reducible exact rfl | with_reducible exact Int.le_refl _ | with_reducible assumption)) | (refine Br.dneg ?_ ?_; focus (with_reducible assumption)) | (refine Br.d (fun _ => ?_) (fun _ => ?_)) | refine Br.n ?_ | (refine Br.s (fun _ => ?_) (fun _ => ?_)) | (refine Br.mk (fun _ => ?_) (fun _ => ?_)))
             | (refine regv_id ?_; first | refine RegV.d ?_)
             | refine NilB.mk (fun b hb => ?_)
             | (refine alv_and ?_ ?_; focus (first | rfl | done))
             | refine DrawV.mk [(7, 2)] ?_
             | (refine appc_id ?_; first | refine AppC.growA ?_ | refine AppC.place ?_)
             | (refine call_id ?_; first
                  | refine CallV.c (refgood_pcon e _ h) ?_
                  | refine CallV.e (refgood_pcon e _ h) ?_)
             | (refine calls_id ?_; first
                  | refine CallS.c (refgood_pcon e _ h) ?_
                  | refine CallS.e (refgood_pcon e _ h) ?_))
    all_goals (try (conv => whnf))
    · rw [show takeS e = (.zero, 23) by simp [takeS, *]]
      exact RetP.zeroE
    · rw [show takeS e = ({ e with seen := e.seen + 1 }, 0) by simp [takeS, *]]
      exact RetP.edge { e with seen := e.seen + 1 } rfl rfl rfl
  · repeat' (conv => whnf
             first
             | (refine get_id ?_; first | refine Get.mk _ rfl ?_)
             | (refine need_id ?_; first | refine Need.a ?_)
             | (refine eqk_id ?_; first | refine EqK.a ?_)
             | (refine br_id ?_; first | refine Br.t ?_ | refine Br.f ?_ | (refine Br.pos ?_ ?_; focus (with_reducible assumption)) | (refine Br.neg ?_ ?_; focus (with_reducible assumption)) | (refine Br.dpos ?_ ?_; focus (first | with_reducible exact rfl | with_reducible exact Int.le_refl _ | with_reducible assumption)) | (refine Br.dneg ?_ ?_; focus (with_reducible assumption)) | (refine Br.d (fun _ => ?_) (fun _ => ?_)) | refine Br.n ?_ | (refine Br.s (fun _ => ?_) (fun _ => ?_)) | (refine Br.mk (fun _ => ?_) (fun _ => ?_)))
             | (refine regv_id ?_; first | refine RegV.d ?_)
             | refine NilB.mk (fun b hb => ?_)
             | (refine alv_and ?_ ?_; focus (first | rfl | done))
             | refine DrawV.mk [] ?_
             | (refine appc_id ?_; first | refine AppC.growA ?_ | refine AppC.place ?_)
             | (refine call_id ?_; first
                  | refine CallV.c (refgood_pcon e _ h) ?_
                  | refine CallV.e (refgood_pcon e _ h) ?_)
             | (refine calls_id ?_; first
                  | refine CallS.c (refgood_pcon e _ h) ?_
                  | refine CallS.e (refgood_pcon e _ h) ?_))
    all_goals (try (conv => whnf))
    rw [show takeS e = (.zero, 24) by simp [takeS, *]]
    exact RetP.zeroE
theorem reffits_pcon (e : Edge) (f : Bool) (n : Int) (h : e.out.length * 40 ≤ 140737488355328) : PCon Try.prog 26 [e.exf f, I n] (Bo (e.fits n)) [] := by
  refine pcon_of (G := gm) Try.func26 rfl rfl rfl ?_
  rcases Bool.eq_false_or_eq_true e.good with hgd | hgd
  · have hf := good_fit e hgd
    unfold Edge.fit at hf
    repeat' (conv => whnf
             first
             | (refine get_id ?_; first | refine Get.mk _ rfl ?_)
             | (refine need_id ?_; first | refine Need.a ?_)
             | (refine eqk_id ?_; first | refine EqK.a ?_)
             | (refine br_id ?_; first | refine Br.t ?_ | refine Br.f ?_ | (refine Br.pos ?_ ?_; focus (with_reducible assumption)) | (refine Br.neg ?_ ?_; focus (with_reducible assumption)) | (refine Br.dpos ?_ ?_; focus (first | with_reducible exact rfl | with_reducible exact Int.le_refl _ | with_reducible assumption)) | (refine Br.dneg ?_ ?_; focus (with_reducible assumption)) | (refine Br.d (fun _ => ?_) (fun _ => ?_)) | refine Br.n ?_ | (refine Br.s (fun _ => ?_) (fun _ => ?_)) | (refine Br.mk (fun _ => ?_) (fun _ => ?_)))
             | (refine regv_id ?_; first | refine RegV.d ?_)
             | refine NilB.mk (fun b hb => ?_)
             | (refine alv_and ?_ ?_; focus (first | rfl | done))
             | refine DrawV.mk [] ?_
             | (refine appc_id ?_; first | refine AppC.growA ?_ | refine AppC.place ?_)
             | (refine call_id ?_; first
                  | refine CallV.c (refgood_pcon e _ h) ?_
                  | refine CallV.e (refgood_pcon e _ h) ?_)
             | (refine calls_id ?_; first
                  | refine CallS.c (refgood_pcon e _ h) ?_
                  | refine CallS.e (refgood_pcon e _ h) ?_))
    all_goals (try (conv => whnf))
    all_goals refine RetP.v ?_
    all_goals simp [Edge.fits, *]
  · repeat' (conv => whnf
             first
             | (refine get_id ?_; first | refine Get.mk _ rfl ?_)
             | (refine need_id ?_; first | refine Need.a ?_)
             | (refine eqk_id ?_; first | refine EqK.a ?_)
             | (refine br_id ?_; first | refine Br.t ?_ | refine Br.f ?_ | (refine Br.pos ?_ ?_; focus (with_reducible assumption)) | (refine Br.neg ?_ ?_; focus (with_reducible assumption)) | (refine Br.dpos ?_ ?_; focus (first | with_reducible exact rfl | with_reducible exact Int.le_refl _ | with_reducible assumption)) | (refine Br.dneg ?_ ?_; focus (with_reducible assumption)) | (refine Br.d (fun _ => ?_) (fun _ => ?_)) | refine Br.n ?_ | (refine Br.s (fun _ => ?_) (fun _ => ?_)) | (refine Br.mk (fun _ => ?_) (fun _ => ?_)))
             | (refine regv_id ?_; first | refine RegV.d ?_)
             | refine NilB.mk (fun b hb => ?_)
             | (refine alv_and ?_ ?_; focus (first | rfl | done))
             | refine DrawV.mk [] ?_
             | (refine appc_id ?_; first | refine AppC.growA ?_ | refine AppC.place ?_)
             | (refine call_id ?_; first
                  | refine CallV.c (refgood_pcon e _ h) ?_
                  | refine CallV.e (refgood_pcon e _ h) ?_)
             | (refine calls_id ?_; first
                  | refine CallS.c (refgood_pcon e _ h) ?_
                  | refine CallS.e (refgood_pcon e _ h) ?_))
    all_goals (try (conv => whnf))
    refine RetP.v ?_
    simp [Edge.fits, *]
theorem refheard_pcon (e : Edge) (f : Bool) (n : Int) (hn : -9223372036854775808 ≤ n ∧ n < 9223372036854775808) (h : e.out.length * 40 ≤ 140737488355328) : PCon Try.prog 22 [e.exf f, I n] (edgeR (heardS e n)) [msgB (heardS e n).1.out] := by
  refine pcon_of (G := gm) Try.func22 rfl rfl rfl ?_
  rcases Bool.eq_false_or_eq_true e.good with hgd | hgd
  · have hf := good_fit e hgd
    unfold Edge.fit at hf
    by_cases hnb : n > e.base
    · repeat' (conv => whnf
               first
               | (refine get_id ?_; first | refine Get.mk _ rfl ?_)
               | (refine need_id ?_; first | refine Need.a ?_)
               | (refine eqk_id ?_; first | refine EqK.a ?_)
               | (refine br_id ?_; first | refine Br.t ?_ | refine Br.f ?_ | (refine Br.pos ?_ ?_; focus (with_reducible assumption)) | (refine Br.neg ?_ ?_; focus (with_reducible assumption)) | (refine Br.dpos ?_ ?_; focus (first | with_reducible exact rfl | with_reducible exact Int.le_refl _ | with_reducible assumption)) | (refine Br.dneg ?_ ?_; focus (with_reducible assumption)) | (refine Br.d (fun _ => ?_) (fun _ => ?_)) | refine Br.n ?_ | (refine Br.s (fun _ => ?_) (fun _ => ?_)) | (refine Br.mk (fun _ => ?_) (fun _ => ?_)))
               | (refine regv_id ?_; first | refine RegV.d ?_)
               | refine NilB.mk (fun b hb => ?_)
               | (refine alv_and ?_ ?_; focus (first | rfl | done))
               | refine DrawV.mk [(7, 2)] ?_
               | (refine appc_id ?_; first | refine AppC.growA ?_ | refine AppC.place ?_)
               | (refine call_id ?_; first
                    | refine CallV.c (refgood_pcon e _ h) ?_
                    | refine CallV.e (refgood_pcon e _ h) ?_)
               | (refine calls_id ?_; first
                    | refine CallS.c (refgood_pcon e _ h) ?_
                    | refine CallS.e (refgood_pcon e _ h) ?_))
      all_goals (try (conv => whnf))
      · rw [show heardS e n = ({ e with base := n, out := e.out.drop (n - e.base).toNat }, 0) by simp [heardS, *]; omega]
        exact RetP.edge { e with base := n, out := e.out.drop (n - e.base).toNat } rfl (by simp [← List.map_take, List.take_of_length_le]) (by simp)
      · rw [show heardS e n = (e, 0) by simp [heardS, *]; omega]
        exact RetP.edge e rfl rfl rfl
    · repeat' (conv => whnf
               first
               | (refine get_id ?_; first | refine Get.mk _ rfl ?_)
               | (refine need_id ?_; first | refine Need.a ?_)
               | (refine eqk_id ?_; first | refine EqK.a ?_)
               | (refine br_id ?_; first | refine Br.t ?_ | refine Br.f ?_ | (refine Br.pos ?_ ?_; focus (with_reducible assumption)) | (refine Br.neg ?_ ?_; focus (with_reducible assumption)) | (refine Br.dpos ?_ ?_; focus (first | with_reducible exact rfl | with_reducible exact Int.le_refl _ | with_reducible assumption)) | (refine Br.dneg ?_ ?_; focus (with_reducible assumption)) | (refine Br.d (fun _ => ?_) (fun _ => ?_)) | refine Br.n ?_ | (refine Br.s (fun _ => ?_) (fun _ => ?_)) | (refine Br.mk (fun _ => ?_) (fun _ => ?_)))
               | (refine regv_id ?_; first | refine RegV.d ?_)
               | refine NilB.mk (fun b hb => ?_)
               | (refine alv_and ?_ ?_; focus (first | rfl | done))
               | refine DrawV.mk [(7, 2)] ?_
               | (refine appc_id ?_; first | refine AppC.growA ?_ | refine AppC.place ?_)
               | (refine call_id ?_; first
                    | refine CallV.c (refgood_pcon e _ h) ?_
                    | refine CallV.e (refgood_pcon e _ h) ?_)
               | (refine calls_id ?_; first
                    | refine CallS.c (refgood_pcon e _ h) ?_
                    | refine CallS.e (refgood_pcon e _ h) ?_))
      all_goals (try (conv => whnf))
      rw [show heardS e n = (e, 0) by simp [heardS, *]]
      exact RetP.edge e rfl rfl rfl
  · repeat' (conv => whnf
             first
             | (refine get_id ?_; first | refine Get.mk _ rfl ?_)
             | (refine need_id ?_; first | refine Need.a ?_)
             | (refine eqk_id ?_; first | refine EqK.a ?_)
             | (refine br_id ?_; first | refine Br.t ?_ | refine Br.f ?_ | (refine Br.pos ?_ ?_; focus (with_reducible assumption)) | (refine Br.neg ?_ ?_; focus (with_reducible assumption)) | (refine Br.dpos ?_ ?_; focus (first | with_reducible exact rfl | with_reducible exact Int.le_refl _ | with_reducible assumption)) | (refine Br.dneg ?_ ?_; focus (with_reducible assumption)) | (refine Br.d (fun _ => ?_) (fun _ => ?_)) | refine Br.n ?_ | (refine Br.s (fun _ => ?_) (fun _ => ?_)) | (refine Br.mk (fun _ => ?_) (fun _ => ?_)))
             | (refine regv_id ?_; first | refine RegV.d ?_)
             | refine NilB.mk (fun b hb => ?_)
             | (refine alv_and ?_ ?_; focus (first | rfl | done))
             | refine DrawV.mk [] ?_
             | (refine appc_id ?_; first | refine AppC.growA ?_ | refine AppC.place ?_)
             | (refine call_id ?_; first
                  | refine CallV.c (refgood_pcon e _ h) ?_
                  | refine CallV.e (refgood_pcon e _ h) ?_)
             | (refine calls_id ?_; first
                  | refine CallS.c (refgood_pcon e _ h) ?_
                  | refine CallS.e (refgood_pcon e _ h) ?_))
    all_goals (try (conv => whnf))
    rw [show heardS e n = (.zero, 24) by simp [heardS, *]]
    exact RetP.zeroE
end Go.Proofs.Ytammndlghfknbaa
