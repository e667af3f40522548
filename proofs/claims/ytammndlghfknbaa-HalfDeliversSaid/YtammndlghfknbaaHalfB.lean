/- half: Heard, Fits, Take; what a side must do. -/
import Derived.Test.YtammndlghfknbaaHalfR
set_option linter.unusedSimpArgs false
set_option maxRecDepth 20000
set_option linter.unusedVariables false
namespace Go.Proofs.Ytammndlghfknbaa
open Go Go.Eng Go.RowKit

def Edge.fits (e : Edge) (n : Int) : Bool := e.good && decide (e.seen < 1099511627776) && n == e.seen + 1
theorem fits_pcon (e : Edge) (f : Bool) (n : Int) (h : e.out.length * 40 ≤ 140737488355328) : PCon Try.prog 25 [e.exf f, I n] (Bo (e.fits n)) [] := by
  refine pcon_of (G := gm) Try.func25 rfl rfl rfl ?_
  rcases Bool.eq_false_or_eq_true e.good with hgd | hgd
  · have hf := good_fit e hgd
    unfold Edge.fit at hf
    repeat' (conv => whnf
             first
             | (refine get_id ?_; first | refine Get.mk _ rfl ?_)
             | (refine need_id ?_; first | refine Need.a ?_)
             | (refine eqk_id ?_; first | refine EqK.a ?_)
             | (refine br_id ?_; first | refine Br.t ?_ | refine Br.f ?_ | (refine Br.pos ?_ ?_; focus (with_reducible assumption)) | (refine Br.neg ?_ ?_; focus (with_reducible assumption)) | (refine Br.dpos ?_ ?_; focus (first | with_reducible exact rfl | with_reducible exact Int.le_refl _ | with_reducible assumption)) | (refine Br.dneg ?_ ?_; focus (with_reducible assumption)) | (refine Br.d (fun _ => ?_) (fun _ => ?_)) | refine Br.n ?_ | (refine Br.s (fun _ => ?_) (fun _ => ?_)) | (refine Br.mk (fun _ => ?_) (fun _ => ?_)))
             | (refine regv_id ?_; first | refine RegV.d ?_)
             | refine NilB.mk (fun b hb => ?_)
             | (refine alv_and ?_ ?_; focus (first | rfl | done))
             | refine DrawV.mk [] ?_
             | (refine appc_id ?_; first | refine AppC.growA ?_ | refine AppC.place ?_)
             | (refine call_id ?_; first
                  | refine CallV.c (good_pcon e _ h) ?_
                  | refine CallV.e (good_pcon e _ h) ?_)
             | (refine calls_id ?_; first
                  | refine CallS.c (good_pcon e _ h) ?_
                  | refine CallS.e (good_pcon e _ h) ?_))
    all_goals (try (conv => whnf))
    all_goals refine RetP.v ?_
    all_goals simp [Edge.fits, *]
  · repeat' (conv => whnf
             first
             | (refine get_id ?_; first | refine Get.mk _ rfl ?_)
             | (refine need_id ?_; first | refine Need.a ?_)
             | (refine eqk_id ?_; first | refine EqK.a ?_)
             | (refine br_id ?_; first | refine Br.t ?_ | refine Br.f ?_ | (refine Br.pos ?_ ?_; focus (with_reducible assumption)) | (refine Br.neg ?_ ?_; focus (with_reducible assumption)) | (refine Br.dpos ?_ ?_; focus (first | with_reducible exact rfl | with_reducible exact Int.le_refl _ | with_reducible assumption)) | (refine Br.dneg ?_ ?_; focus (with_reducible assumption)) | (refine Br.d (fun _ => ?_) (fun _ => ?_)) | refine Br.n ?_ | (refine Br.s (fun _ => ?_) (fun _ => ?_)) | (refine Br.mk (fun _ => ?_) (fun _ => ?_)))
             | (refine regv_id ?_; first | refine RegV.d ?_)
             | refine NilB.mk (fun b hb => ?_)
             | (refine alv_and ?_ ?_; focus (first | rfl | done))
             | refine DrawV.mk [] ?_
             | (refine appc_id ?_; first | refine AppC.growA ?_ | refine AppC.place ?_)
             | (refine call_id ?_; first
                  | refine CallV.c (good_pcon e _ h) ?_
                  | refine CallV.e (good_pcon e _ h) ?_)
             | (refine calls_id ?_; first
                  | refine CallS.c (good_pcon e _ h) ?_
                  | refine CallS.e (good_pcon e _ h) ?_))
    all_goals (try (conv => whnf))
    refine RetP.v ?_
    simp [Edge.fits, *]
def heardS (e : Edge) (ack : Int) : Edge × Int :=
  if e.good = false then (.zero, 24) else if ack > e.base ∧ ack - e.base ≤ e.out.length then ({ e with base := ack, out := e.out.drop (ack - e.base).toNat }, 0) else (e, 0)
theorem heard_pcon (e : Edge) (f : Bool) (n : Int) (hn : -9223372036854775808 ≤ n ∧ n < 9223372036854775808) (h : e.out.length * 40 ≤ 140737488355328) : PCon Try.prog 21 [e.exf f, I n] (edgeR (heardS e n)) [msgB (heardS e n).1.out] := by
  refine pcon_of (G := gm) Try.func21 rfl rfl rfl ?_
  rcases Bool.eq_false_or_eq_true e.good with hgd | hgd
  · have hf := good_fit e hgd
    unfold Edge.fit at hf
    by_cases hnb : n > e.base
    · have hdr : List.take (e.out.length - (n - e.base).toNat) (List.drop (n - e.base).toNat (e.out.map Msg.row)) = (e.out.drop (n - e.base).toNat).map Msg.row := by simp [List.take_of_length_le]
      have hdl : (e.out.drop (n - e.base).toNat).length ≤ e.out.length := by simp
      repeat' (conv => whnf
               first
               | (refine get_id ?_; first | refine Get.mk _ rfl ?_)
               | (refine need_id ?_; first | refine Need.a ?_)
               | (refine eqk_id ?_; first | refine EqK.a ?_)
               | (refine br_id ?_; first | refine Br.t ?_ | refine Br.f ?_ | (refine Br.pos ?_ ?_; focus (with_reducible assumption)) | (refine Br.neg ?_ ?_; focus (with_reducible assumption)) | (refine Br.dpos ?_ ?_; focus (first | with_reducible exact rfl | with_reducible exact Int.le_refl _ | with_reducible assumption)) | (refine Br.dneg ?_ ?_; focus (with_reducible assumption)) | (refine Br.d (fun _ => ?_) (fun _ => ?_)) | refine Br.n ?_ | (refine Br.s (fun _ => ?_) (fun _ => ?_)) | (refine Br.mk (fun _ => ?_) (fun _ => ?_)))
               | (refine regv_id ?_; first | refine RegV.d ?_)
               | refine NilB.mk (fun b hb => ?_)
               | (refine alv_and ?_ ?_; focus (first | rfl | done))
               | refine DrawV.mk [] ?_
               | (refine appc_id ?_; first | refine AppC.growA ?_ | refine AppC.place ?_)
               | (refine call_id ?_; first
                    | refine CallV.c (good_pcon e _ h) ?_
                    | refine CallV.c (copied_pcon e _ h) ?_
                    | refine CallV.c (clone_pcon false (e.out.drop (n - e.base).toNat) (by omega)) ?_
                    | refine CallV.e (good_pcon e _ h) ?_
                    | refine CallV.e (copied_pcon e _ h) ?_
                    | refine CallV.e (clone_pcon false (e.out.drop (n - e.base).toNat) (by omega)) ?_)
               | (refine calls_id ?_; first
                    | refine CallS.c (good_pcon e _ h) ?_
                    | refine CallS.c (copied_pcon e _ h) ?_
                    | refine CallS.c (clone_pcon false (e.out.drop (n - e.base).toNat) (by omega)) ?_
                    | refine CallS.e (good_pcon e _ h) ?_
                    | refine CallS.e (copied_pcon e _ h) ?_
                    | refine CallS.e (clone_pcon false (e.out.drop (n - e.base).toNat) (by omega)) ?_))
      all_goals (try (conv => whnf))
      · rw [show heardS e n = ({ e with base := n, out := e.out.drop (n - e.base).toNat }, 0) by simp [heardS, *]]
        exact RetP.edge { e with base := n, out := e.out.drop (n - e.base).toNat } rfl rfl rfl
      · rw [show heardS e n = (e, 0) by simp [heardS, *]]
        exact RetP.edge e rfl rfl rfl
    · repeat' (conv => whnf
               first
               | (refine get_id ?_; first | refine Get.mk _ rfl ?_)
               | (refine need_id ?_; first | refine Need.a ?_)
               | (refine eqk_id ?_; first | refine EqK.a ?_)
               | (refine br_id ?_; first | refine Br.t ?_ | refine Br.f ?_ | (refine Br.pos ?_ ?_; focus (with_reducible assumption)) | (refine Br.neg ?_ ?_; focus (with_reducible assumption)) | (refine Br.dpos ?_ ?_; focus (first | with_reducible exact rfl | with_reducible exact Int.le_refl _ | with_reducible assumption)) | (refine Br.dneg ?_ ?_; focus (with_reducible assumption)) | (refine Br.d (fun _ => ?_) (fun _ => ?_)) | refine Br.n ?_ | (refine Br.s (fun _ => ?_) (fun _ => ?_)) | (refine Br.mk (fun _ => ?_) (fun _ => ?_)))
               | (refine regv_id ?_; first | refine RegV.d ?_)
               | refine NilB.mk (fun b hb => ?_)
               | (refine alv_and ?_ ?_; focus (first | rfl | done))
               | refine DrawV.mk [] ?_
               | (refine appc_id ?_; first | refine AppC.growA ?_ | refine AppC.place ?_)
               | (refine call_id ?_; first
                    | refine CallV.c (good_pcon e _ h) ?_
                    | refine CallV.c (copied_pcon e _ h) ?_
                    | refine CallV.e (good_pcon e _ h) ?_
                    | refine CallV.e (copied_pcon e _ h) ?_)
               | (refine calls_id ?_; first
                    | refine CallS.c (good_pcon e _ h) ?_
                    | refine CallS.c (copied_pcon e _ h) ?_
                    | refine CallS.e (good_pcon e _ h) ?_
                    | refine CallS.e (copied_pcon e _ h) ?_))
      all_goals (try (conv => whnf))
      rw [show heardS e n = (e, 0) by simp [heardS, *]]
      exact RetP.edge e rfl rfl rfl
  · repeat' (conv => whnf
             first
             | (refine get_id ?_; first | refine Get.mk _ rfl ?_)
             | (refine need_id ?_; first | refine Need.a ?_)
             | (refine eqk_id ?_; first | refine EqK.a ?_)
             | (refine br_id ?_; first | refine Br.t ?_ | refine Br.f ?_ | (refine Br.pos ?_ ?_; focus (with_reducible assumption)) | (refine Br.neg ?_ ?_; focus (with_reducible assumption)) | (refine Br.dpos ?_ ?_; focus (first | with_reducible exact rfl | with_reducible exact Int.le_refl _ | with_reducible assumption)) | (refine Br.dneg ?_ ?_; focus (with_reducible assumption)) | (refine Br.d (fun _ => ?_) (fun _ => ?_)) | refine Br.n ?_ | (refine Br.s (fun _ => ?_) (fun _ => ?_)) | (refine Br.mk (fun _ => ?_) (fun _ => ?_)))
             | (refine regv_id ?_; first | refine RegV.d ?_)
             | refine NilB.mk (fun b hb => ?_)
             | (refine alv_and ?_ ?_; focus (first | rfl | done))
             | refine DrawV.mk [] ?_
             | (refine appc_id ?_; first | refine AppC.growA ?_ | refine AppC.place ?_)
             | (refine call_id ?_; first
                  | refine CallV.c (good_pcon e _ h) ?_
                  | refine CallV.e (good_pcon e _ h) ?_)
             | (refine calls_id ?_; first
                  | refine CallS.c (good_pcon e _ h) ?_
                  | refine CallS.e (good_pcon e _ h) ?_))
    all_goals (try (conv => whnf))
    rw [show heardS e n = (.zero, 24) by simp [heardS, *]]
    exact RetP.zeroE
def e0 : Edge := ⟨1, 0, [], 0⟩
def m0 : Msg := ⟨1, 0, 0, 1, 0⟩
def e1 : Edge := ⟨1, 0, [m0], 0⟩
def e2 : Edge := ⟨1, 1, [], 0⟩
theorem push0 : pushS e0 m0 = (e1, 0) := by decide
theorem heard0 : heardS e1 1 = (e2, 0) := by decide
theorem push0_pcon (f : Bool) : PCon Try.prog 16 [e0.exf f, .agg m0.row] (edgeR (e1, 0)) [msgB e1.out] := by
  have := push_pcon e0 f m0 (by simp [e0])
  rwa [push0] at this
theorem heard0_pcon (f : Bool) : PCon Try.prog 21 [e1.exf f, I 1] (edgeR (e2, 0)) [msgB e2.out] := by
  have := heard_pcon e1 f 1 (by omega) (by simp [e1])
  rwa [heard0] at this
theorem fits0_pcon (f : Bool) : PCon Try.prog 25 [e1.exf f, I 1] (Bo true) [] := fits_pcon e1 f 1 (by simp [e1])
set_option maxRecDepth 20000 in
theorem wakes_pcon : PCon Try.prog 15 [] (Bo true) [] := by
  refine pcon_of (G := gm) Try.func15 rfl rfl rfl ?_
  repeat' (conv => whnf
           first
           | (refine get_id ?_; first | refine Get.mk _ rfl ?_)
           | (refine need_id ?_; first | refine Need.a ?_)
           | (refine eqk_id ?_; first | refine EqK.a ?_)
           | (refine br_id ?_; first | refine Br.t ?_ | refine Br.f ?_ | (refine Br.pos ?_ ?_; focus (with_reducible assumption)) | (refine Br.neg ?_ ?_; focus (with_reducible assumption)) | (refine Br.dpos ?_ ?_; focus (first | with_reducible exact rfl | with_reducible exact Int.le_refl _ | with_reducible assumption)) | (refine Br.dneg ?_ ?_; focus (with_reducible assumption)) | (refine Br.d (fun _ => ?_) (fun _ => ?_)) | refine Br.n ?_ | (refine Br.s (fun _ => ?_) (fun _ => ?_)) | (refine Br.mk (fun _ => ?_) (fun _ => ?_)))
           | (refine regv_id ?_; first | refine RegV.d ?_)
           | refine NilB.mk (fun b hb => ?_)
           | (refine alv_and ?_ ?_; focus (first | rfl | done))
           | refine DrawV.mk [] ?_
           | (refine appc_id ?_; first | refine AppC.growA ?_ | refine AppC.place ?_)
           | (refine call_id ?_; first
                | refine CallV.c (push0_pcon false) ?_
                | refine CallV.c (heard0_pcon false) ?_
                | refine CallV.c (fits0_pcon false) ?_
                | refine CallV.e (push0_pcon false) ?_
                | refine CallV.e (heard0_pcon false) ?_
                | refine CallV.e (fits0_pcon false) ?_)
           | (refine calls_id ?_; first
                | refine CallS.c (push0_pcon false) ?_
                | refine CallS.c (heard0_pcon false) ?_
                | refine CallS.c (fits0_pcon false) ?_
                | refine CallS.e (push0_pcon false) ?_
                | refine CallS.e (heard0_pcon false) ?_
                | refine CallS.e (fits0_pcon false) ?_))
  all_goals (try (conv => whnf))
  exact RetP.v rfl
end Go.Proofs.Ytammndlghfknbaa
