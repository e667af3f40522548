/- The laws HalfHears and HalfTakes: their walks. -/
import Derived.Test.YtammndlghfknbaaHalfF
set_option linter.unusedSimpArgs false
set_option maxRecDepth 20000
set_option linter.unusedVariables false
namespace Go.Proofs.Ytammndlghfknbaa
open Go Go.Eng Go.RowKit

set_option maxRecDepth 20000 in
set_option maxHeartbeats 2000000 in
theorem halfHears_pcon (e : Edge) (n : Int) (hn : -9223372036854775808 ≤ n ∧ n < 9223372036854775808) (h : e.out.length * 40 ≤ 140737488351232) : PCon Try.prog 5 [e.exf false, I n] (Bo true) [] := by
  have hl := heardS_len e n
  have hk := takeS_len e
  refine pcon_of (G := gm) Try.func5 rfl rfl rfl ?_
  repeat' (conv => whnf
           first
           | (refine get_id ?_; first | refine Get.mk _ rfl ?_)
           | (refine need_id ?_; first | refine Need.a ?_)
           | (refine eqk_id ?_; first | refine EqK.a ?_)
           | (refine br_id ?_; first | refine Br.t ?_ | refine Br.f ?_ | (refine Br.pos ?_ ?_; focus (with_reducible assumption)) | (refine Br.neg ?_ ?_; focus (with_reducible assumption)) | (refine Br.dpos ?_ ?_; focus (first | with_reducible exact rfl | with_reducible exact Int.le_refl _ | with_reducible assumption)) | (refine Br.dneg ?_ ?_; focus (with_reducible assumption)) | (refine Br.d (fun _ => ?_) (fun _ => ?_)) | refine Br.n ?_ | (refine Br.s (fun _ => ?_) (fun _ => ?_)) | (refine Br.mk (fun _ => ?_) (fun _ => ?_)))
           | (refine regv_id ?_; first | refine RegV.d ?_)
           | refine NilB.mk (fun b hb => ?_)
           | (refine alv_and ?_ ?_; focus (first | rfl | done))
           | refine DrawV.mk [] ?_
           | (refine appc_id ?_; first | refine AppC.growA ?_ | refine AppC.place ?_)
           | (refine call_id ?_; first
                | refine CallV.c (wakes_pcon) ?_
                | refine CallV.c (heard_pcon e _ n hn (by omega)) ?_
                | refine CallV.c (refheard_pcon e _ n hn (by omega)) ?_
                | refine CallV.c (take_pcon e _ (by omega)) ?_
                | refine CallV.c (reftake_pcon e _ (by omega)) ?_
                | refine CallV.c (fits_pcon e _ n (by omega)) ?_
                | refine CallV.c (reffits_pcon e _ n (by omega)) ?_
                | refine CallV.c (sameself_pcon (heardS e n).1 false false (by omega)) ?_
                | refine CallV.c (sameself_pcon (takeS e).1 false false (by omega)) ?_
                | refine CallV.e (wakes_pcon) ?_
                | refine CallV.e (heard_pcon e _ n hn (by omega)) ?_
                | refine CallV.e (refheard_pcon e _ n hn (by omega)) ?_
                | refine CallV.e (take_pcon e _ (by omega)) ?_
                | refine CallV.e (reftake_pcon e _ (by omega)) ?_
                | refine CallV.e (fits_pcon e _ n (by omega)) ?_
                | refine CallV.e (reffits_pcon e _ n (by omega)) ?_
                | refine CallV.e (sameself_pcon (heardS e n).1 false false (by omega)) ?_
                | refine CallV.e (sameself_pcon (takeS e).1 false false (by omega)) ?_)
           | (refine calls_id ?_; first
                | refine CallS.c (wakes_pcon) ?_
                | refine CallS.c (heard_pcon e _ n hn (by omega)) ?_
                | refine CallS.c (refheard_pcon e _ n hn (by omega)) ?_
                | refine CallS.c (take_pcon e _ (by omega)) ?_
                | refine CallS.c (reftake_pcon e _ (by omega)) ?_
                | refine CallS.c (fits_pcon e _ n (by omega)) ?_
                | refine CallS.c (reffits_pcon e _ n (by omega)) ?_
                | refine CallS.c (sameself_pcon (heardS e n).1 false false (by omega)) ?_
                | refine CallS.c (sameself_pcon (takeS e).1 false false (by omega)) ?_
                | refine CallS.e (wakes_pcon) ?_
                | refine CallS.e (heard_pcon e _ n hn (by omega)) ?_
                | refine CallS.e (refheard_pcon e _ n hn (by omega)) ?_
                | refine CallS.e (take_pcon e _ (by omega)) ?_
                | refine CallS.e (reftake_pcon e _ (by omega)) ?_
                | refine CallS.e (fits_pcon e _ n (by omega)) ?_
                | refine CallS.e (reffits_pcon e _ n (by omega)) ?_
                | refine CallS.e (sameself_pcon (heardS e n).1 false false (by omega)) ?_
                | refine CallS.e (sameself_pcon (takeS e).1 false false (by omega)) ?_))
  all_goals (try (conv => whnf))
  exact RetP.v (by simp)
set_option maxRecDepth 20000 in
set_option maxHeartbeats 2000000 in
theorem halfTakes_pcon (e : Edge) (m : Msg) (n : Int) (hn : -9223372036854775808 ≤ n ∧ n < 9223372036854775808) (h : e.out.length * 40 ≤ 140737488351232) : PCon Try.prog 6 [e.exf false, .agg m.row, I n] (Bo true) [] := by
  have hl := heardS_len e n
  have hp := pushS_len e m
  refine pcon_of (G := gm) Try.func6 rfl rfl rfl ?_
  rcases Bool.eq_false_or_eq_true e.good with hgd | hgd
  · have hf := good_fit e hgd
    unfold Edge.fit at hf
    by_cases hs : e.seen ≥ 1099511627775
    · repeat' (conv => whnf
               first
               | (refine get_id ?_; first | refine Get.mk _ rfl ?_)
               | (refine need_id ?_; first | refine Need.a ?_)
               | (refine eqk_id ?_; first | refine EqK.a ?_)
               | (refine br_id ?_; first | refine Br.t ?_ | refine Br.f ?_ | (refine Br.pos ?_ ?_; focus (with_reducible assumption)) | (refine Br.neg ?_ ?_; focus (with_reducible assumption)) | (refine Br.dpos ?_ ?_; focus (first | with_reducible exact rfl | with_reducible exact Int.le_refl _ | with_reducible assumption)) | (refine Br.dneg ?_ ?_; focus (with_reducible assumption)) | (refine Br.d (fun _ => ?_) (fun _ => ?_)) | refine Br.n ?_ | (refine Br.s (fun _ => ?_) (fun _ => ?_)) | (refine Br.mk (fun _ => ?_) (fun _ => ?_)))
               | (refine regv_id ?_; first | refine RegV.d ?_)
               | refine NilB.mk (fun b hb => ?_)
               | (refine alv_and ?_ ?_; focus (first | rfl | done))
               | refine DrawV.mk [] ?_
               | (refine appc_id ?_; first | refine AppC.growA ?_ | refine AppC.place ?_)
               | (refine call_id ?_; first
                    | refine CallV.c (wakes_pcon) ?_
                    | refine CallV.c (good_pcon e _ (by omega)) ?_
                    | refine CallV.c (fits_pcon e _ n (by omega)) ?_
                    | refine CallV.e (wakes_pcon) ?_
                    | refine CallV.e (good_pcon e _ (by omega)) ?_
                    | refine CallV.e (fits_pcon e _ n (by omega)) ?_)
               | (refine calls_id ?_; first
                    | refine CallS.c (wakes_pcon) ?_
                    | refine CallS.c (good_pcon e _ (by omega)) ?_
                    | refine CallS.c (fits_pcon e _ n (by omega)) ?_
                    | refine CallS.e (wakes_pcon) ?_
                    | refine CallS.e (good_pcon e _ (by omega)) ?_
                    | refine CallS.e (fits_pcon e _ n (by omega)) ?_))
      all_goals (try (conv => whnf))
      all_goals exact RetP.v (by simp_all)
    · have ht := take_pcon e false (by omega)
      have htg := take_good e hgd (by omega)
      obtain ⟨hh1, hh2, hh3, hh4, hh5⟩ := heard_good e n hgd
      have hs1 : e.seen < 1099511627776 := by omega
      have hs2 : e.seen + 1 < 1099511627776 := by omega
      have hs3 : ¬ e.seen = 1099511627776 := by omega
      have hs4 : ¬ e.seen = e.seen + 1 := by omega
      have hpf : (pushS e m).2 = 0 → (pushS e m).1.fits (e.seen + 1) = true := fun h0 => by
        obtain ⟨g1, g2⟩ := push_good e m hgd h0
        simp [Edge.fits, g1, g2, hs1]
      rw [show takeS e = ({ e with seen := e.seen + 1 }, 0) by simp [takeS, hgd, hs3]] at ht
      have hfits : e.fits n = (n == e.seen + 1) := by simp [Edge.fits, hgd, hs1]
      have hf1 : ({ e with seen := e.seen + 1 } : Edge).fits (e.seen + 1) = false := by simp [Edge.fits, hs4]
      have hf2 : ({ e with seen := e.seen + 1 } : Edge).fits (e.seen + 1 + 1) = true := by simp [Edge.fits, htg, hs2]
      have hf3 : (heardS e n).1.fits (e.seen + 1) = true := by simp [Edge.fits, hh1, hh3, hs1]
      have f0 := fits_pcon e false n (by omega)
      rw [hfits] at f0
      have f1 := fits_pcon { e with seen := e.seen + 1 } false (e.seen + 1) (by simp only; omega)
      rw [hf1] at f1
      have f2 := fits_pcon { e with seen := e.seen + 1 } false (e.seen + 1 + 1) (by simp only; omega)
      rw [hf2] at f2
      have f3 := fits_pcon (heardS e n).1 false (e.seen + 1) (by omega)
      rw [hf3] at f3
      repeat' (conv => whnf
               first
               | (refine get_id ?_; first | refine Get.mk _ rfl ?_)
               | (refine need_id ?_; first | refine Need.a ?_)
               | (refine eqk_id ?_; first | refine EqK.a ?_)
               | (refine br_id ?_; first | refine Br.t ?_ | refine Br.f ?_ | (refine Br.pos ?_ ?_; focus (with_reducible assumption)) | (refine Br.neg ?_ ?_; focus (with_reducible assumption)) | (refine Br.dpos ?_ ?_; focus (first | with_reducible exact rfl | with_reducible exact Int.le_refl _ | with_reducible assumption)) | (refine Br.dneg ?_ ?_; focus (with_reducible assumption)) | (refine Br.d (fun _ => ?_) (fun _ => ?_)) | refine Br.n ?_ | (refine Br.s (fun _ => ?_) (fun _ => ?_)) | (refine Br.mk (fun _ => ?_) (fun _ => ?_)))
               | (refine regv_id ?_; first | refine RegV.d ?_)
               | refine NilB.mk (fun b hb => ?_)
               | (refine alv_and ?_ ?_; focus (first | rfl | done))
               | refine DrawV.mk [] ?_
               | (refine appc_id ?_; first | refine AppC.growA ?_ | refine AppC.place ?_)
               | (refine call_id ?_; first
                    | refine CallV.c (wakes_pcon) ?_
                    | refine CallV.c (good_pcon e _ (by omega)) ?_
                    | refine CallV.c (f0) ?_
                    | refine CallV.c (f1) ?_
                    | refine CallV.c (f2) ?_
                    | refine CallV.c (ht) ?_
                    | refine CallV.c (push_pcon e _ m (by omega)) ?_
                    | refine CallV.c (heard_pcon e _ n hn (by omega)) ?_
                    | refine CallV.c (fits_pcon (pushS e m).1 _ (e.seen + 1) (by omega)) ?_
                    | refine CallV.c (f3) ?_
                    | refine CallV.e (wakes_pcon) ?_
                    | refine CallV.e (good_pcon e _ (by omega)) ?_
                    | refine CallV.e (f0) ?_
                    | refine CallV.e (f1) ?_
                    | refine CallV.e (f2) ?_
                    | refine CallV.e (ht) ?_
                    | refine CallV.e (push_pcon e _ m (by omega)) ?_
                    | refine CallV.e (heard_pcon e _ n hn (by omega)) ?_
                    | refine CallV.e (fits_pcon (pushS e m).1 _ (e.seen + 1) (by omega)) ?_
                    | refine CallV.e (f3) ?_)
               | (refine calls_id ?_; first
                    | refine CallS.c (wakes_pcon) ?_
                    | refine CallS.c (good_pcon e _ (by omega)) ?_
                    | refine CallS.c (f0) ?_
                    | refine CallS.c (f1) ?_
                    | refine CallS.c (f2) ?_
                    | refine CallS.c (ht) ?_
                    | refine CallS.c (push_pcon e _ m (by omega)) ?_
                    | refine CallS.c (heard_pcon e _ n hn (by omega)) ?_
                    | refine CallS.c (fits_pcon (pushS e m).1 _ (e.seen + 1) (by omega)) ?_
                    | refine CallS.c (f3) ?_
                    | refine CallS.e (wakes_pcon) ?_
                    | refine CallS.e (good_pcon e _ (by omega)) ?_
                    | refine CallS.e (f0) ?_
                    | refine CallS.e (f1) ?_
                    | refine CallS.e (f2) ?_
                    | refine CallS.e (ht) ?_
                    | refine CallS.e (push_pcon e _ m (by omega)) ?_
                    | refine CallS.e (heard_pcon e _ n hn (by omega)) ?_
                    | refine CallS.e (fits_pcon (pushS e m).1 _ (e.seen + 1) (by omega)) ?_
                    | refine CallS.e (f3) ?_))
      all_goals (try (conv => whnf))
      all_goals exact RetP.v (by simp_all)
  · repeat' (conv => whnf
             first
             | (refine get_id ?_; first | refine Get.mk _ rfl ?_)
             | (refine need_id ?_; first | refine Need.a ?_)
             | (refine eqk_id ?_; first | refine EqK.a ?_)
             | (refine br_id ?_; first | refine Br.t ?_ | refine Br.f ?_ | (refine Br.pos ?_ ?_; focus (with_reducible assumption)) | (refine Br.neg ?_ ?_; focus (with_reducible assumption)) | (refine Br.dpos ?_ ?_; focus (first | with_reducible exact rfl | with_reducible exact Int.le_refl _ | with_reducible assumption)) | (refine Br.dneg ?_ ?_; focus (with_reducible assumption)) | (refine Br.d (fun _ => ?_) (fun _ => ?_)) | refine Br.n ?_ | (refine Br.s (fun _ => ?_) (fun _ => ?_)) | (refine Br.mk (fun _ => ?_) (fun _ => ?_)))
             | (refine regv_id ?_; first | refine RegV.d ?_)
             | refine NilB.mk (fun b hb => ?_)
             | (refine alv_and ?_ ?_; focus (first | rfl | done))
             | refine DrawV.mk [] ?_
             | (refine appc_id ?_; first | refine AppC.growA ?_ | refine AppC.place ?_)
             | (refine call_id ?_; first
                  | refine CallV.c (wakes_pcon) ?_
                  | refine CallV.c (good_pcon e _ (by omega)) ?_
                  | refine CallV.c (fits_pcon e _ n (by omega)) ?_
                  | refine CallV.e (wakes_pcon) ?_
                  | refine CallV.e (good_pcon e _ (by omega)) ?_
                  | refine CallV.e (fits_pcon e _ n (by omega)) ?_)
             | (refine calls_id ?_; first
                  | refine CallS.c (wakes_pcon) ?_
                  | refine CallS.c (good_pcon e _ (by omega)) ?_
                  | refine CallS.c (fits_pcon e _ n (by omega)) ?_
                  | refine CallS.e (wakes_pcon) ?_
                  | refine CallS.e (good_pcon e _ (by omega)) ?_
                  | refine CallS.e (fits_pcon e _ n (by omega)) ?_))
    all_goals (try (conv => whnf))
    all_goals exact RetP.v (by simp_all [Edge.fits])
end Go.Proofs.Ytammndlghfknbaa
