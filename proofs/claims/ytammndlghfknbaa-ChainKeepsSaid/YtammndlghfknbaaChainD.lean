/- chain: the law ChainTurns. -/
import Derived.Test.YtammndlghfknbaaChainC
set_option linter.unusedSimpArgs false
set_option maxRecDepth 20000
set_option linter.unusedVariables false
namespace Go.Proofs.Ytammndlghfknbaa
open Go Go.Eng Go.RowKit

theorem addS_len (cs : List Cell) (n : Int) : (addS cs n).length = cs.length + 1 := by simp [addS]
theorem cellsameself_pcon (a : List Cell) (f g : Bool) (ha : a.length * 32 ≤ 140737488355328) : PCon Try.prog 29 [cellX f a, cellX g a] (Bo true) [] := by
  have := refsame_pcon a a f g ha
  rwa [show (a == a) = true by simp] at this
set_option maxRecDepth 20000 in
set_option maxHeartbeats 2000000 in
theorem chainTurns_pcon (cs : List Cell) (node num : Int) (h : cs.length * 32 ≤ 140737488351232) : PCon Try.prog 10 [cellX false cs, I node, I num] (Bo true) [] := by
  have ha := addS_len cs num
  have hs := succS_len cs node num
  have hg := grantS_len cs num
  have hr := relS_len cs
  refine pcon_of (G := gm) Try.func10 rfl rfl rfl ?_
  repeat' (conv => whnf
           first
           | (refine get_id ?_; first | refine Get.mk _ rfl ?_)
           | (refine need_id ?_; first | refine Need.a ?_)
           | (refine eqk_id ?_; first | refine EqK.a ?_)
           | (refine br_id ?_; first | refine Br.t ?_ | refine Br.f ?_ | (refine Br.pos ?_ ?_; focus (with_reducible assumption)) | (refine Br.neg ?_ ?_; focus (with_reducible assumption)) | (refine Br.dpos ?_ ?_; focus (first | with_reducible exact rfl | with_reducible exact Int.le_refl _ | with_reducible assumption)) | (refine Br.dneg ?_ ?_; focus (with_reducible assumption)) | (refine Br.d (fun _ => ?_) (fun _ => ?_)) | refine Br.n ?_ | (refine Br.s (fun _ => ?_) (fun _ => ?_)) | (refine Br.mk (fun _ => ?_) (fun _ => ?_)))
           | (refine regv_id ?_; first | refine RegV.d ?_)
           | refine NilB.mk (fun b hb => ?_)
           | (refine alv_and ?_ ?_; focus (first | rfl | done))
           | refine DrawV.mk [] ?_
           | (refine appc_id ?_; first | refine AppC.growA ?_ | refine AppC.place ?_)
           | (refine call_id ?_; first
                | refine CallV.c (wakes13_pcon) ?_
                | refine CallV.c (add_pcon _ cs num (by omega)) ?_
                | refine CallV.c (refadd_pcon _ cs num (by omega)) ?_
                | refine CallV.c (succ_pcon _ cs node num (by omega)) ?_
                | refine CallV.c (refsucc_pcon _ cs node num (by omega)) ?_
                | refine CallV.c (grant_pcon _ cs num (by omega)) ?_
                | refine CallV.c (refgrant_pcon _ cs num (by omega)) ?_
                | refine CallV.c (release_pcon _ cs (by omega)) ?_
                | refine CallV.c (refrel_pcon _ cs (by omega)) ?_
                | refine CallV.c (cellsameself_pcon (addS cs num) false false (by omega)) ?_
                | refine CallV.c (cellsameself_pcon (succS cs node num).1 false false (by omega)) ?_
                | refine CallV.c (cellsameself_pcon (grantS cs num).1 false false (by omega)) ?_
                | refine CallV.c (cellsameself_pcon (relS cs).1 false false (by omega)) ?_
                | refine CallV.e (wakes13_pcon) ?_
                | refine CallV.e (add_pcon _ cs num (by omega)) ?_
                | refine CallV.e (refadd_pcon _ cs num (by omega)) ?_
                | refine CallV.e (succ_pcon _ cs node num (by omega)) ?_
                | refine CallV.e (refsucc_pcon _ cs node num (by omega)) ?_
                | refine CallV.e (grant_pcon _ cs num (by omega)) ?_
                | refine CallV.e (refgrant_pcon _ cs num (by omega)) ?_
                | refine CallV.e (release_pcon _ cs (by omega)) ?_
                | refine CallV.e (refrel_pcon _ cs (by omega)) ?_
                | refine CallV.e (cellsameself_pcon (addS cs num) false false (by omega)) ?_
                | refine CallV.e (cellsameself_pcon (succS cs node num).1 false false (by omega)) ?_
                | refine CallV.e (cellsameself_pcon (grantS cs num).1 false false (by omega)) ?_
                | refine CallV.e (cellsameself_pcon (relS cs).1 false false (by omega)) ?_)
           | (refine calls_id ?_; first
                | refine CallS.c (wakes13_pcon) ?_
                | refine CallS.c (add_pcon _ cs num (by omega)) ?_
                | refine CallS.c (refadd_pcon _ cs num (by omega)) ?_
                | refine CallS.c (succ_pcon _ cs node num (by omega)) ?_
                | refine CallS.c (refsucc_pcon _ cs node num (by omega)) ?_
                | refine CallS.c (grant_pcon _ cs num (by omega)) ?_
                | refine CallS.c (refgrant_pcon _ cs num (by omega)) ?_
                | refine CallS.c (release_pcon _ cs (by omega)) ?_
                | refine CallS.c (refrel_pcon _ cs (by omega)) ?_
                | refine CallS.c (cellsameself_pcon (addS cs num) false false (by omega)) ?_
                | refine CallS.c (cellsameself_pcon (succS cs node num).1 false false (by omega)) ?_
                | refine CallS.c (cellsameself_pcon (grantS cs num).1 false false (by omega)) ?_
                | refine CallS.c (cellsameself_pcon (relS cs).1 false false (by omega)) ?_
                | refine CallS.e (wakes13_pcon) ?_
                | refine CallS.e (add_pcon _ cs num (by omega)) ?_
                | refine CallS.e (refadd_pcon _ cs num (by omega)) ?_
                | refine CallS.e (succ_pcon _ cs node num (by omega)) ?_
                | refine CallS.e (refsucc_pcon _ cs node num (by omega)) ?_
                | refine CallS.e (grant_pcon _ cs num (by omega)) ?_
                | refine CallS.e (refgrant_pcon _ cs num (by omega)) ?_
                | refine CallS.e (release_pcon _ cs (by omega)) ?_
                | refine CallS.e (refrel_pcon _ cs (by omega)) ?_
                | refine CallS.e (cellsameself_pcon (addS cs num) false false (by omega)) ?_
                | refine CallS.e (cellsameself_pcon (succS cs node num).1 false false (by omega)) ?_
                | refine CallS.e (cellsameself_pcon (grantS cs num).1 false false (by omega)) ?_
                | refine CallS.e (cellsameself_pcon (relS cs).1 false false (by omega)) ?_))
  all_goals (try (conv => whnf))
  exact RetP.v (by simp)
end Go.Proofs.Ytammndlghfknbaa
