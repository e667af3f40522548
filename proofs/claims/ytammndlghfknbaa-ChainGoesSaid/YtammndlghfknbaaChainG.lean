/- chain: the law ChainStays, walked. -/
import Derived.Test.YtammndlghfknbaaChainF
set_option linter.unusedSimpArgs false
set_option maxRecDepth 20000
set_option linter.unusedVariables false
namespace Go.Proofs.Ytammndlghfknbaa
open Go Go.Eng Go.RowKit

theorem good_is {f : Bool} {cs : List Cell} {me : Int} {sink b : Bool} (h : cs.length * 32 ≤ 140737488355328) (hb : goodC cs me sink = b) : PCon Try.prog 38 [cellX f cs, I me, Bo sink] (Bo b) [] := hb ▸ good_pcon f cs me sink h
set_option maxHeartbeats 4000000 in
theorem chainStays_pcon (cs : List Cell) (me far : Int) (h : cs.length * 32 ≤ 140737488351232) : PCon Try.prog 13 [cellX false cs, I me, I far] (Bo true) [] := by
  refine pcon_of (G := gm) Try.func13 rfl rfl rfl ?_
  have hl4 := relS_len cs
  have hl3 := grantS_len cs (cs.getD 0 default).num
  by_cases hm : (0 ≤ me ∧ me < 32 ∧ 0 ≤ far ∧ far < 32 ∧ far ≠ me)
  · obtain ⟨hm1, hm2, hf1, hf2, hf3⟩ := hm
    cases hsk : goodC cs me true with
    | true =>
      have h0 := ((goodC_iff cs me true).1 hsk).1 rfl
      have hb : 0 ≤ (cs.getD (cs.length - 1) default).num ∧ (cs.getD (cs.length - 1) default).num ≤ 1099511627776 := by
        have := ((goodC_iff cs me true).1 hsk).2 (cs.length - 1) (by omega)
        omega
      have hl1 := succS_len cs me ((cs.getD (cs.length - 1) default).num + 1)
      have hl2 := succS_len cs far 7
      have c1 := good_is (f := false) (by omega) hsk
      have c0 := good_pcon false cs me false (by omega)
      have c2 := good_is (f := false) (by omega) (stays_far cs me far hsk ⟨hf1, hf2, hf3⟩)
      have s1 := succ_pcon false cs me ((cs.getD (cs.length - 1) default).num + 1) h
      have a1 := add_pcon false (succS cs me ((cs.getD (cs.length - 1) default).num + 1)).1 ((cs.getD (cs.length - 1) default).num + 1) (by omega)
      have hstate : (0 < cs.length ∧ (cs.getD 0 default).state = 1) ∨ (0 < cs.length ∧ (cs.getD 0 default).state = 2) ∨ (cs.getD 0 default).state = 3 := by
        have := ((goodC_iff cs me true).1 hsk).2 0 h0
        omega
      by_cases hn : (cs.getD (cs.length - 1) default).num + 1 ≤ 1099511627776
      · obtain ⟨e0, e2⟩ := stays_add cs me hsk ⟨hm1, hm2⟩ hn
        have c4 := good_is (f := false) (show (addS (succS cs me ((cs.getD (cs.length - 1) default).num + 1)).1 ((cs.getD (cs.length - 1) default).num + 1)).length * 32 ≤ 140737488355328 by rw [addS_len]; omega) e2
        have e1 : (((succS cs me ((cs.getD (cs.length - 1) default).num + 1)).1.length : Int) == (cs.length : Int) - 1) = (succS cs me ((cs.getD (cs.length - 1) default).num + 1)).2 := by
          rw [e0, Bool.eq_iff_iff]
          simp only [beq_iff_eq]
          omega
        clear e0 e2
        generalize (succS cs me ((cs.getD (cs.length - 1) default).num + 1)).2 = b at *
        rcases hstate with ⟨hlen, hw⟩ | ⟨hlen, hw⟩ | hw
        · obtain ⟨g1, g2, g3⟩ := stays_grant cs me true hsk hlen hw
          have r1 := release_pcon false cs h
          rw [stays_rel_none cs me true hsk (by omega)] at r1
          have gr := grant_pcon false cs (cs.getD 0 default).num h
          rw [g1] at gr
          have c3 := good_is (f := false) (by omega) g2
          have o1 := open_pcon false (grantS cs (cs.getD 0 default).num).1 (by omega)
          rw [g3] at o1
          have c5 := True.intro
          have o5 := True.intro
          clear hl4
          generalize addS (succS cs me ((cs.getD (cs.length - 1) default).num + 1)).1 ((cs.getD (cs.length - 1) default).num + 1) = AA at *
          generalize (succS cs me ((cs.getD (cs.length - 1) default).num + 1)).1 = A1 at *
          have c6 := succ_pcon false cs far 7 h
          have c7 := open_pcon false cs (by omega)
          generalize (succS cs far 7).1 = A2 at *
          generalize (succS cs far 7).2 = b2 at *
          generalize (grantS cs (cs.getD 0 default).num).1 = A3 at *
          generalize (grantS cs (cs.getD 0 default).num).2 = b3 at *
          have hoc := openS_le cs
          generalize openS cs = oc at *
          generalize goodC cs me false = g0 at *
          repeat' (conv => whnf
                   first
                   | (refine get_id ?_; first | refine Get.mk _ rfl ?_ | refine Get.mk _ (nth_getD cs (cs.length - 1) (by omega) (by omega)) ?_ | refine Get.mk _ (nth_getD cs 0 (by omega) (by omega)) ?_)
                   | (refine need_id ?_; first | refine Need.a ?_)
                   | (refine eqk_id ?_; first | refine EqK.mk _ (wrap64 (by omega) (by omega)) ?_ | refine EqK.a ?_)
                   | (refine br_id ?_; first | refine Br.t ?_ | refine Br.f ?_ | (refine Br.pos ?_ ?_; focus (with_reducible assumption)) | (refine Br.neg ?_ ?_; focus (with_reducible assumption)) | (refine Br.dpos ?_ ?_; focus (first | with_reducible exact rfl | with_reducible exact Int.le_refl _ | with_reducible assumption)) | (refine Br.dneg ?_ ?_; focus (with_reducible assumption)) | (refine Br.d (fun _ => ?_) (fun _ => ?_) <;> (first | (exfalso; omega; done) | skip)) | refine Br.n ?_ | (refine Br.s (fun _ => ?_) (fun _ => ?_) <;> (first | (exfalso; omega; done) | skip)) | (refine Br.mk (fun _ => ?_) (fun _ => ?_) <;> (first | (exfalso; omega; done) | skip)))
                   | (refine regv_id ?_; first | refine RegV.d (id := 10) ?_ | refine RegV.q ?_)
                   | (refine gds_id ?_; apply GdS.mk)
                   | (refine and_id ?_; exact ⟨rfl, rfl, rfl⟩)
                   | (refine imp_id ?_; first | refine imp_s (fun _ => ?_) | refine fun _ => ?_)
                   | refine NilB.mk (fun b hb => ?_)
                   | (refine alv_and ?_ ?_; focus (first | rfl | done))
                   | refine DrawV.mk [] ?_
                   | (refine appc_id ?_; first | refine AppC.growA ?_ | refine AppC.place ?_)
                   | (refine call_id ?_; first
                        | refine CallV.c (wakes13_pcon) ?_
                        | refine CallV.c (c1) ?_
                        | refine CallV.c (c0) ?_
                        | refine CallV.c (s1) ?_
                        | refine CallV.c (a1) ?_
                        | refine CallV.c (c4) ?_
                        | refine CallV.c (c6) ?_
                        | refine CallV.c (c2) ?_
                        | refine CallV.c (gr) ?_
                        | refine CallV.c (c3) ?_
                        | refine CallV.c (o1) ?_
                        | refine CallV.c (c7) ?_
                        | refine CallV.c (r1) ?_
                        | refine CallV.c (c5) ?_
                        | refine CallV.c (o5) ?_
                        | refine CallV.e (wakes13_pcon) ?_
                        | refine CallV.e (c1) ?_
                        | refine CallV.e (c0) ?_
                        | refine CallV.e (s1) ?_
                        | refine CallV.e (a1) ?_
                        | refine CallV.e (c4) ?_
                        | refine CallV.e (c6) ?_
                        | refine CallV.e (c2) ?_
                        | refine CallV.e (gr) ?_
                        | refine CallV.e (c3) ?_
                        | refine CallV.e (o1) ?_
                        | refine CallV.e (c7) ?_
                        | refine CallV.e (r1) ?_
                        | refine CallV.e (c5) ?_
                        | refine CallV.e (o5) ?_)
                   | (refine calls_id ?_; first
                        | refine CallS.c (wakes13_pcon) ?_
                        | refine CallS.c (c1) ?_
                        | refine CallS.c (c0) ?_
                        | refine CallS.c (s1) ?_
                        | refine CallS.c (a1) ?_
                        | refine CallS.c (c4) ?_
                        | refine CallS.c (c6) ?_
                        | refine CallS.c (c2) ?_
                        | refine CallS.c (gr) ?_
                        | refine CallS.c (c3) ?_
                        | refine CallS.c (o1) ?_
                        | refine CallS.c (c7) ?_
                        | refine CallS.c (r1) ?_
                        | refine CallS.c (c5) ?_
                        | refine CallS.c (o5) ?_
                        | refine CallS.e (wakes13_pcon) ?_
                        | refine CallS.e (c1) ?_
                        | refine CallS.e (c0) ?_
                        | refine CallS.e (s1) ?_
                        | refine CallS.e (a1) ?_
                        | refine CallS.e (c4) ?_
                        | refine CallS.e (c6) ?_
                        | refine CallS.e (c2) ?_
                        | refine CallS.e (gr) ?_
                        | refine CallS.e (c3) ?_
                        | refine CallS.e (o1) ?_
                        | refine CallS.e (c7) ?_
                        | refine CallS.e (r1) ?_
                        | refine CallS.e (c5) ?_
                        | refine CallS.e (o5) ?_))
          all_goals (try (conv => whnf))
          all_goals first | ((refine RetP.v ?_; refine congrArg Value.bool ?_; rw [Bool.eq_iff_iff]; simp only [eq_self, iff_true, true_iff, decide_eq_true_eq, decide_eq_false_iff_not, Bool.or_eq_true, Bool.and_eq_true, Bool.or_eq_false_iff, Bool.and_eq_false_iff, Bool.not_eq_true', Bool.not_eq_false', beq_iff_eq, beq_eq_false_iff_ne, bne_iff_ne, bne_eq_false_iff_eq, ne_eq, Bool.true_and, Bool.and_true, Bool.false_or, Bool.or_false, Bool.true_or, Bool.or_true, Bool.false_and, Bool.and_false, Bool.not_true, Bool.not_false, reduceCtorEq, not_false_eq_true, not_true_eq_false, and_true, true_and, or_false, false_or, or_true, true_or, and_false, false_and, Bool.cond_eq_ite]; try omega); done) | (exfalso; rename_i hx; exact hx e1.symm)
        · obtain ⟨q1, q2, q3, q4⟩ := stays_rel cs me true hsk hlen hw
          have r1 := release_pcon false cs h
          have c5 := good_is (f := false) (show (relS cs).1.length * 32 ≤ 140737488355328 by omega) q2
          have o5 := open_pcon false (relS cs).1 (show (relS cs).1.length * 32 ≤ 140737488355328 by omega)
          have gr := grant_pcon false cs (cs.getD 0 default).num h
          have c3 := True.intro
          have o1 := True.intro
          rw [q3] at o5
          generalize relS cs = r at *
          obtain ⟨d, nd, nx, e⟩ := r
          simp only at q1 q4 hl4 c5 o5
          subst q1
          have q5 : (nd == -1) = ((d.length : Int) == (cs.length : Int)) := by
            rw [Bool.eq_iff_iff]
            simp only [beq_iff_eq]
            rw [q4]
            omega
          clear q4 q2 q3
          generalize addS (succS cs me ((cs.getD (cs.length - 1) default).num + 1)).1 ((cs.getD (cs.length - 1) default).num + 1) = AA at *
          generalize (succS cs me ((cs.getD (cs.length - 1) default).num + 1)).1 = A1 at *
          have c6 := succ_pcon false cs far 7 h
          have c7 := open_pcon false cs (by omega)
          generalize (succS cs far 7).1 = A2 at *
          generalize (succS cs far 7).2 = b2 at *
          generalize (grantS cs (cs.getD 0 default).num).1 = A3 at *
          generalize (grantS cs (cs.getD 0 default).num).2 = b3 at *
          have hoc := openS_le cs
          generalize openS cs = oc at *
          generalize goodC cs me false = g0 at *
          repeat' (conv => whnf
                   first
                   | (refine get_id ?_; first | refine Get.mk _ rfl ?_ | refine Get.mk _ (nth_getD cs (cs.length - 1) (by omega) (by omega)) ?_ | refine Get.mk _ (nth_getD cs 0 (by omega) (by omega)) ?_)
                   | (refine need_id ?_; first | refine Need.a ?_)
                   | (refine eqk_id ?_; first | refine EqK.mk _ (wrap64 (by omega) (by omega)) ?_ | refine EqK.a ?_)
                   | (refine br_id ?_; first | refine Br.t ?_ | refine Br.f ?_ | (refine Br.pos ?_ ?_; focus (with_reducible assumption)) | (refine Br.neg ?_ ?_; focus (with_reducible assumption)) | (refine Br.dpos ?_ ?_; focus (first | with_reducible exact rfl | with_reducible exact Int.le_refl _ | with_reducible assumption)) | (refine Br.dneg ?_ ?_; focus (with_reducible assumption)) | (refine Br.d (fun _ => ?_) (fun _ => ?_) <;> (first | (exfalso; omega; done) | skip)) | refine Br.n ?_ | (refine Br.s (fun _ => ?_) (fun _ => ?_) <;> (first | (exfalso; omega; done) | skip)) | (refine Br.mk (fun _ => ?_) (fun _ => ?_) <;> (first | (exfalso; omega; done) | skip)))
                   | (refine regv_id ?_; first | refine RegV.d (id := 10) ?_ | refine RegV.q ?_)
                   | (refine gds_id ?_; apply GdS.mk)
                   | (refine and_id ?_; exact ⟨rfl, rfl, rfl⟩)
                   | (refine imp_id ?_; first | refine imp_s (fun _ => ?_) | refine fun _ => ?_)
                   | refine NilB.mk (fun b hb => ?_)
                   | (refine alv_and ?_ ?_; focus (first | rfl | done))
                   | refine DrawV.mk [] ?_
                   | (refine appc_id ?_; first | refine AppC.growA ?_ | refine AppC.place ?_)
                   | (refine call_id ?_; first
                        | refine CallV.c (wakes13_pcon) ?_
                        | refine CallV.c (c1) ?_
                        | refine CallV.c (c0) ?_
                        | refine CallV.c (s1) ?_
                        | refine CallV.c (a1) ?_
                        | refine CallV.c (c4) ?_
                        | refine CallV.c (c6) ?_
                        | refine CallV.c (c2) ?_
                        | refine CallV.c (gr) ?_
                        | refine CallV.c (c3) ?_
                        | refine CallV.c (o1) ?_
                        | refine CallV.c (c7) ?_
                        | refine CallV.c (r1) ?_
                        | refine CallV.c (c5) ?_
                        | refine CallV.c (o5) ?_
                        | refine CallV.e (wakes13_pcon) ?_
                        | refine CallV.e (c1) ?_
                        | refine CallV.e (c0) ?_
                        | refine CallV.e (s1) ?_
                        | refine CallV.e (a1) ?_
                        | refine CallV.e (c4) ?_
                        | refine CallV.e (c6) ?_
                        | refine CallV.e (c2) ?_
                        | refine CallV.e (gr) ?_
                        | refine CallV.e (c3) ?_
                        | refine CallV.e (o1) ?_
                        | refine CallV.e (c7) ?_
                        | refine CallV.e (r1) ?_
                        | refine CallV.e (c5) ?_
                        | refine CallV.e (o5) ?_)
                   | (refine calls_id ?_; first
                        | refine CallS.c (wakes13_pcon) ?_
                        | refine CallS.c (c1) ?_
                        | refine CallS.c (c0) ?_
                        | refine CallS.c (s1) ?_
                        | refine CallS.c (a1) ?_
                        | refine CallS.c (c4) ?_
                        | refine CallS.c (c6) ?_
                        | refine CallS.c (c2) ?_
                        | refine CallS.c (gr) ?_
                        | refine CallS.c (c3) ?_
                        | refine CallS.c (o1) ?_
                        | refine CallS.c (c7) ?_
                        | refine CallS.c (r1) ?_
                        | refine CallS.c (c5) ?_
                        | refine CallS.c (o5) ?_
                        | refine CallS.e (wakes13_pcon) ?_
                        | refine CallS.e (c1) ?_
                        | refine CallS.e (c0) ?_
                        | refine CallS.e (s1) ?_
                        | refine CallS.e (a1) ?_
                        | refine CallS.e (c4) ?_
                        | refine CallS.e (c6) ?_
                        | refine CallS.e (c2) ?_
                        | refine CallS.e (gr) ?_
                        | refine CallS.e (c3) ?_
                        | refine CallS.e (o1) ?_
                        | refine CallS.e (c7) ?_
                        | refine CallS.e (r1) ?_
                        | refine CallS.e (c5) ?_
                        | refine CallS.e (o5) ?_))
          all_goals (try (conv => whnf))
          all_goals first | (exfalso; rename_i hx; exact hx e1.symm) | exact RetP.v (by simp [q5])
        · have r1 := release_pcon false cs h
          rw [stays_rel_none cs me true hsk (by omega)] at r1
          have gr := grant_pcon false cs (cs.getD 0 default).num h
          have c3 := True.intro
          have o1 := True.intro
          have c5 := True.intro
          have o5 := True.intro
          clear hl4
          generalize addS (succS cs me ((cs.getD (cs.length - 1) default).num + 1)).1 ((cs.getD (cs.length - 1) default).num + 1) = AA at *
          generalize (succS cs me ((cs.getD (cs.length - 1) default).num + 1)).1 = A1 at *
          have c6 := succ_pcon false cs far 7 h
          have c7 := open_pcon false cs (by omega)
          generalize (succS cs far 7).1 = A2 at *
          generalize (succS cs far 7).2 = b2 at *
          generalize (grantS cs (cs.getD 0 default).num).1 = A3 at *
          generalize (grantS cs (cs.getD 0 default).num).2 = b3 at *
          have hoc := openS_le cs
          generalize openS cs = oc at *
          generalize goodC cs me false = g0 at *
          repeat' (conv => whnf
                   first
                   | (refine get_id ?_; first | refine Get.mk _ rfl ?_ | refine Get.mk _ (nth_getD cs (cs.length - 1) (by omega) (by omega)) ?_ | refine Get.mk _ (nth_getD cs 0 (by omega) (by omega)) ?_)
                   | (refine need_id ?_; first | refine Need.a ?_)
                   | (refine eqk_id ?_; first | refine EqK.mk _ (wrap64 (by omega) (by omega)) ?_ | refine EqK.a ?_)
                   | (refine br_id ?_; first | refine Br.t ?_ | refine Br.f ?_ | (refine Br.pos ?_ ?_; focus (with_reducible assumption)) | (refine Br.neg ?_ ?_; focus (with_reducible assumption)) | (refine Br.dpos ?_ ?_; focus (first | with_reducible exact rfl | with_reducible exact Int.le_refl _ | with_reducible assumption)) | (refine Br.dneg ?_ ?_; focus (with_reducible assumption)) | (refine Br.d (fun _ => ?_) (fun _ => ?_) <;> (first | (exfalso; omega; done) | skip)) | refine Br.n ?_ | (refine Br.s (fun _ => ?_) (fun _ => ?_) <;> (first | (exfalso; omega; done) | skip)) | (refine Br.mk (fun _ => ?_) (fun _ => ?_) <;> (first | (exfalso; omega; done) | skip)))
                   | (refine regv_id ?_; first | refine RegV.d (id := 10) ?_ | refine RegV.q ?_)
                   | (refine gds_id ?_; apply GdS.mk)
                   | (refine and_id ?_; exact ⟨rfl, rfl, rfl⟩)
                   | (refine imp_id ?_; first | refine imp_s (fun _ => ?_) | refine fun _ => ?_)
                   | refine NilB.mk (fun b hb => ?_)
                   | (refine alv_and ?_ ?_; focus (first | rfl | done))
                   | refine DrawV.mk [] ?_
                   | (refine appc_id ?_; first | refine AppC.growA ?_ | refine AppC.place ?_)
                   | (refine call_id ?_; first
                        | refine CallV.c (wakes13_pcon) ?_
                        | refine CallV.c (c1) ?_
                        | refine CallV.c (c0) ?_
                        | refine CallV.c (s1) ?_
                        | refine CallV.c (a1) ?_
                        | refine CallV.c (c4) ?_
                        | refine CallV.c (c6) ?_
                        | refine CallV.c (c2) ?_
                        | refine CallV.c (gr) ?_
                        | refine CallV.c (c3) ?_
                        | refine CallV.c (o1) ?_
                        | refine CallV.c (c7) ?_
                        | refine CallV.c (r1) ?_
                        | refine CallV.c (c5) ?_
                        | refine CallV.c (o5) ?_
                        | refine CallV.e (wakes13_pcon) ?_
                        | refine CallV.e (c1) ?_
                        | refine CallV.e (c0) ?_
                        | refine CallV.e (s1) ?_
                        | refine CallV.e (a1) ?_
                        | refine CallV.e (c4) ?_
                        | refine CallV.e (c6) ?_
                        | refine CallV.e (c2) ?_
                        | refine CallV.e (gr) ?_
                        | refine CallV.e (c3) ?_
                        | refine CallV.e (o1) ?_
                        | refine CallV.e (c7) ?_
                        | refine CallV.e (r1) ?_
                        | refine CallV.e (c5) ?_
                        | refine CallV.e (o5) ?_)
                   | (refine calls_id ?_; first
                        | refine CallS.c (wakes13_pcon) ?_
                        | refine CallS.c (c1) ?_
                        | refine CallS.c (c0) ?_
                        | refine CallS.c (s1) ?_
                        | refine CallS.c (a1) ?_
                        | refine CallS.c (c4) ?_
                        | refine CallS.c (c6) ?_
                        | refine CallS.c (c2) ?_
                        | refine CallS.c (gr) ?_
                        | refine CallS.c (c3) ?_
                        | refine CallS.c (o1) ?_
                        | refine CallS.c (c7) ?_
                        | refine CallS.c (r1) ?_
                        | refine CallS.c (c5) ?_
                        | refine CallS.c (o5) ?_
                        | refine CallS.e (wakes13_pcon) ?_
                        | refine CallS.e (c1) ?_
                        | refine CallS.e (c0) ?_
                        | refine CallS.e (s1) ?_
                        | refine CallS.e (a1) ?_
                        | refine CallS.e (c4) ?_
                        | refine CallS.e (c6) ?_
                        | refine CallS.e (c2) ?_
                        | refine CallS.e (gr) ?_
                        | refine CallS.e (c3) ?_
                        | refine CallS.e (o1) ?_
                        | refine CallS.e (c7) ?_
                        | refine CallS.e (r1) ?_
                        | refine CallS.e (c5) ?_
                        | refine CallS.e (o5) ?_))
          all_goals (try (conv => whnf))
          all_goals first | ((refine RetP.v ?_; refine congrArg Value.bool ?_; rw [Bool.eq_iff_iff]; simp only [eq_self, iff_true, true_iff, decide_eq_true_eq, decide_eq_false_iff_not, Bool.or_eq_true, Bool.and_eq_true, Bool.or_eq_false_iff, Bool.and_eq_false_iff, Bool.not_eq_true', Bool.not_eq_false', beq_iff_eq, beq_eq_false_iff_ne, bne_iff_ne, bne_eq_false_iff_eq, ne_eq, Bool.true_and, Bool.and_true, Bool.false_or, Bool.or_false, Bool.true_or, Bool.or_true, Bool.false_and, Bool.and_false, Bool.not_true, Bool.not_false, reduceCtorEq, not_false_eq_true, not_true_eq_false, and_true, true_and, or_false, false_or, or_true, true_or, and_false, false_and, Bool.cond_eq_ite]; try omega); done) | (exfalso; rename_i hx; exact hx e1.symm)
      · have c4 := True.intro
        rcases hstate with ⟨hlen, hw⟩ | ⟨hlen, hw⟩ | hw
        · obtain ⟨g1, g2, g3⟩ := stays_grant cs me true hsk hlen hw
          have r1 := release_pcon false cs h
          rw [stays_rel_none cs me true hsk (by omega)] at r1
          have gr := grant_pcon false cs (cs.getD 0 default).num h
          rw [g1] at gr
          have c3 := good_is (f := false) (by omega) g2
          have o1 := open_pcon false (grantS cs (cs.getD 0 default).num).1 (by omega)
          rw [g3] at o1
          have c5 := True.intro
          have o5 := True.intro
          clear hl4
          have c6 := succ_pcon false cs far 7 h
          have c7 := open_pcon false cs (by omega)
          generalize (succS cs far 7).1 = A2 at *
          generalize (succS cs far 7).2 = b2 at *
          generalize (grantS cs (cs.getD 0 default).num).1 = A3 at *
          generalize (grantS cs (cs.getD 0 default).num).2 = b3 at *
          have hoc := openS_le cs
          generalize openS cs = oc at *
          generalize goodC cs me false = g0 at *
          repeat' (conv => whnf
                   first
                   | (refine get_id ?_; first | refine Get.mk _ rfl ?_ | refine Get.mk _ (nth_getD cs (cs.length - 1) (by omega) (by omega)) ?_ | refine Get.mk _ (nth_getD cs 0 (by omega) (by omega)) ?_)
                   | (refine need_id ?_; first | refine Need.a ?_)
                   | (refine eqk_id ?_; first | refine EqK.mk _ (wrap64 (by omega) (by omega)) ?_ | refine EqK.a ?_)
                   | (refine br_id ?_; first | refine Br.t ?_ | refine Br.f ?_ | (refine Br.pos ?_ ?_; focus (with_reducible assumption)) | (refine Br.neg ?_ ?_; focus (with_reducible assumption)) | (refine Br.dpos ?_ ?_; focus (first | with_reducible exact rfl | with_reducible exact Int.le_refl _ | with_reducible assumption)) | (refine Br.dneg ?_ ?_; focus (with_reducible assumption)) | (refine Br.d (fun _ => ?_) (fun _ => ?_) <;> (first | (exfalso; omega; done) | skip)) | refine Br.n ?_ | (refine Br.s (fun _ => ?_) (fun _ => ?_) <;> (first | (exfalso; omega; done) | skip)) | (refine Br.mk (fun _ => ?_) (fun _ => ?_) <;> (first | (exfalso; omega; done) | skip)))
                   | (refine regv_id ?_; first | refine RegV.d (id := 10) ?_ | refine RegV.q ?_)
                   | (refine gds_id ?_; apply GdS.mk)
                   | (refine and_id ?_; exact ⟨rfl, rfl, rfl⟩)
                   | (refine imp_id ?_; first | refine imp_s (fun _ => ?_) | refine fun _ => ?_)
                   | refine NilB.mk (fun b hb => ?_)
                   | (refine alv_and ?_ ?_; focus (first | rfl | done))
                   | refine DrawV.mk [] ?_
                   | (refine appc_id ?_; first | refine AppC.growA ?_ | refine AppC.place ?_)
                   | (refine call_id ?_; first
                        | refine CallV.c (wakes13_pcon) ?_
                        | refine CallV.c (c1) ?_
                        | refine CallV.c (c0) ?_
                        | refine CallV.c (c6) ?_
                        | refine CallV.c (c2) ?_
                        | refine CallV.c (gr) ?_
                        | refine CallV.c (c3) ?_
                        | refine CallV.c (o1) ?_
                        | refine CallV.c (c7) ?_
                        | refine CallV.c (r1) ?_
                        | refine CallV.c (c5) ?_
                        | refine CallV.c (o5) ?_
                        | refine CallV.e (wakes13_pcon) ?_
                        | refine CallV.e (c1) ?_
                        | refine CallV.e (c0) ?_
                        | refine CallV.e (c6) ?_
                        | refine CallV.e (c2) ?_
                        | refine CallV.e (gr) ?_
                        | refine CallV.e (c3) ?_
                        | refine CallV.e (o1) ?_
                        | refine CallV.e (c7) ?_
                        | refine CallV.e (r1) ?_
                        | refine CallV.e (c5) ?_
                        | refine CallV.e (o5) ?_)
                   | (refine calls_id ?_; first
                        | refine CallS.c (wakes13_pcon) ?_
                        | refine CallS.c (c1) ?_
                        | refine CallS.c (c0) ?_
                        | refine CallS.c (c6) ?_
                        | refine CallS.c (c2) ?_
                        | refine CallS.c (gr) ?_
                        | refine CallS.c (c3) ?_
                        | refine CallS.c (o1) ?_
                        | refine CallS.c (c7) ?_
                        | refine CallS.c (r1) ?_
                        | refine CallS.c (c5) ?_
                        | refine CallS.c (o5) ?_
                        | refine CallS.e (wakes13_pcon) ?_
                        | refine CallS.e (c1) ?_
                        | refine CallS.e (c0) ?_
                        | refine CallS.e (c6) ?_
                        | refine CallS.e (c2) ?_
                        | refine CallS.e (gr) ?_
                        | refine CallS.e (c3) ?_
                        | refine CallS.e (o1) ?_
                        | refine CallS.e (c7) ?_
                        | refine CallS.e (r1) ?_
                        | refine CallS.e (c5) ?_
                        | refine CallS.e (o5) ?_))
          all_goals (try (conv => whnf))
          all_goals first | ((refine RetP.v ?_; refine congrArg Value.bool ?_; rw [Bool.eq_iff_iff]; simp only [eq_self, iff_true, true_iff, decide_eq_true_eq, decide_eq_false_iff_not, Bool.or_eq_true, Bool.and_eq_true, Bool.or_eq_false_iff, Bool.and_eq_false_iff, Bool.not_eq_true', Bool.not_eq_false', beq_iff_eq, beq_eq_false_iff_ne, bne_iff_ne, bne_eq_false_iff_eq, ne_eq, Bool.true_and, Bool.and_true, Bool.false_or, Bool.or_false, Bool.true_or, Bool.or_true, Bool.false_and, Bool.and_false, Bool.not_true, Bool.not_false, reduceCtorEq, not_false_eq_true, not_true_eq_false, and_true, true_and, or_false, false_or, or_true, true_or, and_false, false_and, Bool.cond_eq_ite]; try omega); done) | (exfalso; rename_i hx; exact hx e1.symm)
        · obtain ⟨q1, q2, q3, q4⟩ := stays_rel cs me true hsk hlen hw
          have r1 := release_pcon false cs h
          have c5 := good_is (f := false) (show (relS cs).1.length * 32 ≤ 140737488355328 by omega) q2
          have o5 := open_pcon false (relS cs).1 (show (relS cs).1.length * 32 ≤ 140737488355328 by omega)
          have gr := grant_pcon false cs (cs.getD 0 default).num h
          have c3 := True.intro
          have o1 := True.intro
          rw [q3] at o5
          generalize relS cs = r at *
          obtain ⟨d, nd, nx, e⟩ := r
          simp only at q1 q4 hl4 c5 o5
          subst q1
          have q5 : (nd == -1) = ((d.length : Int) == (cs.length : Int)) := by
            rw [Bool.eq_iff_iff]
            simp only [beq_iff_eq]
            rw [q4]
            omega
          clear q4 q2 q3
          have c6 := succ_pcon false cs far 7 h
          have c7 := open_pcon false cs (by omega)
          generalize (succS cs far 7).1 = A2 at *
          generalize (succS cs far 7).2 = b2 at *
          generalize (grantS cs (cs.getD 0 default).num).1 = A3 at *
          generalize (grantS cs (cs.getD 0 default).num).2 = b3 at *
          have hoc := openS_le cs
          generalize openS cs = oc at *
          generalize goodC cs me false = g0 at *
          repeat' (conv => whnf
                   first
                   | (refine get_id ?_; first | refine Get.mk _ rfl ?_ | refine Get.mk _ (nth_getD cs (cs.length - 1) (by omega) (by omega)) ?_ | refine Get.mk _ (nth_getD cs 0 (by omega) (by omega)) ?_)
                   | (refine need_id ?_; first | refine Need.a ?_)
                   | (refine eqk_id ?_; first | refine EqK.mk _ (wrap64 (by omega) (by omega)) ?_ | refine EqK.a ?_)
                   | (refine br_id ?_; first | refine Br.t ?_ | refine Br.f ?_ | (refine Br.pos ?_ ?_; focus (with_reducible assumption)) | (refine Br.neg ?_ ?_; focus (with_reducible assumption)) | (refine Br.dpos ?_ ?_; focus (first | with_reducible exact rfl | with_reducible exact Int.le_refl _ | with_reducible assumption)) | (refine Br.dneg ?_ ?_; focus (with_reducible assumption)) | (refine Br.d (fun _ => ?_) (fun _ => ?_) <;> (first | (exfalso; omega; done) | skip)) | refine Br.n ?_ | (refine Br.s (fun _ => ?_) (fun _ => ?_) <;> (first | (exfalso; omega; done) | skip)) | (refine Br.mk (fun _ => ?_) (fun _ => ?_) <;> (first | (exfalso; omega; done) | skip)))
                   | (refine regv_id ?_; first | refine RegV.d (id := 10) ?_ | refine RegV.q ?_)
                   | (refine gds_id ?_; apply GdS.mk)
                   | (refine and_id ?_; exact ⟨rfl, rfl, rfl⟩)
                   | (refine imp_id ?_; first | refine imp_s (fun _ => ?_) | refine fun _ => ?_)
                   | refine NilB.mk (fun b hb => ?_)
                   | (refine alv_and ?_ ?_; focus (first | rfl | done))
                   | refine DrawV.mk [] ?_
                   | (refine appc_id ?_; first | refine AppC.growA ?_ | refine AppC.place ?_)
                   | (refine call_id ?_; first
                        | refine CallV.c (wakes13_pcon) ?_
                        | refine CallV.c (c1) ?_
                        | refine CallV.c (c0) ?_
                        | refine CallV.c (c6) ?_
                        | refine CallV.c (c2) ?_
                        | refine CallV.c (gr) ?_
                        | refine CallV.c (c3) ?_
                        | refine CallV.c (o1) ?_
                        | refine CallV.c (c7) ?_
                        | refine CallV.c (r1) ?_
                        | refine CallV.c (c5) ?_
                        | refine CallV.c (o5) ?_
                        | refine CallV.e (wakes13_pcon) ?_
                        | refine CallV.e (c1) ?_
                        | refine CallV.e (c0) ?_
                        | refine CallV.e (c6) ?_
                        | refine CallV.e (c2) ?_
                        | refine CallV.e (gr) ?_
                        | refine CallV.e (c3) ?_
                        | refine CallV.e (o1) ?_
                        | refine CallV.e (c7) ?_
                        | refine CallV.e (r1) ?_
                        | refine CallV.e (c5) ?_
                        | refine CallV.e (o5) ?_)
                   | (refine calls_id ?_; first
                        | refine CallS.c (wakes13_pcon) ?_
                        | refine CallS.c (c1) ?_
                        | refine CallS.c (c0) ?_
                        | refine CallS.c (c6) ?_
                        | refine CallS.c (c2) ?_
                        | refine CallS.c (gr) ?_
                        | refine CallS.c (c3) ?_
                        | refine CallS.c (o1) ?_
                        | refine CallS.c (c7) ?_
                        | refine CallS.c (r1) ?_
                        | refine CallS.c (c5) ?_
                        | refine CallS.c (o5) ?_
                        | refine CallS.e (wakes13_pcon) ?_
                        | refine CallS.e (c1) ?_
                        | refine CallS.e (c0) ?_
                        | refine CallS.e (c6) ?_
                        | refine CallS.e (c2) ?_
                        | refine CallS.e (gr) ?_
                        | refine CallS.e (c3) ?_
                        | refine CallS.e (o1) ?_
                        | refine CallS.e (c7) ?_
                        | refine CallS.e (r1) ?_
                        | refine CallS.e (c5) ?_
                        | refine CallS.e (o5) ?_))
          all_goals (try (conv => whnf))
          all_goals first | (exfalso; rename_i hx; exact hx e1.symm) | exact RetP.v (by simp [q5])
        · have r1 := release_pcon false cs h
          rw [stays_rel_none cs me true hsk (by omega)] at r1
          have gr := grant_pcon false cs (cs.getD 0 default).num h
          have c3 := True.intro
          have o1 := True.intro
          have c5 := True.intro
          have o5 := True.intro
          clear hl4
          have c6 := succ_pcon false cs far 7 h
          have c7 := open_pcon false cs (by omega)
          generalize (succS cs far 7).1 = A2 at *
          generalize (succS cs far 7).2 = b2 at *
          generalize (grantS cs (cs.getD 0 default).num).1 = A3 at *
          generalize (grantS cs (cs.getD 0 default).num).2 = b3 at *
          have hoc := openS_le cs
          generalize openS cs = oc at *
          generalize goodC cs me false = g0 at *
          repeat' (conv => whnf
                   first
                   | (refine get_id ?_; first | refine Get.mk _ rfl ?_ | refine Get.mk _ (nth_getD cs (cs.length - 1) (by omega) (by omega)) ?_ | refine Get.mk _ (nth_getD cs 0 (by omega) (by omega)) ?_)
                   | (refine need_id ?_; first | refine Need.a ?_)
                   | (refine eqk_id ?_; first | refine EqK.mk _ (wrap64 (by omega) (by omega)) ?_ | refine EqK.a ?_)
                   | (refine br_id ?_; first | refine Br.t ?_ | refine Br.f ?_ | (refine Br.pos ?_ ?_; focus (with_reducible assumption)) | (refine Br.neg ?_ ?_; focus (with_reducible assumption)) | (refine Br.dpos ?_ ?_; focus (first | with_reducible exact rfl | with_reducible exact Int.le_refl _ | with_reducible assumption)) | (refine Br.dneg ?_ ?_; focus (with_reducible assumption)) | (refine Br.d (fun _ => ?_) (fun _ => ?_) <;> (first | (exfalso; omega; done) | skip)) | refine Br.n ?_ | (refine Br.s (fun _ => ?_) (fun _ => ?_) <;> (first | (exfalso; omega; done) | skip)) | (refine Br.mk (fun _ => ?_) (fun _ => ?_) <;> (first | (exfalso; omega; done) | skip)))
                   | (refine regv_id ?_; first | refine RegV.d (id := 10) ?_ | refine RegV.q ?_)
                   | (refine gds_id ?_; apply GdS.mk)
                   | (refine and_id ?_; exact ⟨rfl, rfl, rfl⟩)
                   | (refine imp_id ?_; first | refine imp_s (fun _ => ?_) | refine fun _ => ?_)
                   | refine NilB.mk (fun b hb => ?_)
                   | (refine alv_and ?_ ?_; focus (first | rfl | done))
                   | refine DrawV.mk [] ?_
                   | (refine appc_id ?_; first | refine AppC.growA ?_ | refine AppC.place ?_)
                   | (refine call_id ?_; first
                        | refine CallV.c (wakes13_pcon) ?_
                        | refine CallV.c (c1) ?_
                        | refine CallV.c (c0) ?_
                        | refine CallV.c (c6) ?_
                        | refine CallV.c (c2) ?_
                        | refine CallV.c (gr) ?_
                        | refine CallV.c (c3) ?_
                        | refine CallV.c (o1) ?_
                        | refine CallV.c (c7) ?_
                        | refine CallV.c (r1) ?_
                        | refine CallV.c (c5) ?_
                        | refine CallV.c (o5) ?_
                        | refine CallV.e (wakes13_pcon) ?_
                        | refine CallV.e (c1) ?_
                        | refine CallV.e (c0) ?_
                        | refine CallV.e (c6) ?_
                        | refine CallV.e (c2) ?_
                        | refine CallV.e (gr) ?_
                        | refine CallV.e (c3) ?_
                        | refine CallV.e (o1) ?_
                        | refine CallV.e (c7) ?_
                        | refine CallV.e (r1) ?_
                        | refine CallV.e (c5) ?_
                        | refine CallV.e (o5) ?_)
                   | (refine calls_id ?_; first
                        | refine CallS.c (wakes13_pcon) ?_
                        | refine CallS.c (c1) ?_
                        | refine CallS.c (c0) ?_
                        | refine CallS.c (c6) ?_
                        | refine CallS.c (c2) ?_
                        | refine CallS.c (gr) ?_
                        | refine CallS.c (c3) ?_
                        | refine CallS.c (o1) ?_
                        | refine CallS.c (c7) ?_
                        | refine CallS.c (r1) ?_
                        | refine CallS.c (c5) ?_
                        | refine CallS.c (o5) ?_
                        | refine CallS.e (wakes13_pcon) ?_
                        | refine CallS.e (c1) ?_
                        | refine CallS.e (c0) ?_
                        | refine CallS.e (c6) ?_
                        | refine CallS.e (c2) ?_
                        | refine CallS.e (gr) ?_
                        | refine CallS.e (c3) ?_
                        | refine CallS.e (o1) ?_
                        | refine CallS.e (c7) ?_
                        | refine CallS.e (r1) ?_
                        | refine CallS.e (c5) ?_
                        | refine CallS.e (o5) ?_))
          all_goals (try (conv => whnf))
          all_goals first | ((refine RetP.v ?_; refine congrArg Value.bool ?_; rw [Bool.eq_iff_iff]; simp only [eq_self, iff_true, true_iff, decide_eq_true_eq, decide_eq_false_iff_not, Bool.or_eq_true, Bool.and_eq_true, Bool.or_eq_false_iff, Bool.and_eq_false_iff, Bool.not_eq_true', Bool.not_eq_false', beq_iff_eq, beq_eq_false_iff_ne, bne_iff_ne, bne_eq_false_iff_eq, ne_eq, Bool.true_and, Bool.and_true, Bool.false_or, Bool.or_false, Bool.true_or, Bool.or_true, Bool.false_and, Bool.and_false, Bool.not_true, Bool.not_false, reduceCtorEq, not_false_eq_true, not_true_eq_false, and_true, true_and, or_false, false_or, or_true, true_or, and_false, false_and, Bool.cond_eq_ite]; try omega); done) | (exfalso; rename_i hx; exact hx e1.symm)
    | false =>
      cases hsk2 : goodC cs me false with
      | false =>
        have c1 := good_is (f := false) (by omega) hsk
        have c0 := good_is (f := false) (by omega) hsk2
        repeat' (conv => whnf
                 first
                 | (refine get_id ?_; first | refine Get.mk _ rfl ?_)
                 | (refine need_id ?_; first | refine Need.a ?_)
                 | (refine eqk_id ?_; first | refine EqK.a ?_)
                 | (refine br_id ?_; first | refine Br.t ?_ | refine Br.f ?_ | (refine Br.pos ?_ ?_; focus (with_reducible assumption)) | (refine Br.neg ?_ ?_; focus (with_reducible assumption)) | (refine Br.dpos ?_ ?_; focus (first | with_reducible exact rfl | with_reducible exact Int.le_refl _ | with_reducible assumption)) | (refine Br.dneg ?_ ?_; focus (with_reducible assumption)) | (refine Br.d (fun _ => ?_) (fun _ => ?_) <;> (first | (exfalso; omega; done) | skip)) | refine Br.n ?_ | (refine Br.s (fun _ => ?_) (fun _ => ?_) <;> (first | (exfalso; omega; done) | skip)) | (refine Br.mk (fun _ => ?_) (fun _ => ?_) <;> (first | (exfalso; omega; done) | skip)))
                 | (refine regv_id ?_; first | refine RegV.q ?_)
                 | (refine gds_id ?_; apply GdS.mk)
                 | (refine and_id ?_; exact ⟨rfl, rfl, rfl⟩)
                 | (refine imp_id ?_; first | refine imp_s (fun _ => ?_) | refine fun _ => ?_)
                 | refine NilB.mk (fun b hb => ?_)
                 | (refine alv_and ?_ ?_; focus (first | rfl | done))
                 | refine DrawV.mk [] ?_
                 | (refine appc_id ?_; first | refine AppC.growA ?_ | refine AppC.place ?_)
                 | (refine call_id ?_; first
                      | refine CallV.c (wakes13_pcon) ?_
                      | refine CallV.c (c1) ?_
                      | refine CallV.c (c0) ?_
                      | refine CallV.e (wakes13_pcon) ?_
                      | refine CallV.e (c1) ?_
                      | refine CallV.e (c0) ?_)
                 | (refine calls_id ?_; first
                      | refine CallS.c (wakes13_pcon) ?_
                      | refine CallS.c (c1) ?_
                      | refine CallS.c (c0) ?_
                      | refine CallS.e (wakes13_pcon) ?_
                      | refine CallS.e (c1) ?_
                      | refine CallS.e (c0) ?_))
        all_goals (try (conv => whnf))
        all_goals exact RetP.v rfl
      | true =>
        have hstate : (0 < cs.length ∧ (cs.getD 0 default).state = 1) ∨ (0 < cs.length ∧ (cs.getD 0 default).state = 2) ∨ (cs.length = 0 ∨ (cs.getD 0 default).state = 3) := by
          have := ((goodC_iff cs me false).1 hsk2).2 0
          omega
        have c1 := good_is (f := false) (by omega) hsk
        have c0 := good_is (f := false) (by omega) hsk2
        have c2 := True.intro
        have hne : cs.length = 0 → (cs.getD 0 default).state ≠ 2 := fun h0 => by
          have : cs = [] := List.eq_nil_of_length_eq_zero h0
          subst this
          decide
        clear hsk
        have hsk := hsk2
        clear hsk2
        rcases hstate with ⟨hlen, hw⟩ | ⟨hlen, hw⟩ | hw
        · obtain ⟨g1, g2, g3⟩ := stays_grant cs me false hsk hlen hw
          have r1 := release_pcon false cs h
          rw [stays_rel_none cs me false hsk (by first | omega | (rcases hw with h1 | h1; exact hne h1; omega))] at r1
          have gr := grant_pcon false cs (cs.getD 0 default).num h
          rw [g1] at gr
          have c3 := good_is (f := false) (by omega) g2
          have o1 := open_pcon false (grantS cs (cs.getD 0 default).num).1 (by omega)
          rw [g3] at o1
          have c5 := True.intro
          have o5 := True.intro
          clear hl4
          have c6 := succ_pcon false cs far 7 h
          have c7 := open_pcon false cs (by omega)
          generalize (succS cs far 7).1 = A2 at *
          generalize (succS cs far 7).2 = b2 at *
          generalize (grantS cs (cs.getD 0 default).num).1 = A3 at *
          generalize (grantS cs (cs.getD 0 default).num).2 = b3 at *
          have hoc := openS_le cs
          generalize openS cs = oc at *
          generalize goodC cs me false = g0 at *
          repeat' (conv => whnf
                   first
                   | (refine get_id ?_; first | refine Get.mk _ rfl ?_ | refine Get.mk _ (nth_getD cs (cs.length - 1) (by omega) (by omega)) ?_ | refine Get.mk _ (nth_getD cs 0 (by omega) (by omega)) ?_)
                   | (refine need_id ?_; first | refine Need.a ?_)
                   | (refine eqk_id ?_; first | refine EqK.mk _ (wrap64 (by omega) (by omega)) ?_ | refine EqK.a ?_)
                   | (refine br_id ?_; first | refine Br.t ?_ | refine Br.f ?_ | (refine Br.pos ?_ ?_; focus (with_reducible assumption)) | (refine Br.neg ?_ ?_; focus (with_reducible assumption)) | (refine Br.dpos ?_ ?_; focus (first | with_reducible exact rfl | with_reducible exact Int.le_refl _ | with_reducible assumption)) | (refine Br.dneg ?_ ?_; focus (with_reducible assumption)) | (refine Br.d (fun _ => ?_) (fun _ => ?_) <;> (first | (exfalso; omega; done) | skip)) | refine Br.n ?_ | (refine Br.s (fun _ => ?_) (fun _ => ?_) <;> (first | (exfalso; omega; done) | skip)) | (refine Br.mk (fun _ => ?_) (fun _ => ?_) <;> (first | (exfalso; omega; done) | skip)))
                   | (refine regv_id ?_; first | refine RegV.d (id := 10) ?_ | refine RegV.q ?_)
                   | (refine gds_id ?_; apply GdS.mk)
                   | (refine and_id ?_; exact ⟨rfl, rfl, rfl⟩)
                   | (refine imp_id ?_; first | refine imp_s (fun _ => ?_) | refine fun _ => ?_)
                   | refine NilB.mk (fun b hb => ?_)
                   | (refine alv_and ?_ ?_; focus (first | rfl | done))
                   | refine DrawV.mk [] ?_
                   | (refine appc_id ?_; first | refine AppC.growA ?_ | refine AppC.place ?_)
                   | (refine call_id ?_; first
                        | refine CallV.c (wakes13_pcon) ?_
                        | refine CallV.c (c1) ?_
                        | refine CallV.c (c0) ?_
                        | refine CallV.c (c6) ?_
                        | refine CallV.c (c2) ?_
                        | refine CallV.c (gr) ?_
                        | refine CallV.c (c3) ?_
                        | refine CallV.c (o1) ?_
                        | refine CallV.c (c7) ?_
                        | refine CallV.c (r1) ?_
                        | refine CallV.c (c5) ?_
                        | refine CallV.c (o5) ?_
                        | refine CallV.e (wakes13_pcon) ?_
                        | refine CallV.e (c1) ?_
                        | refine CallV.e (c0) ?_
                        | refine CallV.e (c6) ?_
                        | refine CallV.e (c2) ?_
                        | refine CallV.e (gr) ?_
                        | refine CallV.e (c3) ?_
                        | refine CallV.e (o1) ?_
                        | refine CallV.e (c7) ?_
                        | refine CallV.e (r1) ?_
                        | refine CallV.e (c5) ?_
                        | refine CallV.e (o5) ?_)
                   | (refine calls_id ?_; first
                        | refine CallS.c (wakes13_pcon) ?_
                        | refine CallS.c (c1) ?_
                        | refine CallS.c (c0) ?_
                        | refine CallS.c (c6) ?_
                        | refine CallS.c (c2) ?_
                        | refine CallS.c (gr) ?_
                        | refine CallS.c (c3) ?_
                        | refine CallS.c (o1) ?_
                        | refine CallS.c (c7) ?_
                        | refine CallS.c (r1) ?_
                        | refine CallS.c (c5) ?_
                        | refine CallS.c (o5) ?_
                        | refine CallS.e (wakes13_pcon) ?_
                        | refine CallS.e (c1) ?_
                        | refine CallS.e (c0) ?_
                        | refine CallS.e (c6) ?_
                        | refine CallS.e (c2) ?_
                        | refine CallS.e (gr) ?_
                        | refine CallS.e (c3) ?_
                        | refine CallS.e (o1) ?_
                        | refine CallS.e (c7) ?_
                        | refine CallS.e (r1) ?_
                        | refine CallS.e (c5) ?_
                        | refine CallS.e (o5) ?_))
          all_goals (try (conv => whnf))
          all_goals first | ((refine RetP.v ?_; refine congrArg Value.bool ?_; rw [Bool.eq_iff_iff]; simp only [eq_self, iff_true, true_iff, decide_eq_true_eq, decide_eq_false_iff_not, Bool.or_eq_true, Bool.and_eq_true, Bool.or_eq_false_iff, Bool.and_eq_false_iff, Bool.not_eq_true', Bool.not_eq_false', beq_iff_eq, beq_eq_false_iff_ne, bne_iff_ne, bne_eq_false_iff_eq, ne_eq, Bool.true_and, Bool.and_true, Bool.false_or, Bool.or_false, Bool.true_or, Bool.or_true, Bool.false_and, Bool.and_false, Bool.not_true, Bool.not_false, reduceCtorEq, not_false_eq_true, not_true_eq_false, and_true, true_and, or_false, false_or, or_true, true_or, and_false, false_and, Bool.cond_eq_ite]; try omega); done) | (exfalso; rename_i hx; exact hx e1.symm)
        · obtain ⟨q1, q2, q3, q4⟩ := stays_rel cs me false hsk hlen hw
          have r1 := release_pcon false cs h
          have c5 := good_is (f := false) (show (relS cs).1.length * 32 ≤ 140737488355328 by omega) q2
          have o5 := open_pcon false (relS cs).1 (show (relS cs).1.length * 32 ≤ 140737488355328 by omega)
          have gr := grant_pcon false cs (cs.getD 0 default).num h
          have c3 := True.intro
          have o1 := True.intro
          rw [q3] at o5
          generalize relS cs = r at *
          obtain ⟨d, nd, nx, e⟩ := r
          simp only at q1 q4 hl4 c5 o5
          subst q1
          have q5 : (nd == -1) = ((d.length : Int) == (cs.length : Int)) := by
            rw [Bool.eq_iff_iff]
            simp only [beq_iff_eq]
            rw [q4]
            omega
          clear q4 q2 q3
          have c6 := succ_pcon false cs far 7 h
          have c7 := open_pcon false cs (by omega)
          generalize (succS cs far 7).1 = A2 at *
          generalize (succS cs far 7).2 = b2 at *
          generalize (grantS cs (cs.getD 0 default).num).1 = A3 at *
          generalize (grantS cs (cs.getD 0 default).num).2 = b3 at *
          have hoc := openS_le cs
          generalize openS cs = oc at *
          generalize goodC cs me false = g0 at *
          repeat' (conv => whnf
                   first
                   | (refine get_id ?_; first | refine Get.mk _ rfl ?_ | refine Get.mk _ (nth_getD cs (cs.length - 1) (by omega) (by omega)) ?_ | refine Get.mk _ (nth_getD cs 0 (by omega) (by omega)) ?_)
                   | (refine need_id ?_; first | refine Need.a ?_)
                   | (refine eqk_id ?_; first | refine EqK.mk _ (wrap64 (by omega) (by omega)) ?_ | refine EqK.a ?_)
                   | (refine br_id ?_; first | refine Br.t ?_ | refine Br.f ?_ | (refine Br.pos ?_ ?_; focus (with_reducible assumption)) | (refine Br.neg ?_ ?_; focus (with_reducible assumption)) | (refine Br.dpos ?_ ?_; focus (first | with_reducible exact rfl | with_reducible exact Int.le_refl _ | with_reducible assumption)) | (refine Br.dneg ?_ ?_; focus (with_reducible assumption)) | (refine Br.d (fun _ => ?_) (fun _ => ?_) <;> (first | (exfalso; omega; done) | skip)) | refine Br.n ?_ | (refine Br.s (fun _ => ?_) (fun _ => ?_) <;> (first | (exfalso; omega; done) | skip)) | (refine Br.mk (fun _ => ?_) (fun _ => ?_) <;> (first | (exfalso; omega; done) | skip)))
                   | (refine regv_id ?_; first | refine RegV.d (id := 10) ?_ | refine RegV.q ?_)
                   | (refine gds_id ?_; apply GdS.mk)
                   | (refine and_id ?_; exact ⟨rfl, rfl, rfl⟩)
                   | (refine imp_id ?_; first | refine imp_s (fun _ => ?_) | refine fun _ => ?_)
                   | refine NilB.mk (fun b hb => ?_)
                   | (refine alv_and ?_ ?_; focus (first | rfl | done))
                   | refine DrawV.mk [] ?_
                   | (refine appc_id ?_; first | refine AppC.growA ?_ | refine AppC.place ?_)
                   | (refine call_id ?_; first
                        | refine CallV.c (wakes13_pcon) ?_
                        | refine CallV.c (c1) ?_
                        | refine CallV.c (c0) ?_
                        | refine CallV.c (c6) ?_
                        | refine CallV.c (c2) ?_
                        | refine CallV.c (gr) ?_
                        | refine CallV.c (c3) ?_
                        | refine CallV.c (o1) ?_
                        | refine CallV.c (c7) ?_
                        | refine CallV.c (r1) ?_
                        | refine CallV.c (c5) ?_
                        | refine CallV.c (o5) ?_
                        | refine CallV.e (wakes13_pcon) ?_
                        | refine CallV.e (c1) ?_
                        | refine CallV.e (c0) ?_
                        | refine CallV.e (c6) ?_
                        | refine CallV.e (c2) ?_
                        | refine CallV.e (gr) ?_
                        | refine CallV.e (c3) ?_
                        | refine CallV.e (o1) ?_
                        | refine CallV.e (c7) ?_
                        | refine CallV.e (r1) ?_
                        | refine CallV.e (c5) ?_
                        | refine CallV.e (o5) ?_)
                   | (refine calls_id ?_; first
                        | refine CallS.c (wakes13_pcon) ?_
                        | refine CallS.c (c1) ?_
                        | refine CallS.c (c0) ?_
                        | refine CallS.c (c6) ?_
                        | refine CallS.c (c2) ?_
                        | refine CallS.c (gr) ?_
                        | refine CallS.c (c3) ?_
                        | refine CallS.c (o1) ?_
                        | refine CallS.c (c7) ?_
                        | refine CallS.c (r1) ?_
                        | refine CallS.c (c5) ?_
                        | refine CallS.c (o5) ?_
                        | refine CallS.e (wakes13_pcon) ?_
                        | refine CallS.e (c1) ?_
                        | refine CallS.e (c0) ?_
                        | refine CallS.e (c6) ?_
                        | refine CallS.e (c2) ?_
                        | refine CallS.e (gr) ?_
                        | refine CallS.e (c3) ?_
                        | refine CallS.e (o1) ?_
                        | refine CallS.e (c7) ?_
                        | refine CallS.e (r1) ?_
                        | refine CallS.e (c5) ?_
                        | refine CallS.e (o5) ?_))
          all_goals (try (conv => whnf))
          all_goals first | (exfalso; rename_i hx; exact hx e1.symm) | exact RetP.v (by simp [q5])
        · have r1 := release_pcon false cs h
          rw [stays_rel_none cs me false hsk (by first | omega | (rcases hw with h1 | h1; exact hne h1; omega))] at r1
          have gr := grant_pcon false cs (cs.getD 0 default).num h
          have c3 := True.intro
          have o1 := True.intro
          have c5 := True.intro
          have o5 := True.intro
          clear hl4
          have c6 := succ_pcon false cs far 7 h
          have c7 := open_pcon false cs (by omega)
          generalize (succS cs far 7).1 = A2 at *
          generalize (succS cs far 7).2 = b2 at *
          generalize (grantS cs (cs.getD 0 default).num).1 = A3 at *
          generalize (grantS cs (cs.getD 0 default).num).2 = b3 at *
          have hoc := openS_le cs
          generalize openS cs = oc at *
          generalize goodC cs me false = g0 at *
          repeat' (conv => whnf
                   first
                   | (refine get_id ?_; first | refine Get.mk _ rfl ?_ | refine Get.mk _ (nth_getD cs (cs.length - 1) (by omega) (by omega)) ?_ | refine Get.mk _ (nth_getD cs 0 (by omega) (by omega)) ?_)
                   | (refine need_id ?_; first | refine Need.a ?_)
                   | (refine eqk_id ?_; first | refine EqK.mk _ (wrap64 (by omega) (by omega)) ?_ | refine EqK.a ?_)
                   | (refine br_id ?_; first | refine Br.t ?_ | refine Br.f ?_ | (refine Br.pos ?_ ?_; focus (with_reducible assumption)) | (refine Br.neg ?_ ?_; focus (with_reducible assumption)) | (refine Br.dpos ?_ ?_; focus (first | with_reducible exact rfl | with_reducible exact Int.le_refl _ | with_reducible assumption)) | (refine Br.dneg ?_ ?_; focus (with_reducible assumption)) | (refine Br.d (fun _ => ?_) (fun _ => ?_) <;> (first | (exfalso; omega; done) | skip)) | refine Br.n ?_ | (refine Br.s (fun _ => ?_) (fun _ => ?_) <;> (first | (exfalso; omega; done) | skip)) | (refine Br.mk (fun _ => ?_) (fun _ => ?_) <;> (first | (exfalso; omega; done) | skip)))
                   | (refine regv_id ?_; first | refine RegV.d (id := 10) ?_ | refine RegV.q ?_)
                   | (refine gds_id ?_; apply GdS.mk)
                   | (refine and_id ?_; exact ⟨rfl, rfl, rfl⟩)
                   | (refine imp_id ?_; first | refine imp_s (fun _ => ?_) | refine fun _ => ?_)
                   | refine NilB.mk (fun b hb => ?_)
                   | (refine alv_and ?_ ?_; focus (first | rfl | done))
                   | refine DrawV.mk [] ?_
                   | (refine appc_id ?_; first | refine AppC.growA ?_ | refine AppC.place ?_)
                   | (refine call_id ?_; first
                        | refine CallV.c (wakes13_pcon) ?_
                        | refine CallV.c (c1) ?_
                        | refine CallV.c (c0) ?_
                        | refine CallV.c (c6) ?_
                        | refine CallV.c (c2) ?_
                        | refine CallV.c (gr) ?_
                        | refine CallV.c (c3) ?_
                        | refine CallV.c (o1) ?_
                        | refine CallV.c (c7) ?_
                        | refine CallV.c (r1) ?_
                        | refine CallV.c (c5) ?_
                        | refine CallV.c (o5) ?_
                        | refine CallV.e (wakes13_pcon) ?_
                        | refine CallV.e (c1) ?_
                        | refine CallV.e (c0) ?_
                        | refine CallV.e (c6) ?_
                        | refine CallV.e (c2) ?_
                        | refine CallV.e (gr) ?_
                        | refine CallV.e (c3) ?_
                        | refine CallV.e (o1) ?_
                        | refine CallV.e (c7) ?_
                        | refine CallV.e (r1) ?_
                        | refine CallV.e (c5) ?_
                        | refine CallV.e (o5) ?_)
                   | (refine calls_id ?_; first
                        | refine CallS.c (wakes13_pcon) ?_
                        | refine CallS.c (c1) ?_
                        | refine CallS.c (c0) ?_
                        | refine CallS.c (c6) ?_
                        | refine CallS.c (c2) ?_
                        | refine CallS.c (gr) ?_
                        | refine CallS.c (c3) ?_
                        | refine CallS.c (o1) ?_
                        | refine CallS.c (c7) ?_
                        | refine CallS.c (r1) ?_
                        | refine CallS.c (c5) ?_
                        | refine CallS.c (o5) ?_
                        | refine CallS.e (wakes13_pcon) ?_
                        | refine CallS.e (c1) ?_
                        | refine CallS.e (c0) ?_
                        | refine CallS.e (c6) ?_
                        | refine CallS.e (c2) ?_
                        | refine CallS.e (gr) ?_
                        | refine CallS.e (c3) ?_
                        | refine CallS.e (o1) ?_
                        | refine CallS.e (c7) ?_
                        | refine CallS.e (r1) ?_
                        | refine CallS.e (c5) ?_
                        | refine CallS.e (o5) ?_))
          all_goals (try (conv => whnf))
          all_goals first | ((refine RetP.v ?_; refine congrArg Value.bool ?_; rw [Bool.eq_iff_iff]; simp only [eq_self, iff_true, true_iff, decide_eq_true_eq, decide_eq_false_iff_not, Bool.or_eq_true, Bool.and_eq_true, Bool.or_eq_false_iff, Bool.and_eq_false_iff, Bool.not_eq_true', Bool.not_eq_false', beq_iff_eq, beq_eq_false_iff_ne, bne_iff_ne, bne_eq_false_iff_eq, ne_eq, Bool.true_and, Bool.and_true, Bool.false_or, Bool.or_false, Bool.true_or, Bool.or_true, Bool.false_and, Bool.and_false, Bool.not_true, Bool.not_false, reduceCtorEq, not_false_eq_true, not_true_eq_false, and_true, true_and, or_false, false_or, or_true, true_or, and_false, false_and, Bool.cond_eq_ite]; try omega); done) | (exfalso; rename_i hx; exact hx e1.symm)
  · have c1 := good_pcon false cs me true (by omega)
    have c0 := good_pcon false cs me false (by omega)
    repeat' (conv => whnf
             first
             | (refine get_id ?_; first | refine Get.mk _ rfl ?_)
             | (refine need_id ?_; first | refine Need.a ?_)
             | (refine eqk_id ?_; first | refine EqK.a ?_)
             | (refine br_id ?_; first | refine Br.t ?_ | refine Br.f ?_ | (refine Br.pos ?_ ?_; focus (with_reducible assumption)) | (refine Br.neg ?_ ?_; focus (with_reducible assumption)) | (refine Br.dpos ?_ ?_; focus (first | with_reducible exact rfl | with_reducible exact Int.le_refl _ | with_reducible assumption)) | (refine Br.dneg ?_ ?_; focus (with_reducible assumption)) | (refine Br.d (fun _ => ?_) (fun _ => ?_) <;> (first | (exfalso; omega; done) | skip)) | refine Br.n ?_ | (refine Br.s (fun _ => ?_) (fun _ => ?_) <;> (first | (exfalso; omega; done) | skip)) | (refine Br.mk (fun _ => ?_) (fun _ => ?_) <;> (first | (exfalso; omega; done) | skip)))
             | (refine regv_id ?_; first | refine RegV.q ?_)
             | (refine gds_id ?_; apply GdS.mk)
             | (refine and_id ?_; exact ⟨rfl, rfl, rfl⟩)
             | (refine imp_id ?_; first | refine imp_s (fun _ => ?_) | refine fun _ => ?_)
             | refine NilB.mk (fun b hb => ?_)
             | (refine alv_and ?_ ?_; focus (first | rfl | done))
             | refine DrawV.mk [] ?_
             | (refine appc_id ?_; first | refine AppC.growA ?_ | refine AppC.place ?_)
             | (refine call_id ?_; first
                  | refine CallV.c (wakes13_pcon) ?_
                  | refine CallV.c (c1) ?_
                  | refine CallV.c (c0) ?_
                  | refine CallV.e (wakes13_pcon) ?_
                  | refine CallV.e (c1) ?_
                  | refine CallV.e (c0) ?_)
             | (refine calls_id ?_; first
                  | refine CallS.c (wakes13_pcon) ?_
                  | refine CallS.c (c1) ?_
                  | refine CallS.c (c0) ?_
                  | refine CallS.e (wakes13_pcon) ?_
                  | refine CallS.e (c1) ?_
                  | refine CallS.e (c0) ?_))
    all_goals (try (conv => whnf))
    all_goals exact RetP.v rfl
end Go.Proofs.Ytammndlghfknbaa
