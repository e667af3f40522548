/- The laws ArrowSteps, ArrowRuns, ArrowLists and ArrowFollows: their walks. -/
import Derived.Test.YtonmkggglkicnaaArr5
import Derived.Test.YtonmkggglkicnaaRdTree
set_option linter.unusedSimpArgs false
set_option maxRecDepth 20000
set_option linter.unusedVariables false
namespace Go.Proofs.Ytonmkggglkicnaa
open Go Go.Eng Go.RowKit

def p0a : List Int := [-1, 0, 0, 1]
theorem p0a_tr : Tr1 p0a := (tr1_iff p0a).1 (by decide)
theorem awakes_pcon : PCon Try.prog 12 [] (Bo true) [] := by
  refine pcon_of (G := gm) Try.func12 rfl rfl rfl ?_
  have c1 := new_ok false p0a p0a_tr
  have c2 : PCon Try.prog 14 [treeX true p0a (nearOf p0a), intX false [2, 0, 2, 1], I 3] (.tup [.own 0 4, I 2]) [intB [1, 3, 0, 3]] := by
    have c2 := run_ok false p0a_tr (f := 3) (s := 2) (by decide) (by decide)
    rw [show tw p0a 2 = [2, 0, 2, 1] by decide, show tw p0a 3 = [1, 3, 0, 3] by decide] at c2
    exact c2
  have c3 := same_pcon false false [1, 3, 0, 3] (by decide)
  generalize nearOf p0a = L at *
  refine W.d3 c1 c2 c3 ?_
  exact RetP.v rfl
theorem arrowSteps_pcon (me at_ fr : Int) : PCon Try.prog 3 [I me, I at_, I fr] (Bo true) [] := by
  refine pcon_of (G := gm) Try.func3 rfl rfl rfl ?_
  have c1 := step_pcon me at_ fr
  by_cases h : at_ = me
  · rw [if_pos h] at c1
    refine W.c2 c1 awakes_pcon ?_
    exact RetP.v (congrArg Value.bool (by simp [h]))
  · rw [if_neg h] at c1
    refine W.c2 c1 awakes_pcon ?_
    exact RetP.v (congrArg Value.bool (by simp [h]))
set_option maxHeartbeats 1000000 in
theorem arrowRuns_pcon (ps aw : List Int) (fr : Int) (hl : ps.length < 9223372036854775808) (ha : aw.length * 8 ≤ 140737488351232) : PCon Try.prog 4 [intX false ps, intX false aw, I fr] (Bo true) [] := by
  refine pcon_of (G := gm) Try.func4 rfl rfl rfl ?_
  by_cases h : (checkS ps).2 = 0
  case neg =>
    have hn := new_bad false ps hl h
    generalize checkS ps = r at h hn
    obtain ⟨r1, r2⟩ := r
    dsimp only at h
    refine W.c2 awakes_pcon hn ?_
    exact RetP.v rfl
  have ht := (tr1_iff ps).1 h
  have hn := new_ok false ps ht
  have hle := ht.le
  by_cases hq : quB ps aw = false ∨ fr < 0 ∨ aw.length ≤ fr
  · have c1 := run_bad false ps aw fr ht ha hq
    have c2 := refrun_bad false false ps aw fr ht (by omega) hq
    have c3 := same_pcon false false [] (by decide)
    clear hq
    generalize nearOf ps = L at *
    refine W.c5 awakes_pcon hn c1 c2 c3 ?_
    exact RetP.v rfl
  · have hq1 : quB ps aw = true := by
      rw [← Bool.not_eq_false]; exact fun e => hq (.inl e)
    obtain ⟨s, hs, rfl⟩ := ht.p.qu_tw (quB_iff.1 hq1)
    rw [tw_len] at hq
    obtain ⟨f, rfl⟩ : ∃ k : Nat, fr = k := ⟨fr.toNat, by omega⟩
    have hf : f < ps.length := by omega
    have htf := tw_len ps f
    have c1 := run_ok false ht hf hs
    have c2 := refrun_ok false false ht hf hs
    have c3 := same_pcon false false (tw ps f) (by omega)
    clear hq hq1 ha
    generalize nearOf ps = L at *
    generalize tw ps f = T at *
    generalize tw ps s = T1 at *
    refine W.c5 awakes_pcon hn c1 c2 c3 ?_
    exact RetP.v (by first | rfl | simp)
set_option maxHeartbeats 1000000 in
theorem arrowLists_pcon (ps aw : List Int) (home : Int) (hl : ps.length < 9223372036854775808) (ha : aw.length * 8 ≤ 140737488351232) : PCon Try.prog 6 [intX false ps, intX false aw, I home] (Bo true) [] := by
  refine pcon_of (G := gm) Try.func6 rfl rfl rfl ?_
  refine W.c4 awakes_pcon (towardNX_pcon home) (legalN_pcon false aw) (quietN_pcon false aw) ?_
  refine LoopV.on (σ := Nat) rfl (fun i => [(0, intX false ps), (1, intX false aw), (2, I home), (8, .own 0 (snk aw i).length), (30, intX false aw), (31, I aw.length), (32, I i)]) (fun i => [some (intB (snk aw i))]) (fun i => i ≤ aw.length) (fun i => aw.length - i) 0 (AtS.v [(3, 1)] [0]) (Nat.zero_le _) ?_
  intro i hi
  have hsl := snk_le aw i
  rcases Nat.lt_or_ge i aw.length with him | him
  · have hg := int_get aw i (Int.toNat_natCast i) him
    have hs := snk_succ aw i
    by_cases hx : aw.getD i 0 = (i : Int)
    · rw [if_pos hx] at hs
      generalize snk aw i = T at *
      generalize aw.getD i 0 = x at *
      refine W.c1 hg ?_
      refine nx (i + 1) (by omega) (by omega) ?_
      rw [hs, List.length_append]
      exact AtS.v [] [2]
    · rw [if_neg hx] at hs
      generalize snk aw i = T at *
      generalize aw.getD i 0 = x at *
      refine W.c1 hg ?_
      refine nx (i + 1) (by omega) (by omega) ?_
      rw [hs]
      exact AtS.v [] [0]
  have e : i = aw.length := by omega
  subst e
  have c5 := sinks_pcon false aw ha
  have c6 := same_pcon false false (snk aw aw.length) (by omega)
  generalize snk aw aw.length = S at *
  by_cases h : (checkS ps).2 = 0
  case neg =>
    have hn := new_bad false ps hl h
    generalize checkS ps = r at h hn
    obtain ⟨r1, r2⟩ := r
    dsimp only at h
    refine W.c3 c5 c6 hn ?_
    exact RetP.v rfl
  have ht := (tr1_iff ps).1 h
  have hn := new_ok false ps ht
  have hle := ht.le
  have d1 := towardX_pcon true ps (nearOf ps) home ht
  have d2 := reftowardX_pcon false ps home ht
  have d3 := same_pcon true true (towI ps home ps.length) (by have := towI_len ps home ps.length; omega)
  have d4 := legal_pcon false false ps aw ht (by omega)
  have d5 := reflegal_pcon false false ps aw ht (by omega)
  have d6 := quiet_pcon false ps aw ht ha
  have d7 := refquiet_pcon false false ps aw ht (by omega)
  have htl := towI_len ps home ps.length
  generalize nearOf ps = L at *
  generalize towI ps home ps.length = T at *
  generalize legB ps aw = b1 at *
  generalize quB ps aw = b2 at *
  refine W.c3 c5 c6 hn ?_
  refine W.c7 d1 d2 d3 d4 d5 d6 d7 ?_
  exact RetP.v (congrArg Value.bool (by simp))
end Go.Proofs.Ytonmkggglkicnaa
