/- What all laws of states begin with; the laws StateMeans and StateGoods. -/
import Derived.Test.YtiklbnianbejdaaSt6
set_option linter.unusedSimpArgs false
set_option maxRecDepth 20000
set_option linter.unusedVariables false
namespace Go.Proofs.Ytiklbnianbejdaa
open Go Go.Eng Go.RowKit

def q0 : List Int := [-1, 0]
theorem q0_tr : Tr1 q0 := (tr1_iff q0).1 (by decide)
def s0v : Sta := ⟨0, [⟨1, 0, []⟩], [⟨1, 0, [], 0⟩], 0, [], []⟩
theorem s0_first : firstS q0 [1] 0 = (s0v, 0) := by rfl
theorem s0_good : goodS q0 s0v = true := by decide
theorem s0_sz : s0v.sz := ⟨by decide, by simp [s0v], by decide, by simp [s0v], by decide, by decide⟩
theorem swakes_pcon : PCon Try.prog 9 [] (Bo true) [] := by
  refine pcon_of (G := gm) Try.func9 rfl rfl rfl ?_
  have c1 := new_ok false q0 q0_tr
  have c2 := first_pcon false q0 [1] 0 q0_tr (by decide)
  rw [s0_first] at c2
  have c3 := sgood_pcon true q0 s0v q0_tr s0_sz
  rw [s0_good] at c3
  generalize nearOf q0 = L at *
  refine W.c3 c1 c2 c3 ?_
  exact RetP.v rfl
set_option maxHeartbeats 1000000 in
theorem stateMeans_pcon (ps : List Int) (k : Int) (m : Hf.Msg) (hl : ps.length < 9223372036854775808) : PCon Try.prog 5 [intX false ps, I k, .agg m.row] (Bo true) [] := by
  refine pcon_of (G := gm) Try.func5 rfl rfl rfl ?_
  by_cases h : (checkS ps).2 = 0
  case neg =>
    have hn := new_bad false ps hl h
    have cm := meantN_pcon k m
    generalize checkS ps = r at h hn
    obtain ⟨r1, r2⟩ := r
    dsimp only at h
    refine W.c3 swakes_pcon hn cm ?_
    exact RetP.v rfl
  have ht := (tr1_iff ps).1 h
  have hn := new_ok false ps ht
  have c1 := meant_pcon true ps (nearOf ps) k m hl
  have c2 := refmeant_pcon ps.length k m
  have hle := ht.le
  generalize nearOf ps = L at *
  generalize meantB ps.length k m = b at *
  refine W.c4 swakes_pcon hn c1 c2 ?_
  exact RetP.v (congrArg Value.bool (by simp))
set_option maxHeartbeats 1000000 in
theorem stateGoods_pcon (f : Bool) (ps : List Int) (s : Sta) (hl : ps.length < 9223372036854775808) (hs : s.sz) : PCon Try.prog 4 [intX false ps, .agg (s.row f)] (Bo true) [] := by
  refine pcon_of (G := gm) Try.func4 rfl rfl rfl ?_
  have g1 := goodN_pcon f s
  have g2 := sopen_pcon f s hs
  have g3 := refsopen_pcon f s hs
  generalize opS s.objs s.objs.length = x at *
  by_cases h : (checkS ps).2 = 0
  case neg =>
    have hn := new_bad false ps hl h
    generalize checkS ps = r at h hn
    obtain ⟨r1, r2⟩ := r
    obtain ⟨me, objs, edges, asked, asks, got⟩ := s
    dsimp only at h
    refine W.c5 swakes_pcon hn g1 g2 g3 ?_

    exact RetP.v rfl
  have ht := (tr1_iff ps).1 h
  have hn := new_ok false ps ht
  have c1 := sgood_pcon f ps s ht hs
  have c2 := refsgood_pcon f false ps s ht hs
  generalize goodS ps s = b at *
  have hle := ht.le
  generalize nearOf ps = L at *
  obtain ⟨me, objs, edges, asked, asks, got⟩ := s
  refine W.c7 swakes_pcon hn g1 g2 g3 c1 c2 ?_

  exact RetP.v (congrArg Value.bool (by simp))
end Go.Proofs.Ytiklbnianbejdaa
