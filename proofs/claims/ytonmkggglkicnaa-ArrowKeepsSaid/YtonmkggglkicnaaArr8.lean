/- The laws ArrowTwice and ArrowGoes: their walks. -/
import Derived.Test.YtonmkggglkicnaaArr7
import Derived.Test.YtonmkggglkicnaaRdArr
set_option linter.unusedSimpArgs false
set_option maxRecDepth 20000
set_option linter.unusedVariables false
namespace Go.Proofs.Ytonmkggglkicnaa
open Go Go.Eng Go.RowKit

set_option maxHeartbeats 2000000 in
theorem arrowTwice_pcon (ps : List Int) (home : Int) (e : Int × Int) (hl : ps.length < 9223372036854775808) : PCon Try.prog 7 [intX false ps, I home, .agg [I e.1, I e.2]] (Bo true) [] := by
  refine pcon_of (G := gm) Try.func7 rfl rfl rfl ?_
  obtain ⟨a, b⟩ := e
  dsimp only
  by_cases h : (checkS ps).2 = 0
  case neg =>
    have hn := new_bad false ps hl h
    generalize checkS ps = r at h hn
    obtain ⟨r1, r2⟩ := r
    dsimp only at h
    refine W.c2 awakes_pcon hn ?_
    exact RetP.v rfl
  have ht := (tr1_iff ps).1 h
  have hn := new_ok false ps ht
  have hle := ht.le
  clear h
  by_cases hin : home < 0 ∨ home ≥ ps.length ∨ a < 0 ∨ a ≥ ps.length ∨ b < 0 ∨ b ≥ ps.length
  · generalize nearOf ps = L at *
    refine W.c2 awakes_pcon hn ?_
    exact RetP.v rfl
  obtain ⟨s, rfl⟩ : ∃ k : Nat, home = k := ⟨home.toNat, by omega⟩
  obtain ⟨a, rfl⟩ : ∃ k : Nat, a = k := ⟨a.toNat, by omega⟩
  obtain ⟨b, rfl⟩ : ∃ k : Nat, b = k := ⟨b.toNat, by omega⟩
  have hs : s < ps.length := by omega
  have ha : a < ps.length := by omega
  have hb : b < ps.length := by omega
  have t1 := fun x hx => (towI_tw (ps := ps) (s := x) hx) ▸ towardX_pcon true ps (nearOf ps) x ht
  have c1 := t1 s hs
  have c2 := t1 a ha
  have c3 := t1 b hb
  have r1 := run_ok true ht hs hs
  have r2 := run_ok true ht ha hs
  have r3 := run_ok false ht ha ha
  have r4 := run_ok false ht hb ha
  have l1 := tw_len ps s
  have l2 := tw_len ps a
  have l3 := tw_len ps b
  have m1 := same_pcon false true (tw ps s) (by omega)
  have m2 := same_pcon false false (tw ps a) (by omega)
  have m3 := same_pcon false true (tw ps a) (by omega)
  have m4 := same_pcon false true (tw ps b) (by omega)
  clear t1
  generalize nearOf ps = L at *
  generalize tw ps s = S at *
  generalize tw ps a = A at *
  generalize tw ps b = B at *
  refine W.c4 awakes_pcon hn c1 r1 ?_
  refine W.c1 m1 ?_
  refine W.c5 r2 r3 m2 c2 m3 ?_
  refine W.c3 r4 c3 m4 ?_
  exact RetP.v (congrArg Value.bool (by simp))
set_option maxHeartbeats 2000000 in
theorem arrowGoes_pcon (ps : List Int) (home fr : Int) (hl : ps.length < 9223372036854775808) : PCon Try.prog 10 [intX false ps, I home, I fr] (Bo true) [] := by
  refine pcon_of (G := gm) Try.func10 rfl rfl rfl ?_
  by_cases h : (checkS ps).2 = 0
  case neg =>
    have hn := new_bad false ps hl h
    generalize checkS ps = r at h hn
    obtain ⟨r1, r2⟩ := r
    dsimp only at h
    refine W.c2 awakes_pcon hn ?_
    exact RetP.v rfl
  have ht := (tr1_iff ps).1 h
  have hn := new_ok false ps ht
  have hle := ht.le
  clear h
  by_cases hin : home < 0 ∨ home ≥ ps.length ∨ fr < 0 ∨ fr ≥ ps.length
  · generalize nearOf ps = L at *
    refine W.c2 awakes_pcon hn ?_
    exact RetP.v rfl
  obtain ⟨s, rfl⟩ : ∃ k : Nat, home = k := ⟨home.toNat, by omega⟩
  obtain ⟨f, rfl⟩ : ∃ k : Nat, fr = k := ⟨fr.toNat, by omega⟩
  have hs : s < ps.length := by omega
  have hf : f < ps.length := by omega
  have c1 := (towI_tw (ps := ps) (s := s) hs) ▸ toward_pcon true ps (nearOf ps) s ht
  have c2 := run_ok false ht hf hs
  have c3 := same_pcon false false (tw ps f) (by rw [tw_len]; omega)
  have c4 := dist_in (nearOf ps) ht hf hs
  have hdl := ht.p.dst_lt hf hs
  have htl := tw_len ps s
  have htf := tw_len ps f
  obtain ⟨y, y0, y1, hat, hnx⟩ := ht.p.stops hf hs
  have hend := ht.p.arr_end hf hs
  have ha0 := arr_zero ps f s
  rw [← ha0] at c1 c2 htl
  have hal := arr_len ps f s
  have hff := nextS_self hf
  have hss := nextS_self hs
  have hb := hat 0 (Nat.zero_le _)
  rw [y0, hff] at hb
  have hg := int_get (arr ps f s 0) f (Int.toNat_natCast f) (by rw [hal]; exact hf)
  rw [hb.2.1] at hg
  have hset := int_set (arr ps f s 0) f f
  rw [hb.2.2] at hset
  generalize hB : arr ps f s = B at *
  generalize nearOf ps = L at *
  generalize tw ps f = T at *
  have hsb : dst ps f s = 0 → f = s := fun e => by rw [← y0, ← y1, e]
  have hn0 := fun j => nextS ps (y j) s
  rw [htl] at c1
  refine W.c5 awakes_pcon hn c1 c2 hg ?_
  refine LoopV.on (σ := Nat) rfl (fun j => [(0, intX false ps), (1, I s), (2, I f), (7, treeX true ps L), (9, .own 0 ps.length), (10, .own 1 ps.length), (11, I s), (12, I (nextS ps (y j) s)), (13, I (y j)), (14, I j)])
    (fun j => [some (intB (B (j + 1))), some (intB T)]) (fun j => j = 0 ∨ j < dst ps f s) (fun j => dst ps f s - j) 0 (by rw [y0]; exact AtS.v [] [0, 1]) (.inl rfl) ?_
  intro j hj
  have hlj := hal (j + 1)
  rcases Nat.lt_or_ge j (dst ps f s) with hjd | hjd
  · obtain ⟨n1, n2, n3⟩ := hnx j hjd
    obtain ⟨b1, b2, b3⟩ := hat (j + 1) (by omega)
    have hg := int_get (B (j + 1)) (y (j + 1)) (Int.toNat_natCast (y (j + 1))) (by rw [hal]; exact b1)
    rw [b2] at hg
    have hset := int_set (B (j + 1)) (y (j + 1)) (y j)
    rw [n2] at b3
    rw [b3] at hset
    rw [n1]
    have cst := step_pcon (y (j + 1)) (nextS ps (y (j + 1)) s) (y j)
    rcases Nat.lt_or_ge (j + 1) (dst ps f s) with hj2 | hj2
    · obtain ⟨k1, k2, k3⟩ := hnx (j + 1) hj2
      have hk : nextS ps (y (j + 1)) s = (y (j + 1 + 1) : Nat) := k1
      rw [k1, if_neg (by omega)] at cst
      rw [k1] at hg
      clear hat hnx hal b3 b2 hb hn0 k1
      refine W.c2 hg cst ?_
      refine nx (j + 1) (by omega) (.inr hj2) ?_
      rw [hk]
      exact AtS.v [] [0, 1]
    · have e : j + 1 = dst ps f s := by omega
      rw [e, y1, hss] at hg
      rw [e, y1, hss, if_pos rfl] at cst
      rw [e, y1, hend] at hset
      rw [e, y1] at n3
      rw [e, y1]
      rw [e] at hlj
      clear hat hnx hal b3 b2 hb hn0 n2 b1
      refine W.c2 hg cst ?_
      rw [show ((s : Nat) : Int).toNat = s from rfl, hset]
      unfold intB
      refine W.c2 c3 c4 ?_
      exact RetP.v (by first | rfl | exact congrArg Value.bool (by simp; omega))
  · have e0 : dst ps f s = 0 := by omega
    have e : j = 0 := by omega
    subst e
    have hfs := hsb e0
    rw [e0] at hend
    rw [y0]
    subst hfs
    rw [hss]
    rw [hend]
    clear hat hnx hal hb hn0 hset
    unfold intB
    refine W.c2 c3 hss ?_
    exact RetP.v (by first | rfl | exact congrArg Value.bool (by simp))
end Go.Proofs.Ytonmkggglkicnaa
