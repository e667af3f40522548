/- The law ArrowKeeps: its walk. -/
import Derived.Test.YtonmkggglkicnaaArr9
set_option linter.unusedSimpArgs false
set_option maxRecDepth 20000
set_option linter.unusedVariables false
namespace Go.Proofs.Ytonmkggglkicnaa
open Go Go.Eng Go.RowKit

theorem Tr1.run_any {ps : List Int} (h : Tr1 ps) (aw : List Int) (fr : Int) (ha : aw.length * 8 ≤ 140737488351232) : ∃ (A : List Int) (z : Int), PCon Try.prog 14 [treeX true ps (nearOf ps), intX false aw, I fr] (.tup [.own 0 A.length, I z]) [intB A] ∧ A.length ≤ 32 := by
  have hle := h.le
  by_cases hq : quB ps aw = false ∨ fr < 0 ∨ aw.length ≤ fr
  · exact ⟨[], -1, run_bad false ps aw fr h ha hq, by simp⟩
  · have hq1 : quB ps aw = true := by
      rw [← Bool.not_eq_false]; exact fun e => hq (.inl e)
    obtain ⟨s, hs, rfl⟩ := h.p.qu_tw (quB_iff.1 hq1)
    rw [tw_len] at hq
    obtain ⟨f, rfl⟩ : ∃ k : Nat, fr = k := ⟨fr.toNat, by omega⟩
    have hf : f < ps.length := by omega
    have c := run_ok false h hf hs
    have htl := tw_len ps f
    rw [← htl] at c
    exact ⟨tw ps f, s, c, by omega⟩
set_option maxHeartbeats 4000000 in
theorem arrowKeeps_pcon (ps aw : List Int) (fr : Int) (hl : ps.length < 9223372036854775808) (ha : aw.length * 8 ≤ 140737488351232) : PCon Try.prog 9 [intX false ps, intX false aw, I fr] (Bo true) [] := by
  refine pcon_of (G := gm) Try.func9 rfl rfl rfl ?_
  by_cases h : (checkS ps).2 = 0
  case neg =>
    have hn := new_bad false ps hl h
    generalize checkS ps = r at h hn
    obtain ⟨r1, r2⟩ := r
    dsimp only at h
    refine W.c2 awakes_pcon hn ?_
    exact RetP.v rfl
  have ht := (tr1_iff ps).1 h
  have hn := new_ok false ps ht
  have hle := ht.le
  clear h
  obtain ⟨A, z, cr, hAl⟩ := ht.run_any aw fr ha
  obtain ⟨ys, hf⟩ := fol_ex aw fr
  have hi1 := follow1_icon true hf ha
  have cf := follow_pcon false aw fr (by omega)
  have ct := toward_pcon true ps (nearOf ps) fr ht
  have crt := reftowardX_pcon false ps fr ht
  have hTl := towI_len ps fr ps.length
  have cs := sinks_pcon false aw ha
  have cm1 := same_pcon false false aw (by omega)
  have cm2 := same_pcon false false A (by omega)
  have cm3 := same_pcon false true (towI ps fr ps.length) (by omega)
  have hyl := hf.le
  generalize towI ps fr ps.length = T at *
  generalize snk aw aw.length = S at *
  generalize nearOf ps = L at *
  refine W.c7 awakes_pcon hn cf cr ct cs cm1 ?_
  have k1 : nth (intR aw ++ [[I 71], [I 72]]) ((aw.length : Nat) : Int).toNat = some [I 71] := by
    rw [nth_eq, Int.toNat_natCast, List.getElem?_append_right (by simp)]; simp
  have k2 : nth (intR aw ++ [[I 71], [I 72]]) ((aw.length + 1 : Nat) : Int).toNat = some [I 72] := by
    rw [nth_eq, Int.toNat_natCast, List.getElem?_append_right (by simp)]; simp
  have k3 : nth (intR aw ++ [[I 71], [I 72]]) (((aw.length : Nat) : Int) + 1).toNat = some [I 72] := k2
  refine W.c3 k1 k2 k3 ?_
  refine RangeV.on rfl ys natIt 7 30 [.ref true [intX true aw], .ref true [I fr]] [(0, intX false ps), (2, I fr), (6, .ptr 0 0 0), (9, .own 1 (aw.length + 2)), (10, .clo 30 [.ref true [intX true aw], .ref true [I fr]]), (11, .own 2 A.length), (13, .own 3 A.length), (15, .own 4 T.length), (16, .own 5 T.length), (17, .ptr 6 0 0), (106, .clo 30 [.ref true [intX true aw], .ref true [I fr]])]
    (fun j : Nat => [some ⟨4, 1, true, false, [[Bo false]]⟩, some (mkB 3 1 (intR aw ++ [[I 71], [I 72]])), some (mkB 3 1 (intR A)), some (mkB 3 1 (intR A)), some (mkB 3 1 (intR T)), some (mkB 3 1 (intR T)), some ⟨26, 1, false, false, [[.own 7 j]]⟩, some (mkB 3 1 (natR (ys.take j)))])
    (fun j s => s = j) 0 hi1 (AtS.v [(3, 1)] [0, 4, 5, 6, 7, 8, 10, 11]) rfl rfl rfl (fun x => ⟨rfl, rfl⟩) (Nat.zero_le _) rfl (fun _ => rfl) ?_ ?_
  · rintro _ hj j rfl
    have hsn := natR_snoc ys hj
    have htl : (natR (ys.take j)).length = j := by simp; omega
    unfold natIt at hsn ⊢
    generalize ys[j] = y at *
    clear cr cf ct crt cs cm1 cm2 cm3 hi1 hn k1 k2 k3 hf
    refine W.c1 (Fc.mk htl.symm) ?_
    exact nxr (j + 1) rfl (AtS.v [] [0, 1, 2, 3, 4, 5, 6, 9] (by ((repeat' (first | exact trivial | exact rfl | with_reducible assumption | (refine And.intro ?_ ?_) | (refine Exists.intro _ (And.intro rfl ?_)) | (refine Exists.intro _ (Exists.intro _ (And.intro rfl (And.intro rfl ?_)))) | (refine Or.inl ⟨rfl, rfl, ?_⟩) | (refine Or.inl ⟨rfl, ?_⟩; focus (fail_if_success (refine And.intro ?_ ?_))) | (refine Or.inl (?_ : (_ : Nat) = _ ∧ _); refine ⟨?_, ?_⟩; focus (first | (simp only [List.length_map]; done) | (simp only [List.length_map, List.length_append, List.length_cons, List.length_nil]; done))) | exact Or.inl rfl | (refine Or.inr (Or.inr ⟨?_, ?_⟩)) | (refine Or.inr ⟨?_, ?_⟩) | (refine fun h => ?_; first | exact h | exact rfl | (cases h; done)) | (refine om8 ?_; simp only [← List.map_drop, ← List.map_take]; exact rfl) | ((first | refine om1 ?_ | refine om2 ?_ | refine om3 ?_ | refine om4 ?_ | refine om5 ?_ | refine om6 ?_ | refine om7 ?_); first | (simp only [List.length_map]; done) | (simp only [List.length_map]; omega) | omega)))); all_goals exact hsn))
  rintro j rfl
  rw [List.take_length]
  clear cr cf ct cs cm1 hn k1 k2 k3
  refine W.go ?_
  have hR : ∃ M : List Int, intR aw ++ [[I 71], [I 72]] = intR M ∧ M.length = aw.length + 2 := ⟨aw ++ [71, 72], by simp [intR], by simp⟩
  obtain ⟨M0, hM0, hM0l⟩ := hR
  rw [hM0]
  refine LoopV.on (σ := Nat × List Int) rfl (fun s => [(0, intX false ps), (2, I fr), (6, .ptr 0 0 0), (9, .own 1 (aw.length + 2)), (10, .clo 30 [.ref true [intX true aw], .ref true [I fr]]), (11, .own 2 A.length), (13, .own 3 A.length), (15, .own 4 T.length), (16, .own 5 T.length), (17, .ptr 6 0 0), (113, I (aw.length + 2 : Nat)), (114, I s.1)])
    (fun s => [some ⟨4, 1, true, false, [[Bo false]]⟩, some (mkB 3 1 (intR s.2)), some (mkB 3 1 (intR A)), some (mkB 3 1 (intR A)), some (mkB 3 1 (intR T)), some (mkB 3 1 (intR T)), some ⟨26, 1, false, false, [[.own 7 ys.length]]⟩, some (mkB 3 1 (natR ys))]) (fun s => s.1 ≤ aw.length + 2 ∧ s.2.length = aw.length + 2) (fun s => aw.length + 2 - s.1) (0, M0) ?_ ⟨Nat.zero_le _, hM0l⟩ ?_
  · exact AtS.v [] [0, 1, 2, 3, 4, 5, 6, 7]
  rintro ⟨i, M⟩ ⟨hi, hM⟩
  dsimp only at hi hM
  dsimp only
  rcases Nat.lt_or_ge i (aw.length + 2) with him | him
  · have hg := int_get M i (Int.toNat_natCast i) (by omega)
    have hset := int_set M i 0
    generalize M.getD i 0 = x at hg
    refine W.c1 hg ?_
    exact nx (i + 1, M.set i 0) (by dsimp only; omega) ⟨by dsimp only; omega, by simpa using hM⟩ (AtS.v [] [0, 1, 2, 3, 4, 5, 6, 7] (by ((repeat' (first | exact trivial | exact rfl | with_reducible assumption | (refine And.intro ?_ ?_) | (refine Exists.intro _ (And.intro rfl ?_)) | (refine Exists.intro _ (Exists.intro _ (And.intro rfl (And.intro rfl ?_)))) | (refine Or.inl ⟨rfl, rfl, ?_⟩) | (refine Or.inl ⟨rfl, ?_⟩; focus (fail_if_success (refine And.intro ?_ ?_))) | (refine Or.inl (?_ : (_ : Nat) = _ ∧ _); refine ⟨?_, ?_⟩; focus (first | (simp only [List.length_map]; done) | (simp only [List.length_map, List.length_append, List.length_cons, List.length_nil]; done))) | exact Or.inl rfl | (refine Or.inr (Or.inr ⟨?_, ?_⟩)) | (refine Or.inr ⟨?_, ?_⟩) | (refine fun h => ?_; first | exact h | exact rfl | (cases h; done)) | (refine om8 ?_; simp only [← List.map_drop, ← List.map_take]; exact rfl) | ((first | refine om1 ?_ | refine om2 ?_ | refine om3 ?_ | refine om4 ?_ | refine om5 ?_ | refine om6 ?_ | refine om7 ?_); first | (simp only [List.length_map]; done) | (simp only [List.length_map]; omega) | omega)))); all_goals exact hset))
  refine W.go ?_
  refine RangeV.on rfl ys natIt 9 30 [.ref true [intX true aw], .ref true [I fr]] [(0, intX false ps), (2, I fr), (6, .ptr 0 0 0), (11, .own 2 A.length), (13, .own 3 A.length), (15, .own 4 T.length), (16, .own 5 T.length), (17, .ptr 6 0 0), (20, .ptr 8 0 0), (121, .clo 30 [.ref true [intX true aw], .ref true [I fr]])]
    (fun j : Nat => [some ⟨4, 1, true, false, [[Bo false]]⟩, some (mkB 3 1 (intR M)), some (mkB 3 1 (intR A)), some (mkB 3 1 (intR A)), some (mkB 3 1 (intR T)), some (mkB 3 1 (intR T)), some ⟨26, 1, false, false, [[.own 7 ys.length]]⟩, some (mkB 3 1 (natR ys)), some ⟨3, 1, true, false, [[I j]]⟩])
    (fun j s => s = j) 0 hi1 (AtS.v [] [0, 1, 2, 3, 4, 5, 6, 7, 8]) rfl rfl rfl (fun x => ⟨rfl, rfl⟩) (Nat.zero_le _) rfl (fun _ => rfl) ?_ ?_
  · rintro _ hj j rfl
    have hg := nat_get ys j (Int.toNat_natCast j) hj
    rw [getD_get hj] at hg
    rw [show natIt ys[j] = [I (ys[j] : Nat)] from rfl]
    generalize ys[j] = y at *
    clear hi1 crt cm2 cm3 hf
    refine W.c1 hg ?_
    exact nxr (j + 1) rfl (AtS.v [] [0, 1, 2, 3, 4, 5, 6, 7, 8])
  rintro j rfl
  clear hi1 hf
  refine W.go ?_
  refine LoopV.on (σ := Nat × List Int) rfl (fun s => [(0, intX false ps), (2, I fr), (6, .ptr 0 0 0), (11, .own 2 A.length), (13, .own 3 A.length), (15, .own 4 T.length), (16, .own 5 T.length), (17, .ptr 6 0 0), (20, .ptr 8 0 0), (22, .own 9 A.length), (141, I A.length), (142, I s.1)])
    (fun s => [some ⟨4, 1, true, false, [[Bo false]]⟩, some (mkB 3 1 (intR M)), some (mkB 3 1 (intR s.2)), some (mkB 3 1 (intR A)), some (mkB 3 1 (intR T)), some (mkB 3 1 (intR T)), some ⟨26, 1, false, false, [[.own 7 ys.length]]⟩, some (mkB 3 1 (natR ys)), some ⟨3, 1, true, false, [[I ys.length]]⟩, some (mkB 3 1 (intR A))]) (fun s => s.1 ≤ A.length ∧ s.2.length = A.length) (fun s => A.length - s.1) (0, A) ?_ ⟨Nat.zero_le _, rfl⟩ ?_
  · exact AtS.v [] [0, 1, 2, 3, 4, 5, 6, 7, 8, 10]
  rintro ⟨i, B⟩ ⟨hi, hB⟩
  dsimp only at hi hB
  dsimp only
  rcases Nat.lt_or_ge i A.length with him | him
  · have hg := int_get B i (Int.toNat_natCast i) (by omega)
    have hset := int_set B i (-7)
    generalize B.getD i 0 = x at hg
    refine W.c1 hg ?_
    exact nx (i + 1, B.set i (-7)) (by dsimp only; omega) ⟨by dsimp only; omega, by simpa using hB⟩ (AtS.v [] [0, 1, 2, 3, 4, 5, 6, 7, 8, 9] (by ((repeat' (first | exact trivial | exact rfl | with_reducible assumption | (refine And.intro ?_ ?_) | (refine Exists.intro _ (And.intro rfl ?_)) | (refine Exists.intro _ (Exists.intro _ (And.intro rfl (And.intro rfl ?_)))) | (refine Or.inl ⟨rfl, rfl, ?_⟩) | (refine Or.inl ⟨rfl, ?_⟩; focus (fail_if_success (refine And.intro ?_ ?_))) | (refine Or.inl (?_ : (_ : Nat) = _ ∧ _); refine ⟨?_, ?_⟩; focus (first | (simp only [List.length_map]; done) | (simp only [List.length_map, List.length_append, List.length_cons, List.length_nil]; done))) | exact Or.inl rfl | (refine Or.inr (Or.inr ⟨?_, ?_⟩)) | (refine Or.inr ⟨?_, ?_⟩) | (refine fun h => ?_; first | exact h | exact rfl | (cases h; done)) | (refine om8 ?_; simp only [← List.map_drop, ← List.map_take]; exact rfl) | ((first | refine om1 ?_ | refine om2 ?_ | refine om3 ?_ | refine om4 ?_ | refine om5 ?_ | refine om6 ?_ | refine om7 ?_); first | (simp only [List.length_map]; done) | (simp only [List.length_map]; omega) | omega)))); all_goals exact hset))
  refine W.go ?_
  refine LoopV.on (σ := Nat × List Int) rfl (fun s => [(0, intX false ps), (2, I fr), (6, .ptr 0 0 0), (11, .own 2 A.length), (13, .own 3 A.length), (15, .own 4 T.length), (16, .own 5 T.length), (17, .ptr 6 0 0), (20, .ptr 8 0 0), (22, .own 9 A.length), (150, I T.length), (151, I s.1)])
    (fun s => [some ⟨4, 1, true, false, [[Bo false]]⟩, some (mkB 3 1 (intR M)), some (mkB 3 1 (intR B)), some (mkB 3 1 (intR A)), some (mkB 3 1 (intR s.2)), some (mkB 3 1 (intR T)), some ⟨26, 1, false, false, [[.own 7 ys.length]]⟩, some (mkB 3 1 (natR ys)), some ⟨3, 1, true, false, [[I ys.length]]⟩, some (mkB 3 1 (intR A))]) (fun s => s.1 ≤ T.length ∧ s.2.length = T.length) (fun s => T.length - s.1) (0, T) (AtS.v [] [0, 1, 2, 3, 4, 5, 6, 7, 8, 9]) ⟨Nat.zero_le _, rfl⟩ ?_
  rintro ⟨k, D⟩ ⟨hk, hD⟩
  dsimp only at hk hD
  dsimp only
  rcases Nat.lt_or_ge k T.length with hkm | hkm
  · have hg := int_get D k (Int.toNat_natCast k) (by omega)
    have hset := int_set D k (-8)
    generalize D.getD k 0 = x at hg
    refine W.c1 hg ?_
    exact nx (k + 1, D.set k (-8)) (by dsimp only; omega) ⟨by dsimp only; omega, by simpa using hD⟩ (AtS.v [] [0, 1, 2, 3, 4, 5, 6, 7, 8, 9] (by ((repeat' (first | exact trivial | exact rfl | with_reducible assumption | (refine And.intro ?_ ?_) | (refine Exists.intro _ (And.intro rfl ?_)) | (refine Exists.intro _ (Exists.intro _ (And.intro rfl (And.intro rfl ?_)))) | (refine Or.inl ⟨rfl, rfl, ?_⟩) | (refine Or.inl ⟨rfl, ?_⟩; focus (fail_if_success (refine And.intro ?_ ?_))) | (refine Or.inl (?_ : (_ : Nat) = _ ∧ _); refine ⟨?_, ?_⟩; focus (first | (simp only [List.length_map]; done) | (simp only [List.length_map, List.length_append, List.length_cons, List.length_nil]; done))) | exact Or.inl rfl | (refine Or.inr (Or.inr ⟨?_, ?_⟩)) | (refine Or.inr ⟨?_, ?_⟩) | (refine fun h => ?_; first | exact h | exact rfl | (cases h; done)) | (refine om8 ?_; simp only [← List.map_drop, ← List.map_take]; exact rfl) | ((first | refine om1 ?_ | refine om2 ?_ | refine om3 ?_ | refine om4 ?_ | refine om5 ?_ | refine om6 ?_ | refine om7 ?_); first | (simp only [List.length_map]; done) | (simp only [List.length_map]; omega) | omega)))); all_goals exact hset))
  have hB1 : A.length = (intR B).length := by simp [hB]
  have hD1 : T.length = (intR D).length := by simp [hD]
  refine W.c5 (Fc.mk hB1) (Fc.mk hD1) crt cm2 cm3 ?_
  refine RetP.v (congrArg Value.bool ?_)
  simp only [Bool.and_eq_true, decide_eq_true_eq, beq_iff_eq, and_true]
  omega
end Go.Proofs.Ytonmkggglkicnaa
