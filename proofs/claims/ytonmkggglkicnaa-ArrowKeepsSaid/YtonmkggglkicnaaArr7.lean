/- The law ArrowFollows: its walk. -/
import Derived.Test.YtonmkggglkicnaaArr6
set_option linter.unusedSimpArgs false
set_option maxRecDepth 20000
set_option linter.unusedVariables false
namespace Go.Proofs.Ytonmkggglkicnaa
open Go Go.Eng Go.RowKit

theorem natR_snoc (xs : List Nat) {j : Nat} (hj : j < xs.length) : natR (xs.take j) ++ [natIt xs[j]] = natR (xs.take (j + 1)) := take_snoc xs hj
set_option maxHeartbeats 2000000 in
theorem arrowFollows_pcon (aw : List Int) (fr stop : Int) (ha : aw.length * 8 ≤ 140737488351232) : PCon Try.prog 5 [intX false aw, I fr, I stop] (Bo true) [] := by
  refine pcon_of (G := gm) Try.func5 rfl rfl rfl ?_
  obtain ⟨xs, h⟩ := fol_ex aw fr
  have hle := h.le
  have hi1 := follow1_icon true h ha
  have cf := follow_pcon false aw fr (by omega)
  refine W.c1 awakes_pcon ?_
  refine LoopV.on (σ := Nat) rfl (fun j => [(0, intX false aw), (1, I fr), (5, .ptr 0 0 0), (6, .ptr 1 0 0), (7, .ptr 2 0 0), (8, .own 3 aw.length), (9, I (folAt aw fr xs j))])
    (fun j => [some ⟨3, 1, false, false, [[I stop]]⟩, some ⟨4, 1, true, false, [[Bo false]]⟩, some ⟨26, 1, false, false, [[.own 4 j]]⟩, some (boolB (met aw.length (xs.take j))), some (natB (xs.take j))]) (fun j => j ≤ xs.length) (fun j => xs.length - j) 0 (AtS.v [(3, 1)] [0, 1, 2, 3, 4] (by ((repeat' (first | exact trivial | exact rfl | with_reducible assumption | (refine And.intro ?_ ?_) | (refine Exists.intro _ (And.intro rfl ?_)) | (refine Exists.intro _ (Exists.intro _ (And.intro rfl (And.intro rfl ?_)))) | (refine Or.inl ⟨rfl, rfl, ?_⟩) | (refine Or.inl ⟨rfl, ?_⟩; focus (fail_if_success (refine And.intro ?_ ?_))) | (refine Or.inl (?_ : (_ : Nat) = _ ∧ _); refine ⟨?_, ?_⟩; focus (first | (simp only [List.length_map]; done) | (simp only [List.length_map, List.length_append, List.length_cons, List.length_nil]; done))) | exact Or.inl rfl | (refine Or.inr (Or.inr ⟨?_, ?_⟩)) | (refine Or.inr ⟨?_, ?_⟩) | (refine fun h => ?_; first | exact h | exact rfl | (cases h; done)) | (refine om8 ?_; simp only [← List.map_drop, ← List.map_take]; exact rfl) | ((first | refine om1 ?_ | refine om2 ?_ | refine om3 ?_ | refine om4 ?_ | refine om5 ?_ | refine om6 ?_ | refine om7 ?_); first | (simp only [List.length_map]; done) | (simp only [List.length_map]; omega) | omega)))); first | exact boolR_rep _ | exact (boolR_rep _).symm)) (Nat.zero_le _) ?_
  intro j hj
  rcases Nat.lt_or_ge j xs.length with hjm | hjm
  · obtain ⟨e1, e2, e3⟩ := h.on j hjm
    have hg := met_get (n := aw.length) (xs.take j) (Int.toNat_natCast xs[j]) e2
    rw [show decide (xs[j] ∈ xs.take j) = false by simpa using e3] at hg
    have hset := boolR_set (met aw.length (xs.take j)) xs[j] true
    rw [met_set, ← List.take_succ_eq_append_getElem hjm] at hset
    have hg2 := int_get aw xs[j] (Int.toNat_natCast xs[j]) e2
    have hn : folAt aw fr xs (j + 1) = aw.getD xs[j] 0 := by rw [folAt, getD_get hjm]
    have hml := met_len aw.length (xs.take j)
    have hsn := natR_snoc xs hjm
    have htl : (natR (xs.take j)).length = j := by simp; omega
    rw [e1]
    generalize hy : xs[j] = y at *
    generalize aw.getD y 0 = a at *
    clear cf
    refine W.c3 hg hg2 (Fc.mk htl.symm) ?_
    refine nx (j + 1) (by omega) (by omega) (AtS.v [] [0, 1, 2, 3, 6] (by ((repeat' (first | exact trivial | exact rfl | with_reducible assumption | (refine And.intro ?_ ?_) | (refine Exists.intro _ (And.intro rfl ?_)) | (refine Exists.intro _ (Exists.intro _ (And.intro rfl (And.intro rfl ?_)))) | (refine Or.inl ⟨rfl, rfl, ?_⟩) | (refine Or.inl ⟨rfl, ?_⟩; focus (fail_if_success (refine And.intro ?_ ?_))) | (refine Or.inl (?_ : (_ : Nat) = _ ∧ _); refine ⟨?_, ?_⟩; focus (first | (simp only [List.length_map]; done) | (simp only [List.length_map, List.length_append, List.length_cons, List.length_nil]; done))) | exact Or.inl rfl | (refine Or.inr (Or.inr ⟨?_, ?_⟩)) | (refine Or.inr ⟨?_, ?_⟩) | (refine fun h => ?_; first | exact h | exact rfl | (cases h; done)) | (refine om8 ?_; simp only [← List.map_drop, ← List.map_take]; exact rfl) | ((first | refine om1 ?_ | refine om2 ?_ | refine om3 ?_ | refine om4 ?_ | refine om5 ?_ | refine om6 ?_ | refine om7 ?_); first | (simp only [List.length_map]; done) | (simp only [List.length_map]; omega) | omega)))); all_goals (first | exact hset | exact hsn)) ?_)
    rw [hn]
    (repeat' (first | exact trivial | exact rfl | with_reducible assumption | (refine And.intro ?_ ?_) | (refine Exists.intro _ (And.intro rfl ?_)) | (refine Exists.intro _ (Exists.intro _ (And.intro rfl (And.intro rfl ?_)))) | (refine Or.inl ⟨rfl, rfl, ?_⟩) | (refine Or.inl ⟨rfl, ?_⟩; focus (fail_if_success (refine And.intro ?_ ?_))) | (refine Or.inl (?_ : (_ : Nat) = _ ∧ _); refine ⟨?_, ?_⟩; focus (first | (simp only [List.length_map]; done) | (simp only [List.length_map, List.length_append, List.length_cons, List.length_nil]; done))) | exact Or.inl rfl | (refine Or.inr (Or.inr ⟨?_, ?_⟩)) | (refine Or.inr ⟨?_, ?_⟩) | (refine fun h => ?_; first | exact h | exact rfl | (cases h; done)) | (refine om8 ?_; simp only [← List.map_drop, ← List.map_take]; exact rfl) | ((first | refine om1 ?_ | refine om2 ?_ | refine om3 ?_ | refine om4 ?_ | refine om5 ?_ | refine om6 ?_ | refine om7 ?_); first | (simp only [List.length_map]; done) | (simp only [List.length_map]; omega) | omega)))
  have e : j = xs.length := by omega
  subst e
  have hstop := h.stop
  rw [List.take_length]
  have hml := met_len aw.length xs
  generalize folAt aw fr xs xs.length = a at *
  have hst : ∀ (K : Prop), (a < 0 → K) → (0 ≤ a → aw.length ≤ a → K) → (∀ u : Nat, u < aw.length → a = u → u ∈ xs → K) → K := fun K h1 h2 h3 => by
    rcases Int.lt_or_le a 0 with h | h
    · exact h1 h
    · rcases hstop with h4 | h4 | ⟨u, h4, h5, h6⟩
      · omega
      · exact h2 h h4
      · exact h3 u h4 h5 h6
  clear hstop
  apply later
  · intro rest
    refine hst _ (fun h1 => ?_) (fun h1 h2 => ?_) (fun u h1 h2 h3 => ?_)
    · refine W.d1 cf ?_
      refine LoopV.on (σ := Nat) rfl (fun r => [(5, .ptr 0 0 0), (6, .ptr 1 0 0), (7, .ptr 2 0 0), (10, .clo 30 [.ref true [intX true aw], .ref true [I fr]]), (11, I r)]) (fun _ => [some ⟨3, 1, false, false, [[I stop]]⟩, some ⟨4, 1, true, false, [[Bo false]]⟩, some ⟨26, 1, false, false, [[.own 3 xs.length]]⟩, some (natB xs)]) (fun r => r ≤ 2) (fun r => 2 - r) 0 (AtS.v [] [0, 1, 2, 4]) (Nat.zero_le _) rest.o
    · refine W.d1 cf ?_
      refine LoopV.on (σ := Nat) rfl (fun r => [(5, .ptr 0 0 0), (6, .ptr 1 0 0), (7, .ptr 2 0 0), (10, .clo 30 [.ref true [intX true aw], .ref true [I fr]]), (11, I r)]) (fun _ => [some ⟨3, 1, false, false, [[I stop]]⟩, some ⟨4, 1, true, false, [[Bo false]]⟩, some ⟨26, 1, false, false, [[.own 3 xs.length]]⟩, some (natB xs)]) (fun r => r ≤ 2) (fun r => 2 - r) 0 (AtS.v [] [0, 1, 2, 4]) (Nat.zero_le _) rest.o
    · subst h2
      have hg := met_get (n := aw.length) xs (Int.toNat_natCast u) h1
      rw [show decide (u ∈ xs) = true by simpa using h3] at hg
      refine W.d2 cf hg ?_
      refine LoopV.on (σ := Nat) rfl (fun r => [(5, .ptr 0 0 0), (6, .ptr 1 0 0), (7, .ptr 2 0 0), (10, .clo 30 [.ref true [intX true aw], .ref true [I fr]]), (11, I r)]) (fun _ => [some ⟨3, 1, false, false, [[I stop]]⟩, some ⟨4, 1, true, false, [[Bo false]]⟩, some ⟨26, 1, false, false, [[.own 3 xs.length]]⟩, some (natB xs)]) (fun r => r ≤ 2) (fun r => 2 - r) 0 (AtS.v [] [0, 1, 2, 4]) (Nat.zero_le _) rest.o
  intro r hr
  clear hst hml
  have hxl : xs.length < 9223372036854775808 := by omega
  rcases Nat.lt_or_ge r 2 with h2 | h2
  · refine W.go ?_
    refine RangeV.on rfl xs natIt 5 30 [.ref true [intX true aw], .ref true [I fr]] [(5, .ptr 0 0 0), (6, .ptr 1 0 0), (7, .ptr 2 0 0), (10, .clo 30 [.ref true [intX true aw], .ref true [I fr]]), (11, I r), (12, .ptr 4 0 0), (56, .clo 30 [.ref true [intX true aw], .ref true [I fr]])]
      (fun j : Nat => [some ⟨3, 1, false, false, [[I stop]]⟩, some ⟨4, 1, true, false, [[Bo false]]⟩, some ⟨26, 1, false, false, [[.own 3 xs.length]]⟩, some (natB xs), some ⟨3, 1, true, false, [[I j]]⟩])
      (fun j s => s = j) 0 hi1 (AtS.v [] [0, 1, 2, 3, 4]) rfl rfl rfl (fun x => ⟨rfl, rfl⟩) (Nat.zero_le _) rfl (fun _ => rfl) ?_ ?_
    · rintro _ hj j rfl
      have hg := nat_get xs j (Int.toNat_natCast j) hj
      rw [getD_get hj] at hg
      rw [show natIt xs[j] = [I (xs[j] : Nat)] from rfl]
      generalize xs[j] = y at *
      refine W.c1 hg ?_
      exact nxr (j + 1) rfl (AtS.v [] [0, 1, 2, 3, 4])
    · rintro j rfl
      refine W.go ?_
      exact nx (r + 1) (by omega) (by omega) (AtS.v [] [0, 1, 2, 3])
  · have e : r = 2 := by omega
    subst e
    refine W.go ?_
    refine RangeV.on rfl xs natIt 5 30 [.ref true [intX true aw], .ref true [I fr]] [(5, .ptr 0 0 0), (6, .ptr 1 0 0), (7, .ptr 2 0 0), (14, .ptr 4 0 0), (76, .clo 30 [.ref true [intX true aw], .ref true [I fr]])]
      (fun j : Nat => [some ⟨3, 1, false, false, [[I stop]]⟩, some ⟨4, 1, true, false, [[Bo false]]⟩, some ⟨26, 1, false, false, [[.own 3 xs.length]]⟩, some (natB xs), some ⟨3, 1, true, false, [[I j]]⟩])
      (fun j s => s = j ∧ (s = 0 ∨ (s : Int) < stop)) 0 hi1 (AtS.v [] [0, 1, 2, 3, 4]) ⟨rfl, .inl rfl⟩ rfl rfl (fun x => ⟨rfl, rfl⟩) (Nat.zero_le _) rfl (fun _ => rfl) ?_ ?_
    · rintro _ hj j ⟨rfl, hp⟩
      unfold natIt
      generalize xs[j] = y at *
      by_cases hs : (j : Int) + 1 ≥ stop
      · refine W.go ?_
        refine RetP.v (congrArg Value.bool ?_)
        simp only [Bool.and_eq_true, Bool.or_eq_true, decide_eq_true_eq, beq_iff_eq]
        refine ⟨by omega, ?_⟩
        split <;> omega
      · refine W.go ?_
        exact nxr (j + 1) ⟨rfl, .inr (by omega)⟩ (AtS.v [] [0, 1, 2, 3, 4])
    · rintro j ⟨rfl, hp⟩
      refine W.go ?_
      refine RetP.v (congrArg Value.bool ?_)
      simp only [Bool.and_eq_true, Bool.or_eq_true, decide_eq_true_eq, beq_iff_eq]
      refine ⟨by omega, ?_⟩
      split <;> omega
end Go.Proofs.Ytonmkggglkicnaa
