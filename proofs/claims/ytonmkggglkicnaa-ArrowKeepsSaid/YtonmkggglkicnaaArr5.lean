/- arrow: Follow. -/
import Derived.Test.YtonmkggglkicnaaArr4
set_option linter.unusedSimpArgs false
set_option maxRecDepth 20000
set_option linter.unusedVariables false
namespace Go.Proofs.Ytonmkggglkicnaa
open Go Go.Eng Go.RowKit

/-- Where a walk along the arrows stands behind its first j nodes. -/
def folAt (aw : List Int) (f : Int) (xs : List Nat) : Nat → Int
  | 0 => f
  | j + 1 => aw.getD (xs.getD j 0) 0
/-- The nodes of a walk along the arrows. -/
structure Fol (aw : List Int) (f : Int) (xs : List Nat) : Prop where
  le : xs.length ≤ aw.length
  on : ∀ j (hj : j < xs.length), folAt aw f xs j = (xs[j] : Nat) ∧ xs[j] < aw.length ∧ xs[j] ∉ xs.take j
  stop : folAt aw f xs xs.length < 0 ∨ aw.length ≤ folAt aw f xs xs.length ∨ ∃ u : Nat, u < aw.length ∧ folAt aw f xs xs.length = u ∧ u ∈ xs
theorem new_nodup : ∀ (xs : List Nat), (∀ j (hj : j < xs.length), xs[j] ∉ xs.take j) → xs.Nodup := by
  intro xs h
  rw [List.nodup_iff_pairwise_ne, List.pairwise_iff_getElem]
  intro i j hi hj hij e
  refine h j hj ?_
  rw [← e, List.mem_take_iff_getElem]
  exact ⟨i, by omega, rfl⟩
theorem folAt_app (aw : List Int) (f : Int) (xs : List Nat) (a : Nat) {j : Nat} (hj : j ≤ xs.length) : folAt aw f (xs ++ [a]) j = folAt aw f xs j := by
  cases j with
  | zero => rfl
  | succ j =>
    simp only [folAt]
    rw [List.getD_eq_getElem?_getD, List.getD_eq_getElem?_getD, List.getElem?_append_left (by omega), List.getD_eq_getElem?_getD, List.getD_eq_getElem?_getD]
theorem fol_ex (aw : List Int) (f : Int) : ∃ xs, Fol aw f xs := by
  have key : ∀ (k : Nat) (xs : List Nat), aw.length ≤ xs.length + k → (∀ j (hj : j < xs.length), folAt aw f xs j = (xs[j] : Nat) ∧ xs[j] < aw.length ∧ xs[j] ∉ xs.take j) → ∃ xs, Fol aw f xs := by
    intro k
    induction k with
    | zero =>
      intro xs hk hx
      have hn := new_nodup xs fun j hj => (hx j hj).2.2
      have hl := nodup_le aw.length xs hn fun x hm => by
        obtain ⟨j, hj, rfl⟩ := List.mem_iff_getElem.1 hm
        exact (hx j hj).2.1
      refine ⟨xs, hl, hx, ?_⟩
      rcases Int.lt_or_le (folAt aw f xs xs.length) 0 with h1 | h1
      · exact .inl h1
      rcases Int.lt_or_le (folAt aw f xs xs.length) aw.length with h2 | h2
      · refine .inr (.inr ⟨(folAt aw f xs xs.length).toNat, by omega, by omega, ?_⟩)
        apply Classical.byContradiction
        intro hm
        have := nodup_le aw.length ((folAt aw f xs xs.length).toNat :: xs) (List.nodup_cons.2 ⟨hm, hn⟩) fun x hx2 => by
          rcases List.mem_cons.1 hx2 with rfl | hx2
          · omega
          · obtain ⟨j, hj, rfl⟩ := List.mem_iff_getElem.1 hx2
            exact (hx j hj).2.1
        simp only [List.length_cons] at this
        omega
      · exact .inr (.inl h2)
    | succ k ih =>
      intro xs hk hx
      by_cases hc : 0 ≤ folAt aw f xs xs.length ∧ folAt aw f xs xs.length < aw.length ∧ (folAt aw f xs xs.length).toNat ∉ xs
      · refine ih (xs ++ [(folAt aw f xs xs.length).toNat]) (by simp; omega) fun j hj => ?_
        rw [List.length_append, List.length_singleton] at hj
        rcases Nat.lt_or_ge j xs.length with h1 | h1
        · rw [folAt_app aw f xs _ (by omega), List.getElem_append_left h1, List.take_append_of_le_length (by omega)]
          exact hx j h1
        · have e : j = xs.length := by omega
          subst e
          rw [folAt_app aw f xs _ (Nat.le_refl _), List.getElem_append_right (Nat.le_refl _), List.take_append_of_le_length (Nat.le_refl _), List.take_length]
          simp only [Nat.sub_self, List.getElem_cons_zero]
          exact ⟨by omega, by omega, hc.2.2⟩
      · have hn := new_nodup xs fun j hj => (hx j hj).2.2
        have hl := nodup_le aw.length xs hn fun x hm => by
          obtain ⟨j, hj, rfl⟩ := List.mem_iff_getElem.1 hm
          exact (hx j hj).2.1
        refine ⟨xs, hl, hx, ?_⟩
        rcases Int.lt_or_le (folAt aw f xs xs.length) 0 with h1 | h1
        · exact .inl h1
        rcases Int.lt_or_le (folAt aw f xs xs.length) aw.length with h2 | h2
        · refine .inr (.inr ⟨(folAt aw f xs xs.length).toNat, by omega, by omega, ?_⟩)
          apply Classical.byContradiction
          exact fun hm => hc ⟨h1, h2, hm⟩
        · exact .inr (.inl h2)
  exact key aw.length [] (by simp) (by simp)
/-- Which of n nodes are in a list. -/
def met (n : Nat) (xs : List Nat) : List Bool := (List.range n).map fun v => decide (v ∈ xs)
theorem met_len (n : Nat) (xs : List Nat) : (met n xs).length = n := by simp [met]
theorem met_nil (n : Nat) : met n [] = List.replicate n false := by
  refine List.ext_getElem (by simp [met]) fun i h1 h2 => by simp [met]
theorem met_set (n : Nat) (xs : List Nat) (v : Nat) : (met n xs).set v true = met n (xs ++ [v]) := by
  refine List.ext_getElem (by simp [met]) fun i h1 h2 => ?_
  rw [List.getElem_set]
  simp only [met, List.getElem_map, List.getElem_range, List.mem_append, List.mem_singleton]
  split
  · rename_i e; simp [e]
  · rename_i e
    have : i ≠ v := fun h => e h.symm
    simp [this]
theorem met_get {n : Nat} (xs : List Nat) {m v : Nat} (hm : m = v) (hv : v < n) : nth (boolR (met n xs)) m = some [Bo (decide (v ∈ xs))] := by
  subst hm
  rw [nth_eq]
  simp [met, hv]
theorem boolR_set (bs : List Bool) (i : Nat) (x : Bool) : (boolR bs).set i [Bo x] = boolR (bs.set i x) := by simp [boolR, List.map_set]
theorem nat_fr (xs : List Nat) : FrR (xs.map natIt) := FrR_map natIt (fun x => by simp [natIt, Sv.Fr.go, Sv.Fr]) xs
theorem boolR_rep (n : Nat) : boolR (met n []) = List.replicate n [Bo false] := by rw [met_nil]; simp [boolR]
theorem follow_pcon (g : Bool) (aw : List Int) (fr : Int) (h : aw.length * 8 ≤ 140737488355328) : PCon Try.prog 17 [intX g aw, I fr] (.clo 30 [.ref true [intX true aw], .ref true [I fr]]) [] := by
  refine pcon_of (G := gm) Try.func17 rfl rfl rfl ?_
  refine W.c1 (clone_pcon g aw h) ?_
  exact RetP.go [] [] (by simp) rfl (by (repeat' (first | exact trivial | exact rfl | with_reducible assumption | (refine And.intro ?_ ?_) | (refine Exists.intro _ (And.intro rfl ?_)) | (refine Exists.intro _ (Exists.intro _ (And.intro rfl (And.intro rfl ?_)))) | (refine Or.inl ⟨rfl, rfl, ?_⟩) | (refine Or.inl ⟨rfl, ?_⟩; focus (fail_if_success (refine And.intro ?_ ?_))) | (refine Or.inl (?_ : (_ : Nat) = _ ∧ _); refine ⟨?_, ?_⟩; focus (first | (simp only [List.length_map]; done) | (simp only [List.length_map, List.length_append, List.length_cons, List.length_nil]; done))) | exact Or.inl rfl | (refine Or.inr (Or.inr ⟨?_, ?_⟩)) | (refine Or.inr ⟨?_, ?_⟩) | (refine fun h => ?_; first | exact h | exact rfl | (cases h; done)) | (refine om8 ?_; simp only [← List.map_drop, ← List.map_take]; exact rfl) | ((first | refine om1 ?_ | refine om2 ?_ | refine om3 ?_ | refine om4 ?_ | refine om5 ?_ | refine om6 ?_ | refine om7 ?_); first | (simp only [List.length_map]; done) | (simp only [List.length_map]; omega) | omega)))) (by repeat' (first | exact trivial | exact rfl | exact int_fr aw | refine And.intro ?_ ?_)) trivial
set_option maxHeartbeats 1000000 in
theorem follow1_icon (g : Bool) {aw : List Int} {fr : Int} {xs : List Nat} (h : Fol aw fr xs) (ha : aw.length * 8 ≤ 140737488351232) : ICon Try.prog 30 (fun y => [.val y, .ref true [intX g aw], .ref true [I fr]]) (xs.map natIt) := by
  refine icon_of (G := gm) Try.func30 rfl rfl fun l => ?_
  have hle := h.le
  refine W.go ?_
  refine LoopV.on (σ := Nat) rfl (fun j => [(0, .val (.func (.yield l) #[] #[])), (1, .ref true [intX g aw]), (2, .ref true [I fr]), (4, .own 1 aw.length), (5, I (folAt aw fr xs j))]) (fun j => [some (gB ((xs.map natIt).take j)), some (boolB (met aw.length (xs.take j)))]) (fun j => j ≤ xs.length) (fun j => xs.length - j) 0 (AtS.v [] [0, 1] ⟨⟨_, rfl, VwB.refl⟩, by ((repeat' (first | exact trivial | exact rfl | with_reducible assumption | (refine And.intro ?_ ?_) | (refine Exists.intro _ (And.intro rfl ?_)) | (refine Exists.intro _ (Exists.intro _ (And.intro rfl (And.intro rfl ?_)))) | (refine Or.inl ⟨rfl, rfl, ?_⟩) | (refine Or.inl ⟨rfl, ?_⟩; focus (fail_if_success (refine And.intro ?_ ?_))) | (refine Or.inl (?_ : (_ : Nat) = _ ∧ _); refine ⟨?_, ?_⟩; focus (first | (simp only [List.length_map]; done) | (simp only [List.length_map, List.length_append, List.length_cons, List.length_nil]; done))) | exact Or.inl rfl | (refine Or.inr (Or.inr ⟨?_, ?_⟩)) | (refine Or.inr ⟨?_, ?_⟩) | (refine fun h => ?_; first | exact h | exact rfl | (cases h; done)) | (refine om8 ?_; simp only [← List.map_drop, ← List.map_take]; exact rfl) | ((first | refine om1 ?_ | refine om2 ?_ | refine om3 ?_ | refine om4 ?_ | refine om5 ?_ | refine om6 ?_ | refine om7 ?_); first | (simp only [List.length_map]; done) | (simp only [List.length_map]; omega) | omega)))); first | exact boolR_rep _ | exact (boolR_rep _).symm⟩) (Nat.zero_le _) ?_
  intro j hj
  rcases Nat.lt_or_ge j xs.length with hjm | hjm
  · obtain ⟨e1, e2, e3⟩ := h.on j hjm
    have hg := met_get (n := aw.length) (xs.take j) (Int.toNat_natCast xs[j]) e2
    rw [show decide (xs[j] ∈ xs.take j) = false by simpa using e3] at hg
    have hset := boolR_set (met aw.length (xs.take j)) xs[j] true
    rw [met_set, ← List.take_succ_eq_append_getElem hjm] at hset
    have hg2 := int_get aw xs[j] (Int.toNat_natCast xs[j]) e2
    have hn : folAt aw fr xs (j + 1) = aw.getD xs[j] 0 := by rw [folAt, getD_get hjm]
    have hml := met_len aw.length (xs.take j)
    rw [e1]
    generalize hy : xs[j] = y at *
    generalize aw.getD y 0 = a at *
    refine W.c2 hg hg2 ?_
    refine YieldV.next xs natIt j hjm rfl rfl (by repeat' (first | exact trivial | refine And.intro ?_ ?_)) (by repeat' (first | exact trivial | refine And.intro ?_ ?_)) rfl (by rw [hy]; rfl) ?_ ?_
    · refine W.c1 hg2 ?_
      refine nx (j + 1) (by omega) (by omega) (AtS.v [] [0, 1] ⟨⟨_, rfl, VwB.refl⟩, by ((repeat' (first | exact trivial | exact rfl | with_reducible assumption | (refine And.intro ?_ ?_) | (refine Exists.intro _ (And.intro rfl ?_)) | (refine Exists.intro _ (Exists.intro _ (And.intro rfl (And.intro rfl ?_)))) | (refine Or.inl ⟨rfl, rfl, ?_⟩) | (refine Or.inl ⟨rfl, ?_⟩; focus (fail_if_success (refine And.intro ?_ ?_))) | (refine Or.inl (?_ : (_ : Nat) = _ ∧ _); refine ⟨?_, ?_⟩; focus (first | (simp only [List.length_map]; done) | (simp only [List.length_map, List.length_append, List.length_cons, List.length_nil]; done))) | exact Or.inl rfl | (refine Or.inr (Or.inr ⟨?_, ?_⟩)) | (refine Or.inr ⟨?_, ?_⟩) | (refine fun h => ?_; first | exact h | exact rfl | (cases h; done)) | (refine om8 ?_; simp only [← List.map_drop, ← List.map_take]; exact rfl) | ((first | refine om1 ?_ | refine om2 ?_ | refine om3 ?_ | refine om4 ?_ | refine om5 ?_ | refine om6 ?_ | refine om7 ?_); first | (simp only [List.length_map]; done) | (simp only [List.length_map]; omega) | omega)))); exact hset⟩ ?_)
      rw [hn]
      (repeat' (first | exact trivial | exact rfl | with_reducible assumption | (refine And.intro ?_ ?_) | (refine Exists.intro _ (And.intro rfl ?_)) | (refine Exists.intro _ (Exists.intro _ (And.intro rfl (And.intro rfl ?_)))) | (refine Or.inl ⟨rfl, rfl, ?_⟩) | (refine Or.inl ⟨rfl, ?_⟩; focus (fail_if_success (refine And.intro ?_ ?_))) | (refine Or.inl (?_ : (_ : Nat) = _ ∧ _); refine ⟨?_, ?_⟩; focus (first | (simp only [List.length_map]; done) | (simp only [List.length_map, List.length_append, List.length_cons, List.length_nil]; done))) | exact Or.inl rfl | (refine Or.inr (Or.inr ⟨?_, ?_⟩)) | (refine Or.inr ⟨?_, ?_⟩) | (refine fun h => ?_; first | exact h | exact rfl | (cases h; done)) | (refine om8 ?_; simp only [← List.map_drop, ← List.map_take]; exact rfl) | ((first | refine om1 ?_ | refine om2 ?_ | refine om3 ?_ | refine om4 ?_ | refine om5 ?_ | refine om6 ?_ | refine om7 ?_); first | (simp only [List.length_map]; done) | (simp only [List.length_map]; omega) | omega)))
    · refine W.go ?_
      exact RetI.stop rfl (FrR_take _ (nat_fr xs))
  · have e : j = xs.length := by omega
    subst e
    have hstop := h.stop
    rw [List.take_length]
    generalize folAt aw fr xs xs.length = a at *
    rcases hstop with h1 | h1 | ⟨u, h1, rfl, h3⟩
    · refine W.d0 ?_
      exact RetI.all rfl (List.take_of_length_le (by simp)) (nat_fr xs)
    · refine W.d0 ?_
      exact RetI.all rfl (List.take_of_length_le (by simp)) (nat_fr xs)
    · have hg := met_get (n := aw.length) xs (Int.toNat_natCast u) h1
      rw [show decide (u ∈ xs) = true by simpa using h3] at hg
      have hml := met_len aw.length xs
      refine W.c1 hg ?_
      exact RetI.all rfl (List.take_of_length_le (by simp)) (nat_fr xs)
end Go.Proofs.Ytonmkggglkicnaa
