/- The law ArrowReverses: its walk. -/
import Derived.Test.YtonmkggglkicnaaArr8
set_option linter.unusedSimpArgs false
set_option maxRecDepth 20000
set_option linter.unusedVariables false
namespace Go.Proofs.Ytonmkggglkicnaa
open Go Go.Eng Go.RowKit

theorem TrP.tw_snk {ps : List Int} (h : TrP ps) {f : Nat} (hf : f < ps.length) : snk (tw ps f) (tw ps f).length = [(f : Int)] := by
  obtain ⟨x, hx⟩ := one_is (h.tw_qu hf).one
  have : (f : Int) ∈ snk (tw ps f) (tw ps f).length := snk_mem.2 ⟨f, rfl, by rw [tw_len]; exact hf, by rw [tw_get ps f hf, nextS_self hf]⟩
  rw [hx] at this ⊢
  simp only [List.mem_singleton] at this
  rw [this]
/-- A find turns the arrows of its path, and no others. -/
theorem TrP.turn_iff {ps : List Int} (h : TrP ps) {f s v : Nat} (hf : f < ps.length) (hs : s < ps.length) (hv : v < ps.length) : nextS ps v f ≠ nextS ps v s ↔ v ∈ wy ps f s ∧ f ≠ s := by
  constructor
  · intro hne
    refine ⟨?_, fun e => hne (by rw [e])⟩
    apply Classical.byContradiction
    intro hm
    apply hne
    have his : v ≠ s := by
      rintro rfl
      have := List.getElem_mem (show dst ps f v < (wy ps f v).length by rw [h.wy_len hf hs]; omega)
      rw [h.wy_last hf hs] at this
      exact hm this
    have hif : v ≠ f := by
      rintro rfl
      have := List.getElem_mem (h.wy_pos hf hs)
      rw [h.wy_head hf hs] at this
      exact hm this
    rw [(h.nxt_ok hv hs his).2.2, (h.nxt_ok hv hf hif).2.2, h.off_path hf hs hv hm]
  · rintro ⟨hm, hne⟩
    obtain ⟨j, hj, rfl⟩ := List.mem_iff_getElem.1 hm
    have hl := h.wy_len hf hs
    have hnd := h.wy_nodup hf hs
    rcases Nat.lt_or_ge j (dst ps f s) with h1 | h1
    · obtain ⟨a1, a2, a3, a4⟩ := (h.way_next hf hs hj).2 (by omega)
      rw [a2]
      cases j with
      | zero =>
        have e0 := h.wy_head hf hs hj
        rw [e0] at a4 ⊢
        rw [nextS_self hf]
        omega
      | succ j =>
        obtain ⟨b1, b2, b3, b4⟩ := (h.way_next hf hs (j := j) (by omega)).2 hj
        rw [b3]
        intro e
        have e : (wy ps f s)[j] = (wy ps f s)[j + 1 + 1] := by omega
        have := (List.getElem_inj hnd).1 e
        omega
    · have e : j = dst ps f s := by omega
      subst e
      have el := h.wy_last hf hs hj
      rw [el, nextS_self hs]
      have hd : dst ps f s ≠ 0 := fun e => hne (h.dst_zero hf hs e)
      obtain ⟨b1, b2, b3, b4⟩ := (h.way_next hf hs (j := dst ps f s - 1) (by omega)).2 (by omega)
      have e2 : (wy ps f s)[dst ps f s - 1 + 1] = s := by
        have e3 : dst ps f s - 1 + 1 = dst ps f s := by omega
        simp only [e3]
        exact el
      rw [e2] at b3 b4
      rw [b3]
      omega
/-- Along the arrows that lead to f one goes by the path. -/
theorem TrP.tw_fol {ps : List Int} (h : TrP ps) {f v : Nat} (hf : f < ps.length) (hv : v < ps.length) : Fol (tw ps f) v (wy ps v f) := by
  have hl := h.wy_len hv hf
  have hd := h.dst_lt hv hf
  have hnd := h.wy_nodup hv hf
  have hat : ∀ j (hj : j < (wy ps v f).length), folAt (tw ps f) v (wy ps v f) j = ((wy ps v f)[j] : Nat) := by
    intro j hj
    cases j with
    | zero => rw [h.wy_head hv hf hj]; rfl
    | succ j =>
      rw [folAt, getD_get (by omega), tw_get ps f (h.wy_at hf j v hv (by omega)).2.2]
      exact ((h.way_next hv hf (j := j) (by omega)).2 hj).2.1
  refine ⟨by rw [tw_len]; omega, fun j hj => ⟨hat j hj, by rw [tw_len]; exact (h.wy_at hf j v hv hj).2.2, fun hm => ?_⟩, ?_⟩
  · obtain ⟨i, hi, e⟩ := List.mem_iff_getElem.1 hm
    rw [List.getElem_take] at e
    rw [List.length_take] at hi
    have := (List.getElem_inj hnd).1 e
    omega
  · right; right
    refine ⟨f, by rw [tw_len]; exact hf, ?_, ?_⟩
    · rw [hl, folAt, getD_get (by omega), h.wy_last hv hf, tw_get ps f hf, nextS_self hf]
    · have := List.getElem_mem (show dst ps v f < (wy ps v f).length by omega)
      rwa [h.wy_last hv hf] at this
theorem met_full {n : Nat} (xs : List Nat) {v : Nat} (hv : v < n) : nth (boolR (met n xs)) v = some [Bo (decide (v ∈ xs))] := met_get xs rfl hv
set_option maxHeartbeats 4000000 in
theorem arrowReverses_pcon (ps : List Int) (home : Int) (fs : List Int) (hl : ps.length < 9223372036854775808) : PCon Try.prog 8 [intX false ps, I home, intX false fs] (Bo true) [] := by
  refine pcon_of (G := gm) Try.func8 rfl rfl rfl ?_
  by_cases h : (checkS ps).2 = 0
  case neg =>
    have hn := new_bad false ps hl h
    generalize checkS ps = r at h hn
    obtain ⟨r1, r2⟩ := r
    dsimp only at h
    refine W.c2 awakes_pcon hn ?_
    exact RetP.v rfl
  have ht := (tr1_iff ps).1 h
  have hn := new_ok false ps ht
  have hle := ht.le
  clear h
  by_cases hin : home < 0 ∨ home ≥ ps.length ∨ (fs.length : Int) > 256
  · generalize nearOf ps = L at *
    refine W.c2 awakes_pcon hn ?_
    exact RetP.v rfl
  obtain ⟨s0, rfl⟩ : ∃ k : Nat, home = k := ⟨home.toNat, by omega⟩
  have hs0 : s0 < ps.length := by omega
  have hfl : fs.length ≤ 256 := by omega
  have c1 := (towI_tw (ps := ps) (s := s0) hs0) ▸ toward_pcon true ps (nearOf ps) s0 ht
  rw [tw_len] at c1
  have hlen := tw_len ps
  refine W.c3 awakes_pcon hn c1 ?_
  refine LoopV.on (σ := Nat × Nat) rfl (fun z => [(0, intX false ps), (7, treeX true ps (nearOf ps)), (9, .own 0 ps.length), (10, I z.2), (55, .own 1 (1 + fs.length)), (56, I (1 + fs.length : Nat)), (57, I z.1)])
    (fun z => [some (intB (tw ps z.2)), some (intB ((s0 : Int) :: fs))]) (fun z => z.1 ≤ fs.length + 1 ∧ z.2 < ps.length) (fun z => fs.length + 1 - z.1) (0, s0) ?_ ⟨Nat.zero_le _, hs0⟩ ?_
  · exact AtS.v [] [0, 2]
  rintro ⟨i, s⟩ ⟨hi, hs⟩
  dsimp only at hi hs
  dsimp only
  unfold intB
  rcases Nat.lt_or_ge i (fs.length + 1) with him | him
  case inr =>
    have e : i = fs.length + 1 := by omega
    subst e
    refine W.go ?_
    exact RetP.v rfl
  have hg := int_get ((s0 : Int) :: fs) i (Int.toNat_natCast i) (by simpa using him)
  generalize ((s0 : Int) :: fs).getD i 0 = fr at hg
  by_cases hout : fr < 0 ∨ fr ≥ ps.length
  · have cr := run_bad false ps (tw ps s) fr ht (by rw [hlen]; omega) (by rw [hlen]; omega)
    generalize nearOf ps = L at *
    have hsl := hlen s
    refine W.c2 hg cr ?_
    exact nx (i + 1, s) (by dsimp only; omega) ⟨by dsimp only; omega, hs⟩ (AtS.v [] [0, 1])
  obtain ⟨f, rfl⟩ : ∃ k : Nat, fr = k := ⟨fr.toNat, by omega⟩
  have hf : f < ps.length := by omega
  have cr := run_ok false ht hf hs
  have cq := quiet_pcon false ps (tw ps f) ht (by rw [hlen]; omega)
  rw [quB_iff.2 (ht.p.tw_qu hf)] at cq
  have cs := PCon.x (sinks_pcon false (tw ps f) (by rw [hlen]; omega)) (by simp) (int_fr _)
  rw [ht.p.tw_snk hf] at cs
  have cm := same_pcon true false [(f : Int)] (by simp)
  have cp := PCon.x (refpath_pcon false ps f s ht) (by simp) (int_fr _)
  have hpi : pathI ps f s = (wy ps f s).map fun (x : Nat) => (x : Int) := by rw [pathI, pathN_in hf hs]
  have hw : intR ((wy ps f s).map fun (x : Nat) => (x : Int)) = natR (wy ps f s) := by simp [intR, natR, natIt]
  rw [hpi] at cp
  change PCon _ _ _ (.ext true 1 (intR ((wy ps f s).map fun (x : Nat) => (x : Int)))) [] at cp
  rw [hw] at cp
  have hwl := ht.p.wy_len hf hs
  have hdl := ht.p.dst_lt hf hs
  have hsl := hlen s
  have hfl2 := hlen f
  refine W.d5 hg cr cq cs cm ?_
  refine W.c1 cp ?_
  refine LoopV.on (σ := Nat) rfl (fun j => [(0, intX false ps), (7, treeX true ps (nearOf ps)), (9, .own 0 ps.length), (10, I s), (12, I f), (15, .own 2 ps.length), (17, .own 3 ps.length), (55, .own 1 (1 + fs.length)), (56, I (1 + fs.length : Nat)), (57, I i), (115, .ext true 1 (natR (wy ps f s))), (116, I (wy ps f s).length), (117, I j)])
    (fun j => [some (mkB 3 1 (intR (tw ps s))), some (mkB 3 1 (intR ((s0 : Int) :: fs))), some (mkB 3 1 (intR (tw ps f))), some (mkB 4 1 (boolR (met ps.length ((wy ps f s).take j))))]) (fun j => j ≤ (wy ps f s).length) (fun j => (wy ps f s).length - j) 0 ?_ (Nat.zero_le _) ?_
  · refine AtS.v [] [0, 1, 2, 4] (by ((repeat' (first | exact trivial | exact rfl | with_reducible assumption | (refine And.intro ?_ ?_) | (refine Exists.intro _ (And.intro rfl ?_)) | (refine Exists.intro _ (Exists.intro _ (And.intro rfl (And.intro rfl ?_)))) | (refine Or.inl ⟨rfl, rfl, ?_⟩) | (refine Or.inl ⟨rfl, ?_⟩; focus (fail_if_success (refine And.intro ?_ ?_))) | (refine Or.inl (?_ : (_ : Nat) = _ ∧ _); refine ⟨?_, ?_⟩; focus (first | (simp only [List.length_map]; done) | (simp only [List.length_map, List.length_append, List.length_cons, List.length_nil]; done))) | exact Or.inl rfl | (refine Or.inr (Or.inr ⟨?_, ?_⟩)) | (refine Or.inr ⟨?_, ?_⟩) | (refine fun h => ?_; first | exact h | exact rfl | (cases h; done)) | (refine om8 ?_; simp only [← List.map_drop, ← List.map_take]; exact rfl) | ((first | refine om1 ?_ | refine om2 ?_ | refine om3 ?_ | refine om4 ?_ | refine om5 ?_ | refine om6 ?_ | refine om7 ?_); first | (simp only [List.length_map]; done) | (simp only [List.length_map]; omega) | omega)))); all_goals (first | exact boolR_rep _ | exact (boolR_rep _).symm))
  intro j hj
  have hw2 : (natR (wy ps f s)).length = (wy ps f s).length := by simp
  rcases Nat.lt_or_ge j (wy ps f s).length with hjm | hjm
  · have hyl := (ht.p.wy_at hs j f hf hjm).2.2
    have hg := nat_get (wy ps f s) j (Int.toNat_natCast j) hjm
    rw [getD_get hjm] at hg
    have hset := boolR_set (met ps.length ((wy ps f s).take j)) (wy ps f s)[j] true
    rw [met_set, ← List.take_succ_eq_append_getElem hjm] at hset
    have hml := met_len ps.length ((wy ps f s).take j)
    have hgm := met_get (n := ps.length) ((wy ps f s).take j) (Int.toNat_natCast (wy ps f s)[j]) hyl
    generalize (wy ps f s)[j] = y at *
    refine W.c2 hg hgm ?_
    exact nx (j + 1) (by omega) (by omega) (AtS.v [] [0, 1, 2, 3] (by ((repeat' (first | exact trivial | exact rfl | with_reducible assumption | (refine And.intro ?_ ?_) | (refine Exists.intro _ (And.intro rfl ?_)) | (refine Exists.intro _ (Exists.intro _ (And.intro rfl (And.intro rfl ?_)))) | (refine Or.inl ⟨rfl, rfl, ?_⟩) | (refine Or.inl ⟨rfl, ?_⟩; focus (fail_if_success (refine And.intro ?_ ?_))) | (refine Or.inl (?_ : (_ : Nat) = _ ∧ _); refine ⟨?_, ?_⟩; focus (first | (simp only [List.length_map]; done) | (simp only [List.length_map, List.length_append, List.length_cons, List.length_nil]; done))) | exact Or.inl rfl | (refine Or.inr (Or.inr ⟨?_, ?_⟩)) | (refine Or.inr ⟨?_, ?_⟩) | (refine fun h => ?_; first | exact h | exact rfl | (cases h; done)) | (refine om8 ?_; simp only [← List.map_drop, ← List.map_take]; exact rfl) | ((first | refine om1 ?_ | refine om2 ?_ | refine om3 ?_ | refine om4 ?_ | refine om5 ?_ | refine om6 ?_ | refine om7 ?_); first | (simp only [List.length_map]; done) | (simp only [List.length_map]; omega) | omega)))); all_goals exact hset))
  have e : j = (wy ps f s).length := by omega
  subst e
  rw [List.take_length]
  have hti := fun v => ht.p.turn_iff (v := v) hf hs
  refine W.go ?_
  refine LoopV.on (σ := Nat) rfl (fun v => [(0, intX false ps), (7, treeX true ps (nearOf ps)), (9, .own 0 ps.length), (10, I s), (12, I f), (15, .own 2 ps.length), (17, .own 3 ps.length), (55, .own 1 (1 + fs.length)), (56, I (1 + fs.length : Nat)), (57, I i), (126, I ps.length), (127, I v)])
    (fun _ => [some (mkB 3 1 (intR (tw ps s))), some (mkB 3 1 (intR ((s0 : Int) :: fs))), some (mkB 3 1 (intR (tw ps f))), some (mkB 4 1 (boolR (met ps.length (wy ps f s))))]) (fun v => v ≤ ps.length) (fun v => ps.length - v) 0 (AtS.v [] [0, 1, 2, 3]) (Nat.zero_le _) ?_
  intro v hv
  have hml := met_len ps.length (wy ps f s)
  rcases Nat.lt_or_ge v ps.length with hvm | hvm
  · have hti := hti v hvm
    have g1 := int_get (tw ps f) v (Int.toNat_natCast v) (by omega)
    have g2 := int_get (tw ps s) v (Int.toNat_natCast v) (by omega)
    have g3 := met_get (n := ps.length) (wy ps f s) (Int.toNat_natCast v) hvm
    rw [tw_get ps f hvm] at g1
    rw [tw_get ps s hvm] at g2
    have hb : ((nextS ps v f != nextS ps v s) != (decide (v ∈ wy ps f s) && ((f : Int) != (s : Int)))) = false := by
      by_cases c1 : v ∈ wy ps f s ∧ f ≠ s
      · have := hti.2 c1
        have h2 : (f : Int) ≠ s := by omega
        have h4 : (nextS ps v f != nextS ps v s) = true := by simpa using this
        have h5 : ((f : Int) != (s : Int)) = true := by simpa using h2
        rw [h4, h5]
        simp [c1.1]
      · have h3 : ¬ nextS ps v f ≠ nextS ps v s := fun h => c1 (hti.1 h)
        have h3 : nextS ps v f = nextS ps v s := by
          apply Classical.byContradiction; exact h3
        by_cases c2 : v ∈ wy ps f s
        · have : f = s := by
            apply Classical.byContradiction; exact fun h => c1 ⟨c2, h⟩
          simp [this]
        · simp [h3, c2]
    generalize nextS ps v f = x1 at *
    generalize nextS ps v s = x2 at *
    generalize decide (v ∈ wy ps f s) = x3 at *
    clear hti
    have hb2 : ((x1 != x2) == (x3 && ((f : Int) != (s : Int)))) = true := by revert hb; cases x3 <;> cases (x1 != x2) <;> cases ((f : Int) != (s : Int)) <;> simp
    refine W.c3 g1 g2 g3 ?_
    exact nx (v + 1) (by omega) (by omega) (AtS.v [] [0, 1, 2, 3])
  have e : v = ps.length := by omega
  subst e
  have hfol := fun v hv => ht.p.tw_fol (v := v) hf hv
  refine W.go ?_
  refine LoopV.on (σ := Nat) rfl (fun v => [(0, intX false ps), (7, treeX true ps (nearOf ps)), (9, .own 2 ps.length), (10, I f), (55, .own 1 (1 + fs.length)), (56, I (1 + fs.length : Nat)), (57, I i), (153, I ps.length), (154, I v)])
    (fun _ => [some (mkB 3 1 (intR (tw ps s))), some (mkB 3 1 (intR ((s0 : Int) :: fs))), some (mkB 3 1 (intR (tw ps f)))]) (fun v => v ≤ ps.length) (fun v => ps.length - v) 0 (AtS.v [] [0, 1, 2]) (Nat.zero_le _) ?_
  intro v hv
  rcases Nat.lt_or_ge v ps.length with hvm | hvm
  · have hi1 := follow1_icon true (hfol v hvm) (by omega)
    have cf := follow_pcon false (tw ps f) v (by omega)
    have cp := refpath_pcon false ps v f ht
    have hpi : pathI ps v f = (wy ps v f).map fun (x : Nat) => (x : Int) := by rw [pathI, pathN_in hvm hf]
    have hwl2 := ht.p.wy_len hvm hf
    have hdl2 := ht.p.dst_lt hvm hf
    have hnl : (natR (wy ps v f)).length = (wy ps v f).length := by simp
    have hfr := nat_fr (wy ps v f)
    have hsn := fun j hj => natR_snoc (wy ps v f) (j := j) hj
    have cm := same_pcon false false ((wy ps v f).map fun (x : Nat) => (x : Int)) (by simp; omega)
    have hw : intR ((wy ps v f).map fun (x : Nat) => (x : Int)) = natR (wy ps v f) := by simp [intR, natR, natIt]
    rw [hpi] at cp
    change PCon _ _ _ _ [mkB 3 1 (intR ((wy ps v f).map fun (x : Nat) => (x : Int)))] at cp
    change PCon _ _ [.ext false 1 (intR ((wy ps v f).map fun (x : Nat) => (x : Int))), .ext false 1 (intR ((wy ps v f).map fun (x : Nat) => (x : Int)))] _ _ at cm
    rw [hw] at cp cm
    have cp := PCon.x cp (by simp) hfr
    generalize wy ps v f = ys at *
    refine W.c1 cf ?_
    refine RangeV.on rfl ys natIt 4 30 [.ref true [intX true (tw ps f)], .ref true [I v]] [(0, intX false ps), (7, treeX true ps (nearOf ps)), (9, .own 2 ps.length), (10, I f), (21, I v), (22, .ptr 3 0 0), (55, .own 1 (1 + fs.length)), (56, I (1 + fs.length : Nat)), (57, I i), (153, I ps.length), (154, I v), (159, .clo 30 [.ref true [intX true (tw ps f)], .ref true [I v]])]
      (fun j : Nat => [some (mkB 3 1 (intR (tw ps s))), some (mkB 3 1 (intR ((s0 : Int) :: fs))), some (mkB 3 1 (intR (tw ps f))), some ⟨26, 1, false, false, [[.own 4 j]]⟩, some (mkB 3 1 (natR (ys.take j)))])
      (fun j s => s = j) 0 hi1 (AtS.v [(3, 1)] [0, 1, 2, 3, 4]) rfl rfl rfl (fun x => ⟨rfl, rfl⟩) (Nat.zero_le _) rfl (fun _ => rfl) ?_ ?_
    · rintro _ hj j rfl
      have hsn := hsn j hj
      have htl : (natR (ys.take j)).length = j := by simp; omega
      unfold natIt at hsn ⊢
      generalize ys[j] = y at *
      refine W.c1 (Fc.mk htl.symm) ?_
      exact nxr (j + 1) rfl (AtS.v [] [0, 1, 2, 3, 6] (by ((repeat' (first | exact trivial | exact rfl | with_reducible assumption | (refine And.intro ?_ ?_) | (refine Exists.intro _ (And.intro rfl ?_)) | (refine Exists.intro _ (Exists.intro _ (And.intro rfl (And.intro rfl ?_)))) | (refine Or.inl ⟨rfl, rfl, ?_⟩) | (refine Or.inl ⟨rfl, ?_⟩; focus (fail_if_success (refine And.intro ?_ ?_))) | (refine Or.inl (?_ : (_ : Nat) = _ ∧ _); refine ⟨?_, ?_⟩; focus (first | (simp only [List.length_map]; done) | (simp only [List.length_map, List.length_append, List.length_cons, List.length_nil]; done))) | exact Or.inl rfl | (refine Or.inr (Or.inr ⟨?_, ?_⟩)) | (refine Or.inr ⟨?_, ?_⟩) | (refine fun h => ?_; first | exact h | exact rfl | (cases h; done)) | (refine om8 ?_; simp only [← List.map_drop, ← List.map_take]; exact rfl) | ((first | refine om1 ?_ | refine om2 ?_ | refine om3 ?_ | refine om4 ?_ | refine om5 ?_ | refine om6 ?_ | refine om7 ?_); first | (simp only [List.length_map]; done) | (simp only [List.length_map]; omega) | omega)))); all_goals exact hsn))
    rintro j rfl
    rw [List.take_length]
    refine W.c2 cp cm ?_
    exact nx (v + 1) (by omega) (by omega) (AtS.v [] [0, 1, 2])
  have e : v = ps.length := by omega
  subst e
  refine W.go ?_
  exact nx (i + 1, f) (by dsimp only; omega) ⟨by dsimp only; omega, hf⟩ (AtS.v [] [2, 1])
end Go.Proofs.Ytonmkggglkicnaa
