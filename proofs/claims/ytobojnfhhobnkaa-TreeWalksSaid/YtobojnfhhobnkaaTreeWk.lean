/- tree: walk, Walk$1 and Walk. -/
import Derived.Test.YtobojnfhhobnkaaTree5
set_option linter.unusedSimpArgs false
set_option maxRecDepth 20000
set_option linter.unusedVariables false
namespace Go.Proofs.Ytobojnfhhobnkaa
open Go Go.Eng Go.RowKit

/-- The nodes from one on, but not back over where it was come from, with their distances (k: more than the way is deep). -/
def wk (ps : List Int) : Nat → Nat → Int → Int → List (Int × Int)
  | 0, _, _, _ => []
  | k + 1, a, b, d => ((a : Int), d) :: ((nearTo ps a ps.length).filter (· != b)).flatMap fun v => wk ps k v.toNat a (d + 1)
/-- Less than k deep. -/
def wok (ps : List Int) : Nat → Nat → Int → Prop
  | 0, _, _ => False
  | k + 1, a, b => ∀ v ∈ nearTo ps a ps.length, v ≠ b → wok ps k v.toNat a
def wkIt (p : Int × Int) : List Sv := [I p.1, I p.2]
theorem wkIt_fr (l : List (Int × Int)) : FrR (l.map wkIt) := FrR_map wkIt (fun p => by simp [wkIt, Sv.Fr.go, Sv.Fr]) l
/-- What has been handed over ahead of the i-th neighbour. -/
def wkd (ps : List Int) (k a : Nat) (b d : Int) (i : Nat) : List (Int × Int) := ((a : Int), d) :: (((nearTo ps a ps.length).take i).filter (· != b)).flatMap fun v => wk ps k v.toNat a (d + 1)
theorem wkd_skip (ps : List Int) (k a : Nat) (b d : Int) {i : Nat} (hi : i < (nearTo ps a ps.length).length) (h : (nearTo ps a ps.length)[i] = b) : wkd ps k a b d (i + 1) = wkd ps k a b d i := by
  unfold wkd
  rw [List.take_succ_eq_append_getElem hi, List.filter_append, h]
  simp
theorem wkd_go (ps : List Int) (k a : Nat) (b d : Int) {i : Nat} (hi : i < (nearTo ps a ps.length).length) (h : (nearTo ps a ps.length)[i] ≠ b) : wkd ps k a b d (i + 1) = wkd ps k a b d i ++ wk ps k ((nearTo ps a ps.length)[i]).toNat a (d + 1) := by
  unfold wkd
  rw [List.take_succ_eq_append_getElem hi, List.filter_append, List.flatMap_append]
  simp [h]
theorem wkd_end (ps : List Int) (k a : Nat) (b d : Int) : wkd ps k a b d (nearTo ps a ps.length).length = wk ps (k + 1) a b d := by
  rw [wk, wkd, List.take_length]
theorem wkd_pre (ps : List Int) (k a : Nat) (b d : Int) (i : Nat) : wkd ps k a b d i <+: wk ps (k + 1) a b d := by
  rw [← wkd_end]
  unfold wkd
  rw [List.take_length]
  obtain ⟨t, ht⟩ := List.take_prefix i (nearTo ps a ps.length)
  refine ⟨(t.filter (· != b)).flatMap fun v => wk ps k v.toNat a (d + 1), ?_⟩
  rw [List.cons_append, ← List.flatMap_append, ← List.filter_append, ht]
theorem near_at {ps : List Int} {a : Nat} {v : Int} (h : v ∈ nearTo ps a ps.length) : ∃ u : Nat, v = u ∧ u < ps.length ∧ isNear ps u a = true := by
  unfold nearTo at h
  simp only [List.mem_map, List.mem_filter, List.mem_range] at h
  obtain ⟨u, ⟨h1, h2⟩, h3⟩ := h
  exact ⟨u, h3.symm, h1, h2⟩
theorem pre_map {l m : List (Int × Int)} (pre : List (List Sv)) (h : l <+: m) : pre ++ l.map wkIt <+: pre ++ m.map wkIt := by
  obtain ⟨t, rfl⟩ := h
  exact ⟨t.map wkIt, by simp⟩
set_option maxHeartbeats 1000000 in
theorem walk_wcon {ps : List Int} (h : Tr1 ps) : ∀ (k a : Nat) (b d : Int), a < ps.length → wok ps k a b → 0 ≤ d → d + k ≤ 1000 → WCon Try.prog 37 (fun y => [treeX true ps (nearOf ps), I a, I b, I d, .val y]) ((wk ps k a b d).map wkIt)
  | 0, _, _, _, _, hk, _, _ => hk.elim
  | k + 1, a, b, d, ha, hk, hd, hdk => by
    refine wcon_of (G := gm) Try.func37 rfl rfl fun l pre hfp => ?_
    have hle := h.le
    have hnl := nearTo_le ps a ps.length
    have hg : nth ((nearOf ps).map fun l => [intX true l]) a = some [intX true (nearTo ps a ps.length)] := by
      rw [near_get (nearOf ps) a rfl (by rw [nearOf_length]; exact ha), h.p.near_list ha]
    have hd0 : wkd ps k a b d 0 = [((a : Int), d)] := by simp [wkd]
    have hp0 := pre_map pre (wkd_pre ps k a b d 0)
    rw [hd0] at hp0
    repeat' (conv => whnf
             first
             | (refine get_id ?_; first | refine Get.mk _ rfl ?_)
             | (refine need_id ?_; first | refine Need.a ?_)
             | (refine eqk_id ?_; first | refine EqK.a ?_)
             | (refine br_id ?_; first | refine Br.t ?_ | refine Br.f ?_ | (refine Br.pos ?_ ?_; focus (with_reducible assumption)) | (refine Br.neg ?_ ?_; focus (with_reducible assumption)) | (refine Br.dpos ?_ ?_; focus (first | with_reducible exact rfl | with_reducible exact Int.le_refl _ | with_reducible assumption)) | (refine Br.dneg ?_ ?_; focus (with_reducible assumption)) | (refine Br.d (fun _ => ?_) (fun _ => ?_)) | refine Br.n ?_ | (refine Br.s (fun _ => ?_) (fun _ => ?_)) | (refine Br.mk (fun _ => ?_) (fun _ => ?_)))
             | (refine regv_id ?_; first | refine RegV.d ?_)
             | refine NilB.mk (fun b hb => ?_)
             | (refine alv_and ?_ ?_; focus (first | rfl | done))
             | refine DrawV.mk [] ?_
             | (refine appc_id ?_; first | refine AppC.growA ?_ | refine AppC.place ?_))
    all_goals (try (conv => whnf))
    refine YieldV.mk pre (pre ++ [[I a, I d]]) rfl (by repeat' (first | exact trivial | refine And.intro ?_ ?_)) (by repeat' (first | exact trivial | refine And.intro ?_ ?_)) rfl rfl hp0 ?_ ?_
    · repeat' (conv => whnf
               first
               | (refine get_id ?_; first | refine Get.mk _ rfl ?_ | refine Get.mk _ (hg) ?_)
               | (refine need_id ?_; first | refine Need.a ?_)
               | (refine eqk_id ?_; first | refine EqK.a ?_)
               | (refine br_id ?_; first | refine Br.t ?_ | refine Br.f ?_ | (refine Br.pos ?_ ?_; focus (with_reducible assumption)) | (refine Br.neg ?_ ?_; focus (with_reducible assumption)) | (refine Br.dpos ?_ ?_; focus (first | with_reducible exact rfl | with_reducible exact Int.le_refl _ | with_reducible assumption)) | (refine Br.dneg ?_ ?_; focus (with_reducible assumption)) | (refine Br.d (fun _ => ?_) (fun _ => ?_) <;> (first | (exfalso; omega; done) | skip)) | refine Br.n ?_ | (refine Br.s (fun _ => ?_) (fun _ => ?_) <;> (first | (exfalso; omega; done) | skip)) | (refine Br.mk (fun _ => ?_) (fun _ => ?_) <;> (first | (exfalso; omega; done) | skip)))
               | (refine regv_id ?_; first | refine RegV.d ?_)
               | refine NilB.mk (fun b hb => ?_)
               | (refine alv_and ?_ ?_; focus (first | rfl | done))
               | refine DrawV.mk [] ?_
               | (refine appc_id ?_; first | refine AppC.growA ?_ | refine AppC.place ?_))
      all_goals (try (conv => whnf))
      refine LoopV.on (σ := Nat) rfl (fun i => [(0, treeX true ps (nearOf ps)), (1, I a), (2, I b), (3, I d), (4, .val (.func (.yield l) #[] #[])), (24, intX true (nearTo ps a ps.length)), (25, I (nearTo ps a ps.length).length), (26, I i)]) (fun i => [some (gB (pre ++ (wkd ps k a b d i).map wkIt))]) (fun i => i ≤ (nearTo ps a ps.length).length) (fun i => (nearTo ps a ps.length).length - i) 0 ?_ (Nat.zero_le _) ?_
      · refine AtS.mk [] [0] rfl (by simp) rfl ?_ ?_
        · rw [hd0]
          exact ⟨⟨_, rfl, VwB.refl⟩, rfl⟩
        · (repeat' (first | exact trivial | exact rfl | with_reducible assumption | (refine And.intro ?_ ?_) | (refine Exists.intro _ (And.intro rfl ?_)) | (refine Exists.intro _ (Exists.intro _ (And.intro rfl (And.intro rfl ?_)))) | (refine Or.inl ⟨rfl, rfl, ?_⟩) | (refine Or.inl ⟨rfl, ?_⟩; focus (fail_if_success (refine And.intro ?_ ?_))) | (refine Or.inl (?_ : (_ : Nat) = _ ∧ _); refine ⟨?_, ?_⟩; focus (first | (simp only [List.length_map]; done) | (simp only [List.length_map, List.length_append, List.length_cons, List.length_nil]; done))) | exact Or.inl rfl | (refine Or.inr (Or.inr ⟨?_, ?_⟩)) | (refine Or.inr ⟨?_, ?_⟩) | (refine fun h => ?_; first | exact h | exact rfl | (cases h; done)) | (refine om8 ?_; simp only [← List.map_drop, ← List.map_take]; exact rfl) | ((first | refine om1 ?_ | refine om2 ?_ | refine om3 ?_ | refine om4 ?_ | refine om5 ?_ | refine om6 ?_ | refine om7 ?_); first | (simp only [List.length_map]; done) | (simp only [List.length_map]; omega) | omega)))
      intro i hi
      rcases Nat.lt_or_ge i (nearTo ps a ps.length).length with him | him
      case inr =>
        have e : i = (nearTo ps a ps.length).length := by omega
        subst e
        rw [wkd_end]
        repeat' (conv => whnf
                 first
                 | (refine get_id ?_; first | refine Get.mk _ rfl ?_)
                 | (refine need_id ?_; first | refine Need.a ?_)
                 | (refine eqk_id ?_; first | refine EqK.a ?_)
                 | (refine br_id ?_; first | refine Br.t ?_ | refine Br.f ?_ | (refine Br.pos ?_ ?_; focus (with_reducible assumption)) | (refine Br.neg ?_ ?_; focus (with_reducible assumption)) | (refine Br.dpos ?_ ?_; focus (first | with_reducible exact rfl | with_reducible exact Int.le_refl _ | with_reducible assumption)) | (refine Br.dneg ?_ ?_; focus (with_reducible assumption)) | (refine Br.d (fun _ => ?_) (fun _ => ?_) <;> (first | (exfalso; omega; done) | skip)) | refine Br.n ?_ | (refine Br.s (fun _ => ?_) (fun _ => ?_) <;> (first | (exfalso; omega; done) | skip)) | (refine Br.mk (fun _ => ?_) (fun _ => ?_) <;> (first | (exfalso; omega; done) | skip)))
                 | (refine regv_id ?_; first | refine RegV.d ?_)
                 | refine NilB.mk (fun b hb => ?_)
                 | (refine alv_and ?_ ?_; focus (first | rfl | done))
                 | refine DrawV.mk [] ?_
                 | (refine appc_id ?_; first | refine AppC.growA ?_ | refine AppC.place ?_))
        all_goals (try (conv => whnf))
        exact RetM.mk [] [0] (.val (.bool true)) [some (gB (pre ++ (wk ps (k + 1) a b d).map wkIt))] (by simp) rfl ⟨⟨_, rfl, VwB.refl⟩, rfl⟩ rfl trivial ⟨FrR_append hfp (wkIt_fr _), trivial⟩ (.inl ⟨rfl, rfl⟩)
      have hg2 := int_get (nearTo ps a ps.length) i (Int.toNat_natCast i) him
      rw [show (nearTo ps a ps.length).getD i 0 = (nearTo ps a ps.length)[i] by simp [him]] at hg2
      obtain ⟨u, hu1, hu2, hu3⟩ := near_at (List.getElem_mem him)
      by_cases hub : (nearTo ps a ps.length)[i] = b
      · have hs := wkd_skip ps k a b d him hub
        rw [hub] at hg2
        repeat' (conv => whnf
                 first
                 | (refine get_id ?_; first | refine Get.mk _ rfl ?_ | refine Get.mk _ (hg2) ?_)
                 | (refine need_id ?_; first | refine Need.a ?_)
                 | (refine eqk_id ?_; first | refine EqK.a ?_)
                 | (refine br_id ?_; first | refine Br.t ?_ | refine Br.f ?_ | (refine Br.pos ?_ ?_; focus (with_reducible assumption)) | (refine Br.neg ?_ ?_; focus (with_reducible assumption)) | (refine Br.dpos ?_ ?_; focus (first | with_reducible exact rfl | with_reducible exact Int.le_refl _ | with_reducible assumption)) | (refine Br.dneg ?_ ?_; focus (with_reducible assumption)) | (refine Br.d (fun _ => ?_) (fun _ => ?_) <;> (first | (exfalso; omega; done) | skip)) | refine Br.n ?_ | (refine Br.s (fun _ => ?_) (fun _ => ?_) <;> (first | (exfalso; omega; done) | skip)) | (refine Br.mk (fun _ => ?_) (fun _ => ?_) <;> (first | (exfalso; omega; done) | skip)))
                 | (refine regv_id ?_; first | refine RegV.d (id := 6) ?_ | refine RegV.d ?_)
                 | refine NilB.mk (fun b hb => ?_)
                 | (refine alv_and ?_ ?_; focus (first | rfl | done))
                 | refine DrawV.mk [] ?_
                 | (refine appc_id ?_; first | refine AppC.growA ?_ | refine AppC.place ?_))
        all_goals (try (conv => whnf))
        refine nx (i + 1) (by omega) (by omega) (AtS.mk [] [0] rfl (by simp) rfl ?_ ?_)
        · rw [hs]
          exact ⟨⟨_, rfl, VwB.refl⟩, rfl⟩
        · (repeat' (first | exact trivial | exact rfl | with_reducible assumption | (refine And.intro ?_ ?_) | (refine Exists.intro _ (And.intro rfl ?_)) | (refine Exists.intro _ (Exists.intro _ (And.intro rfl (And.intro rfl ?_)))) | (refine Or.inl ⟨rfl, rfl, ?_⟩) | (refine Or.inl ⟨rfl, ?_⟩; focus (fail_if_success (refine And.intro ?_ ?_))) | (refine Or.inl (?_ : (_ : Nat) = _ ∧ _); refine ⟨?_, ?_⟩; focus (first | (simp only [List.length_map]; done) | (simp only [List.length_map, List.length_append, List.length_cons, List.length_nil]; done))) | exact Or.inl rfl | (refine Or.inr (Or.inr ⟨?_, ?_⟩)) | (refine Or.inr ⟨?_, ?_⟩) | (refine fun h => ?_; first | exact h | exact rfl | (cases h; done)) | (refine om8 ?_; simp only [← List.map_drop, ← List.map_take]; exact rfl) | ((first | refine om1 ?_ | refine om2 ?_ | refine om3 ?_ | refine om4 ?_ | refine om5 ?_ | refine om6 ?_ | refine om7 ?_); first | (simp only [List.length_map]; done) | (simp only [List.length_map]; omega) | omega)))
      · have hs := wkd_go ps k a b d him hub
        have hk2 := hk _ (List.getElem_mem him) hub
        have hc := pre_map pre (wkd_pre ps k a b d (i + 1))
        rw [hu1] at hg2 hub hs hk2
        rw [Int.toNat_natCast] at hs hk2
        rw [hs, List.map_append, ← List.append_assoc] at hc
        have cw := walk_wcon h k u a (d + 1) hu2 hk2 (by omega) (by omega)
        have hne : (wk ps k u a (d + 1)).map wkIt ≠ [] := by
          cases k with
          | zero => exact hk2.elim
          | succ k => simp [wk]
        repeat' (conv => whnf
                 first
                 | (refine get_id ?_; first | refine Get.mk _ rfl ?_ | refine Get.mk _ (hg2) ?_)
                 | (refine need_id ?_; first | refine Need.a ?_)
                 | (refine eqk_id ?_; first | refine EqK.a ?_)
                 | (refine br_id ?_; first | refine Br.t ?_ | refine Br.f ?_ | (refine Br.pos ?_ ?_; focus (with_reducible assumption)) | (refine Br.neg ?_ ?_; focus (with_reducible assumption)) | (refine Br.dpos ?_ ?_; focus (first | with_reducible exact rfl | with_reducible exact Int.le_refl _ | with_reducible assumption)) | (refine Br.dneg ?_ ?_; focus (with_reducible assumption)) | (refine Br.d (fun _ => ?_) (fun _ => ?_) <;> (first | (exfalso; omega; done) | skip)) | refine Br.n ?_ | (refine Br.s (fun _ => ?_) (fun _ => ?_) <;> (first | (exfalso; omega; done) | skip)) | (refine Br.mk (fun _ => ?_) (fun _ => ?_) <;> (first | (exfalso; omega; done) | skip)))
                 | (refine regv_id ?_; first | refine RegV.d (id := 6) ?_ | refine RegV.d ?_)
                 | refine NilB.mk (fun b hb => ?_)
                 | (refine alv_and ?_ ?_; focus (first | rfl | done))
                 | refine DrawV.mk [] ?_
                 | (refine appc_id ?_; first | refine AppC.growA ?_ | refine AppC.place ?_))
        all_goals (try (conv => whnf))
        refine CallL.lend (pre ++ (wkd ps k a b d i).map wkIt) ((wk ps k u a (d + 1)).map wkIt) (fun y => [treeX true ps (nearOf ps), I u, I a, I (d + 1), .val y]) rfl (by repeat' (first | exact trivial | refine And.intro ?_ ?_)) rfl ?_ rfl hne (FrR_append hfp (wkIt_fr _)) hc cw ?_ (fun q hq => ?_)
        · repeat' (first | exact trivial | exact rfl | exact int_fr ps | exact lists_fr (nearOf ps) | refine And.intro ?_ ?_)
        · repeat' (conv => whnf
                   first
                   | (refine get_id ?_; first | refine Get.mk _ rfl ?_)
                   | (refine need_id ?_; first | refine Need.a ?_)
                   | (refine eqk_id ?_; first | refine EqK.a ?_)
                   | (refine br_id ?_; first | refine Br.t ?_ | refine Br.f ?_ | (refine Br.pos ?_ ?_; focus (with_reducible assumption)) | (refine Br.neg ?_ ?_; focus (with_reducible assumption)) | (refine Br.dpos ?_ ?_; focus (first | with_reducible exact rfl | with_reducible exact Int.le_refl _ | with_reducible assumption)) | (refine Br.dneg ?_ ?_; focus (with_reducible assumption)) | (refine Br.d (fun _ => ?_) (fun _ => ?_)) | refine Br.n ?_ | (refine Br.s (fun _ => ?_) (fun _ => ?_)) | (refine Br.mk (fun _ => ?_) (fun _ => ?_)))
                   | (refine regv_id ?_; first | refine RegV.d ?_)
                   | refine NilB.mk (fun b hb => ?_)
                   | (refine alv_and ?_ ?_; focus (first | rfl | done))
                   | refine DrawV.mk [] ?_
                   | (refine appc_id ?_; first | refine AppC.growA ?_ | refine AppC.place ?_))
          all_goals (try (conv => whnf))
          refine nx (i + 1) (by omega) (by omega) (AtS.mk [] [0] rfl (by simp) rfl ?_ ?_)
          · rw [hs, List.map_append, ← List.append_assoc]
            exact ⟨⟨_, rfl, VwB.refl⟩, rfl⟩
          · (repeat' (first | exact trivial | exact rfl | with_reducible assumption | (refine And.intro ?_ ?_) | (refine Exists.intro _ (And.intro rfl ?_)) | (refine Exists.intro _ (Exists.intro _ (And.intro rfl (And.intro rfl ?_)))) | (refine Or.inl ⟨rfl, rfl, ?_⟩) | (refine Or.inl ⟨rfl, ?_⟩; focus (fail_if_success (refine And.intro ?_ ?_))) | (refine Or.inl (?_ : (_ : Nat) = _ ∧ _); refine ⟨?_, ?_⟩; focus (first | (simp only [List.length_map]; done) | (simp only [List.length_map, List.length_append, List.length_cons, List.length_nil]; done))) | exact Or.inl rfl | (refine Or.inr (Or.inr ⟨?_, ?_⟩)) | (refine Or.inr ⟨?_, ?_⟩) | (refine fun h => ?_; first | exact h | exact rfl | (cases h; done)) | (refine om8 ?_; simp only [← List.map_drop, ← List.map_take]; exact rfl) | ((first | refine om1 ?_ | refine om2 ?_ | refine om3 ?_ | refine om4 ?_ | refine om5 ?_ | refine om6 ?_ | refine om7 ?_); first | (simp only [List.length_map]; done) | (simp only [List.length_map]; omega) | omega)))
        · repeat' (conv => whnf
                   first
                   | (refine get_id ?_; first | refine Get.mk _ rfl ?_)
                   | (refine need_id ?_; first | refine Need.a ?_)
                   | (refine eqk_id ?_; first | refine EqK.a ?_)
                   | (refine br_id ?_; first | refine Br.t ?_ | refine Br.f ?_ | (refine Br.pos ?_ ?_; focus (with_reducible assumption)) | (refine Br.neg ?_ ?_; focus (with_reducible assumption)) | (refine Br.dpos ?_ ?_; focus (first | with_reducible exact rfl | with_reducible exact Int.le_refl _ | with_reducible assumption)) | (refine Br.dneg ?_ ?_; focus (with_reducible assumption)) | (refine Br.d (fun _ => ?_) (fun _ => ?_)) | refine Br.n ?_ | (refine Br.s (fun _ => ?_) (fun _ => ?_)) | (refine Br.mk (fun _ => ?_) (fun _ => ?_)))
                   | (refine regv_id ?_; first | refine RegV.d ?_)
                   | refine NilB.mk (fun b hb => ?_)
                   | (refine alv_and ?_ ?_; focus (first | rfl | done))
                   | refine DrawV.mk [] ?_
                   | (refine appc_id ?_; first | refine AppC.growA ?_ | refine AppC.place ?_))
          all_goals (try (conv => whnf))
          exact RetM.mk [] [0] (.val (.bool false)) [some (gS q)] (by simp) rfl ⟨⟨_, rfl, VwB.refl⟩, rfl⟩ rfl trivial ⟨hq, trivial⟩ (.inr ⟨q, hq, rfl, rfl⟩)
    · repeat' (conv => whnf
               first
               | (refine get_id ?_; first | refine Get.mk _ rfl ?_)
               | (refine need_id ?_; first | refine Need.a ?_)
               | (refine eqk_id ?_; first | refine EqK.a ?_)
               | (refine br_id ?_; first | refine Br.t ?_ | refine Br.f ?_ | (refine Br.pos ?_ ?_; focus (with_reducible assumption)) | (refine Br.neg ?_ ?_; focus (with_reducible assumption)) | (refine Br.dpos ?_ ?_; focus (first | with_reducible exact rfl | with_reducible exact Int.le_refl _ | with_reducible assumption)) | (refine Br.dneg ?_ ?_; focus (with_reducible assumption)) | (refine Br.d (fun _ => ?_) (fun _ => ?_)) | refine Br.n ?_ | (refine Br.s (fun _ => ?_) (fun _ => ?_)) | (refine Br.mk (fun _ => ?_) (fun _ => ?_)))
               | (refine regv_id ?_; first | refine RegV.d ?_)
               | refine NilB.mk (fun b hb => ?_)
               | (refine alv_and ?_ ?_; focus (first | rfl | done))
               | refine DrawV.mk [] ?_
               | (refine appc_id ?_; first | refine AppC.growA ?_ | refine AppC.place ?_))
      all_goals (try (conv => whnf))
      have hq : FrR (pre ++ [[I a, I d]]) := FrR_append hfp (wkIt_fr [((a : Int), d)])
      exact RetM.mk [] [0] (.val (.bool false)) [some (gS (pre ++ [[I a, I d]]))] (by simp) rfl ⟨⟨_, rfl, VwB.refl⟩, rfl⟩ rfl trivial ⟨hq, trivial⟩ (.inr ⟨_, hq, rfl, rfl⟩)
theorem TrP.wok {ps : List Int} (h : TrP ps) {r : Nat} (hr : r < ps.length) : ∀ (k v : Nat) (b : Int), v < ps.length → ps.length ≤ k + dst ps v r → (v = r ∧ b = -1 ∨ v ≠ r ∧ b = (nxt ps v r : Nat)) → wok ps k v b
  | 0, v, b, hv, hk, _ => by have := h.dst_lt hv hr; omega
  | k + 1, v, b, hv, hk, hb => by
    intro x hx hxb
    obtain ⟨u, rfl, hu, hn⟩ := near_at hx
    rw [Int.toNat_natCast]
    rcases h.near_dst hv hu hr (near_sym hn) with ⟨h1, h2⟩ | ⟨h1, h2⟩
    · exfalso
      rcases hb with ⟨e, _⟩ | ⟨_, e⟩
      · rw [e, h.dst_self hr] at h1; omega
      · exact hxb (by rw [e, h2])
    · exact TrP.wok h hr k u v hu (by omega) (.inr ⟨fun e => by rw [e, h.dst_self hr] at h1; omega, by rw [h2]⟩)
/-- The walk from a number on; none where it is no node. -/
def walkL (ps : List Int) (a : Int) : List (Int × Int) := if hasB ps a = true then wk ps ps.length a.toNat (-1) 0 else []
def walkCaps (f : Bool) (ps : List Int) (L : List (List Int)) (a : Int) : List Sv := [.ref f [treeX true ps L], .ref f [I a]]
theorem walkC_pcon (ps : List Int) (L : List (List Int)) (a : Int) : PCon Try.prog 26 [treeX true ps L, I a] (.clo 36 (walkCaps true ps L a)) [] := by
  refine pcon_of (G := gm) Try.func26 rfl rfl rfl ?_
  repeat' (conv => whnf
           first
           | (refine get_id ?_; first | refine Get.mk _ rfl ?_)
           | (refine need_id ?_; first | refine Need.a ?_)
           | (refine eqk_id ?_; first | refine EqK.a ?_)
           | (refine br_id ?_; first | refine Br.t ?_ | refine Br.f ?_ | (refine Br.pos ?_ ?_; focus (with_reducible assumption)) | (refine Br.neg ?_ ?_; focus (with_reducible assumption)) | (refine Br.dpos ?_ ?_; focus (first | with_reducible exact rfl | with_reducible exact Int.le_refl _ | with_reducible assumption)) | (refine Br.dneg ?_ ?_; focus (with_reducible assumption)) | (refine Br.d (fun _ => ?_) (fun _ => ?_)) | refine Br.n ?_ | (refine Br.s (fun _ => ?_) (fun _ => ?_)) | (refine Br.mk (fun _ => ?_) (fun _ => ?_)))
           | (refine regv_id ?_; first | refine RegV.d ?_)
           | refine NilB.mk (fun b hb => ?_)
           | (refine alv_and ?_ ?_; focus (first | rfl | done))
           | refine DrawV.mk [] ?_
           | (refine appc_id ?_; first | refine AppC.growA ?_ | refine AppC.place ?_))
  all_goals (try (conv => whnf))
  exact RetP.go [] [] (by simp) rfl (by unfold walkCaps; (repeat' (first | exact trivial | exact rfl | with_reducible assumption | (refine And.intro ?_ ?_) | (refine Exists.intro _ (And.intro rfl ?_)) | (refine Exists.intro _ (Exists.intro _ (And.intro rfl (And.intro rfl ?_)))) | (refine Or.inl ⟨rfl, rfl, ?_⟩) | (refine Or.inl ⟨rfl, ?_⟩; focus (fail_if_success (refine And.intro ?_ ?_))) | (refine Or.inl (?_ : (_ : Nat) = _ ∧ _); refine ⟨?_, ?_⟩; focus (first | (simp only [List.length_map]; done) | (simp only [List.length_map, List.length_append, List.length_cons, List.length_nil]; done))) | exact Or.inl rfl | (refine Or.inr (Or.inr ⟨?_, ?_⟩)) | (refine Or.inr ⟨?_, ?_⟩) | (refine fun h => ?_; first | exact h | exact rfl | (cases h; done)) | (refine om8 ?_; simp only [← List.map_drop, ← List.map_take]; exact rfl) | ((first | refine om1 ?_ | refine om2 ?_ | refine om3 ?_ | refine om4 ?_ | refine om5 ?_ | refine om6 ?_ | refine om7 ?_); first | (simp only [List.length_map]; done) | (simp only [List.length_map]; omega) | omega)))) (by unfold walkCaps; repeat' (first | exact trivial | exact rfl | exact int_fr ps | exact lists_fr L | refine And.intro ?_ ?_)) trivial
theorem walk1_icon {ps : List Int} (h : Tr1 ps) (f : Bool) (a : Int) : ICon Try.prog 36 (fun y => .val y :: walkCaps f ps (nearOf ps) a) ((walkL ps a).map wkIt) := by
  refine icon_of (G := gm) Try.func36 rfl rfl fun l => ?_
  have hle := h.le
  have hpos := h.pos
  unfold walkCaps walkL
  have c1 := has_pcon true ps (nearOf ps) a
  by_cases ha : hasB ps a = true
  · rw [ha] at c1
    rw [if_pos ha]
    have e := hasB_iff.1 ha
    obtain ⟨r, rfl⟩ : ∃ r : Nat, a = r := ⟨a.toNat, by omega⟩
    rw [Int.toNat_natCast]
    have hk := h.p.wok (r := r) (by omega) ps.length r (-1) (by omega) (by omega) (.inl ⟨rfl, rfl⟩)
    have cw := walk_wcon h ps.length r (-1) 0 (by omega) hk (by omega) (by omega)
    have hne : (wk ps ps.length r (-1) 0).map wkIt ≠ [] := by
      obtain ⟨n, hn⟩ : ∃ n, ps.length = n + 1 := ⟨ps.length - 1, by omega⟩
      rw [hn]
      simp [wk]
    repeat' (conv => whnf
             first
             | (refine get_id ?_; first | refine Get.mk _ rfl ?_)
             | (refine need_id ?_; first | refine Need.a ?_)
             | (refine eqk_id ?_; first | refine EqK.a ?_)
             | (refine br_id ?_; first | refine Br.t ?_ | refine Br.f ?_ | (refine Br.pos ?_ ?_; focus (with_reducible assumption)) | (refine Br.neg ?_ ?_; focus (with_reducible assumption)) | (refine Br.dpos ?_ ?_; focus (first | with_reducible exact rfl | with_reducible exact Int.le_refl _ | with_reducible assumption)) | (refine Br.dneg ?_ ?_; focus (with_reducible assumption)) | (refine Br.d (fun _ => ?_) (fun _ => ?_)) | refine Br.n ?_ | (refine Br.s (fun _ => ?_) (fun _ => ?_)) | (refine Br.mk (fun _ => ?_) (fun _ => ?_)))
             | (refine regv_id ?_; first | refine RegV.d ?_)
             | refine NilB.mk (fun b hb => ?_)
             | (refine alv_and ?_ ?_; focus (first | rfl | done))
             | refine DrawV.mk [] ?_
             | (refine appc_id ?_; first | refine AppC.growA ?_ | refine AppC.place ?_)
             | (refine call_id ?_; first
                  | refine CallV.c (c1) ?_
                  | refine CallV.e (c1) ?_)
             | (refine calls_id ?_; first
                  | refine CallS.c (c1) ?_
                  | refine CallS.e (c1) ?_))
    all_goals (try (conv => whnf))
    refine CallL.lend [] ((wk ps ps.length r (-1) 0).map wkIt) (fun y => [treeX true ps (nearOf ps), I r, I (-1), I 0, .val y]) rfl (by repeat' (first | exact trivial | refine And.intro ?_ ?_)) rfl (by repeat' (first | exact trivial | exact rfl | exact int_fr ps | exact lists_fr (nearOf ps) | refine And.intro ?_ ?_)) rfl hne trivial (List.prefix_refl _) cw ?_ (fun q hq => ?_)
    · repeat' (conv => whnf
               first
               | (refine get_id ?_; first | refine Get.mk _ rfl ?_)
               | (refine need_id ?_; first | refine Need.a ?_)
               | (refine eqk_id ?_; first | refine EqK.a ?_)
               | (refine br_id ?_; first | refine Br.t ?_ | refine Br.f ?_ | (refine Br.pos ?_ ?_; focus (with_reducible assumption)) | (refine Br.neg ?_ ?_; focus (with_reducible assumption)) | (refine Br.dpos ?_ ?_; focus (first | with_reducible exact rfl | with_reducible exact Int.le_refl _ | with_reducible assumption)) | (refine Br.dneg ?_ ?_; focus (with_reducible assumption)) | (refine Br.d (fun _ => ?_) (fun _ => ?_)) | refine Br.n ?_ | (refine Br.s (fun _ => ?_) (fun _ => ?_)) | (refine Br.mk (fun _ => ?_) (fun _ => ?_)))
               | (refine regv_id ?_; first | refine RegV.d ?_)
               | refine NilB.mk (fun b hb => ?_)
               | (refine alv_and ?_ ?_; focus (first | rfl | done))
               | refine DrawV.mk [] ?_
               | (refine appc_id ?_; first | refine AppC.growA ?_ | refine AppC.place ?_))
      all_goals (try (conv => whnf))
      exact RetI.all rfl rfl (wkIt_fr _)
    · repeat' (conv => whnf
               first
               | (refine get_id ?_; first | refine Get.mk _ rfl ?_)
               | (refine need_id ?_; first | refine Need.a ?_)
               | (refine eqk_id ?_; first | refine EqK.a ?_)
               | (refine br_id ?_; first | refine Br.t ?_ | refine Br.f ?_ | (refine Br.pos ?_ ?_; focus (with_reducible assumption)) | (refine Br.neg ?_ ?_; focus (with_reducible assumption)) | (refine Br.dpos ?_ ?_; focus (first | with_reducible exact rfl | with_reducible exact Int.le_refl _ | with_reducible assumption)) | (refine Br.dneg ?_ ?_; focus (with_reducible assumption)) | (refine Br.d (fun _ => ?_) (fun _ => ?_)) | refine Br.n ?_ | (refine Br.s (fun _ => ?_) (fun _ => ?_)) | (refine Br.mk (fun _ => ?_) (fun _ => ?_)))
               | (refine regv_id ?_; first | refine RegV.d ?_)
               | refine NilB.mk (fun b hb => ?_)
               | (refine alv_and ?_ ?_; focus (first | rfl | done))
               | refine DrawV.mk [] ?_
               | (refine appc_id ?_; first | refine AppC.growA ?_ | refine AppC.place ?_))
      all_goals (try (conv => whnf))
      exact RetI.stop rfl hq
  · rw [show hasB ps a = false by simpa using ha] at c1
    rw [if_neg ha]
    repeat' (conv => whnf
             first
             | (refine get_id ?_; first | refine Get.mk _ rfl ?_)
             | (refine need_id ?_; first | refine Need.a ?_)
             | (refine eqk_id ?_; first | refine EqK.a ?_)
             | (refine br_id ?_; first | refine Br.t ?_ | refine Br.f ?_ | (refine Br.pos ?_ ?_; focus (with_reducible assumption)) | (refine Br.neg ?_ ?_; focus (with_reducible assumption)) | (refine Br.dpos ?_ ?_; focus (first | with_reducible exact rfl | with_reducible exact Int.le_refl _ | with_reducible assumption)) | (refine Br.dneg ?_ ?_; focus (with_reducible assumption)) | (refine Br.d (fun _ => ?_) (fun _ => ?_)) | refine Br.n ?_ | (refine Br.s (fun _ => ?_) (fun _ => ?_)) | (refine Br.mk (fun _ => ?_) (fun _ => ?_)))
             | (refine regv_id ?_; first | refine RegV.d ?_)
             | refine NilB.mk (fun b hb => ?_)
             | (refine alv_and ?_ ?_; focus (first | rfl | done))
             | refine DrawV.mk [] ?_
             | (refine appc_id ?_; first | refine AppC.growA ?_ | refine AppC.place ?_)
             | (refine call_id ?_; first
                  | refine CallV.c (c1) ?_
                  | refine CallV.e (c1) ?_)
             | (refine calls_id ?_; first
                  | refine CallS.c (c1) ?_
                  | refine CallS.e (c1) ?_))
    all_goals (try (conv => whnf))
    exact RetI.all rfl rfl trivial
end Go.Proofs.Ytobojnfhhobnkaa
