/- The law TreeWalks: the reference's Walk, and the list of the edges. -/
import Derived.Test.YtobojnfhhobnkaaTreeCo
import Derived.Test.YtobojnfhhobnkaaRdTree
set_option linter.unusedSimpArgs false
set_option maxRecDepth 20000
set_option linter.unusedVariables false
namespace Go.Proofs.Ytobojnfhhobnkaa
open Go Go.Eng Go.RowKit

theorem TrP.wk_len {ps : List Int} (h : TrP ps) {r : Nat} (hr : r < ps.length) {k a : Nat} {b d : Int} (ha : a < ps.length) (hb : a = r ∧ b = -1 ∨ a ≠ r ∧ b = (nxt ps a r : Nat)) (hd : d = dst ps a r) : (wk ps k a b d).length ≤ ps.length := by
  have hmem := h.wk_mem hr k a b d ha hb hd
  have hg : ∃ S, Grow ps r S ((wk ps k a b d).map fun p => p.1.toNat) := by
    by_cases e : a = r
    · exact ⟨[], h.wk_grow hr k a b d [] ha hb hd (fun _ _ _ => by simp) (.inl e)⟩
    · refine ⟨[nxt ps a r], h.wk_grow hr k a b d _ ha hb hd (fun x hx hm => ?_) (.inr (by simp))⟩
      simp only [List.mem_singleton]
      rintro rfl
      have h1 := (h.mem_iff hx hr ha).1 hm
      have h2 := h.dst_nxt ha hr e
      omega
  obtain ⟨S, hS⟩ := hg
  have hn := (grow_nodup hS).1
  have := len_sub _ (List.range ps.length) hn (fun x hx => by
    simp only [List.mem_map] at hx
    obtain ⟨p, hp, rfl⟩ := hx
    obtain ⟨x, rfl, hx, _⟩ := hmem p hp
    simpa using hx)
  simpa using this
abbrev arrB (rows : List (List Sv)) : Blk := mkB 52 2 rows
set_option maxHeartbeats 1000000 in
theorem refwalk_pcon (f : Bool) {ps : List Int} (h : Tr1 ps) {r : Nat} (hr : r < ps.length) : ∀ (k a : Nat) (b d : Int), a < ps.length → wok ps k a b → (a = r ∧ b = -1 ∨ a ≠ r ∧ b = (nxt ps a r : Nat)) → d = dst ps a r → PCon Try.prog 28 [intX f ps, I a, I b, I d] (.own 0 (wk ps k a b d).length) [arrB ((wk ps k a b d).map wkIt)]
  | 0, _, _, _, _, hk, _, _ => hk.elim
  | k + 1, a, b, d, ha, hk, hb, hd => by
    refine pcon_of (G := gm) Try.func28 rfl rfl rfl ?_
    have hle := h.le
    have hnl := nearTo_le ps a ps.length
    have cn := refneigh_pcon f ps a (by omega) (hasB_iff.2 (by omega))
    rw [Int.toNat_natCast] at cn
    have hd0 : wkd ps k a b d 0 = [((a : Int), d)] := by simp [wkd]
    have hwl := h.p.wk_len hr (k := k + 1) ha hb hd
    have hdl := h.p.dst_lt ha hr
    have hnx : ∀ v ∈ nearTo ps a ps.length, v ≠ b → ∃ u : Nat, v = u ∧ u < ps.length ∧ isNear ps u a = true ∧ u ≠ r ∧ nxt ps u r = a ∧ dst ps u r = dst ps a r + 1 := fun v h1 h2 => h.p.wk_next hr ha hb h1 h2
    rw [← wkd_end] at hwl ⊢
    have hpl : ∀ i, (wkd ps k a b d i).length ≤ ps.length := fun i => by
      have := (wkd_pre ps k a b d i).length_le
      rw [← wkd_end] at this
      omega
    repeat' (conv => whnf
             first
             | (refine get_id ?_; first | refine Get.mk _ rfl ?_)
             | (refine need_id ?_; first | refine Need.a ?_)
             | (refine eqk_id ?_; first | refine EqK.a ?_)
             | (refine br_id ?_; first | refine Br.t ?_ | refine Br.f ?_ | (refine Br.pos ?_ ?_; focus (with_reducible assumption)) | (refine Br.neg ?_ ?_; focus (with_reducible assumption)) | (refine Br.dpos ?_ ?_; focus (first | with_reducible exact rfl | with_reducible exact Int.le_refl _ | with_reducible assumption)) | (refine Br.dneg ?_ ?_; focus (with_reducible assumption)) | (refine Br.d (fun _ => ?_) (fun _ => ?_) <;> (first | (exfalso; omega; done) | skip)) | refine Br.n ?_ | (refine Br.s (fun _ => ?_) (fun _ => ?_) <;> (first | (exfalso; omega; done) | skip)) | (refine Br.mk (fun _ => ?_) (fun _ => ?_) <;> (first | (exfalso; omega; done) | skip)))
             | (refine regv_id ?_; first | refine RegV.qg ?_ | refine RegV.d ?_)
             | (refine gds_id ?_; apply GdS.mk)
             | (refine and_id ?_; exact ⟨rfl, rfl, rfl⟩)
             | (refine imp_id ?_; first | refine imp_s (fun _ => ?_) | refine fun _ => ?_)
             | refine NilB.mk (fun b hb => ?_)
             | (refine alv_and ?_ ?_; focus (first | rfl | done))
             | refine DrawV.mk [] ?_
             | (refine appc_id ?_; first | refine AppC.growA ?_ | refine AppC.place ?_)
             | (refine call_id ?_; first
                  | refine CallV.c (cn) ?_
                  | refine CallV.e (cn) ?_)
             | (refine calls_id ?_; first
                  | refine CallS.c (cn) ?_
                  | refine CallS.e (cn) ?_))
    all_goals (try (conv => whnf))
    refine LoopV.on (σ := Nat) rfl (fun i => [(0, intX f ps), (1, I a), (2, I b), (3, I d), (9, .own 0 (wkd ps k a b d i).length), (18, .own 1 (nearTo ps a ps.length).length), (19, I (nearTo ps a ps.length).length), (20, I i)]) (fun i => [some (arrB ((wkd ps k a b d i).map wkIt)), some (intB (nearTo ps a ps.length))]) (fun i => i ≤ (nearTo ps a ps.length).length) (fun i => (nearTo ps a ps.length).length - i) 0 ?_ (Nat.zero_le _) ?_
    · refine AtS.mk [] [0, 1] rfl (by simp) rfl ?_ ?_
      · rw [hd0]
        (repeat' (first | exact trivial | exact rfl | with_reducible assumption | (refine And.intro ?_ ?_) | (refine Exists.intro _ (And.intro rfl ?_)) | (refine Exists.intro _ (Exists.intro _ (And.intro rfl (And.intro rfl ?_)))) | (refine Or.inl ⟨rfl, rfl, ?_⟩) | (refine Or.inl ⟨rfl, ?_⟩; focus (fail_if_success (refine And.intro ?_ ?_))) | (refine Or.inl (?_ : (_ : Nat) = _ ∧ _); refine ⟨?_, ?_⟩; focus (first | (simp only [List.length_map]; done) | (simp only [List.length_map, List.length_append, List.length_cons, List.length_nil]; done))) | exact Or.inl rfl | (refine Or.inr (Or.inr ⟨?_, ?_⟩)) | (refine Or.inr ⟨?_, ?_⟩) | (refine fun h => ?_; first | exact h | exact rfl | (cases h; done)) | (refine om8 ?_; simp only [← List.map_drop, ← List.map_take]; exact rfl) | ((first | refine om1 ?_ | refine om2 ?_ | refine om3 ?_ | refine om4 ?_ | refine om5 ?_ | refine om6 ?_ | refine om7 ?_); first | (simp only [List.length_map]; done) | (simp only [List.length_map]; omega) | omega)))
      · rw [hd0]
        (repeat' (first | exact trivial | exact rfl | with_reducible assumption | (refine And.intro ?_ ?_) | (refine Exists.intro _ (And.intro rfl ?_)) | (refine Exists.intro _ (Exists.intro _ (And.intro rfl (And.intro rfl ?_)))) | (refine Or.inl ⟨rfl, rfl, ?_⟩) | (refine Or.inl ⟨rfl, ?_⟩; focus (fail_if_success (refine And.intro ?_ ?_))) | (refine Or.inl (?_ : (_ : Nat) = _ ∧ _); refine ⟨?_, ?_⟩; focus (first | (simp only [List.length_map]; done) | (simp only [List.length_map, List.length_append, List.length_cons, List.length_nil]; done))) | exact Or.inl rfl | (refine Or.inr (Or.inr ⟨?_, ?_⟩)) | (refine Or.inr ⟨?_, ?_⟩) | (refine fun h => ?_; first | exact h | exact rfl | (cases h; done)) | (refine om8 ?_; simp only [← List.map_drop, ← List.map_take]; exact rfl) | ((first | refine om1 ?_ | refine om2 ?_ | refine om3 ?_ | refine om4 ?_ | refine om5 ?_ | refine om6 ?_ | refine om7 ?_); first | (simp only [List.length_map]; done) | (simp only [List.length_map]; omega) | omega)))
    intro i hi
    have hli := hpl i
    have hli1 := hpl (i + 1)
    rcases Nat.lt_or_ge i (nearTo ps a ps.length).length with him | him
    case inr =>
      have e : i = (nearTo ps a ps.length).length := by omega
      subst e
      repeat' (conv => whnf
               first
               | (refine get_id ?_; first | refine Get.mk _ rfl ?_)
               | (refine need_id ?_; first | refine Need.a ?_)
               | (refine eqk_id ?_; first | refine EqK.a ?_)
               | (refine br_id ?_; first | refine Br.t ?_ | refine Br.f ?_ | (refine Br.pos ?_ ?_; focus (with_reducible assumption)) | (refine Br.neg ?_ ?_; focus (with_reducible assumption)) | (refine Br.dpos ?_ ?_; focus (first | with_reducible exact rfl | with_reducible exact Int.le_refl _ | with_reducible assumption)) | (refine Br.dneg ?_ ?_; focus (with_reducible assumption)) | (refine Br.d (fun _ => ?_) (fun _ => ?_) <;> (first | (exfalso; omega; done) | skip)) | refine Br.n ?_ | (refine Br.s (fun _ => ?_) (fun _ => ?_) <;> (first | (exfalso; omega; done) | skip)) | (refine Br.mk (fun _ => ?_) (fun _ => ?_) <;> (first | (exfalso; omega; done) | skip)))
               | (refine regv_id ?_; first | refine RegV.qg ?_ | refine RegV.d ?_)
               | (refine gds_id ?_; apply GdS.mk)
               | (refine and_id ?_; exact ⟨rfl, rfl, rfl⟩)
               | (refine imp_id ?_; first | refine imp_s (fun _ => ?_) | refine fun _ => ?_)
               | refine NilB.mk (fun b hb => ?_)
               | (refine alv_and ?_ ?_; focus (first | rfl | done))
               | refine DrawV.mk [] ?_
               | (refine appc_id ?_; first | refine AppC.growA ?_ | refine AppC.place ?_))
      all_goals (try (conv => whnf))
      exact RetP.own rfl (wkIt_fr _)
    have hg2 := int_get (nearTo ps a ps.length) i (Int.toNat_natCast i) him
    rw [show (nearTo ps a ps.length).getD i 0 = (nearTo ps a ps.length)[i] by simp [him]] at hg2
    by_cases hub : (nearTo ps a ps.length)[i] = b
    · have hs := wkd_skip ps k a b d him hub
      rw [hub] at hg2
      clear hnx hpl
      repeat' (conv => whnf
               first
               | (refine get_id ?_; first | refine Get.mk _ rfl ?_ | refine Get.mk _ (hg2) ?_)
               | (refine need_id ?_; first | refine Need.a ?_)
               | (refine eqk_id ?_; first | refine EqK.a ?_)
               | (refine br_id ?_; first | refine Br.t ?_ | refine Br.f ?_ | (refine Br.pos ?_ ?_; focus (with_reducible assumption)) | (refine Br.neg ?_ ?_; focus (with_reducible assumption)) | (refine Br.dpos ?_ ?_; focus (first | with_reducible exact rfl | with_reducible exact Int.le_refl _ | with_reducible assumption)) | (refine Br.dneg ?_ ?_; focus (with_reducible assumption)) | (refine Br.d (fun _ => ?_) (fun _ => ?_) <;> (first | (exfalso; omega; done) | skip)) | refine Br.n ?_ | (refine Br.s (fun _ => ?_) (fun _ => ?_) <;> (first | (exfalso; omega; done) | skip)) | (refine Br.mk (fun _ => ?_) (fun _ => ?_) <;> (first | (exfalso; omega; done) | skip)))
               | (refine regv_id ?_; first | refine RegV.qg ?_ | refine RegV.d ?_)
               | (refine gds_id ?_; apply GdS.mk)
               | (refine and_id ?_; exact ⟨rfl, rfl, rfl⟩)
               | (refine imp_id ?_; first | refine imp_s (fun _ => ?_) | refine fun _ => ?_)
               | refine NilB.mk (fun b hb => ?_)
               | (refine alv_and ?_ ?_; focus (first | rfl | done))
               | refine DrawV.mk [] ?_
               | (refine appc_id ?_; first | refine AppC.growA ?_ | refine AppC.place ?_))
      all_goals (try (conv => whnf))
      refine nx (i + 1) (by omega) (by omega) (AtS.mk [] [0, 1] rfl (by simp) rfl ?_ ?_)
      · rw [hs]
        (repeat' (first | exact trivial | exact rfl | with_reducible assumption | (refine And.intro ?_ ?_) | (refine Exists.intro _ (And.intro rfl ?_)) | (refine Exists.intro _ (Exists.intro _ (And.intro rfl (And.intro rfl ?_)))) | (refine Or.inl ⟨rfl, rfl, ?_⟩) | (refine Or.inl ⟨rfl, ?_⟩; focus (fail_if_success (refine And.intro ?_ ?_))) | (refine Or.inl (?_ : (_ : Nat) = _ ∧ _); refine ⟨?_, ?_⟩; focus (first | (simp only [List.length_map]; done) | (simp only [List.length_map, List.length_append, List.length_cons, List.length_nil]; done))) | exact Or.inl rfl | (refine Or.inr (Or.inr ⟨?_, ?_⟩)) | (refine Or.inr ⟨?_, ?_⟩) | (refine fun h => ?_; first | exact h | exact rfl | (cases h; done)) | (refine om8 ?_; simp only [← List.map_drop, ← List.map_take]; exact rfl) | ((first | refine om1 ?_ | refine om2 ?_ | refine om3 ?_ | refine om4 ?_ | refine om5 ?_ | refine om6 ?_ | refine om7 ?_); first | (simp only [List.length_map]; done) | (simp only [List.length_map]; omega) | omega)))
      · rw [hs]
        (repeat' (first | exact trivial | exact rfl | with_reducible assumption | (refine And.intro ?_ ?_) | (refine Exists.intro _ (And.intro rfl ?_)) | (refine Exists.intro _ (Exists.intro _ (And.intro rfl (And.intro rfl ?_)))) | (refine Or.inl ⟨rfl, rfl, ?_⟩) | (refine Or.inl ⟨rfl, ?_⟩; focus (fail_if_success (refine And.intro ?_ ?_))) | (refine Or.inl (?_ : (_ : Nat) = _ ∧ _); refine ⟨?_, ?_⟩; focus (first | (simp only [List.length_map]; done) | (simp only [List.length_map, List.length_append, List.length_cons, List.length_nil]; done))) | exact Or.inl rfl | (refine Or.inr (Or.inr ⟨?_, ?_⟩)) | (refine Or.inr ⟨?_, ?_⟩) | (refine fun h => ?_; first | exact h | exact rfl | (cases h; done)) | (refine om8 ?_; simp only [← List.map_drop, ← List.map_take]; exact rfl) | ((first | refine om1 ?_ | refine om2 ?_ | refine om3 ?_ | refine om4 ?_ | refine om5 ?_ | refine om6 ?_ | refine om7 ?_); first | (simp only [List.length_map]; done) | (simp only [List.length_map]; omega) | omega)))
    · have hs := wkd_go ps k a b d him hub
      obtain ⟨u, hu1, hu2, hu3, hu4, hu5, hu6⟩ := hnx _ (List.getElem_mem him) hub
      have hk2 := hk _ (List.getElem_mem him) hub
      rw [hu1] at hg2 hub hs hk2
      rw [Int.toNat_natCast] at hs hk2
      have cw := refwalk_pcon f h hr k u a (d + 1) hu2 hk2 (.inr ⟨hu4, by rw [hu5]⟩) (by omega)
      rw [hs, List.length_append] at hli1
      clear hnx hpl
      have hml : ((wkd ps k a b d i).map wkIt).length = (wkd ps k a b d i).length := by simp
      generalize wkd ps k a b d i = W at *
      generalize wk ps k u a (d + 1) = W2 at *
      repeat' (conv => whnf
               first
               | (refine get_id ?_; first | refine Get.mk _ rfl ?_ | refine Get.mk _ (hg2) ?_)
               | (refine need_id ?_; first | refine Need.a ?_ | refine Need.mk (by (exact ⟨rfl, rfl, rfl, hml.symm, rfl, rfl⟩)) ?_)
               | (refine eqk_id ?_; first | refine EqK.a ?_)
               | (refine br_id ?_; first | refine Br.t ?_ | refine Br.f ?_ | (refine Br.pos ?_ ?_; focus (with_reducible assumption)) | (refine Br.neg ?_ ?_; focus (with_reducible assumption)) | (refine Br.dpos ?_ ?_; focus (first | with_reducible exact rfl | with_reducible exact Int.le_refl _ | with_reducible assumption)) | (refine Br.dneg ?_ ?_; focus (with_reducible assumption)) | (refine Br.d (fun _ => ?_) (fun _ => ?_) <;> (first | (exfalso; omega; done) | skip)) | refine Br.n ?_ | (refine Br.s (fun _ => ?_) (fun _ => ?_) <;> (first | (exfalso; omega; done) | skip)) | (refine Br.mk (fun _ => ?_) (fun _ => ?_) <;> (first | (exfalso; omega; done) | skip)))
               | (refine regv_id ?_; first | refine RegV.qg ?_ | refine RegV.d ?_)
               | (refine gds_id ?_; apply GdS.mk)
               | (refine and_id ?_; exact ⟨rfl, rfl, rfl⟩)
               | (refine imp_id ?_; first | refine imp_s (fun _ => ?_) | refine fun _ => ?_)
               | refine NilB.mk (fun b hb => ?_)
               | (refine alv_and ?_ ?_; focus (first | rfl | done))
               | refine DrawV.mk [] ?_
               | (refine appc_id ?_; first | refine AppC.growA ?_ | refine AppC.grow (by (exact hml.symm)) ?_ | refine AppC.place ?_)
               | (refine call_id ?_; first
                    | refine CallV.c (cw) ?_
                    | refine CallV.e (cw) ?_)
               | (refine calls_id ?_; first
                    | refine CallS.c (cw) ?_
                    | refine CallS.e (cw) ?_))
      all_goals (try (conv => whnf))
      refine nx (i + 1) (by omega) (by omega) (AtS.mk [] [3, 1] rfl (by simp) rfl ?_ ?_)
      · rw [hs]
        (repeat' (first | exact trivial | exact rfl | with_reducible assumption | (refine And.intro ?_ ?_) | (refine Exists.intro _ (And.intro rfl ?_)) | (refine Exists.intro _ (Exists.intro _ (And.intro rfl (And.intro rfl ?_)))) | (refine Or.inl ⟨rfl, rfl, ?_⟩) | (refine Or.inl ⟨rfl, ?_⟩; focus (fail_if_success (refine And.intro ?_ ?_))) | (refine Or.inl (?_ : (_ : Nat) = _ ∧ _); refine ⟨?_, ?_⟩; focus (first | (simp only [List.length_map]; done) | (simp only [List.length_map, List.length_append, List.length_cons, List.length_nil]; done))) | exact Or.inl rfl | (refine Or.inr (Or.inr ⟨?_, ?_⟩)) | (refine Or.inr ⟨?_, ?_⟩) | (refine fun h => ?_; first | exact h | exact rfl | (cases h; done)) | (refine om8 ?_; simp only [← List.map_drop, ← List.map_take]; exact rfl) | ((first | refine om1 ?_ | refine om2 ?_ | refine om3 ?_ | refine om4 ?_ | refine om5 ?_ | refine om6 ?_ | refine om7 ?_); first | (simp only [List.length_map]; done) | (simp only [List.length_map]; omega) | omega)))
        all_goals simp
      · rw [hs, List.length_append]
        (repeat' (first | exact trivial | exact rfl | with_reducible assumption | (refine And.intro ?_ ?_) | (refine Exists.intro _ (And.intro rfl ?_)) | (refine Exists.intro _ (Exists.intro _ (And.intro rfl (And.intro rfl ?_)))) | (refine Or.inl ⟨rfl, rfl, ?_⟩) | (refine Or.inl ⟨rfl, ?_⟩; focus (fail_if_success (refine And.intro ?_ ?_))) | (refine Or.inl (?_ : (_ : Nat) = _ ∧ _); refine ⟨?_, ?_⟩; focus (first | (simp only [List.length_map]; done) | (simp only [List.length_map, List.length_append, List.length_cons, List.length_nil]; done))) | exact Or.inl rfl | (refine Or.inr (Or.inr ⟨?_, ?_⟩)) | (refine Or.inr ⟨?_, ?_⟩) | (refine fun h => ?_; first | exact h | exact rfl | (cases h; done)) | (refine om8 ?_; simp only [← List.map_drop, ← List.map_take]; exact rfl) | ((first | refine om1 ?_ | refine om2 ?_ | refine om3 ?_ | refine om4 ?_ | refine om5 ?_ | refine om6 ?_ | refine om7 ?_); first | (simp only [List.length_map]; done) | (simp only [List.length_map]; omega) | omega)))
/-! The list of the edges. -/
def rowE (ps : List Int) (a b : Nat) : List (Int × Int) := ((List.range b).filter fun v => decide (a < v) && isNear ps a v).map fun v => ((a : Int), ((v : Nat) : Int))
def eL (ps : List Int) (a : Nat) : List (Int × Int) := (List.range a).flatMap fun u => rowE ps u ps.length
theorem eL_succ (ps : List Int) (a : Nat) : eL ps (a + 1) = eL ps a ++ rowE ps a ps.length := by
  unfold eL
  rw [List.range_succ, List.flatMap_append]
  simp
theorem rowE_zero (ps : List Int) (a : Nat) : rowE ps a (a + 1) = [] := by
  unfold rowE
  rw [List.map_eq_nil_iff, List.filter_eq_nil_iff]
  intro v hv
  simp only [List.mem_range] at hv
  simp; omega
theorem rowE_succ (ps : List Int) {a b : Nat} (h : a < b) : rowE ps a (b + 1) = if isNear ps a b = true then rowE ps a b ++ [((a : Int), (b : Int))] else rowE ps a b := by
  unfold rowE
  rw [List.range_succ, List.filter_append, List.map_append]
  cases hn : isNear ps a b <;> simp [hn, h]
theorem isNear_comm (ps : List Int) (a b : Nat) : isNear ps a b = isNear ps b a := by
  unfold isNear; exact Bool.or_comm _ _
theorem edgeRow_near (ps : List Int) (a n : Nat) : edgeRow a (nearTo ps a n) = rowE ps a n := by
  unfold edgeRow nearTo rowE
  rw [List.filter_map, List.map_map, List.filter_filter]
  have e : (List.range n).filter (fun u => ((fun v : Int => decide ((a : Int) < v)) ∘ fun (u : Nat) => (u : Int)) u && isNear ps u a) = (List.range n).filter fun v => decide (a < v) && isNear ps a v := by
    refine List.filter_congr fun v _ => ?_
    rw [isNear_comm ps v a]
    simp
  rw [e]
  rfl
theorem Tr1.eL_all {ps : List Int} (h : Tr1 ps) : ∀ i, i ≤ ps.length → eL ps i ++ edgeFrom i ((nearOf ps).drop i) = edgeFrom 0 (nearOf ps)
  | 0, _ => by simp [eL]
  | i + 1, hi => by
    rw [← Tr1.eL_all h i (by omega), edgeFrom_at (nearOf ps) (i := i) (by rw [nearOf_length]; omega), h.p.near_list (by omega), edgeRow_near, eL_succ, List.append_assoc]
theorem Tr1.eL_eq {ps : List Int} (h : Tr1 ps) : eL ps ps.length = edgeFrom 0 (nearOf ps) := by
  have := h.eL_all ps.length (Nat.le_refl _)
  rw [List.drop_of_length_le (by rw [nearOf_length]; exact Nat.le_refl _)] at this
  simpa [edgeFrom] using this
theorem eL_le (ps : List Int) {i j : Nat} (h : i ≤ j) : (eL ps i).length ≤ (eL ps j).length := by
  obtain ⟨k, rfl⟩ : ∃ k, j = i + k := ⟨j - i, by omega⟩
  induction k with
  | zero => exact Nat.le_refl _
  | succ k ih =>
    have := ih (by omega)
    rw [show i + (k + 1) = i + k + 1 by omega, eL_succ, List.length_append]
    omega
theorem rowE_le (ps : List Int) (a : Nat) {i j : Nat} (h : i ≤ j) : (rowE ps a i).length ≤ (rowE ps a j).length := by
  obtain ⟨k, rfl⟩ : ∃ k, j = i + k := ⟨j - i, by omega⟩
  induction k with
  | zero => exact Nat.le_refl _
  | succ k ih =>
    have := ih (by omega)
    refine Nat.le_trans this ?_
    unfold rowE
    rw [show i + (k + 1) = i + k + 1 by omega, List.range_succ, List.filter_append, List.map_append, List.length_append]
    omega
theorem Tr1.eL_len {ps : List Int} (h : Tr1 ps) {i j : Nat} (hi : i < ps.length) (hj : j ≤ ps.length) : (eL ps i).length + (rowE ps i j).length ≤ 32 := by
  have h1 := h.edges_len
  rw [← h.eL_eq] at h1
  have h2 := eL_le ps (i := i + 1) (j := ps.length) (by omega)
  rw [eL_succ, List.length_append] at h2
  have h3 := rowE_le ps i hj
  have := h.le
  omega
end Go.Proofs.Ytobojnfhhobnkaa
