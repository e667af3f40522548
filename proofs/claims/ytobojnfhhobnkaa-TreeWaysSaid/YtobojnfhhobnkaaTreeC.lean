/- tree: a tree by content; has, Size, Root, Next, Neighbours; lists of numbers through slices. -/
import Derived.Test.YtobojnfhhobnkaaTreeB
set_option linter.unusedSimpArgs false
set_option maxRecDepth 20000
set_option linter.unusedVariables false
namespace Go.Proofs.Ytobojnfhhobnkaa
open Go Go.Eng Go.RowKit

/-- A tree: its parents, its nodes' neighbours. -/
abbrev treeX (f : Bool) (ps : List Int) (L : List (List Int)) : Sv := .ref f [intX true ps, .ext true 1 (L.map fun l => [intX true l])]
abbrev treeN : Sv := .val (.pointer none)
def hasB (ps : List Int) (v : Int) : Bool := decide (0 ≤ v) && decide (v < ps.length)
theorem has_pcon (f : Bool) (ps : List Int) (L : List (List Int)) (v : Int) : PCon Try.prog 32 [treeX f ps L, I v] (Bo (hasB ps v)) [] := by
  refine pcon_of (G := gm) Try.func32 rfl rfl rfl ?_
  repeat' (conv => whnf
           first
           | (refine get_id ?_; first | refine Get.mk _ rfl ?_)
           | (refine need_id ?_; first | refine Need.a ?_)
           | (refine eqk_id ?_; first | refine EqK.a ?_)
           | (refine br_id ?_; first | refine Br.t ?_ | refine Br.f ?_ | (refine Br.pos ?_ ?_; focus (with_reducible assumption)) | (refine Br.neg ?_ ?_; focus (with_reducible assumption)) | (refine Br.dpos ?_ ?_; focus (first | with_reducible exact rfl | with_reducible exact Int.le_refl _ | with_reducible assumption)) | (refine Br.dneg ?_ ?_; focus (with_reducible assumption)) | (refine Br.d (fun _ => ?_) (fun _ => ?_)) | refine Br.n ?_ | (refine Br.s (fun _ => ?_) (fun _ => ?_)) | (refine Br.mk (fun _ => ?_) (fun _ => ?_)))
           | (refine regv_id ?_; first | refine RegV.qg ?_ | refine RegV.d ?_)
           | (refine gds_id ?_; apply GdS.mk)
           | (refine and_id ?_; exact ⟨rfl, rfl, rfl⟩)
           | (refine imp_id ?_; first | refine imp_s (fun _ => ?_) | refine fun _ => ?_)
           | refine NilB.mk (fun b hb => ?_)
           | (refine alv_and ?_ ?_; focus (first | rfl | done))
           | refine DrawV.mk [] ?_
           | (refine appc_id ?_; first | refine AppC.growA ?_ | refine AppC.place ?_))
  all_goals (try (conv => whnf))
  exact RetP.v (by unfold hasB; simp)
theorem hasN_pcon (v : Int) : PCon Try.prog 32 [treeN, I v] (Bo false) [] := by
  refine pcon_of (G := gm) Try.func32 rfl rfl rfl ?_
  repeat' (conv => whnf
           first
           | (refine get_id ?_; first | refine Get.mk _ rfl ?_)
           | (refine need_id ?_; first | refine Need.a ?_)
           | (refine eqk_id ?_; first | refine EqK.a ?_)
           | (refine br_id ?_; first | refine Br.t ?_ | refine Br.f ?_ | (refine Br.pos ?_ ?_; focus (with_reducible assumption)) | (refine Br.neg ?_ ?_; focus (with_reducible assumption)) | (refine Br.dpos ?_ ?_; focus (first | with_reducible exact rfl | with_reducible exact Int.le_refl _ | with_reducible assumption)) | (refine Br.dneg ?_ ?_; focus (with_reducible assumption)) | (refine Br.d (fun _ => ?_) (fun _ => ?_)) | refine Br.n ?_ | (refine Br.s (fun _ => ?_) (fun _ => ?_)) | (refine Br.mk (fun _ => ?_) (fun _ => ?_)))
           | (refine regv_id ?_; first | refine RegV.d ?_)
           | refine NilB.mk (fun b hb => ?_)
           | (refine alv_and ?_ ?_; focus (first | rfl | done))
           | refine DrawV.mk [] ?_
           | (refine appc_id ?_; first | refine AppC.growA ?_ | refine AppC.place ?_))
  all_goals (try (conv => whnf))
  exact RetP.v (by simp)
theorem size_pcon (f : Bool) (ps : List Int) (L : List (List Int)) : PCon Try.prog 22 [treeX f ps L] (I ps.length) [] := by
  refine pcon_of (G := gm) Try.func22 rfl rfl rfl ?_
  repeat' (conv => whnf
           first
           | (refine get_id ?_; first | refine Get.mk _ rfl ?_)
           | (refine need_id ?_; first | refine Need.a ?_)
           | (refine eqk_id ?_; first | refine EqK.a ?_)
           | (refine br_id ?_; first | refine Br.t ?_ | refine Br.f ?_ | (refine Br.pos ?_ ?_; focus (with_reducible assumption)) | (refine Br.neg ?_ ?_; focus (with_reducible assumption)) | (refine Br.dpos ?_ ?_; focus (first | with_reducible exact rfl | with_reducible exact Int.le_refl _ | with_reducible assumption)) | (refine Br.dneg ?_ ?_; focus (with_reducible assumption)) | (refine Br.d (fun _ => ?_) (fun _ => ?_)) | refine Br.n ?_ | (refine Br.s (fun _ => ?_) (fun _ => ?_)) | (refine Br.mk (fun _ => ?_) (fun _ => ?_)))
           | (refine regv_id ?_; first | refine RegV.d ?_)
           | refine NilB.mk (fun b hb => ?_)
           | (refine alv_and ?_ ?_; focus (first | rfl | done))
           | refine DrawV.mk [] ?_
           | (refine appc_id ?_; first | refine AppC.growA ?_ | refine AppC.place ?_))
  all_goals (try (conv => whnf))
  exact RetP.v rfl
theorem sizeN_pcon : PCon Try.prog 22 [treeN] (I 0) [] := by
  refine pcon_of (G := gm) Try.func22 rfl rfl rfl ?_
  repeat' (conv => whnf
           first
           | (refine get_id ?_; first | refine Get.mk _ rfl ?_)
           | (refine need_id ?_; first | refine Need.a ?_)
           | (refine eqk_id ?_; first | refine EqK.a ?_)
           | (refine br_id ?_; first | refine Br.t ?_ | refine Br.f ?_ | (refine Br.pos ?_ ?_; focus (with_reducible assumption)) | (refine Br.neg ?_ ?_; focus (with_reducible assumption)) | (refine Br.dpos ?_ ?_; focus (first | with_reducible exact rfl | with_reducible exact Int.le_refl _ | with_reducible assumption)) | (refine Br.dneg ?_ ?_; focus (with_reducible assumption)) | (refine Br.d (fun _ => ?_) (fun _ => ?_)) | refine Br.n ?_ | (refine Br.s (fun _ => ?_) (fun _ => ?_)) | (refine Br.mk (fun _ => ?_) (fun _ => ?_)))
           | (refine regv_id ?_; first | refine RegV.d ?_)
           | refine NilB.mk (fun b hb => ?_)
           | (refine alv_and ?_ ?_; focus (first | rfl | done))
           | refine DrawV.mk [] ?_
           | (refine appc_id ?_; first | refine AppC.growA ?_ | refine AppC.place ?_))
  all_goals (try (conv => whnf))
  exact RetP.v rfl
def indexS (ps : List Int) (x : Int) : Int := match ps.findIdx? (· == x) with | some i => i | none => -1
theorem index_pcon (f : Bool) (ps : List Int) (x : Int) (h : ps.length < 9223372036854775808) : PCon Try.prog 33 [intX f ps, I x] (I (indexS ps x)) [] := by
  refine pcon_of (G := gm) Try.func33 rfl rfl rfl ?_
  repeat' (conv => whnf
           first
           | (refine get_id ?_; first | refine Get.mk _ rfl ?_)
           | (refine need_id ?_; first | refine Need.a ?_)
           | (refine eqk_id ?_; first | refine EqK.a ?_)
           | (refine br_id ?_; first | refine Br.t ?_ | refine Br.f ?_ | (refine Br.pos ?_ ?_; focus (with_reducible assumption)) | (refine Br.neg ?_ ?_; focus (with_reducible assumption)) | (refine Br.dpos ?_ ?_; focus (first | with_reducible exact rfl | with_reducible exact Int.le_refl _ | with_reducible assumption)) | (refine Br.dneg ?_ ?_; focus (with_reducible assumption)) | (refine Br.d (fun _ => ?_) (fun _ => ?_)) | refine Br.n ?_ | (refine Br.s (fun _ => ?_) (fun _ => ?_)) | (refine Br.mk (fun _ => ?_) (fun _ => ?_)))
           | (refine regv_id ?_; first | refine RegV.d ?_)
           | refine NilB.mk (fun b hb => ?_)
           | (refine alv_and ?_ ?_; focus (first | rfl | done))
           | refine DrawV.mk [] ?_
           | (refine appc_id ?_; first | refine AppC.growA ?_ | refine AppC.place ?_))
  all_goals (try (conv => whnf))
  refine LoopV.on (σ := Nat) rfl (fun i => [(0, intX f ps), (1, I x), (4, I 0), (6, intX f ps), (7, I ps.length), (8, I i)]) (fun _ => []) (fun i => i ≤ ps.length ∧ ∀ j (hj : j < ps.length), j < i → (ps[j] == x) = false) (fun i => ps.length - i) 0 ?_ ⟨Nat.zero_le _, fun _ _ h => by omega⟩ ?_
  · refine AtS.mk [] [] rfl List.nodup_nil rfl rfl ?_
    (repeat' (first | exact trivial | exact rfl | with_reducible assumption | (refine And.intro ?_ ?_) | (refine Exists.intro _ (And.intro rfl ?_)) | (refine Exists.intro _ (Exists.intro _ (And.intro rfl (And.intro rfl ?_)))) | (refine Or.inl ⟨rfl, rfl, ?_⟩) | (refine Or.inl ⟨rfl, ?_⟩; focus (fail_if_success (refine And.intro ?_ ?_))) | (refine Or.inl (?_ : (_ : Nat) = _ ∧ _); refine ⟨?_, ?_⟩; focus (first | (simp only [List.length_map]; done) | (simp only [List.length_map, List.length_append, List.length_cons, List.length_nil]; done))) | exact Or.inl rfl | (refine Or.inr (Or.inr ⟨?_, ?_⟩)) | (refine Or.inr ⟨?_, ?_⟩) | (refine fun h => ?_; first | exact h | exact rfl | (cases h; done)) | (refine om8 ?_; simp only [← List.map_drop, ← List.map_take]; exact rfl) | ((first | refine om1 ?_ | refine om2 ?_ | refine om3 ?_ | refine om4 ?_ | refine om5 ?_ | refine om6 ?_ | refine om7 ?_); first | (simp only [List.length_map]; done) | (simp only [List.length_map]; omega) | omega)))
  rintro i ⟨hi, hall⟩
  repeat' (conv => whnf
           first
           | (refine get_id ?_; first | refine Get.mk _ rfl ?_ | refine Get.mk _ (int_get ps i rfl (by omega)) ?_)
           | (refine need_id ?_; first | refine Need.a ?_)
           | (refine eqk_id ?_; first | refine EqK.a ?_)
           | (refine br_id ?_; first | refine Br.t ?_ | refine Br.f ?_ | (refine Br.pos ?_ ?_; focus (with_reducible assumption)) | (refine Br.neg ?_ ?_; focus (with_reducible assumption)) | (refine Br.dpos ?_ ?_; focus (first | with_reducible exact rfl | with_reducible exact Int.le_refl _ | with_reducible assumption)) | (refine Br.dneg ?_ ?_; focus (with_reducible assumption)) | (refine Br.d (fun _ => ?_) (fun _ => ?_) <;> (first | (exfalso; omega; done) | skip)) | refine Br.n ?_ | (refine Br.s (fun _ => ?_) (fun _ => ?_) <;> (first | (exfalso; omega; done) | skip)) | (refine Br.mk (fun _ => ?_) (fun _ => ?_) <;> (first | (exfalso; omega; done) | skip)))
           | (refine regv_id ?_; first | refine RegV.d ?_)
           | refine NilB.mk (fun b hb => ?_)
           | (refine alv_and ?_ ?_; focus (first | rfl | done))
           | refine DrawV.mk [] ?_
           | (refine appc_id ?_; first | refine AppC.growA ?_ | refine AppC.place ?_))
  all_goals (try (conv => whnf))
  · rename_i h1 h2
    have hi' : i < ps.length := by omega
    have e : ps.getD i 0 = ps[i] := by simp [hi']
    refine RetP.v ?_
    have : ps.findIdx? (· == x) = some i := by
      rw [List.findIdx?_eq_some_iff_getElem]
      exact ⟨hi', by rw [e] at h2; simp [h2], fun j hj => by rw [hall j (by omega) hj]; simp⟩
    unfold indexS
    rw [this]
  · rename_i h1 h2
    have hi' : i < ps.length := by omega
    have e : ps.getD i 0 = ps[i] := by simp [hi']
    refine nx (i + 1) (by omega) ⟨by omega, fun j hj h1 => ?_⟩ (AtS.mk [] [] rfl List.nodup_nil rfl rfl ?_)
    · by_cases e2 : j = i
      · subst e2
        rw [e] at h2
        simp only [eq_self, iff_true, true_iff, iff_false, false_iff, decide_eq_true_eq, decide_eq_false_iff_not, Bool.or_eq_true, Bool.and_eq_true, Bool.or_eq_false_iff, Bool.and_eq_false_iff, Bool.not_eq_true', Bool.not_eq_false', beq_iff_eq, beq_eq_false_iff_ne, bne_iff_ne, bne_eq_false_iff_eq, ne_eq, Bool.true_and, Bool.and_true, Bool.false_or, Bool.or_false, Bool.true_or, Bool.or_true, Bool.false_and, Bool.and_false, Bool.not_true, Bool.not_false, reduceCtorEq, not_false_eq_true, not_true_eq_false, and_true, true_and, or_false, false_or, or_true, true_or, and_false, false_and, Bool.cond_eq_ite]
        exact fun h5 => h2 h5.symm
      · exact hall j hj (by omega)
    · (repeat' (first | exact trivial | exact rfl | with_reducible assumption | (refine And.intro ?_ ?_) | (refine Exists.intro _ (And.intro rfl ?_)) | (refine Exists.intro _ (Exists.intro _ (And.intro rfl (And.intro rfl ?_)))) | (refine Or.inl ⟨rfl, rfl, ?_⟩) | (refine Or.inl ⟨rfl, ?_⟩; focus (fail_if_success (refine And.intro ?_ ?_))) | (refine Or.inl (?_ : (_ : Nat) = _ ∧ _); refine ⟨?_, ?_⟩; focus (first | (simp only [List.length_map]; done) | (simp only [List.length_map, List.length_append, List.length_cons, List.length_nil]; done))) | exact Or.inl rfl | (refine Or.inr (Or.inr ⟨?_, ?_⟩)) | (refine Or.inr ⟨?_, ?_⟩) | (refine fun h => ?_; first | exact h | exact rfl | (cases h; done)) | (refine om8 ?_; simp only [← List.map_drop, ← List.map_take]; exact rfl) | ((first | refine om1 ?_ | refine om2 ?_ | refine om3 ?_ | refine om4 ?_ | refine om5 ?_ | refine om6 ?_ | refine om7 ?_); first | (simp only [List.length_map]; done) | (simp only [List.length_map]; omega) | omega)))
  · refine RetP.v ?_
    have : ps.findIdx? (· == x) = none := by
      rw [List.findIdx?_eq_none_iff]
      intro y hy
      obtain ⟨j, hj, rfl⟩ := List.mem_iff_getElem.1 hy
      exact hall j hj (by omega)
    unfold indexS
    rw [this]
theorem clone_pcon (f : Bool) (ps : List Int) (h : ps.length * 8 ≤ 140737488355328) : PCon Try.prog 29 [intX f ps] (.own 0 ps.length) [intB ps] := by
  refine pcon_of (G := gm) Try.func29 rfl rfl rfl ?_
  repeat' (conv => whnf
           first
           | (refine get_id ?_; first | refine Get.mk _ rfl ?_)
           | (refine need_id ?_; first | refine Need.a ?_)
           | (refine eqk_id ?_; first | refine EqK.a ?_)
           | (refine br_id ?_; first | refine Br.t ?_ | refine Br.f ?_ | (refine Br.pos ?_ ?_; focus (with_reducible assumption)) | (refine Br.neg ?_ ?_; focus (with_reducible assumption)) | (refine Br.dpos ?_ ?_; focus (first | with_reducible exact rfl | with_reducible exact Int.le_refl _ | with_reducible assumption)) | (refine Br.dneg ?_ ?_; focus (with_reducible assumption)) | (refine Br.d (fun _ => ?_) (fun _ => ?_)) | refine Br.n ?_ | (refine Br.s (fun _ => ?_) (fun _ => ?_)) | (refine Br.mk (fun _ => ?_) (fun _ => ?_)))
           | (refine regv_id ?_; first | refine RegV.d ?_)
           | refine NilB.mk (fun b hb => ?_)
           | (refine alv_and ?_ ?_; focus (first | rfl | done))
           | refine DrawV.mk [] ?_
           | (refine appc_id ?_; first | refine AppC.growA ?_ | refine AppC.place ?_))
  all_goals (try (conv => whnf))
  · have : ps = [] := by
      cases ps with
      | nil => rfl
      | cons m cs => simp_all
    subst this
    exact RetP.nil
  · exact RetP.own rfl (int_fr ps)
/-- A tree that Check takes. -/
structure Tr1 (ps : List Int) : Prop where
  pos : 0 < ps.length
  le : ps.length ≤ 32
  ok : okTo ps ps.length
  up : ∀ u : Nat, u < ps.length → hits ps ps.length u = true
theorem find_range_iff {n : Nat} {p : Nat → Bool} : (List.range n).find? p = none ↔ ∀ u, u < n → p u = false := by
  rw [List.find?_eq_none]
  simp
theorem tr1_iff (ps : List Int) : (checkS ps).2 = 0 ↔ Tr1 ps := by
  unfold checkS
  constructor
  · intro h
    by_cases h1 : ps.length = 0
    · rw [if_pos h1] at h
      simp at h
    by_cases h2 : ps.length > 32
    · rw [if_neg h1, if_pos h2] at h
      simp at h
    rw [if_neg h1, if_neg h2] at h
    cases h3 : (List.range ps.length).find? (badAt ps) with
    | some v => rw [h3] at h; simp at h
    | none =>
      rw [h3] at h
      simp only at h
      cases h4 : (List.range ps.length).find? (fun v : Nat => !hits ps ps.length (v : Int)) with
      | some v => rw [h4] at h; simp at h
      | none => exact ⟨by omega, by omega, find_range_iff.1 h3, fun u hu => by have := find_range_iff.1 h4 u hu; simpa using this⟩
  · intro h
    rw [if_neg (by have := h.pos; omega), if_neg (by have := h.le; omega), find_range_none h.ok]
    simp only
    rw [find_range_none (fun u hu => by simp [h.up u hu])]
def climb (ps : List Int) (s : Int) : Nat → Int → Int
  | 0, _ => ps.getD s.toNat 0
  | k + 1, a => if a < 0 then ps.getD s.toNat 0 else if ps.getD a.toNat 0 = s then a else climb ps s k (ps.getD a.toNat 0)
def nextS (ps : List Int) (s t : Int) : Int :=
  if hasB ps s = false ∨ hasB ps t = false then -1 else if s = t then t else climb ps s ps.length t
theorem hasB_iff {ps : List Int} {v : Int} : hasB ps v = true ↔ 0 ≤ v ∧ v < ps.length := by
  unfold hasB
  simp
theorem climb_succ (ps : List Int) (s : Int) {m : Nat} (hm : 0 < m) (a : Int) : climb ps s m a = if a < 0 then ps.getD s.toNat 0 else if ps.getD a.toNat 0 = s then a else climb ps s (m - 1) (ps.getD a.toNat 0) := by
  cases m with
  | zero => omega
  | succ m => rfl
theorem climb_neg (ps : List Int) (s : Int) (k : Nat) {a : Int} (h : a < 0) : climb ps s k a = ps.getD s.toNat 0 := by
  cases k with
  | zero => rfl
  | succ k => simp [climb, h]
theorem hits_pos {ps : List Int} {k : Nat} {a : Int} (h : hits ps k a = true) : 0 < k := by
  cases k with
  | zero => cases h
  | succ k => omega
theorem next_pcon (f : Bool) (ps : List Int) (L : List (List Int)) (s t : Int) (h : Tr1 ps) : PCon Try.prog 20 [treeX f ps L, I s, I t] (I (nextS ps s t)) [] := by
  refine pcon_of (G := gm) Try.func20 rfl rfl rfl ?_
  have hpos := h.pos
  have hle := h.le
  cases hs : hasB ps s with
  | false =>
    have c1 := has_pcon f ps L s
    rw [hs] at c1
    repeat' (conv => whnf
             first
             | (refine get_id ?_; first | refine Get.mk _ rfl ?_)
             | (refine need_id ?_; first | refine Need.a ?_)
             | (refine eqk_id ?_; first | refine EqK.a ?_)
             | (refine br_id ?_; first | refine Br.t ?_ | refine Br.f ?_ | (refine Br.pos ?_ ?_; focus (with_reducible assumption)) | (refine Br.neg ?_ ?_; focus (with_reducible assumption)) | (refine Br.dpos ?_ ?_; focus (first | with_reducible exact rfl | with_reducible exact Int.le_refl _ | with_reducible assumption)) | (refine Br.dneg ?_ ?_; focus (with_reducible assumption)) | (refine Br.d (fun _ => ?_) (fun _ => ?_)) | refine Br.n ?_ | (refine Br.s (fun _ => ?_) (fun _ => ?_)) | (refine Br.mk (fun _ => ?_) (fun _ => ?_)))
             | (refine regv_id ?_; first | refine RegV.qg ?_ | refine RegV.d ?_)
             | (refine gds_id ?_; apply GdS.mk)
             | (refine and_id ?_; exact ⟨rfl, rfl, rfl⟩)
             | (refine imp_id ?_; first | refine imp_s (fun _ => ?_) | refine fun _ => ?_)
             | refine NilB.mk (fun b hb => ?_)
             | (refine alv_and ?_ ?_; focus (first | rfl | done))
             | refine DrawV.mk [] ?_
             | (refine appc_id ?_; first | refine AppC.growA ?_ | refine AppC.place ?_)
             | (refine call_id ?_; first
                  | refine CallV.c (c1) ?_
                  | refine CallV.c (has_pcon f ps L t) ?_
                  | refine CallV.e (c1) ?_
                  | refine CallV.e (has_pcon f ps L t) ?_)
             | (refine calls_id ?_; first
                  | refine CallS.c (c1) ?_
                  | refine CallS.c (has_pcon f ps L t) ?_
                  | refine CallS.e (c1) ?_
                  | refine CallS.e (has_pcon f ps L t) ?_))
    all_goals (try (conv => whnf))
    · exact RetP.v (by simp [nextS, hs])
    all_goals (exfalso; rename_i hx; simp at hx)
  | true =>
    cases ht : hasB ps t with
    | false =>
      have c1 := has_pcon f ps L s
      rw [hs] at c1
      have c2 := has_pcon f ps L t
      rw [ht] at c2
      repeat' (conv => whnf
               first
               | (refine get_id ?_; first | refine Get.mk _ rfl ?_)
               | (refine need_id ?_; first | refine Need.a ?_)
               | (refine eqk_id ?_; first | refine EqK.a ?_)
               | (refine br_id ?_; first | refine Br.t ?_ | refine Br.f ?_ | (refine Br.pos ?_ ?_; focus (with_reducible assumption)) | (refine Br.neg ?_ ?_; focus (with_reducible assumption)) | (refine Br.dpos ?_ ?_; focus (first | with_reducible exact rfl | with_reducible exact Int.le_refl _ | with_reducible assumption)) | (refine Br.dneg ?_ ?_; focus (with_reducible assumption)) | (refine Br.d (fun _ => ?_) (fun _ => ?_)) | refine Br.n ?_ | (refine Br.s (fun _ => ?_) (fun _ => ?_)) | (refine Br.mk (fun _ => ?_) (fun _ => ?_)))
               | (refine regv_id ?_; first | refine RegV.qg ?_ | refine RegV.d ?_)
               | (refine gds_id ?_; apply GdS.mk)
               | (refine and_id ?_; exact ⟨rfl, rfl, rfl⟩)
               | (refine imp_id ?_; first | refine imp_s (fun _ => ?_) | refine fun _ => ?_)
               | refine NilB.mk (fun b hb => ?_)
               | (refine alv_and ?_ ?_; focus (first | rfl | done))
               | refine DrawV.mk [] ?_
               | (refine appc_id ?_; first | refine AppC.growA ?_ | refine AppC.place ?_)
               | (refine call_id ?_; first
                    | refine CallV.c (c1) ?_
                    | refine CallV.c (c2) ?_
                    | refine CallV.e (c1) ?_
                    | refine CallV.e (c2) ?_)
               | (refine calls_id ?_; first
                    | refine CallS.c (c1) ?_
                    | refine CallS.c (c2) ?_
                    | refine CallS.e (c1) ?_
                    | refine CallS.e (c2) ?_))
      all_goals (try (conv => whnf))
      · exact RetP.v (by simp [nextS, ht])
      all_goals (exfalso; rename_i hx; simp at hx)
    | true =>
      have c1 := has_pcon f ps L s
      rw [hs] at c1
      have c2 := has_pcon f ps L t
      rw [ht] at c2
      have h1 := hasB_iff.1 hs
      have h2 := hasB_iff.1 ht
      have hn : s ≠ t → nextS ps s t = climb ps s ps.length t := fun hne => by simp [nextS, hs, ht, hne]
      have he : s = t → nextS ps s t = t := fun hne => by simp [nextS, hs, ht, hne]
      repeat' (conv => whnf
               first
               | (refine get_id ?_; first | refine Get.mk _ rfl ?_)
               | (refine need_id ?_; first | refine Need.a ?_)
               | (refine eqk_id ?_; first | refine EqK.a ?_)
               | (refine br_id ?_; first | refine Br.t ?_ | refine Br.f ?_ | (refine Br.pos ?_ ?_; focus (with_reducible assumption)) | (refine Br.neg ?_ ?_; focus (with_reducible assumption)) | (refine Br.dpos ?_ ?_; focus (first | with_reducible exact rfl | with_reducible exact Int.le_refl _ | with_reducible assumption)) | (refine Br.dneg ?_ ?_; focus (with_reducible assumption)) | (refine Br.d (fun _ => ?_) (fun _ => ?_) <;> (first | (exfalso; omega; done) | skip)) | refine Br.n ?_ | (refine Br.s (fun _ => ?_) (fun _ => ?_) <;> (first | (exfalso; omega; done) | skip)) | (refine Br.mk (fun _ => ?_) (fun _ => ?_) <;> (first | (exfalso; omega; done) | skip)))
               | (refine regv_id ?_; first | refine RegV.qg ?_ | refine RegV.d ?_)
               | (refine gds_id ?_; apply GdS.mk)
               | (refine and_id ?_; exact ⟨rfl, rfl, rfl⟩)
               | (refine imp_id ?_; first | refine imp_s (fun _ => ?_) | refine fun _ => ?_)
               | refine NilB.mk (fun b hb => ?_)
               | (refine alv_and ?_ ?_; focus (first | rfl | done))
               | refine DrawV.mk [] ?_
               | (refine appc_id ?_; first | refine AppC.growA ?_ | refine AppC.place ?_)
               | (refine call_id ?_; first
                    | refine CallV.c (c1) ?_
                    | refine CallV.c (c2) ?_
                    | refine CallV.e (c1) ?_
                    | refine CallV.e (c2) ?_)
               | (refine calls_id ?_; first
                    | refine CallS.c (c1) ?_
                    | refine CallS.c (c2) ?_
                    | refine CallS.e (c1) ?_
                    | refine CallS.e (c2) ?_))
      all_goals (try (conv => whnf))
      · rename_i hx
        exact RetP.v (by rw [he hx])
      rename_i hx
      rw [hn hx]
      refine LoopV.on (σ := Nat × Int) rfl (fun p => [(0, treeX f ps L), (1, I s), (2, I t), (7, I p.2)]) (fun _ => []) (fun p => -1 ≤ p.2 ∧ p.2 < ps.length ∧ (0 ≤ p.2 → hits ps p.1 p.2 = true) ∧ climb ps s p.1 p.2 = climb ps s ps.length t) (fun p => p.1) (ps.length, t) ?_ ⟨by simp only; omega, by simp only; omega, fun _ => ?_, rfl⟩ ?_
      · refine AtS.mk [] [] rfl List.nodup_nil rfl rfl ?_
        (repeat' (first | exact trivial | exact rfl | with_reducible assumption | (refine And.intro ?_ ?_) | (refine Exists.intro _ (And.intro rfl ?_)) | (refine Exists.intro _ (Exists.intro _ (And.intro rfl (And.intro rfl ?_)))) | (refine Or.inl ⟨rfl, rfl, ?_⟩) | (refine Or.inl ⟨rfl, ?_⟩; focus (fail_if_success (refine And.intro ?_ ?_))) | (refine Or.inl (?_ : (_ : Nat) = _ ∧ _); refine ⟨?_, ?_⟩; focus (first | (simp only [List.length_map]; done) | (simp only [List.length_map, List.length_append, List.length_cons, List.length_nil]; done))) | exact Or.inl rfl | (refine Or.inr (Or.inr ⟨?_, ?_⟩)) | (refine Or.inr ⟨?_, ?_⟩) | (refine fun h => ?_; first | exact h | exact rfl | (cases h; done)) | (refine om8 ?_; simp only [← List.map_drop, ← List.map_take]; exact rfl) | ((first | refine om1 ?_ | refine om2 ?_ | refine om3 ?_ | refine om4 ?_ | refine om5 ?_ | refine om6 ?_ | refine om7 ?_); first | (simp only [List.length_map]; done) | (simp only [List.length_map]; omega) | omega)))
      · have := h.up t.toNat (by omega)
        rwa [show ((t.toNat : Nat) : Int) = t by omega] at this
      rintro ⟨k, a⟩ ⟨p1, p2, p3, p4⟩
      simp only at p1 p2 p3 p4
      dsimp only
      by_cases ha : 0 ≤ a
      · have p3 := p3 ha
        have hk := hits_pos p3
        have hb := ok_bounds h.ok ha p2
        rw [climb_succ ps s hk, if_neg (by omega)] at p4
        rw [hits_succ ps hk] at p3
        repeat' (conv => whnf
                 first
                 | (refine get_id ?_; first | refine Get.mk _ rfl ?_ | refine Get.mk _ (int_get ps a.toNat rfl (by omega)) ?_)
                 | (refine need_id ?_; first | refine Need.a ?_)
                 | (refine eqk_id ?_; first | refine EqK.a ?_)
                 | (refine br_id ?_; first | refine Br.t ?_ | refine Br.f ?_ | (refine Br.pos ?_ ?_; focus (with_reducible assumption)) | (refine Br.neg ?_ ?_; focus (with_reducible assumption)) | (refine Br.dpos ?_ ?_; focus (first | with_reducible exact rfl | with_reducible exact Int.le_refl _ | with_reducible assumption)) | (refine Br.dneg ?_ ?_; focus (with_reducible assumption)) | (refine Br.d (fun _ => ?_) (fun _ => ?_) <;> (first | (exfalso; omega; done) | skip)) | refine Br.n ?_ | (refine Br.s (fun _ => ?_) (fun _ => ?_) <;> (first | (exfalso; omega; done) | skip)) | (refine Br.mk (fun _ => ?_) (fun _ => ?_) <;> (first | (exfalso; omega; done) | skip)))
                 | (refine regv_id ?_; first | refine RegV.qg ?_ | refine RegV.d ?_)
                 | (refine gds_id ?_; apply GdS.mk)
                 | (refine and_id ?_; exact ⟨rfl, rfl, rfl⟩)
                 | (refine imp_id ?_; first | refine imp_s (fun _ => ?_) | refine fun _ => ?_)
                 | refine NilB.mk (fun b hb => ?_)
                 | (refine alv_and ?_ ?_; focus (first | rfl | done))
                 | refine DrawV.mk [] ?_
                 | (refine appc_id ?_; first | refine AppC.growA ?_ | refine AppC.place ?_))
        all_goals (try (conv => whnf))
        · rename_i h3 h4
          rw [if_pos h4] at p4
          exact RetP.v (by rw [p4])
        · rename_i h3 h4
          rw [if_neg h4] at p4
          refine nx (k - 1, ps.getD a.toNat 0) (by simp only; omega) ⟨by simp only; omega, by simp only; omega, fun h5 => ?_, p4⟩ (AtS.mk [] [] rfl List.nodup_nil rfl rfl ?_)
          · simp only at h5
            rw [if_neg (by omega)] at p3
            exact p3
          · (repeat' (first | exact trivial | exact rfl | with_reducible assumption | (refine And.intro ?_ ?_) | (refine Exists.intro _ (And.intro rfl ?_)) | (refine Exists.intro _ (Exists.intro _ (And.intro rfl (And.intro rfl ?_)))) | (refine Or.inl ⟨rfl, rfl, ?_⟩) | (refine Or.inl ⟨rfl, ?_⟩; focus (fail_if_success (refine And.intro ?_ ?_))) | (refine Or.inl (?_ : (_ : Nat) = _ ∧ _); refine ⟨?_, ?_⟩; focus (first | (simp only [List.length_map]; done) | (simp only [List.length_map, List.length_append, List.length_cons, List.length_nil]; done))) | exact Or.inl rfl | (refine Or.inr (Or.inr ⟨?_, ?_⟩)) | (refine Or.inr ⟨?_, ?_⟩) | (refine fun h => ?_; first | exact h | exact rfl | (cases h; done)) | (refine om8 ?_; simp only [← List.map_drop, ← List.map_take]; exact rfl) | ((first | refine om1 ?_ | refine om2 ?_ | refine om3 ?_ | refine om4 ?_ | refine om5 ?_ | refine om6 ?_ | refine om7 ?_); first | (simp only [List.length_map]; done) | (simp only [List.length_map]; omega) | omega)))
      · rw [climb_neg ps s k (by omega)] at p4
        clear p3
        repeat' (conv => whnf
                 first
                 | (refine get_id ?_; first | refine Get.mk _ rfl ?_ | refine Get.mk _ (int_get ps s.toNat rfl (by omega)) ?_)
                 | (refine need_id ?_; first | refine Need.a ?_)
                 | (refine eqk_id ?_; first | refine EqK.a ?_)
                 | (refine br_id ?_; first | refine Br.t ?_ | refine Br.f ?_ | (refine Br.pos ?_ ?_; focus (with_reducible assumption)) | (refine Br.neg ?_ ?_; focus (with_reducible assumption)) | (refine Br.dpos ?_ ?_; focus (first | with_reducible exact rfl | with_reducible exact Int.le_refl _ | with_reducible assumption)) | (refine Br.dneg ?_ ?_; focus (with_reducible assumption)) | (refine Br.d (fun _ => ?_) (fun _ => ?_) <;> (first | (exfalso; omega; done) | skip)) | refine Br.n ?_ | (refine Br.s (fun _ => ?_) (fun _ => ?_) <;> (first | (exfalso; omega; done) | skip)) | (refine Br.mk (fun _ => ?_) (fun _ => ?_) <;> (first | (exfalso; omega; done) | skip)))
                 | (refine regv_id ?_; first | refine RegV.qg ?_ | refine RegV.d ?_)
                 | (refine gds_id ?_; apply GdS.mk)
                 | (refine and_id ?_; exact ⟨rfl, rfl, rfl⟩)
                 | (refine imp_id ?_; first | refine imp_s (fun _ => ?_) | refine fun _ => ?_)
                 | refine NilB.mk (fun b hb => ?_)
                 | (refine alv_and ?_ ?_; focus (first | rfl | done))
                 | refine DrawV.mk [] ?_
                 | (refine appc_id ?_; first | refine AppC.growA ?_ | refine AppC.place ?_))
        all_goals (try (conv => whnf))
        exact RetP.v (by rw [p4])
end Go.Proofs.Ytobojnfhhobnkaa
