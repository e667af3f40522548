/- tree: lists of numbers; Check on both sides. -/
import Derived.Test.YtobojnfhhobnkaaBase
set_option linter.unusedSimpArgs false
set_option maxRecDepth 20000
set_option linter.unusedVariables false
namespace Go.Proofs.Ytobojnfhhobnkaa
open Go Go.Eng Go.RowKit

abbrev intR (ps : List Int) : List (List Sv) := ps.map fun p => [I p]
abbrev intX (f : Bool) (ps : List Int) : Sv := .ext f 1 (intR ps)
def intB (ps : List Int) : Blk := mkB 3 1 (intR ps)
theorem int_fr (ps : List Int) : FrR (intR ps) := FrR_map (fun p => [I p]) (fun c => by simp [Sv.Fr.go, Sv.Fr]) ps
theorem int_get (ps : List Int) {n : Nat} (k : Nat) (hn : n = k) (h : k < ps.length) : nth (intR ps) n = some [I (ps.getD k 0)] := by
  rw [nth_map (fun p => [I p]) ps k hn h]
  simp [h]

/-- Within k steps up a root is met. -/
def hits (ps : List Int) : Nat → Int → Bool
  | 0, _ => false
  | k + 1, a => if ps.getD a.toNat 0 = -1 then true else hits ps k (ps.getD a.toNat 0)
/-- A fault of the node's own. -/
def badAt (ps : List Int) (v : Nat) : Bool := decide (ps.getD v 0 < -1) || decide ((ps.length : Int) ≤ ps.getD v 0) || decide (ps.getD v 0 = v) || (decide (ps.getD v 0 = -1) && (ps.take v).any (· == -1))
def checkS (ps : List Int) : Int × Int :=
  if ps.length = 0 then (0, 1) else if ps.length > 32 then (0, 3) else
    match (List.range ps.length).find? (badAt ps) with
    | some v => (v, 10)
    | none => match (List.range ps.length).find? (fun v : Nat => !hits ps ps.length (v : Int)) with
      | some v => (v, 10)
      | none => (0, 0)
theorem find_range {n : Nat} {p : Nat → Bool} {v : Nat} (hv : v < n) (hp : p v = true) (h : ∀ u, u < v → p u = false) : (List.range n).find? p = some v := by
  rw [List.find?_range_eq_some]
  exact ⟨hp, by simpa using hv, fun u hu => by simp [h u hu]⟩
theorem find_range_none {n : Nat} {p : Nat → Bool} (h : ∀ u, u < n → p u = false) : (List.range n).find? p = none := by
  rw [List.find?_eq_none]
  intro u hu
  simp [h u (List.mem_range.1 hu)]
theorem rooted_snoc (ps : List Int) (i : Nat) (h : i < ps.length) : (ps.take (i + 1)).any (· == -1) = ((ps.take i).any (· == -1) || (ps.getD i 0 == -1)) := by
  rw [List.take_succ_eq_append_getElem h, List.any_append]
  simp [h]
theorem RetP.ii {hp : Hp} {a b c d : Int} (h1 : a = c) (h2 : b = d) : RetP hp (.tup [I a, I b]) (.tup [I c, I d]) [] := by
  subst h1
  subst h2
  exact RetP.go [] [] (by simp) rfl ⟨rfl, rfl, rfl⟩ ⟨trivial, trivial, trivial⟩ trivial
/-- Nothing is wrong with the nodes ahead of i. -/
def okTo (ps : List Int) (i : Nat) : Prop := ∀ u, u < i → badAt ps u = false
theorem ok_bounds {ps : List Int} (h : okTo ps ps.length) {a : Int} (h0 : 0 ≤ a) (h1 : a < ps.length) : -1 ≤ ps.getD a.toNat 0 ∧ ps.getD a.toNat 0 < ps.length := by
  have := h a.toNat (by omega)
  simp only [badAt, eq_self, iff_true, true_iff, iff_false, false_iff, decide_eq_true_eq, decide_eq_false_iff_not, Bool.or_eq_true, Bool.and_eq_true, Bool.or_eq_false_iff, Bool.and_eq_false_iff, Bool.not_eq_true', Bool.not_eq_false', beq_iff_eq, beq_eq_false_iff_ne, bne_iff_ne, bne_eq_false_iff_eq, ne_eq, Bool.true_and, Bool.and_true, Bool.false_or, Bool.or_false, Bool.true_or, Bool.or_true, Bool.false_and, Bool.and_false, Bool.not_true, Bool.not_false, reduceCtorEq, not_false_eq_true, not_true_eq_false, and_true, true_and, or_false, false_or, or_true, true_or, and_false, false_and, Bool.cond_eq_ite] at this
  omega
theorem checkS_bad {ps : List Int} (h0 : ps.length ≠ 0) (h1 : ps.length ≤ 32) {v : Nat} (hv : v < ps.length) (hb : badAt ps v = true) (h : okTo ps v) : checkS ps = ((v : Int), 10) := by
  unfold checkS
  rw [if_neg h0, if_neg (by omega), find_range hv hb h]
theorem checkS_far {ps : List Int} (h0 : ps.length ≠ 0) (h1 : ps.length ≤ 32) (ho : okTo ps ps.length) {v : Nat} (hv : v < ps.length) (hb : hits ps ps.length v = false) (h : ∀ u : Nat, u < v → hits ps ps.length u = true) : checkS ps = ((v : Int), 10) := by
  unfold checkS
  rw [if_neg h0, if_neg (by omega), find_range_none ho]
  simp only
  rw [find_range hv (by simp [hb]) (fun u hu => by simp [h u hu])]
theorem checkS_ok {ps : List Int} (h0 : ps.length ≠ 0) (h1 : ps.length ≤ 32) (ho : okTo ps ps.length) (h : ∀ u : Nat, u < ps.length → hits ps ps.length u = true) : checkS ps = (0, 0) := by
  unfold checkS
  rw [if_neg h0, if_neg (by omega), find_range_none ho]
  simp only
  rw [find_range_none (fun u hu => by simp [h u hu])]
theorem hits_succ (ps : List Int) {m : Nat} (hm : 0 < m) (a : Int) : hits ps m a = if ps.getD a.toNat 0 = -1 then true else hits ps (m - 1) (ps.getD a.toNat 0) := by
  cases m with
  | zero => omega
  | succ m => rfl
set_option maxHeartbeats 1000000 in
theorem check_pcon (f : Bool) (ps : List Int) (h : ps.length < 9223372036854775808) : PCon Try.prog 12 [intX f ps] (.tup [I (checkS ps).1, I (checkS ps).2]) [] := by
  refine pcon_of (G := gm) Try.func12 rfl rfl rfl ?_
  repeat' (conv => whnf
           first
           | (refine get_id ?_; first | refine Get.mk _ rfl ?_)
           | (refine need_id ?_; first | refine Need.a ?_)
           | (refine eqk_id ?_; first | refine EqK.a ?_)
           | (refine br_id ?_; first | refine Br.t ?_ | refine Br.f ?_ | (refine Br.pos ?_ ?_; focus (with_reducible assumption)) | (refine Br.neg ?_ ?_; focus (with_reducible assumption)) | (refine Br.dpos ?_ ?_; focus (first | with_reducible exact rfl | with_reducible exact Int.le_refl _ | with_reducible assumption)) | (refine Br.dneg ?_ ?_; focus (with_reducible assumption)) | (refine Br.d (fun _ => ?_) (fun _ => ?_) <;> (first | (exfalso; omega; done) | skip)) | refine Br.n ?_ | (refine Br.s (fun _ => ?_) (fun _ => ?_) <;> (first | (exfalso; omega; done) | skip)) | (refine Br.mk (fun _ => ?_) (fun _ => ?_) <;> (first | (exfalso; omega; done) | skip)))
           | (refine regv_id ?_; first | refine RegV.qg ?_ | refine RegV.d ?_)
           | (refine gds_id ?_; apply GdS.mk)
           | (refine and_id ?_; exact ⟨rfl, rfl, rfl⟩)
           | (refine imp_id ?_; first | refine imp_s (fun _ => ?_) | refine fun _ => ?_)
           | refine NilB.mk (fun b hb => ?_)
           | (refine alv_and ?_ ?_; focus (first | rfl | done))
           | refine DrawV.mk [] ?_
           | (refine appc_id ?_; first | refine AppC.growA ?_ | refine AppC.place ?_))
  all_goals (try (conv => whnf))
  · exact RetP.ii (by unfold checkS; rw [if_pos (by omega)]) (by unfold checkS; rw [if_pos (by omega)])
  · exact RetP.ii (by unfold checkS; rw [if_neg (by omega), if_pos (by omega)]) (by unfold checkS; rw [if_neg (by omega), if_pos (by omega)])
  refine LoopV.on (σ := Nat) rfl (fun i => [(0, intX f ps), (4, I ps.length), (5, Bo ((ps.take i).any (· == -1))), (18, intX f ps), (19, I ps.length), (20, I i)]) (fun _ => []) (fun i => i ≤ ps.length ∧ okTo ps i) (fun i => ps.length - i) 0 ?_ ⟨Nat.zero_le _, fun _ h => by omega⟩ ?_
  · refine AtS.mk [] [] rfl List.nodup_nil rfl rfl ?_
    (repeat' (first | exact trivial | exact rfl | with_reducible assumption | (refine And.intro ?_ ?_) | (refine Exists.intro _ (And.intro rfl ?_)) | (refine Exists.intro _ (Exists.intro _ (And.intro rfl (And.intro rfl ?_)))) | (refine Or.inl ⟨rfl, rfl, ?_⟩) | (refine Or.inl ⟨rfl, ?_⟩; focus (fail_if_success (refine And.intro ?_ ?_))) | (refine Or.inl (?_ : (_ : Nat) = _ ∧ _); refine ⟨?_, ?_⟩; focus (first | (simp only [List.length_map]; done) | (simp only [List.length_map, List.length_append, List.length_cons, List.length_nil]; done))) | exact Or.inl rfl | (refine Or.inr (Or.inr ⟨?_, ?_⟩)) | (refine Or.inr ⟨?_, ?_⟩) | (refine fun h => ?_; first | exact h | exact rfl | (cases h; done)) | (refine om8 ?_; simp only [← List.map_drop, ← List.map_take]; exact rfl) | ((first | refine om1 ?_ | refine om2 ?_ | refine om3 ?_ | refine om4 ?_ | refine om5 ?_ | refine om6 ?_ | refine om7 ?_); first | (simp only [List.length_map]; done) | (simp only [List.length_map]; omega) | omega)))
  rintro i ⟨hi, hok⟩
  repeat' (conv => whnf
           first
           | (refine get_id ?_; first | refine Get.mk _ rfl ?_ | refine Get.mk _ (int_get ps i rfl (by omega)) ?_)
           | (refine need_id ?_; first | refine Need.a ?_)
           | (refine eqk_id ?_; first | refine EqK.a ?_)
           | (refine br_id ?_; first | refine Br.t ?_ | refine Br.f ?_ | (refine Br.pos ?_ ?_; focus (with_reducible assumption)) | (refine Br.neg ?_ ?_; focus (with_reducible assumption)) | (refine Br.dpos ?_ ?_; focus (first | with_reducible exact rfl | with_reducible exact Int.le_refl _ | with_reducible assumption)) | (refine Br.dneg ?_ ?_; focus (with_reducible assumption)) | (refine Br.d (fun _ => ?_) (fun _ => ?_) <;> (first | (exfalso; omega; done) | skip)) | refine Br.n ?_ | (refine Br.s (fun _ => ?_) (fun _ => ?_) <;> (first | (exfalso; omega; done) | skip)) | (refine Br.mk (fun _ => ?_) (fun _ => ?_) <;> (first | (exfalso; omega; done) | skip)))
           | (refine regv_id ?_; first | refine RegV.qg ?_ | refine RegV.d ?_)
           | (refine gds_id ?_; apply GdS.mk)
           | (refine and_id ?_; exact ⟨rfl, rfl, rfl⟩)
           | (refine imp_id ?_; first | refine imp_s (fun _ => ?_) | refine fun _ => ?_)
           | refine NilB.mk (fun b hb => ?_)
           | (refine alv_and ?_ ?_; focus (first | rfl | done))
           | refine DrawV.mk [] ?_
           | (refine appc_id ?_; first | refine AppC.growA ?_ | refine AppC.place ?_))
  all_goals (try (conv => whnf))
  · rename_i hx hb
    have e := checkS_bad (by omega) (by omega) (by omega) (v := i) (by unfold badAt; simp only [eq_self, iff_true, true_iff, iff_false, false_iff, decide_eq_true_eq, decide_eq_false_iff_not, Bool.or_eq_true, Bool.and_eq_true, Bool.or_eq_false_iff, Bool.and_eq_false_iff, Bool.not_eq_true', Bool.not_eq_false', beq_iff_eq, beq_eq_false_iff_ne, bne_iff_ne, bne_eq_false_iff_eq, ne_eq, Bool.true_and, Bool.and_true, Bool.false_or, Bool.or_false, Bool.true_or, Bool.or_true, Bool.false_and, Bool.and_false, Bool.not_true, Bool.not_false, reduceCtorEq, not_false_eq_true, not_true_eq_false, and_true, true_and, or_false, false_or, or_true, true_or, and_false, false_and, Bool.cond_eq_ite]; omega) hok
    exact RetP.ii (by rw [e]) (by rw [e])
  · rename_i hx hb
    refine nx (i + 1) (by omega) ⟨by omega, fun u hu => ?_⟩ (AtS.mk [] [] rfl List.nodup_nil rfl rfl ?_)
    · by_cases e : u = i
      · subst e
        unfold badAt
        simp only [eq_self, iff_true, true_iff, iff_false, false_iff, decide_eq_true_eq, decide_eq_false_iff_not, Bool.or_eq_true, Bool.and_eq_true, Bool.or_eq_false_iff, Bool.and_eq_false_iff, Bool.not_eq_true', Bool.not_eq_false', beq_iff_eq, beq_eq_false_iff_ne, bne_iff_ne, bne_eq_false_iff_eq, ne_eq, Bool.true_and, Bool.and_true, Bool.false_or, Bool.or_false, Bool.true_or, Bool.or_true, Bool.false_and, Bool.and_false, Bool.not_true, Bool.not_false, reduceCtorEq, not_false_eq_true, not_true_eq_false, and_true, true_and, or_false, false_or, or_true, true_or, and_false, false_and, Bool.cond_eq_ite]
        omega
      · exact hok u (by omega)
    · rw [rooted_snoc ps i (by omega)]
      (repeat' (first | exact trivial | exact rfl | with_reducible assumption | (refine And.intro ?_ ?_) | (refine Exists.intro _ (And.intro rfl ?_)) | (refine Exists.intro _ (Exists.intro _ (And.intro rfl (And.intro rfl ?_)))) | (refine Or.inl ⟨rfl, rfl, ?_⟩) | (refine Or.inl ⟨rfl, ?_⟩; focus (fail_if_success (refine And.intro ?_ ?_))) | (refine Or.inl (?_ : (_ : Nat) = _ ∧ _); refine ⟨?_, ?_⟩; focus (first | (simp only [List.length_map]; done) | (simp only [List.length_map, List.length_append, List.length_cons, List.length_nil]; done))) | exact Or.inl rfl | (refine Or.inr (Or.inr ⟨?_, ?_⟩)) | (refine Or.inr ⟨?_, ?_⟩) | (refine fun h => ?_; first | exact h | exact rfl | (cases h; done)) | (refine om8 ?_; simp only [← List.map_drop, ← List.map_take]; exact rfl) | ((first | refine om1 ?_ | refine om2 ?_ | refine om3 ?_ | refine om4 ?_ | refine om5 ?_ | refine om6 ?_ | refine om7 ?_); first | (simp only [List.length_map]; done) | (simp only [List.length_map]; omega) | omega)))
  have hi' : i = ps.length := by omega
  subst hi'
  refine LoopV.on (σ := Nat) rfl (fun i => [(0, intX f ps), (4, I ps.length), (51, intX f ps), (52, I ps.length), (53, I i)]) (fun _ => []) (fun i => i ≤ ps.length ∧ ∀ u : Nat, u < i → hits ps ps.length u = true) (fun i => ps.length - i) 0 ?_ ⟨Nat.zero_le _, fun _ h => by omega⟩ ?_
  · refine AtS.mk [] [] rfl List.nodup_nil rfl rfl ?_
    (repeat' (first | exact trivial | exact rfl | with_reducible assumption | (refine And.intro ?_ ?_) | (refine Exists.intro _ (And.intro rfl ?_)) | (refine Exists.intro _ (Exists.intro _ (And.intro rfl (And.intro rfl ?_)))) | (refine Or.inl ⟨rfl, rfl, ?_⟩) | (refine Or.inl ⟨rfl, ?_⟩; focus (fail_if_success (refine And.intro ?_ ?_))) | (refine Or.inl (?_ : (_ : Nat) = _ ∧ _); refine ⟨?_, ?_⟩; focus (first | (simp only [List.length_map]; done) | (simp only [List.length_map, List.length_append, List.length_cons, List.length_nil]; done))) | exact Or.inl rfl | (refine Or.inr (Or.inr ⟨?_, ?_⟩)) | (refine Or.inr ⟨?_, ?_⟩) | (refine fun h => ?_; first | exact h | exact rfl | (cases h; done)) | (refine om8 ?_; simp only [← List.map_drop, ← List.map_take]; exact rfl) | ((first | refine om1 ?_ | refine om2 ?_ | refine om3 ?_ | refine om4 ?_ | refine om5 ?_ | refine om6 ?_ | refine om7 ?_); first | (simp only [List.length_map]; done) | (simp only [List.length_map]; omega) | omega)))
  rintro i ⟨hi, hall⟩
  repeat' (conv => whnf
           first
           | (refine get_id ?_; first | refine Get.mk _ rfl ?_ | refine Get.mk _ (int_get ps i rfl (by omega)) ?_)
           | (refine need_id ?_; first | refine Need.a ?_)
           | (refine eqk_id ?_; first | refine EqK.a ?_)
           | (refine br_id ?_; first | refine Br.t ?_ | refine Br.f ?_ | (refine Br.pos ?_ ?_; focus (with_reducible assumption)) | (refine Br.neg ?_ ?_; focus (with_reducible assumption)) | (refine Br.dpos ?_ ?_; focus (first | with_reducible exact rfl | with_reducible exact Int.le_refl _ | with_reducible assumption)) | (refine Br.dneg ?_ ?_; focus (with_reducible assumption)) | (refine Br.d (fun _ => ?_) (fun _ => ?_) <;> (first | (exfalso; omega; done) | skip)) | refine Br.n ?_ | (refine Br.s (fun _ => ?_) (fun _ => ?_) <;> (first | (exfalso; omega; done) | skip)) | (refine Br.mk (fun _ => ?_) (fun _ => ?_) <;> (first | (exfalso; omega; done) | skip)))
           | (refine regv_id ?_; first | refine RegV.qg ?_ | refine RegV.d ?_)
           | (refine gds_id ?_; apply GdS.mk)
           | (refine and_id ?_; exact ⟨rfl, rfl, rfl⟩)
           | (refine imp_id ?_; first | refine imp_s (fun _ => ?_) | refine fun _ => ?_)
           | refine NilB.mk (fun b hb => ?_)
           | (refine alv_and ?_ ?_; focus (first | rfl | done))
           | refine DrawV.mk [] ?_
           | (refine appc_id ?_; first | refine AppC.growA ?_ | refine AppC.place ?_))
  all_goals (try (conv => whnf))
  · refine LoopV.on (σ := Nat × Int) rfl (fun s => [(0, intX f ps), (4, I ps.length), (8, I i), (9, I s.2), (51, intX f ps), (52, I ps.length), (53, I i), (57, I ps.length), (58, I s.1)]) (fun _ => []) (fun s => s.1 ≤ ps.length ∧ 0 ≤ s.2 ∧ s.2 < ps.length ∧ hits ps (ps.length - s.1) s.2 = hits ps ps.length i) (fun s => ps.length - s.1) (0, i) ?_ ⟨Nat.zero_le _, by simp, by simp; omega, rfl⟩ ?_
    · refine AtS.mk [] [] rfl List.nodup_nil rfl rfl ?_
      (repeat' (first | exact trivial | exact rfl | with_reducible assumption | (refine And.intro ?_ ?_) | (refine Exists.intro _ (And.intro rfl ?_)) | (refine Exists.intro _ (Exists.intro _ (And.intro rfl (And.intro rfl ?_)))) | (refine Or.inl ⟨rfl, rfl, ?_⟩) | (refine Or.inl ⟨rfl, ?_⟩; focus (fail_if_success (refine And.intro ?_ ?_))) | (refine Or.inl (?_ : (_ : Nat) = _ ∧ _); refine ⟨?_, ?_⟩; focus (first | (simp only [List.length_map]; done) | (simp only [List.length_map, List.length_append, List.length_cons, List.length_nil]; done))) | exact Or.inl rfl | (refine Or.inr (Or.inr ⟨?_, ?_⟩)) | (refine Or.inr ⟨?_, ?_⟩) | (refine fun h => ?_; first | exact h | exact rfl | (cases h; done)) | (refine om8 ?_; simp only [← List.map_drop, ← List.map_take]; exact rfl) | ((first | refine om1 ?_ | refine om2 ?_ | refine om3 ?_ | refine om4 ?_ | refine om5 ?_ | refine om6 ?_ | refine om7 ?_); first | (simp only [List.length_map]; done) | (simp only [List.length_map]; omega) | omega)))
    rintro ⟨k, a⟩ ⟨hk, ha0, ha1, hh⟩
    simp only at hk ha0 ha1 hh
    dsimp only
    have hb := ok_bounds hok ha0 ha1
    repeat' (conv => whnf
             first
             | (refine get_id ?_; first | refine Get.mk _ rfl ?_ | refine Get.mk _ (int_get ps a.toNat rfl (by omega)) ?_)
             | (refine need_id ?_; first | refine Need.a ?_)
             | (refine eqk_id ?_; first | refine EqK.a ?_)
             | (refine br_id ?_; first | refine Br.t ?_ | refine Br.f ?_ | (refine Br.pos ?_ ?_; focus (with_reducible assumption)) | (refine Br.neg ?_ ?_; focus (with_reducible assumption)) | (refine Br.dpos ?_ ?_; focus (first | with_reducible exact rfl | with_reducible exact Int.le_refl _ | with_reducible assumption)) | (refine Br.dneg ?_ ?_; focus (with_reducible assumption)) | (refine Br.d (fun _ => ?_) (fun _ => ?_) <;> (first | (exfalso; omega; done) | skip)) | refine Br.n ?_ | (refine Br.s (fun _ => ?_) (fun _ => ?_) <;> (first | (exfalso; omega; done) | skip)) | (refine Br.mk (fun _ => ?_) (fun _ => ?_) <;> (first | (exfalso; omega; done) | skip)))
             | (refine regv_id ?_; first | refine RegV.qg ?_ | refine RegV.d ?_)
             | (refine gds_id ?_; apply GdS.mk)
             | (refine and_id ?_; exact ⟨rfl, rfl, rfl⟩)
             | (refine imp_id ?_; first | refine imp_s (fun _ => ?_) | refine fun _ => ?_)
             | refine NilB.mk (fun b hb => ?_)
             | (refine alv_and ?_ ?_; focus (first | rfl | done))
             | refine DrawV.mk [] ?_
             | (refine appc_id ?_; first | refine AppC.growA ?_ | refine AppC.place ?_))
    all_goals (try (conv => whnf))
    · rename_i h1 h2
      refine nx (i + 1) (by omega) ⟨by omega, fun u hu => ?_⟩ (AtS.mk [] [] rfl List.nodup_nil rfl rfl ?_)
      · by_cases e : u = i
        · subst e
          rw [← hh, hits_succ ps (by omega), if_pos h2]
        · exact hall u (by omega)
      · (repeat' (first | exact trivial | exact rfl | with_reducible assumption | (refine And.intro ?_ ?_) | (refine Exists.intro _ (And.intro rfl ?_)) | (refine Exists.intro _ (Exists.intro _ (And.intro rfl (And.intro rfl ?_)))) | (refine Or.inl ⟨rfl, rfl, ?_⟩) | (refine Or.inl ⟨rfl, ?_⟩; focus (fail_if_success (refine And.intro ?_ ?_))) | (refine Or.inl (?_ : (_ : Nat) = _ ∧ _); refine ⟨?_, ?_⟩; focus (first | (simp only [List.length_map]; done) | (simp only [List.length_map, List.length_append, List.length_cons, List.length_nil]; done))) | exact Or.inl rfl | (refine Or.inr (Or.inr ⟨?_, ?_⟩)) | (refine Or.inr ⟨?_, ?_⟩) | (refine fun h => ?_; first | exact h | exact rfl | (cases h; done)) | (refine om8 ?_; simp only [← List.map_drop, ← List.map_take]; exact rfl) | ((first | refine om1 ?_ | refine om2 ?_ | refine om3 ?_ | refine om4 ?_ | refine om5 ?_ | refine om6 ?_ | refine om7 ?_); first | (simp only [List.length_map]; done) | (simp only [List.length_map]; omega) | omega)))
    · rename_i h1 h2
      refine nx (k + 1, ps.getD a.toNat 0) (by simp only; omega) ⟨by simp only; omega, by simp only; omega, by simp only; omega, ?_⟩ (AtS.mk [] [] rfl List.nodup_nil rfl rfl ?_)
      · simp only
        rw [← hh, hits_succ ps (show 0 < ps.length - k by omega), if_neg h2]
        rfl
      · (repeat' (first | exact trivial | exact rfl | with_reducible assumption | (refine And.intro ?_ ?_) | (refine Exists.intro _ (And.intro rfl ?_)) | (refine Exists.intro _ (Exists.intro _ (And.intro rfl (And.intro rfl ?_)))) | (refine Or.inl ⟨rfl, rfl, ?_⟩) | (refine Or.inl ⟨rfl, ?_⟩; focus (fail_if_success (refine And.intro ?_ ?_))) | (refine Or.inl (?_ : (_ : Nat) = _ ∧ _); refine ⟨?_, ?_⟩; focus (first | (simp only [List.length_map]; done) | (simp only [List.length_map, List.length_append, List.length_cons, List.length_nil]; done))) | exact Or.inl rfl | (refine Or.inr (Or.inr ⟨?_, ?_⟩)) | (refine Or.inr ⟨?_, ?_⟩) | (refine fun h => ?_; first | exact h | exact rfl | (cases h; done)) | (refine om8 ?_; simp only [← List.map_drop, ← List.map_take]; exact rfl) | ((first | refine om1 ?_ | refine om2 ?_ | refine om3 ?_ | refine om4 ?_ | refine om5 ?_ | refine om6 ?_ | refine om7 ?_); first | (simp only [List.length_map]; done) | (simp only [List.length_map]; omega) | omega)))
    · rename_i h1
      have e := checkS_far (by omega) (by omega) hok (v := i) (by omega) (by rw [← hh, show ps.length - k = 0 by omega]; rfl) hall
      exact RetP.ii (by rw [e]) (by rw [e])
  · have e := checkS_ok (by omega) (by omega) hok (fun u hu => hall u (by omega))
    exact RetP.ii (by rw [e]) (by rw [e])
end Go.Proofs.Ytobojnfhhobnkaa
