/- tree: Check, Size, Root, Neighbours, Next, Path, Dist, Edges of trees and of the nil tree; the reference's Check, Near, Neighbours. -/
import Derived.Test.YtiklbnianbejdaaBase
set_option linter.unusedSimpArgs false
set_option maxRecDepth 20000
set_option linter.unusedVariables false
/- tree: lists of numbers; Check on both sides. -/
namespace Go.Proofs.Ytiklbnianbejdaa
open Go Go.Eng Go.RowKit

abbrev intR (ps : List Int) : List (List Sv) := ps.map fun p => [I p]
abbrev intX (f : Bool) (ps : List Int) : Sv := .ext f 1 (intR ps)
def intB (ps : List Int) : Blk := mkB 3 1 (intR ps)
theorem int_fr (ps : List Int) : FrR (intR ps) := FrR_map (fun p => [I p]) (fun c => by simp [Sv.Fr.go, Sv.Fr]) ps
theorem int_get (ps : List Int) {n : Nat} (k : Nat) (hn : n = k) (h : k < ps.length) : nth (intR ps) n = some [I (ps.getD k 0)] := by
  rw [nth_map (fun p => [I p]) ps k hn h]
  simp [h]

/-- Within k steps up a root is met. -/
def hits (ps : List Int) : Nat → Int → Bool
  | 0, _ => false
  | k + 1, a => if ps.getD a.toNat 0 = -1 then true else hits ps k (ps.getD a.toNat 0)
/-- A fault of the node's own. -/
def badAt (ps : List Int) (v : Nat) : Bool := decide (ps.getD v 0 < -1) || decide ((ps.length : Int) ≤ ps.getD v 0) || decide (ps.getD v 0 = v) || (decide (ps.getD v 0 = -1) && (ps.take v).any (· == -1))
def checkS (ps : List Int) : Int × Int :=
  if ps.length = 0 then (0, 1) else if ps.length > 32 then (0, 3) else
    match (List.range ps.length).find? (badAt ps) with
    | some v => (v, 10)
    | none => match (List.range ps.length).find? (fun v : Nat => !hits ps ps.length (v : Int)) with
      | some v => (v, 10)
      | none => (0, 0)
theorem find_range {n : Nat} {p : Nat → Bool} {v : Nat} (hv : v < n) (hp : p v = true) (h : ∀ u, u < v → p u = false) : (List.range n).find? p = some v := by
  rw [List.find?_range_eq_some]
  exact ⟨hp, by simpa using hv, fun u hu => by simp [h u hu]⟩
theorem find_range_none {n : Nat} {p : Nat → Bool} (h : ∀ u, u < n → p u = false) : (List.range n).find? p = none := by
  rw [List.find?_eq_none]
  intro u hu
  simp [h u (List.mem_range.1 hu)]
theorem rooted_snoc (ps : List Int) (i : Nat) (h : i < ps.length) : (ps.take (i + 1)).any (· == -1) = ((ps.take i).any (· == -1) || (ps.getD i 0 == -1)) := by
  rw [List.take_succ_eq_append_getElem h, List.any_append]
  simp [h]
theorem RetP.ii {hp : Hp} {a b c d : Int} (h1 : a = c) (h2 : b = d) : RetP hp (.tup [I a, I b]) (.tup [I c, I d]) [] := by
  subst h1
  subst h2
  exact RetP.go [] [] (by simp) rfl ⟨rfl, rfl, rfl⟩ ⟨trivial, trivial, trivial⟩ trivial
/-- Nothing is wrong with the nodes ahead of i. -/
def okTo (ps : List Int) (i : Nat) : Prop := ∀ u, u < i → badAt ps u = false
theorem ok_bounds {ps : List Int} (h : okTo ps ps.length) {a : Int} (h0 : 0 ≤ a) (h1 : a < ps.length) : -1 ≤ ps.getD a.toNat 0 ∧ ps.getD a.toNat 0 < ps.length := by
  have := h a.toNat (by omega)
  simp only [badAt, eq_self, iff_true, true_iff, iff_false, false_iff, decide_eq_true_eq, decide_eq_false_iff_not, Bool.or_eq_true, Bool.and_eq_true, Bool.or_eq_false_iff, Bool.and_eq_false_iff, Bool.not_eq_true', Bool.not_eq_false', beq_iff_eq, beq_eq_false_iff_ne, bne_iff_ne, bne_eq_false_iff_eq, ne_eq, Bool.true_and, Bool.and_true, Bool.false_or, Bool.or_false, Bool.true_or, Bool.or_true, Bool.false_and, Bool.and_false, Bool.not_true, Bool.not_false, reduceCtorEq, not_false_eq_true, not_true_eq_false, and_true, true_and, or_false, false_or, or_true, true_or, and_false, false_and, Bool.cond_eq_ite] at this
  omega
theorem checkS_bad {ps : List Int} (h0 : ps.length ≠ 0) (h1 : ps.length ≤ 32) {v : Nat} (hv : v < ps.length) (hb : badAt ps v = true) (h : okTo ps v) : checkS ps = ((v : Int), 10) := by
  unfold checkS
  rw [if_neg h0, if_neg (by omega), find_range hv hb h]
theorem checkS_far {ps : List Int} (h0 : ps.length ≠ 0) (h1 : ps.length ≤ 32) (ho : okTo ps ps.length) {v : Nat} (hv : v < ps.length) (hb : hits ps ps.length v = false) (h : ∀ u : Nat, u < v → hits ps ps.length u = true) : checkS ps = ((v : Int), 10) := by
  unfold checkS
  rw [if_neg h0, if_neg (by omega), find_range_none ho]
  simp only
  rw [find_range hv (by simp [hb]) (fun u hu => by simp [h u hu])]
theorem checkS_ok {ps : List Int} (h0 : ps.length ≠ 0) (h1 : ps.length ≤ 32) (ho : okTo ps ps.length) (h : ∀ u : Nat, u < ps.length → hits ps ps.length u = true) : checkS ps = (0, 0) := by
  unfold checkS
  rw [if_neg h0, if_neg (by omega), find_range_none ho]
  simp only
  rw [find_range_none (fun u hu => by simp [h u hu])]
theorem hits_succ (ps : List Int) {m : Nat} (hm : 0 < m) (a : Int) : hits ps m a = if ps.getD a.toNat 0 = -1 then true else hits ps (m - 1) (ps.getD a.toNat 0) := by
  cases m with
  | zero => omega
  | succ m => rfl
set_option maxHeartbeats 1000000 in
theorem check_pcon (f : Bool) (ps : List Int) (h : ps.length < 9223372036854775808) : PCon Try.prog 32 [intX f ps] (.tup [I (checkS ps).1, I (checkS ps).2]) [] := by
  refine pcon_of (G := gm) Try.func32 rfl rfl rfl ?_
  repeat' (conv => whnf
           first
           | (refine get_id ?_; first | refine Get.mk _ rfl ?_)
           | (refine need_id ?_; first | refine Need.a ?_)
           | (refine eqk_id ?_; first | refine EqK.a ?_)
           | (refine br_id ?_; first | refine Br.t ?_ | refine Br.f ?_ | (refine Br.pos ?_ ?_; focus (with_reducible assumption)) | (refine Br.neg ?_ ?_; focus (with_reducible assumption)) | (refine Br.dpos ?_ ?_; focus (first | with_reducible exact rfl | with_reducible exact Int.le_refl _ | with_reducible assumption)) | (refine Br.dneg ?_ ?_; focus (with_reducible assumption)) | (refine Br.d (fun _ => ?_) (fun _ => ?_) <;> (first | (exfalso; omega; done) | skip)) | refine Br.n ?_ | (refine Br.s (fun _ => ?_) (fun _ => ?_) <;> (first | (exfalso; omega; done) | skip)) | (refine Br.mk (fun _ => ?_) (fun _ => ?_) <;> (first | (exfalso; omega; done) | skip)))
           | (refine regv_id ?_; first | refine RegV.qg ?_ | refine RegV.d ?_)
           | (refine gds_id ?_; apply GdS.mk)
           | (refine and_id ?_; exact ⟨rfl, rfl, rfl⟩)
           | (refine imp_id ?_; first | refine imp_s (fun _ => ?_) | refine fun _ => ?_)
           | refine NilB.mk (fun b hb => ?_)
           | (refine alv_and ?_ ?_; focus (first | rfl | done))
           | refine DrawV.mk [] ?_
           | (refine appc_id ?_; first | refine AppC.growA ?_ | refine AppC.place ?_))
  all_goals (try (conv => whnf))
  · exact RetP.ii (by unfold checkS; rw [if_pos (by omega)]) (by unfold checkS; rw [if_pos (by omega)])
  · exact RetP.ii (by unfold checkS; rw [if_neg (by omega), if_pos (by omega)]) (by unfold checkS; rw [if_neg (by omega), if_pos (by omega)])
  refine LoopV.on (σ := Nat) rfl (fun i => [(0, intX f ps), (4, I ps.length), (5, Bo ((ps.take i).any (· == -1))), (18, intX f ps), (19, I ps.length), (20, I i)]) (fun _ => []) (fun i => i ≤ ps.length ∧ okTo ps i) (fun i => ps.length - i) 0 ?_ ⟨Nat.zero_le _, fun _ h => by omega⟩ ?_
  · refine AtS.mk [] [] rfl List.nodup_nil rfl rfl ?_
    (repeat' (first | exact trivial | exact rfl | with_reducible assumption | (refine And.intro ?_ ?_) | (refine Exists.intro _ (And.intro rfl ?_)) | (refine Exists.intro _ (Exists.intro _ (And.intro rfl (And.intro rfl ?_)))) | (refine Or.inl ⟨rfl, rfl, ?_⟩) | (refine Or.inl ⟨rfl, ?_⟩; focus (fail_if_success (refine And.intro ?_ ?_))) | (refine Or.inl (?_ : (_ : Nat) = _ ∧ _); refine ⟨?_, ?_⟩; focus (first | (simp only [List.length_map]; done) | (simp only [List.length_map, List.length_append, List.length_cons, List.length_nil]; done))) | exact Or.inl rfl | (refine Or.inr (Or.inr ⟨?_, ?_⟩)) | (refine Or.inr ⟨?_, ?_⟩) | (refine fun h => ?_; first | exact h | exact rfl | (cases h; done)) | (refine om8 ?_; simp only [← List.map_drop, ← List.map_take]; exact rfl) | ((first | refine om1 ?_ | refine om2 ?_ | refine om3 ?_ | refine om4 ?_ | refine om5 ?_ | refine om6 ?_ | refine om7 ?_); first | (simp only [List.length_map]; done) | (simp only [List.length_map]; omega) | omega)))
  rintro i ⟨hi, hok⟩
  repeat' (conv => whnf
           first
           | (refine get_id ?_; first | refine Get.mk _ rfl ?_ | refine Get.mk _ (int_get ps i rfl (by omega)) ?_)
           | (refine need_id ?_; first | refine Need.a ?_)
           | (refine eqk_id ?_; first | refine EqK.a ?_)
           | (refine br_id ?_; first | refine Br.t ?_ | refine Br.f ?_ | (refine Br.pos ?_ ?_; focus (with_reducible assumption)) | (refine Br.neg ?_ ?_; focus (with_reducible assumption)) | (refine Br.dpos ?_ ?_; focus (first | with_reducible exact rfl | with_reducible exact Int.le_refl _ | with_reducible assumption)) | (refine Br.dneg ?_ ?_; focus (with_reducible assumption)) | (refine Br.d (fun _ => ?_) (fun _ => ?_) <;> (first | (exfalso; omega; done) | skip)) | refine Br.n ?_ | (refine Br.s (fun _ => ?_) (fun _ => ?_) <;> (first | (exfalso; omega; done) | skip)) | (refine Br.mk (fun _ => ?_) (fun _ => ?_) <;> (first | (exfalso; omega; done) | skip)))
           | (refine regv_id ?_; first | refine RegV.qg ?_ | refine RegV.d ?_)
           | (refine gds_id ?_; apply GdS.mk)
           | (refine and_id ?_; exact ⟨rfl, rfl, rfl⟩)
           | (refine imp_id ?_; first | refine imp_s (fun _ => ?_) | refine fun _ => ?_)
           | refine NilB.mk (fun b hb => ?_)
           | (refine alv_and ?_ ?_; focus (first | rfl | done))
           | refine DrawV.mk [] ?_
           | (refine appc_id ?_; first | refine AppC.growA ?_ | refine AppC.place ?_))
  all_goals (try (conv => whnf))
  · rename_i hx hb
    have e := checkS_bad (by omega) (by omega) (by omega) (v := i) (by unfold badAt; simp only [eq_self, iff_true, true_iff, iff_false, false_iff, decide_eq_true_eq, decide_eq_false_iff_not, Bool.or_eq_true, Bool.and_eq_true, Bool.or_eq_false_iff, Bool.and_eq_false_iff, Bool.not_eq_true', Bool.not_eq_false', beq_iff_eq, beq_eq_false_iff_ne, bne_iff_ne, bne_eq_false_iff_eq, ne_eq, Bool.true_and, Bool.and_true, Bool.false_or, Bool.or_false, Bool.true_or, Bool.or_true, Bool.false_and, Bool.and_false, Bool.not_true, Bool.not_false, reduceCtorEq, not_false_eq_true, not_true_eq_false, and_true, true_and, or_false, false_or, or_true, true_or, and_false, false_and, Bool.cond_eq_ite]; omega) hok
    exact RetP.ii (by rw [e]) (by rw [e])
  · rename_i hx hb
    refine nx (i + 1) (by omega) ⟨by omega, fun u hu => ?_⟩ (AtS.mk [] [] rfl List.nodup_nil rfl rfl ?_)
    · by_cases e : u = i
      · subst e
        unfold badAt
        simp only [eq_self, iff_true, true_iff, iff_false, false_iff, decide_eq_true_eq, decide_eq_false_iff_not, Bool.or_eq_true, Bool.and_eq_true, Bool.or_eq_false_iff, Bool.and_eq_false_iff, Bool.not_eq_true', Bool.not_eq_false', beq_iff_eq, beq_eq_false_iff_ne, bne_iff_ne, bne_eq_false_iff_eq, ne_eq, Bool.true_and, Bool.and_true, Bool.false_or, Bool.or_false, Bool.true_or, Bool.or_true, Bool.false_and, Bool.and_false, Bool.not_true, Bool.not_false, reduceCtorEq, not_false_eq_true, not_true_eq_false, and_true, true_and, or_false, false_or, or_true, true_or, and_false, false_and, Bool.cond_eq_ite]
        omega
      · exact hok u (by omega)
    · rw [rooted_snoc ps i (by omega)]
      (repeat' (first | exact trivial | exact rfl | with_reducible assumption | (refine And.intro ?_ ?_) | (refine Exists.intro _ (And.intro rfl ?_)) | (refine Exists.intro _ (Exists.intro _ (And.intro rfl (And.intro rfl ?_)))) | (refine Or.inl ⟨rfl, rfl, ?_⟩) | (refine Or.inl ⟨rfl, ?_⟩; focus (fail_if_success (refine And.intro ?_ ?_))) | (refine Or.inl (?_ : (_ : Nat) = _ ∧ _); refine ⟨?_, ?_⟩; focus (first | (simp only [List.length_map]; done) | (simp only [List.length_map, List.length_append, List.length_cons, List.length_nil]; done))) | exact Or.inl rfl | (refine Or.inr (Or.inr ⟨?_, ?_⟩)) | (refine Or.inr ⟨?_, ?_⟩) | (refine fun h => ?_; first | exact h | exact rfl | (cases h; done)) | (refine om8 ?_; simp only [← List.map_drop, ← List.map_take]; exact rfl) | ((first | refine om1 ?_ | refine om2 ?_ | refine om3 ?_ | refine om4 ?_ | refine om5 ?_ | refine om6 ?_ | refine om7 ?_); first | (simp only [List.length_map]; done) | (simp only [List.length_map]; omega) | omega)))
  have hi' : i = ps.length := by omega
  subst hi'
  refine LoopV.on (σ := Nat) rfl (fun i => [(0, intX f ps), (4, I ps.length), (51, intX f ps), (52, I ps.length), (53, I i)]) (fun _ => []) (fun i => i ≤ ps.length ∧ ∀ u : Nat, u < i → hits ps ps.length u = true) (fun i => ps.length - i) 0 ?_ ⟨Nat.zero_le _, fun _ h => by omega⟩ ?_
  · refine AtS.mk [] [] rfl List.nodup_nil rfl rfl ?_
    (repeat' (first | exact trivial | exact rfl | with_reducible assumption | (refine And.intro ?_ ?_) | (refine Exists.intro _ (And.intro rfl ?_)) | (refine Exists.intro _ (Exists.intro _ (And.intro rfl (And.intro rfl ?_)))) | (refine Or.inl ⟨rfl, rfl, ?_⟩) | (refine Or.inl ⟨rfl, ?_⟩; focus (fail_if_success (refine And.intro ?_ ?_))) | (refine Or.inl (?_ : (_ : Nat) = _ ∧ _); refine ⟨?_, ?_⟩; focus (first | (simp only [List.length_map]; done) | (simp only [List.length_map, List.length_append, List.length_cons, List.length_nil]; done))) | exact Or.inl rfl | (refine Or.inr (Or.inr ⟨?_, ?_⟩)) | (refine Or.inr ⟨?_, ?_⟩) | (refine fun h => ?_; first | exact h | exact rfl | (cases h; done)) | (refine om8 ?_; simp only [← List.map_drop, ← List.map_take]; exact rfl) | ((first | refine om1 ?_ | refine om2 ?_ | refine om3 ?_ | refine om4 ?_ | refine om5 ?_ | refine om6 ?_ | refine om7 ?_); first | (simp only [List.length_map]; done) | (simp only [List.length_map]; omega) | omega)))
  rintro i ⟨hi, hall⟩
  repeat' (conv => whnf
           first
           | (refine get_id ?_; first | refine Get.mk _ rfl ?_ | refine Get.mk _ (int_get ps i rfl (by omega)) ?_)
           | (refine need_id ?_; first | refine Need.a ?_)
           | (refine eqk_id ?_; first | refine EqK.a ?_)
           | (refine br_id ?_; first | refine Br.t ?_ | refine Br.f ?_ | (refine Br.pos ?_ ?_; focus (with_reducible assumption)) | (refine Br.neg ?_ ?_; focus (with_reducible assumption)) | (refine Br.dpos ?_ ?_; focus (first | with_reducible exact rfl | with_reducible exact Int.le_refl _ | with_reducible assumption)) | (refine Br.dneg ?_ ?_; focus (with_reducible assumption)) | (refine Br.d (fun _ => ?_) (fun _ => ?_) <;> (first | (exfalso; omega; done) | skip)) | refine Br.n ?_ | (refine Br.s (fun _ => ?_) (fun _ => ?_) <;> (first | (exfalso; omega; done) | skip)) | (refine Br.mk (fun _ => ?_) (fun _ => ?_) <;> (first | (exfalso; omega; done) | skip)))
           | (refine regv_id ?_; first | refine RegV.qg ?_ | refine RegV.d ?_)
           | (refine gds_id ?_; apply GdS.mk)
           | (refine and_id ?_; exact ⟨rfl, rfl, rfl⟩)
           | (refine imp_id ?_; first | refine imp_s (fun _ => ?_) | refine fun _ => ?_)
           | refine NilB.mk (fun b hb => ?_)
           | (refine alv_and ?_ ?_; focus (first | rfl | done))
           | refine DrawV.mk [] ?_
           | (refine appc_id ?_; first | refine AppC.growA ?_ | refine AppC.place ?_))
  all_goals (try (conv => whnf))
  · refine LoopV.on (σ := Nat × Int) rfl (fun s => [(0, intX f ps), (4, I ps.length), (8, I i), (9, I s.2), (51, intX f ps), (52, I ps.length), (53, I i), (57, I ps.length), (58, I s.1)]) (fun _ => []) (fun s => s.1 ≤ ps.length ∧ 0 ≤ s.2 ∧ s.2 < ps.length ∧ hits ps (ps.length - s.1) s.2 = hits ps ps.length i) (fun s => ps.length - s.1) (0, i) ?_ ⟨Nat.zero_le _, by simp, by simp; omega, rfl⟩ ?_
    · refine AtS.mk [] [] rfl List.nodup_nil rfl rfl ?_
      (repeat' (first | exact trivial | exact rfl | with_reducible assumption | (refine And.intro ?_ ?_) | (refine Exists.intro _ (And.intro rfl ?_)) | (refine Exists.intro _ (Exists.intro _ (And.intro rfl (And.intro rfl ?_)))) | (refine Or.inl ⟨rfl, rfl, ?_⟩) | (refine Or.inl ⟨rfl, ?_⟩; focus (fail_if_success (refine And.intro ?_ ?_))) | (refine Or.inl (?_ : (_ : Nat) = _ ∧ _); refine ⟨?_, ?_⟩; focus (first | (simp only [List.length_map]; done) | (simp only [List.length_map, List.length_append, List.length_cons, List.length_nil]; done))) | exact Or.inl rfl | (refine Or.inr (Or.inr ⟨?_, ?_⟩)) | (refine Or.inr ⟨?_, ?_⟩) | (refine fun h => ?_; first | exact h | exact rfl | (cases h; done)) | (refine om8 ?_; simp only [← List.map_drop, ← List.map_take]; exact rfl) | ((first | refine om1 ?_ | refine om2 ?_ | refine om3 ?_ | refine om4 ?_ | refine om5 ?_ | refine om6 ?_ | refine om7 ?_); first | (simp only [List.length_map]; done) | (simp only [List.length_map]; omega) | omega)))
    rintro ⟨k, a⟩ ⟨hk, ha0, ha1, hh⟩
    simp only at hk ha0 ha1 hh
    dsimp only
    have hb := ok_bounds hok ha0 ha1
    repeat' (conv => whnf
             first
             | (refine get_id ?_; first | refine Get.mk _ rfl ?_ | refine Get.mk _ (int_get ps a.toNat rfl (by omega)) ?_)
             | (refine need_id ?_; first | refine Need.a ?_)
             | (refine eqk_id ?_; first | refine EqK.a ?_)
             | (refine br_id ?_; first | refine Br.t ?_ | refine Br.f ?_ | (refine Br.pos ?_ ?_; focus (with_reducible assumption)) | (refine Br.neg ?_ ?_; focus (with_reducible assumption)) | (refine Br.dpos ?_ ?_; focus (first | with_reducible exact rfl | with_reducible exact Int.le_refl _ | with_reducible assumption)) | (refine Br.dneg ?_ ?_; focus (with_reducible assumption)) | (refine Br.d (fun _ => ?_) (fun _ => ?_) <;> (first | (exfalso; omega; done) | skip)) | refine Br.n ?_ | (refine Br.s (fun _ => ?_) (fun _ => ?_) <;> (first | (exfalso; omega; done) | skip)) | (refine Br.mk (fun _ => ?_) (fun _ => ?_) <;> (first | (exfalso; omega; done) | skip)))
             | (refine regv_id ?_; first | refine RegV.qg ?_ | refine RegV.d ?_)
             | (refine gds_id ?_; apply GdS.mk)
             | (refine and_id ?_; exact ⟨rfl, rfl, rfl⟩)
             | (refine imp_id ?_; first | refine imp_s (fun _ => ?_) | refine fun _ => ?_)
             | refine NilB.mk (fun b hb => ?_)
             | (refine alv_and ?_ ?_; focus (first | rfl | done))
             | refine DrawV.mk [] ?_
             | (refine appc_id ?_; first | refine AppC.growA ?_ | refine AppC.place ?_))
    all_goals (try (conv => whnf))
    · rename_i h1 h2
      refine nx (i + 1) (by omega) ⟨by omega, fun u hu => ?_⟩ (AtS.mk [] [] rfl List.nodup_nil rfl rfl ?_)
      · by_cases e : u = i
        · subst e
          rw [← hh, hits_succ ps (by omega), if_pos h2]
        · exact hall u (by omega)
      · (repeat' (first | exact trivial | exact rfl | with_reducible assumption | (refine And.intro ?_ ?_) | (refine Exists.intro _ (And.intro rfl ?_)) | (refine Exists.intro _ (Exists.intro _ (And.intro rfl (And.intro rfl ?_)))) | (refine Or.inl ⟨rfl, rfl, ?_⟩) | (refine Or.inl ⟨rfl, ?_⟩; focus (fail_if_success (refine And.intro ?_ ?_))) | (refine Or.inl (?_ : (_ : Nat) = _ ∧ _); refine ⟨?_, ?_⟩; focus (first | (simp only [List.length_map]; done) | (simp only [List.length_map, List.length_append, List.length_cons, List.length_nil]; done))) | exact Or.inl rfl | (refine Or.inr (Or.inr ⟨?_, ?_⟩)) | (refine Or.inr ⟨?_, ?_⟩) | (refine fun h => ?_; first | exact h | exact rfl | (cases h; done)) | (refine om8 ?_; simp only [← List.map_drop, ← List.map_take]; exact rfl) | ((first | refine om1 ?_ | refine om2 ?_ | refine om3 ?_ | refine om4 ?_ | refine om5 ?_ | refine om6 ?_ | refine om7 ?_); first | (simp only [List.length_map]; done) | (simp only [List.length_map]; omega) | omega)))
    · rename_i h1 h2
      refine nx (k + 1, ps.getD a.toNat 0) (by simp only; omega) ⟨by simp only; omega, by simp only; omega, by simp only; omega, ?_⟩ (AtS.mk [] [] rfl List.nodup_nil rfl rfl ?_)
      · simp only
        rw [← hh, hits_succ ps (show 0 < ps.length - k by omega), if_neg h2]
        rfl
      · (repeat' (first | exact trivial | exact rfl | with_reducible assumption | (refine And.intro ?_ ?_) | (refine Exists.intro _ (And.intro rfl ?_)) | (refine Exists.intro _ (Exists.intro _ (And.intro rfl (And.intro rfl ?_)))) | (refine Or.inl ⟨rfl, rfl, ?_⟩) | (refine Or.inl ⟨rfl, ?_⟩; focus (fail_if_success (refine And.intro ?_ ?_))) | (refine Or.inl (?_ : (_ : Nat) = _ ∧ _); refine ⟨?_, ?_⟩; focus (first | (simp only [List.length_map]; done) | (simp only [List.length_map, List.length_append, List.length_cons, List.length_nil]; done))) | exact Or.inl rfl | (refine Or.inr (Or.inr ⟨?_, ?_⟩)) | (refine Or.inr ⟨?_, ?_⟩) | (refine fun h => ?_; first | exact h | exact rfl | (cases h; done)) | (refine om8 ?_; simp only [← List.map_drop, ← List.map_take]; exact rfl) | ((first | refine om1 ?_ | refine om2 ?_ | refine om3 ?_ | refine om4 ?_ | refine om5 ?_ | refine om6 ?_ | refine om7 ?_); first | (simp only [List.length_map]; done) | (simp only [List.length_map]; omega) | omega)))
    · rename_i h1
      have e := checkS_far (by omega) (by omega) hok (v := i) (by omega) (by rw [← hh, show ps.length - k = 0 by omega]; rfl) hall
      exact RetP.ii (by rw [e]) (by rw [e])
  · have e := checkS_ok (by omega) (by omega) hok (fun u hu => hall u (by omega))
    exact RetP.ii (by rw [e]) (by rw [e])
end Go.Proofs.Ytiklbnianbejdaa

/- tree: the reference's Check; small functions. -/
namespace Go.Proofs.Ytiklbnianbejdaa
open Go Go.Eng Go.RowKit

def roots (ps : List Int) (i : Nat) : Int := if (ps.take i).any (· == -1) = true then 1 else 0
theorem roots_snoc (ps : List Int) (i : Nat) (h : i < ps.length) : roots ps (i + 1) = if ps.getD i 0 = -1 then 1 else roots ps i := by
  unfold roots
  rw [rooted_snoc ps i h]
  by_cases hp : ps.getD i 0 = -1
  · rw [if_pos hp, if_pos (by simp only [eq_self, iff_true, true_iff, iff_false, false_iff, decide_eq_true_eq, decide_eq_false_iff_not, Bool.or_eq_true, Bool.and_eq_true, Bool.or_eq_false_iff, Bool.and_eq_false_iff, Bool.not_eq_true', Bool.not_eq_false', beq_iff_eq, beq_eq_false_iff_ne, bne_iff_ne, bne_eq_false_iff_eq, ne_eq, Bool.true_and, Bool.and_true, Bool.false_or, Bool.or_false, Bool.true_or, Bool.or_true, Bool.false_and, Bool.and_false, Bool.not_true, Bool.not_false, reduceCtorEq, not_false_eq_true, not_true_eq_false, and_true, true_and, or_false, false_or, or_true, true_or, and_false, false_and, Bool.cond_eq_ite]; exact .inr hp)]
  · rw [if_neg hp]
    have : (ps.getD i 0 == -1) = false := by simp only [eq_self, iff_true, true_iff, iff_false, false_iff, decide_eq_true_eq, decide_eq_false_iff_not, Bool.or_eq_true, Bool.and_eq_true, Bool.or_eq_false_iff, Bool.and_eq_false_iff, Bool.not_eq_true', Bool.not_eq_false', beq_iff_eq, beq_eq_false_iff_ne, bne_iff_ne, bne_eq_false_iff_eq, ne_eq, Bool.true_and, Bool.and_true, Bool.false_or, Bool.or_false, Bool.true_or, Bool.or_true, Bool.false_and, Bool.and_false, Bool.not_true, Bool.not_false, reduceCtorEq, not_false_eq_true, not_true_eq_false, and_true, true_and, or_false, false_or, or_true, true_or, and_false, false_and, Bool.cond_eq_ite]; exact hp
    rw [this, Bool.or_false]
theorem roots_range (ps : List Int) (i : Nat) : roots ps i = 0 ∧ (ps.take i).any (· == -1) = false ∨ roots ps i = 1 ∧ (ps.take i).any (· == -1) = true := by
  unfold roots
  cases (ps.take i).any (· == -1) <;> simp
end Go.Proofs.Ytiklbnianbejdaa

/- tree: a tree by content; has, Size, Root, Next, Neighbours; lists of numbers through slices. -/
namespace Go.Proofs.Ytiklbnianbejdaa
open Go Go.Eng Go.RowKit

/-- A tree: its parents, its nodes' neighbours. -/
abbrev treeX (f : Bool) (ps : List Int) (L : List (List Int)) : Sv := .ref f [intX true ps, .ext true 1 (L.map fun l => [intX true l])]
abbrev treeN : Sv := .val (.pointer none)
def hasB (ps : List Int) (v : Int) : Bool := decide (0 ≤ v) && decide (v < ps.length)
theorem has_pcon (f : Bool) (ps : List Int) (L : List (List Int)) (v : Int) : PCon Try.prog 59 [treeX f ps L, I v] (Bo (hasB ps v)) [] := by
  refine pcon_of (G := gm) Try.func59 rfl rfl rfl ?_
  repeat' (conv => whnf
           first
           | (refine get_id ?_; first | refine Get.mk _ rfl ?_)
           | (refine need_id ?_; first | refine Need.a ?_)
           | (refine eqk_id ?_; first | refine EqK.a ?_)
           | (refine br_id ?_; first | refine Br.t ?_ | refine Br.f ?_ | (refine Br.pos ?_ ?_; focus (with_reducible assumption)) | (refine Br.neg ?_ ?_; focus (with_reducible assumption)) | (refine Br.dpos ?_ ?_; focus (first | with_reducible exact rfl | with_reducible exact Int.le_refl _ | with_reducible assumption)) | (refine Br.dneg ?_ ?_; focus (with_reducible assumption)) | (refine Br.d (fun _ => ?_) (fun _ => ?_)) | refine Br.n ?_ | (refine Br.s (fun _ => ?_) (fun _ => ?_)) | (refine Br.mk (fun _ => ?_) (fun _ => ?_)))
           | (refine regv_id ?_; first | refine RegV.qg ?_ | refine RegV.d ?_)
           | (refine gds_id ?_; apply GdS.mk)
           | (refine and_id ?_; exact ⟨rfl, rfl, rfl⟩)
           | (refine imp_id ?_; first | refine imp_s (fun _ => ?_) | refine fun _ => ?_)
           | refine NilB.mk (fun b hb => ?_)
           | (refine alv_and ?_ ?_; focus (first | rfl | done))
           | refine DrawV.mk [] ?_
           | (refine appc_id ?_; first | refine AppC.growA ?_ | refine AppC.place ?_))
  all_goals (try (conv => whnf))
  exact RetP.v (by unfold hasB; simp)
theorem hasN_pcon (v : Int) : PCon Try.prog 59 [treeN, I v] (Bo false) [] := by
  refine pcon_of (G := gm) Try.func59 rfl rfl rfl ?_
  repeat' (conv => whnf
           first
           | (refine get_id ?_; first | refine Get.mk _ rfl ?_)
           | (refine need_id ?_; first | refine Need.a ?_)
           | (refine eqk_id ?_; first | refine EqK.a ?_)
           | (refine br_id ?_; first | refine Br.t ?_ | refine Br.f ?_ | (refine Br.pos ?_ ?_; focus (with_reducible assumption)) | (refine Br.neg ?_ ?_; focus (with_reducible assumption)) | (refine Br.dpos ?_ ?_; focus (first | with_reducible exact rfl | with_reducible exact Int.le_refl _ | with_reducible assumption)) | (refine Br.dneg ?_ ?_; focus (with_reducible assumption)) | (refine Br.d (fun _ => ?_) (fun _ => ?_)) | refine Br.n ?_ | (refine Br.s (fun _ => ?_) (fun _ => ?_)) | (refine Br.mk (fun _ => ?_) (fun _ => ?_)))
           | (refine regv_id ?_; first | refine RegV.d ?_)
           | refine NilB.mk (fun b hb => ?_)
           | (refine alv_and ?_ ?_; focus (first | rfl | done))
           | refine DrawV.mk [] ?_
           | (refine appc_id ?_; first | refine AppC.growA ?_ | refine AppC.place ?_))
  all_goals (try (conv => whnf))
  exact RetP.v (by simp)
theorem size_pcon (f : Bool) (ps : List Int) (L : List (List Int)) : PCon Try.prog 28 [treeX f ps L] (I ps.length) [] := by
  refine pcon_of (G := gm) Try.func28 rfl rfl rfl ?_
  repeat' (conv => whnf
           first
           | (refine get_id ?_; first | refine Get.mk _ rfl ?_)
           | (refine need_id ?_; first | refine Need.a ?_)
           | (refine eqk_id ?_; first | refine EqK.a ?_)
           | (refine br_id ?_; first | refine Br.t ?_ | refine Br.f ?_ | (refine Br.pos ?_ ?_; focus (with_reducible assumption)) | (refine Br.neg ?_ ?_; focus (with_reducible assumption)) | (refine Br.dpos ?_ ?_; focus (first | with_reducible exact rfl | with_reducible exact Int.le_refl _ | with_reducible assumption)) | (refine Br.dneg ?_ ?_; focus (with_reducible assumption)) | (refine Br.d (fun _ => ?_) (fun _ => ?_)) | refine Br.n ?_ | (refine Br.s (fun _ => ?_) (fun _ => ?_)) | (refine Br.mk (fun _ => ?_) (fun _ => ?_)))
           | (refine regv_id ?_; first | refine RegV.d ?_)
           | refine NilB.mk (fun b hb => ?_)
           | (refine alv_and ?_ ?_; focus (first | rfl | done))
           | refine DrawV.mk [] ?_
           | (refine appc_id ?_; first | refine AppC.growA ?_ | refine AppC.place ?_))
  all_goals (try (conv => whnf))
  exact RetP.v rfl
theorem sizeN_pcon : PCon Try.prog 28 [treeN] (I 0) [] := by
  refine pcon_of (G := gm) Try.func28 rfl rfl rfl ?_
  repeat' (conv => whnf
           first
           | (refine get_id ?_; first | refine Get.mk _ rfl ?_)
           | (refine need_id ?_; first | refine Need.a ?_)
           | (refine eqk_id ?_; first | refine EqK.a ?_)
           | (refine br_id ?_; first | refine Br.t ?_ | refine Br.f ?_ | (refine Br.pos ?_ ?_; focus (with_reducible assumption)) | (refine Br.neg ?_ ?_; focus (with_reducible assumption)) | (refine Br.dpos ?_ ?_; focus (first | with_reducible exact rfl | with_reducible exact Int.le_refl _ | with_reducible assumption)) | (refine Br.dneg ?_ ?_; focus (with_reducible assumption)) | (refine Br.d (fun _ => ?_) (fun _ => ?_)) | refine Br.n ?_ | (refine Br.s (fun _ => ?_) (fun _ => ?_)) | (refine Br.mk (fun _ => ?_) (fun _ => ?_)))
           | (refine regv_id ?_; first | refine RegV.d ?_)
           | refine NilB.mk (fun b hb => ?_)
           | (refine alv_and ?_ ?_; focus (first | rfl | done))
           | refine DrawV.mk [] ?_
           | (refine appc_id ?_; first | refine AppC.growA ?_ | refine AppC.place ?_))
  all_goals (try (conv => whnf))
  exact RetP.v rfl
def indexS (ps : List Int) (x : Int) : Int := match ps.findIdx? (· == x) with | some i => i | none => -1
theorem index_pcon (f : Bool) (ps : List Int) (x : Int) (h : ps.length < 9223372036854775808) : PCon Try.prog 82 [intX f ps, I x] (I (indexS ps x)) [] := by
  refine pcon_of (G := gm) Try.func82 rfl rfl rfl ?_
  repeat' (conv => whnf
           first
           | (refine get_id ?_; first | refine Get.mk _ rfl ?_)
           | (refine need_id ?_; first | refine Need.a ?_)
           | (refine eqk_id ?_; first | refine EqK.a ?_)
           | (refine br_id ?_; first | refine Br.t ?_ | refine Br.f ?_ | (refine Br.pos ?_ ?_; focus (with_reducible assumption)) | (refine Br.neg ?_ ?_; focus (with_reducible assumption)) | (refine Br.dpos ?_ ?_; focus (first | with_reducible exact rfl | with_reducible exact Int.le_refl _ | with_reducible assumption)) | (refine Br.dneg ?_ ?_; focus (with_reducible assumption)) | (refine Br.d (fun _ => ?_) (fun _ => ?_)) | refine Br.n ?_ | (refine Br.s (fun _ => ?_) (fun _ => ?_)) | (refine Br.mk (fun _ => ?_) (fun _ => ?_)))
           | (refine regv_id ?_; first | refine RegV.d ?_)
           | refine NilB.mk (fun b hb => ?_)
           | (refine alv_and ?_ ?_; focus (first | rfl | done))
           | refine DrawV.mk [] ?_
           | (refine appc_id ?_; first | refine AppC.growA ?_ | refine AppC.place ?_))
  all_goals (try (conv => whnf))
  refine LoopV.on (σ := Nat) rfl (fun i => [(0, intX f ps), (1, I x), (4, I 0), (6, intX f ps), (7, I ps.length), (8, I i)]) (fun _ => []) (fun i => i ≤ ps.length ∧ ∀ j (hj : j < ps.length), j < i → (ps[j] == x) = false) (fun i => ps.length - i) 0 ?_ ⟨Nat.zero_le _, fun _ _ h => by omega⟩ ?_
  · refine AtS.mk [] [] rfl List.nodup_nil rfl rfl ?_
    (repeat' (first | exact trivial | exact rfl | with_reducible assumption | (refine And.intro ?_ ?_) | (refine Exists.intro _ (And.intro rfl ?_)) | (refine Exists.intro _ (Exists.intro _ (And.intro rfl (And.intro rfl ?_)))) | (refine Or.inl ⟨rfl, rfl, ?_⟩) | (refine Or.inl ⟨rfl, ?_⟩; focus (fail_if_success (refine And.intro ?_ ?_))) | (refine Or.inl (?_ : (_ : Nat) = _ ∧ _); refine ⟨?_, ?_⟩; focus (first | (simp only [List.length_map]; done) | (simp only [List.length_map, List.length_append, List.length_cons, List.length_nil]; done))) | exact Or.inl rfl | (refine Or.inr (Or.inr ⟨?_, ?_⟩)) | (refine Or.inr ⟨?_, ?_⟩) | (refine fun h => ?_; first | exact h | exact rfl | (cases h; done)) | (refine om8 ?_; simp only [← List.map_drop, ← List.map_take]; exact rfl) | ((first | refine om1 ?_ | refine om2 ?_ | refine om3 ?_ | refine om4 ?_ | refine om5 ?_ | refine om6 ?_ | refine om7 ?_); first | (simp only [List.length_map]; done) | (simp only [List.length_map]; omega) | omega)))
  rintro i ⟨hi, hall⟩
  repeat' (conv => whnf
           first
           | (refine get_id ?_; first | refine Get.mk _ rfl ?_ | refine Get.mk _ (int_get ps i rfl (by omega)) ?_)
           | (refine need_id ?_; first | refine Need.a ?_)
           | (refine eqk_id ?_; first | refine EqK.a ?_)
           | (refine br_id ?_; first | refine Br.t ?_ | refine Br.f ?_ | (refine Br.pos ?_ ?_; focus (with_reducible assumption)) | (refine Br.neg ?_ ?_; focus (with_reducible assumption)) | (refine Br.dpos ?_ ?_; focus (first | with_reducible exact rfl | with_reducible exact Int.le_refl _ | with_reducible assumption)) | (refine Br.dneg ?_ ?_; focus (with_reducible assumption)) | (refine Br.d (fun _ => ?_) (fun _ => ?_) <;> (first | (exfalso; omega; done) | skip)) | refine Br.n ?_ | (refine Br.s (fun _ => ?_) (fun _ => ?_) <;> (first | (exfalso; omega; done) | skip)) | (refine Br.mk (fun _ => ?_) (fun _ => ?_) <;> (first | (exfalso; omega; done) | skip)))
           | (refine regv_id ?_; first | refine RegV.d ?_)
           | refine NilB.mk (fun b hb => ?_)
           | (refine alv_and ?_ ?_; focus (first | rfl | done))
           | refine DrawV.mk [] ?_
           | (refine appc_id ?_; first | refine AppC.growA ?_ | refine AppC.place ?_))
  all_goals (try (conv => whnf))
  · rename_i h1 h2
    have hi' : i < ps.length := by omega
    have e : ps.getD i 0 = ps[i] := by simp [hi']
    refine RetP.v ?_
    have : ps.findIdx? (· == x) = some i := by
      rw [List.findIdx?_eq_some_iff_getElem]
      exact ⟨hi', by rw [e] at h2; simp [h2], fun j hj => by rw [hall j (by omega) hj]; simp⟩
    unfold indexS
    rw [this]
  · rename_i h1 h2
    have hi' : i < ps.length := by omega
    have e : ps.getD i 0 = ps[i] := by simp [hi']
    refine nx (i + 1) (by omega) ⟨by omega, fun j hj h1 => ?_⟩ (AtS.mk [] [] rfl List.nodup_nil rfl rfl ?_)
    · by_cases e2 : j = i
      · subst e2
        rw [e] at h2
        simp only [eq_self, iff_true, true_iff, iff_false, false_iff, decide_eq_true_eq, decide_eq_false_iff_not, Bool.or_eq_true, Bool.and_eq_true, Bool.or_eq_false_iff, Bool.and_eq_false_iff, Bool.not_eq_true', Bool.not_eq_false', beq_iff_eq, beq_eq_false_iff_ne, bne_iff_ne, bne_eq_false_iff_eq, ne_eq, Bool.true_and, Bool.and_true, Bool.false_or, Bool.or_false, Bool.true_or, Bool.or_true, Bool.false_and, Bool.and_false, Bool.not_true, Bool.not_false, reduceCtorEq, not_false_eq_true, not_true_eq_false, and_true, true_and, or_false, false_or, or_true, true_or, and_false, false_and, Bool.cond_eq_ite]
        exact fun h5 => h2 h5.symm
      · exact hall j hj (by omega)
    · (repeat' (first | exact trivial | exact rfl | with_reducible assumption | (refine And.intro ?_ ?_) | (refine Exists.intro _ (And.intro rfl ?_)) | (refine Exists.intro _ (Exists.intro _ (And.intro rfl (And.intro rfl ?_)))) | (refine Or.inl ⟨rfl, rfl, ?_⟩) | (refine Or.inl ⟨rfl, ?_⟩; focus (fail_if_success (refine And.intro ?_ ?_))) | (refine Or.inl (?_ : (_ : Nat) = _ ∧ _); refine ⟨?_, ?_⟩; focus (first | (simp only [List.length_map]; done) | (simp only [List.length_map, List.length_append, List.length_cons, List.length_nil]; done))) | exact Or.inl rfl | (refine Or.inr (Or.inr ⟨?_, ?_⟩)) | (refine Or.inr ⟨?_, ?_⟩) | (refine fun h => ?_; first | exact h | exact rfl | (cases h; done)) | (refine om8 ?_; simp only [← List.map_drop, ← List.map_take]; exact rfl) | ((first | refine om1 ?_ | refine om2 ?_ | refine om3 ?_ | refine om4 ?_ | refine om5 ?_ | refine om6 ?_ | refine om7 ?_); first | (simp only [List.length_map]; done) | (simp only [List.length_map]; omega) | omega)))
  · refine RetP.v ?_
    have : ps.findIdx? (· == x) = none := by
      rw [List.findIdx?_eq_none_iff]
      intro y hy
      obtain ⟨j, hj, rfl⟩ := List.mem_iff_getElem.1 hy
      exact hall j hj (by omega)
    unfold indexS
    rw [this]
theorem clone_pcon (f : Bool) (ps : List Int) (h : ps.length * 8 ≤ 140737488355328) : PCon Try.prog 33 [intX f ps] (.own 0 ps.length) [intB ps] := by
  refine pcon_of (G := gm) Try.func33 rfl rfl rfl ?_
  repeat' (conv => whnf
           first
           | (refine get_id ?_; first | refine Get.mk _ rfl ?_)
           | (refine need_id ?_; first | refine Need.a ?_)
           | (refine eqk_id ?_; first | refine EqK.a ?_)
           | (refine br_id ?_; first | refine Br.t ?_ | refine Br.f ?_ | (refine Br.pos ?_ ?_; focus (with_reducible assumption)) | (refine Br.neg ?_ ?_; focus (with_reducible assumption)) | (refine Br.dpos ?_ ?_; focus (first | with_reducible exact rfl | with_reducible exact Int.le_refl _ | with_reducible assumption)) | (refine Br.dneg ?_ ?_; focus (with_reducible assumption)) | (refine Br.d (fun _ => ?_) (fun _ => ?_)) | refine Br.n ?_ | (refine Br.s (fun _ => ?_) (fun _ => ?_)) | (refine Br.mk (fun _ => ?_) (fun _ => ?_)))
           | (refine regv_id ?_; first | refine RegV.d ?_)
           | refine NilB.mk (fun b hb => ?_)
           | (refine alv_and ?_ ?_; focus (first | rfl | done))
           | refine DrawV.mk [] ?_
           | (refine appc_id ?_; first | refine AppC.growA ?_ | refine AppC.place ?_))
  all_goals (try (conv => whnf))
  · have : ps = [] := by
      cases ps with
      | nil => rfl
      | cons m cs => simp_all
    subst this
    exact RetP.nil
  · exact RetP.own rfl (int_fr ps)
/-- A tree that Check takes. -/
structure Tr1 (ps : List Int) : Prop where
  pos : 0 < ps.length
  le : ps.length ≤ 32
  ok : okTo ps ps.length
  up : ∀ u : Nat, u < ps.length → hits ps ps.length u = true
theorem find_range_iff {n : Nat} {p : Nat → Bool} : (List.range n).find? p = none ↔ ∀ u, u < n → p u = false := by
  rw [List.find?_eq_none]
  simp
theorem tr1_iff (ps : List Int) : (checkS ps).2 = 0 ↔ Tr1 ps := by
  unfold checkS
  constructor
  · intro h
    by_cases h1 : ps.length = 0
    · rw [if_pos h1] at h
      simp at h
    by_cases h2 : ps.length > 32
    · rw [if_neg h1, if_pos h2] at h
      simp at h
    rw [if_neg h1, if_neg h2] at h
    cases h3 : (List.range ps.length).find? (badAt ps) with
    | some v => rw [h3] at h; simp at h
    | none =>
      rw [h3] at h
      simp only at h
      cases h4 : (List.range ps.length).find? (fun v : Nat => !hits ps ps.length (v : Int)) with
      | some v => rw [h4] at h; simp at h
      | none => exact ⟨by omega, by omega, find_range_iff.1 h3, fun u hu => by have := find_range_iff.1 h4 u hu; simpa using this⟩
  · intro h
    rw [if_neg (by have := h.pos; omega), if_neg (by have := h.le; omega), find_range_none h.ok]
    simp only
    rw [find_range_none (fun u hu => by simp [h.up u hu])]
def climb (ps : List Int) (s : Int) : Nat → Int → Int
  | 0, _ => ps.getD s.toNat 0
  | k + 1, a => if a < 0 then ps.getD s.toNat 0 else if ps.getD a.toNat 0 = s then a else climb ps s k (ps.getD a.toNat 0)
def nextS (ps : List Int) (s t : Int) : Int :=
  if hasB ps s = false ∨ hasB ps t = false then -1 else if s = t then t else climb ps s ps.length t
theorem hasB_iff {ps : List Int} {v : Int} : hasB ps v = true ↔ 0 ≤ v ∧ v < ps.length := by
  unfold hasB
  simp
theorem climb_succ (ps : List Int) (s : Int) {m : Nat} (hm : 0 < m) (a : Int) : climb ps s m a = if a < 0 then ps.getD s.toNat 0 else if ps.getD a.toNat 0 = s then a else climb ps s (m - 1) (ps.getD a.toNat 0) := by
  cases m with
  | zero => omega
  | succ m => rfl
theorem climb_neg (ps : List Int) (s : Int) (k : Nat) {a : Int} (h : a < 0) : climb ps s k a = ps.getD s.toNat 0 := by
  cases k with
  | zero => rfl
  | succ k => simp [climb, h]
theorem hits_pos {ps : List Int} {k : Nat} {a : Int} (h : hits ps k a = true) : 0 < k := by
  cases k with
  | zero => cases h
  | succ k => omega
theorem next_pcon (f : Bool) (ps : List Int) (L : List (List Int)) (s t : Int) (h : Tr1 ps) : PCon Try.prog 29 [treeX f ps L, I s, I t] (I (nextS ps s t)) [] := by
  refine pcon_of (G := gm) Try.func29 rfl rfl rfl ?_
  have hpos := h.pos
  have hle := h.le
  cases hs : hasB ps s with
  | false =>
    have c1 := has_pcon f ps L s
    rw [hs] at c1
    repeat' (conv => whnf
             first
             | (refine get_id ?_; first | refine Get.mk _ rfl ?_)
             | (refine need_id ?_; first | refine Need.a ?_)
             | (refine eqk_id ?_; first | refine EqK.a ?_)
             | (refine br_id ?_; first | refine Br.t ?_ | refine Br.f ?_ | (refine Br.pos ?_ ?_; focus (with_reducible assumption)) | (refine Br.neg ?_ ?_; focus (with_reducible assumption)) | (refine Br.dpos ?_ ?_; focus (first | with_reducible exact rfl | with_reducible exact Int.le_refl _ | with_reducible assumption)) | (refine Br.dneg ?_ ?_; focus (with_reducible assumption)) | (refine Br.d (fun _ => ?_) (fun _ => ?_)) | refine Br.n ?_ | (refine Br.s (fun _ => ?_) (fun _ => ?_)) | (refine Br.mk (fun _ => ?_) (fun _ => ?_)))
             | (refine regv_id ?_; first | refine RegV.qg ?_ | refine RegV.d ?_)
             | (refine gds_id ?_; apply GdS.mk)
             | (refine and_id ?_; exact ⟨rfl, rfl, rfl⟩)
             | (refine imp_id ?_; first | refine imp_s (fun _ => ?_) | refine fun _ => ?_)
             | refine NilB.mk (fun b hb => ?_)
             | (refine alv_and ?_ ?_; focus (first | rfl | done))
             | refine DrawV.mk [] ?_
             | (refine appc_id ?_; first | refine AppC.growA ?_ | refine AppC.place ?_)
             | (refine call_id ?_; first
                  | refine CallV.c (c1) ?_
                  | refine CallV.c (has_pcon f ps L t) ?_
                  | refine CallV.e (c1) ?_
                  | refine CallV.e (has_pcon f ps L t) ?_)
             | (refine calls_id ?_; first
                  | refine CallS.c (c1) ?_
                  | refine CallS.c (has_pcon f ps L t) ?_
                  | refine CallS.e (c1) ?_
                  | refine CallS.e (has_pcon f ps L t) ?_))
    all_goals (try (conv => whnf))
    · exact RetP.v (by simp [nextS, hs])
    all_goals (exfalso; rename_i hx; simp at hx)
  | true =>
    cases ht : hasB ps t with
    | false =>
      have c1 := has_pcon f ps L s
      rw [hs] at c1
      have c2 := has_pcon f ps L t
      rw [ht] at c2
      repeat' (conv => whnf
               first
               | (refine get_id ?_; first | refine Get.mk _ rfl ?_)
               | (refine need_id ?_; first | refine Need.a ?_)
               | (refine eqk_id ?_; first | refine EqK.a ?_)
               | (refine br_id ?_; first | refine Br.t ?_ | refine Br.f ?_ | (refine Br.pos ?_ ?_; focus (with_reducible assumption)) | (refine Br.neg ?_ ?_; focus (with_reducible assumption)) | (refine Br.dpos ?_ ?_; focus (first | with_reducible exact rfl | with_reducible exact Int.le_refl _ | with_reducible assumption)) | (refine Br.dneg ?_ ?_; focus (with_reducible assumption)) | (refine Br.d (fun _ => ?_) (fun _ => ?_)) | refine Br.n ?_ | (refine Br.s (fun _ => ?_) (fun _ => ?_)) | (refine Br.mk (fun _ => ?_) (fun _ => ?_)))
               | (refine regv_id ?_; first | refine RegV.qg ?_ | refine RegV.d ?_)
               | (refine gds_id ?_; apply GdS.mk)
               | (refine and_id ?_; exact ⟨rfl, rfl, rfl⟩)
               | (refine imp_id ?_; first | refine imp_s (fun _ => ?_) | refine fun _ => ?_)
               | refine NilB.mk (fun b hb => ?_)
               | (refine alv_and ?_ ?_; focus (first | rfl | done))
               | refine DrawV.mk [] ?_
               | (refine appc_id ?_; first | refine AppC.growA ?_ | refine AppC.place ?_)
               | (refine call_id ?_; first
                    | refine CallV.c (c1) ?_
                    | refine CallV.c (c2) ?_
                    | refine CallV.e (c1) ?_
                    | refine CallV.e (c2) ?_)
               | (refine calls_id ?_; first
                    | refine CallS.c (c1) ?_
                    | refine CallS.c (c2) ?_
                    | refine CallS.e (c1) ?_
                    | refine CallS.e (c2) ?_))
      all_goals (try (conv => whnf))
      · exact RetP.v (by simp [nextS, ht])
      all_goals (exfalso; rename_i hx; simp at hx)
    | true =>
      have c1 := has_pcon f ps L s
      rw [hs] at c1
      have c2 := has_pcon f ps L t
      rw [ht] at c2
      have h1 := hasB_iff.1 hs
      have h2 := hasB_iff.1 ht
      have hn : s ≠ t → nextS ps s t = climb ps s ps.length t := fun hne => by simp [nextS, hs, ht, hne]
      have he : s = t → nextS ps s t = t := fun hne => by simp [nextS, hs, ht, hne]
      repeat' (conv => whnf
               first
               | (refine get_id ?_; first | refine Get.mk _ rfl ?_)
               | (refine need_id ?_; first | refine Need.a ?_)
               | (refine eqk_id ?_; first | refine EqK.a ?_)
               | (refine br_id ?_; first | refine Br.t ?_ | refine Br.f ?_ | (refine Br.pos ?_ ?_; focus (with_reducible assumption)) | (refine Br.neg ?_ ?_; focus (with_reducible assumption)) | (refine Br.dpos ?_ ?_; focus (first | with_reducible exact rfl | with_reducible exact Int.le_refl _ | with_reducible assumption)) | (refine Br.dneg ?_ ?_; focus (with_reducible assumption)) | (refine Br.d (fun _ => ?_) (fun _ => ?_) <;> (first | (exfalso; omega; done) | skip)) | refine Br.n ?_ | (refine Br.s (fun _ => ?_) (fun _ => ?_) <;> (first | (exfalso; omega; done) | skip)) | (refine Br.mk (fun _ => ?_) (fun _ => ?_) <;> (first | (exfalso; omega; done) | skip)))
               | (refine regv_id ?_; first | refine RegV.qg ?_ | refine RegV.d ?_)
               | (refine gds_id ?_; apply GdS.mk)
               | (refine and_id ?_; exact ⟨rfl, rfl, rfl⟩)
               | (refine imp_id ?_; first | refine imp_s (fun _ => ?_) | refine fun _ => ?_)
               | refine NilB.mk (fun b hb => ?_)
               | (refine alv_and ?_ ?_; focus (first | rfl | done))
               | refine DrawV.mk [] ?_
               | (refine appc_id ?_; first | refine AppC.growA ?_ | refine AppC.place ?_)
               | (refine call_id ?_; first
                    | refine CallV.c (c1) ?_
                    | refine CallV.c (c2) ?_
                    | refine CallV.e (c1) ?_
                    | refine CallV.e (c2) ?_)
               | (refine calls_id ?_; first
                    | refine CallS.c (c1) ?_
                    | refine CallS.c (c2) ?_
                    | refine CallS.e (c1) ?_
                    | refine CallS.e (c2) ?_))
      all_goals (try (conv => whnf))
      · rename_i hx
        exact RetP.v (by rw [he hx])
      rename_i hx
      rw [hn hx]
      refine LoopV.on (σ := Nat × Int) rfl (fun p => [(0, treeX f ps L), (1, I s), (2, I t), (7, I p.2)]) (fun _ => []) (fun p => -1 ≤ p.2 ∧ p.2 < ps.length ∧ (0 ≤ p.2 → hits ps p.1 p.2 = true) ∧ climb ps s p.1 p.2 = climb ps s ps.length t) (fun p => p.1) (ps.length, t) ?_ ⟨by simp only; omega, by simp only; omega, fun _ => ?_, rfl⟩ ?_
      · refine AtS.mk [] [] rfl List.nodup_nil rfl rfl ?_
        (repeat' (first | exact trivial | exact rfl | with_reducible assumption | (refine And.intro ?_ ?_) | (refine Exists.intro _ (And.intro rfl ?_)) | (refine Exists.intro _ (Exists.intro _ (And.intro rfl (And.intro rfl ?_)))) | (refine Or.inl ⟨rfl, rfl, ?_⟩) | (refine Or.inl ⟨rfl, ?_⟩; focus (fail_if_success (refine And.intro ?_ ?_))) | (refine Or.inl (?_ : (_ : Nat) = _ ∧ _); refine ⟨?_, ?_⟩; focus (first | (simp only [List.length_map]; done) | (simp only [List.length_map, List.length_append, List.length_cons, List.length_nil]; done))) | exact Or.inl rfl | (refine Or.inr (Or.inr ⟨?_, ?_⟩)) | (refine Or.inr ⟨?_, ?_⟩) | (refine fun h => ?_; first | exact h | exact rfl | (cases h; done)) | (refine om8 ?_; simp only [← List.map_drop, ← List.map_take]; exact rfl) | ((first | refine om1 ?_ | refine om2 ?_ | refine om3 ?_ | refine om4 ?_ | refine om5 ?_ | refine om6 ?_ | refine om7 ?_); first | (simp only [List.length_map]; done) | (simp only [List.length_map]; omega) | omega)))
      · have := h.up t.toNat (by omega)
        rwa [show ((t.toNat : Nat) : Int) = t by omega] at this
      rintro ⟨k, a⟩ ⟨p1, p2, p3, p4⟩
      simp only at p1 p2 p3 p4
      dsimp only
      by_cases ha : 0 ≤ a
      · have p3 := p3 ha
        have hk := hits_pos p3
        have hb := ok_bounds h.ok ha p2
        rw [climb_succ ps s hk, if_neg (by omega)] at p4
        rw [hits_succ ps hk] at p3
        repeat' (conv => whnf
                 first
                 | (refine get_id ?_; first | refine Get.mk _ rfl ?_ | refine Get.mk _ (int_get ps a.toNat rfl (by omega)) ?_)
                 | (refine need_id ?_; first | refine Need.a ?_)
                 | (refine eqk_id ?_; first | refine EqK.a ?_)
                 | (refine br_id ?_; first | refine Br.t ?_ | refine Br.f ?_ | (refine Br.pos ?_ ?_; focus (with_reducible assumption)) | (refine Br.neg ?_ ?_; focus (with_reducible assumption)) | (refine Br.dpos ?_ ?_; focus (first | with_reducible exact rfl | with_reducible exact Int.le_refl _ | with_reducible assumption)) | (refine Br.dneg ?_ ?_; focus (with_reducible assumption)) | (refine Br.d (fun _ => ?_) (fun _ => ?_) <;> (first | (exfalso; omega; done) | skip)) | refine Br.n ?_ | (refine Br.s (fun _ => ?_) (fun _ => ?_) <;> (first | (exfalso; omega; done) | skip)) | (refine Br.mk (fun _ => ?_) (fun _ => ?_) <;> (first | (exfalso; omega; done) | skip)))
                 | (refine regv_id ?_; first | refine RegV.qg ?_ | refine RegV.d ?_)
                 | (refine gds_id ?_; apply GdS.mk)
                 | (refine and_id ?_; exact ⟨rfl, rfl, rfl⟩)
                 | (refine imp_id ?_; first | refine imp_s (fun _ => ?_) | refine fun _ => ?_)
                 | refine NilB.mk (fun b hb => ?_)
                 | (refine alv_and ?_ ?_; focus (first | rfl | done))
                 | refine DrawV.mk [] ?_
                 | (refine appc_id ?_; first | refine AppC.growA ?_ | refine AppC.place ?_))
        all_goals (try (conv => whnf))
        · rename_i h3 h4
          rw [if_pos h4] at p4
          exact RetP.v (by rw [p4])
        · rename_i h3 h4
          rw [if_neg h4] at p4
          refine nx (k - 1, ps.getD a.toNat 0) (by simp only; omega) ⟨by simp only; omega, by simp only; omega, fun h5 => ?_, p4⟩ (AtS.mk [] [] rfl List.nodup_nil rfl rfl ?_)
          · simp only at h5
            rw [if_neg (by omega)] at p3
            exact p3
          · (repeat' (first | exact trivial | exact rfl | with_reducible assumption | (refine And.intro ?_ ?_) | (refine Exists.intro _ (And.intro rfl ?_)) | (refine Exists.intro _ (Exists.intro _ (And.intro rfl (And.intro rfl ?_)))) | (refine Or.inl ⟨rfl, rfl, ?_⟩) | (refine Or.inl ⟨rfl, ?_⟩; focus (fail_if_success (refine And.intro ?_ ?_))) | (refine Or.inl (?_ : (_ : Nat) = _ ∧ _); refine ⟨?_, ?_⟩; focus (first | (simp only [List.length_map]; done) | (simp only [List.length_map, List.length_append, List.length_cons, List.length_nil]; done))) | exact Or.inl rfl | (refine Or.inr (Or.inr ⟨?_, ?_⟩)) | (refine Or.inr ⟨?_, ?_⟩) | (refine fun h => ?_; first | exact h | exact rfl | (cases h; done)) | (refine om8 ?_; simp only [← List.map_drop, ← List.map_take]; exact rfl) | ((first | refine om1 ?_ | refine om2 ?_ | refine om3 ?_ | refine om4 ?_ | refine om5 ?_ | refine om6 ?_ | refine om7 ?_); first | (simp only [List.length_map]; done) | (simp only [List.length_map]; omega) | omega)))
      · rw [climb_neg ps s k (by omega)] at p4
        clear p3
        repeat' (conv => whnf
                 first
                 | (refine get_id ?_; first | refine Get.mk _ rfl ?_ | refine Get.mk _ (int_get ps s.toNat rfl (by omega)) ?_)
                 | (refine need_id ?_; first | refine Need.a ?_)
                 | (refine eqk_id ?_; first | refine EqK.a ?_)
                 | (refine br_id ?_; first | refine Br.t ?_ | refine Br.f ?_ | (refine Br.pos ?_ ?_; focus (with_reducible assumption)) | (refine Br.neg ?_ ?_; focus (with_reducible assumption)) | (refine Br.dpos ?_ ?_; focus (first | with_reducible exact rfl | with_reducible exact Int.le_refl _ | with_reducible assumption)) | (refine Br.dneg ?_ ?_; focus (with_reducible assumption)) | (refine Br.d (fun _ => ?_) (fun _ => ?_) <;> (first | (exfalso; omega; done) | skip)) | refine Br.n ?_ | (refine Br.s (fun _ => ?_) (fun _ => ?_) <;> (first | (exfalso; omega; done) | skip)) | (refine Br.mk (fun _ => ?_) (fun _ => ?_) <;> (first | (exfalso; omega; done) | skip)))
                 | (refine regv_id ?_; first | refine RegV.qg ?_ | refine RegV.d ?_)
                 | (refine gds_id ?_; apply GdS.mk)
                 | (refine and_id ?_; exact ⟨rfl, rfl, rfl⟩)
                 | (refine imp_id ?_; first | refine imp_s (fun _ => ?_) | refine fun _ => ?_)
                 | refine NilB.mk (fun b hb => ?_)
                 | (refine alv_and ?_ ?_; focus (first | rfl | done))
                 | refine DrawV.mk [] ?_
                 | (refine appc_id ?_; first | refine AppC.growA ?_ | refine AppC.place ?_))
        all_goals (try (conv => whnf))
        exact RetP.v (by rw [p4])
end Go.Proofs.Ytiklbnianbejdaa

/- tree: Root, Neighbours; the nil tree; the reference's Near and Neighbours. -/
namespace Go.Proofs.Ytiklbnianbejdaa
open Go Go.Eng Go.RowKit

theorem nextN_pcon (s t : Int) : PCon Try.prog 29 [treeN, I s, I t] (I (-1)) [] := by
  refine pcon_of (G := gm) Try.func29 rfl rfl rfl ?_
  repeat' (conv => whnf
           first
           | (refine get_id ?_; first | refine Get.mk _ rfl ?_)
           | (refine need_id ?_; first | refine Need.a ?_)
           | (refine eqk_id ?_; first | refine EqK.a ?_)
           | (refine br_id ?_; first | refine Br.t ?_ | refine Br.f ?_ | (refine Br.pos ?_ ?_; focus (with_reducible assumption)) | (refine Br.neg ?_ ?_; focus (with_reducible assumption)) | (refine Br.dpos ?_ ?_; focus (first | with_reducible exact rfl | with_reducible exact Int.le_refl _ | with_reducible assumption)) | (refine Br.dneg ?_ ?_; focus (with_reducible assumption)) | (refine Br.d (fun _ => ?_) (fun _ => ?_)) | refine Br.n ?_ | (refine Br.s (fun _ => ?_) (fun _ => ?_)) | (refine Br.mk (fun _ => ?_) (fun _ => ?_)))
           | (refine regv_id ?_; first | refine RegV.qg ?_ | refine RegV.d ?_)
           | (refine gds_id ?_; apply GdS.mk)
           | (refine and_id ?_; exact ⟨rfl, rfl, rfl⟩)
           | (refine imp_id ?_; first | refine imp_s (fun _ => ?_) | refine fun _ => ?_)
           | refine NilB.mk (fun b hb => ?_)
           | (refine alv_and ?_ ?_; focus (first | rfl | done))
           | refine DrawV.mk [] ?_
           | (refine appc_id ?_; first | refine AppC.growA ?_ | refine AppC.place ?_)
           | (refine call_id ?_; first
                | refine CallV.c (hasN_pcon s) ?_
                | refine CallV.c (hasN_pcon t) ?_
                | refine CallV.e (hasN_pcon s) ?_
                | refine CallV.e (hasN_pcon t) ?_)
           | (refine calls_id ?_; first
                | refine CallS.c (hasN_pcon s) ?_
                | refine CallS.c (hasN_pcon t) ?_
                | refine CallS.e (hasN_pcon s) ?_
                | refine CallS.e (hasN_pcon t) ?_))
  all_goals (try (conv => whnf))
  · exact RetP.v rfl
theorem near_get (L : List (List Int)) {n : Nat} (k : Nat) (hn : n = k) (h : k < L.length) : nth (L.map fun l => [intX true l]) n = some [intX true (L.getD k [])] := by
  rw [nth_map (fun l => [intX true l]) L k hn h]
  simp [h]
theorem neigh_pcon (f : Bool) (ps : List Int) (L : List (List Int)) (v : Int) (hL : L.length = ps.length) (h1 : hasB ps v = true) (h2 : (L.getD v.toNat []).length * 8 ≤ 140737488355328) : PCon Try.prog 26 [treeX f ps L, I v] (.own 0 (L.getD v.toNat []).length) [intB (L.getD v.toNat [])] := by
  refine pcon_of (G := gm) Try.func26 rfl rfl rfl ?_
  have c1 := has_pcon f ps L v
  rw [h1] at c1
  have h3 := hasB_iff.1 h1
  repeat' (conv => whnf
           first
           | (refine get_id ?_; first | refine Get.mk _ rfl ?_ | refine Get.mk _ (near_get L v.toNat rfl (by omega)) ?_)
           | (refine need_id ?_; first | refine Need.a ?_)
           | (refine eqk_id ?_; first | refine EqK.a ?_)
           | (refine br_id ?_; first | refine Br.t ?_ | refine Br.f ?_ | (refine Br.pos ?_ ?_; focus (with_reducible assumption)) | (refine Br.neg ?_ ?_; focus (with_reducible assumption)) | (refine Br.dpos ?_ ?_; focus (first | with_reducible exact rfl | with_reducible exact Int.le_refl _ | with_reducible assumption)) | (refine Br.dneg ?_ ?_; focus (with_reducible assumption)) | (refine Br.d (fun _ => ?_) (fun _ => ?_)) | refine Br.n ?_ | (refine Br.s (fun _ => ?_) (fun _ => ?_)) | (refine Br.mk (fun _ => ?_) (fun _ => ?_)))
           | (refine regv_id ?_; first | refine RegV.d ?_)
           | refine NilB.mk (fun b hb => ?_)
           | (refine alv_and ?_ ?_; focus (first | rfl | done))
           | refine DrawV.mk [] ?_
           | (refine appc_id ?_; first | refine AppC.growA ?_ | refine AppC.place ?_)
           | (refine call_id ?_; first
                | refine CallV.c (c1) ?_
                | refine CallV.c (clone_pcon true (L.getD v.toNat []) h2) ?_
                | refine CallV.e (c1) ?_
                | refine CallV.e (clone_pcon true (L.getD v.toNat []) h2) ?_)
           | (refine calls_id ?_; first
                | refine CallS.c (c1) ?_
                | refine CallS.c (clone_pcon true (L.getD v.toNat []) h2) ?_
                | refine CallS.e (c1) ?_
                | refine CallS.e (clone_pcon true (L.getD v.toNat []) h2) ?_))
  all_goals (try (conv => whnf))
  exact RetP.own rfl (int_fr _)
theorem neighO_pcon (f : Bool) (ps : List Int) (L : List (List Int)) (v : Int) (h1 : hasB ps v = false) : PCon Try.prog 26 [treeX f ps L, I v] (.own 0 0) [intB []] := by
  refine pcon_of (G := gm) Try.func26 rfl rfl rfl ?_
  have c1 := has_pcon f ps L v
  rw [h1] at c1
  repeat' (conv => whnf
           first
           | (refine get_id ?_; first | refine Get.mk _ rfl ?_)
           | (refine need_id ?_; first | refine Need.a ?_)
           | (refine eqk_id ?_; first | refine EqK.a ?_)
           | (refine br_id ?_; first | refine Br.t ?_ | refine Br.f ?_ | (refine Br.pos ?_ ?_; focus (with_reducible assumption)) | (refine Br.neg ?_ ?_; focus (with_reducible assumption)) | (refine Br.dpos ?_ ?_; focus (first | with_reducible exact rfl | with_reducible exact Int.le_refl _ | with_reducible assumption)) | (refine Br.dneg ?_ ?_; focus (with_reducible assumption)) | (refine Br.d (fun _ => ?_) (fun _ => ?_)) | refine Br.n ?_ | (refine Br.s (fun _ => ?_) (fun _ => ?_)) | (refine Br.mk (fun _ => ?_) (fun _ => ?_)))
           | (refine regv_id ?_; first | refine RegV.d ?_)
           | refine NilB.mk (fun b hb => ?_)
           | (refine alv_and ?_ ?_; focus (first | rfl | done))
           | refine DrawV.mk [] ?_
           | (refine appc_id ?_; first | refine AppC.growA ?_ | refine AppC.place ?_)
           | (refine call_id ?_; first
                | refine CallV.c (c1) ?_
                | refine CallV.e (c1) ?_)
           | (refine calls_id ?_; first
                | refine CallS.c (c1) ?_
                | refine CallS.e (c1) ?_))
  all_goals (try (conv => whnf))
  exact RetP.nil
theorem neighN_pcon (v : Int) : PCon Try.prog 26 [treeN, I v] (.own 0 0) [intB []] := by
  refine pcon_of (G := gm) Try.func26 rfl rfl rfl ?_
  repeat' (conv => whnf
           first
           | (refine get_id ?_; first | refine Get.mk _ rfl ?_)
           | (refine need_id ?_; first | refine Need.a ?_)
           | (refine eqk_id ?_; first | refine EqK.a ?_)
           | (refine br_id ?_; first | refine Br.t ?_ | refine Br.f ?_ | (refine Br.pos ?_ ?_; focus (with_reducible assumption)) | (refine Br.neg ?_ ?_; focus (with_reducible assumption)) | (refine Br.dpos ?_ ?_; focus (first | with_reducible exact rfl | with_reducible exact Int.le_refl _ | with_reducible assumption)) | (refine Br.dneg ?_ ?_; focus (with_reducible assumption)) | (refine Br.d (fun _ => ?_) (fun _ => ?_)) | refine Br.n ?_ | (refine Br.s (fun _ => ?_) (fun _ => ?_)) | (refine Br.mk (fun _ => ?_) (fun _ => ?_)))
           | (refine regv_id ?_; first | refine RegV.d ?_)
           | refine NilB.mk (fun b hb => ?_)
           | (refine alv_and ?_ ?_; focus (first | rfl | done))
           | refine DrawV.mk [] ?_
           | (refine appc_id ?_; first | refine AppC.growA ?_ | refine AppC.place ?_)
           | (refine call_id ?_; first
                | refine CallV.c (hasN_pcon v) ?_
                | refine CallV.e (hasN_pcon v) ?_)
           | (refine calls_id ?_; first
                | refine CallS.c (hasN_pcon v) ?_
                | refine CallS.e (hasN_pcon v) ?_))
  all_goals (try (conv => whnf))
  exact RetP.nil
def isNear (ps : List Int) (a b : Nat) : Bool := decide (ps.getD a 0 = b) || decide (ps.getD b 0 = a)
theorem near_pcon (f : Bool) (ps : List Int) (a b : Nat) (ha : a < ps.length) (hb : b < ps.length) : PCon Try.prog 64 [intX f ps, I a, I b] (Bo (isNear ps a b)) [] := by
  refine pcon_of (G := gm) Try.func64 rfl rfl rfl ?_
  repeat' (conv => whnf
           first
           | (refine get_id ?_; first | refine Get.mk _ rfl ?_ | refine Get.mk _ (int_get ps a rfl (by omega)) ?_ | refine Get.mk _ (int_get ps b rfl (by omega)) ?_)
           | (refine need_id ?_; first | refine Need.a ?_)
           | (refine eqk_id ?_; first | refine EqK.a ?_)
           | (refine br_id ?_; first | refine Br.t ?_ | refine Br.f ?_ | (refine Br.pos ?_ ?_; focus (with_reducible assumption)) | (refine Br.neg ?_ ?_; focus (with_reducible assumption)) | (refine Br.dpos ?_ ?_; focus (first | with_reducible exact rfl | with_reducible exact Int.le_refl _ | with_reducible assumption)) | (refine Br.dneg ?_ ?_; focus (with_reducible assumption)) | (refine Br.d (fun _ => ?_) (fun _ => ?_)) | refine Br.n ?_ | (refine Br.s (fun _ => ?_) (fun _ => ?_)) | (refine Br.mk (fun _ => ?_) (fun _ => ?_)))
           | (refine regv_id ?_; first | refine RegV.qg ?_ | refine RegV.d ?_)
           | (refine gds_id ?_; apply GdS.mk)
           | (refine and_id ?_; exact ⟨rfl, rfl, rfl⟩)
           | (refine imp_id ?_; first | refine imp_s (fun _ => ?_) | refine fun _ => ?_)
           | refine NilB.mk (fun b hb => ?_)
           | (refine alv_and ?_ ?_; focus (first | rfl | done))
           | refine DrawV.mk [] ?_
           | (refine appc_id ?_; first | refine AppC.growA ?_ | refine AppC.place ?_))
  all_goals (try (conv => whnf))
  exact RetP.v (by unfold isNear; simp; rfl)
end Go.Proofs.Ytiklbnianbejdaa

/- tree: the reference's Neighbours. -/
namespace Go.Proofs.Ytiklbnianbejdaa
open Go Go.Eng Go.RowKit

/-- A node's neighbours among the first i, rising. -/
def nearTo (ps : List Int) (v : Nat) (i : Nat) : List Int := ((List.range i).filter fun u => isNear ps u v).map fun (u : Nat) => (u : Int)
theorem nearTo_succ (ps : List Int) (v i : Nat) : nearTo ps v (i + 1) = if isNear ps i v = true then nearTo ps v i ++ [(i : Int)] else nearTo ps v i := by
  unfold nearTo
  rw [List.range_succ, List.filter_append, List.map_append]
  cases h : isNear ps i v <;> simp [h]
theorem nearTo_le (ps : List Int) (v i : Nat) : (nearTo ps v i).length ≤ i := by
  unfold nearTo
  have := List.length_filter_le (fun u => isNear ps u v) (List.range i)
  simp only [List.length_map, List.length_range] at *
  exact this
set_option maxHeartbeats 1000000 in
theorem refneigh_pcon (f : Bool) (ps : List Int) (v : Int) (h : ps.length * 8 ≤ 140737488351232) (h1 : hasB ps v = true) : PCon Try.prog 38 [intX f ps, I v] (.own 0 (nearTo ps v.toNat ps.length).length) [intB (nearTo ps v.toNat ps.length)] := by
  refine pcon_of (G := gm) Try.func38 rfl rfl rfl ?_
  have hv := hasB_iff.1 h1
  obtain ⟨w, rfl⟩ : ∃ w : Nat, v = w := ⟨v.toNat, by omega⟩
  rw [show ((w : Int)).toNat = w by omega]
  repeat' (conv => whnf
           first
           | (refine get_id ?_; first | refine Get.mk _ rfl ?_)
           | (refine need_id ?_; first | refine Need.a ?_)
           | (refine eqk_id ?_; first | refine EqK.a ?_)
           | (refine br_id ?_; first | refine Br.t ?_ | refine Br.f ?_ | (refine Br.pos ?_ ?_; focus (with_reducible assumption)) | (refine Br.neg ?_ ?_; focus (with_reducible assumption)) | (refine Br.dpos ?_ ?_; focus (first | with_reducible exact rfl | with_reducible exact Int.le_refl _ | with_reducible assumption)) | (refine Br.dneg ?_ ?_; focus (with_reducible assumption)) | (refine Br.d (fun _ => ?_) (fun _ => ?_) <;> (first | (exfalso; omega; done) | skip)) | refine Br.n ?_ | (refine Br.s (fun _ => ?_) (fun _ => ?_) <;> (first | (exfalso; omega; done) | skip)) | (refine Br.mk (fun _ => ?_) (fun _ => ?_) <;> (first | (exfalso; omega; done) | skip)))
           | (refine regv_id ?_; first | refine RegV.d ?_)
           | refine NilB.mk (fun b hb => ?_)
           | (refine alv_and ?_ ?_; focus (first | rfl | done))
           | refine DrawV.mk [] ?_
           | (refine appc_id ?_; first | refine AppC.growA ?_ | refine AppC.place ?_))
  all_goals (try (conv => whnf))
  refine LoopV.on (σ := Nat × List Int) rfl (fun s => [(0, intX f ps), (1, I w), (5, .own 0 s.2.length), (6, I s.1)]) (fun s => [some (intB s.2)]) (fun s => s.1 ≤ ps.length ∧ s.2 = nearTo ps w s.1) (fun s => ps.length - s.1) (0, []) ?_ ⟨Nat.zero_le _, rfl⟩ ?_
  · refine AtS.mk [(3, 1)] [0] rfl (by simp) rfl ?_ ?_
    · (repeat' (first | exact trivial | exact rfl | with_reducible assumption | (refine And.intro ?_ ?_) | (refine Exists.intro _ (And.intro rfl ?_)) | (refine Exists.intro _ (Exists.intro _ (And.intro rfl (And.intro rfl ?_)))) | (refine Or.inl ⟨rfl, rfl, ?_⟩) | (refine Or.inl ⟨rfl, ?_⟩; focus (fail_if_success (refine And.intro ?_ ?_))) | (refine Or.inl (?_ : (_ : Nat) = _ ∧ _); refine ⟨?_, ?_⟩; focus (first | (simp only [List.length_map]; done) | (simp only [List.length_map, List.length_append, List.length_cons, List.length_nil]; done))) | exact Or.inl rfl | (refine Or.inr (Or.inr ⟨?_, ?_⟩)) | (refine Or.inr ⟨?_, ?_⟩) | (refine fun h => ?_; first | exact h | exact rfl | (cases h; done)) | (refine om8 ?_; simp only [← List.map_drop, ← List.map_take]; exact rfl) | ((first | refine om1 ?_ | refine om2 ?_ | refine om3 ?_ | refine om4 ?_ | refine om5 ?_ | refine om6 ?_ | refine om7 ?_); first | (simp only [List.length_map]; done) | (simp only [List.length_map]; omega) | omega)))
    · (repeat' (first | exact trivial | exact rfl | with_reducible assumption | (refine And.intro ?_ ?_) | (refine Exists.intro _ (And.intro rfl ?_)) | (refine Exists.intro _ (Exists.intro _ (And.intro rfl (And.intro rfl ?_)))) | (refine Or.inl ⟨rfl, rfl, ?_⟩) | (refine Or.inl ⟨rfl, ?_⟩; focus (fail_if_success (refine And.intro ?_ ?_))) | (refine Or.inl (?_ : (_ : Nat) = _ ∧ _); refine ⟨?_, ?_⟩; focus (first | (simp only [List.length_map]; done) | (simp only [List.length_map, List.length_append, List.length_cons, List.length_nil]; done))) | exact Or.inl rfl | (refine Or.inr (Or.inr ⟨?_, ?_⟩)) | (refine Or.inr ⟨?_, ?_⟩) | (refine fun h => ?_; first | exact h | exact rfl | (cases h; done)) | (refine om8 ?_; simp only [← List.map_drop, ← List.map_take]; exact rfl) | ((first | refine om1 ?_ | refine om2 ?_ | refine om3 ?_ | refine om4 ?_ | refine om5 ?_ | refine om6 ?_ | refine om7 ?_); first | (simp only [List.length_map]; done) | (simp only [List.length_map]; omega) | omega)))
  rintro ⟨i, L⟩ ⟨hi, hL⟩
  simp only at hi hL
  have hn := fun hk => near_pcon f ps i w hk (by omega)
  have hs := nearTo_succ ps w i
  have hl := nearTo_le ps w i
  rw [← hL] at hs hl
  by_cases hk : i < ps.length
  · have hn := hn hk
    cases hb : isNear ps i w with
    | true =>
      rw [hb] at hn hs
      repeat' (conv => whnf
               first
               | (refine get_id ?_; first | refine Get.mk _ rfl ?_)
               | (refine need_id ?_; first | refine Need.a ?_ | refine Need.mk (by (exact ⟨rfl, rfl, rfl, by simp [intB], rfl, rfl⟩)) ?_)
               | (refine eqk_id ?_; first | refine EqK.a ?_)
               | (refine br_id ?_; first | refine Br.t ?_ | refine Br.f ?_ | (refine Br.pos ?_ ?_; focus (with_reducible assumption)) | (refine Br.neg ?_ ?_; focus (with_reducible assumption)) | (refine Br.dpos ?_ ?_; focus (first | with_reducible exact rfl | with_reducible exact Int.le_refl _ | with_reducible assumption)) | (refine Br.dneg ?_ ?_; focus (with_reducible assumption)) | (refine Br.d (fun _ => ?_) (fun _ => ?_) <;> (first | (exfalso; omega; done) | skip)) | refine Br.n ?_ | (refine Br.s (fun _ => ?_) (fun _ => ?_) <;> (first | (exfalso; omega; done) | skip)) | (refine Br.mk (fun _ => ?_) (fun _ => ?_) <;> (first | (exfalso; omega; done) | skip)))
               | (refine regv_id ?_; first | refine RegV.d ?_)
               | refine NilB.mk (fun b hb => ?_)
               | (refine alv_and ?_ ?_; focus (first | rfl | done))
               | refine DrawV.mk [] ?_
               | (refine appc_id ?_; first | refine AppC.growA ?_ | refine AppC.grow (by (simp [intB])) ?_ | refine AppC.place ?_)
               | (refine call_id ?_; first
                    | refine CallV.c (hn) ?_
                    | refine CallV.e (hn) ?_)
               | (refine calls_id ?_; first
                    | refine CallS.c (hn) ?_
                    | refine CallS.e (hn) ?_))
      all_goals (try (conv => whnf))
      · refine nx (i + 1, L ++ [(i : Int)]) (by simp only; omega) ⟨by simp only; omega, by simp only; rw [hs, if_pos rfl]⟩ (AtS.mk [] [2] rfl (by simp) rfl ⟨⟨_, rfl, rfl, rfl, rfl, .inl ⟨rfl, rfl, by simp [intB]⟩⟩, rfl⟩ ?_)
        (repeat' (first | exact trivial | exact rfl | with_reducible assumption | (refine And.intro ?_ ?_) | (refine Exists.intro _ (And.intro rfl ?_)) | (refine Exists.intro _ (Exists.intro _ (And.intro rfl (And.intro rfl ?_)))) | (refine Or.inl ⟨rfl, rfl, ?_⟩) | (refine Or.inl ⟨rfl, ?_⟩; focus (fail_if_success (refine And.intro ?_ ?_))) | (refine Or.inl (?_ : (_ : Nat) = _ ∧ _); refine ⟨?_, ?_⟩; focus (first | (simp only [List.length_map]; done) | (simp only [List.length_map, List.length_append, List.length_cons, List.length_nil]; done))) | exact Or.inl rfl | (refine Or.inr (Or.inr ⟨?_, ?_⟩)) | (refine Or.inr ⟨?_, ?_⟩) | (refine fun h => ?_; first | exact h | exact rfl | (cases h; done)) | (refine om8 ?_; simp only [← List.map_drop, ← List.map_take]; exact rfl) | ((first | refine om1 ?_ | refine om2 ?_ | refine om3 ?_ | refine om4 ?_ | refine om5 ?_ | refine om6 ?_ | refine om7 ?_); first | (simp only [List.length_map]; done) | (simp only [List.length_map]; omega) | omega)))
        simp
    | false =>
      rw [hb] at hn hs
      repeat' (conv => whnf
               first
               | (refine get_id ?_; first | refine Get.mk _ rfl ?_)
               | (refine need_id ?_; first | refine Need.a ?_)
               | (refine eqk_id ?_; first | refine EqK.a ?_)
               | (refine br_id ?_; first | refine Br.t ?_ | refine Br.f ?_ | (refine Br.pos ?_ ?_; focus (with_reducible assumption)) | (refine Br.neg ?_ ?_; focus (with_reducible assumption)) | (refine Br.dpos ?_ ?_; focus (first | with_reducible exact rfl | with_reducible exact Int.le_refl _ | with_reducible assumption)) | (refine Br.dneg ?_ ?_; focus (with_reducible assumption)) | (refine Br.d (fun _ => ?_) (fun _ => ?_) <;> (first | (exfalso; omega; done) | skip)) | refine Br.n ?_ | (refine Br.s (fun _ => ?_) (fun _ => ?_) <;> (first | (exfalso; omega; done) | skip)) | (refine Br.mk (fun _ => ?_) (fun _ => ?_) <;> (first | (exfalso; omega; done) | skip)))
               | (refine regv_id ?_; first | refine RegV.d ?_)
               | refine NilB.mk (fun b hb => ?_)
               | (refine alv_and ?_ ?_; focus (first | rfl | done))
               | refine DrawV.mk [] ?_
               | (refine appc_id ?_; first | refine AppC.growA ?_ | refine AppC.place ?_)
               | (refine call_id ?_; first
                    | refine CallV.c (hn) ?_
                    | refine CallV.e (hn) ?_)
               | (refine calls_id ?_; first
                    | refine CallS.c (hn) ?_
                    | refine CallS.e (hn) ?_))
      all_goals (try (conv => whnf))
      refine nx (i + 1, L) (by simp only; omega) ⟨by simp only; omega, by simp only; rw [hs, if_neg (by simp)]⟩ (AtS.mk [] [0] rfl (by simp) rfl ?_ ?_)
      all_goals (repeat' (first | exact trivial | exact rfl | with_reducible assumption | (refine And.intro ?_ ?_) | (refine Exists.intro _ (And.intro rfl ?_)) | (refine Exists.intro _ (Exists.intro _ (And.intro rfl (And.intro rfl ?_)))) | (refine Or.inl ⟨rfl, rfl, ?_⟩) | (refine Or.inl ⟨rfl, ?_⟩; focus (fail_if_success (refine And.intro ?_ ?_))) | (refine Or.inl (?_ : (_ : Nat) = _ ∧ _); refine ⟨?_, ?_⟩; focus (first | (simp only [List.length_map]; done) | (simp only [List.length_map, List.length_append, List.length_cons, List.length_nil]; done))) | exact Or.inl rfl | (refine Or.inr (Or.inr ⟨?_, ?_⟩)) | (refine Or.inr ⟨?_, ?_⟩) | (refine fun h => ?_; first | exact h | exact rfl | (cases h; done)) | (refine om8 ?_; simp only [← List.map_drop, ← List.map_take]; exact rfl) | ((first | refine om1 ?_ | refine om2 ?_ | refine om3 ?_ | refine om4 ?_ | refine om5 ?_ | refine om6 ?_ | refine om7 ?_); first | (simp only [List.length_map]; done) | (simp only [List.length_map]; omega) | omega)))
  · repeat' (conv => whnf
             first
             | (refine get_id ?_; first | refine Get.mk _ rfl ?_)
             | (refine need_id ?_; first | refine Need.a ?_)
             | (refine eqk_id ?_; first | refine EqK.a ?_)
             | (refine br_id ?_; first | refine Br.t ?_ | refine Br.f ?_ | (refine Br.pos ?_ ?_; focus (with_reducible assumption)) | (refine Br.neg ?_ ?_; focus (with_reducible assumption)) | (refine Br.dpos ?_ ?_; focus (first | with_reducible exact rfl | with_reducible exact Int.le_refl _ | with_reducible assumption)) | (refine Br.dneg ?_ ?_; focus (with_reducible assumption)) | (refine Br.d (fun _ => ?_) (fun _ => ?_) <;> (first | (exfalso; omega; done) | skip)) | refine Br.n ?_ | (refine Br.s (fun _ => ?_) (fun _ => ?_) <;> (first | (exfalso; omega; done) | skip)) | (refine Br.mk (fun _ => ?_) (fun _ => ?_) <;> (first | (exfalso; omega; done) | skip)))
             | (refine regv_id ?_; first | refine RegV.d ?_)
             | refine NilB.mk (fun b hb => ?_)
             | (refine alv_and ?_ ?_; focus (first | rfl | done))
             | refine DrawV.mk [] ?_
             | (refine appc_id ?_; first | refine AppC.growA ?_ | refine AppC.place ?_))
    all_goals (try (conv => whnf))
    have e : i = ps.length := by omega
    subst e
    rw [← hL]
    exact RetP.own rfl (int_fr _)
theorem refneighO_pcon (f : Bool) (ps : List Int) (v : Int) (h : ps.length < 9223372036854775808) (h1 : hasB ps v = false) : PCon Try.prog 38 [intX f ps, I v] (.own 0 0) [intB []] := by
  refine pcon_of (G := gm) Try.func38 rfl rfl rfl ?_
  have hv : ¬(0 ≤ v ∧ v < ps.length) := fun h2 => by rw [hasB_iff.2 h2] at h1; cases h1
  repeat' (conv => whnf
           first
           | (refine get_id ?_; first | refine Get.mk _ rfl ?_)
           | (refine need_id ?_; first | refine Need.a ?_)
           | (refine eqk_id ?_; first | refine EqK.a ?_)
           | (refine br_id ?_; first | refine Br.t ?_ | refine Br.f ?_ | (refine Br.pos ?_ ?_; focus (with_reducible assumption)) | (refine Br.neg ?_ ?_; focus (with_reducible assumption)) | (refine Br.dpos ?_ ?_; focus (first | with_reducible exact rfl | with_reducible exact Int.le_refl _ | with_reducible assumption)) | (refine Br.dneg ?_ ?_; focus (with_reducible assumption)) | (refine Br.d (fun _ => ?_) (fun _ => ?_) <;> (first | (exfalso; omega; done) | skip)) | refine Br.n ?_ | (refine Br.s (fun _ => ?_) (fun _ => ?_) <;> (first | (exfalso; omega; done) | skip)) | (refine Br.mk (fun _ => ?_) (fun _ => ?_) <;> (first | (exfalso; omega; done) | skip)))
           | (refine regv_id ?_; first | refine RegV.d ?_)
           | refine NilB.mk (fun b hb => ?_)
           | (refine alv_and ?_ ?_; focus (first | rfl | done))
           | refine DrawV.mk [] ?_
           | (refine appc_id ?_; first | refine AppC.growA ?_ | refine AppC.place ?_))
  all_goals (try (conv => whnf))
  all_goals exact RetP.nil
end Go.Proofs.Ytiklbnianbejdaa

/- tree: Path, and what it hands over. -/
namespace Go.Proofs.Ytiklbnianbejdaa
open Go Go.Eng Go.RowKit

abbrev pathCaps (f : Bool) (ps : List Int) (L : List (List Int)) (a b : Int) : List Sv := [.ref true [treeX f ps L], .ref true [I a], .ref true [I b]]
abbrev oneIt (x : Int) : List Sv := [I x]
theorem oneIt_fr (xs : List Int) : FrR (xs.map oneIt) := int_fr xs
theorem lists_fr (L : List (List Int)) : FrR (L.map fun l => [intX true l]) := FrR_map (fun l => [intX true l]) (fun l => ⟨⟨rfl, int_fr l⟩, trivial⟩) L
theorem drop_next {α : Type} {l r : List α} {x : α} {j : Nat} (h : l.drop j = x :: r) : ∃ hj : j < l.length, l[j] = x ∧ l.drop (j + 1) = r := by
  have hj : j < l.length := by
    rcases Nat.lt_or_ge j l.length with h1 | h1
    · exact h1
    · rw [List.drop_eq_nil_of_le h1] at h; cases h
  rw [List.drop_eq_getElem_cons hj] at h
  injection h with h1 h2
  exact ⟨hj, h1, h2⟩
/-- A list of nodes, each the next one of the one before it on the way to b, ended by b. -/
def Way (ps : List Int) (b : Int) : List Int → Prop
  | [] => False
  | x :: r => match r with
    | [] => x = b
    | y :: _ => x ≠ b ∧ nextS ps x b = y ∧ Way ps b r
end Go.Proofs.Ytiklbnianbejdaa

/- tree: paths of nodes that are not there; Dist; Edges. -/
namespace Go.Proofs.Ytiklbnianbejdaa
open Go Go.Eng Go.RowKit

end Go.Proofs.Ytiklbnianbejdaa

/- tree: Edges, and what it hands over. -/
namespace Go.Proofs.Ytiklbnianbejdaa
open Go Go.Eng Go.RowKit

def edgeRow (u : Int) (l : List Int) : List (Int × Int) := (l.filter fun v => decide (u < v)).map fun v => (u, v)
def edgeFrom : Int → List (List Int) → List (Int × Int)
  | _, [] => []
  | u, l :: r => edgeRow u l ++ edgeFrom (u + 1) r
theorem edgeFrom_at (L : List (List Int)) {i : Nat} (h : i < L.length) : edgeFrom i (L.drop i) = edgeRow i (L.getD i []) ++ edgeFrom ((i + 1 : Nat) : Int) (L.drop (i + 1)) := by
  rw [List.drop_eq_getElem_cons h, edgeFrom]
  simp [h]
theorem edgeRow_at (u : Int) (l : List Int) {k : Nat} (h : k < l.length) : edgeRow u (l.drop k) = if u < l.getD k 0 then (u, l.getD k 0) :: edgeRow u (l.drop (k + 1)) else edgeRow u (l.drop (k + 1)) := by
  have e : l.getD k 0 = l[k] := by simp [h]
  rw [List.drop_eq_getElem_cons h, e]
  unfold edgeRow
  rw [List.filter_cons]
  by_cases h1 : u < l[k]
  · rw [if_pos (by simpa using h1), if_pos h1]
    rfl
  · rw [if_neg (by simpa using h1), if_neg h1]
def pairIt (p : Int × Int) : List Sv := [I p.1, I p.2]
theorem pairIt_fr (l : List (Int × Int)) : FrR (l.map pairIt) := FrR_map pairIt (fun p => by unfold pairIt; simp [Sv.Fr.go, Sv.Fr]) l
end Go.Proofs.Ytiklbnianbejdaa

/- tree: the nil tree's paths and edges. -/
namespace Go.Proofs.Ytiklbnianbejdaa
open Go Go.Eng Go.RowKit

end Go.Proofs.Ytiklbnianbejdaa
