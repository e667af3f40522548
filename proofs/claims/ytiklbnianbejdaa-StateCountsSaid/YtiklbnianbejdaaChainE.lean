/- chain: Good and Open, on both sides. -/
import Derived.Test.YtiklbnianbejdaaChainD
set_option linter.unusedSimpArgs false
set_option maxRecDepth 20000
set_option linter.unusedVariables false
namespace Go.Proofs.Ytiklbnianbejdaa.Ch
open Go Go.Eng Go.RowKit

/-- What a cell must be, with the one ahead of it, the one behind it, and whether there is one ahead, one behind. -/
def okCell (p c q : Cell) (first last : Bool) (me : Int) (sink : Bool) : Prop :=
  0 ≤ c.num ∧ c.num ≤ 1099511627776 ∧ 1 ≤ c.state ∧ c.state ≤ 3 ∧ (first = false → p.num < c.num ∧ c.state = 1) ∧ (c.num = 0 → c.state = 3) ∧
  (if sink = true ∧ last = true then c.node = -1 ∧ c.next = 0 else c.state ≠ 3 ∧ 0 ≤ c.node ∧ c.node < 32 ∧ 1 ≤ c.next ∧ c.next ≤ 1099511627776 ∧ (c.node = me → last = false ∧ q.num = c.next))
instance (p c q : Cell) (first last : Bool) (me : Int) (sink : Bool) : Decidable (okCell p c q first last me sink) := by unfold okCell; infer_instance
def okAt (cs : List Cell) (me : Int) (sink : Bool) (i : Nat) : Prop := okCell (cs.getD (i - 1) default) (cs.getD i default) (cs.getD (i + 1) default) (i == 0) (i + 1 == cs.length) me sink
instance (cs : List Cell) (me : Int) (sink : Bool) (i : Nat) : Decidable (okAt cs me sink i) := by unfold okAt; infer_instance
def goodC (cs : List Cell) (me : Int) (sink : Bool) : Bool := !(sink && cs.isEmpty) && decide (∀ i, i < cs.length → okAt cs me sink i)
theorem goodC_not (cs : List Cell) (me : Int) (sink : Bool) {i : Nat} (h : i < cs.length) (hn : ¬ okAt cs me sink i) : goodC cs me sink = false := by
  unfold goodC
  rw [Bool.and_eq_false_iff]
  exact .inr (by simpa using ⟨i, h, hn⟩)
theorem led_pcon (c : Cell) : PCon Try.prog 84 [.agg c.row] (Bo (decide (0 ≤ c.node ∧ c.node < 32 ∧ 1 ≤ c.next ∧ c.next ≤ 1099511627776))) [] := by
  refine pcon_of (G := gm) Try.func84 rfl rfl rfl ?_
  repeat' (conv => whnf
           first
           | (refine get_id ?_; first | refine Get.mk _ rfl ?_)
           | (refine need_id ?_; first | refine Need.a ?_)
           | (refine eqk_id ?_; first | refine EqK.a ?_)
           | (refine br_id ?_; first | refine Br.t ?_ | refine Br.f ?_ | (refine Br.pos ?_ ?_; focus (with_reducible assumption)) | (refine Br.neg ?_ ?_; focus (with_reducible assumption)) | (refine Br.dpos ?_ ?_; focus (first | with_reducible exact rfl | with_reducible exact Int.le_refl _ | with_reducible assumption)) | (refine Br.dneg ?_ ?_; focus (with_reducible assumption)) | (refine Br.d (fun _ => ?_) (fun _ => ?_)) | refine Br.n ?_ | (refine Br.s (fun _ => ?_) (fun _ => ?_)) | (refine Br.mk (fun _ => ?_) (fun _ => ?_)))
           | (refine regv_id ?_; first | refine RegV.d ?_)
           | refine NilB.mk (fun b hb => ?_)
           | (refine alv_and ?_ ?_; focus (first | rfl | done))
           | refine DrawV.mk [] ?_
           | (refine appc_id ?_; first | refine AppC.growA ?_ | refine AppC.place ?_))
  all_goals (try (conv => whnf))
  all_goals refine RetP.v ?_
  all_goals congr 1
  all_goals simp only [eq_comm (a := true), eq_comm (a := false), decide_eq_true_eq, decide_eq_false_iff_not, decide_eq_decide]
  all_goals omega
theorem bare_pcon (c : Cell) : PCon Try.prog 83 [.agg c.row] (Bo (decide (c.node = -1 ∧ c.next = 0))) [] := by
  refine pcon_of (G := gm) Try.func83 rfl rfl rfl ?_
  repeat' (conv => whnf
           first
           | (refine get_id ?_; first | refine Get.mk _ rfl ?_)
           | (refine need_id ?_; first | refine Need.a ?_)
           | (refine eqk_id ?_; first | refine EqK.a ?_)
           | (refine br_id ?_; first | refine Br.t ?_ | refine Br.f ?_ | (refine Br.pos ?_ ?_; focus (with_reducible assumption)) | (refine Br.neg ?_ ?_; focus (with_reducible assumption)) | (refine Br.dpos ?_ ?_; focus (first | with_reducible exact rfl | with_reducible exact Int.le_refl _ | with_reducible assumption)) | (refine Br.dneg ?_ ?_; focus (with_reducible assumption)) | (refine Br.d (fun _ => ?_) (fun _ => ?_)) | refine Br.n ?_ | (refine Br.s (fun _ => ?_) (fun _ => ?_)) | (refine Br.mk (fun _ => ?_) (fun _ => ?_)))
           | (refine regv_id ?_; first | refine RegV.d ?_)
           | refine NilB.mk (fun b hb => ?_)
           | (refine alv_and ?_ ?_; focus (first | rfl | done))
           | refine DrawV.mk [] ?_
           | (refine appc_id ?_; first | refine AppC.growA ?_ | refine AppC.place ?_))
  all_goals (try (conv => whnf))
  all_goals refine RetP.v ?_
  all_goals congr 1
  all_goals first | (simp_all; done) | (simp_all; rfl)
def openS (cs : List Cell) : Int := (cs.filter fun c => c.state == 1 || c.state == 2).length
theorem openS_snoc (cs : List Cell) (c : Cell) : openS (cs ++ [c]) = if c.state = 1 ∨ c.state = 2 then openS cs + 1 else openS cs := by
  unfold openS
  rw [List.filter_append]
  by_cases h : c.state = 1 ∨ c.state = 2
  · rw [if_pos h]
    simp [h]
  · rw [if_neg h]
    simp [h]
theorem openS_le (cs : List Cell) : 0 ≤ openS cs ∧ openS cs ≤ cs.length := by
  unfold openS
  have := List.length_filter_le (fun c : Cell => c.state == 1 || c.state == 2) cs
  omega
theorem open_pcon (f : Bool) (cs : List Cell) (h : cs.length * 32 ≤ 140737488355328) : PCon Try.prog 41 [cellX f cs] (I (openS cs)) [] := by
  refine pcon_of (G := gm) Try.func41 rfl rfl rfl ?_
  repeat' (conv => whnf
           first
           | (refine get_id ?_; first | refine Get.mk _ rfl ?_)
           | (refine need_id ?_; first | refine Need.a ?_)
           | (refine eqk_id ?_; first | refine EqK.a ?_)
           | (refine br_id ?_; first | refine Br.t ?_ | refine Br.f ?_ | (refine Br.pos ?_ ?_; focus (with_reducible assumption)) | (refine Br.neg ?_ ?_; focus (with_reducible assumption)) | (refine Br.dpos ?_ ?_; focus (first | with_reducible exact rfl | with_reducible exact Int.le_refl _ | with_reducible assumption)) | (refine Br.dneg ?_ ?_; focus (with_reducible assumption)) | (refine Br.d (fun _ => ?_) (fun _ => ?_)) | refine Br.n ?_ | (refine Br.s (fun _ => ?_) (fun _ => ?_)) | (refine Br.mk (fun _ => ?_) (fun _ => ?_)))
           | (refine regv_id ?_; first | refine RegV.d ?_)
           | refine NilB.mk (fun b hb => ?_)
           | (refine alv_and ?_ ?_; focus (first | rfl | done))
           | refine DrawV.mk [] ?_
           | (refine appc_id ?_; first | refine AppC.growA ?_ | refine AppC.place ?_))
  all_goals (try (conv => whnf))
  refine LoopV.on (σ := Nat) rfl (fun i => [(3, I (openS (cs.take i))), (6, cellX f cs), (7, I cs.length), (8, I i)]) (fun _ => []) (fun i => i ≤ cs.length) (fun i => cs.length - i) 0 ?_ (Nat.zero_le _) ?_
  · refine AtS.mk [] [] rfl List.nodup_nil rfl rfl ?_
    (repeat' (first | exact trivial | exact rfl | with_reducible assumption | (refine And.intro ?_ ?_) | (refine Exists.intro _ (And.intro rfl ?_)) | (refine Exists.intro _ (Exists.intro _ (And.intro rfl (And.intro rfl ?_)))) | (refine Or.inl ⟨rfl, rfl, ?_⟩) | (refine Or.inl ⟨rfl, ?_⟩; focus (fail_if_success (refine And.intro ?_ ?_))) | (refine Or.inl (?_ : (_ : Nat) = _ ∧ _); refine ⟨?_, ?_⟩; focus (first | (simp only [List.length_map]; done) | (simp only [List.length_map, List.length_append, List.length_cons, List.length_nil]; done))) | exact Or.inl rfl | (refine Or.inr (Or.inr ⟨?_, ?_⟩)) | (refine Or.inr ⟨?_, ?_⟩) | (refine fun h => ?_; first | exact h | exact rfl | (cases h; done)) | (refine om8 ?_; simp only [← List.map_drop, ← List.map_take]; exact rfl) | ((first | refine om1 ?_ | refine om2 ?_ | refine om3 ?_ | refine om4 ?_ | refine om5 ?_ | refine om6 ?_ | refine om7 ?_); first | (simp only [List.length_map]; done) | (simp only [List.length_map]; omega) | omega)))
  intro i hi
  have hsn := fun hk : i < cs.length => (congrArg openS (List.take_succ_eq_append_getElem hk)).trans (openS_snoc _ _)
  have hle := openS_le (cs.take i)
  rw [List.length_take] at hle
  repeat' (conv => whnf
           first
           | (refine get_id ?_; first | refine Get.mk _ rfl ?_ | refine Get.mk _ (nth_map Cell.row cs i rfl (by omega)) ?_)
           | (refine need_id ?_; first | refine Need.a ?_)
           | (refine eqk_id ?_; first | refine EqK.a ?_)
           | (refine br_id ?_; first | refine Br.t ?_ | refine Br.f ?_ | (refine Br.pos ?_ ?_; focus (with_reducible assumption)) | (refine Br.neg ?_ ?_; focus (with_reducible assumption)) | (refine Br.dpos ?_ ?_; focus (first | with_reducible exact rfl | with_reducible exact Int.le_refl _ | with_reducible assumption)) | (refine Br.dneg ?_ ?_; focus (with_reducible assumption)) | (refine Br.d (fun _ => ?_) (fun _ => ?_)) | refine Br.n ?_ | (refine Br.s (fun _ => ?_) (fun _ => ?_)) | (refine Br.mk (fun _ => ?_) (fun _ => ?_)))
           | (refine regv_id ?_; first | refine RegV.d ?_)
           | refine NilB.mk (fun b hb => ?_)
           | (refine alv_and ?_ ?_; focus (first | rfl | done))
           | refine DrawV.mk [] ?_
           | (refine appc_id ?_; first | refine AppC.growA ?_ | refine AppC.place ?_))
  all_goals (try (conv => whnf))
  · rename_i h1 h2
    have h4 := hsn (by omega)
    rw [if_pos (.inl h2)] at h4
    refine nx (i + 1) (by omega) (by omega) (AtS.mk [] [] rfl List.nodup_nil rfl rfl ?_)
    rw [h4]
    (repeat' (first | exact trivial | exact rfl | with_reducible assumption | (refine And.intro ?_ ?_) | (refine Exists.intro _ (And.intro rfl ?_)) | (refine Exists.intro _ (Exists.intro _ (And.intro rfl (And.intro rfl ?_)))) | (refine Or.inl ⟨rfl, rfl, ?_⟩) | (refine Or.inl ⟨rfl, ?_⟩; focus (fail_if_success (refine And.intro ?_ ?_))) | (refine Or.inl (?_ : (_ : Nat) = _ ∧ _); refine ⟨?_, ?_⟩; focus (first | (simp only [List.length_map]; done) | (simp only [List.length_map, List.length_append, List.length_cons, List.length_nil]; done))) | exact Or.inl rfl | (refine Or.inr (Or.inr ⟨?_, ?_⟩)) | (refine Or.inr ⟨?_, ?_⟩) | (refine fun h => ?_; first | exact h | exact rfl | (cases h; done)) | (refine om8 ?_; simp only [← List.map_drop, ← List.map_take]; exact rfl) | ((first | refine om1 ?_ | refine om2 ?_ | refine om3 ?_ | refine om4 ?_ | refine om5 ?_ | refine om6 ?_ | refine om7 ?_); first | (simp only [List.length_map]; done) | (simp only [List.length_map]; omega) | omega)))
  · rename_i h1 h2 h3
    have h4 := hsn (by omega)
    rw [if_pos (.inr h3)] at h4
    refine nx (i + 1) (by omega) (by omega) (AtS.mk [] [] rfl List.nodup_nil rfl rfl ?_)
    rw [h4]
    (repeat' (first | exact trivial | exact rfl | with_reducible assumption | (refine And.intro ?_ ?_) | (refine Exists.intro _ (And.intro rfl ?_)) | (refine Exists.intro _ (Exists.intro _ (And.intro rfl (And.intro rfl ?_)))) | (refine Or.inl ⟨rfl, rfl, ?_⟩) | (refine Or.inl ⟨rfl, ?_⟩; focus (fail_if_success (refine And.intro ?_ ?_))) | (refine Or.inl (?_ : (_ : Nat) = _ ∧ _); refine ⟨?_, ?_⟩; focus (first | (simp only [List.length_map]; done) | (simp only [List.length_map, List.length_append, List.length_cons, List.length_nil]; done))) | exact Or.inl rfl | (refine Or.inr (Or.inr ⟨?_, ?_⟩)) | (refine Or.inr ⟨?_, ?_⟩) | (refine fun h => ?_; first | exact h | exact rfl | (cases h; done)) | (refine om8 ?_; simp only [← List.map_drop, ← List.map_take]; exact rfl) | ((first | refine om1 ?_ | refine om2 ?_ | refine om3 ?_ | refine om4 ?_ | refine om5 ?_ | refine om6 ?_ | refine om7 ?_); first | (simp only [List.length_map]; done) | (simp only [List.length_map]; omega) | omega)))
  · rename_i h1 h2 h3
    have h4 := hsn (by omega)
    rw [if_neg (by omega)] at h4
    refine nx (i + 1) (by omega) (by omega) (AtS.mk [] [] rfl List.nodup_nil rfl rfl ?_)
    rw [h4]
    (repeat' (first | exact trivial | exact rfl | with_reducible assumption | (refine And.intro ?_ ?_) | (refine Exists.intro _ (And.intro rfl ?_)) | (refine Exists.intro _ (Exists.intro _ (And.intro rfl (And.intro rfl ?_)))) | (refine Or.inl ⟨rfl, rfl, ?_⟩) | (refine Or.inl ⟨rfl, ?_⟩; focus (fail_if_success (refine And.intro ?_ ?_))) | (refine Or.inl (?_ : (_ : Nat) = _ ∧ _); refine ⟨?_, ?_⟩; focus (first | (simp only [List.length_map]; done) | (simp only [List.length_map, List.length_append, List.length_cons, List.length_nil]; done))) | exact Or.inl rfl | (refine Or.inr (Or.inr ⟨?_, ?_⟩)) | (refine Or.inr ⟨?_, ?_⟩) | (refine fun h => ?_; first | exact h | exact rfl | (cases h; done)) | (refine om8 ?_; simp only [← List.map_drop, ← List.map_take]; exact rfl) | ((first | refine om1 ?_ | refine om2 ?_ | refine om3 ?_ | refine om4 ?_ | refine om5 ?_ | refine om6 ?_ | refine om7 ?_); first | (simp only [List.length_map]; done) | (simp only [List.length_map]; omega) | omega)))
  · rename_i h1
    refine RetP.v ?_
    rw [List.take_of_length_le (by omega)]
theorem refopen_pcon (f : Bool) (cs : List Cell) (h : cs.length * 32 ≤ 140737488355328) : PCon Try.prog 42 [cellX f cs] (I (openS cs)) [] := by
  refine pcon_of (G := gm) Try.func42 rfl rfl rfl ?_
  repeat' (conv => whnf
           first
           | (refine get_id ?_; first | refine Get.mk _ rfl ?_)
           | (refine need_id ?_; first | refine Need.a ?_)
           | (refine eqk_id ?_; first | refine EqK.a ?_)
           | (refine br_id ?_; first | refine Br.t ?_ | refine Br.f ?_ | (refine Br.pos ?_ ?_; focus (with_reducible assumption)) | (refine Br.neg ?_ ?_; focus (with_reducible assumption)) | (refine Br.dpos ?_ ?_; focus (first | with_reducible exact rfl | with_reducible exact Int.le_refl _ | with_reducible assumption)) | (refine Br.dneg ?_ ?_; focus (with_reducible assumption)) | (refine Br.d (fun _ => ?_) (fun _ => ?_)) | refine Br.n ?_ | (refine Br.s (fun _ => ?_) (fun _ => ?_)) | (refine Br.mk (fun _ => ?_) (fun _ => ?_)))
           | (refine regv_id ?_; first | refine RegV.d ?_)
           | refine NilB.mk (fun b hb => ?_)
           | (refine alv_and ?_ ?_; focus (first | rfl | done))
           | refine DrawV.mk [] ?_
           | (refine appc_id ?_; first | refine AppC.growA ?_ | refine AppC.place ?_))
  all_goals (try (conv => whnf))
  refine LoopV.on (σ := Nat) rfl (fun i => [(3, I (openS (cs.take i))), (6, cellX f cs), (7, I cs.length), (8, I i)]) (fun _ => []) (fun i => i ≤ cs.length) (fun i => cs.length - i) 0 ?_ (Nat.zero_le _) ?_
  · refine AtS.mk [] [] rfl List.nodup_nil rfl rfl ?_
    (repeat' (first | exact trivial | exact rfl | with_reducible assumption | (refine And.intro ?_ ?_) | (refine Exists.intro _ (And.intro rfl ?_)) | (refine Exists.intro _ (Exists.intro _ (And.intro rfl (And.intro rfl ?_)))) | (refine Or.inl ⟨rfl, rfl, ?_⟩) | (refine Or.inl ⟨rfl, ?_⟩; focus (fail_if_success (refine And.intro ?_ ?_))) | (refine Or.inl (?_ : (_ : Nat) = _ ∧ _); refine ⟨?_, ?_⟩; focus (first | (simp only [List.length_map]; done) | (simp only [List.length_map, List.length_append, List.length_cons, List.length_nil]; done))) | exact Or.inl rfl | (refine Or.inr (Or.inr ⟨?_, ?_⟩)) | (refine Or.inr ⟨?_, ?_⟩) | (refine fun h => ?_; first | exact h | exact rfl | (cases h; done)) | (refine om8 ?_; simp only [← List.map_drop, ← List.map_take]; exact rfl) | ((first | refine om1 ?_ | refine om2 ?_ | refine om3 ?_ | refine om4 ?_ | refine om5 ?_ | refine om6 ?_ | refine om7 ?_); first | (simp only [List.length_map]; done) | (simp only [List.length_map]; omega) | omega)))
  intro i hi
  have hsn := fun hk : i < cs.length => (congrArg openS (List.take_succ_eq_append_getElem hk)).trans (openS_snoc _ _)
  have hle := openS_le (cs.take i)
  rw [List.length_take] at hle
  repeat' (conv => whnf
           first
           | (refine get_id ?_; first | refine Get.mk _ rfl ?_ | refine Get.mk _ (nth_map Cell.row cs i rfl (by omega)) ?_)
           | (refine need_id ?_; first | refine Need.a ?_)
           | (refine eqk_id ?_; first | refine EqK.a ?_)
           | (refine br_id ?_; first | refine Br.t ?_ | refine Br.f ?_ | (refine Br.pos ?_ ?_; focus (with_reducible assumption)) | (refine Br.neg ?_ ?_; focus (with_reducible assumption)) | (refine Br.dpos ?_ ?_; focus (first | with_reducible exact rfl | with_reducible exact Int.le_refl _ | with_reducible assumption)) | (refine Br.dneg ?_ ?_; focus (with_reducible assumption)) | (refine Br.d (fun _ => ?_) (fun _ => ?_)) | refine Br.n ?_ | (refine Br.s (fun _ => ?_) (fun _ => ?_)) | (refine Br.mk (fun _ => ?_) (fun _ => ?_)))
           | (refine regv_id ?_; first | refine RegV.d ?_)
           | refine NilB.mk (fun b hb => ?_)
           | (refine alv_and ?_ ?_; focus (first | rfl | done))
           | refine DrawV.mk [] ?_
           | (refine appc_id ?_; first | refine AppC.growA ?_ | refine AppC.place ?_))
  all_goals (try (conv => whnf))
  · rename_i h1 h2
    have h4 := hsn (by omega)
    rw [if_pos (.inl h2)] at h4
    refine nx (i + 1) (by omega) (by omega) (AtS.mk [] [] rfl List.nodup_nil rfl rfl ?_)
    rw [h4]
    (repeat' (first | exact trivial | exact rfl | with_reducible assumption | (refine And.intro ?_ ?_) | (refine Exists.intro _ (And.intro rfl ?_)) | (refine Exists.intro _ (Exists.intro _ (And.intro rfl (And.intro rfl ?_)))) | (refine Or.inl ⟨rfl, rfl, ?_⟩) | (refine Or.inl ⟨rfl, ?_⟩; focus (fail_if_success (refine And.intro ?_ ?_))) | (refine Or.inl (?_ : (_ : Nat) = _ ∧ _); refine ⟨?_, ?_⟩; focus (first | (simp only [List.length_map]; done) | (simp only [List.length_map, List.length_append, List.length_cons, List.length_nil]; done))) | exact Or.inl rfl | (refine Or.inr (Or.inr ⟨?_, ?_⟩)) | (refine Or.inr ⟨?_, ?_⟩) | (refine fun h => ?_; first | exact h | exact rfl | (cases h; done)) | (refine om8 ?_; simp only [← List.map_drop, ← List.map_take]; exact rfl) | ((first | refine om1 ?_ | refine om2 ?_ | refine om3 ?_ | refine om4 ?_ | refine om5 ?_ | refine om6 ?_ | refine om7 ?_); first | (simp only [List.length_map]; done) | (simp only [List.length_map]; omega) | omega)))
  · rename_i h1 h2 h3
    have h4 := hsn (by omega)
    rw [if_pos (.inr h3)] at h4
    refine nx (i + 1) (by omega) (by omega) (AtS.mk [] [] rfl List.nodup_nil rfl rfl ?_)
    rw [h4]
    (repeat' (first | exact trivial | exact rfl | with_reducible assumption | (refine And.intro ?_ ?_) | (refine Exists.intro _ (And.intro rfl ?_)) | (refine Exists.intro _ (Exists.intro _ (And.intro rfl (And.intro rfl ?_)))) | (refine Or.inl ⟨rfl, rfl, ?_⟩) | (refine Or.inl ⟨rfl, ?_⟩; focus (fail_if_success (refine And.intro ?_ ?_))) | (refine Or.inl (?_ : (_ : Nat) = _ ∧ _); refine ⟨?_, ?_⟩; focus (first | (simp only [List.length_map]; done) | (simp only [List.length_map, List.length_append, List.length_cons, List.length_nil]; done))) | exact Or.inl rfl | (refine Or.inr (Or.inr ⟨?_, ?_⟩)) | (refine Or.inr ⟨?_, ?_⟩) | (refine fun h => ?_; first | exact h | exact rfl | (cases h; done)) | (refine om8 ?_; simp only [← List.map_drop, ← List.map_take]; exact rfl) | ((first | refine om1 ?_ | refine om2 ?_ | refine om3 ?_ | refine om4 ?_ | refine om5 ?_ | refine om6 ?_ | refine om7 ?_); first | (simp only [List.length_map]; done) | (simp only [List.length_map]; omega) | omega)))
  · rename_i h1 h2 h3
    have h4 := hsn (by omega)
    rw [if_neg (by omega)] at h4
    refine nx (i + 1) (by omega) (by omega) (AtS.mk [] [] rfl List.nodup_nil rfl rfl ?_)
    rw [h4]
    (repeat' (first | exact trivial | exact rfl | with_reducible assumption | (refine And.intro ?_ ?_) | (refine Exists.intro _ (And.intro rfl ?_)) | (refine Exists.intro _ (Exists.intro _ (And.intro rfl (And.intro rfl ?_)))) | (refine Or.inl ⟨rfl, rfl, ?_⟩) | (refine Or.inl ⟨rfl, ?_⟩; focus (fail_if_success (refine And.intro ?_ ?_))) | (refine Or.inl (?_ : (_ : Nat) = _ ∧ _); refine ⟨?_, ?_⟩; focus (first | (simp only [List.length_map]; done) | (simp only [List.length_map, List.length_append, List.length_cons, List.length_nil]; done))) | exact Or.inl rfl | (refine Or.inr (Or.inr ⟨?_, ?_⟩)) | (refine Or.inr ⟨?_, ?_⟩) | (refine fun h => ?_; first | exact h | exact rfl | (cases h; done)) | (refine om8 ?_; simp only [← List.map_drop, ← List.map_take]; exact rfl) | ((first | refine om1 ?_ | refine om2 ?_ | refine om3 ?_ | refine om4 ?_ | refine om5 ?_ | refine om6 ?_ | refine om7 ?_); first | (simp only [List.length_map]; done) | (simp only [List.length_map]; omega) | omega)))
  · rename_i h1
    refine RetP.v ?_
    rw [List.take_of_length_le (by omega)]
theorem nth_getD (cs : List Cell) {n : Nat} (k : Nat) (hn : n = k) (h : k < cs.length) : nth (cs.map Cell.row) n = some (cs.getD k default).row := by
  rw [nth_map Cell.row cs k hn h]
  simp [h]
def Nb (cs : List Cell) (i : Nat) (p c q : Cell) : Prop := cs.getD (i - 1) default = p ∧ cs.getD i default = c ∧ cs.getD (i + 1) default = q
theorem okAt_iff (cs : List Cell) (me : Int) (sink : Bool) (i : Nat) (h : i < cs.length) : okAt cs me sink i ↔
    0 ≤ (cs.getD i default).num ∧ (cs.getD i default).num ≤ 1099511627776 ∧ 1 ≤ (cs.getD i default).state ∧ (cs.getD i default).state ≤ 3 ∧ (0 < i → (cs.getD (i - 1) default).num < (cs.getD i default).num ∧ (cs.getD i default).state = 1) ∧ ((cs.getD i default).num = 0 → (cs.getD i default).state = 3) ∧
    (sink = true → i + 1 = cs.length → (cs.getD i default).node = -1 ∧ (cs.getD i default).next = 0) ∧
    (¬ (sink = true ∧ i + 1 = cs.length) → (cs.getD i default).state ≠ 3 ∧ 0 ≤ (cs.getD i default).node ∧ (cs.getD i default).node < 32 ∧ 1 ≤ (cs.getD i default).next ∧ (cs.getD i default).next ≤ 1099511627776 ∧ ((cs.getD i default).node = me → i + 1 < cs.length ∧ (cs.getD (i + 1) default).num = (cs.getD i default).next)) := by
  unfold okAt okCell
  have e1 : (i == 0) = false ↔ 0 < i := by rw [beq_eq_false_iff_ne]; omega
  have e2 : (i + 1 == cs.length) = true ↔ i + 1 = cs.length := by simp
  have e3 : (i + 1 == cs.length) = false ↔ i + 1 < cs.length := by rw [beq_eq_false_iff_ne]; omega
  have hc' : (sink = true ∧ (i + 1 == cs.length) = true) ↔ (sink = true ∧ i + 1 = cs.length) := by rw [e2]
  rw [e1]
  by_cases hc : sink = true ∧ i + 1 = cs.length
  · rw [if_pos (hc'.2 hc)]
    simp [hc.1, hc.2]
  · rw [if_neg (mt hc'.1 hc), e3]
    have : ∀ P : Prop, (sink = true → i + 1 = cs.length → P) ↔ True := fun P => ⟨fun _ => trivial, fun _ h1 h2 => absurd ⟨h1, h2⟩ hc⟩
    rw [this]
    simp [hc]
theorem okNb {cs : List Cell} {me : Int} {sink : Bool} {i : Nat} {p c q : Cell} (hnb : Nb cs i p c q) (h : i < cs.length) : okAt cs me sink i ↔
    0 ≤ c.num ∧ c.num ≤ 1099511627776 ∧ 1 ≤ c.state ∧ c.state ≤ 3 ∧ (0 < i → p.num < c.num ∧ c.state = 1) ∧ (c.num = 0 → c.state = 3) ∧
    (sink = true → i + 1 = cs.length → c.node = -1 ∧ c.next = 0) ∧
    (¬ (sink = true ∧ i + 1 = cs.length) → c.state ≠ 3 ∧ 0 ≤ c.node ∧ c.node < 32 ∧ 1 ≤ c.next ∧ c.next ≤ 1099511627776 ∧ (c.node = me → i + 1 < cs.length ∧ q.num = c.next)) := by
  obtain ⟨rfl, rfl, rfl⟩ := hnb
  exact okAt_iff cs me sink i h
theorem good_next {cs : List Cell} {me : Int} {sink : Bool} {i : Nat} (hall : ∀ j, j < i → okAt cs me sink j) (h : okAt cs me sink i) : ∀ j, j < i + 1 → okAt cs me sink j := fun j hj => by
  by_cases e : j = i
  · subst e; exact h
  · exact hall j (by omega)
theorem goodC_all {cs : List Cell} {me : Int} {sink : Bool} {i : Nat} (hne : sink = true → 0 < cs.length) (hall : ∀ j, j < i → okAt cs me sink j) (h : cs.length ≤ i) : goodC cs me sink = true := by
  unfold goodC
  rw [Bool.and_eq_true]
  refine ⟨?_, by simpa using fun j hj => hall j (by omega)⟩
  cases sink with
  | false => rfl
  | true =>
    have := hne rfl
    cases cs with
    | nil => simp at this
    | cons c cs => rfl
set_option maxRecDepth 20000 in
set_option maxHeartbeats 8000000 in
theorem good_pcon (f : Bool) (cs : List Cell) (me : Int) (sink : Bool) (h : cs.length * 32 ≤ 140737488355328) : PCon Try.prog 66 [cellX f cs, I me, Bo sink] (Bo (goodC cs me sink)) [] := by
  refine pcon_of (G := gm) Try.func66 rfl rfl rfl ?_
  repeat' (conv => whnf
           first
           | (refine get_id ?_; first | refine Get.mk _ rfl ?_)
           | (refine need_id ?_; first | refine Need.a ?_)
           | (refine eqk_id ?_; first | refine EqK.a ?_)
           | (refine br_id ?_; first | refine Br.t ?_ | refine Br.f ?_ | (refine Br.pos ?_ ?_; focus (with_reducible assumption)) | (refine Br.neg ?_ ?_; focus (with_reducible assumption)) | (refine Br.dpos ?_ ?_; focus (first | with_reducible exact rfl | with_reducible exact Int.le_refl _ | with_reducible assumption)) | (refine Br.dneg ?_ ?_; focus (with_reducible assumption)) | (refine Br.d (fun _ => ?_) (fun _ => ?_)) | refine Br.n ?_ | (refine Br.s (fun _ => ?_) (fun _ => ?_)) | (refine Br.mk (fun _ => ?_) (fun _ => ?_)))
           | (refine regv_id ?_; first | refine RegV.qg ?_ | refine RegV.d ?_)
           | (refine gds_id ?_; apply GdS.mk)
           | (refine and_id ?_; exact ⟨rfl, rfl, rfl⟩)
           | (refine imp_id ?_; first | refine imp_s (fun _ => ?_) | refine fun _ => ?_)
           | refine NilB.mk (fun b hb => ?_)
           | (refine alv_and ?_ ?_; focus (first | rfl | done))
           | refine DrawV.mk [] ?_
           | (refine appc_id ?_; first | refine AppC.growA ?_ | refine AppC.place ?_))
  all_goals (try (conv => whnf))
  case' refine_2 =>
    refine LoopV.on (σ := Nat) rfl (fun i => [(0, cellX f cs), (1, I me), (2, Bo sink), (16, cellX f cs), (17, I cs.length), (18, I i)]) (fun _ => []) (fun i => i ≤ cs.length ∧ ∀ j, j < i → okAt cs me sink j) (fun i => cs.length - i) 0 ?_ ⟨Nat.zero_le _, fun _ h => by omega⟩ ?_
    · refine AtS.mk [] [] rfl List.nodup_nil rfl rfl ?_
      (repeat' (first | exact trivial | exact rfl | with_reducible assumption | (refine And.intro ?_ ?_) | (refine Exists.intro _ (And.intro rfl ?_)) | (refine Exists.intro _ (Exists.intro _ (And.intro rfl (And.intro rfl ?_)))) | (refine Or.inl ⟨rfl, rfl, ?_⟩) | (refine Or.inl ⟨rfl, ?_⟩; focus (fail_if_success (refine And.intro ?_ ?_))) | (refine Or.inl (?_ : (_ : Nat) = _ ∧ _); refine ⟨?_, ?_⟩; focus (first | (simp only [List.length_map]; done) | (simp only [List.length_map, List.length_append, List.length_cons, List.length_nil]; done))) | exact Or.inl rfl | (refine Or.inr (Or.inr ⟨?_, ?_⟩)) | (refine Or.inr ⟨?_, ?_⟩) | (refine fun h => ?_; first | exact h | exact rfl | (cases h; done)) | (refine om8 ?_; simp only [← List.map_drop, ← List.map_take]; exact rfl) | ((first | refine om1 ?_ | refine om2 ?_ | refine om3 ?_ | refine om4 ?_ | refine om5 ?_ | refine om6 ?_ | refine om7 ?_); first | (simp only [List.length_map]; done) | (simp only [List.length_map]; omega) | omega)))
    rintro i ⟨hi, hall⟩
    obtain ⟨p, c, q, hnb⟩ : ∃ p c q, Nb cs i p c q := ⟨_, _, _, rfl, rfl, rfl⟩
    have gp : ∀ n : Nat, n = i - 1 → i - 1 < cs.length → nth (cs.map Cell.row) n = some p.row := fun n hn hl => by rw [← hnb.1]; exact nth_getD cs (i - 1) hn hl
    have gc : ∀ n : Nat, n = i → i < cs.length → nth (cs.map Cell.row) n = some c.row := fun n hn hl => by rw [← hnb.2.1]; exact nth_getD cs i hn hl
    have gq : ∀ n : Nat, n = i + 1 → i + 1 < cs.length → nth (cs.map Cell.row) n = some q.row := fun n hn hl => by rw [← hnb.2.2]; exact nth_getD cs (i + 1) hn hl
    repeat' (conv => whnf
             first
             | (refine get_id ?_; first | refine Get.mk _ rfl ?_ | refine Get.mk _ (gc _ (by omega) (by omega)) ?_ | refine Get.mk _ (gp _ (by omega) (by omega)) ?_ | refine Get.mk _ (gq _ (by omega) (by omega)) ?_)
             | (refine need_id ?_; first | refine Need.a ?_)
             | (refine eqk_id ?_; first | refine EqK.a ?_)
             | (refine br_id ?_; first | refine Br.t ?_ | refine Br.f ?_ | (refine Br.pos ?_ ?_; focus (with_reducible assumption)) | (refine Br.neg ?_ ?_; focus (with_reducible assumption)) | (refine Br.dpos ?_ ?_; focus (first | with_reducible exact rfl | with_reducible exact Int.le_refl _ | with_reducible assumption)) | (refine Br.dneg ?_ ?_; focus (with_reducible assumption)) | (refine Br.d (fun _ => ?_) (fun _ => ?_)) | refine Br.n ?_ | (refine Br.s (fun _ => ?_) (fun _ => ?_)) | (refine Br.mk (fun _ => ?_) (fun _ => ?_)))
             | (refine regv_id ?_; first | refine RegV.qg ?_ | refine RegV.d ?_)
             | (refine gds_id ?_; apply GdS.mk)
             | (refine and_id ?_; exact ⟨rfl, rfl, rfl⟩)
             | (refine imp_id ?_; first | refine imp_s (fun _ => ?_) | refine fun _ => ?_)
             | refine NilB.mk (fun b hb => ?_)
             | (refine alv_and ?_ ?_; focus (first | rfl | done))
             | refine DrawV.mk [] ?_
             | (refine appc_id ?_; first | refine AppC.growA ?_ | refine AppC.place ?_)
             | (refine call_id ?_; first
                  | refine CallV.c (led_pcon c) ?_
                  | refine CallV.c (bare_pcon c) ?_
                  | refine CallV.e (led_pcon c) ?_
                  | refine CallV.e (bare_pcon c) ?_)
             | (refine calls_id ?_; first
                  | refine CallS.c (led_pcon c) ?_
                  | refine CallS.c (bare_pcon c) ?_
                  | refine CallS.e (led_pcon c) ?_
                  | refine CallS.e (bare_pcon c) ?_))
    all_goals (try (conv => whnf))
    all_goals clear gp gc gq
    all_goals first
      | (refine RetP.v ?_
         have hl : i < cs.length := by omega
         rw [goodC_not cs me sink hl (fun hx => ?_)]
         obtain ⟨k1, k2, k3, k4, k5, k6, k7, k8⟩ := (okNb hnb hl).1 hx
         clear hall hnb hx
         first | omega | (cases sink <;> simp_all <;> omega))
      | (refine RetP.v ?_
         rw [goodC_all (fun hs => (by rcases ‹sink = false ∨ ¬((cs.length : Int) = 0)› with h0 | h0 <;> first | omega | (rw [hs] at h0; cases h0))) hall (by omega)])
      | (have hl : i < cs.length := by omega
         refine nx (i + 1) (by omega) ⟨by omega, good_next hall ((okNb hnb hl).2 ?_)⟩ (AtS.mk [] [] rfl List.nodup_nil rfl rfl ?_)
         · clear hall hnb
           cases sink <;> simp only [reduceCtorEq, and_false, and_true, or_false, or_true, false_or, true_or, not_true_eq_false, not_false_eq_true, false_implies, true_implies, true_and, false_and] at * <;> omega
         · (repeat' (first | exact trivial | exact rfl | with_reducible assumption | (refine And.intro ?_ ?_) | (refine Exists.intro _ (And.intro rfl ?_)) | (refine Exists.intro _ (Exists.intro _ (And.intro rfl (And.intro rfl ?_)))) | (refine Or.inl ⟨rfl, rfl, ?_⟩) | (refine Or.inl ⟨rfl, ?_⟩; focus (fail_if_success (refine And.intro ?_ ?_))) | (refine Or.inl (?_ : (_ : Nat) = _ ∧ _); refine ⟨?_, ?_⟩; focus (first | (simp only [List.length_map]; done) | (simp only [List.length_map, List.length_append, List.length_cons, List.length_nil]; done))) | exact Or.inl rfl | (refine Or.inr (Or.inr ⟨?_, ?_⟩)) | (refine Or.inr ⟨?_, ?_⟩) | (refine fun h => ?_; first | exact h | exact rfl | (cases h; done)) | (refine om8 ?_; simp only [← List.map_drop, ← List.map_take]; exact rfl) | ((first | refine om1 ?_ | refine om2 ?_ | refine om3 ?_ | refine om4 ?_ | refine om5 ?_ | refine om6 ?_ | refine om7 ?_); first | (simp only [List.length_map]; done) | (simp only [List.length_map]; omega) | omega))))
      | skip
    all_goals done
  · refine RetP.v ?_
    have : cs = [] := List.length_eq_zero_iff.1 (by omega)
    subst this
    cases sink <;> simp_all [goodC]
set_option maxRecDepth 20000 in
set_option maxHeartbeats 8000000 in
theorem refgood_pcon (f : Bool) (cs : List Cell) (me : Int) (sink : Bool) (h : cs.length * 32 ≤ 140737488355328) : PCon Try.prog 43 [cellX f cs, I me, Bo sink] (Bo (goodC cs me sink)) [] := by
  refine pcon_of (G := gm) Try.func43 rfl rfl rfl ?_
  repeat' (conv => whnf
           first
           | (refine get_id ?_; first | refine Get.mk _ rfl ?_)
           | (refine need_id ?_; first | refine Need.a ?_)
           | (refine eqk_id ?_; first | refine EqK.a ?_)
           | (refine br_id ?_; first | refine Br.t ?_ | refine Br.f ?_ | (refine Br.pos ?_ ?_; focus (with_reducible assumption)) | (refine Br.neg ?_ ?_; focus (with_reducible assumption)) | (refine Br.dpos ?_ ?_; focus (first | with_reducible exact rfl | with_reducible exact Int.le_refl _ | with_reducible assumption)) | (refine Br.dneg ?_ ?_; focus (with_reducible assumption)) | (refine Br.d (fun _ => ?_) (fun _ => ?_)) | refine Br.n ?_ | (refine Br.s (fun _ => ?_) (fun _ => ?_)) | (refine Br.mk (fun _ => ?_) (fun _ => ?_)))
           | (refine regv_id ?_; first | refine RegV.qg ?_ | refine RegV.d ?_)
           | (refine gds_id ?_; apply GdS.mk)
           | (refine and_id ?_; exact ⟨rfl, rfl, rfl⟩)
           | (refine imp_id ?_; first | refine imp_s (fun _ => ?_) | refine fun _ => ?_)
           | refine NilB.mk (fun b hb => ?_)
           | (refine alv_and ?_ ?_; focus (first | rfl | done))
           | refine DrawV.mk [] ?_
           | (refine appc_id ?_; first | refine AppC.growA ?_ | refine AppC.place ?_))
  all_goals (try (conv => whnf))
  case' refine_2 =>
    refine LoopV.on (σ := Nat) rfl (fun i => [(0, cellX f cs), (1, I me), (2, Bo sink), (7, I cs.length), (8, I i)]) (fun _ => []) (fun i => i ≤ cs.length ∧ ∀ j, j < i → okAt cs me sink j) (fun i => cs.length - i) 0 ?_ ⟨Nat.zero_le _, fun _ h => by omega⟩ ?_
    · refine AtS.mk [] [] rfl List.nodup_nil rfl rfl ?_
      (repeat' (first | exact trivial | exact rfl | with_reducible assumption | (refine And.intro ?_ ?_) | (refine Exists.intro _ (And.intro rfl ?_)) | (refine Exists.intro _ (Exists.intro _ (And.intro rfl (And.intro rfl ?_)))) | (refine Or.inl ⟨rfl, rfl, ?_⟩) | (refine Or.inl ⟨rfl, ?_⟩; focus (fail_if_success (refine And.intro ?_ ?_))) | (refine Or.inl (?_ : (_ : Nat) = _ ∧ _); refine ⟨?_, ?_⟩; focus (first | (simp only [List.length_map]; done) | (simp only [List.length_map, List.length_append, List.length_cons, List.length_nil]; done))) | exact Or.inl rfl | (refine Or.inr (Or.inr ⟨?_, ?_⟩)) | (refine Or.inr ⟨?_, ?_⟩) | (refine fun h => ?_; first | exact h | exact rfl | (cases h; done)) | (refine om8 ?_; simp only [← List.map_drop, ← List.map_take]; exact rfl) | ((first | refine om1 ?_ | refine om2 ?_ | refine om3 ?_ | refine om4 ?_ | refine om5 ?_ | refine om6 ?_ | refine om7 ?_); first | (simp only [List.length_map]; done) | (simp only [List.length_map]; omega) | omega)))
    rintro i ⟨hi, hall⟩
    obtain ⟨p, c, q, hnb⟩ : ∃ p c q, Nb cs i p c q := ⟨_, _, _, rfl, rfl, rfl⟩
    have gp : ∀ n : Nat, n = i - 1 → i - 1 < cs.length → nth (cs.map Cell.row) n = some p.row := fun n hn hl => by rw [← hnb.1]; exact nth_getD cs (i - 1) hn hl
    have gc : ∀ n : Nat, n = i → i < cs.length → nth (cs.map Cell.row) n = some c.row := fun n hn hl => by rw [← hnb.2.1]; exact nth_getD cs i hn hl
    have gq : ∀ n : Nat, n = i + 1 → i + 1 < cs.length → nth (cs.map Cell.row) n = some q.row := fun n hn hl => by rw [← hnb.2.2]; exact nth_getD cs (i + 1) hn hl
    repeat' (conv => whnf
             first
             | (refine get_id ?_; first | refine Get.mk _ rfl ?_ | refine Get.mk _ (gc _ (by omega) (by omega)) ?_ | refine Get.mk _ (gp _ (by omega) (by omega)) ?_ | refine Get.mk _ (gq _ (by omega) (by omega)) ?_)
             | (refine need_id ?_; first | refine Need.a ?_)
             | (refine eqk_id ?_; first | refine EqK.a ?_)
             | (refine br_id ?_; first | refine Br.t ?_ | refine Br.f ?_ | (refine Br.pos ?_ ?_; focus (with_reducible assumption)) | (refine Br.neg ?_ ?_; focus (with_reducible assumption)) | (refine Br.dpos ?_ ?_; focus (first | with_reducible exact rfl | with_reducible exact Int.le_refl _ | with_reducible assumption)) | (refine Br.dneg ?_ ?_; focus (with_reducible assumption)) | (refine Br.d (fun _ => ?_) (fun _ => ?_)) | refine Br.n ?_ | (refine Br.s (fun _ => ?_) (fun _ => ?_)) | (refine Br.mk (fun _ => ?_) (fun _ => ?_)))
             | (refine regv_id ?_; first | refine RegV.qg ?_ | refine RegV.d ?_)
             | (refine gds_id ?_; apply GdS.mk)
             | (refine and_id ?_; exact ⟨rfl, rfl, rfl⟩)
             | (refine imp_id ?_; first | refine imp_s (fun _ => ?_) | refine fun _ => ?_)
             | refine NilB.mk (fun b hb => ?_)
             | (refine alv_and ?_ ?_; focus (first | rfl | done))
             | refine DrawV.mk [] ?_
             | (refine appc_id ?_; first | refine AppC.growA ?_ | refine AppC.place ?_))
    all_goals (try (conv => whnf))
    all_goals clear gp gc gq
    all_goals first
      | (refine RetP.v ?_
         have hl : i < cs.length := by omega
         rw [goodC_not cs me sink hl (fun hx => ?_)]
         obtain ⟨k1, k2, k3, k4, k5, k6, k7, k8⟩ := (okNb hnb hl).1 hx
         clear hall hnb hx
         first | omega | (cases sink <;> simp_all <;> omega))
      | (refine RetP.v ?_
         rw [goodC_all (fun hs => (by rcases ‹sink = false ∨ ¬((cs.length : Int) = 0)› with h0 | h0 <;> first | omega | (rw [hs] at h0; cases h0))) hall (by omega)])
      | (have hl : i < cs.length := by omega
         refine nx (i + 1) (by omega) ⟨by omega, good_next hall ((okNb hnb hl).2 ?_)⟩ (AtS.mk [] [] rfl List.nodup_nil rfl rfl ?_)
         · clear hall hnb
           cases sink <;> simp only [reduceCtorEq, and_false, and_true, or_false, or_true, false_or, true_or, not_true_eq_false, not_false_eq_true, false_implies, true_implies, true_and, false_and] at * <;> omega
         · (repeat' (first | exact trivial | exact rfl | with_reducible assumption | (refine And.intro ?_ ?_) | (refine Exists.intro _ (And.intro rfl ?_)) | (refine Exists.intro _ (Exists.intro _ (And.intro rfl (And.intro rfl ?_)))) | (refine Or.inl ⟨rfl, rfl, ?_⟩) | (refine Or.inl ⟨rfl, ?_⟩; focus (fail_if_success (refine And.intro ?_ ?_))) | (refine Or.inl (?_ : (_ : Nat) = _ ∧ _); refine ⟨?_, ?_⟩; focus (first | (simp only [List.length_map]; done) | (simp only [List.length_map, List.length_append, List.length_cons, List.length_nil]; done))) | exact Or.inl rfl | (refine Or.inr (Or.inr ⟨?_, ?_⟩)) | (refine Or.inr ⟨?_, ?_⟩) | (refine fun h => ?_; first | exact h | exact rfl | (cases h; done)) | (refine om8 ?_; simp only [← List.map_drop, ← List.map_take]; exact rfl) | ((first | refine om1 ?_ | refine om2 ?_ | refine om3 ?_ | refine om4 ?_ | refine om5 ?_ | refine om6 ?_ | refine om7 ?_); first | (simp only [List.length_map]; done) | (simp only [List.length_map]; omega) | omega))))
      | skip
    all_goals done
  · refine RetP.v ?_
    have : cs = [] := List.length_eq_zero_iff.1 (by omega)
    subst this
    cases sink <;> simp_all [goodC]
end Go.Proofs.Ytiklbnianbejdaa.Ch
