/- half: Good, Push, Heard, Fits, Take. -/
import Derived.Test.YtiklbnianbejdaaMsg
set_option linter.unusedSimpArgs false
set_option maxRecDepth 20000
set_option linter.unusedVariables false
namespace Go.Proofs.Ytiklbnianbejdaa.Hf
open Go Go.Eng Go.RowKit

structure Edge where
  peer : Int
  base : Int
  out : List Msg
  seen : Int
  deriving DecidableEq
/-- An edge by content. -/
abbrev Edge.exf (e : Edge) (f : Bool) : Sv := .agg [I e.peer, I e.base, .ext f 5 (e.out.map Msg.row), I e.seen]
def Edge.own (e : Edge) : Sv := .agg [I e.peer, I e.base, .own 0 e.out.length, I e.seen]
def Edge.zero : Edge := ⟨0, 0, [], 0⟩
def Edge.fit (e : Edge) : Prop := 0 ≤ e.peer ∧ e.peer < 32 ∧ 0 ≤ e.base ∧ e.base ≤ 1099511627776 ∧ 0 ≤ e.seen ∧ e.seen ≤ 1099511627776 ∧ e.out.length ≤ 1024 ∧ e.out.length ≤ 1099511627776 - e.base
instance (e : Edge) : Decidable e.fit := by unfold Edge.fit; infer_instance
def Edge.good (e : Edge) : Bool := decide e.fit && e.out.all Msg.valid
theorem notvalid_pcon (m : Msg) : PCon Try.prog 85 [.agg m.row] (Bo (!m.valid)) [] := by
  refine pcon_of (G := gm) Try.func85 rfl rfl rfl ?_
  repeat' (conv => whnf
           first
           | (refine get_id ?_; first | refine Get.mk _ rfl ?_)
           | (refine need_id ?_; first | refine Need.a ?_)
           | (refine eqk_id ?_; first | refine EqK.a ?_)
           | (refine br_id ?_; first | refine Br.t ?_ | refine Br.f ?_ | (refine Br.pos ?_ ?_; focus (with_reducible assumption)) | (refine Br.neg ?_ ?_; focus (with_reducible assumption)) | (refine Br.dpos ?_ ?_; focus (first | with_reducible exact rfl | with_reducible exact Int.le_refl _ | with_reducible assumption)) | (refine Br.dneg ?_ ?_; focus (with_reducible assumption)) | (refine Br.d (fun _ => ?_) (fun _ => ?_)) | refine Br.n ?_ | (refine Br.s (fun _ => ?_) (fun _ => ?_)) | (refine Br.mk (fun _ => ?_) (fun _ => ?_)))
           | (refine regv_id ?_; first | refine RegV.d ?_)
           | refine NilB.mk (fun b hb => ?_)
           | (refine alv_and ?_ ?_; focus (first | rfl | done))
           | refine DrawV.mk [] ?_
           | (refine appc_id ?_; first | refine AppC.growA ?_ | refine AppC.place ?_)
           | (refine call_id ?_; first
                | refine CallV.c (valid_pcon m) ?_
                | refine CallV.e (valid_pcon m) ?_)
           | (refine calls_id ?_; first
                | refine CallS.c (valid_pcon m) ?_
                | refine CallS.e (valid_pcon m) ?_))
  all_goals (try (conv => whnf))
  all_goals exact RetP.v rfl
theorem good_pcon (e : Edge) (f : Bool) (h : e.out.length * 40 ≤ 140737488355328) : PCon Try.prog 67 [e.exf f] (Bo e.good) [] := by
  refine pcon_of (G := gm) Try.func67 rfl rfl rfl ?_
  repeat' (conv => whnf
           first
           | (refine get_id ?_; first | refine Get.mk _ rfl ?_)
           | (refine need_id ?_; first | refine Need.a ?_)
           | (refine eqk_id ?_; first | refine EqK.a ?_)
           | (refine br_id ?_; first | refine Br.t ?_ | refine Br.f ?_ | (refine Br.pos ?_ ?_; focus (with_reducible assumption)) | (refine Br.neg ?_ ?_; focus (with_reducible assumption)) | (refine Br.dpos ?_ ?_; focus (first | with_reducible exact rfl | with_reducible exact Int.le_refl _ | with_reducible assumption)) | (refine Br.dneg ?_ ?_; focus (with_reducible assumption)) | (refine Br.d (fun _ => ?_) (fun _ => ?_)) | refine Br.n ?_ | (refine Br.s (fun _ => ?_) (fun _ => ?_)) | (refine Br.mk (fun _ => ?_) (fun _ => ?_)))
           | (refine regv_id ?_; first | refine RegV.d ?_)
           | refine NilB.mk (fun b hb => ?_)
           | (refine alv_and ?_ ?_; focus (first | rfl | done))
           | refine DrawV.mk [] ?_
           | (refine appc_id ?_; first | refine AppC.growA ?_ | refine AppC.place ?_)
           | (refine call_id ?_; first
                | refine CallV.c (contains_pcon _ _ _ e.out h notvalid_pcon) ?_
                | refine CallV.e (contains_pcon _ _ _ e.out h notvalid_pcon) ?_)
           | (refine calls_id ?_; first
                | refine CallS.c (contains_pcon _ _ _ e.out h notvalid_pcon) ?_
                | refine CallS.e (contains_pcon _ _ _ e.out h notvalid_pcon) ?_))
  all_goals (try (conv => whnf))
  all_goals refine RetP.v ?_
  all_goals congr 1
  all_goals try simp only [List.length_map] at *
  all_goals try rw [wrap64 (by omega) (by omega)] at *
  all_goals first
    | (have : ¬ e.fit := by (unfold Edge.fit; omega)
       simp [Edge.good, this]; done)
    | (have : e.fit := by (unfold Edge.fit; omega)
       simp [Edge.good, this, List.not_any_eq_all_not])

theorem good_fit (e : Edge) (h : e.good = true) : e.fit := by
  unfold Edge.good at h
  simp at h
  exact h.1
theorem good_len (e : Edge) (h : e.good = true) : e.out.length ≤ 1024 := (good_fit e h).2.2.2.2.2.2.1
theorem good_base (e : Edge) (h : e.good = true) : 0 ≤ e.base ∧ e.base ≤ 1099511627776 := ⟨(good_fit e h).2.2.1, (good_fit e h).2.2.2.1⟩

def pushS (e : Edge) (m : Msg) : Edge × Int :=
  if e.good = false then (.zero, 24) else if m.valid = false then (.zero, 1) else if e.out.length = 1024 ∨ e.out.length = 1099511627776 - e.base then (.zero, 23) else ({ e with out := e.out ++ [m] }, 0)
/-- An edge and a word: what most of these answer. -/
abbrev edgeR (r : Edge × Int) : Sv := .tup [r.1.own, I r.2]
theorem RetP.zeroE {hp : Hp} {x : Int} : RetP hp (.tup [.agg [.val (.int .i64 0), .val (.int .i64 0), .val (.slice none 0 0), .val (.int .i64 0)], .val (.int .i64 x)]) (edgeR (.zero, x)) [msgB []] :=
  RetP.go [(45, 5)] [hp.length] (by simp) ⟨⟨_, hpGet_new, VwB.refl⟩, rfl⟩ ⟨⟨rfl, rfl, ⟨⟨_, rfl, nlB_new _⟩, rfl⟩, rfl, rfl⟩, rfl, rfl⟩ (by (repeat' (first | exact trivial | exact rfl | with_reducible assumption | (refine And.intro ?_ ?_) | (refine Exists.intro _ (And.intro rfl ?_)) | (refine Exists.intro _ (Exists.intro _ (And.intro rfl (And.intro rfl ?_)))) | (refine Or.inl ⟨rfl, rfl, ?_⟩) | (refine Or.inl ⟨rfl, ?_⟩; focus (fail_if_success (refine And.intro ?_ ?_))) | (refine Or.inl (?_ : (_ : Nat) = _ ∧ _); refine ⟨?_, ?_⟩; focus (first | (simp only [List.length_map]; done) | (simp only [List.length_map, List.length_append, List.length_cons, List.length_nil]; done))) | exact Or.inl rfl | (refine Or.inr (Or.inr ⟨?_, ?_⟩)) | (refine Or.inr ⟨?_, ?_⟩) | (refine fun h => ?_; first | exact h | exact rfl | (cases h; done)) | (refine om8 ?_; simp only [← List.map_drop, ← List.map_take]; exact rfl) | ((first | refine om1 ?_ | refine om2 ?_ | refine om3 ?_ | refine om4 ?_ | refine om5 ?_ | refine om6 ?_ | refine om7 ?_); first | (simp only [List.length_map]; done) | (simp only [List.length_map]; omega) | omega)))) ⟨trivial, trivial⟩
theorem RetP.edge {hp : Hp} (e : Edge) {x : Int} {k n : Nat} {rows : List (List Sv)} (hk : hpGet hp k = some ⟨45, 5, true, true, rows⟩) (hr : rows = e.out.map Msg.row) (hn : n = e.out.length) :
    RetP hp (.tup [.agg [.val (.int .i64 e.peer), .val (.int .i64 e.base), .own k n, .val (.int .i64 e.seen)], .val (.int .i64 x)]) (edgeR (e, x)) [msgB e.out] := by
  subst hr
  subst hn
  exact RetP.go [] [k] (by simp) ⟨⟨_, hpGet_app hk _, VwB.refl⟩, rfl⟩ ⟨⟨rfl, rfl, ⟨rfl, rfl⟩, rfl, rfl⟩, rfl, rfl⟩ (by (repeat' (first | exact trivial | exact rfl | with_reducible assumption | (refine And.intro ?_ ?_) | (refine Exists.intro _ (And.intro rfl ?_)) | (refine Exists.intro _ (Exists.intro _ (And.intro rfl (And.intro rfl ?_)))) | (refine Or.inl ⟨rfl, rfl, ?_⟩) | (refine Or.inl ⟨rfl, ?_⟩; focus (fail_if_success (refine And.intro ?_ ?_))) | (refine Or.inl (?_ : (_ : Nat) = _ ∧ _); refine ⟨?_, ?_⟩; focus (first | (simp only [List.length_map]; done) | (simp only [List.length_map, List.length_append, List.length_cons, List.length_nil]; done))) | exact Or.inl rfl | (refine Or.inr (Or.inr ⟨?_, ?_⟩)) | (refine Or.inr ⟨?_, ?_⟩) | (refine fun h => ?_; first | exact h | exact rfl | (cases h; done)) | (refine om8 ?_; simp only [← List.map_drop, ← List.map_take]; exact rfl) | ((first | refine om1 ?_ | refine om2 ?_ | refine om3 ?_ | refine om4 ?_ | refine om5 ?_ | refine om6 ?_ | refine om7 ?_); first | (simp only [List.length_map]; done) | (simp only [List.length_map]; omega) | omega)))) ⟨msg_fr e.out, trivial⟩
end Go.Proofs.Ytiklbnianbejdaa.Hf
