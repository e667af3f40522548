/- Walking without ways: the words W.. (printed by gen_wk.py). -/
import Derived.Test.YtiklbnianbejdaaBase
set_option linter.unusedSimpArgs false
set_option maxRecDepth 20000
set_option linter.unusedVariables false
namespace Go.Proofs.Ytiklbnianbejdaa
open Go Go.Eng Go.RowKit

/-- What is left to be shown, out of the tactics' sight. -/
structure Box (q : Prop) : Prop where
  o : q
/-- A fact, out of simp's sight. -/
structure Fc (p : Prop) : Prop where
  o : p
theorem GetW {α : Type} {o : Option α} {x : α} {k : α → Prop} (h : k x) (e : o = some x := by first | exact rfl | assumption) : Get o k := .mk x e h
theorem BrT {b : Bool} {t e : Prop} (h : t) (hb : b = true := by first | exact rfl | with_reducible assumption) : Br b t e := .pos hb h
theorem BrF {b : Bool} {t e : Prop} (h : e) (hb : b = false := by first | exact rfl | with_reducible assumption) : Br b t e := .neg hb h
theorem BrP {p : Prop} [Decidable p] {t e : Prop} (h : t) (hb : p := by first | with_reducible exact rfl | with_reducible exact Int.le_refl _ | with_reducible assumption) : Br (decide p) t e := .dpos hb h
theorem BrQ {p : Prop} [Decidable p] {t e : Prop} (h : e) (hb : ¬ p := by with_reducible assumption) : Br (decide p) t e := .dneg hb h
theorem BrX {b : Bool} {t e : Prop} (h : t) (hb : b = false → False := by (intro h; first | (simp only [eq_self, iff_true, true_iff, iff_false, false_iff, decide_eq_true_eq, decide_eq_false_iff_not, Bool.or_eq_true, Bool.and_eq_true, Bool.or_eq_false_iff, Bool.and_eq_false_iff, Bool.not_eq_true', Bool.not_eq_false', beq_iff_eq, beq_eq_false_iff_ne, bne_iff_ne, bne_eq_false_iff_eq, ne_eq, Bool.true_and, Bool.and_true, Bool.false_or, Bool.or_false, Bool.true_or, Bool.or_true, Bool.false_and, Bool.and_false, Bool.not_true, Bool.not_false, reduceCtorEq, not_false_eq_true, not_true_eq_false, and_true, true_and, or_false, false_or, or_true, true_or, and_false, false_and, Bool.cond_eq_ite] at h <;> omega) | omega)) : Br b t e := .pos (by cases b; exact (hb rfl).elim; rfl) h
theorem BrY {b : Bool} {t e : Prop} (h : e) (hb : b = true → False := by (intro h; first | (simp only [eq_self, iff_true, true_iff, iff_false, false_iff, decide_eq_true_eq, decide_eq_false_iff_not, Bool.or_eq_true, Bool.and_eq_true, Bool.or_eq_false_iff, Bool.and_eq_false_iff, Bool.not_eq_true', Bool.not_eq_false', beq_iff_eq, beq_eq_false_iff_ne, bne_iff_ne, bne_eq_false_iff_eq, ne_eq, Bool.true_and, Bool.and_true, Bool.false_or, Bool.or_false, Bool.true_or, Bool.or_true, Bool.false_and, Bool.and_false, Bool.not_true, Bool.not_false, reduceCtorEq, not_false_eq_true, not_true_eq_false, and_true, true_and, or_false, false_or, or_true, true_or, and_false, false_and, Bool.cond_eq_ite] at h <;> omega) | omega)) : Br b t e := .neg (by cases b; rfl; exact (hb rfl).elim) h
theorem GdSW {f : (Sv → List Blk → List Nat → Prop) → Prop} {g : Prop → Prop} {K : Sv → Prop} {s : Sv} (h : g (f fun s' nb kl => nb = [] ∧ kl = [] ∧ s' = s)) (k : K s) : GdS f g K := .mk s h k
/-- A place that is never asked for. -/
theorem GdSI {G : Gm} {tm : List Sv} {hp : Hp} {o : Oper} {t : Nat} {x ix : Operand} {g : Prop → Prop} {K : Sv → Prop} (_ : o.op = Op.indexAddr t x ix) (h : g (opE G tm hp o fun s' nb kl => nb = [] ∧ kl = [] ∧ s' = .ref true [I 0, I 0, I 0, I 0, I 0, I 0, I 0, I 0])) (k : K (.ref true [I 0, I 0, I 0, I 0, I 0, I 0, I 0, I 0])) : GdS (opE G tm hp o) g K := .mk _ h k
theorem Need.q {m : Nat} {l : List Nat} {k : Prop} (h : k) (hp : allEq m l := by (repeat' (first | exact trivial | exact rfl | refine And.intro ?_ ?_ | omega | (simp; done) | (simp; omega)))) : Need (allEq m l) k := .mk hp h
theorem mapSnoc {α β : Type} (f : α → β) (l : List α) (x : α) : l.map f ++ [f x] = (l ++ [x]).map f := by simp
theorem VwsC {p : Prop} (h : p := by
    (repeat' (first | exact trivial | exact rfl | with_reducible assumption | (refine And.intro ?_ ?_) | (refine Exists.intro _ (And.intro rfl ?_)) | (refine Exists.intro _ (Exists.intro _ (And.intro rfl (And.intro rfl ?_)))) | (refine Or.inl ⟨rfl, rfl, ?_⟩) | (refine Or.inl ⟨rfl, ?_⟩; focus (fail_if_success (refine And.intro ?_ ?_))) | (refine Or.inl (?_ : (_ : Nat) = _ ∧ _); refine ⟨?_, ?_⟩; focus (first | (simp only [List.length_map]; done) | (simp only [List.length_map, List.length_append, List.length_cons, List.length_nil]; done))) | exact Or.inl rfl | (refine Or.inr (Or.inr ⟨?_, ?_⟩)) | (refine Or.inr ⟨?_, ?_⟩) | (refine fun h => ?_; first | exact h | exact rfl | (cases h; done)) | (refine om8 ?_; simp only [← List.map_drop, ← List.map_take]; exact rfl) | ((first | refine om1 ?_ | refine om2 ?_ | refine om3 ?_ | refine om4 ?_ | refine om5 ?_ | refine om6 ?_ | refine om7 ?_); first | (simp only [List.length_map]; done) | (simp only [List.length_map]; omega) | omega)))
    all_goals (first | exact mapSnoc _ _ _ | assumption | (simp; done) | omega)) : p := h
/-- The state at a loop's head, its views closed. -/
theorem AtS.v {m : Nat} {tm : List Sv} {hp : Hp} {n : Nat} {spec : List (Nat × Sv)} {hps : Hp} (zs : List (Nat × Nat)) (sel : List Nat) (h1 : VwBs (hp ++ zs.map fun p => some (nilB p)) (nlB hp.length (hp.length + zs.length)) sel sel hps := by exact VwsC)
    (h2 : VwT (hp ++ zs.map fun p => some (nilB p)) (nlB hp.length (hp.length + zs.length)) sel tm spec := by exact VwsC) (h3 : Nat.beq tm.length n = true := by exact rfl) (h4 : sel.Nodup := by simp) (h5 : preB m 0 sel = true := by exact rfl) : AtS m tm hp n spec hps := .mk zs sel h3 h4 h5 h1 h2
theorem W.go {p q : Prop} (h : q) (w : Box q → p := by
    intro  hq
    repeat (conv => whnf
            first
            | (refine get_id ?_; first | refine GetW ?_)
            | (refine need_id ?_; first | refine Need.q ?_ | refine Need.a ?_)
            | (refine eqk_id ?_; first | refine EqK.a ?_)
            | (refine br_id ?_; first | refine Br.t ?_ | refine Br.f ?_ | refine BrT ?_ | refine BrF ?_ | refine BrP ?_ | refine BrQ ?_ | refine Br.n ?_ | refine BrX ?_ | refine BrY ?_)
            | (refine regv_id ?_; first | refine RegV.qg ?_ | refine RegV.d ?_)
            | (refine regw_id ?_; first | refine RegW.qg ?_ | refine RegW.d ?_)
            | (refine gds_id ?_; apply GdS.mk; focus ((repeat' ((conv => whnf); first
                | (refine get_id ?_; first | refine GetW ?_)
                | (refine need_id ?_; first | refine Need.q ?_ | refine Need.a ?_)
                | (refine eqk_id ?_; first | refine EqK.a ?_)
                | (refine br_id ?_; first | refine Br.t ?_ | refine Br.f ?_ | refine BrT ?_ | refine BrF ?_ | refine BrP ?_ | refine BrQ ?_ | refine Br.n ?_ | refine BrX ?_ | refine BrY ?_)
                | (refine and_id ?_; exact ⟨rfl, rfl, rfl⟩)
                | (refine imp_id ?_; first | refine imp_s (fun _ => ?_) | refine fun _ => ?_))); done))
            | (refine gds_id ?_; refine GdSI rfl ?_ ?_; focus ((conv => whnf); (repeat (refine imp_id ?_; first | refine imp_s (fun _ => ?_) | refine fun _ => ?_; try (conv => whnf))); exfalso; omega))
            | (refine gds_id ?_; refine GdS.mk (.val (.bool true)) ?_ ?_; focus ((conv => whnf); (repeat (refine imp_id ?_; first | refine imp_s (fun _ => ?_) | refine fun _ => ?_; try (conv => whnf))); exfalso; omega))
            | (refine alv_and ?_ ?_; focus (first | rfl | done))
            | refine DrawV.mk [] ?_
            | (refine appc_id ?_; first | refine AppC.growA ?_))
    try (conv => whnf)
    exact hq.o) : p := w  ⟨h⟩
theorem W.c1 {p q C1 : Prop} (c1 : C1) (h : q) (w : C1 → Box q → p := by
    intro c1 hq
    repeat (conv => whnf
            first
            | (refine get_id ?_; first | refine GetW ?_ | refine Get.mk _ c1 ?_)
            | (refine need_id ?_; first | refine Need.q ?_ | refine Need.a ?_ | refine Need.mk c1 ?_ | refine Need.mk c1.o ?_ | refine Need.mk ⟨rfl, rfl, rfl, c1.o, rfl, rfl⟩ ?_)
            | (refine eqk_id ?_; first | refine EqK.mk _ c1 ?_ | refine EqK.a ?_)
            | (refine br_id ?_; first | refine Br.t ?_ | refine Br.f ?_ | refine BrT ?_ | refine BrF ?_ | refine BrP ?_ | refine BrQ ?_ | refine Br.n ?_ | refine BrX ?_ | refine BrY ?_)
            | (refine regv_id ?_; first | refine RegV.qg ?_ | refine RegV.d ?_)
            | (refine regw_id ?_; first | refine RegW.qg ?_ | refine RegW.d ?_)
            | (refine gds_id ?_; apply GdS.mk; focus ((repeat' ((conv => whnf); first
                | (refine get_id ?_; first | refine GetW ?_ | refine Get.mk _ c1 ?_)
                | (refine need_id ?_; first | refine Need.q ?_ | refine Need.a ?_ | refine Need.mk c1 ?_ | refine Need.mk c1.o ?_ | refine Need.mk ⟨rfl, rfl, rfl, c1.o, rfl, rfl⟩ ?_)
                | (refine eqk_id ?_; first | refine EqK.mk _ c1 ?_ | refine EqK.a ?_)
                | (refine br_id ?_; first | refine Br.t ?_ | refine Br.f ?_ | refine BrT ?_ | refine BrF ?_ | refine BrP ?_ | refine BrQ ?_ | refine Br.n ?_ | refine BrX ?_ | refine BrY ?_)
                | (refine and_id ?_; exact ⟨rfl, rfl, rfl⟩)
                | (refine imp_id ?_; first | refine imp_s (fun _ => ?_) | refine fun _ => ?_)
                | (refine call_id ?_; first | refine CallV.c c1 ?_ | refine CallV.e c1 ?_))); done))
            | (refine gds_id ?_; refine GdSI rfl ?_ ?_; focus ((conv => whnf); (repeat (refine imp_id ?_; first | refine imp_s (fun _ => ?_) | refine fun _ => ?_; try (conv => whnf))); exfalso; omega))
            | (refine gds_id ?_; refine GdS.mk (.val (.bool true)) ?_ ?_; focus ((conv => whnf); (repeat (refine imp_id ?_; first | refine imp_s (fun _ => ?_) | refine fun _ => ?_; try (conv => whnf))); exfalso; omega))
            | (refine alv_and ?_ ?_; focus (first | rfl | done))
            | refine DrawV.mk [] ?_
            | (refine appc_id ?_; first | refine AppC.growA ?_ | refine AppC.grow c1.o ?_)
            | (refine call_id ?_; first | refine CallV.c c1 ?_ | refine CallV.e c1 ?_)
            | (refine calls_id ?_; first | refine CallS.c c1 ?_ | refine CallS.e c1 ?_))
    try (conv => whnf)
    exact hq.o) : p := w c1 ⟨h⟩
theorem W.c2 {p q C1 C2 : Prop} (c1 : C1) (c2 : C2) (h : q) (w : C1 → C2 → Box q → p := by
    intro c1 c2 hq
    repeat (conv => whnf
            first
            | (refine get_id ?_; first | refine GetW ?_ | refine Get.mk _ c1 ?_ | refine Get.mk _ c2 ?_)
            | (refine need_id ?_; first | refine Need.q ?_ | refine Need.a ?_ | refine Need.mk c1 ?_ | refine Need.mk c2 ?_ | refine Need.mk c1.o ?_ | refine Need.mk c2.o ?_ | refine Need.mk ⟨rfl, rfl, rfl, c1.o, rfl, rfl⟩ ?_ | refine Need.mk ⟨rfl, rfl, rfl, c2.o, rfl, rfl⟩ ?_)
            | (refine eqk_id ?_; first | refine EqK.mk _ c1 ?_ | refine EqK.mk _ c2 ?_ | refine EqK.a ?_)
            | (refine br_id ?_; first | refine Br.t ?_ | refine Br.f ?_ | refine BrT ?_ | refine BrF ?_ | refine BrP ?_ | refine BrQ ?_ | refine Br.n ?_ | refine BrX ?_ | refine BrY ?_)
            | (refine regv_id ?_; first | refine RegV.qg ?_ | refine RegV.d ?_)
            | (refine regw_id ?_; first | refine RegW.qg ?_ | refine RegW.d ?_)
            | (refine gds_id ?_; apply GdS.mk; focus ((repeat' ((conv => whnf); first
                | (refine get_id ?_; first | refine GetW ?_ | refine Get.mk _ c1 ?_ | refine Get.mk _ c2 ?_)
                | (refine need_id ?_; first | refine Need.q ?_ | refine Need.a ?_ | refine Need.mk c1 ?_ | refine Need.mk c2 ?_ | refine Need.mk c1.o ?_ | refine Need.mk c2.o ?_ | refine Need.mk ⟨rfl, rfl, rfl, c1.o, rfl, rfl⟩ ?_ | refine Need.mk ⟨rfl, rfl, rfl, c2.o, rfl, rfl⟩ ?_)
                | (refine eqk_id ?_; first | refine EqK.mk _ c1 ?_ | refine EqK.mk _ c2 ?_ | refine EqK.a ?_)
                | (refine br_id ?_; first | refine Br.t ?_ | refine Br.f ?_ | refine BrT ?_ | refine BrF ?_ | refine BrP ?_ | refine BrQ ?_ | refine Br.n ?_ | refine BrX ?_ | refine BrY ?_)
                | (refine and_id ?_; exact ⟨rfl, rfl, rfl⟩)
                | (refine imp_id ?_; first | refine imp_s (fun _ => ?_) | refine fun _ => ?_)
                | (refine call_id ?_; first | refine CallV.c c1 ?_ | refine CallV.c c2 ?_ | refine CallV.e c1 ?_ | refine CallV.e c2 ?_))); done))
            | (refine gds_id ?_; refine GdSI rfl ?_ ?_; focus ((conv => whnf); (repeat (refine imp_id ?_; first | refine imp_s (fun _ => ?_) | refine fun _ => ?_; try (conv => whnf))); exfalso; omega))
            | (refine gds_id ?_; refine GdS.mk (.val (.bool true)) ?_ ?_; focus ((conv => whnf); (repeat (refine imp_id ?_; first | refine imp_s (fun _ => ?_) | refine fun _ => ?_; try (conv => whnf))); exfalso; omega))
            | (refine alv_and ?_ ?_; focus (first | rfl | done))
            | refine DrawV.mk [] ?_
            | (refine appc_id ?_; first | refine AppC.growA ?_ | refine AppC.grow c1.o ?_ | refine AppC.grow c2.o ?_)
            | (refine call_id ?_; first | refine CallV.c c1 ?_ | refine CallV.c c2 ?_ | refine CallV.e c1 ?_ | refine CallV.e c2 ?_)
            | (refine calls_id ?_; first | refine CallS.c c1 ?_ | refine CallS.c c2 ?_ | refine CallS.e c1 ?_ | refine CallS.e c2 ?_))
    try (conv => whnf)
    exact hq.o) : p := w c1 c2 ⟨h⟩
theorem W.c3 {p q C1 C2 C3 : Prop} (c1 : C1) (c2 : C2) (c3 : C3) (h : q) (w : C1 → C2 → C3 → Box q → p := by
    intro c1 c2 c3 hq
    repeat (conv => whnf
            first
            | (refine get_id ?_; first | refine GetW ?_ | refine Get.mk _ c1 ?_ | refine Get.mk _ c2 ?_ | refine Get.mk _ c3 ?_)
            | (refine need_id ?_; first | refine Need.q ?_ | refine Need.a ?_ | refine Need.mk c1 ?_ | refine Need.mk c2 ?_ | refine Need.mk c3 ?_ | refine Need.mk c1.o ?_ | refine Need.mk c2.o ?_ | refine Need.mk c3.o ?_ | refine Need.mk ⟨rfl, rfl, rfl, c1.o, rfl, rfl⟩ ?_ | refine Need.mk ⟨rfl, rfl, rfl, c2.o, rfl, rfl⟩ ?_ | refine Need.mk ⟨rfl, rfl, rfl, c3.o, rfl, rfl⟩ ?_)
            | (refine eqk_id ?_; first | refine EqK.mk _ c1 ?_ | refine EqK.mk _ c2 ?_ | refine EqK.mk _ c3 ?_ | refine EqK.a ?_)
            | (refine br_id ?_; first | refine Br.t ?_ | refine Br.f ?_ | refine BrT ?_ | refine BrF ?_ | refine BrP ?_ | refine BrQ ?_ | refine Br.n ?_ | refine BrX ?_ | refine BrY ?_)
            | (refine regv_id ?_; first | refine RegV.qg ?_ | refine RegV.d ?_)
            | (refine regw_id ?_; first | refine RegW.qg ?_ | refine RegW.d ?_)
            | (refine gds_id ?_; apply GdS.mk; focus ((repeat' ((conv => whnf); first
                | (refine get_id ?_; first | refine GetW ?_ | refine Get.mk _ c1 ?_ | refine Get.mk _ c2 ?_ | refine Get.mk _ c3 ?_)
                | (refine need_id ?_; first | refine Need.q ?_ | refine Need.a ?_ | refine Need.mk c1 ?_ | refine Need.mk c2 ?_ | refine Need.mk c3 ?_ | refine Need.mk c1.o ?_ | refine Need.mk c2.o ?_ | refine Need.mk c3.o ?_ | refine Need.mk ⟨rfl, rfl, rfl, c1.o, rfl, rfl⟩ ?_ | refine Need.mk ⟨rfl, rfl, rfl, c2.o, rfl, rfl⟩ ?_ | refine Need.mk ⟨rfl, rfl, rfl, c3.o, rfl, rfl⟩ ?_)
                | (refine eqk_id ?_; first | refine EqK.mk _ c1 ?_ | refine EqK.mk _ c2 ?_ | refine EqK.mk _ c3 ?_ | refine EqK.a ?_)
                | (refine br_id ?_; first | refine Br.t ?_ | refine Br.f ?_ | refine BrT ?_ | refine BrF ?_ | refine BrP ?_ | refine BrQ ?_ | refine Br.n ?_ | refine BrX ?_ | refine BrY ?_)
                | (refine and_id ?_; exact ⟨rfl, rfl, rfl⟩)
                | (refine imp_id ?_; first | refine imp_s (fun _ => ?_) | refine fun _ => ?_)
                | (refine call_id ?_; first | refine CallV.c c1 ?_ | refine CallV.c c2 ?_ | refine CallV.c c3 ?_ | refine CallV.e c1 ?_ | refine CallV.e c2 ?_ | refine CallV.e c3 ?_))); done))
            | (refine gds_id ?_; refine GdSI rfl ?_ ?_; focus ((conv => whnf); (repeat (refine imp_id ?_; first | refine imp_s (fun _ => ?_) | refine fun _ => ?_; try (conv => whnf))); exfalso; omega))
            | (refine gds_id ?_; refine GdS.mk (.val (.bool true)) ?_ ?_; focus ((conv => whnf); (repeat (refine imp_id ?_; first | refine imp_s (fun _ => ?_) | refine fun _ => ?_; try (conv => whnf))); exfalso; omega))
            | (refine alv_and ?_ ?_; focus (first | rfl | done))
            | refine DrawV.mk [] ?_
            | (refine appc_id ?_; first | refine AppC.growA ?_ | refine AppC.grow c1.o ?_ | refine AppC.grow c2.o ?_ | refine AppC.grow c3.o ?_)
            | (refine call_id ?_; first | refine CallV.c c1 ?_ | refine CallV.c c2 ?_ | refine CallV.c c3 ?_ | refine CallV.e c1 ?_ | refine CallV.e c2 ?_ | refine CallV.e c3 ?_)
            | (refine calls_id ?_; first | refine CallS.c c1 ?_ | refine CallS.c c2 ?_ | refine CallS.c c3 ?_ | refine CallS.e c1 ?_ | refine CallS.e c2 ?_ | refine CallS.e c3 ?_))
    try (conv => whnf)
    exact hq.o) : p := w c1 c2 c3 ⟨h⟩
theorem W.c4 {p q C1 C2 C3 C4 : Prop} (c1 : C1) (c2 : C2) (c3 : C3) (c4 : C4) (h : q) (w : C1 → C2 → C3 → C4 → Box q → p := by
    intro c1 c2 c3 c4 hq
    repeat (conv => whnf
            first
            | (refine get_id ?_; first | refine GetW ?_ | refine Get.mk _ c1 ?_ | refine Get.mk _ c2 ?_ | refine Get.mk _ c3 ?_ | refine Get.mk _ c4 ?_)
            | (refine need_id ?_; first | refine Need.q ?_ | refine Need.a ?_ | refine Need.mk c1 ?_ | refine Need.mk c2 ?_ | refine Need.mk c3 ?_ | refine Need.mk c4 ?_ | refine Need.mk c1.o ?_ | refine Need.mk c2.o ?_ | refine Need.mk c3.o ?_ | refine Need.mk c4.o ?_ | refine Need.mk ⟨rfl, rfl, rfl, c1.o, rfl, rfl⟩ ?_ | refine Need.mk ⟨rfl, rfl, rfl, c2.o, rfl, rfl⟩ ?_ | refine Need.mk ⟨rfl, rfl, rfl, c3.o, rfl, rfl⟩ ?_ | refine Need.mk ⟨rfl, rfl, rfl, c4.o, rfl, rfl⟩ ?_)
            | (refine eqk_id ?_; first | refine EqK.mk _ c1 ?_ | refine EqK.mk _ c2 ?_ | refine EqK.mk _ c3 ?_ | refine EqK.mk _ c4 ?_ | refine EqK.a ?_)
            | (refine br_id ?_; first | refine Br.t ?_ | refine Br.f ?_ | refine BrT ?_ | refine BrF ?_ | refine BrP ?_ | refine BrQ ?_ | refine Br.n ?_ | refine BrX ?_ | refine BrY ?_)
            | (refine regv_id ?_; first | refine RegV.qg ?_ | refine RegV.d ?_)
            | (refine regw_id ?_; first | refine RegW.qg ?_ | refine RegW.d ?_)
            | (refine gds_id ?_; apply GdS.mk; focus ((repeat' ((conv => whnf); first
                | (refine get_id ?_; first | refine GetW ?_ | refine Get.mk _ c1 ?_ | refine Get.mk _ c2 ?_ | refine Get.mk _ c3 ?_ | refine Get.mk _ c4 ?_)
                | (refine need_id ?_; first | refine Need.q ?_ | refine Need.a ?_ | refine Need.mk c1 ?_ | refine Need.mk c2 ?_ | refine Need.mk c3 ?_ | refine Need.mk c4 ?_ | refine Need.mk c1.o ?_ | refine Need.mk c2.o ?_ | refine Need.mk c3.o ?_ | refine Need.mk c4.o ?_ | refine Need.mk ⟨rfl, rfl, rfl, c1.o, rfl, rfl⟩ ?_ | refine Need.mk ⟨rfl, rfl, rfl, c2.o, rfl, rfl⟩ ?_ | refine Need.mk ⟨rfl, rfl, rfl, c3.o, rfl, rfl⟩ ?_ | refine Need.mk ⟨rfl, rfl, rfl, c4.o, rfl, rfl⟩ ?_)
                | (refine eqk_id ?_; first | refine EqK.mk _ c1 ?_ | refine EqK.mk _ c2 ?_ | refine EqK.mk _ c3 ?_ | refine EqK.mk _ c4 ?_ | refine EqK.a ?_)
                | (refine br_id ?_; first | refine Br.t ?_ | refine Br.f ?_ | refine BrT ?_ | refine BrF ?_ | refine BrP ?_ | refine BrQ ?_ | refine Br.n ?_ | refine BrX ?_ | refine BrY ?_)
                | (refine and_id ?_; exact ⟨rfl, rfl, rfl⟩)
                | (refine imp_id ?_; first | refine imp_s (fun _ => ?_) | refine fun _ => ?_)
                | (refine call_id ?_; first | refine CallV.c c1 ?_ | refine CallV.c c2 ?_ | refine CallV.c c3 ?_ | refine CallV.c c4 ?_ | refine CallV.e c1 ?_ | refine CallV.e c2 ?_ | refine CallV.e c3 ?_ | refine CallV.e c4 ?_))); done))
            | (refine gds_id ?_; refine GdSI rfl ?_ ?_; focus ((conv => whnf); (repeat (refine imp_id ?_; first | refine imp_s (fun _ => ?_) | refine fun _ => ?_; try (conv => whnf))); exfalso; omega))
            | (refine gds_id ?_; refine GdS.mk (.val (.bool true)) ?_ ?_; focus ((conv => whnf); (repeat (refine imp_id ?_; first | refine imp_s (fun _ => ?_) | refine fun _ => ?_; try (conv => whnf))); exfalso; omega))
            | (refine alv_and ?_ ?_; focus (first | rfl | done))
            | refine DrawV.mk [] ?_
            | (refine appc_id ?_; first | refine AppC.growA ?_ | refine AppC.grow c1.o ?_ | refine AppC.grow c2.o ?_ | refine AppC.grow c3.o ?_ | refine AppC.grow c4.o ?_)
            | (refine call_id ?_; first | refine CallV.c c1 ?_ | refine CallV.c c2 ?_ | refine CallV.c c3 ?_ | refine CallV.c c4 ?_ | refine CallV.e c1 ?_ | refine CallV.e c2 ?_ | refine CallV.e c3 ?_ | refine CallV.e c4 ?_)
            | (refine calls_id ?_; first | refine CallS.c c1 ?_ | refine CallS.c c2 ?_ | refine CallS.c c3 ?_ | refine CallS.c c4 ?_ | refine CallS.e c1 ?_ | refine CallS.e c2 ?_ | refine CallS.e c3 ?_ | refine CallS.e c4 ?_))
    try (conv => whnf)
    exact hq.o) : p := w c1 c2 c3 c4 ⟨h⟩
theorem W.c5 {p q C1 C2 C3 C4 C5 : Prop} (c1 : C1) (c2 : C2) (c3 : C3) (c4 : C4) (c5 : C5) (h : q) (w : C1 → C2 → C3 → C4 → C5 → Box q → p := by
    intro c1 c2 c3 c4 c5 hq
    repeat (conv => whnf
            first
            | (refine get_id ?_; first | refine GetW ?_ | refine Get.mk _ c1 ?_ | refine Get.mk _ c2 ?_ | refine Get.mk _ c3 ?_ | refine Get.mk _ c4 ?_ | refine Get.mk _ c5 ?_)
            | (refine need_id ?_; first | refine Need.q ?_ | refine Need.a ?_ | refine Need.mk c1 ?_ | refine Need.mk c2 ?_ | refine Need.mk c3 ?_ | refine Need.mk c4 ?_ | refine Need.mk c5 ?_ | refine Need.mk c1.o ?_ | refine Need.mk c2.o ?_ | refine Need.mk c3.o ?_ | refine Need.mk c4.o ?_ | refine Need.mk c5.o ?_ | refine Need.mk ⟨rfl, rfl, rfl, c1.o, rfl, rfl⟩ ?_ | refine Need.mk ⟨rfl, rfl, rfl, c2.o, rfl, rfl⟩ ?_ | refine Need.mk ⟨rfl, rfl, rfl, c3.o, rfl, rfl⟩ ?_ | refine Need.mk ⟨rfl, rfl, rfl, c4.o, rfl, rfl⟩ ?_ | refine Need.mk ⟨rfl, rfl, rfl, c5.o, rfl, rfl⟩ ?_)
            | (refine eqk_id ?_; first | refine EqK.mk _ c1 ?_ | refine EqK.mk _ c2 ?_ | refine EqK.mk _ c3 ?_ | refine EqK.mk _ c4 ?_ | refine EqK.mk _ c5 ?_ | refine EqK.a ?_)
            | (refine br_id ?_; first | refine Br.t ?_ | refine Br.f ?_ | refine BrT ?_ | refine BrF ?_ | refine BrP ?_ | refine BrQ ?_ | refine Br.n ?_ | refine BrX ?_ | refine BrY ?_)
            | (refine regv_id ?_; first | refine RegV.qg ?_ | refine RegV.d ?_)
            | (refine regw_id ?_; first | refine RegW.qg ?_ | refine RegW.d ?_)
            | (refine gds_id ?_; apply GdS.mk; focus ((repeat' ((conv => whnf); first
                | (refine get_id ?_; first | refine GetW ?_ | refine Get.mk _ c1 ?_ | refine Get.mk _ c2 ?_ | refine Get.mk _ c3 ?_ | refine Get.mk _ c4 ?_ | refine Get.mk _ c5 ?_)
                | (refine need_id ?_; first | refine Need.q ?_ | refine Need.a ?_ | refine Need.mk c1 ?_ | refine Need.mk c2 ?_ | refine Need.mk c3 ?_ | refine Need.mk c4 ?_ | refine Need.mk c5 ?_ | refine Need.mk c1.o ?_ | refine Need.mk c2.o ?_ | refine Need.mk c3.o ?_ | refine Need.mk c4.o ?_ | refine Need.mk c5.o ?_ | refine Need.mk ⟨rfl, rfl, rfl, c1.o, rfl, rfl⟩ ?_ | refine Need.mk ⟨rfl, rfl, rfl, c2.o, rfl, rfl⟩ ?_ | refine Need.mk ⟨rfl, rfl, rfl, c3.o, rfl, rfl⟩ ?_ | refine Need.mk ⟨rfl, rfl, rfl, c4.o, rfl, rfl⟩ ?_ | refine Need.mk ⟨rfl, rfl, rfl, c5.o, rfl, rfl⟩ ?_)
                | (refine eqk_id ?_; first | refine EqK.mk _ c1 ?_ | refine EqK.mk _ c2 ?_ | refine EqK.mk _ c3 ?_ | refine EqK.mk _ c4 ?_ | refine EqK.mk _ c5 ?_ | refine EqK.a ?_)
                | (refine br_id ?_; first | refine Br.t ?_ | refine Br.f ?_ | refine BrT ?_ | refine BrF ?_ | refine BrP ?_ | refine BrQ ?_ | refine Br.n ?_ | refine BrX ?_ | refine BrY ?_)
                | (refine and_id ?_; exact ⟨rfl, rfl, rfl⟩)
                | (refine imp_id ?_; first | refine imp_s (fun _ => ?_) | refine fun _ => ?_)
                | (refine call_id ?_; first | refine CallV.c c1 ?_ | refine CallV.c c2 ?_ | refine CallV.c c3 ?_ | refine CallV.c c4 ?_ | refine CallV.c c5 ?_ | refine CallV.e c1 ?_ | refine CallV.e c2 ?_ | refine CallV.e c3 ?_ | refine CallV.e c4 ?_ | refine CallV.e c5 ?_))); done))
            | (refine gds_id ?_; refine GdSI rfl ?_ ?_; focus ((conv => whnf); (repeat (refine imp_id ?_; first | refine imp_s (fun _ => ?_) | refine fun _ => ?_; try (conv => whnf))); exfalso; omega))
            | (refine gds_id ?_; refine GdS.mk (.val (.bool true)) ?_ ?_; focus ((conv => whnf); (repeat (refine imp_id ?_; first | refine imp_s (fun _ => ?_) | refine fun _ => ?_; try (conv => whnf))); exfalso; omega))
            | (refine alv_and ?_ ?_; focus (first | rfl | done))
            | refine DrawV.mk [] ?_
            | (refine appc_id ?_; first | refine AppC.growA ?_ | refine AppC.grow c1.o ?_ | refine AppC.grow c2.o ?_ | refine AppC.grow c3.o ?_ | refine AppC.grow c4.o ?_ | refine AppC.grow c5.o ?_)
            | (refine call_id ?_; first | refine CallV.c c1 ?_ | refine CallV.c c2 ?_ | refine CallV.c c3 ?_ | refine CallV.c c4 ?_ | refine CallV.c c5 ?_ | refine CallV.e c1 ?_ | refine CallV.e c2 ?_ | refine CallV.e c3 ?_ | refine CallV.e c4 ?_ | refine CallV.e c5 ?_)
            | (refine calls_id ?_; first | refine CallS.c c1 ?_ | refine CallS.c c2 ?_ | refine CallS.c c3 ?_ | refine CallS.c c4 ?_ | refine CallS.c c5 ?_ | refine CallS.e c1 ?_ | refine CallS.e c2 ?_ | refine CallS.e c3 ?_ | refine CallS.e c4 ?_ | refine CallS.e c5 ?_))
    try (conv => whnf)
    exact hq.o) : p := w c1 c2 c3 c4 c5 ⟨h⟩
theorem W.c6 {p q C1 C2 C3 C4 C5 C6 : Prop} (c1 : C1) (c2 : C2) (c3 : C3) (c4 : C4) (c5 : C5) (c6 : C6) (h : q) (w : C1 → C2 → C3 → C4 → C5 → C6 → Box q → p := by
    intro c1 c2 c3 c4 c5 c6 hq
    repeat (conv => whnf
            first
            | (refine get_id ?_; first | refine GetW ?_ | refine Get.mk _ c1 ?_ | refine Get.mk _ c2 ?_ | refine Get.mk _ c3 ?_ | refine Get.mk _ c4 ?_ | refine Get.mk _ c5 ?_ | refine Get.mk _ c6 ?_)
            | (refine need_id ?_; first | refine Need.q ?_ | refine Need.a ?_ | refine Need.mk c1 ?_ | refine Need.mk c2 ?_ | refine Need.mk c3 ?_ | refine Need.mk c4 ?_ | refine Need.mk c5 ?_ | refine Need.mk c6 ?_ | refine Need.mk c1.o ?_ | refine Need.mk c2.o ?_ | refine Need.mk c3.o ?_ | refine Need.mk c4.o ?_ | refine Need.mk c5.o ?_ | refine Need.mk c6.o ?_ | refine Need.mk ⟨rfl, rfl, rfl, c1.o, rfl, rfl⟩ ?_ | refine Need.mk ⟨rfl, rfl, rfl, c2.o, rfl, rfl⟩ ?_ | refine Need.mk ⟨rfl, rfl, rfl, c3.o, rfl, rfl⟩ ?_ | refine Need.mk ⟨rfl, rfl, rfl, c4.o, rfl, rfl⟩ ?_ | refine Need.mk ⟨rfl, rfl, rfl, c5.o, rfl, rfl⟩ ?_ | refine Need.mk ⟨rfl, rfl, rfl, c6.o, rfl, rfl⟩ ?_)
            | (refine eqk_id ?_; first | refine EqK.mk _ c1 ?_ | refine EqK.mk _ c2 ?_ | refine EqK.mk _ c3 ?_ | refine EqK.mk _ c4 ?_ | refine EqK.mk _ c5 ?_ | refine EqK.mk _ c6 ?_ | refine EqK.a ?_)
            | (refine br_id ?_; first | refine Br.t ?_ | refine Br.f ?_ | refine BrT ?_ | refine BrF ?_ | refine BrP ?_ | refine BrQ ?_ | refine Br.n ?_ | refine BrX ?_ | refine BrY ?_)
            | (refine regv_id ?_; first | refine RegV.qg ?_ | refine RegV.d ?_)
            | (refine regw_id ?_; first | refine RegW.qg ?_ | refine RegW.d ?_)
            | (refine gds_id ?_; apply GdS.mk; focus ((repeat' ((conv => whnf); first
                | (refine get_id ?_; first | refine GetW ?_ | refine Get.mk _ c1 ?_ | refine Get.mk _ c2 ?_ | refine Get.mk _ c3 ?_ | refine Get.mk _ c4 ?_ | refine Get.mk _ c5 ?_ | refine Get.mk _ c6 ?_)
                | (refine need_id ?_; first | refine Need.q ?_ | refine Need.a ?_ | refine Need.mk c1 ?_ | refine Need.mk c2 ?_ | refine Need.mk c3 ?_ | refine Need.mk c4 ?_ | refine Need.mk c5 ?_ | refine Need.mk c6 ?_ | refine Need.mk c1.o ?_ | refine Need.mk c2.o ?_ | refine Need.mk c3.o ?_ | refine Need.mk c4.o ?_ | refine Need.mk c5.o ?_ | refine Need.mk c6.o ?_ | refine Need.mk ⟨rfl, rfl, rfl, c1.o, rfl, rfl⟩ ?_ | refine Need.mk ⟨rfl, rfl, rfl, c2.o, rfl, rfl⟩ ?_ | refine Need.mk ⟨rfl, rfl, rfl, c3.o, rfl, rfl⟩ ?_ | refine Need.mk ⟨rfl, rfl, rfl, c4.o, rfl, rfl⟩ ?_ | refine Need.mk ⟨rfl, rfl, rfl, c5.o, rfl, rfl⟩ ?_ | refine Need.mk ⟨rfl, rfl, rfl, c6.o, rfl, rfl⟩ ?_)
                | (refine eqk_id ?_; first | refine EqK.mk _ c1 ?_ | refine EqK.mk _ c2 ?_ | refine EqK.mk _ c3 ?_ | refine EqK.mk _ c4 ?_ | refine EqK.mk _ c5 ?_ | refine EqK.mk _ c6 ?_ | refine EqK.a ?_)
                | (refine br_id ?_; first | refine Br.t ?_ | refine Br.f ?_ | refine BrT ?_ | refine BrF ?_ | refine BrP ?_ | refine BrQ ?_ | refine Br.n ?_ | refine BrX ?_ | refine BrY ?_)
                | (refine and_id ?_; exact ⟨rfl, rfl, rfl⟩)
                | (refine imp_id ?_; first | refine imp_s (fun _ => ?_) | refine fun _ => ?_)
                | (refine call_id ?_; first | refine CallV.c c1 ?_ | refine CallV.c c2 ?_ | refine CallV.c c3 ?_ | refine CallV.c c4 ?_ | refine CallV.c c5 ?_ | refine CallV.c c6 ?_ | refine CallV.e c1 ?_ | refine CallV.e c2 ?_ | refine CallV.e c3 ?_ | refine CallV.e c4 ?_ | refine CallV.e c5 ?_ | refine CallV.e c6 ?_))); done))
            | (refine gds_id ?_; refine GdSI rfl ?_ ?_; focus ((conv => whnf); (repeat (refine imp_id ?_; first | refine imp_s (fun _ => ?_) | refine fun _ => ?_; try (conv => whnf))); exfalso; omega))
            | (refine gds_id ?_; refine GdS.mk (.val (.bool true)) ?_ ?_; focus ((conv => whnf); (repeat (refine imp_id ?_; first | refine imp_s (fun _ => ?_) | refine fun _ => ?_; try (conv => whnf))); exfalso; omega))
            | (refine alv_and ?_ ?_; focus (first | rfl | done))
            | refine DrawV.mk [] ?_
            | (refine appc_id ?_; first | refine AppC.growA ?_ | refine AppC.grow c1.o ?_ | refine AppC.grow c2.o ?_ | refine AppC.grow c3.o ?_ | refine AppC.grow c4.o ?_ | refine AppC.grow c5.o ?_ | refine AppC.grow c6.o ?_)
            | (refine call_id ?_; first | refine CallV.c c1 ?_ | refine CallV.c c2 ?_ | refine CallV.c c3 ?_ | refine CallV.c c4 ?_ | refine CallV.c c5 ?_ | refine CallV.c c6 ?_ | refine CallV.e c1 ?_ | refine CallV.e c2 ?_ | refine CallV.e c3 ?_ | refine CallV.e c4 ?_ | refine CallV.e c5 ?_ | refine CallV.e c6 ?_)
            | (refine calls_id ?_; first | refine CallS.c c1 ?_ | refine CallS.c c2 ?_ | refine CallS.c c3 ?_ | refine CallS.c c4 ?_ | refine CallS.c c5 ?_ | refine CallS.c c6 ?_ | refine CallS.e c1 ?_ | refine CallS.e c2 ?_ | refine CallS.e c3 ?_ | refine CallS.e c4 ?_ | refine CallS.e c5 ?_ | refine CallS.e c6 ?_))
    try (conv => whnf)
    exact hq.o) : p := w c1 c2 c3 c4 c5 c6 ⟨h⟩
theorem W.c7 {p q C1 C2 C3 C4 C5 C6 C7 : Prop} (c1 : C1) (c2 : C2) (c3 : C3) (c4 : C4) (c5 : C5) (c6 : C6) (c7 : C7) (h : q) (w : C1 → C2 → C3 → C4 → C5 → C6 → C7 → Box q → p := by
    intro c1 c2 c3 c4 c5 c6 c7 hq
    repeat (conv => whnf
            first
            | (refine get_id ?_; first | refine GetW ?_ | refine Get.mk _ c1 ?_ | refine Get.mk _ c2 ?_ | refine Get.mk _ c3 ?_ | refine Get.mk _ c4 ?_ | refine Get.mk _ c5 ?_ | refine Get.mk _ c6 ?_ | refine Get.mk _ c7 ?_)
            | (refine need_id ?_; first | refine Need.q ?_ | refine Need.a ?_ | refine Need.mk c1 ?_ | refine Need.mk c2 ?_ | refine Need.mk c3 ?_ | refine Need.mk c4 ?_ | refine Need.mk c5 ?_ | refine Need.mk c6 ?_ | refine Need.mk c7 ?_ | refine Need.mk c1.o ?_ | refine Need.mk c2.o ?_ | refine Need.mk c3.o ?_ | refine Need.mk c4.o ?_ | refine Need.mk c5.o ?_ | refine Need.mk c6.o ?_ | refine Need.mk c7.o ?_ | refine Need.mk ⟨rfl, rfl, rfl, c1.o, rfl, rfl⟩ ?_ | refine Need.mk ⟨rfl, rfl, rfl, c2.o, rfl, rfl⟩ ?_ | refine Need.mk ⟨rfl, rfl, rfl, c3.o, rfl, rfl⟩ ?_ | refine Need.mk ⟨rfl, rfl, rfl, c4.o, rfl, rfl⟩ ?_ | refine Need.mk ⟨rfl, rfl, rfl, c5.o, rfl, rfl⟩ ?_ | refine Need.mk ⟨rfl, rfl, rfl, c6.o, rfl, rfl⟩ ?_ | refine Need.mk ⟨rfl, rfl, rfl, c7.o, rfl, rfl⟩ ?_)
            | (refine eqk_id ?_; first | refine EqK.mk _ c1 ?_ | refine EqK.mk _ c2 ?_ | refine EqK.mk _ c3 ?_ | refine EqK.mk _ c4 ?_ | refine EqK.mk _ c5 ?_ | refine EqK.mk _ c6 ?_ | refine EqK.mk _ c7 ?_ | refine EqK.a ?_)
            | (refine br_id ?_; first | refine Br.t ?_ | refine Br.f ?_ | refine BrT ?_ | refine BrF ?_ | refine BrP ?_ | refine BrQ ?_ | refine Br.n ?_ | refine BrX ?_ | refine BrY ?_)
            | (refine regv_id ?_; first | refine RegV.qg ?_ | refine RegV.d ?_)
            | (refine regw_id ?_; first | refine RegW.qg ?_ | refine RegW.d ?_)
            | (refine gds_id ?_; apply GdS.mk; focus ((repeat' ((conv => whnf); first
                | (refine get_id ?_; first | refine GetW ?_ | refine Get.mk _ c1 ?_ | refine Get.mk _ c2 ?_ | refine Get.mk _ c3 ?_ | refine Get.mk _ c4 ?_ | refine Get.mk _ c5 ?_ | refine Get.mk _ c6 ?_ | refine Get.mk _ c7 ?_)
                | (refine need_id ?_; first | refine Need.q ?_ | refine Need.a ?_ | refine Need.mk c1 ?_ | refine Need.mk c2 ?_ | refine Need.mk c3 ?_ | refine Need.mk c4 ?_ | refine Need.mk c5 ?_ | refine Need.mk c6 ?_ | refine Need.mk c7 ?_ | refine Need.mk c1.o ?_ | refine Need.mk c2.o ?_ | refine Need.mk c3.o ?_ | refine Need.mk c4.o ?_ | refine Need.mk c5.o ?_ | refine Need.mk c6.o ?_ | refine Need.mk c7.o ?_ | refine Need.mk ⟨rfl, rfl, rfl, c1.o, rfl, rfl⟩ ?_ | refine Need.mk ⟨rfl, rfl, rfl, c2.o, rfl, rfl⟩ ?_ | refine Need.mk ⟨rfl, rfl, rfl, c3.o, rfl, rfl⟩ ?_ | refine Need.mk ⟨rfl, rfl, rfl, c4.o, rfl, rfl⟩ ?_ | refine Need.mk ⟨rfl, rfl, rfl, c5.o, rfl, rfl⟩ ?_ | refine Need.mk ⟨rfl, rfl, rfl, c6.o, rfl, rfl⟩ ?_ | refine Need.mk ⟨rfl, rfl, rfl, c7.o, rfl, rfl⟩ ?_)
                | (refine eqk_id ?_; first | refine EqK.mk _ c1 ?_ | refine EqK.mk _ c2 ?_ | refine EqK.mk _ c3 ?_ | refine EqK.mk _ c4 ?_ | refine EqK.mk _ c5 ?_ | refine EqK.mk _ c6 ?_ | refine EqK.mk _ c7 ?_ | refine EqK.a ?_)
                | (refine br_id ?_; first | refine Br.t ?_ | refine Br.f ?_ | refine BrT ?_ | refine BrF ?_ | refine BrP ?_ | refine BrQ ?_ | refine Br.n ?_ | refine BrX ?_ | refine BrY ?_)
                | (refine and_id ?_; exact ⟨rfl, rfl, rfl⟩)
                | (refine imp_id ?_; first | refine imp_s (fun _ => ?_) | refine fun _ => ?_)
                | (refine call_id ?_; first | refine CallV.c c1 ?_ | refine CallV.c c2 ?_ | refine CallV.c c3 ?_ | refine CallV.c c4 ?_ | refine CallV.c c5 ?_ | refine CallV.c c6 ?_ | refine CallV.c c7 ?_ | refine CallV.e c1 ?_ | refine CallV.e c2 ?_ | refine CallV.e c3 ?_ | refine CallV.e c4 ?_ | refine CallV.e c5 ?_ | refine CallV.e c6 ?_ | refine CallV.e c7 ?_))); done))
            | (refine gds_id ?_; refine GdSI rfl ?_ ?_; focus ((conv => whnf); (repeat (refine imp_id ?_; first | refine imp_s (fun _ => ?_) | refine fun _ => ?_; try (conv => whnf))); exfalso; omega))
            | (refine gds_id ?_; refine GdS.mk (.val (.bool true)) ?_ ?_; focus ((conv => whnf); (repeat (refine imp_id ?_; first | refine imp_s (fun _ => ?_) | refine fun _ => ?_; try (conv => whnf))); exfalso; omega))
            | (refine alv_and ?_ ?_; focus (first | rfl | done))
            | refine DrawV.mk [] ?_
            | (refine appc_id ?_; first | refine AppC.growA ?_ | refine AppC.grow c1.o ?_ | refine AppC.grow c2.o ?_ | refine AppC.grow c3.o ?_ | refine AppC.grow c4.o ?_ | refine AppC.grow c5.o ?_ | refine AppC.grow c6.o ?_ | refine AppC.grow c7.o ?_)
            | (refine call_id ?_; first | refine CallV.c c1 ?_ | refine CallV.c c2 ?_ | refine CallV.c c3 ?_ | refine CallV.c c4 ?_ | refine CallV.c c5 ?_ | refine CallV.c c6 ?_ | refine CallV.c c7 ?_ | refine CallV.e c1 ?_ | refine CallV.e c2 ?_ | refine CallV.e c3 ?_ | refine CallV.e c4 ?_ | refine CallV.e c5 ?_ | refine CallV.e c6 ?_ | refine CallV.e c7 ?_)
            | (refine calls_id ?_; first | refine CallS.c c1 ?_ | refine CallS.c c2 ?_ | refine CallS.c c3 ?_ | refine CallS.c c4 ?_ | refine CallS.c c5 ?_ | refine CallS.c c6 ?_ | refine CallS.c c7 ?_ | refine CallS.e c1 ?_ | refine CallS.e c2 ?_ | refine CallS.e c3 ?_ | refine CallS.e c4 ?_ | refine CallS.e c5 ?_ | refine CallS.e c6 ?_ | refine CallS.e c7 ?_))
    try (conv => whnf)
    exact hq.o) : p := w c1 c2 c3 c4 c5 c6 c7 ⟨h⟩
theorem W.d0 {p q : Prop} (h : q) (w : Box q → p := by
    intro  hq
    repeat (conv => whnf
            first
            | (refine get_id ?_; first | refine GetW ?_)
            | (refine need_id ?_; first | refine Need.q ?_ | refine Need.a ?_)
            | (refine eqk_id ?_; first | refine EqK.a ?_)
            | (refine br_id ?_; first | refine Br.t ?_ | refine Br.f ?_ | refine BrT ?_ | refine BrF ?_ | refine BrP ?_ | refine BrQ ?_ | refine Br.n ?_ | refine BrX ?_ | refine BrY ?_)
            | (refine regv_id ?_; refine RegV.d ?_)
            | (refine regw_id ?_; refine RegW.d ?_)
            | (refine gds_id ?_; apply GdS.mk; focus ((repeat' ((conv => whnf); first
                | (refine get_id ?_; first | refine GetW ?_)
                | (refine need_id ?_; first | refine Need.q ?_ | refine Need.a ?_)
                | (refine eqk_id ?_; first | refine EqK.a ?_)
                | (refine br_id ?_; first | refine Br.t ?_ | refine Br.f ?_ | refine BrT ?_ | refine BrF ?_ | refine BrP ?_ | refine BrQ ?_ | refine Br.n ?_ | refine BrX ?_ | refine BrY ?_)
                | (refine and_id ?_; exact ⟨rfl, rfl, rfl⟩)
                | (refine imp_id ?_; first | refine imp_s (fun _ => ?_) | refine fun _ => ?_))); done))
            | (refine gds_id ?_; refine GdSI rfl ?_ ?_; focus ((conv => whnf); (repeat (refine imp_id ?_; first | refine imp_s (fun _ => ?_) | refine fun _ => ?_; try (conv => whnf))); exfalso; omega))
            | (refine gds_id ?_; refine GdS.mk (.val (.bool true)) ?_ ?_; focus ((conv => whnf); (repeat (refine imp_id ?_; first | refine imp_s (fun _ => ?_) | refine fun _ => ?_; try (conv => whnf))); exfalso; omega))
            | (refine alv_and ?_ ?_; focus (first | rfl | done))
            | refine DrawV.mk [] ?_
            | (refine appc_id ?_; first | refine AppC.growA ?_))
    try (conv => whnf)
    exact hq.o) : p := w  ⟨h⟩
theorem W.d1 {p q C1 : Prop} (c1 : C1) (h : q) (w : C1 → Box q → p := by
    intro c1 hq
    repeat (conv => whnf
            first
            | (refine get_id ?_; first | refine GetW ?_ | refine Get.mk _ c1 ?_)
            | (refine need_id ?_; first | refine Need.q ?_ | refine Need.a ?_ | refine Need.mk c1 ?_ | refine Need.mk c1.o ?_ | refine Need.mk ⟨rfl, rfl, rfl, c1.o, rfl, rfl⟩ ?_)
            | (refine eqk_id ?_; first | refine EqK.mk _ c1 ?_ | refine EqK.a ?_)
            | (refine br_id ?_; first | refine Br.t ?_ | refine Br.f ?_ | refine BrT ?_ | refine BrF ?_ | refine BrP ?_ | refine BrQ ?_ | refine Br.n ?_ | refine BrX ?_ | refine BrY ?_)
            | (refine regv_id ?_; refine RegV.d ?_)
            | (refine regw_id ?_; refine RegW.d ?_)
            | (refine gds_id ?_; apply GdS.mk; focus ((repeat' ((conv => whnf); first
                | (refine get_id ?_; first | refine GetW ?_ | refine Get.mk _ c1 ?_)
                | (refine need_id ?_; first | refine Need.q ?_ | refine Need.a ?_ | refine Need.mk c1 ?_ | refine Need.mk c1.o ?_ | refine Need.mk ⟨rfl, rfl, rfl, c1.o, rfl, rfl⟩ ?_)
                | (refine eqk_id ?_; first | refine EqK.mk _ c1 ?_ | refine EqK.a ?_)
                | (refine br_id ?_; first | refine Br.t ?_ | refine Br.f ?_ | refine BrT ?_ | refine BrF ?_ | refine BrP ?_ | refine BrQ ?_ | refine Br.n ?_ | refine BrX ?_ | refine BrY ?_)
                | (refine and_id ?_; exact ⟨rfl, rfl, rfl⟩)
                | (refine imp_id ?_; first | refine imp_s (fun _ => ?_) | refine fun _ => ?_)
                | (refine call_id ?_; first | refine CallV.c c1 ?_ | refine CallV.e c1 ?_))); done))
            | (refine gds_id ?_; refine GdSI rfl ?_ ?_; focus ((conv => whnf); (repeat (refine imp_id ?_; first | refine imp_s (fun _ => ?_) | refine fun _ => ?_; try (conv => whnf))); exfalso; omega))
            | (refine gds_id ?_; refine GdS.mk (.val (.bool true)) ?_ ?_; focus ((conv => whnf); (repeat (refine imp_id ?_; first | refine imp_s (fun _ => ?_) | refine fun _ => ?_; try (conv => whnf))); exfalso; omega))
            | (refine alv_and ?_ ?_; focus (first | rfl | done))
            | refine DrawV.mk [] ?_
            | (refine appc_id ?_; first | refine AppC.growA ?_ | refine AppC.grow c1.o ?_)
            | (refine call_id ?_; first | refine CallV.c c1 ?_ | refine CallV.e c1 ?_)
            | (refine calls_id ?_; first | refine CallS.c c1 ?_ | refine CallS.e c1 ?_))
    try (conv => whnf)
    exact hq.o) : p := w c1 ⟨h⟩
theorem W.d2 {p q C1 C2 : Prop} (c1 : C1) (c2 : C2) (h : q) (w : C1 → C2 → Box q → p := by
    intro c1 c2 hq
    repeat (conv => whnf
            first
            | (refine get_id ?_; first | refine GetW ?_ | refine Get.mk _ c1 ?_ | refine Get.mk _ c2 ?_)
            | (refine need_id ?_; first | refine Need.q ?_ | refine Need.a ?_ | refine Need.mk c1 ?_ | refine Need.mk c2 ?_ | refine Need.mk c1.o ?_ | refine Need.mk c2.o ?_ | refine Need.mk ⟨rfl, rfl, rfl, c1.o, rfl, rfl⟩ ?_ | refine Need.mk ⟨rfl, rfl, rfl, c2.o, rfl, rfl⟩ ?_)
            | (refine eqk_id ?_; first | refine EqK.mk _ c1 ?_ | refine EqK.mk _ c2 ?_ | refine EqK.a ?_)
            | (refine br_id ?_; first | refine Br.t ?_ | refine Br.f ?_ | refine BrT ?_ | refine BrF ?_ | refine BrP ?_ | refine BrQ ?_ | refine Br.n ?_ | refine BrX ?_ | refine BrY ?_)
            | (refine regv_id ?_; refine RegV.d ?_)
            | (refine regw_id ?_; refine RegW.d ?_)
            | (refine gds_id ?_; apply GdS.mk; focus ((repeat' ((conv => whnf); first
                | (refine get_id ?_; first | refine GetW ?_ | refine Get.mk _ c1 ?_ | refine Get.mk _ c2 ?_)
                | (refine need_id ?_; first | refine Need.q ?_ | refine Need.a ?_ | refine Need.mk c1 ?_ | refine Need.mk c2 ?_ | refine Need.mk c1.o ?_ | refine Need.mk c2.o ?_ | refine Need.mk ⟨rfl, rfl, rfl, c1.o, rfl, rfl⟩ ?_ | refine Need.mk ⟨rfl, rfl, rfl, c2.o, rfl, rfl⟩ ?_)
                | (refine eqk_id ?_; first | refine EqK.mk _ c1 ?_ | refine EqK.mk _ c2 ?_ | refine EqK.a ?_)
                | (refine br_id ?_; first | refine Br.t ?_ | refine Br.f ?_ | refine BrT ?_ | refine BrF ?_ | refine BrP ?_ | refine BrQ ?_ | refine Br.n ?_ | refine BrX ?_ | refine BrY ?_)
                | (refine and_id ?_; exact ⟨rfl, rfl, rfl⟩)
                | (refine imp_id ?_; first | refine imp_s (fun _ => ?_) | refine fun _ => ?_)
                | (refine call_id ?_; first | refine CallV.c c1 ?_ | refine CallV.c c2 ?_ | refine CallV.e c1 ?_ | refine CallV.e c2 ?_))); done))
            | (refine gds_id ?_; refine GdSI rfl ?_ ?_; focus ((conv => whnf); (repeat (refine imp_id ?_; first | refine imp_s (fun _ => ?_) | refine fun _ => ?_; try (conv => whnf))); exfalso; omega))
            | (refine gds_id ?_; refine GdS.mk (.val (.bool true)) ?_ ?_; focus ((conv => whnf); (repeat (refine imp_id ?_; first | refine imp_s (fun _ => ?_) | refine fun _ => ?_; try (conv => whnf))); exfalso; omega))
            | (refine alv_and ?_ ?_; focus (first | rfl | done))
            | refine DrawV.mk [] ?_
            | (refine appc_id ?_; first | refine AppC.growA ?_ | refine AppC.grow c1.o ?_ | refine AppC.grow c2.o ?_)
            | (refine call_id ?_; first | refine CallV.c c1 ?_ | refine CallV.c c2 ?_ | refine CallV.e c1 ?_ | refine CallV.e c2 ?_)
            | (refine calls_id ?_; first | refine CallS.c c1 ?_ | refine CallS.c c2 ?_ | refine CallS.e c1 ?_ | refine CallS.e c2 ?_))
    try (conv => whnf)
    exact hq.o) : p := w c1 c2 ⟨h⟩
theorem W.d3 {p q C1 C2 C3 : Prop} (c1 : C1) (c2 : C2) (c3 : C3) (h : q) (w : C1 → C2 → C3 → Box q → p := by
    intro c1 c2 c3 hq
    repeat (conv => whnf
            first
            | (refine get_id ?_; first | refine GetW ?_ | refine Get.mk _ c1 ?_ | refine Get.mk _ c2 ?_ | refine Get.mk _ c3 ?_)
            | (refine need_id ?_; first | refine Need.q ?_ | refine Need.a ?_ | refine Need.mk c1 ?_ | refine Need.mk c2 ?_ | refine Need.mk c3 ?_ | refine Need.mk c1.o ?_ | refine Need.mk c2.o ?_ | refine Need.mk c3.o ?_ | refine Need.mk ⟨rfl, rfl, rfl, c1.o, rfl, rfl⟩ ?_ | refine Need.mk ⟨rfl, rfl, rfl, c2.o, rfl, rfl⟩ ?_ | refine Need.mk ⟨rfl, rfl, rfl, c3.o, rfl, rfl⟩ ?_)
            | (refine eqk_id ?_; first | refine EqK.mk _ c1 ?_ | refine EqK.mk _ c2 ?_ | refine EqK.mk _ c3 ?_ | refine EqK.a ?_)
            | (refine br_id ?_; first | refine Br.t ?_ | refine Br.f ?_ | refine BrT ?_ | refine BrF ?_ | refine BrP ?_ | refine BrQ ?_ | refine Br.n ?_ | refine BrX ?_ | refine BrY ?_)
            | (refine regv_id ?_; refine RegV.d ?_)
            | (refine regw_id ?_; refine RegW.d ?_)
            | (refine gds_id ?_; apply GdS.mk; focus ((repeat' ((conv => whnf); first
                | (refine get_id ?_; first | refine GetW ?_ | refine Get.mk _ c1 ?_ | refine Get.mk _ c2 ?_ | refine Get.mk _ c3 ?_)
                | (refine need_id ?_; first | refine Need.q ?_ | refine Need.a ?_ | refine Need.mk c1 ?_ | refine Need.mk c2 ?_ | refine Need.mk c3 ?_ | refine Need.mk c1.o ?_ | refine Need.mk c2.o ?_ | refine Need.mk c3.o ?_ | refine Need.mk ⟨rfl, rfl, rfl, c1.o, rfl, rfl⟩ ?_ | refine Need.mk ⟨rfl, rfl, rfl, c2.o, rfl, rfl⟩ ?_ | refine Need.mk ⟨rfl, rfl, rfl, c3.o, rfl, rfl⟩ ?_)
                | (refine eqk_id ?_; first | refine EqK.mk _ c1 ?_ | refine EqK.mk _ c2 ?_ | refine EqK.mk _ c3 ?_ | refine EqK.a ?_)
                | (refine br_id ?_; first | refine Br.t ?_ | refine Br.f ?_ | refine BrT ?_ | refine BrF ?_ | refine BrP ?_ | refine BrQ ?_ | refine Br.n ?_ | refine BrX ?_ | refine BrY ?_)
                | (refine and_id ?_; exact ⟨rfl, rfl, rfl⟩)
                | (refine imp_id ?_; first | refine imp_s (fun _ => ?_) | refine fun _ => ?_)
                | (refine call_id ?_; first | refine CallV.c c1 ?_ | refine CallV.c c2 ?_ | refine CallV.c c3 ?_ | refine CallV.e c1 ?_ | refine CallV.e c2 ?_ | refine CallV.e c3 ?_))); done))
            | (refine gds_id ?_; refine GdSI rfl ?_ ?_; focus ((conv => whnf); (repeat (refine imp_id ?_; first | refine imp_s (fun _ => ?_) | refine fun _ => ?_; try (conv => whnf))); exfalso; omega))
            | (refine gds_id ?_; refine GdS.mk (.val (.bool true)) ?_ ?_; focus ((conv => whnf); (repeat (refine imp_id ?_; first | refine imp_s (fun _ => ?_) | refine fun _ => ?_; try (conv => whnf))); exfalso; omega))
            | (refine alv_and ?_ ?_; focus (first | rfl | done))
            | refine DrawV.mk [] ?_
            | (refine appc_id ?_; first | refine AppC.growA ?_ | refine AppC.grow c1.o ?_ | refine AppC.grow c2.o ?_ | refine AppC.grow c3.o ?_)
            | (refine call_id ?_; first | refine CallV.c c1 ?_ | refine CallV.c c2 ?_ | refine CallV.c c3 ?_ | refine CallV.e c1 ?_ | refine CallV.e c2 ?_ | refine CallV.e c3 ?_)
            | (refine calls_id ?_; first | refine CallS.c c1 ?_ | refine CallS.c c2 ?_ | refine CallS.c c3 ?_ | refine CallS.e c1 ?_ | refine CallS.e c2 ?_ | refine CallS.e c3 ?_))
    try (conv => whnf)
    exact hq.o) : p := w c1 c2 c3 ⟨h⟩
theorem W.d4 {p q C1 C2 C3 C4 : Prop} (c1 : C1) (c2 : C2) (c3 : C3) (c4 : C4) (h : q) (w : C1 → C2 → C3 → C4 → Box q → p := by
    intro c1 c2 c3 c4 hq
    repeat (conv => whnf
            first
            | (refine get_id ?_; first | refine GetW ?_ | refine Get.mk _ c1 ?_ | refine Get.mk _ c2 ?_ | refine Get.mk _ c3 ?_ | refine Get.mk _ c4 ?_)
            | (refine need_id ?_; first | refine Need.q ?_ | refine Need.a ?_ | refine Need.mk c1 ?_ | refine Need.mk c2 ?_ | refine Need.mk c3 ?_ | refine Need.mk c4 ?_ | refine Need.mk c1.o ?_ | refine Need.mk c2.o ?_ | refine Need.mk c3.o ?_ | refine Need.mk c4.o ?_ | refine Need.mk ⟨rfl, rfl, rfl, c1.o, rfl, rfl⟩ ?_ | refine Need.mk ⟨rfl, rfl, rfl, c2.o, rfl, rfl⟩ ?_ | refine Need.mk ⟨rfl, rfl, rfl, c3.o, rfl, rfl⟩ ?_ | refine Need.mk ⟨rfl, rfl, rfl, c4.o, rfl, rfl⟩ ?_)
            | (refine eqk_id ?_; first | refine EqK.mk _ c1 ?_ | refine EqK.mk _ c2 ?_ | refine EqK.mk _ c3 ?_ | refine EqK.mk _ c4 ?_ | refine EqK.a ?_)
            | (refine br_id ?_; first | refine Br.t ?_ | refine Br.f ?_ | refine BrT ?_ | refine BrF ?_ | refine BrP ?_ | refine BrQ ?_ | refine Br.n ?_ | refine BrX ?_ | refine BrY ?_)
            | (refine regv_id ?_; refine RegV.d ?_)
            | (refine regw_id ?_; refine RegW.d ?_)
            | (refine gds_id ?_; apply GdS.mk; focus ((repeat' ((conv => whnf); first
                | (refine get_id ?_; first | refine GetW ?_ | refine Get.mk _ c1 ?_ | refine Get.mk _ c2 ?_ | refine Get.mk _ c3 ?_ | refine Get.mk _ c4 ?_)
                | (refine need_id ?_; first | refine Need.q ?_ | refine Need.a ?_ | refine Need.mk c1 ?_ | refine Need.mk c2 ?_ | refine Need.mk c3 ?_ | refine Need.mk c4 ?_ | refine Need.mk c1.o ?_ | refine Need.mk c2.o ?_ | refine Need.mk c3.o ?_ | refine Need.mk c4.o ?_ | refine Need.mk ⟨rfl, rfl, rfl, c1.o, rfl, rfl⟩ ?_ | refine Need.mk ⟨rfl, rfl, rfl, c2.o, rfl, rfl⟩ ?_ | refine Need.mk ⟨rfl, rfl, rfl, c3.o, rfl, rfl⟩ ?_ | refine Need.mk ⟨rfl, rfl, rfl, c4.o, rfl, rfl⟩ ?_)
                | (refine eqk_id ?_; first | refine EqK.mk _ c1 ?_ | refine EqK.mk _ c2 ?_ | refine EqK.mk _ c3 ?_ | refine EqK.mk _ c4 ?_ | refine EqK.a ?_)
                | (refine br_id ?_; first | refine Br.t ?_ | refine Br.f ?_ | refine BrT ?_ | refine BrF ?_ | refine BrP ?_ | refine BrQ ?_ | refine Br.n ?_ | refine BrX ?_ | refine BrY ?_)
                | (refine and_id ?_; exact ⟨rfl, rfl, rfl⟩)
                | (refine imp_id ?_; first | refine imp_s (fun _ => ?_) | refine fun _ => ?_)
                | (refine call_id ?_; first | refine CallV.c c1 ?_ | refine CallV.c c2 ?_ | refine CallV.c c3 ?_ | refine CallV.c c4 ?_ | refine CallV.e c1 ?_ | refine CallV.e c2 ?_ | refine CallV.e c3 ?_ | refine CallV.e c4 ?_))); done))
            | (refine gds_id ?_; refine GdSI rfl ?_ ?_; focus ((conv => whnf); (repeat (refine imp_id ?_; first | refine imp_s (fun _ => ?_) | refine fun _ => ?_; try (conv => whnf))); exfalso; omega))
            | (refine gds_id ?_; refine GdS.mk (.val (.bool true)) ?_ ?_; focus ((conv => whnf); (repeat (refine imp_id ?_; first | refine imp_s (fun _ => ?_) | refine fun _ => ?_; try (conv => whnf))); exfalso; omega))
            | (refine alv_and ?_ ?_; focus (first | rfl | done))
            | refine DrawV.mk [] ?_
            | (refine appc_id ?_; first | refine AppC.growA ?_ | refine AppC.grow c1.o ?_ | refine AppC.grow c2.o ?_ | refine AppC.grow c3.o ?_ | refine AppC.grow c4.o ?_)
            | (refine call_id ?_; first | refine CallV.c c1 ?_ | refine CallV.c c2 ?_ | refine CallV.c c3 ?_ | refine CallV.c c4 ?_ | refine CallV.e c1 ?_ | refine CallV.e c2 ?_ | refine CallV.e c3 ?_ | refine CallV.e c4 ?_)
            | (refine calls_id ?_; first | refine CallS.c c1 ?_ | refine CallS.c c2 ?_ | refine CallS.c c3 ?_ | refine CallS.c c4 ?_ | refine CallS.e c1 ?_ | refine CallS.e c2 ?_ | refine CallS.e c3 ?_ | refine CallS.e c4 ?_))
    try (conv => whnf)
    exact hq.o) : p := w c1 c2 c3 c4 ⟨h⟩
theorem W.d5 {p q C1 C2 C3 C4 C5 : Prop} (c1 : C1) (c2 : C2) (c3 : C3) (c4 : C4) (c5 : C5) (h : q) (w : C1 → C2 → C3 → C4 → C5 → Box q → p := by
    intro c1 c2 c3 c4 c5 hq
    repeat (conv => whnf
            first
            | (refine get_id ?_; first | refine GetW ?_ | refine Get.mk _ c1 ?_ | refine Get.mk _ c2 ?_ | refine Get.mk _ c3 ?_ | refine Get.mk _ c4 ?_ | refine Get.mk _ c5 ?_)
            | (refine need_id ?_; first | refine Need.q ?_ | refine Need.a ?_ | refine Need.mk c1 ?_ | refine Need.mk c2 ?_ | refine Need.mk c3 ?_ | refine Need.mk c4 ?_ | refine Need.mk c5 ?_ | refine Need.mk c1.o ?_ | refine Need.mk c2.o ?_ | refine Need.mk c3.o ?_ | refine Need.mk c4.o ?_ | refine Need.mk c5.o ?_ | refine Need.mk ⟨rfl, rfl, rfl, c1.o, rfl, rfl⟩ ?_ | refine Need.mk ⟨rfl, rfl, rfl, c2.o, rfl, rfl⟩ ?_ | refine Need.mk ⟨rfl, rfl, rfl, c3.o, rfl, rfl⟩ ?_ | refine Need.mk ⟨rfl, rfl, rfl, c4.o, rfl, rfl⟩ ?_ | refine Need.mk ⟨rfl, rfl, rfl, c5.o, rfl, rfl⟩ ?_)
            | (refine eqk_id ?_; first | refine EqK.mk _ c1 ?_ | refine EqK.mk _ c2 ?_ | refine EqK.mk _ c3 ?_ | refine EqK.mk _ c4 ?_ | refine EqK.mk _ c5 ?_ | refine EqK.a ?_)
            | (refine br_id ?_; first | refine Br.t ?_ | refine Br.f ?_ | refine BrT ?_ | refine BrF ?_ | refine BrP ?_ | refine BrQ ?_ | refine Br.n ?_ | refine BrX ?_ | refine BrY ?_)
            | (refine regv_id ?_; refine RegV.d ?_)
            | (refine regw_id ?_; refine RegW.d ?_)
            | (refine gds_id ?_; apply GdS.mk; focus ((repeat' ((conv => whnf); first
                | (refine get_id ?_; first | refine GetW ?_ | refine Get.mk _ c1 ?_ | refine Get.mk _ c2 ?_ | refine Get.mk _ c3 ?_ | refine Get.mk _ c4 ?_ | refine Get.mk _ c5 ?_)
                | (refine need_id ?_; first | refine Need.q ?_ | refine Need.a ?_ | refine Need.mk c1 ?_ | refine Need.mk c2 ?_ | refine Need.mk c3 ?_ | refine Need.mk c4 ?_ | refine Need.mk c5 ?_ | refine Need.mk c1.o ?_ | refine Need.mk c2.o ?_ | refine Need.mk c3.o ?_ | refine Need.mk c4.o ?_ | refine Need.mk c5.o ?_ | refine Need.mk ⟨rfl, rfl, rfl, c1.o, rfl, rfl⟩ ?_ | refine Need.mk ⟨rfl, rfl, rfl, c2.o, rfl, rfl⟩ ?_ | refine Need.mk ⟨rfl, rfl, rfl, c3.o, rfl, rfl⟩ ?_ | refine Need.mk ⟨rfl, rfl, rfl, c4.o, rfl, rfl⟩ ?_ | refine Need.mk ⟨rfl, rfl, rfl, c5.o, rfl, rfl⟩ ?_)
                | (refine eqk_id ?_; first | refine EqK.mk _ c1 ?_ | refine EqK.mk _ c2 ?_ | refine EqK.mk _ c3 ?_ | refine EqK.mk _ c4 ?_ | refine EqK.mk _ c5 ?_ | refine EqK.a ?_)
                | (refine br_id ?_; first | refine Br.t ?_ | refine Br.f ?_ | refine BrT ?_ | refine BrF ?_ | refine BrP ?_ | refine BrQ ?_ | refine Br.n ?_ | refine BrX ?_ | refine BrY ?_)
                | (refine and_id ?_; exact ⟨rfl, rfl, rfl⟩)
                | (refine imp_id ?_; first | refine imp_s (fun _ => ?_) | refine fun _ => ?_)
                | (refine call_id ?_; first | refine CallV.c c1 ?_ | refine CallV.c c2 ?_ | refine CallV.c c3 ?_ | refine CallV.c c4 ?_ | refine CallV.c c5 ?_ | refine CallV.e c1 ?_ | refine CallV.e c2 ?_ | refine CallV.e c3 ?_ | refine CallV.e c4 ?_ | refine CallV.e c5 ?_))); done))
            | (refine gds_id ?_; refine GdSI rfl ?_ ?_; focus ((conv => whnf); (repeat (refine imp_id ?_; first | refine imp_s (fun _ => ?_) | refine fun _ => ?_; try (conv => whnf))); exfalso; omega))
            | (refine gds_id ?_; refine GdS.mk (.val (.bool true)) ?_ ?_; focus ((conv => whnf); (repeat (refine imp_id ?_; first | refine imp_s (fun _ => ?_) | refine fun _ => ?_; try (conv => whnf))); exfalso; omega))
            | (refine alv_and ?_ ?_; focus (first | rfl | done))
            | refine DrawV.mk [] ?_
            | (refine appc_id ?_; first | refine AppC.growA ?_ | refine AppC.grow c1.o ?_ | refine AppC.grow c2.o ?_ | refine AppC.grow c3.o ?_ | refine AppC.grow c4.o ?_ | refine AppC.grow c5.o ?_)
            | (refine call_id ?_; first | refine CallV.c c1 ?_ | refine CallV.c c2 ?_ | refine CallV.c c3 ?_ | refine CallV.c c4 ?_ | refine CallV.c c5 ?_ | refine CallV.e c1 ?_ | refine CallV.e c2 ?_ | refine CallV.e c3 ?_ | refine CallV.e c4 ?_ | refine CallV.e c5 ?_)
            | (refine calls_id ?_; first | refine CallS.c c1 ?_ | refine CallS.c c2 ?_ | refine CallS.c c3 ?_ | refine CallS.c c4 ?_ | refine CallS.c c5 ?_ | refine CallS.e c1 ?_ | refine CallS.e c2 ?_ | refine CallS.e c3 ?_ | refine CallS.e c4 ?_ | refine CallS.e c5 ?_))
    try (conv => whnf)
    exact hq.o) : p := w c1 c2 c3 c4 c5 ⟨h⟩
theorem W.s0 {p q : Prop} (h : q) (w : Box q → p := by
    intro  hq
    repeat (conv => whnf
            first
            | (refine get_id ?_; first | refine GetW ?_)
            | (refine need_id ?_; first | refine Need.q ?_ | refine Need.a ?_)
            | (refine eqk_id ?_; first | refine EqK.a ?_)
            | (refine br_id ?_; first | refine Br.t ?_ | refine Br.f ?_ | refine BrT ?_ | refine BrF ?_ | refine BrP ?_ | refine BrQ ?_ | refine Br.n ?_ | refine BrX ?_ | refine BrY ?_)
            | (refine gds_id ?_; apply GdS.mk; focus ((repeat' ((conv => whnf); first
                | (refine get_id ?_; first | refine GetW ?_)
                | (refine need_id ?_; first | refine Need.q ?_ | refine Need.a ?_)
                | (refine eqk_id ?_; first | refine EqK.a ?_)
                | (refine br_id ?_; first | refine Br.t ?_ | refine Br.f ?_ | refine BrT ?_ | refine BrF ?_ | refine BrP ?_ | refine BrQ ?_ | refine Br.n ?_ | refine BrX ?_ | refine BrY ?_)
                | (refine and_id ?_; exact ⟨rfl, rfl, rfl⟩)
                | (refine imp_id ?_; first | refine imp_s (fun _ => ?_) | refine fun _ => ?_))); done))
            | (refine gds_id ?_; refine GdSI rfl ?_ ?_; focus ((conv => whnf); (repeat (refine imp_id ?_; first | refine imp_s (fun _ => ?_) | refine fun _ => ?_; try (conv => whnf))); exfalso; omega))
            | (refine gds_id ?_; refine GdS.mk (.val (.bool true)) ?_ ?_; focus ((conv => whnf); (repeat (refine imp_id ?_; first | refine imp_s (fun _ => ?_) | refine fun _ => ?_; try (conv => whnf))); exfalso; omega))
            | (refine alv_and ?_ ?_; focus (first | rfl | done))
            | refine DrawV.mk [] ?_
            | (refine appc_id ?_; first | refine AppC.growA ?_))
    try (conv => whnf)
    exact hq.o) : p := w  ⟨h⟩
theorem W.s1 {p q C1 : Prop} (c1 : C1) (h : q) (w : C1 → Box q → p := by
    intro c1 hq
    repeat (conv => whnf
            first
            | (refine get_id ?_; first | refine GetW ?_ | refine Get.mk _ c1 ?_)
            | (refine need_id ?_; first | refine Need.q ?_ | refine Need.a ?_ | refine Need.mk c1 ?_ | refine Need.mk c1.o ?_ | refine Need.mk ⟨rfl, rfl, rfl, c1.o, rfl, rfl⟩ ?_)
            | (refine eqk_id ?_; first | refine EqK.mk _ c1 ?_ | refine EqK.a ?_)
            | (refine br_id ?_; first | refine Br.t ?_ | refine Br.f ?_ | refine BrT ?_ | refine BrF ?_ | refine BrP ?_ | refine BrQ ?_ | refine Br.n ?_ | refine BrX ?_ | refine BrY ?_)
            | (refine gds_id ?_; apply GdS.mk; focus ((repeat' ((conv => whnf); first
                | (refine get_id ?_; first | refine GetW ?_ | refine Get.mk _ c1 ?_)
                | (refine need_id ?_; first | refine Need.q ?_ | refine Need.a ?_ | refine Need.mk c1 ?_ | refine Need.mk c1.o ?_ | refine Need.mk ⟨rfl, rfl, rfl, c1.o, rfl, rfl⟩ ?_)
                | (refine eqk_id ?_; first | refine EqK.mk _ c1 ?_ | refine EqK.a ?_)
                | (refine br_id ?_; first | refine Br.t ?_ | refine Br.f ?_ | refine BrT ?_ | refine BrF ?_ | refine BrP ?_ | refine BrQ ?_ | refine Br.n ?_ | refine BrX ?_ | refine BrY ?_)
                | (refine and_id ?_; exact ⟨rfl, rfl, rfl⟩)
                | (refine imp_id ?_; first | refine imp_s (fun _ => ?_) | refine fun _ => ?_)
                | (refine call_id ?_; first | refine CallV.c c1 ?_ | refine CallV.e c1 ?_))); done))
            | (refine gds_id ?_; refine GdSI rfl ?_ ?_; focus ((conv => whnf); (repeat (refine imp_id ?_; first | refine imp_s (fun _ => ?_) | refine fun _ => ?_; try (conv => whnf))); exfalso; omega))
            | (refine gds_id ?_; refine GdS.mk (.val (.bool true)) ?_ ?_; focus ((conv => whnf); (repeat (refine imp_id ?_; first | refine imp_s (fun _ => ?_) | refine fun _ => ?_; try (conv => whnf))); exfalso; omega))
            | (refine alv_and ?_ ?_; focus (first | rfl | done))
            | refine DrawV.mk [] ?_
            | (refine appc_id ?_; first | refine AppC.growA ?_ | refine AppC.grow c1.o ?_)
            | (refine call_id ?_; first | refine CallV.c c1 ?_ | refine CallV.e c1 ?_)
            | (refine calls_id ?_; first | refine CallS.c c1 ?_ | refine CallS.e c1 ?_))
    try (conv => whnf)
    exact hq.o) : p := w c1 ⟨h⟩
theorem W.s2 {p q C1 C2 : Prop} (c1 : C1) (c2 : C2) (h : q) (w : C1 → C2 → Box q → p := by
    intro c1 c2 hq
    repeat (conv => whnf
            first
            | (refine get_id ?_; first | refine GetW ?_ | refine Get.mk _ c1 ?_ | refine Get.mk _ c2 ?_)
            | (refine need_id ?_; first | refine Need.q ?_ | refine Need.a ?_ | refine Need.mk c1 ?_ | refine Need.mk c2 ?_ | refine Need.mk c1.o ?_ | refine Need.mk c2.o ?_ | refine Need.mk ⟨rfl, rfl, rfl, c1.o, rfl, rfl⟩ ?_ | refine Need.mk ⟨rfl, rfl, rfl, c2.o, rfl, rfl⟩ ?_)
            | (refine eqk_id ?_; first | refine EqK.mk _ c1 ?_ | refine EqK.mk _ c2 ?_ | refine EqK.a ?_)
            | (refine br_id ?_; first | refine Br.t ?_ | refine Br.f ?_ | refine BrT ?_ | refine BrF ?_ | refine BrP ?_ | refine BrQ ?_ | refine Br.n ?_ | refine BrX ?_ | refine BrY ?_)
            | (refine gds_id ?_; apply GdS.mk; focus ((repeat' ((conv => whnf); first
                | (refine get_id ?_; first | refine GetW ?_ | refine Get.mk _ c1 ?_ | refine Get.mk _ c2 ?_)
                | (refine need_id ?_; first | refine Need.q ?_ | refine Need.a ?_ | refine Need.mk c1 ?_ | refine Need.mk c2 ?_ | refine Need.mk c1.o ?_ | refine Need.mk c2.o ?_ | refine Need.mk ⟨rfl, rfl, rfl, c1.o, rfl, rfl⟩ ?_ | refine Need.mk ⟨rfl, rfl, rfl, c2.o, rfl, rfl⟩ ?_)
                | (refine eqk_id ?_; first | refine EqK.mk _ c1 ?_ | refine EqK.mk _ c2 ?_ | refine EqK.a ?_)
                | (refine br_id ?_; first | refine Br.t ?_ | refine Br.f ?_ | refine BrT ?_ | refine BrF ?_ | refine BrP ?_ | refine BrQ ?_ | refine Br.n ?_ | refine BrX ?_ | refine BrY ?_)
                | (refine and_id ?_; exact ⟨rfl, rfl, rfl⟩)
                | (refine imp_id ?_; first | refine imp_s (fun _ => ?_) | refine fun _ => ?_)
                | (refine call_id ?_; first | refine CallV.c c1 ?_ | refine CallV.c c2 ?_ | refine CallV.e c1 ?_ | refine CallV.e c2 ?_))); done))
            | (refine gds_id ?_; refine GdSI rfl ?_ ?_; focus ((conv => whnf); (repeat (refine imp_id ?_; first | refine imp_s (fun _ => ?_) | refine fun _ => ?_; try (conv => whnf))); exfalso; omega))
            | (refine gds_id ?_; refine GdS.mk (.val (.bool true)) ?_ ?_; focus ((conv => whnf); (repeat (refine imp_id ?_; first | refine imp_s (fun _ => ?_) | refine fun _ => ?_; try (conv => whnf))); exfalso; omega))
            | (refine alv_and ?_ ?_; focus (first | rfl | done))
            | refine DrawV.mk [] ?_
            | (refine appc_id ?_; first | refine AppC.growA ?_ | refine AppC.grow c1.o ?_ | refine AppC.grow c2.o ?_)
            | (refine call_id ?_; first | refine CallV.c c1 ?_ | refine CallV.c c2 ?_ | refine CallV.e c1 ?_ | refine CallV.e c2 ?_)
            | (refine calls_id ?_; first | refine CallS.c c1 ?_ | refine CallS.c c2 ?_ | refine CallS.e c1 ?_ | refine CallS.e c2 ?_))
    try (conv => whnf)
    exact hq.o) : p := w c1 c2 ⟨h⟩
/-- The same answer, seen another way. -/
theorem PCon.re {P : Program} {f : Nat} {args : List Sv} {res res' : Sv} {nb nb' : List Blk} (c : PCon P f args res nb) (h : RetP (nb.map some) res res' nb') : PCon P f args res' nb' :=
  ⟨c.1, fun w M cc vs h1 h2 h2' h3 h4 h5 => (c.2 w M cc vs h1 h2 h2' h3 h4 h5).mono fun e w' ⟨v, c', r, hp', e1, ⟨er, eh⟩, hE⟩ => by
    subst er
    subst eh
    obtain ⟨c2, r2, hp2, hpost, hE2⟩ := h.ends h2 (fun b hb => absurd hb (h2' b)) hE.inv hE.full hE.rel
    rw [hE.weq] at hE2
    exact ⟨v, c2, r2, hp2, e1, hpost, hE2⟩⟩
/-- An own list, as content for good. -/
theorem PCon.x {P : Program} {f : Nat} {args : List Sv} {n e wd : Nat} {gr : Bool} {rows : List (List Sv)} (c : PCon P f args (.own 0 n) [⟨e, wd, true, gr, rows⟩]) (hn : n = rows.length) (hf : FrR rows) : PCon P f args (.ext true wd rows) [] :=
  PCon.re c (RetP.go [] [] (by simp) rfl ⟨rfl, _, rfl, .inl ⟨hn, rfl, .inl ⟨rfl, rfl⟩⟩⟩ ⟨rfl, hf⟩ trivial)
theorem later {R G : Prop} (main : Box R → G) (rest : R) : G := main ⟨rest⟩
end Go.Proofs.Ytiklbnianbejdaa
