/- Messages: wire.Valid, the reference's; lists of messages through slices. -/
import Derived.Test.YtiklbnianbejdaaBase
set_option linter.unusedSimpArgs false
set_option maxRecDepth 20000
set_option linter.unusedVariables false
namespace Go.Proofs.Ytiklbnianbejdaa.Hf
open Go Go.Eng Go.RowKit

def inB (a b c : Int) : Bool := decide (b ≤ a) && decide (a ≤ c)
theorem within_pcon (a b c : Int) : PCon Try.prog 94 [I a, I b, I c] (Bo (inB a b c)) [] := by
  refine pcon_of (G := gm) Try.func94 rfl rfl rfl ?_
  repeat' (conv => whnf
           first
           | (refine get_id ?_; first | refine Get.mk _ rfl ?_)
           | (refine need_id ?_; first | refine Need.a ?_)
           | (refine eqk_id ?_; first | refine EqK.a ?_)
           | (refine br_id ?_; first | refine Br.t ?_ | refine Br.f ?_ | (refine Br.pos ?_ ?_; focus (with_reducible assumption)) | (refine Br.neg ?_ ?_; focus (with_reducible assumption)) | (refine Br.dpos ?_ ?_; focus (first | with_reducible exact rfl | with_reducible exact Int.le_refl _ | with_reducible assumption)) | (refine Br.dneg ?_ ?_; focus (with_reducible assumption)) | (refine Br.d (fun _ => ?_) (fun _ => ?_)) | refine Br.n ?_ | (refine Br.s (fun _ => ?_) (fun _ => ?_)) | (refine Br.mk (fun _ => ?_) (fun _ => ?_)))
           | (refine regv_id ?_; first | refine RegV.d ?_)
           | refine NilB.mk (fun b hb => ?_)
           | (refine alv_and ?_ ?_; focus (first | rfl | done))
           | refine DrawV.mk [] ?_
           | (refine appc_id ?_; first | refine AppC.growA ?_ | refine AppC.place ?_))
  all_goals (try (conv => whnf))
  · refine RetP.v ?_
    simp [inB, *]
  · refine RetP.v ?_
    simp [inB, *]
structure Msg where
  kind : Int
  obj : Int
  node : Int
  num : Int
  whr : Int
  deriving DecidableEq
theorem Msg.ext {a b : Msg} (h1 : a.kind = b.kind) (h2 : a.obj = b.obj) (h3 : a.node = b.node) (h4 : a.num = b.num) (h5 : a.whr = b.whr) : a = b := by
  cases a; cases b; simp_all
def Msg.row (m : Msg) : List Sv := [I m.kind, I m.obj, I m.node, I m.num, I m.whr]
def Msg.valid (m : Msg) : Bool := inB m.kind 1 4 && inB m.obj 0 7 && inB m.node 0 31 && inB m.num 1 1099511627776 && (if m.kind == 4 then inB m.whr 0 31 else m.whr == 0)
theorem valid_pcon (m : Msg) : PCon Try.prog 86 [.agg m.row] (Bo m.valid) [] := by
  refine pcon_of (G := gm) Try.func86 rfl rfl rfl ?_
  repeat' (conv => whnf
           first
           | (refine get_id ?_; first | refine Get.mk _ rfl ?_)
           | (refine need_id ?_; first | refine Need.a ?_)
           | (refine eqk_id ?_; first | refine EqK.a ?_)
           | (refine br_id ?_; first | refine Br.t ?_ | refine Br.f ?_ | (refine Br.pos ?_ ?_; focus (with_reducible assumption)) | (refine Br.neg ?_ ?_; focus (with_reducible assumption)) | (refine Br.dpos ?_ ?_; focus (first | with_reducible exact rfl | with_reducible exact Int.le_refl _ | with_reducible assumption)) | (refine Br.dneg ?_ ?_; focus (with_reducible assumption)) | (refine Br.d (fun _ => ?_) (fun _ => ?_)) | refine Br.n ?_ | (refine Br.s (fun _ => ?_) (fun _ => ?_)) | (refine Br.mk (fun _ => ?_) (fun _ => ?_)))
           | (refine regv_id ?_; first | refine RegV.d ?_)
           | refine NilB.mk (fun b hb => ?_)
           | (refine alv_and ?_ ?_; focus (first | rfl | done))
           | refine DrawV.mk [] ?_
           | (refine appc_id ?_; first | refine AppC.growA ?_ | refine AppC.place ?_)
           | (refine call_id ?_; first
                | refine CallV.c (within_pcon _ _ _) ?_
                | refine CallV.e (within_pcon _ _ _) ?_)
           | (refine calls_id ?_; first
                | refine CallS.c (within_pcon _ _ _) ?_
                | refine CallS.e (within_pcon _ _ _) ?_))
  all_goals (try (conv => whnf))
  all_goals refine RetP.v ?_
  all_goals simp_all [Msg.valid]
theorem refvalid_pcon (m : Msg) : PCon Try.prog 70 [.agg m.row] (Bo m.valid) [] := by
  refine pcon_of (G := gm) Try.func70 rfl rfl rfl ?_
  repeat' (conv => whnf
           first
           | (refine get_id ?_; first | refine Get.mk _ rfl ?_)
           | (refine need_id ?_; first | refine Need.a ?_)
           | (refine eqk_id ?_; first | refine EqK.a ?_)
           | (refine br_id ?_; first | refine Br.t ?_ | refine Br.f ?_ | (refine Br.pos ?_ ?_; focus (with_reducible assumption)) | (refine Br.neg ?_ ?_; focus (with_reducible assumption)) | (refine Br.dpos ?_ ?_; focus (first | with_reducible exact rfl | with_reducible exact Int.le_refl _ | with_reducible assumption)) | (refine Br.dneg ?_ ?_; focus (with_reducible assumption)) | (refine Br.d (fun _ => ?_) (fun _ => ?_)) | refine Br.n ?_ | (refine Br.s (fun _ => ?_) (fun _ => ?_)) | (refine Br.mk (fun _ => ?_) (fun _ => ?_)))
           | (refine regv_id ?_; first | refine RegV.d ?_)
           | refine NilB.mk (fun b hb => ?_)
           | (refine alv_and ?_ ?_; focus (first | rfl | done))
           | refine DrawV.mk [] ?_
           | (refine appc_id ?_; first | refine AppC.growA ?_ | refine AppC.place ?_))
  all_goals (try (conv => whnf))
  all_goals refine RetP.v ?_
  all_goals congr 1
  all_goals simp_all [Msg.valid, inB]
  all_goals try omega
  all_goals
    rw [Bool.eq_iff_iff]
    simp
    omega

def msgB (ms : List Msg) : Blk := mkB 45 5 (ms.map Msg.row)
abbrev msgX (ms : List Msg) : Sv := .ext false 5 (ms.map Msg.row)
theorem msg_fr (ms : List Msg) : FrR (ms.map Msg.row) := FrR_map Msg.row (fun m => by unfold Msg.row; simp [Sv.Fr.go, Sv.Fr]) ms
theorem clone_pcon (fr : Bool) (ms : List Msg) (h : ms.length * 40 ≤ 140737488355328) : PCon Try.prog 50 [.ext fr 5 (ms.map Msg.row)] (.own 0 ms.length) [msgB ms] := by
  refine pcon_of (G := gm) Try.func50 rfl rfl rfl ?_
  repeat' (conv => whnf
           first
           | (refine get_id ?_; first | refine Get.mk _ rfl ?_)
           | (refine need_id ?_; first | refine Need.a ?_)
           | (refine eqk_id ?_; first | refine EqK.a ?_)
           | (refine br_id ?_; first | refine Br.t ?_ | refine Br.f ?_ | (refine Br.pos ?_ ?_; focus (with_reducible assumption)) | (refine Br.neg ?_ ?_; focus (with_reducible assumption)) | (refine Br.dpos ?_ ?_; focus (first | with_reducible exact rfl | with_reducible exact Int.le_refl _ | with_reducible assumption)) | (refine Br.dneg ?_ ?_; focus (with_reducible assumption)) | (refine Br.d (fun _ => ?_) (fun _ => ?_)) | refine Br.n ?_ | (refine Br.s (fun _ => ?_) (fun _ => ?_)) | (refine Br.mk (fun _ => ?_) (fun _ => ?_)))
           | (refine regv_id ?_; first | refine RegV.d ?_)
           | refine NilB.mk (fun b hb => ?_)
           | (refine alv_and ?_ ?_; focus (first | rfl | done))
           | refine DrawV.mk [] ?_
           | (refine appc_id ?_; first | refine AppC.growA ?_ | refine AppC.place ?_))
  all_goals (try (conv => whnf))
  · have : ms = [] := by
      cases ms with
      | nil => rfl
      | cons m ms => simp_all
    subst this
    exact RetP.nil
  · exact RetP.own rfl (msg_fr ms)
theorem index_pcon (p : Msg → Bool) (f : Nat) (fr : Bool) (ms : List Msg) (h : ms.length * 40 ≤ 140737488355328) (hf : ∀ m, PCon Try.prog f [.agg m.row] (Bo (p m)) []) :
    PCon Try.prog 87 [.ext fr 5 (ms.map Msg.row), .clo f []] (I (match ms.findIdx? p with | some i => i | none => -1)) [] := by
  refine pcon_of (G := gm) Try.func87 rfl rfl rfl ?_
  repeat' (conv => whnf
           first
           | (refine get_id ?_; first | refine Get.mk _ rfl ?_)
           | (refine need_id ?_; first | refine Need.a ?_)
           | (refine eqk_id ?_; first | refine EqK.a ?_)
           | (refine br_id ?_; first | refine Br.t ?_ | refine Br.f ?_ | (refine Br.pos ?_ ?_; focus (with_reducible assumption)) | (refine Br.neg ?_ ?_; focus (with_reducible assumption)) | (refine Br.dpos ?_ ?_; focus (first | with_reducible exact rfl | with_reducible exact Int.le_refl _ | with_reducible assumption)) | (refine Br.dneg ?_ ?_; focus (with_reducible assumption)) | (refine Br.d (fun _ => ?_) (fun _ => ?_)) | refine Br.n ?_ | (refine Br.s (fun _ => ?_) (fun _ => ?_)) | (refine Br.mk (fun _ => ?_) (fun _ => ?_)))
           | (refine regv_id ?_; first | refine RegV.d ?_)
           | refine NilB.mk (fun b hb => ?_)
           | (refine alv_and ?_ ?_; focus (first | rfl | done))
           | refine DrawV.mk [] ?_
           | (refine appc_id ?_; first | refine AppC.growA ?_ | refine AppC.place ?_))
  all_goals (try (conv => whnf))
  refine LoopV.on (σ := Nat) rfl (fun i => [(0, .ext fr 5 (ms.map Msg.row)), (1, .clo f []), (4, I 0), (7, I ms.length), (8, I i)]) (fun _ => []) (fun i => i ≤ ms.length ∧ ∀ j (hj : j < ms.length), j < i → p ms[j] = false) (fun i => ms.length - i) 0 ?_ ⟨Nat.zero_le _, fun _ _ h => by omega⟩ ?_
  · refine AtS.mk [] [] rfl List.nodup_nil rfl rfl ?_
    (repeat' (first | exact trivial | exact rfl | with_reducible assumption | (refine And.intro ?_ ?_) | (refine Exists.intro _ (And.intro rfl ?_)) | (refine Exists.intro _ (Exists.intro _ (And.intro rfl (And.intro rfl ?_)))) | (refine Or.inl ⟨rfl, rfl, ?_⟩) | (refine Or.inl ⟨rfl, ?_⟩; focus (fail_if_success (refine And.intro ?_ ?_))) | (refine Or.inl (?_ : (_ : Nat) = _ ∧ _); refine ⟨?_, ?_⟩; focus (first | (simp only [List.length_map]; done) | (simp only [List.length_map, List.length_append, List.length_cons, List.length_nil]; done))) | exact Or.inl rfl | (refine Or.inr (Or.inr ⟨?_, ?_⟩)) | (refine Or.inr ⟨?_, ?_⟩) | (refine fun h => ?_; first | exact h | exact rfl | (cases h; done)) | (refine om8 ?_; simp only [← List.map_drop, ← List.map_take]; exact rfl) | ((first | refine om1 ?_ | refine om2 ?_ | refine om3 ?_ | refine om4 ?_ | refine om5 ?_ | refine om6 ?_ | refine om7 ?_); first | (simp only [List.length_map]; done) | (simp only [List.length_map]; omega) | omega)))
  rintro i ⟨hi, hall⟩
  repeat' (conv => whnf
           first
           | (refine get_id ?_; first | refine Get.mk _ rfl ?_ | refine Get.mk _ (nth_map Msg.row ms i rfl (by simp_all)) ?_)
           | (refine need_id ?_; first | refine Need.a ?_)
           | (refine eqk_id ?_; first | refine EqK.a ?_)
           | (refine br_id ?_; first | refine Br.t ?_ | refine Br.f ?_ | (refine Br.pos ?_ ?_; focus (with_reducible assumption)) | (refine Br.neg ?_ ?_; focus (with_reducible assumption)) | (refine Br.dpos ?_ ?_; focus (first | with_reducible exact rfl | with_reducible exact Int.le_refl _ | with_reducible assumption)) | (refine Br.dneg ?_ ?_; focus (with_reducible assumption)) | (refine Br.d (fun _ => ?_) (fun _ => ?_)) | refine Br.n ?_ | (refine Br.s (fun _ => ?_) (fun _ => ?_)) | (refine Br.mk (fun _ => ?_) (fun _ => ?_)))
           | (refine regv_id ?_; first | refine RegV.d ?_)
           | refine NilB.mk (fun b hb => ?_)
           | (refine alv_and ?_ ?_; focus (first | rfl | done))
           | refine DrawV.mk [] ?_
           | (refine appc_id ?_; first | refine AppC.growA ?_ | refine AppC.place ?_)
           | (refine call_id ?_; first
                | refine CallV.c (hf _) ?_
                | refine CallV.e (hf _) ?_)
           | (refine calls_id ?_; first
                | refine CallS.c (hf _) ?_
                | refine CallS.e (hf _) ?_))
  all_goals (try (conv => whnf))
  · have hi' : i < ms.length := by omega
    refine RetP.v ?_
    have : ms.findIdx? p = some i := by
      rw [List.findIdx?_eq_some_iff_getElem]
      exact ⟨hi', by assumption, fun j hj => by rw [hall j (by omega) hj]; simp⟩
    rw [this]
  · have hi' : i < ms.length := by omega
    refine nx (i + 1) (by omega) ⟨by omega, fun j hj h1 => ?_⟩ (AtS.mk [] [] rfl List.nodup_nil rfl rfl ?_)
    · by_cases e : j = i
      · subst e; assumption
      · exact hall j hj (by omega)
    · (repeat' (first | exact trivial | exact rfl | with_reducible assumption | (refine And.intro ?_ ?_) | (refine Exists.intro _ (And.intro rfl ?_)) | (refine Exists.intro _ (Exists.intro _ (And.intro rfl (And.intro rfl ?_)))) | (refine Or.inl ⟨rfl, rfl, ?_⟩) | (refine Or.inl ⟨rfl, ?_⟩; focus (fail_if_success (refine And.intro ?_ ?_))) | (refine Or.inl (?_ : (_ : Nat) = _ ∧ _); refine ⟨?_, ?_⟩; focus (first | (simp only [List.length_map]; done) | (simp only [List.length_map, List.length_append, List.length_cons, List.length_nil]; done))) | exact Or.inl rfl | (refine Or.inr (Or.inr ⟨?_, ?_⟩)) | (refine Or.inr ⟨?_, ?_⟩) | (refine fun h => ?_; first | exact h | exact rfl | (cases h; done)) | (refine om8 ?_; simp only [← List.map_drop, ← List.map_take]; exact rfl) | ((first | refine om1 ?_ | refine om2 ?_ | refine om3 ?_ | refine om4 ?_ | refine om5 ?_ | refine om6 ?_ | refine om7 ?_); first | (simp only [List.length_map]; done) | (simp only [List.length_map]; omega) | omega)))
  · refine RetP.v ?_
    have : ms.findIdx? p = none := by
      rw [List.findIdx?_eq_none_iff]
      intro x hx
      obtain ⟨j, hj, rfl⟩ := List.mem_iff_getElem.1 hx
      exact hall j hj (by omega)
    rw [this]
theorem contains_pcon (p : Msg → Bool) (f : Nat) (fr : Bool) (ms : List Msg) (h : ms.length * 40 ≤ 140737488355328) (hf : ∀ m, PCon Try.prog f [.agg m.row] (Bo (p m)) []) :
    PCon Try.prog 68 [.ext fr 5 (ms.map Msg.row), .clo f []] (Bo (ms.any p)) [] := by
  refine pcon_of (G := gm) Try.func68 rfl rfl rfl ?_
  repeat' (conv => whnf
           first
           | (refine get_id ?_; first | refine Get.mk _ rfl ?_)
           | (refine need_id ?_; first | refine Need.a ?_)
           | (refine eqk_id ?_; first | refine EqK.a ?_)
           | (refine br_id ?_; first | refine Br.t ?_ | refine Br.f ?_ | (refine Br.pos ?_ ?_; focus (with_reducible assumption)) | (refine Br.neg ?_ ?_; focus (with_reducible assumption)) | (refine Br.dpos ?_ ?_; focus (first | with_reducible exact rfl | with_reducible exact Int.le_refl _ | with_reducible assumption)) | (refine Br.dneg ?_ ?_; focus (with_reducible assumption)) | (refine Br.d (fun _ => ?_) (fun _ => ?_)) | refine Br.n ?_ | (refine Br.s (fun _ => ?_) (fun _ => ?_)) | (refine Br.mk (fun _ => ?_) (fun _ => ?_)))
           | (refine regv_id ?_; first | refine RegV.d ?_)
           | refine NilB.mk (fun b hb => ?_)
           | (refine alv_and ?_ ?_; focus (first | rfl | done))
           | refine DrawV.mk [] ?_
           | (refine appc_id ?_; first | refine AppC.growA ?_ | refine AppC.place ?_)
           | (refine call_id ?_; first
                | refine CallV.c (index_pcon p f _ ms h hf) ?_
                | refine CallV.e (index_pcon p f _ ms h hf) ?_)
           | (refine calls_id ?_; first
                | refine CallS.c (index_pcon p f _ ms h hf) ?_
                | refine CallS.e (index_pcon p f _ ms h hf) ?_))
  all_goals (try (conv => whnf))
  refine RetP.v ?_
  congr 1
  cases hx : ms.findIdx? p with
  | none =>
    rw [List.findIdx?_eq_none_iff] at hx
    simpa using hx
  | some i =>
    rw [List.findIdx?_eq_some_iff_getElem] at hx
    obtain ⟨h1, h2, _⟩ := hx
    simp [List.any_eq_true.2 ⟨_, List.getElem_mem h1, h2⟩]
end Go.Proofs.Ytiklbnianbejdaa.Hf
