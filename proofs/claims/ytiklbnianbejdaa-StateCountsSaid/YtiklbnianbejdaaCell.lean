/- Cells: lists of them through slices; the reference's Same; Add. -/
import Derived.Test.YtiklbnianbejdaaBase
set_option linter.unusedSimpArgs false
set_option maxRecDepth 20000
set_option linter.unusedVariables false
namespace Go.Proofs.Ytiklbnianbejdaa.Ch
open Go Go.Eng Go.RowKit

structure Cell where
  num : Int
  state : Int
  node : Int
  next : Int
  deriving DecidableEq, Inhabited
theorem Cell.ext {a b : Cell} (h1 : a.num = b.num) (h2 : a.state = b.state) (h3 : a.node = b.node) (h4 : a.next = b.next) : a = b := by
  cases a; cases b; simp_all
def Cell.row (c : Cell) : List Sv := [I c.num, I c.state, I c.node, I c.next]
def cellB (cs : List Cell) : Blk := mkB 57 4 (cs.map Cell.row)
abbrev cellX (f : Bool) (cs : List Cell) : Sv := .ext f 4 (cs.map Cell.row)
theorem cell_fr (cs : List Cell) : FrR (cs.map Cell.row) := FrR_map Cell.row (fun c => by unfold Cell.row; simp [Sv.Fr.go, Sv.Fr]) cs
theorem nth_put {α : Type} (l : List α) {n m : Nat} (x : α) (k : Nat) (hn : n = k) (hm : m = k) (h : k < l.length) : nth (l.set n x) m = some x := by
  subst hn
  subst hm
  rw [nth_eq]
  simp [h]
theorem RetP.cells {hp : Hp} (cs : List Cell) {k n : Nat} {rows : List (List Sv)} (hk : hpGet hp k = some ⟨57, 4, true, true, rows⟩) (hr : rows = cs.map Cell.row) (hn : n = cs.length) : RetP hp (.own k n) (.own 0 cs.length) [cellB cs] := by
  subst hr
  subst hn
  exact RetP.own hk (cell_fr cs)
theorem cellclone_pcon (fr : Bool) (cs : List Cell) (h : cs.length * 32 ≤ 140737488355328) : PCon Try.prog 49 [cellX fr cs] (.own 0 cs.length) [cellB cs] := by
  refine pcon_of (G := gm) Try.func49 rfl rfl rfl ?_
  repeat' (conv => whnf
           first
           | (refine get_id ?_; first | refine Get.mk _ rfl ?_)
           | (refine need_id ?_; first | refine Need.a ?_)
           | (refine eqk_id ?_; first | refine EqK.a ?_)
           | (refine br_id ?_; first | refine Br.t ?_ | refine Br.f ?_ | (refine Br.pos ?_ ?_; focus (with_reducible assumption)) | (refine Br.neg ?_ ?_; focus (with_reducible assumption)) | (refine Br.dpos ?_ ?_; focus (first | with_reducible exact rfl | with_reducible exact Int.le_refl _ | with_reducible assumption)) | (refine Br.dneg ?_ ?_; focus (with_reducible assumption)) | (refine Br.d (fun _ => ?_) (fun _ => ?_)) | refine Br.n ?_ | (refine Br.s (fun _ => ?_) (fun _ => ?_)) | (refine Br.mk (fun _ => ?_) (fun _ => ?_)))
           | (refine regv_id ?_; first | refine RegV.d ?_)
           | refine NilB.mk (fun b hb => ?_)
           | (refine alv_and ?_ ?_; focus (first | rfl | done))
           | refine DrawV.mk [] ?_
           | (refine appc_id ?_; first | refine AppC.growA ?_ | refine AppC.place ?_))
  all_goals (try (conv => whnf))
  · have : cs = [] := by
      cases cs with
      | nil => rfl
      | cons m cs => simp_all
    subst this
    exact RetP.nil
  · exact RetP.own rfl (cell_fr cs)
theorem refsame_pcon (a b : List Cell) (f g : Bool) (ha : a.length * 32 ≤ 140737488355328) : PCon Try.prog 35 [cellX f a, cellX g b] (Bo (a == b)) [] := by
  refine pcon_of (G := gm) Try.func35 rfl rfl rfl ?_
  repeat' (conv => whnf
           first
           | (refine get_id ?_; first | refine Get.mk _ rfl ?_)
           | (refine need_id ?_; first | refine Need.a ?_)
           | (refine eqk_id ?_; first | refine EqK.a ?_)
           | (refine br_id ?_; first | refine Br.t ?_ | refine Br.f ?_ | (refine Br.pos ?_ ?_; focus (with_reducible assumption)) | (refine Br.neg ?_ ?_; focus (with_reducible assumption)) | (refine Br.dpos ?_ ?_; focus (first | with_reducible exact rfl | with_reducible exact Int.le_refl _ | with_reducible assumption)) | (refine Br.dneg ?_ ?_; focus (with_reducible assumption)) | (refine Br.d (fun _ => ?_) (fun _ => ?_)) | refine Br.n ?_ | (refine Br.s (fun _ => ?_) (fun _ => ?_)) | (refine Br.mk (fun _ => ?_) (fun _ => ?_)))
           | (refine regv_id ?_; first | refine RegV.d ?_)
           | refine NilB.mk (fun b hb => ?_)
           | (refine alv_and ?_ ?_; focus (first | rfl | done))
           | refine DrawV.mk [] ?_
           | (refine appc_id ?_; first | refine AppC.growA ?_ | refine AppC.place ?_))
  all_goals (try (conv => whnf))
  · have hl : a.length = b.length := by omega
    refine LoopV.on (σ := Nat) rfl (fun i => [(0, cellX f a), (1, cellX g b), (12, I a.length), (13, I i)]) (fun _ => [])
      (fun i => i ≤ a.length ∧ ∀ j, j < i → a[j]? = b[j]?) (fun i => a.length - i) 0 ?_ ⟨Nat.zero_le _, fun _ h => by omega⟩ ?_
    · refine AtS.mk [] [] rfl List.nodup_nil rfl rfl ?_
      (repeat' (first | exact trivial | exact rfl | with_reducible assumption | (refine And.intro ?_ ?_) | (refine Exists.intro _ (And.intro rfl ?_)) | (refine Exists.intro _ (Exists.intro _ (And.intro rfl (And.intro rfl ?_)))) | (refine Or.inl ⟨rfl, rfl, ?_⟩) | (refine Or.inl ⟨rfl, ?_⟩; focus (fail_if_success (refine And.intro ?_ ?_))) | (refine Or.inl (?_ : (_ : Nat) = _ ∧ _); refine ⟨?_, ?_⟩; focus (first | (simp only [List.length_map]; done) | (simp only [List.length_map, List.length_append, List.length_cons, List.length_nil]; done))) | exact Or.inl rfl | (refine Or.inr (Or.inr ⟨?_, ?_⟩)) | (refine Or.inr ⟨?_, ?_⟩) | (refine fun h => ?_; first | exact h | exact rfl | (cases h; done)) | (refine om8 ?_; simp only [← List.map_drop, ← List.map_take]; exact rfl) | ((first | refine om1 ?_ | refine om2 ?_ | refine om3 ?_ | refine om4 ?_ | refine om5 ?_ | refine om6 ?_ | refine om7 ?_); first | (simp only [List.length_map]; done) | (simp only [List.length_map]; omega) | omega)))
    rintro i ⟨hi, hall⟩
    repeat' (conv => whnf
             first
             | (refine get_id ?_; first | refine Get.mk _ rfl ?_ | refine Get.mk _ (nth_map Cell.row a i rfl (by omega)) ?_ | refine Get.mk _ (nth_map Cell.row b i rfl (by omega)) ?_)
             | (refine need_id ?_; first | refine Need.a ?_)
             | (refine eqk_id ?_; first | refine EqK.a ?_)
             | (refine br_id ?_; first | refine Br.t ?_ | refine Br.f ?_ | (refine Br.pos ?_ ?_; focus (with_reducible assumption)) | (refine Br.neg ?_ ?_; focus (with_reducible assumption)) | (refine Br.dpos ?_ ?_; focus (first | with_reducible exact rfl | with_reducible exact Int.le_refl _ | with_reducible assumption)) | (refine Br.dneg ?_ ?_; focus (with_reducible assumption)) | (refine Br.d (fun _ => ?_) (fun _ => ?_)) | refine Br.n ?_ | (refine Br.s (fun _ => ?_) (fun _ => ?_)) | (refine Br.mk (fun _ => ?_) (fun _ => ?_)))
             | (refine regv_id ?_; first | refine RegV.d ?_)
             | refine NilB.mk (fun b hb => ?_)
             | (refine alv_and ?_ ?_; focus (first | rfl | done))
             | refine DrawV.mk [] ?_
             | (refine appc_id ?_; first | refine AppC.growA ?_ | refine AppC.place ?_))
    all_goals (try (conv => whnf))
    · rename_i hx
      refine nx (i + 1) (by omega) ⟨by omega, fun j hj => ?_⟩ (AtS.mk [] [] rfl List.nodup_nil rfl rfl ?_)
      · by_cases e : j = i
        · subst e
          rw [List.getElem?_eq_getElem (by omega), List.getElem?_eq_getElem (by omega)]
          congr 1
          try simp only [Bool.and_eq_true, beq_iff_eq] at hx
          obtain ⟨h1, h2, h3, h4⟩ := hx
          exact Cell.ext h1 h2 h3 h4
        · exact hall j (by omega)
      · (repeat' (first | exact trivial | exact rfl | with_reducible assumption | (refine And.intro ?_ ?_) | (refine Exists.intro _ (And.intro rfl ?_)) | (refine Exists.intro _ (Exists.intro _ (And.intro rfl (And.intro rfl ?_)))) | (refine Or.inl ⟨rfl, rfl, ?_⟩) | (refine Or.inl ⟨rfl, ?_⟩; focus (fail_if_success (refine And.intro ?_ ?_))) | (refine Or.inl (?_ : (_ : Nat) = _ ∧ _); refine ⟨?_, ?_⟩; focus (first | (simp only [List.length_map]; done) | (simp only [List.length_map, List.length_append, List.length_cons, List.length_nil]; done))) | exact Or.inl rfl | (refine Or.inr (Or.inr ⟨?_, ?_⟩)) | (refine Or.inr ⟨?_, ?_⟩) | (refine fun h => ?_; first | exact h | exact rfl | (cases h; done)) | (refine om8 ?_; simp only [← List.map_drop, ← List.map_take]; exact rfl) | ((first | refine om1 ?_ | refine om2 ?_ | refine om3 ?_ | refine om4 ?_ | refine om5 ?_ | refine om6 ?_ | refine om7 ?_); first | (simp only [List.length_map]; done) | (simp only [List.length_map]; omega) | omega)))
    · rename_i hx
      refine RetP.v ?_
      have : (a == b) = false := by
        rw [beq_eq_false_iff_ne]
        intro e
        have : a[i]'(by omega) = b[i]'(by omega) := by simp [e]
        rw [this] at hx
        simp at hx
      simp [this]
    · refine RetP.v ?_
      have : a = b := List.ext_getElem? fun j => by
        by_cases hj : j < i
        · exact hall j hj
        · rw [List.getElem?_eq_none (by omega), List.getElem?_eq_none (by omega)]
      simp [this]
  · refine RetP.v ?_
    have : (a == b) = false := by
      rw [beq_eq_false_iff_ne]
      intro e
      simp_all
    simp [this]
def addS (cs : List Cell) (n : Int) : List Cell := cs ++ [⟨n, 1, -1, 0⟩]
end Go.Proofs.Ytiklbnianbejdaa.Ch
