/- What a state that can be has, in plain words; spoiled ones can not be. -/
import Derived.Test.YtiklbnianbejdaaSt12
set_option linter.unusedSimpArgs false
set_option maxRecDepth 20000
set_option linter.unusedVariables false
namespace Go.Proofs.Ytiklbnianbejdaa
open Go Go.Eng Go.RowKit

/-- What Good says. -/
structure GoodS (ps : List Int) (s : Sta) : Prop where
  me0 : 0 ≤ s.me
  me1 : s.me < ps.length
  ob1 : 1 ≤ s.objs.length
  ob8 : s.objs.length ≤ 8
  as0 : 0 ≤ s.asked
  as1 : s.asked ≤ 1099511627776
  ak : s.asks.length ≤ 4
  gt : s.got.length ≤ 4
  ow : ∀ o ∈ s.objs, ownB ps s.me o = true
  ask : ∀ i, i < s.asks.length → askAt s.objs.length s.asked s.asks i = true
  ed : (nbr ps s.me).length = s.edges.length
  op : opS s.objs s.objs.length ≤ 8
theorem goodS_mk {ps : List Int} {s : Sta} (h : goodS ps s = true) : GoodS ps s := by
  unfold goodS frontB edsB at h
  simp only [Bool.and_eq_true, Bool.not_eq_true', Bool.or_eq_false_iff, Bool.not_eq_false', decide_eq_false_iff_not, decide_eq_true_eq, List.all_eq_true] at h
  obtain ⟨⟨⟨⟨⟨h1, h2⟩, h3⟩, h4⟩, h5⟩, h6, h7, h8, ⟨h9, h10⟩, h11⟩ := h
  unfold Hf.inB at h1 h2 h3
  simp only [Bool.and_eq_true, decide_eq_true_eq] at h1 h2 h3
  exact ⟨by omega, by omega, by omega, by omega, by omega, by omega, by omega, by omega, h6, fun i hi => h7 i (by simpa using hi), h9, h11⟩
/-! ### The cells without a successor -/
def bareN (cs : List Ch.Cell) (i : Nat) : Nat := ((cs.take i).filter fun c => c.node == -1).length
theorem bareN_succ (cs : List Ch.Cell) {i : Nat} (h : i < cs.length) : bareN cs (i + 1) = if cs[i].node = -1 then bareN cs i + 1 else bareN cs i := by
  unfold bareN
  rw [List.take_succ_eq_append_getElem h, List.filter_append, List.length_append]
  by_cases e : cs[i].node = -1
  · rw [if_pos e, List.filter_cons_of_pos (by simp [e])]; simp
  · rw [if_neg e, List.filter_cons_of_neg (by simp [e])]; simp
theorem bareN_le (cs : List Ch.Cell) (i : Nat) : bareN cs i ≤ i := by
  unfold bareN
  have := List.length_filter_le (fun c : Ch.Cell => c.node == -1) (cs.take i)
  have := List.length_take_le i cs
  omega
theorem bare_good {cs : List Ch.Cell} {me : Int} {sink : Bool} (h : Ch.goodC cs me sink = true) : ∀ i, i ≤ cs.length → bareN cs i = if sink = true ∧ i = cs.length then 1 else 0
  | 0, _ => by
    rw [if_neg]
    · rfl
    · rintro ⟨h1, h2⟩
      have : cs = [] := by cases cs with | nil => rfl | cons _ _ => simp at h2
      subst this
      subst h1
      cases h
  | i + 1, hi => by
    have ih := bare_good h i (by omega)
    rw [if_neg (by omega)] at ih
    rw [bareN_succ cs (by omega), ih]
    unfold Ch.goodC at h
    rw [Bool.and_eq_true, decide_eq_true_eq] at h
    have ho := (h.2 i (by omega)).2.2.2.2.2.2
    rw [getDo _ (show i < cs.length by omega)] at ho
    by_cases e : sink = true ∧ i + 1 = cs.length
    · rw [if_pos ⟨e.1, by simp [e.2]⟩] at ho
      rw [if_pos ho.1, if_pos e]
    · rw [if_neg (by simpa using e)] at ho
      rw [if_neg (by omega), if_neg e]
theorem bare_own {ps : List Int} {me : Int} {o : Ow} (h : ownB ps me o = true) : bareN o.cells o.cells.length = if o.arrow = me then 1 else 0 := by
  unfold ownB at h
  simp only [Bool.and_eq_true, Bool.not_eq_true', Bool.or_eq_false_iff, Bool.not_eq_false'] at h
  rw [bare_good h.1.2 _ (Nat.le_refl _)]
  by_cases e : o.arrow = me
  · rw [if_pos e, if_pos ⟨by simp [e], rfl⟩]
  · rw [if_neg e, if_neg (by simp [e])]
/-! ### The eight spoiled ones -/
theorem bad_front {ps : List Int} {s : Sta} (h : frontB ps s = true) : goodS ps s = false := by
  unfold goodS; rw [h]; rfl
theorem bad_own {ps : List Int} {s : Sta} {o : Ow} {os : List Ow} (e : s.objs = o :: os) (h : ownB ps s.me o = false) : goodS ps s = false := by
  unfold goodS; rw [e, List.all_cons, h]; simp
theorem near_nonneg {ps : List Int} {me x : Int} (h : (nbr ps me).contains x = true) : 0 ≤ x := by
  rw [List.contains_iff_mem] at h
  unfold nbr at h
  split at h
  · unfold nearTo at h
    simp only [List.mem_map, List.mem_filter, List.mem_range] at h
    obtain ⟨u, _, rfl⟩ := h
    omega
  · cases h
theorem lastN_nonneg {k asked : Int} {A : List Asq} (h : ∀ i, i < A.length → askAt k asked A i = true) : ∀ i, i ≤ A.length → 0 ≤ lastN A i
  | 0, _ => Int.le_refl 0
  | i + 1, hi => by
    have ih := lastN_nonneg h i (by omega)
    have := h i (by omega)
    unfold askAt at this
    simp only [Bool.not_eq_true', Bool.or_eq_false_iff, decide_eq_false_iff_not] at this
    rw [lastN]
    omega
theorem lastN_snoc {A : List Asq} (a : Asq) : ∀ i, i ≤ A.length → lastN (A ++ [a]) i = lastN A i
  | 0, _ => rfl
  | i + 1, hi => by rw [lastN, lastN, getDo _ (by simp; omega), getDo _ (by omega), List.getElem_append_left]
theorem bad0 {ps : List Int} {s : Sta} : goodS ps { s with me := ps.length } = false := bad_front (by unfold frontB Hf.inB; simp; omega)
theorem bad1 {ps : List Int} {s : Sta} : goodS ps { s with objs := [] } = false := bad_front (by unfold frontB Hf.inB; simp)
theorem bad2 {ps : List Int} {s : Sta} {o : Ow} {os : List Ow} (h : GoodS ps s) : goodS ps { s with objs := { o with arrow := -1 } :: os } = false := by
  refine bad_own rfl ?_
  unfold ownB
  have h1 : ((-1 : Int) != s.me) = true := by have := h.me0; simp; omega
  have h2 : (nbr ps s.me).contains (-1) = false := by
    cases hc : (nbr ps s.me).contains (-1) with
    | false => rfl
    | true => have := near_nonneg hc; omega
  dsimp only
  rw [h1, h2]
  simp
theorem bad3 {ps : List Int} {s : Sta} {o : Ow} {os : List Ow} : goodS ps { s with objs := { o with made := 1099511627777 } :: os } = false := by
  refine bad_own rfl ?_
  unfold ownB Hf.inB
  simp
theorem bad4 {ps : List Int} {s : Sta} : goodS ps { s with asked := -1 } = false := bad_front (by unfold frontB Hf.inB; simp)
theorem bad5 {ps : List Int} {s : Sta} (h : GoodS ps s) : goodS ps { s with edges := s.edges ++ [⟨0, 0, [], 0⟩] } = false := by
  unfold goodS edsB
  have := h.ed
  have e : decide ((nbr ps s.me).length = (s.edges ++ [(⟨0, 0, [], 0⟩ : Hf.Edge)]).length) = false := decide_eq_false (by simp; omega)
  dsimp only
  rw [e]
  simp
theorem bad6 {ps : List Int} {s : Sta} : goodS ps { s with got := s.got ++ [⟨0, s.asked + 1, 0⟩] } = false := by
  unfold goodS
  have e : (s.got ++ [(⟨0, s.asked + 1, 0⟩ : Fnd)]).all (gotB s.objs.length s.asked ps.length) = false := by
    rw [List.all_append]
    unfold gotB Hf.inB
    simp
    intros
    omega
  dsimp only
  rw [e]
  simp
theorem bad7 {ps : List Int} {s : Sta} (h : GoodS ps s) : goodS ps { s with asks := s.asks ++ [⟨0, 0⟩] } = false := by
  unfold goodS
  have e : (List.range (s.asks ++ [(⟨0, 0⟩ : Asq)]).length).all (askAt s.objs.length s.asked (s.asks ++ [⟨0, 0⟩])) = false := by
    refine allr_no (i := s.asks.length) (by simp) ?_
    unfold askAt
    rw [lastN_snoc _ _ (Nat.le_refl _)]
    have := lastN_nonneg h.ask _ (Nat.le_refl _)
    have e2 : (s.asks ++ [(⟨0, 0⟩ : Asq)]).getD s.asks.length ⟨0, 0⟩ = ⟨0, 0⟩ := by simp
    rw [e2]
    simp
    omega
  dsimp only
  rw [e]
  simp
theorem not_same {ps : List Int} {a b : Sta} (ha : goodS ps a = false) (hb : goodS ps b = true) : staEq a b = false := by
  cases h : staEq a b with
  | false => rfl
  | true =>
    rw [(staEq_iff _ _).1 h, hb] at ha
    cases ha
/-! ### Three bits of a number -/
/-- A number and 7, as the machine takes it. -/
def and7 (x : Int) : Int := IntKind.i64.wrap (((BitVec.ofInt IntKind.i64.bits x) &&& (BitVec.ofInt IntKind.i64.bits 7)).toNat : Nat)
theorem and7_run (P : Program) (x : Int) (w : World) : (Op.intBits .and .i64 x 7).run P w = .ok (.int .i64 (and7 x)) w := rfl
theorem and7_lt (x : Int) : ∃ n : Nat, n < 8 ∧ and7 x = n := by
  refine ⟨((BitVec.ofInt 64 x) &&& 7#64).toNat, ?_, ?_⟩
  · rw [BitVec.toNat_and]
    have := Nat.and_le_right (n := (BitVec.ofInt 64 x).toNat) (m := (7#64).toNat)
    have e : (7#64).toNat = 7 := by decide
    omega
  · have h : ((BitVec.ofInt 64 x) &&& 7#64).toNat ≤ 7 := by
      rw [BitVec.toNat_and]
      have := Nat.and_le_right (n := (BitVec.ofInt 64 x).toNat) (m := (7#64).toNat)
      have e : (7#64).toNat = 7 := by decide
      omega
    show IntKind.i64.wrap (((BitVec.ofInt 64 x) &&& 7#64).toNat : Nat) = _
    generalize ((BitVec.ofInt 64 x) &&& 7#64).toNat = n at *
    unfold IntKind.wrap
    simp [IntKind.bits]
    omega
/-! ### A made copy, handed on -/
theorem ClR_map {hp : Hp} {sel : List Nat} {α : Type} (f g : α → List Sv) (h : ∀ x, ClL hp sel (f x) (g x)) : ∀ l : List α, ClR hp sel (l.map f) (l.map g)
  | [] => rfl
  | x :: l => ⟨h x, ClR_map f g h l⟩
theorem ClR_snoc {hp : Hp} {sel : List Nat} {α : Type} (f g : α → List Sv) (h : ∀ x, ClL hp sel (f x) (g x)) {r : List Sv} {y : α} (hr : ClL hp sel r (g y)) : ∀ l : List α, ClR hp sel (l.map f ++ [r]) ((l ++ [y]).map g)
  | [] => ⟨hr, rfl⟩
  | x :: l => ⟨h x, ClR_snoc f g h hr l⟩
theorem H1.ownr {hp : Hp} {sel : List Nat} {k m wd : Nat} {b : Blk} {rows : List (List Sv)} (h1 : memB k sel = false) (h2 : hpGet hp k = some b) (h4 : b.wd = wd) (h5 : ClR hp sel b.rows rows) (h7 : rows.all (Sv.all.allL fun _ => false) = true) (h6 : m = b.rows.length) : H1 hp sel (.own k m) (.ext false wd rows) := by
  refine ⟨?_⟩
  simp only [Cl]
  exact ⟨trivial, h1, b, h2, .inl ⟨h6, h4, .inr ⟨h5, h7⟩⟩⟩
theorem ClL_ow {hp : Hp} {sel : List Nat} (o : Ow) : ClL hp sel (o.row true) (o.row false) := by
  refine ⟨rfl, rfl, ⟨(nofun), rfl, rfl⟩, rfl⟩
theorem ClL_ed {hp : Hp} {sel : List Nat} (o : Hf.Edge) : ClL hp sel (edRow true o) (edRow false o) := by
  refine ⟨rfl, rfl, ⟨(nofun), rfl, rfl⟩, rfl, rfl⟩
end Go.Proofs.Ytiklbnianbejdaa
