/- slices.Equal, slices.EqualFunc; state.Same (printed by gen_eq.py). -/
import Derived.Test.YtiklbnianbejdaaSt7
set_option linter.unusedSimpArgs false
set_option maxRecDepth 20000
set_option linter.unusedVariables false
namespace Go.Proofs.Ytiklbnianbejdaa
open Go Go.Eng Go.RowKit

def eqAt {α : Type} (p : α → α → Bool) (d : α) (xs ys : List α) (i : Nat) : Bool := p (xs.getD i d) (ys.getD i d)
/-- Two lists, item by item. -/
def eqL {α : Type} (p : α → α → Bool) (d : α) (xs ys : List α) : Bool := decide (xs.length = ys.length) && (List.range xs.length).all (eqAt p d xs ys)
theorem eqL_iff {α : Type} {p : α → α → Bool} {d : α} (hp : ∀ x y, p x y = true ↔ x = y) (xs ys : List α) : eqL p d xs ys = true ↔ xs = ys := by
  unfold eqL
  rw [Bool.and_eq_true, decide_eq_true_eq, List.all_eq_true]
  constructor
  · rintro ⟨h1, h2⟩
    refine List.ext_getElem h1 fun i a b => ?_
    have := (hp _ _).1 (h2 i (by simpa using a))
    rwa [getDo _ a, getDo _ b] at this
  · rintro rfl
    exact ⟨rfl, fun i _ => (hp _ _).2 rfl⟩
theorem eqL_len {α : Type} {p : α → α → Bool} {d : α} {xs ys : List α} (h : xs.length ≠ ys.length) : eqL p d xs ys = false := by unfold eqL; rw [decide_eq_false h]; rfl
theorem eqL_same {α : Type} {p : α → α → Bool} {d : α} {xs ys : List α} (h : xs.length = ys.length) : eqL p d xs ys = (List.range xs.length).all (eqAt p d xs ys) := by unfold eqL; rw [decide_eq_true h, Bool.true_and]
def askEq (a b : Asq) : Bool := decide (a = b)
theorem askEq_iff (a b : Asq) : askEq a b = true ↔ a = b := by simp [askEq]
set_option maxHeartbeats 1000000 in
theorem askequal_pcon (f g : Bool) (xs ys : List Asq) (h : xs.length * 16 ≤ 140737488351232) : PCon Try.prog 51 [.ext f 2 (xs.map Asq.row), .ext g 2 (ys.map Asq.row)] (Bo (eqL askEq ⟨0, 0⟩ xs ys)) [] := by
  refine pcon_of (G := gm) Try.func51 rfl rfl rfl ?_
  by_cases hl : xs.length = ys.length
  case neg =>
    rw [eqL_len hl]
    refine W.go ?_
    exact RetP.v rfl
  rw [eqL_same hl]
  refine W.go ?_
  refine LoopV.on (σ := Nat) rfl (fun i => [(0, .ext f 2 (xs.map Asq.row)), (1, .ext g 2 (ys.map Asq.row)), (12, I xs.length), (13, I i)]) (fun _ => []) (fun i => i ≤ xs.length ∧ ∀ j, j < i → eqAt askEq ⟨0, 0⟩ xs ys j = true) (fun i => xs.length - i) 0 (AtS.v [] []) ⟨Nat.zero_le _, by simp⟩ ?_
  rintro i ⟨hi, hok⟩
  rcases Nat.lt_or_ge i xs.length with him | him
  · have g1 := rows_get Asq.row xs (Int.toNat_natCast i) him
    have g2 := rows_get Asq.row ys (Int.toNat_natCast i) (hl ▸ him)
    have hmore := upto_more hok
    have hno := allr_no (p := eqAt askEq ⟨0, 0⟩ xs ys) him
    have hE : eqAt askEq ⟨0, 0⟩ xs ys i = decide (xs[i] = ys[i]'(hl ▸ him)) := by rw [eqAt, getDo _ him, getDo _ (hl ▸ him)]; rfl
    rw [hE] at hmore hno
    clear hok hE
    generalize xs[i] = x at *
    generalize ys[i]'(hl ▸ him) = y at *
    refine W.c2 g1 g2 ?_
    refine Br.mk (fun hb => ?_) (fun hb => ?_)
    · replace hmore := hmore (by
        rw [decide_eq_true_eq]
        clear hno hmore g1 g2
        cases x
        cases y
        simp_all)
      clear hno
      refine W.go ?_
      exact nx (i + 1) (by omega) ⟨by omega, hmore⟩ (AtS.v [] [])
    · rw [hno (by
        rw [decide_eq_false_iff_not]
        rintro rfl
        simp at hb)]
      refine W.go ?_
      exact RetP.v rfl
  · rw [allr_yes fun j hj => hok j (by omega)]
    clear hok
    refine W.go ?_
    exact RetP.v rfl
def fndEq (a b : Fnd) : Bool := decide (a = b)
theorem fndEq_iff (a b : Fnd) : fndEq a b = true ↔ a = b := by simp [fndEq]
set_option maxHeartbeats 1000000 in
theorem fndequal_pcon (f g : Bool) (xs ys : List Fnd) (h : xs.length * 24 ≤ 140737488351232) : PCon Try.prog 52 [.ext f 3 (xs.map Fnd.row), .ext g 3 (ys.map Fnd.row)] (Bo (eqL fndEq ⟨0, 0, 0⟩ xs ys)) [] := by
  refine pcon_of (G := gm) Try.func52 rfl rfl rfl ?_
  by_cases hl : xs.length = ys.length
  case neg =>
    rw [eqL_len hl]
    refine W.go ?_
    exact RetP.v rfl
  rw [eqL_same hl]
  refine W.go ?_
  refine LoopV.on (σ := Nat) rfl (fun i => [(0, .ext f 3 (xs.map Fnd.row)), (1, .ext g 3 (ys.map Fnd.row)), (12, I xs.length), (13, I i)]) (fun _ => []) (fun i => i ≤ xs.length ∧ ∀ j, j < i → eqAt fndEq ⟨0, 0, 0⟩ xs ys j = true) (fun i => xs.length - i) 0 (AtS.v [] []) ⟨Nat.zero_le _, by simp⟩ ?_
  rintro i ⟨hi, hok⟩
  rcases Nat.lt_or_ge i xs.length with him | him
  · have g1 := rows_get Fnd.row xs (Int.toNat_natCast i) him
    have g2 := rows_get Fnd.row ys (Int.toNat_natCast i) (hl ▸ him)
    have hmore := upto_more hok
    have hno := allr_no (p := eqAt fndEq ⟨0, 0, 0⟩ xs ys) him
    have hE : eqAt fndEq ⟨0, 0, 0⟩ xs ys i = decide (xs[i] = ys[i]'(hl ▸ him)) := by rw [eqAt, getDo _ him, getDo _ (hl ▸ him)]; rfl
    rw [hE] at hmore hno
    clear hok hE
    generalize xs[i] = x at *
    generalize ys[i]'(hl ▸ him) = y at *
    refine W.c2 g1 g2 ?_
    refine Br.mk (fun hb => ?_) (fun hb => ?_)
    · replace hmore := hmore (by
        rw [decide_eq_true_eq]
        clear hno hmore g1 g2
        cases x
        cases y
        simp_all)
      clear hno
      refine W.go ?_
      exact nx (i + 1) (by omega) ⟨by omega, hmore⟩ (AtS.v [] [])
    · rw [hno (by
        rw [decide_eq_false_iff_not]
        rintro rfl
        simp at hb)]
      refine W.go ?_
      exact RetP.v rfl
  · rw [allr_yes fun j hj => hok j (by omega)]
    clear hok
    refine W.go ?_
    exact RetP.v rfl
def cellEq (a b : Ch.Cell) : Bool := decide (a = b)
theorem cellEq_iff (a b : Ch.Cell) : cellEq a b = true ↔ a = b := by simp [cellEq]
set_option maxHeartbeats 1000000 in
theorem cellequal_pcon (f g : Bool) (xs ys : List Ch.Cell) (h : xs.length * 32 ≤ 140737488351232) : PCon Try.prog 55 [.ext f 4 (xs.map Ch.Cell.row), .ext g 4 (ys.map Ch.Cell.row)] (Bo (eqL cellEq default xs ys)) [] := by
  refine pcon_of (G := gm) Try.func55 rfl rfl rfl ?_
  by_cases hl : xs.length = ys.length
  case neg =>
    rw [eqL_len hl]
    refine W.go ?_
    exact RetP.v rfl
  rw [eqL_same hl]
  refine W.go ?_
  refine LoopV.on (σ := Nat) rfl (fun i => [(0, .ext f 4 (xs.map Ch.Cell.row)), (1, .ext g 4 (ys.map Ch.Cell.row)), (12, I xs.length), (13, I i)]) (fun _ => []) (fun i => i ≤ xs.length ∧ ∀ j, j < i → eqAt cellEq default xs ys j = true) (fun i => xs.length - i) 0 (AtS.v [] []) ⟨Nat.zero_le _, by simp⟩ ?_
  rintro i ⟨hi, hok⟩
  rcases Nat.lt_or_ge i xs.length with him | him
  · have g1 := rows_get Ch.Cell.row xs (Int.toNat_natCast i) him
    have g2 := rows_get Ch.Cell.row ys (Int.toNat_natCast i) (hl ▸ him)
    have hmore := upto_more hok
    have hno := allr_no (p := eqAt cellEq default xs ys) him
    have hE : eqAt cellEq default xs ys i = decide (xs[i] = ys[i]'(hl ▸ him)) := by rw [eqAt, getDo _ him, getDo _ (hl ▸ him)]; rfl
    rw [hE] at hmore hno
    clear hok hE
    generalize xs[i] = x at *
    generalize ys[i]'(hl ▸ him) = y at *
    refine W.c2 g1 g2 ?_
    refine Br.mk (fun hb => ?_) (fun hb => ?_)
    · replace hmore := hmore (by
        rw [decide_eq_true_eq]
        clear hno hmore g1 g2
        cases x
        cases y
        simp_all)
      clear hno
      refine W.go ?_
      exact nx (i + 1) (by omega) ⟨by omega, hmore⟩ (AtS.v [] [])
    · rw [hno (by
        rw [decide_eq_false_iff_not]
        rintro rfl
        simp at hb)]
      refine W.go ?_
      exact RetP.v rfl
  · rw [allr_yes fun j hj => hok j (by omega)]
    clear hok
    refine W.go ?_
    exact RetP.v rfl
def msgEq (a b : Hf.Msg) : Bool := decide (a = b)
theorem msgEq_iff (a b : Hf.Msg) : msgEq a b = true ↔ a = b := by simp [msgEq]
set_option maxHeartbeats 1000000 in
theorem msgequal_pcon (f g : Bool) (xs ys : List Hf.Msg) (h : xs.length * 40 ≤ 140737488351232) : PCon Try.prog 58 [.ext f 5 (xs.map Hf.Msg.row), .ext g 5 (ys.map Hf.Msg.row)] (Bo (eqL msgEq ⟨0, 0, 0, 0, 0⟩ xs ys)) [] := by
  refine pcon_of (G := gm) Try.func58 rfl rfl rfl ?_
  by_cases hl : xs.length = ys.length
  case neg =>
    rw [eqL_len hl]
    refine W.go ?_
    exact RetP.v rfl
  rw [eqL_same hl]
  refine W.go ?_
  refine LoopV.on (σ := Nat) rfl (fun i => [(0, .ext f 5 (xs.map Hf.Msg.row)), (1, .ext g 5 (ys.map Hf.Msg.row)), (12, I xs.length), (13, I i)]) (fun _ => []) (fun i => i ≤ xs.length ∧ ∀ j, j < i → eqAt msgEq ⟨0, 0, 0, 0, 0⟩ xs ys j = true) (fun i => xs.length - i) 0 (AtS.v [] []) ⟨Nat.zero_le _, by simp⟩ ?_
  rintro i ⟨hi, hok⟩
  rcases Nat.lt_or_ge i xs.length with him | him
  · have g1 := rows_get Hf.Msg.row xs (Int.toNat_natCast i) him
    have g2 := rows_get Hf.Msg.row ys (Int.toNat_natCast i) (hl ▸ him)
    have hmore := upto_more hok
    have hno := allr_no (p := eqAt msgEq ⟨0, 0, 0, 0, 0⟩ xs ys) him
    have hE : eqAt msgEq ⟨0, 0, 0, 0, 0⟩ xs ys i = decide (xs[i] = ys[i]'(hl ▸ him)) := by rw [eqAt, getDo _ him, getDo _ (hl ▸ him)]; rfl
    rw [hE] at hmore hno
    clear hok hE
    generalize xs[i] = x at *
    generalize ys[i]'(hl ▸ him) = y at *
    refine W.c2 g1 g2 ?_
    refine Br.mk (fun hb => ?_) (fun hb => ?_)
    · replace hmore := hmore (by
        rw [decide_eq_true_eq]
        clear hno hmore g1 g2
        cases x
        cases y
        simp_all)
      clear hno
      refine W.go ?_
      exact nx (i + 1) (by omega) ⟨by omega, hmore⟩ (AtS.v [] [])
    · rw [hno (by
        rw [decide_eq_false_iff_not]
        rintro rfl
        simp at hb)]
      refine W.go ?_
      exact RetP.v rfl
  · rw [allr_yes fun j hj => hok j (by omega)]
    clear hok
    refine W.go ?_
    exact RetP.v rfl
def owEq (a b : Ow) : Bool := a.arrow == b.arrow && a.made == b.made && eqL cellEq default a.cells b.cells
theorem owEq_iff (a b : Ow) : owEq a b = true ↔ a = b := by
  unfold owEq
  rw [Bool.and_eq_true, Bool.and_eq_true, eqL_iff cellEq_iff, beq_iff_eq, beq_iff_eq]
  constructor
  · rintro ⟨⟨h1, h2⟩, h3⟩
    cases a; cases b; simp_all
  · rintro rfl
    exact ⟨⟨rfl, rfl⟩, rfl⟩
def edEq (a b : Hf.Edge) : Bool := a.peer == b.peer && a.base == b.base && a.seen == b.seen && eqL msgEq ⟨0, 0, 0, 0, 0⟩ a.out b.out
theorem edEq_iff (a b : Hf.Edge) : edEq a b = true ↔ a = b := by
  unfold edEq
  rw [Bool.and_eq_true, Bool.and_eq_true, Bool.and_eq_true, eqL_iff msgEq_iff, beq_iff_eq, beq_iff_eq, beq_iff_eq]
  constructor
  · rintro ⟨⟨⟨h1, h2⟩, h3⟩, h4⟩
    cases a; cases b; simp_all
  · rintro rfl
    exact ⟨⟨⟨rfl, rfl⟩, rfl⟩, rfl⟩
theorem same1_pcon (f g : Bool) (a b : Ow) (h : a.cells.length * 32 ≤ 140737488351232) : PCon Try.prog 54 [.agg (a.row f), .agg (b.row g)] (Bo (owEq a b)) [] := by
  refine pcon_of (G := gm) Try.func54 rfl rfl rfl ?_
  have c := cellequal_pcon f g a.cells b.cells h
  unfold owEq
  obtain ⟨aa, am, ac⟩ := a
  obtain ⟨ba, bm, bc⟩ := b
  dsimp only at c ⊢
  generalize eqL cellEq default ac bc = x at *
  refine W.c1 c ?_
  exact RetP.v rfl
theorem same2_pcon (f g : Bool) (a b : Hf.Edge) (h : a.out.length * 40 ≤ 140737488351232) : PCon Try.prog 57 [.agg (edRow f a), .agg (edRow g b)] (Bo (edEq a b)) [] := by
  refine pcon_of (G := gm) Try.func57 rfl rfl rfl ?_
  have c := msgequal_pcon f g a.out b.out h
  unfold edEq
  obtain ⟨aa, am, ac, as'⟩ := a
  obtain ⟨ba, bm, bc, bs⟩ := b
  dsimp only at c ⊢
  generalize eqL msgEq ⟨0, 0, 0, 0, 0⟩ ac bc = x at *
  refine W.c1 c ?_
  exact RetP.v rfl
set_option maxHeartbeats 1000000 in
theorem owequal_pcon (f g : Bool) (xs ys : List Ow) (h : xs.length * 40 ≤ 140737488351232) (hs : ∀ o ∈ xs, o.cells.length * 32 ≤ 140737488351232) : PCon Try.prog 53 [.ext f 3 (xs.map (Ow.row f)), .ext g 3 (ys.map (Ow.row g)), .clo 54 []] (Bo (eqL owEq ⟨0, 0, []⟩ xs ys)) [] := by
  refine pcon_of (G := gm) Try.func53 rfl rfl rfl ?_
  by_cases hl : xs.length = ys.length
  case neg =>
    rw [eqL_len hl]
    clear hs
    refine W.go ?_
    exact RetP.v rfl
  rw [eqL_same hl]
  refine W.go ?_
  refine LoopV.on (σ := Nat) rfl (fun i => [(1, .ext g 3 (ys.map (Ow.row g))), (2, .clo 54 []), (15, .ext f 3 (xs.map (Ow.row f))), (16, I xs.length), (17, I i)]) (fun _ => []) (fun i => i ≤ xs.length ∧ ∀ j, j < i → eqAt owEq ⟨0, 0, []⟩ xs ys j = true) (fun i => xs.length - i) 0 (AtS.v [] []) ⟨Nat.zero_le _, by simp⟩ ?_
  rintro i ⟨hi, hok⟩
  rcases Nat.lt_or_ge i xs.length with him | him
  · have g1 := rows_get (Ow.row f) xs (Int.toNat_natCast i) him
    have g2 := rows_get (Ow.row g) ys (Int.toNat_natCast i) (hl ▸ him)
    have hmore := upto_more hok
    have hno := allr_no (p := eqAt owEq ⟨0, 0, []⟩ xs ys) him
    have hE : eqAt owEq ⟨0, 0, []⟩ xs ys i = owEq xs[i] (ys[i]'(hl ▸ him)) := by rw [eqAt, getDo _ him, getDo _ (hl ▸ him)]
    have hc := same1_pcon f g xs[i] (ys[i]'(hl ▸ him)) (hs _ (List.getElem_mem him))
    rw [hE] at hmore hno
    clear hok hE hs
    generalize xs[i] = x at *
    generalize ys[i]'(hl ▸ him) = y at *
    cases hb : owEq x y with
    | false =>
      rw [hno hb]
      rw [hb] at hc
      clear hmore hno hb
      cases x
      cases y
      refine W.c3 g1 g2 hc ?_
      exact RetP.v rfl
    | true =>
      replace hmore := hmore hb
      rw [hb] at hc
      clear hno hb
      cases x
      cases y
      refine W.c3 g1 g2 hc ?_
      exact nx (i + 1) (by omega) ⟨by omega, hmore⟩ (AtS.v [] [])
  · rw [allr_yes fun j hj => hok j (by omega)]
    clear hok hs
    refine W.go ?_
    exact RetP.v rfl
set_option maxHeartbeats 1000000 in
theorem edequal_pcon (f g : Bool) (xs ys : List Hf.Edge) (h : xs.length * 48 ≤ 140737488351232) (hs : ∀ o ∈ xs, o.out.length * 40 ≤ 140737488351232) : PCon Try.prog 56 [.ext f 4 (xs.map (edRow f)), .ext g 4 (ys.map (edRow g)), .clo 57 []] (Bo (eqL edEq Hf.Edge.zero xs ys)) [] := by
  refine pcon_of (G := gm) Try.func56 rfl rfl rfl ?_
  by_cases hl : xs.length = ys.length
  case neg =>
    rw [eqL_len hl]
    clear hs
    refine W.go ?_
    exact RetP.v rfl
  rw [eqL_same hl]
  refine W.go ?_
  refine LoopV.on (σ := Nat) rfl (fun i => [(1, .ext g 4 (ys.map (edRow g))), (2, .clo 57 []), (15, .ext f 4 (xs.map (edRow f))), (16, I xs.length), (17, I i)]) (fun _ => []) (fun i => i ≤ xs.length ∧ ∀ j, j < i → eqAt edEq Hf.Edge.zero xs ys j = true) (fun i => xs.length - i) 0 (AtS.v [] []) ⟨Nat.zero_le _, by simp⟩ ?_
  rintro i ⟨hi, hok⟩
  rcases Nat.lt_or_ge i xs.length with him | him
  · have g1 := rows_get (edRow f) xs (Int.toNat_natCast i) him
    have g2 := rows_get (edRow g) ys (Int.toNat_natCast i) (hl ▸ him)
    have hmore := upto_more hok
    have hno := allr_no (p := eqAt edEq Hf.Edge.zero xs ys) him
    have hE : eqAt edEq Hf.Edge.zero xs ys i = edEq xs[i] (ys[i]'(hl ▸ him)) := by rw [eqAt, getDo _ him, getDo _ (hl ▸ him)]
    have hc := same2_pcon f g xs[i] (ys[i]'(hl ▸ him)) (hs _ (List.getElem_mem him))
    rw [hE] at hmore hno
    clear hok hE hs
    generalize xs[i] = x at *
    generalize ys[i]'(hl ▸ him) = y at *
    cases hb : edEq x y with
    | false =>
      rw [hno hb]
      rw [hb] at hc
      clear hmore hno hb
      cases x
      cases y
      refine W.c3 g1 g2 hc ?_
      exact RetP.v rfl
    | true =>
      replace hmore := hmore hb
      rw [hb] at hc
      clear hno hb
      cases x
      cases y
      refine W.c3 g1 g2 hc ?_
      exact nx (i + 1) (by omega) ⟨by omega, hmore⟩ (AtS.v [] [])
  · rw [allr_yes fun j hj => hok j (by omega)]
    clear hok hs
    refine W.go ?_
    exact RetP.v rfl
/-- Whether two states are the same. -/
def staEq (a b : Sta) : Bool := a.me == b.me && a.asked == b.asked && eqL askEq ⟨0, 0⟩ a.asks b.asks && eqL fndEq ⟨0, 0, 0⟩ a.got b.got && eqL owEq ⟨0, 0, []⟩ a.objs b.objs && eqL edEq Hf.Edge.zero a.edges b.edges
theorem staEq_iff (a b : Sta) : staEq a b = true ↔ a = b := by
  unfold staEq
  simp only [Bool.and_eq_true, eqL_iff askEq_iff, eqL_iff fndEq_iff, eqL_iff owEq_iff, eqL_iff edEq_iff, beq_iff_eq]
  constructor
  · rintro ⟨⟨⟨⟨⟨h1, h2⟩, h3⟩, h4⟩, h5⟩, h6⟩
    cases a; cases b; simp_all
  · rintro rfl
    exact ⟨⟨⟨⟨⟨rfl, rfl⟩, rfl⟩, rfl⟩, rfl⟩, rfl⟩
set_option maxHeartbeats 1000000 in
theorem ssame_pcon (f g : Bool) (a b : Sta) (ha : a.sz) : PCon Try.prog 25 [.agg (a.row f), .agg (b.row g)] (Bo (staEq a b)) [] := by
  refine pcon_of (G := gm) Try.func25 rfl rfl rfl ?_
  have c1 := askequal_pcon f g a.asks b.asks ha.asks
  have c2 := fndequal_pcon f g a.got b.got ha.got
  have c3 := owequal_pcon f g a.objs b.objs ha.objs ha.cells
  have c4 := edequal_pcon f g a.edges b.edges ha.edges ha.outs
  unfold staEq
  obtain ⟨me, objs, edges, asked, asks, got⟩ := a
  obtain ⟨me', objs', edges', asked', asks', got'⟩ := b
  dsimp only at c1 c2 c3 c4 ⊢
  generalize eqL askEq ⟨0, 0⟩ asks asks' = x1 at *
  generalize eqL fndEq ⟨0, 0, 0⟩ got got' = x2 at *
  generalize eqL owEq ⟨0, 0, []⟩ objs objs' = x3 at *
  generalize eqL edEq Hf.Edge.zero edges edges' = x4 at *
  clear ha
  refine W.c4 c1 c2 c3 c4 ?_
  exact RetP.v rfl
end Go.Proofs.Ytiklbnianbejdaa
