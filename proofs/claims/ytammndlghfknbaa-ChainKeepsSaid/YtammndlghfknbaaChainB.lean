/- chain: the reference's Release. -/
import Derived.Test.YtammndlghfknbaaChainA
set_option linter.unusedSimpArgs false
set_option maxRecDepth 20000
set_option linter.unusedVariables false
namespace Go.Proofs.Ytammndlghfknbaa
open Go Go.Eng Go.RowKit

def relS (cs : List Cell) : List Cell × Int × Int × Int :=
  match cs.findIdx? isHeld with
  | none => ([], 0, 0, 22)
  | some i => let c := cs.getD i default; if c.node = -1 then (cs.set i ⟨c.num, 3, c.node, c.next⟩, -1, 0, 0) else (cs.eraseIdx i, c.node, c.next, 0)
abbrev relR (r : List Cell × Int × Int × Int) : Sv := .tup [cellX true r.1, I r.2.1, I r.2.2.1, I r.2.2.2]
def atI (cs : List Cell) : Int := match cs.findIdx? isHeld with | some i => i | none => -1
theorem RetP.relN {hp : Hp} : RetP hp (.tup [.val (.slice none 0 0), I 0, I 0, I 22]) (relR ([], 0, 0, 22)) [] :=
  RetP.go [] [] (by simp) rfl ⟨rfl, rfl, rfl, rfl, rfl⟩ ⟨FrR_cells [], trivial, trivial, trivial, trivial⟩ trivial
theorem RetP.relO {hp : Hp} (cs : List Cell) {a b c : Int} {k n : Nat} {rows : List (List Sv)} (hk : hpGet hp k = some ⟨61, 4, true, true, rows⟩) (hr : rows = cs.map Cell.row) (hn : n = cs.length) : RetP hp (.tup [.own k n, I a, I b, I c]) (relR (cs, a, b, c)) [] := by
  subst hr
  subst hn
  exact RetP.go [] [] (by simp) rfl ⟨⟨rfl, _, hpGet_app hk _, .inl ⟨by simp, rfl, .inl ⟨rfl, rfl⟩⟩⟩, rfl, rfl, rfl, rfl⟩ ⟨FrR_cells cs, trivial, trivial, trivial, trivial⟩ trivial
theorem atI_snoc (cs : List Cell) (c : Cell) : atI (cs ++ [c]) = if atI cs < 0 ∧ c.state = 2 then (cs.length : Int) else atI cs := by
  unfold atI
  rw [List.findIdx?_append]
  cases hx : cs.findIdx? isHeld with
  | some i =>
    rw [if_neg (by simp only; omega)]
    simp
  | none =>
    cases hc : isHeld c with
    | true =>
      have : c.state = 2 := by simpa [isHeld] using hc
      simp [List.findIdx?_cons, hc, this]
    | false =>
      have : ¬ c.state = 2 := by simpa [isHeld] using hc
      simp [List.findIdx?_cons, hc, this]
theorem atI_range (cs : List Cell) : -1 ≤ atI cs ∧ atI cs < cs.length := by
  unfold atI
  split
  · rename_i i hx
    rw [List.findIdx?_eq_some_iff_getElem] at hx
    obtain ⟨h, _⟩ := hx
    omega
  · omega
/-- What stands behind j rounds. -/
def LL (cs : List Cell) (k j : Nat) : List Cell :=
  let c := cs.getD k default
  if c.node = -1 then (cs.take j).set k ⟨c.num, 3, c.node, c.next⟩ else (cs.take j).eraseIdx k
theorem LL_len (cs : List Cell) (k j : Nat) : (LL cs k j).length ≤ cs.length := by
  unfold LL
  simp only
  split
  · simp
    omega
  · have := List.length_eraseIdx_le (cs.take j) k
    simp at this
    omega
theorem LL_snoc (cs : List Cell) (k j : Nat) (h : j < cs.length) : LL cs k (j + 1) = if j = k then (if cs[j].node = -1 then LL cs k j ++ [⟨cs[j].num, 3, cs[j].node, cs[j].next⟩] else LL cs k j) else LL cs k j ++ [cs[j]] := by
  unfold LL
  simp only
  rw [List.take_succ_eq_append_getElem h]
  by_cases hjk : j = k
  · subst hjk
    rw [if_pos rfl]
    have hd : cs.getD j default = cs[j] := by simp [h]
    rw [hd]
    split
    · rw [List.set_append_right _ _ (show (cs.take j).length ≤ j by rw [List.length_take]; omega), List.set_eq_of_length_le (show (cs.take j).length ≤ j by rw [List.length_take]; omega)]
      simp [Nat.min_eq_left (Nat.le_of_lt h)]
    · rw [List.eraseIdx_append_of_length_le (show (cs.take j).length ≤ j by rw [List.length_take]; omega), List.eraseIdx_of_length_le (show (cs.take j).length ≤ j by rw [List.length_take]; omega)]
      simp [Nat.min_eq_left (Nat.le_of_lt h)]
  · rw [if_neg hjk]
    by_cases hlt : j < k
    · have e1 : ∀ x, (cs.take j ++ [cs[j]]).set k x = cs.take j ++ [cs[j]] := fun x => List.set_eq_of_length_le (by simp; omega)
      have e2 : ∀ x, (cs.take j).set k x = cs.take j := fun x => List.set_eq_of_length_le (by simp; omega)
      have e3 : (cs.take j ++ [cs[j]]).eraseIdx k = cs.take j ++ [cs[j]] := List.eraseIdx_of_length_le (by simp; omega)
      have e4 : (cs.take j).eraseIdx k = cs.take j := List.eraseIdx_of_length_le (by simp; omega)
      simp only [e1, e2, e3, e4, ite_self]
    · have hl : k < (cs.take j).length := by simp; omega
      rw [List.set_append_left _ _ hl, List.eraseIdx_append_of_lt_length hl]
      split <;> rfl
set_option maxRecDepth 20000 in
set_option maxHeartbeats 2000000 in
theorem refrel_pcon (f : Bool) (cs : List Cell) (h : cs.length * 32 ≤ 140737488351232) : PCon Try.prog 37 [cellX f cs] (relR (relS cs)) [] := by
  refine pcon_of (G := gm) Try.func37 rfl rfl rfl ?_
  have hra := atI_range cs
  repeat' (conv => whnf
           first
           | (refine get_id ?_; first | refine Get.mk _ rfl ?_)
           | (refine need_id ?_; first | refine Need.a ?_)
           | (refine eqk_id ?_; first | refine EqK.a ?_)
           | (refine br_id ?_; first | refine Br.t ?_ | refine Br.f ?_ | (refine Br.pos ?_ ?_; focus (with_reducible assumption)) | (refine Br.neg ?_ ?_; focus (with_reducible assumption)) | (refine Br.dpos ?_ ?_; focus (first | with_reducible exact rfl | with_reducible exact Int.le_refl _ | with_reducible assumption)) | (refine Br.dneg ?_ ?_; focus (with_reducible assumption)) | (refine Br.d (fun _ => ?_) (fun _ => ?_)) | refine Br.n ?_ | (refine Br.s (fun _ => ?_) (fun _ => ?_)) | (refine Br.mk (fun _ => ?_) (fun _ => ?_)))
           | (refine regv_id ?_; first | refine RegV.d ?_)
           | refine NilB.mk (fun b hb => ?_)
           | (refine alv_and ?_ ?_; focus (first | rfl | done))
           | refine DrawV.mk [] ?_
           | (refine appc_id ?_; first | refine AppC.growA ?_ | refine AppC.place ?_))
  all_goals (try (conv => whnf))
  refine LoopV.on (σ := Nat) rfl (fun i => [(0, cellX f cs), (6, I (atI (cs.take i))), (12, cellX f cs), (13, I cs.length), (14, I i)]) (fun _ => []) (fun i => i ≤ cs.length) (fun i => cs.length - i) 0 ?_ (Nat.zero_le _) ?_
  · refine AtS.mk [] [] rfl List.nodup_nil rfl rfl ?_
    (repeat' (first | exact trivial | exact rfl | with_reducible assumption | (refine ⟨_, rfl, ?_⟩) | (refine ⟨_, _, rfl, rfl, ?_⟩) | (refine And.intro ?_ ?_) | (refine Or.inl ⟨rfl, rfl, ?_⟩) | (refine Or.inl ⟨rfl, ?_⟩; focus (fail_if_success (refine And.intro ?_ ?_))) | (refine Or.inl (?_ : (_ : Nat) = _ ∧ _); refine ⟨?_, ?_⟩; focus (first | (simp only [List.length_map]; done) | (simp only [List.length_map, List.length_append, List.length_cons, List.length_nil]; done))) | exact Or.inl rfl | (refine Or.inr (Or.inr ⟨?_, ?_⟩)) | (refine Or.inr ⟨?_, ?_⟩) | (refine fun h => ?_; first | exact h | exact rfl | (cases h; done)) | (refine om8 ?_; simp only [← List.map_drop, ← List.map_take]; exact rfl) | ((first | refine om1 ?_ | refine om2 ?_ | refine om3 ?_ | refine om4 ?_ | refine om5 ?_ | refine om6 ?_ | refine om7 ?_); first | (simp only [List.length_map]; done) | (simp only [List.length_map]; omega) | omega)))
  rintro i hi
  have hsn := fun hk : i < cs.length => (congrArg atI (List.take_succ_eq_append_getElem hk)).trans (atI_snoc _ _)
  have hln : (cs.take i).length = i := by rw [List.length_take]; omega
  repeat' (conv => whnf
           first
           | (refine get_id ?_; first | refine Get.mk _ rfl ?_ | refine Get.mk _ (nth_map Cell.row cs i rfl (by omega)) ?_)
           | (refine need_id ?_; first | refine Need.a ?_)
           | (refine eqk_id ?_; first | refine EqK.a ?_)
           | (refine br_id ?_; first | refine Br.t ?_ | refine Br.f ?_ | (refine Br.pos ?_ ?_; focus (with_reducible assumption)) | (refine Br.neg ?_ ?_; focus (with_reducible assumption)) | (refine Br.dpos ?_ ?_; focus (first | with_reducible exact rfl | with_reducible exact Int.le_refl _ | with_reducible assumption)) | (refine Br.dneg ?_ ?_; focus (with_reducible assumption)) | (refine Br.d (fun _ => ?_) (fun _ => ?_)) | refine Br.n ?_ | (refine Br.s (fun _ => ?_) (fun _ => ?_)) | (refine Br.mk (fun _ => ?_) (fun _ => ?_)))
           | (refine regv_id ?_; first | refine RegV.d ?_)
           | refine NilB.mk (fun b hb => ?_)
           | (refine alv_and ?_ ?_; focus (first | rfl | done))
           | refine DrawV.mk [] ?_
           | (refine appc_id ?_; first | refine AppC.growA ?_ | refine AppC.place ?_))
  all_goals (try (conv => whnf))
  · rename_i h1 h2 h3
    have h4 := hsn (by omega)
    rw [if_pos ⟨h2, h3⟩, hln] at h4
    refine nx (i + 1) (by omega) (by omega) (AtS.mk [] [] rfl List.nodup_nil rfl rfl ?_)
    rw [h4]
    (repeat' (first | exact trivial | exact rfl | with_reducible assumption | (refine ⟨_, rfl, ?_⟩) | (refine ⟨_, _, rfl, rfl, ?_⟩) | (refine And.intro ?_ ?_) | (refine Or.inl ⟨rfl, rfl, ?_⟩) | (refine Or.inl ⟨rfl, ?_⟩; focus (fail_if_success (refine And.intro ?_ ?_))) | (refine Or.inl (?_ : (_ : Nat) = _ ∧ _); refine ⟨?_, ?_⟩; focus (first | (simp only [List.length_map]; done) | (simp only [List.length_map, List.length_append, List.length_cons, List.length_nil]; done))) | exact Or.inl rfl | (refine Or.inr (Or.inr ⟨?_, ?_⟩)) | (refine Or.inr ⟨?_, ?_⟩) | (refine fun h => ?_; first | exact h | exact rfl | (cases h; done)) | (refine om8 ?_; simp only [← List.map_drop, ← List.map_take]; exact rfl) | ((first | refine om1 ?_ | refine om2 ?_ | refine om3 ?_ | refine om4 ?_ | refine om5 ?_ | refine om6 ?_ | refine om7 ?_); first | (simp only [List.length_map]; done) | (simp only [List.length_map]; omega) | omega)))
  · rename_i h1 h2 h3
    have h4 := hsn (by omega)
    rw [if_neg (fun h => h3 h.2)] at h4
    refine nx (i + 1) (by omega) (by omega) (AtS.mk [] [] rfl List.nodup_nil rfl rfl ?_)
    rw [h4]
    (repeat' (first | exact trivial | exact rfl | with_reducible assumption | (refine ⟨_, rfl, ?_⟩) | (refine ⟨_, _, rfl, rfl, ?_⟩) | (refine And.intro ?_ ?_) | (refine Or.inl ⟨rfl, rfl, ?_⟩) | (refine Or.inl ⟨rfl, ?_⟩; focus (fail_if_success (refine And.intro ?_ ?_))) | (refine Or.inl (?_ : (_ : Nat) = _ ∧ _); refine ⟨?_, ?_⟩; focus (first | (simp only [List.length_map]; done) | (simp only [List.length_map, List.length_append, List.length_cons, List.length_nil]; done))) | exact Or.inl rfl | (refine Or.inr (Or.inr ⟨?_, ?_⟩)) | (refine Or.inr ⟨?_, ?_⟩) | (refine fun h => ?_; first | exact h | exact rfl | (cases h; done)) | (refine om8 ?_; simp only [← List.map_drop, ← List.map_take]; exact rfl) | ((first | refine om1 ?_ | refine om2 ?_ | refine om3 ?_ | refine om4 ?_ | refine om5 ?_ | refine om6 ?_ | refine om7 ?_); first | (simp only [List.length_map]; done) | (simp only [List.length_map]; omega) | omega)))
  · rename_i h1 h2
    have h4 := hsn (by omega)
    rw [if_neg (fun h => h2 h.1)] at h4
    refine nx (i + 1) (by omega) (by omega) (AtS.mk [] [] rfl List.nodup_nil rfl rfl ?_)
    rw [h4]
    (repeat' (first | exact trivial | exact rfl | with_reducible assumption | (refine ⟨_, rfl, ?_⟩) | (refine ⟨_, _, rfl, rfl, ?_⟩) | (refine And.intro ?_ ?_) | (refine Or.inl ⟨rfl, rfl, ?_⟩) | (refine Or.inl ⟨rfl, ?_⟩; focus (fail_if_success (refine And.intro ?_ ?_))) | (refine Or.inl (?_ : (_ : Nat) = _ ∧ _); refine ⟨?_, ?_⟩; focus (first | (simp only [List.length_map]; done) | (simp only [List.length_map, List.length_append, List.length_cons, List.length_nil]; done))) | exact Or.inl rfl | (refine Or.inr (Or.inr ⟨?_, ?_⟩)) | (refine Or.inr ⟨?_, ?_⟩) | (refine fun h => ?_; first | exact h | exact rfl | (cases h; done)) | (refine om8 ?_; simp only [← List.map_drop, ← List.map_take]; exact rfl) | ((first | refine om1 ?_ | refine om2 ?_ | refine om3 ?_ | refine om4 ?_ | refine om5 ?_ | refine om6 ?_ | refine om7 ?_); first | (simp only [List.length_map]; done) | (simp only [List.length_map]; omega) | omega)))
  · rename_i h1 h2
    have hie : i = cs.length := by omega
    subst hie
    rw [List.take_length] at *
    have : cs.findIdx? isHeld = none := by
      unfold atI at h2
      split at h2
      · omega
      · assumption
    rw [show relS cs = ([], 0, 0, 22) by simp [relS, this]]
    exact RetP.relN
  · rename_i h1 h2
    have hie : i = cs.length := by omega
    subst hie
    rw [List.take_length] at *
    obtain ⟨k, hk⟩ : ∃ k, cs.findIdx? isHeld = some k := by
      unfold atI at h2
      split at h2
      · exact ⟨_, by assumption⟩
      · omega
    have hka : atI cs = k := by simp [atI, hk]
    have hkl : k < cs.length := by omega
    refine LoopV.on (σ := Nat × List Cell) rfl (fun s => [(0, cellX f cs), (6, I k), (9, .own 0 s.2.length), (30, cellX f cs), (31, I cs.length), (32, I s.1)]) (fun s => [some (cellB s.2)])
        (fun s => s.1 ≤ cs.length ∧ s.2 = LL cs k s.1) (fun s => cs.length - s.1) (0, []) ?_ ⟨Nat.zero_le _, by simp [LL]⟩ ?_
    · rw [← hka]
      refine AtS.mk [(61, 4)] [0] rfl (by simp) rfl ?_ ?_
      · (repeat' (first | exact trivial | exact rfl | with_reducible assumption | (refine ⟨_, rfl, ?_⟩) | (refine ⟨_, _, rfl, rfl, ?_⟩) | (refine And.intro ?_ ?_) | (refine Or.inl ⟨rfl, rfl, ?_⟩) | (refine Or.inl ⟨rfl, ?_⟩; focus (fail_if_success (refine And.intro ?_ ?_))) | (refine Or.inl (?_ : (_ : Nat) = _ ∧ _); refine ⟨?_, ?_⟩; focus (first | (simp only [List.length_map]; done) | (simp only [List.length_map, List.length_append, List.length_cons, List.length_nil]; done))) | exact Or.inl rfl | (refine Or.inr (Or.inr ⟨?_, ?_⟩)) | (refine Or.inr ⟨?_, ?_⟩) | (refine fun h => ?_; first | exact h | exact rfl | (cases h; done)) | (refine om8 ?_; simp only [← List.map_drop, ← List.map_take]; exact rfl) | ((first | refine om1 ?_ | refine om2 ?_ | refine om3 ?_ | refine om4 ?_ | refine om5 ?_ | refine om6 ?_ | refine om7 ?_); first | (simp only [List.length_map]; done) | (simp only [List.length_map]; omega) | omega)))
      · (repeat' (first | exact trivial | exact rfl | with_reducible assumption | (refine ⟨_, rfl, ?_⟩) | (refine ⟨_, _, rfl, rfl, ?_⟩) | (refine And.intro ?_ ?_) | (refine Or.inl ⟨rfl, rfl, ?_⟩) | (refine Or.inl ⟨rfl, ?_⟩; focus (fail_if_success (refine And.intro ?_ ?_))) | (refine Or.inl (?_ : (_ : Nat) = _ ∧ _); refine ⟨?_, ?_⟩; focus (first | (simp only [List.length_map]; done) | (simp only [List.length_map, List.length_append, List.length_cons, List.length_nil]; done))) | exact Or.inl rfl | (refine Or.inr (Or.inr ⟨?_, ?_⟩)) | (refine Or.inr ⟨?_, ?_⟩) | (refine fun h => ?_; first | exact h | exact rfl | (cases h; done)) | (refine om8 ?_; simp only [← List.map_drop, ← List.map_take]; exact rfl) | ((first | refine om1 ?_ | refine om2 ?_ | refine om3 ?_ | refine om4 ?_ | refine om5 ?_ | refine om6 ?_ | refine om7 ?_); first | (simp only [List.length_map]; done) | (simp only [List.length_map]; omega) | omega)))
    rintro ⟨j, L⟩ ⟨hj, hL⟩
    simp only at hj hL
    have hLl : L.length ≤ cs.length := by rw [hL]; exact LL_len cs k j
    have hLs := fun hk : j < cs.length => LL_snoc cs k j hk
    repeat' (conv => whnf
             first
             | (refine get_id ?_; first | refine Get.mk _ rfl ?_ | refine Get.mk _ (nth_map Cell.row cs j rfl (by omega)) ?_ | refine Get.mk _ (nth_map Cell.row cs k (by omega) (by omega)) ?_)
             | (refine need_id ?_; first | refine Need.a ?_ | refine Need.mk (by (exact ⟨rfl, rfl, rfl, by simp [cellB], rfl, rfl⟩)) ?_)
             | (refine eqk_id ?_; first | refine EqK.a ?_)
             | (refine br_id ?_; first | refine Br.t ?_ | refine Br.f ?_ | (refine Br.pos ?_ ?_; focus (with_reducible assumption)) | (refine Br.neg ?_ ?_; focus (with_reducible assumption)) | (refine Br.dpos ?_ ?_; focus (first | with_reducible exact rfl | with_reducible exact Int.le_refl _ | with_reducible assumption)) | (refine Br.dneg ?_ ?_; focus (with_reducible assumption)) | (refine Br.d (fun _ => ?_) (fun _ => ?_)) | refine Br.n ?_ | (refine Br.s (fun _ => ?_) (fun _ => ?_)) | (refine Br.mk (fun _ => ?_) (fun _ => ?_)))
             | (refine regv_id ?_; first | refine RegV.d ?_)
             | refine NilB.mk (fun b hb => ?_)
             | (refine alv_and ?_ ?_; focus (first | rfl | done))
             | refine DrawV.mk [] ?_
             | (refine appc_id ?_; first | refine AppC.growA ?_ | refine AppC.grow (by simp [cellB]) ?_ | refine AppC.place ?_))
    all_goals (try (conv => whnf))
    · rename_i h1 h2 h3
      simp only at h1 h2
      have h4 := hLs (by omega)
      rw [if_pos (by omega), if_pos h3, ← hL] at h4
      refine nx (j + 1, L ++ [⟨cs[j].num, 3, cs[j].node, cs[j].next⟩]) (by simp only; omega) ⟨by simp only; omega, h4.symm⟩ (AtS.mk [] [3] rfl (by simp) rfl ⟨⟨_, rfl, rfl, rfl, rfl, .inl ⟨rfl, rfl, by simp [cellB, Cell.row]⟩⟩, rfl⟩ ?_)
      (repeat' (first | exact trivial | exact rfl | with_reducible assumption | (refine ⟨_, rfl, ?_⟩) | (refine ⟨_, _, rfl, rfl, ?_⟩) | (refine And.intro ?_ ?_) | (refine Or.inl ⟨rfl, rfl, ?_⟩) | (refine Or.inl ⟨rfl, ?_⟩; focus (fail_if_success (refine And.intro ?_ ?_))) | (refine Or.inl (?_ : (_ : Nat) = _ ∧ _); refine ⟨?_, ?_⟩; focus (first | (simp only [List.length_map]; done) | (simp only [List.length_map, List.length_append, List.length_cons, List.length_nil]; done))) | exact Or.inl rfl | (refine Or.inr (Or.inr ⟨?_, ?_⟩)) | (refine Or.inr ⟨?_, ?_⟩) | (refine fun h => ?_; first | exact h | exact rfl | (cases h; done)) | (refine om8 ?_; simp only [← List.map_drop, ← List.map_take]; exact rfl) | ((first | refine om1 ?_ | refine om2 ?_ | refine om3 ?_ | refine om4 ?_ | refine om5 ?_ | refine om6 ?_ | refine om7 ?_); first | (simp only [List.length_map]; done) | (simp only [List.length_map]; omega) | omega)))
      simp
    · rename_i h1 h2 h3
      simp only at h1 h2
      have h4 := hLs (by omega)
      rw [if_pos (by omega), if_neg h3, ← hL] at h4
      refine nx (j + 1, L) (by simp only; omega) ⟨by simp only; omega, h4.symm⟩ (AtS.mk [] [0] rfl (by simp) rfl ⟨⟨_, rfl, VwB.refl⟩, rfl⟩ ?_)
      (repeat' (first | exact trivial | exact rfl | with_reducible assumption | (refine ⟨_, rfl, ?_⟩) | (refine ⟨_, _, rfl, rfl, ?_⟩) | (refine And.intro ?_ ?_) | (refine Or.inl ⟨rfl, rfl, ?_⟩) | (refine Or.inl ⟨rfl, ?_⟩; focus (fail_if_success (refine And.intro ?_ ?_))) | (refine Or.inl (?_ : (_ : Nat) = _ ∧ _); refine ⟨?_, ?_⟩; focus (first | (simp only [List.length_map]; done) | (simp only [List.length_map, List.length_append, List.length_cons, List.length_nil]; done))) | exact Or.inl rfl | (refine Or.inr (Or.inr ⟨?_, ?_⟩)) | (refine Or.inr ⟨?_, ?_⟩) | (refine fun h => ?_; first | exact h | exact rfl | (cases h; done)) | (refine om8 ?_; simp only [← List.map_drop, ← List.map_take]; exact rfl) | ((first | refine om1 ?_ | refine om2 ?_ | refine om3 ?_ | refine om4 ?_ | refine om5 ?_ | refine om6 ?_ | refine om7 ?_); first | (simp only [List.length_map]; done) | (simp only [List.length_map]; omega) | omega)))
    · rename_i h1 h2
      simp only at h1 h2
      have h4 := hLs (by omega)
      rw [if_neg (by omega), ← hL] at h4
      refine nx (j + 1, L ++ [cs[j]]) (by simp only; omega) ⟨by simp only; omega, h4.symm⟩ (AtS.mk [] [3] rfl (by simp) rfl ⟨⟨_, rfl, rfl, rfl, rfl, .inl ⟨rfl, rfl, by simp [cellB, Cell.row]⟩⟩, rfl⟩ ?_)
      (repeat' (first | exact trivial | exact rfl | with_reducible assumption | (refine ⟨_, rfl, ?_⟩) | (refine ⟨_, _, rfl, rfl, ?_⟩) | (refine And.intro ?_ ?_) | (refine Or.inl ⟨rfl, rfl, ?_⟩) | (refine Or.inl ⟨rfl, ?_⟩; focus (fail_if_success (refine And.intro ?_ ?_))) | (refine Or.inl (?_ : (_ : Nat) = _ ∧ _); refine ⟨?_, ?_⟩; focus (first | (simp only [List.length_map]; done) | (simp only [List.length_map, List.length_append, List.length_cons, List.length_nil]; done))) | exact Or.inl rfl | (refine Or.inr (Or.inr ⟨?_, ?_⟩)) | (refine Or.inr ⟨?_, ?_⟩) | (refine fun h => ?_; first | exact h | exact rfl | (cases h; done)) | (refine om8 ?_; simp only [← List.map_drop, ← List.map_take]; exact rfl) | ((first | refine om1 ?_ | refine om2 ?_ | refine om3 ?_ | refine om4 ?_ | refine om5 ?_ | refine om6 ?_ | refine om7 ?_); first | (simp only [List.length_map]; done) | (simp only [List.length_map]; omega) | omega)))
      simp
    · rename_i h1 h2
      simp only at h1 h2
      have hje : j = cs.length := by omega
      subst hje
      rw [show relS cs = (L, -1, 0, 0) by simp [relS, hk, hL, LL, hkl, h2, List.take_length]]
      exact RetP.relO L rfl rfl rfl
    · rename_i h1 h2
      simp only at h1 h2
      have hje : j = cs.length := by omega
      subst hje
      rw [show relS cs = (L, cs[k].node, cs[k].next, 0) by simp [relS, hk, hL, LL, hkl, h2, List.take_length]]
      exact RetP.relO L rfl rfl rfl

end Go.Proofs.Ytammndlghfknbaa
