/- chain: the laws ChainGoods, ChainStays. -/
import Derived.Test.YtammndlghfknbaaChainE
set_option linter.unusedSimpArgs false
set_option maxRecDepth 20000
set_option linter.unusedVariables false
namespace Go.Proofs.Ytammndlghfknbaa
open Go Go.Eng Go.RowKit

theorem chainGoods_pcon (cs : List Cell) (me : Int) (sink : Bool) (h : cs.length * 32 ≤ 140737488351232) : PCon Try.prog 12 [cellX false cs, I me, Bo sink] (Bo true) [] := by
  refine pcon_of (G := gm) Try.func12 rfl rfl rfl ?_
  repeat' (conv => whnf
           first
           | (refine get_id ?_; first | refine Get.mk _ rfl ?_)
           | (refine need_id ?_; first | refine Need.a ?_)
           | (refine eqk_id ?_; first | refine EqK.a ?_)
           | (refine br_id ?_; first | refine Br.t ?_ | refine Br.f ?_ | (refine Br.pos ?_ ?_; focus (with_reducible assumption)) | (refine Br.neg ?_ ?_; focus (with_reducible assumption)) | (refine Br.dpos ?_ ?_; focus (first | with_reducible exact rfl | with_reducible exact Int.le_refl _ | with_reducible assumption)) | (refine Br.dneg ?_ ?_; focus (with_reducible assumption)) | (refine Br.d (fun _ => ?_) (fun _ => ?_)) | refine Br.n ?_ | (refine Br.s (fun _ => ?_) (fun _ => ?_)) | (refine Br.mk (fun _ => ?_) (fun _ => ?_)))
           | (refine regv_id ?_; first | refine RegV.q ?_)
           | (refine gds_id ?_; apply GdS.mk)
           | (refine and_id ?_; exact ⟨rfl, rfl, rfl⟩)
           | (refine imp_id ?_; first | refine imp_s (fun _ => ?_) | refine fun _ => ?_)
           | refine NilB.mk (fun b hb => ?_)
           | (refine alv_and ?_ ?_; focus (first | rfl | done))
           | refine DrawV.mk [] ?_
           | (refine appc_id ?_; first | refine AppC.growA ?_ | refine AppC.place ?_)
           | (refine call_id ?_; first
                | refine CallV.c (wakes13_pcon) ?_
                | refine CallV.c (good_pcon _ cs me sink (by omega)) ?_
                | refine CallV.c (refgood_pcon _ cs me sink (by omega)) ?_
                | refine CallV.c (open_pcon _ cs (by omega)) ?_
                | refine CallV.c (refopen_pcon _ cs (by omega)) ?_
                | refine CallV.e (wakes13_pcon) ?_
                | refine CallV.e (good_pcon _ cs me sink (by omega)) ?_
                | refine CallV.e (refgood_pcon _ cs me sink (by omega)) ?_
                | refine CallV.e (open_pcon _ cs (by omega)) ?_
                | refine CallV.e (refopen_pcon _ cs (by omega)) ?_)
           | (refine calls_id ?_; first
                | refine CallS.c (wakes13_pcon) ?_
                | refine CallS.c (good_pcon _ cs me sink (by omega)) ?_
                | refine CallS.c (refgood_pcon _ cs me sink (by omega)) ?_
                | refine CallS.c (open_pcon _ cs (by omega)) ?_
                | refine CallS.c (refopen_pcon _ cs (by omega)) ?_
                | refine CallS.e (wakes13_pcon) ?_
                | refine CallS.e (good_pcon _ cs me sink (by omega)) ?_
                | refine CallS.e (refgood_pcon _ cs me sink (by omega)) ?_
                | refine CallS.e (open_pcon _ cs (by omega)) ?_
                | refine CallS.e (refopen_pcon _ cs (by omega)) ?_))
  all_goals (try (conv => whnf))
  exact RetP.v (by simp)

/-! ### The plain law -/
theorem goodC_iff (cs : List Cell) (me : Int) (sink : Bool) : goodC cs me sink = true ↔ (sink = true → 0 < cs.length) ∧ ∀ i, i < cs.length →
    0 ≤ (cs.getD i default).num ∧ (cs.getD i default).num ≤ 1099511627776 ∧ 1 ≤ (cs.getD i default).state ∧ (cs.getD i default).state ≤ 3 ∧ (0 < i → (cs.getD (i - 1) default).num < (cs.getD i default).num ∧ (cs.getD i default).state = 1) ∧ ((cs.getD i default).num = 0 → (cs.getD i default).state = 3) ∧
    (sink = true → i + 1 = cs.length → (cs.getD i default).node = -1 ∧ (cs.getD i default).next = 0) ∧
    (¬ (sink = true ∧ i + 1 = cs.length) → (cs.getD i default).state ≠ 3 ∧ 0 ≤ (cs.getD i default).node ∧ (cs.getD i default).node < 32 ∧ 1 ≤ (cs.getD i default).next ∧ (cs.getD i default).next ≤ 1099511627776 ∧ ((cs.getD i default).node = me → i + 1 < cs.length ∧ (cs.getD (i + 1) default).num = (cs.getD i default).next)) := by
  unfold goodC
  rw [Bool.and_eq_true]
  refine and_congr ?_ ?_
  · cases sink <;> cases cs <;> simp
  · rw [decide_eq_true_eq]
    exact forall_congr' fun i => forall_congr' fun hi => okAt_iff cs me sink i hi
theorem getD_set (cs : List Cell) (k i : Nat) (x : Cell) : (cs.set k x).getD i default = if i = k ∧ k < cs.length then x else cs.getD i default := by
  simp only [List.getD_eq_getElem?_getD, List.getElem?_set]
  by_cases h : k = i
  · subst h
    by_cases h2 : k < cs.length
    · simp [h2]
    · simp [h2]
  · rw [if_neg h, if_neg (by omega)]
theorem getD_app (cs : List Cell) (i : Nat) (x : Cell) : (cs ++ [x]).getD i default = if i = cs.length then x else cs.getD i default := by
  simp only [List.getD_eq_getElem?_getD, List.getElem?_append]
  by_cases h : i < cs.length
  · rw [if_pos h, if_neg (by omega)]
  · rw [if_neg h]
    by_cases h2 : i = cs.length
    · simp [h2]
    · rw [if_neg h2, List.getElem?_eq_none (by simp; omega), List.getElem?_eq_none (by omega)]
theorem getLast_getD (cs : List Cell) (h : cs ≠ []) : cs.getLast h = cs.getD (cs.length - 1) default := by
  have : cs.length - 1 < cs.length := by have := List.length_pos_iff.2 h; omega
  rw [List.getLast_eq_getElem]
  simp [this]
/-- Succeed, told by places. -/
theorem succS_eq (cs : List Cell) (a b : Int) (h : 0 < cs.length) : succS cs a b = if (cs.getD (cs.length - 1) default).state = 3 then (cs.dropLast, true) else (cs.set (cs.length - 1) ⟨(cs.getD (cs.length - 1) default).num, (cs.getD (cs.length - 1) default).state, a, b⟩, false) := by
  have h0 : cs ≠ [] := List.length_pos_iff.1 h
  unfold succS
  rw [dif_neg h0, getLast_getD]
theorem good_rests {cs : List Cell} {me : Int} {sink : Bool} (hg : goodC cs me sink = true) (h0 : 0 < cs.length) (hs : (cs.getD (cs.length - 1) default).state ≠ 1) : cs.length = 1 := by
  have := (goodC_iff cs me sink).1 hg
  have h1 := this.2 (cs.length - 1) (by omega)
  by_cases hl : cs.length = 1
  · exact hl
  · exact absurd (h1.2.2.2.2.1 (by omega)).2 hs
theorem stays_add (cs : List Cell) (me : Int) (hg : goodC cs me true = true) (hm : 0 ≤ me ∧ me < 32) (hn : (cs.getD (cs.length - 1) default).num + 1 ≤ 1099511627776) :
    (succS cs me ((cs.getD (cs.length - 1) default).num + 1)).2 = ((succS cs me ((cs.getD (cs.length - 1) default).num + 1)).1.length == cs.length - 1) ∧
      goodC (addS (succS cs me ((cs.getD (cs.length - 1) default).num + 1)).1 ((cs.getD (cs.length - 1) default).num + 1)) me true = true := by
  have hc := (goodC_iff cs me true).1 hg
  have h0 := hc.1 rfl
  have hl := hc.2 (cs.length - 1) (by omega)
  rw [succS_eq _ _ _ h0]
  by_cases hs : (cs.getD (cs.length - 1) default).state = 3
  · rw [if_pos hs]
    have h1 := good_rests hg h0 (by omega)
    have h2 : cs.dropLast = [] := List.eq_nil_of_length_eq_zero (by simp; omega)
    refine ⟨by simp, ?_⟩
    rw [goodC_iff]
    refine ⟨fun _ => by simp [addS], fun i hi => ?_⟩
    simp only [h2, addS, List.nil_append, List.length_cons, List.length_nil] at hi ⊢
    obtain rfl : i = 0 := by omega
    simp only [List.getD_cons_zero]
    simp [-List.getD_eq_getElem?_getD]
    omega
  · rw [if_neg hs]
    refine ⟨by simp; omega, ?_⟩
    rw [goodC_iff]
    refine ⟨fun _ => by simp [addS], fun i hi => ?_⟩
    simp only [addS, List.length_append, List.length_set, List.length_cons, List.length_nil] at hi ⊢
    simp only [getD_app, getD_set, List.length_set]
    have hci := hc.2 i
    have hci := hc.2 i
    have hq1 := hc.2 (i + 1)
    by_cases hi1 : i = cs.length
    · subst hi1
      simp only [if_true, if_neg (show ¬ cs.length - 1 = cs.length by omega), show (cs.length - 1 < cs.length) = True from eq_true (by omega), and_true, true_and, if_true]
      simp [-List.getD_eq_getElem?_getD]
      omega
    · have hci := hci (by omega)
      by_cases hi2 : i = cs.length - 1
      · subst hi2
        simp only [if_neg hi1, if_neg (show ¬ cs.length - 1 - 1 = cs.length by omega), show (cs.length - 1 < cs.length) = True from eq_true (by omega), and_true, true_and, if_true, if_pos (show cs.length - 1 + 1 = cs.length by omega)]
        by_cases hz : cs.length - 1 = 0
        · simp [-List.getD_eq_getElem?_getD] at hci ⊢
          omega
        · simp only [if_neg (show ¬ (cs.length - 1 - 1 = cs.length - 1) by omega)]
          simp [-List.getD_eq_getElem?_getD] at hci ⊢
          omega
      · simp only [if_neg hi1, if_neg (show ¬ i - 1 = cs.length by omega), if_neg (show ¬ (i - 1 = cs.length - 1 ∧ cs.length - 1 < cs.length) by omega), if_neg (show ¬ i + 1 = cs.length by omega), if_neg (show ¬ (i = cs.length - 1 ∧ cs.length - 1 < cs.length) by omega)]
        by_cases hi3 : i + 1 = cs.length - 1
        · simp only [if_pos (show i + 1 = cs.length - 1 ∧ cs.length - 1 < cs.length by omega)]
          rw [← hi3]
          simp [-List.getD_eq_getElem?_getD] at hci ⊢
          omega
        · simp only [if_neg (show ¬ (i + 1 = cs.length - 1 ∧ cs.length - 1 < cs.length) by omega)]
          simp [-List.getD_eq_getElem?_getD] at hci ⊢
          omega
theorem stays_far (cs : List Cell) (me far : Int) (hg : goodC cs me true = true) (hf : 0 ≤ far ∧ far < 32 ∧ far ≠ me) : goodC (succS cs far 7).1 me false = true := by
  have hc := (goodC_iff cs me true).1 hg
  have h0 := hc.1 rfl
  have hl := hc.2 (cs.length - 1) (by omega)
  rw [succS_eq _ _ _ h0]
  by_cases hs : (cs.getD (cs.length - 1) default).state = 3
  · rw [if_pos hs]
    have h1 := good_rests hg h0 (by omega)
    have h2 : cs.dropLast = [] := List.eq_nil_of_length_eq_zero (by simp; omega)
    simp only [h2]
    rfl
  · rw [if_neg hs]
    rw [goodC_iff]
    refine ⟨by simp, fun i hi => ?_⟩
    simp only [List.length_set] at hi ⊢
    simp only [getD_set]
    have hci := hc.2 i (by omega)
    by_cases hi2 : i = cs.length - 1
    · subst hi2
      simp only [show (cs.length - 1 < cs.length) = True from eq_true (by omega), and_true, true_and, if_true, if_neg (show ¬ (cs.length - 1 + 1 = cs.length - 1 ∧ cs.length - 1 < cs.length) by omega)]
      by_cases hz : cs.length - 1 = 0
      · simp [-List.getD_eq_getElem?_getD] at hci ⊢
        omega
      · simp only [if_neg (show ¬ (cs.length - 1 - 1 = cs.length - 1) by omega)]
        simp [-List.getD_eq_getElem?_getD] at hci ⊢
        omega
    · simp only [if_neg (show ¬ (i - 1 = cs.length - 1 ∧ cs.length - 1 < cs.length) by omega), if_neg (show ¬ (i = cs.length - 1 ∧ cs.length - 1 < cs.length) by omega)]
      by_cases hi3 : i + 1 = cs.length - 1
      · simp only [if_pos (show i + 1 = cs.length - 1 ∧ cs.length - 1 < cs.length by omega)]
        rw [← hi3]
        simp [-List.getD_eq_getElem?_getD] at hci ⊢
        omega
      · simp only [if_neg (show ¬ (i + 1 = cs.length - 1 ∧ cs.length - 1 < cs.length) by omega)]
        simp [-List.getD_eq_getElem?_getD] at hci ⊢
        omega
theorem grant_first (cs : List Cell) (h0 : 0 < cs.length) (hs : (cs.getD 0 default).state = 1) : grantS cs (cs.getD 0 default).num = (cs.set 0 ⟨(cs.getD 0 default).num, 2, (cs.getD 0 default).node, (cs.getD 0 default).next⟩, true) := by
  cases cs with
  | nil => simp at h0
  | cons c cs =>
    simp only [List.getD_cons_zero] at hs ⊢
    simp [grantS, waits, hs, List.findIdx?_cons]
theorem openS_cons (c : Cell) (cs : List Cell) : openS (c :: cs) = (if c.state = 1 ∨ c.state = 2 then 1 else 0) + openS cs := by
  unfold openS
  rw [List.filter_cons]
  by_cases h : c.state = 1 ∨ c.state = 2
  · rw [if_pos h, if_pos (by simpa using h)]
    simp
    omega
  · rw [if_neg h, if_neg (by simpa using h)]
    simp
theorem stays_grant (cs : List Cell) (me : Int) (sink : Bool) (hg : goodC cs me sink = true) (h0 : 0 < cs.length) (hs : (cs.getD 0 default).state = 1) :
    (grantS cs (cs.getD 0 default).num).2 = true ∧ goodC (grantS cs (cs.getD 0 default).num).1 me sink = true ∧ openS (grantS cs (cs.getD 0 default).num).1 = openS cs := by
  have hc := (goodC_iff cs me sink).1 hg
  rw [grant_first cs h0 hs]
  refine ⟨rfl, ?_, ?_⟩
  · rw [goodC_iff]
    refine ⟨fun _ => by simpa using h0, fun i hi => ?_⟩
    simp only [List.length_set] at hi ⊢
    simp only [getD_set]
    have hci := hc.2 i (by omega)
    by_cases hi0 : i = 0
    · subst hi0
      simp only [h0, and_self, if_true, true_and, Nat.zero_sub, if_false, Nat.zero_add, Nat.succ_ne_zero, false_and] at hci ⊢
      simp at hci ⊢
      cases sink <;> simp_all <;> omega
    · rw [if_neg (by omega), if_neg (by omega : ¬ (i + 1 = 0 ∧ 0 < cs.length))]
      by_cases hi1 : i - 1 = 0
      · rw [if_pos ⟨hi1, h0⟩]
        rw [hi1] at hci
        exact hci
      · rw [if_neg (fun h => hi1 h.1)]
        exact hci
  · cases cs with
    | nil => simp at h0
    | cons c cs =>
      simp only [List.getD_cons_zero, List.set_cons_zero] at hs ⊢
      rw [openS_cons, openS_cons]
      simp [hs]
theorem goodC_tail {c : Cell} {cs : List Cell} {me : Int} {sink : Bool} (hg : goodC (c :: cs) me sink = true) (hne : sink = true → cs ≠ []) : goodC cs me sink = true := by
  have hc := (goodC_iff _ me sink).1 hg
  rw [goodC_iff]
  refine ⟨fun h => List.length_pos_iff.2 (hne h), fun i hi => ?_⟩
  have h1 := hc.2 (i + 1) (by simp; omega)
  simp only [List.getD_cons_succ, List.length_cons, Nat.add_sub_cancel, Nat.add_right_cancel_iff, Nat.add_lt_add_iff_right] at h1
  refine ⟨h1.1, h1.2.1, h1.2.2.1, h1.2.2.2.1, fun h => ⟨?_, (h1.2.2.2.2.1 (by omega)).2⟩, h1.2.2.2.2.2.1, h1.2.2.2.2.2.2.1, h1.2.2.2.2.2.2.2⟩
  have := (h1.2.2.2.2.1 (by omega)).1
  cases i with
  | zero => omega
  | succ i => simpa using this
theorem rel_first (c : Cell) (cs : List Cell) (hs : c.state = 2) : relS (c :: cs) = if c.node = -1 then (⟨c.num, 3, c.node, c.next⟩ :: cs, -1, 0, 0) else (cs, c.node, c.next, 0) := by
  unfold relS
  simp [List.findIdx?_cons, isHeld, hs]
theorem stays_rel_none (cs : List Cell) (me : Int) (sink : Bool) (hg : goodC cs me sink = true) (hs : (cs.getD 0 default).state ≠ 2) : relS cs = ([], 0, 0, 22) := by
  have hc := (goodC_iff cs me sink).1 hg
  have : cs.findIdx? isHeld = none := by
    rw [List.findIdx?_eq_none_iff]
    intro x hx
    obtain ⟨i, hi, rfl⟩ := List.mem_iff_getElem.1 hx
    have hci := hc.2 i hi
    have e : cs.getD i default = cs[i] := by simp [hi]
    rw [e] at hci
    simp only [isHeld, beq_eq_false_iff_ne, ne_eq]
    intro h2
    by_cases hi0 : i = 0
    · subst hi0
      rw [e] at hs
      exact hs h2
    · have := (hci.2.2.2.2.1 (by omega)).2
      omega
  simp [relS, this]
theorem stays_rel (cs : List Cell) (me : Int) (sink : Bool) (hg : goodC cs me sink = true) (h0 : 0 < cs.length) (hs : (cs.getD 0 default).state = 2) :
    (relS cs).2.2.2 = 0 ∧ goodC (relS cs).1 me sink = true ∧ openS (relS cs).1 = openS cs - 1 ∧ ((relS cs).2.1 = -1 ↔ (relS cs).1.length = cs.length) := by
  cases cs with
  | nil => simp at h0
  | cons c cs =>
    simp only [List.getD_cons_zero] at hs
    have hc := (goodC_iff _ me sink).1 hg
    have h1 := hc.2 0 (by simp)
    simp only [List.getD_cons_zero, List.length_cons] at h1
    rw [rel_first c cs hs]
    by_cases hn : c.node = -1
    · rw [if_pos hn]
      have hsk : sink = true ∧ cs.length = 0 := by
        by_cases h : sink = true ∧ 0 + 1 = cs.length + 1
        · exact ⟨h.1, by omega⟩
        · have := (h1.2.2.2.2.2.2.2 h).2.1
          omega
      obtain ⟨rfl, hl⟩ := hsk
      have : cs = [] := List.eq_nil_of_length_eq_zero hl
      subst this
      refine ⟨rfl, ?_, by simp [openS, hs], by simp⟩
      · rw [goodC_iff]
        refine ⟨by simp, fun i hi => ?_⟩
        obtain rfl : i = 0 := by simpa using hi
        simp at h1 ⊢
        omega
    · rw [if_neg hn]
      refine ⟨rfl, goodC_tail hg fun h => ?_, ?_, ?_⟩
      · subst h
        intro he
        subst he
        have := (h1.2.2.2.2.2.2.1 rfl rfl).1
        exact hn this
      · rw [openS_cons]
        simp [hs]
        omega
      · simp [hn]
end Go.Proofs.Ytammndlghfknbaa
