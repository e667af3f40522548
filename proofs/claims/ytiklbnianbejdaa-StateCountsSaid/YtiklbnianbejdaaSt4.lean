/- The reference's Open, Homes and Good. -/
import Derived.Test.YtiklbnianbejdaaSt3
set_option linter.unusedSimpArgs false
set_option maxRecDepth 20000
set_option linter.unusedVariables false
namespace Go.Proofs.Ytiklbnianbejdaa
open Go Go.Eng Go.RowKit

set_option maxHeartbeats 1000000 in
theorem refsopen_pcon (f : Bool) (s : Sta) (h : s.sz) : PCon Try.prog 18 [.agg (s.row f)] (I (opS s.objs s.objs.length)) [] := by
  refine pcon_of (G := gm) Try.func18 rfl rfl rfl ?_
  obtain ⟨me, objs, edges, asked, asks, got⟩ := s
  obtain ⟨h1, h2, -, -, -, -⟩ := h
  dsimp only at h1 h2
  refine W.go ?_
  refine LoopV.on (σ := Nat) rfl (fun i => [(3, I (opS objs i)), (7, .ext f 3 (objs.map (Ow.row f))), (8, I objs.length), (9, I i)]) (fun _ => []) (fun i => i ≤ objs.length) (fun i => objs.length - i) 0 (AtS.v [] []) (Nat.zero_le _) ?_
  intro i hi
  rcases Nat.lt_or_ge i objs.length with him | him
  · have hg := rows_get (Ow.row f) objs (Int.toNat_natCast i) him
    have ho := Ch.refopen_pcon f objs[i].cells (by have := h2 _ (List.getElem_mem him); omega)
    have hs : opS objs (i + 1) = IntKind.i64.wrap (opS objs i + Ch.openS objs[i].cells) := by rw [opS, getDo _ him]
    generalize objs[i] = o at *
    obtain ⟨oa, om, oc⟩ := o
    dsimp only at ho hs
    generalize Ch.openS oc = x at *
    generalize opS objs i = y at *
    refine W.c2 hg ho ?_
    refine nx (i + 1) (by omega) (by omega) ?_
    rw [hs]
    exact AtS.v [] []
  · have e : i = objs.length := by omega
    subst e
    refine W.go ?_
    exact RetP.v rfl
theorem refhomes_pcon (f g : Bool) (ps hs : List Int) (hl : ps.length < 9223372036854775808) (hh : hs.length < 9223372036854775808) : PCon Try.prog 13 [intX f ps, intX g hs] (Bo (homesB ps hs)) [] := by
  refine pcon_of (G := gm) Try.func13 rfl rfl rfl ?_
  unfold homesB
  by_cases hi : (1 : Int) ≤ hs.length ∧ (hs.length : Int) ≤ 8
  case neg =>
    rw [show Hf.inB hs.length 1 8 = false by unfold Hf.inB; simp; omega]
    refine W.go ?_
    exact RetP.v rfl
  rw [show Hf.inB hs.length 1 8 = true by unfold Hf.inB; simp; omega, Bool.true_and]
  refine W.go ?_
  refine LoopV.on (σ := Nat) rfl (fun i => [(0, intX f ps), (15, intX g hs), (16, I hs.length), (17, I i)]) (fun _ => []) (fun i => i ≤ hs.length ∧ ∀ j (hj : j < hs.length), j < i → hasB ps hs[j] = true) (fun i => hs.length - i) 0 (AtS.v [] []) ⟨Nat.zero_le _, by simp⟩ ?_
  rintro i ⟨hi, hok⟩
  rcases Nat.lt_or_ge i hs.length with him | him
  · have hg := rows_get oneIt hs (Int.toNat_natCast i) him
    have hmore := all_more him hok
    have hno := all_no (p := hasB ps) him
    clear hok
    generalize hs[i] = x at *
    by_cases hx : 0 ≤ x ∧ x < ps.length
    · replace hmore := hmore (hasB_iff.2 hx)
      clear hno
      refine W.c1 hg ?_
      exact nx (i + 1) (by omega) ⟨by omega, hmore⟩ (AtS.v [] [])
    · rw [hno (by rw [Bool.eq_false_iff]; exact fun h => hx (hasB_iff.1 h))]
      clear hmore hno
      refine W.c1 hg ?_
      exact RetP.v rfl
  · rw [all_yes fun j hj => hok j hj (by omega)]
    clear hok
    refine W.go ?_
    exact RetP.v rfl
/-! ### The same, found another way -/
theorem num_mono {cs : List Ch.Cell} {me : Int} {sink : Bool} (hg : Ch.goodC cs me sink = true) : ∀ j i, i ≤ j → j < cs.length → (cs.getD i default).num ≤ (cs.getD j default).num := by
  have hall : ∀ i, i < cs.length → Ch.okAt cs me sink i := by
    unfold Ch.goodC at hg
    rw [Bool.and_eq_true, decide_eq_true_eq] at hg
    exact hg.2
  intro j
  induction j with
  | zero => intro i hi _; rw [show i = 0 by omega]; exact Int.le_refl _
  | succ j ih =>
    intro i hi hj
    rcases Nat.lt_or_ge j i with h | h
    · rw [show i = j + 1 by omega]; exact Int.le_refl _
    · have h1 := ih i h (by omega)
      have h2 := ((Ch.okAt_iff cs me sink (j + 1) hj).1 (hall _ hj)).2.2.2.2.1 (by omega)
      rw [Nat.add_sub_cancel] at h2
      omega
def cellB' (n made : Int) (c : Ch.Cell) : Bool := !(decide (c.num > made) || decide (c.node ≥ n))
theorem own_eq {ps : List Int} {me : Int} {o : Ow} (hg : Ch.goodC o.cells me (o.arrow == me) = true) : o.cells.all (cellB' ps.length o.made) = (o.cells.all (fun c => decide (c.node < ps.length)) && lastB o) := by
  rw [Bool.eq_iff_iff, Bool.and_eq_true, List.all_eq_true, List.all_eq_true]
  unfold cellB' lastB
  simp only [Bool.not_eq_true', Bool.or_eq_false_iff, decide_eq_false_iff_not, Bool.or_eq_true, decide_eq_true_eq]
  constructor
  · intro h
    refine ⟨fun c hc => by have := (h c hc).2; omega, ?_⟩
    rcases Nat.eq_zero_or_pos o.cells.length with h0 | h0
    · exact .inl h0
    · right
      have := (h _ (List.getElem_mem (show o.cells.length - 1 < o.cells.length by omega))).1
      rw [getDo _ (by omega)]
      omega
  · rintro ⟨h1, h2⟩ c hc
    have h3 := h1 c hc
    refine ⟨?_, by omega⟩
    obtain ⟨i, hi, rfl⟩ := List.mem_iff_getElem.1 hc
    have := num_mono hg (o.cells.length - 1) i (by omega) (by omega)
    rw [getDo _ hi] at this
    rcases h2 with h2 | h2 <;> omega
theorem asks_pos {k asked : Int} {A : List Asq} {i : Nat} (hok : ∀ j, j < i → askAt k asked A j = true) : 0 < i → 1 ≤ lastN A i := by
  have h0 : ∀ i, (∀ j, j < i → askAt k asked A j = true) → 0 ≤ lastN A i ∧ (0 < i → 1 ≤ lastN A i) := by
    intro i
    induction i with
    | zero => intro _; simp [lastN]
    | succ i ih =>
      intro h
      have h1 := (ih fun j hj => h j (by omega)).1
      have h2 := h i (by omega)
      unfold askAt at h2
      simp only [Bool.not_eq_true', Bool.or_eq_false_iff, decide_eq_false_iff_not] at h2
      rw [lastN]
      omega
  exact (h0 i hok).2
end Go.Proofs.Ytiklbnianbejdaa
