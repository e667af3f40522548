/- The law StateFirsts. -/
import Derived.Test.YtiklbnianbejdaaSt11
import Derived.Test.YtiklbnianbejdaaSt9
set_option linter.unusedSimpArgs false
set_option maxRecDepth 20000
set_option linter.unusedVariables false
namespace Go.Proofs.Ytiklbnianbejdaa
open Go Go.Eng Go.RowKit

theorem nbr_next {ps : List Int} (h : Tr1 ps) {me x : Int} (hm : hasB ps me = true) (hx : hasB ps x = true) (hne : me ≠ x) : (nbr ps me).contains (nextS ps me x) = true := by
  rw [nbr, if_pos hm]
  obtain ⟨h1, h2⟩ := hasB_iff.1 hm
  obtain ⟨h3, h4⟩ := hasB_iff.1 hx
  obtain ⟨a, rfl⟩ := Int.eq_ofNat_of_zero_le h1
  obtain ⟨b, rfl⟩ := Int.eq_ofNat_of_zero_le h3
  obtain ⟨k1, k2, k3⟩ := h.p.nxt_ok (s := a) (t := b) (by omega) (by omega) (by omega)
  rw [k3, Int.toNat_natCast, List.contains_iff_mem]
  unfold nearTo
  simp only [List.mem_map, List.mem_filter, List.mem_range]
  exact ⟨_, ⟨k1, by rw [isNear_comm]; exact k2⟩, rfl⟩
theorem nextS_same {ps : List Int} {me : Int} (hm : hasB ps me = true) : nextS ps me me = me := by
  unfold nextS
  rw [if_neg (by simp [hm]), if_pos rfl]
theorem nextS_ne {ps : List Int} (h : Tr1 ps) {me x : Int} (hm : hasB ps me = true) (hx : hasB ps x = true) (hne : me ≠ x) : nextS ps me x ≠ me := by
  obtain ⟨h1, h2⟩ := hasB_iff.1 hm
  obtain ⟨h3, h4⟩ := hasB_iff.1 hx
  obtain ⟨a, rfl⟩ := Int.eq_ofNat_of_zero_le h1
  obtain ⟨b, rfl⟩ := Int.eq_ofNat_of_zero_le h3
  obtain ⟨k1, k2, k3⟩ := h.p.nxt_ok (s := a) (t := b) (by omega) (by omega) (by omega)
  rw [k3]
  intro e
  have e' : nxt ps a b = a := by omega
  rw [e'] at k2
  simp [isNear] at k2
  have := (h.p.bd a (by omega)).2.2
  rw [List.getD_eq_getElem?_getD] at this
  omega
theorem ownB_fo {ps : List Int} (h : Tr1 ps) {me x : Int} (hm : hasB ps me = true) (hx : hasB ps x = true) : ownB ps me (fo ps me x) = true := by
  by_cases e : x = me
  · subst e
    unfold ownB fo
    rw [nextS_same hm, if_pos rfl]
    obtain ⟨h1, h2⟩ := hasB_iff.1 hm
    have hg : Ch.goodC [⟨0, 3, -1, 0⟩] x true = true := by
      unfold Ch.goodC
      simp only [List.isEmpty_cons, Bool.and_false, Bool.not_false, Bool.true_and, decide_eq_true_eq]
      intro i hi
      have : i = 0 := by simpa using hi
      subst this
      refine ⟨by decide, by decide, by decide, by decide, by intro hc; simp at hc, by decide, ?_⟩
      rw [if_pos ⟨rfl, rfl⟩]
      decide
    simp [hg, Hf.inB, lastB]
    omega
  · have hn := nbr_next h hm hx (fun c => e c.symm)
    have hn2 := nextS_ne h hm hx (fun c => e c.symm)
    have hg : Ch.goodC [] me (nextS ps me x == me) = true := by
      unfold Ch.goodC
      simp [hn2]
    unfold ownB fo
    rw [if_neg e]
    dsimp only
    rw [hg, hn]
    simp [Hf.inB, lastB]
theorem opS_fo (ps hs : List Int) (me : Int) : ∀ i, opS (hs.map (fo ps me)) i = 0
  | 0 => rfl
  | i + 1 => by
    rw [opS, opS_fo ps hs me i]
    have : Ch.openS ((hs.map (fo ps me)).getD i ⟨0, 0, []⟩).cells = 0 := by
      rw [List.getD_eq_getElem?_getD, List.getElem?_map]
      cases hs[i]? with
      | none => rfl
      | some x =>
        simp only [Option.map_some, Option.getD_some]
        unfold fo
        split <;> rfl
    rw [this]
    rfl
theorem firstV_good {ps hs : List Int} {me : Int} (h : Tr1 ps) (hb : homesB ps hs = true) (hm : hasB ps me = true) : goodS ps (firstV ps hs me) = true := by
  have hle := h.le
  obtain ⟨h1, h2⟩ := hasB_iff.1 hm
  unfold homesB at hb
  rw [Bool.and_eq_true] at hb
  obtain ⟨hb1, hb2⟩ := hb
  rw [List.all_eq_true] at hb2
  unfold goodS
  have q1 : frontB ps (firstV ps hs me) = false := by
    have : Hf.inB me 0 ((ps.length : Int) - 1) = true := by unfold Hf.inB; simp; omega
    unfold frontB firstV
    simp only [List.length_map]
    rw [hb1, this]
    rfl
  have q2 : (firstV ps hs me).objs.all (ownB ps (firstV ps hs me).me) = true := by
    rw [List.all_eq_true]
    intro o ho
    obtain ⟨x, hx, rfl⟩ := List.mem_map.1 ho
    exact ownB_fo h hm (hb2 x hx)
  have q3 : edsB ps (firstV ps hs me) = true := by
    unfold edsB
    have e1 : (firstV ps hs me).edges.length = (nbr ps me).length := by simp [firstV]
    rw [Bool.and_eq_true, decide_eq_true_eq]
    refine ⟨e1.symm, allr_yes fun j hj => ?_⟩
    rw [e1] at hj
    have e2 : (firstV ps hs me).edges.getD j Hf.Edge.zero = fe (nbr ps me)[j] := by simp [firstV, hj]
    unfold edAt
    rw [e2]
    show edB _ _ ((nbr ps me).getD j 0) _ = true
    rw [getDo 0 hj]
    have hr : 0 ≤ (nbr ps me)[j] ∧ (nbr ps me)[j] < 32 := by
      have hmem : (nbr ps me)[j] ∈ nbr ps me := List.getElem_mem hj
      generalize (nbr ps me)[j] = y at hmem
      rw [nbr, if_pos hm] at hmem
      unfold nearTo at hmem
      simp only [List.mem_map, List.mem_filter, List.mem_range] at hmem
      obtain ⟨u, ⟨hu, _⟩, rfl⟩ := hmem
      omega
    generalize (nbr ps me)[j] = y at *
    unfold edB fe Hf.Edge.good Hf.Edge.fit
    simp
    omega
  have q4 : opS (firstV ps hs me).objs (firstV ps hs me).objs.length = 0 := opS_fo ps hs me _
  rw [q1, q2, q3, q4]
  rfl
theorem firstV_sz {ps hs : List Int} {me : Int} (h : Tr1 ps) (hb : homesB ps hs = true) : (firstV ps hs me).sz := by
  have hle := h.le
  have hl8 : hs.length ≤ 8 := by
    unfold homesB Hf.inB at hb
    simp only [Bool.and_eq_true, decide_eq_true_eq] at hb
    omega
  have hnl : (nbr ps me).length ≤ 32 := by
    unfold nbr
    split
    · have := nearTo_le ps me.toNat ps.length; omega
    · simp
  refine ⟨by simp [firstV]; omega, ?_, by simp [firstV]; omega, ?_, by simp [firstV], by simp [firstV]⟩
  · intro o ho
    obtain ⟨x, hx, rfl⟩ := List.mem_map.1 ho
    unfold fo
    split <;> simp
  · intro o ho
    obtain ⟨x, hx, rfl⟩ := List.mem_map.1 ho
    simp [fe]
/-- No state, as content. -/
abbrev zR : Sv := .agg [I 0, .ext true 3 [], .ext true 4 [], I 0, .ext true 2 [], .ext true 3 []]
set_option maxHeartbeats 2000000 in
theorem stateFirsts_pcon (ps hs : List Int) (me : Int) (hl : ps.length < 9223372036854775808) (hh : hs.length < 9223372036854775808) : PCon Try.prog 3 [intX false ps, intX false hs, I me] (Bo true) [] := by
  refine pcon_of (G := gm) Try.func3 rfl rfl rfl ?_
  have d1 : PCon _ _ _ (.tup [zR, I 2]) [] := firstE_pcon false false hs me
  have d2 := homesN_pcon false hs
  by_cases h : (checkS ps).2 = 0
  case neg =>
    have hn := new_bad false ps hl h
    generalize checkS ps = r at h hn
    obtain ⟨r1, r2⟩ := r
    dsimp only at h
    refine W.c4 swakes_pcon d1 d2 hn ?_
    exact RetP.v rfl
  have ht := (tr1_iff ps).1 h
  have hle := ht.le
  have hn := new_ok false ps ht
  have c1 := first_pcon false ps hs me ht hh
  have c2 := homes_pcon true false ps hs (nearOf ps) hl hh
  have c3 := refhomes_pcon false false ps hs hl hh
  have c4 : PCon _ _ [zR, zR] _ [] := refssame_pcon true true zeroS zeroS ⟨by decide, by simp [zeroS], by decide, by simp [zeroS], by decide, by decide⟩
  have hz : staEq zeroS zeroS = true := (staEq_iff _ _).2 rfl
  rw [hz] at c4
  unfold firstS at c1
  cases hb : homesB ps hs with
  | false =>
    rw [hb, if_neg (by simp)] at c2
    rw [hb] at c3
    rw [hb, if_neg (by simp)] at c1
    replace c1 : PCon _ _ _ (.tup [zR, I 1]) [] := c1
    generalize nearOf ps = L at *
    refine W.c7 swakes_pcon d1 d2 hn c1 c2 c3 ?_
    refine W.c1 c4 ?_
    exact RetP.v rfl
  | true =>
    rw [hb, if_pos rfl] at c2
    rw [hb] at c3
    have hmb : (decide (me < 0) || decide (me ≥ ps.length)) = !hasB ps me := by
      unfold hasB
      rw [Bool.eq_iff_iff]
      simp
    cases hm : hasB ps me with
    | false =>
      rw [hb, hm, if_neg (by simp)] at c1
      rw [hm] at hmb
      replace c1 : PCon _ _ _ (.tup [zR, I 1]) [] := c1
      generalize nearOf ps = L at *
      refine W.c7 swakes_pcon d1 d2 hn c1 c2 c3 ?_
      refine Br.mk (fun hb => ?_) (fun hb => ?_)
      case refine_2 => rw [hmb] at hb; cases hb
      refine W.c2 c2 c4 ?_
      exact RetP.v rfl
    | true =>
      rw [hb, hm, if_pos ⟨rfl, rfl⟩] at c1
      rw [hm] at hmb
      have hz := firstV_sz (me := me) ht hb
      have k1 := reffirst_pcon false false ps hs me ht hb hm
      have k2 := refssame_pcon true true _ (firstV ps hs me) hz
      have k3 := sgood_pcon true ps _ ht hz
      rw [firstV_good ht hb hm] at k3
      rw [show staEq (firstV ps hs me) (firstV ps hs me) = true from (staEq_iff _ _).2 rfl] at k2
      generalize firstV ps hs me = s at *
      generalize nearOf ps = L at *
      obtain ⟨me', objs, edges, asked, asks, got⟩ := s
      replace c1 : PCon _ _ _ (.tup [.agg [I me', .ext true 3 (objs.map (Ow.row true)), .ext true 4 (edges.map (edRow true)), I asked, .ext true 2 (asks.map Asq.row), .ext true 3 (got.map Fnd.row)], I 0]) [] := c1
      refine W.c7 swakes_pcon d1 d2 hn c1 c2 c3 ?_
      refine Br.mk (fun hb => ?_) (fun hb => ?_)
      · rw [hmb] at hb; cases hb
      refine W.c4 c2 k1 k2 k3 ?_
      exact RetP.v rfl
end Go.Proofs.Ytiklbnianbejdaa
