/- The reference's First; the law StateFirsts. -/
import Derived.Test.YtiklbnianbejdaaSt8
set_option linter.unusedSimpArgs false
set_option maxRecDepth 20000
set_option linter.unusedVariables false
namespace Go.Proofs.Ytiklbnianbejdaa
open Go Go.Eng Go.RowKit

set_option maxHeartbeats 4000000 in
theorem reffirst_pcon (f g : Bool) (ps hs : List Int) (me : Int) (h : Tr1 ps) (hb : homesB ps hs = true) (hm : hasB ps me = true) : PCon Try.prog 15 [intX f ps, intX g hs, I me] (.agg ((firstV ps hs me).row true)) [] := by
  refine pcon_of (G := gm) Try.func15 rfl rfl rfl ?_
  have hle := h.le
  have cx := fun x => refnext_pcon f ps me x h
  have cn := refneigh_pcon f ps me (by omega) hm
  rw [show nearTo ps me.toNat ps.length = nbr ps me by rw [nbr, if_pos hm]] at cn
  have hl8 : hs.length ≤ 8 := by
    unfold homesB Hf.inB at hb
    simp only [Bool.and_eq_true, decide_eq_true_eq] at hb
    omega
  have hnl : (nbr ps me).length ≤ 32 := by
    have := nearTo_le ps me.toNat ps.length
    rw [nbr, if_pos hm]; omega
  clear hm hb
  unfold firstV
  generalize nbr ps me = N at *
  refine W.go ?_
  refine LoopV.on (σ := Nat) rfl (fun i => [(0, intX f ps), (2, I me), (6, .ptr 0 0 0), (7, .ptr 1 0 0), (15, intX g hs), (16, I hs.length), (17, I i)]) (fun i => [some ⟨30, 6, true, false, [[I 0, .val (.slice none 0 0), .val (.slice none 0 0), I 0, .val (.slice none 0 0), .val (.slice none 0 0)]]⟩, some ⟨30, 6, false, false, [[I me, .own 2 i, .val (.slice none 0 0), I 0, .val (.slice none 0 0), .val (.slice none 0 0)]]⟩, some (mkB 55 3 (((hs.take i).map (fo ps me)).map (Ow.row true)))]) (fun i => i ≤ hs.length) (fun i => hs.length - i) 0 (AtS.v [(55, 3)] [0, 1, 2]) (Nat.zero_le _) ?_
  intro i hi
  rcases Nat.lt_or_ge i hs.length with him | him
  · have hg := rows_get oneIt hs (Int.toNat_natCast i) him
    have cx := cx hs[i]
    have htk : ((hs.take (i + 1)).map (fo ps me)) = (hs.take i).map (fo ps me) ++ [fo ps me hs[i]] := by rw [List.take_succ_eq_append_getElem him, List.map_append]; rfl
    have hln : ((hs.take i).map (fo ps me)).length = i := by simp; omega
    clear hle hnl cn
    generalize hs[i] = x at *
    have hfo : fo ps me x = ⟨nextS ps me x, 0, if x = me then [⟨0, 3, -1, 0⟩] else []⟩ := rfl
    generalize nextS ps me x = nx' at *
    by_cases hx : x = me
    · rw [if_pos hx] at hfo
      generalize (hs.take i).map (fo ps me) = P at *
      have hlp : Fc (i = (P.map (Ow.row true)).length) := ⟨by simp [hln]⟩
      refine W.s0 ?_
      iterate 5 (refine RegV.d ?_; refine W.s2 hg cx ?_)
      refine RegV.f [5] ?_
      refine W.c1 hlp ?_
      refine nx (i + 1) (by omega) (by omega) ?_
      rw [htk, hfo]
      exact AtS.v [] [0, 1, 7] (by ((repeat' (first | exact trivial | exact rfl | with_reducible assumption | (refine And.intro ?_ ?_) | (refine Exists.intro _ (And.intro rfl ?_)) | (refine Exists.intro _ (Exists.intro _ (And.intro rfl (And.intro rfl ?_)))) | (refine Or.inl ⟨rfl, rfl, ?_⟩) | (refine Or.inl ⟨rfl, ?_⟩; focus (fail_if_success (refine And.intro ?_ ?_))) | (refine Or.inl (?_ : (_ : Nat) = _ ∧ _); refine ⟨?_, ?_⟩; focus (first | (simp only [List.length_map]; done) | (simp only [List.length_map, List.length_append, List.length_cons, List.length_nil]; done))) | exact Or.inl rfl | (refine Or.inr (Or.inr ⟨?_, ?_⟩)) | (refine Or.inr ⟨?_, ?_⟩) | (refine fun h => ?_; first | exact h | exact rfl | (cases h; done)) | (refine om8 ?_; simp only [← List.map_drop, ← List.map_take]; exact rfl) | ((first | refine om1 ?_ | refine om2 ?_ | refine om3 ?_ | refine om4 ?_ | refine om5 ?_ | refine om6 ?_ | refine om7 ?_); first | (simp only [List.length_map]; done) | (simp only [List.length_map]; omega) | omega)))); all_goals exact mapSnoc (Ow.row true) P ⟨nx', 0, [⟨0, 3, -1, 0⟩]⟩)
    · rw [if_neg hx] at hfo
      generalize (hs.take i).map (fo ps me) = P at *
      have hlp : Fc (i = (P.map (Ow.row true)).length) := ⟨by simp [hln]⟩
      refine W.c3 hg cx hlp ?_
      refine nx (i + 1) (by omega) (by omega) ?_
      rw [htk, hfo]
      refine AtS.v [] [0, 1, 5] ⟨⟨_, rfl, VwB.refl⟩, ⟨_, rfl, by ((repeat' (first | exact trivial | exact rfl | with_reducible assumption | (refine And.intro ?_ ?_) | (refine Exists.intro _ (And.intro rfl ?_)) | (refine Exists.intro _ (Exists.intro _ (And.intro rfl (And.intro rfl ?_)))) | (refine Or.inl ⟨rfl, rfl, ?_⟩) | (refine Or.inl ⟨rfl, ?_⟩; focus (fail_if_success (refine And.intro ?_ ?_))) | (refine Or.inl (?_ : (_ : Nat) = _ ∧ _); refine ⟨?_, ?_⟩; focus (first | (simp only [List.length_map]; done) | (simp only [List.length_map, List.length_append, List.length_cons, List.length_nil]; done))) | exact Or.inl rfl | (refine Or.inr (Or.inr ⟨?_, ?_⟩)) | (refine Or.inr ⟨?_, ?_⟩) | (refine fun h => ?_; first | exact h | exact rfl | (cases h; done)) | (refine om8 ?_; simp only [← List.map_drop, ← List.map_take]; exact rfl) | ((first | refine om1 ?_ | refine om2 ?_ | refine om3 ?_ | refine om4 ?_ | refine om5 ?_ | refine om6 ?_ | refine om7 ?_); first | (simp only [List.length_map]; done) | (simp only [List.length_map]; omega) | omega))))⟩, ⟨_, rfl, rfl, rfl, rfl, .inr (.inr ⟨VwR_snoc (Ow.row true) VwL_ow ?_ P, .inr (flat_rows _ (fun _ => rfl) _), trivial⟩)⟩, rfl⟩
      exact ⟨rfl, rfl, rfl, rfl⟩
  · have e : i = hs.length := by omega
    subst e
    rw [List.take_length]
    have hgn := fun j (hj : j < N.length) => rows_get oneIt N (Int.toNat_natCast j) hj
    refine W.c1 cn ?_
    refine LoopV.on (σ := Nat) rfl (fun i => [(2, I me), (6, .ptr 0 0 0), (7, .ptr 1 0 0), (44, .own 3 N.length), (45, I N.length), (46, I i)]) (fun i => [some ⟨30, 6, true, false, [[I 0, .val (.slice none 0 0), .val (.slice none 0 0), I 0, .val (.slice none 0 0), .val (.slice none 0 0)]]⟩, some ⟨30, 6, false, false, [[I me, .own 2 hs.length, .own 4 i, I 0, .val (.slice none 0 0), .val (.slice none 0 0)]]⟩, some (mkB 55 3 ((hs.map (fo ps me)).map (Ow.row true))), some (intB N), some (mkB 60 4 (((N.take i).map fe).map (edRow true)))]) (fun i => i ≤ N.length) (fun i => N.length - i) 0 (AtS.v [(60, 4)] [0, 1, 2, 3, 4]) (Nat.zero_le _) ?_
    intro i hi
    rcases Nat.lt_or_ge i N.length with him | him
    · have hg := hgn i him
      have htk : ((N.take (i + 1)).map fe) = (N.take i).map fe ++ [fe N[i]] := by rw [List.take_succ_eq_append_getElem him, List.map_append]; rfl
      have hln : ((N.take i).map fe).length = i := by simp; omega
      have hlp : Fc (i = (((N.take i).map fe).map (edRow true)).length) := ⟨by simp; omega⟩
      clear hgn cn cx
      generalize N[i] = x at *
      have hfe : fe x = ⟨x, 0, [], 0⟩ := rfl
      generalize (N.take i).map fe = P at *
      refine W.c2 hg hlp ?_
      refine nx (i + 1) (by omega) (by omega) ?_
      rw [htk, hfe]
      refine AtS.v [] [0, 1, 2, 3, 6] ⟨⟨_, rfl, VwB.refl⟩, ⟨_, rfl, by ((repeat' (first | exact trivial | exact rfl | with_reducible assumption | (refine And.intro ?_ ?_) | (refine Exists.intro _ (And.intro rfl ?_)) | (refine Exists.intro _ (Exists.intro _ (And.intro rfl (And.intro rfl ?_)))) | (refine Or.inl ⟨rfl, rfl, ?_⟩) | (refine Or.inl ⟨rfl, ?_⟩; focus (fail_if_success (refine And.intro ?_ ?_))) | (refine Or.inl (?_ : (_ : Nat) = _ ∧ _); refine ⟨?_, ?_⟩; focus (first | (simp only [List.length_map]; done) | (simp only [List.length_map, List.length_append, List.length_cons, List.length_nil]; done))) | exact Or.inl rfl | (refine Or.inr (Or.inr ⟨?_, ?_⟩)) | (refine Or.inr ⟨?_, ?_⟩) | (refine fun h => ?_; first | exact h | exact rfl | (cases h; done)) | (refine om8 ?_; simp only [← List.map_drop, ← List.map_take]; exact rfl) | ((first | refine om1 ?_ | refine om2 ?_ | refine om3 ?_ | refine om4 ?_ | refine om5 ?_ | refine om6 ?_ | refine om7 ?_); first | (simp only [List.length_map]; done) | (simp only [List.length_map]; omega) | omega))))⟩, ⟨_, rfl, VwB.refl⟩, ⟨_, rfl, VwB.refl⟩, ⟨_, rfl, rfl, rfl, rfl, .inr (.inr ⟨VwR_snoc (edRow true) VwL_ed ?_ P, .inr (flat_rows _ (fun _ => rfl) _), trivial⟩)⟩, rfl⟩
      exact ⟨rfl, rfl, rfl, rfl, rfl⟩
    · have e : i = N.length := by omega
      subst e
      rw [List.take_length]
      clear hgn cn cx
      refine W.go ?_
      exact RetP.go [] [] (by simp) rfl ⟨rfl, ⟨rfl, _, rfl, .inl ⟨by simp [mkB], rfl, .inl ⟨rfl, rfl⟩⟩⟩, ⟨rfl, _, rfl, .inl ⟨by simp [mkB], rfl, .inl ⟨rfl, rfl⟩⟩⟩, rfl, rfl, rfl, rfl⟩ (sta_fr _) trivial
end Go.Proofs.Ytiklbnianbejdaa
