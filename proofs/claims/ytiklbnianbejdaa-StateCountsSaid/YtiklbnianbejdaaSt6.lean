/- state.First, the reference's. -/
import Derived.Test.YtiklbnianbejdaaSt5
set_option linter.unusedSimpArgs false
set_option maxRecDepth 20000
set_option linter.unusedVariables false
namespace Go.Proofs.Ytiklbnianbejdaa
open Go Go.Eng Go.RowKit

/-- What a node knows of an object at first. -/
def fo (ps : List Int) (me h : Int) : Ow := ⟨nextS ps me h, 0, if h = me then [⟨0, 3, -1, 0⟩] else []⟩
def fe (v : Int) : Hf.Edge := ⟨v, 0, [], 0⟩
def zeroS : Sta := ⟨0, [], [], 0, [], []⟩
def firstV (ps hs : List Int) (me : Int) : Sta := ⟨me, hs.map (fo ps me), (nbr ps me).map fe, 0, [], []⟩
/-- The first state, and what is wrong. -/
def firstS (ps hs : List Int) (me : Int) : Sta × Int := if homesB ps hs = true ∧ hasB ps me = true then (firstV ps hs me, 0) else (zeroS, 1)
abbrev staR (r : Sta × Int) : Sv := .tup [.agg (r.1.row true), I r.2]
theorem sta_fr (s : Sta) : Sv.Fr (.agg (s.row true)) := ⟨trivial, ⟨rfl, ow_fr _⟩, ⟨rfl, ed_fr _⟩, trivial, ⟨rfl, asq_fr _⟩, ⟨rfl, fnd_fr _⟩, trivial⟩
theorem RetP.zeroS {hp : Hp} {e : Int} : RetP hp (.tup [.agg [I 0, .val (.slice none 0 0), .val (.slice none 0 0), I 0, .val (.slice none 0 0), .val (.slice none 0 0)], I e]) (staR (Go.Proofs.Ytiklbnianbejdaa.zeroS, e)) [] :=
  RetP.go [] [] (by simp) rfl (by (repeat' (first | exact trivial | exact rfl | with_reducible assumption | (refine And.intro ?_ ?_) | (refine Exists.intro _ (And.intro rfl ?_)) | (refine Exists.intro _ (Exists.intro _ (And.intro rfl (And.intro rfl ?_)))) | (refine Or.inl ⟨rfl, rfl, ?_⟩) | (refine Or.inl ⟨rfl, ?_⟩; focus (fail_if_success (refine And.intro ?_ ?_))) | (refine Or.inl (?_ : (_ : Nat) = _ ∧ _); refine ⟨?_, ?_⟩; focus (first | (simp only [List.length_map]; done) | (simp only [List.length_map, List.length_append, List.length_cons, List.length_nil]; done))) | exact Or.inl rfl | (refine Or.inr (Or.inr ⟨?_, ?_⟩)) | (refine Or.inr ⟨?_, ?_⟩) | (refine fun h => ?_; first | exact h | exact rfl | (cases h; done)) | (refine om8 ?_; simp only [← List.map_drop, ← List.map_take]; exact rfl) | ((first | refine om1 ?_ | refine om2 ?_ | refine om3 ?_ | refine om4 ?_ | refine om5 ?_ | refine om6 ?_ | refine om7 ?_); first | (simp only [List.length_map]; done) | (simp only [List.length_map]; omega) | omega)))) ⟨sta_fr _, trivial, trivial⟩ trivial
theorem VwL_ow {hp : Hp} {nl : Nat → Bool} {sel : List Nat} (o : Ow) : VwL hp nl sel (o.row true) (o.row true) := ⟨rfl, rfl, ⟨id, rfl, rfl⟩, rfl⟩
theorem VwL_ed {hp : Hp} {nl : Nat → Bool} {sel : List Nat} (e : Hf.Edge) : VwL hp nl sel (edRow true e) (edRow true e) := ⟨rfl, rfl, ⟨id, rfl, rfl⟩, rfl, rfl⟩
theorem VwR_snoc {hp : Hp} {nl : Nat → Bool} {sel : List Nat} {α : Type} (f : α → List Sv) (hf : ∀ x, VwL hp nl sel (f x) (f x)) {r : List Sv} {y : α} (h : VwL hp nl sel r (f y)) : ∀ l : List α, VwR hp nl sel (l.map f ++ [r]) ((l ++ [y]).map f)
  | [] => ⟨h, rfl⟩
  | x :: l => ⟨hf x, VwR_snoc f hf h l⟩
theorem flat_rows {α : Type} (f : α → List Sv) (hf : ∀ x, Sv.all.allL (fun _ => false) (f x) = true) (l : List α) : (l.map f).all (Sv.all.allL fun _ => false) = true := by
  rw [List.all_eq_true]
  intro r hr
  obtain ⟨x, _, rfl⟩ := List.mem_map.1 hr
  exact hf x
theorem firstE_pcon (f g : Bool) (hs : List Int) (me : Int) : PCon Try.prog 10 [treeN, intX g hs, I me] (staR (zeroS, 2)) [] := by
  refine pcon_of (G := gm) Try.func10 rfl rfl rfl ?_
  refine W.c1 (homesN_pcon g hs) ?_
  exact RetP.zeroS
set_option maxHeartbeats 4000000 in
theorem first_pcon (g : Bool) (ps hs : List Int) (me : Int) (h : Tr1 ps) (hh : hs.length < 9223372036854775808) : PCon Try.prog 10 [treeX true ps (nearOf ps), intX g hs, I me] (staR (firstS ps hs me)) [] := by
  refine pcon_of (G := gm) Try.func10 rfl rfl rfl ?_
  have hle := h.le
  have ch := homes_pcon true g ps hs (nearOf ps) (by omega) hh
  have ct := size_pcon true ps (nearOf ps)
  have cw := swithin_pcon me 0 (ps.length - 1)
  have cn := neighAll_pcon ps me h
  have cx := fun x => next_pcon true ps (nearOf ps) me x h
  have hmb : Hf.inB me 0 (ps.length - 1) = hasB ps me := by
    unfold Hf.inB hasB; rw [Bool.eq_iff_iff]; simp; omega
  rw [hmb] at cw
  unfold firstS
  have hnl : (nbr ps me).length ≤ 32 := by unfold nbr; split; have := nearTo_le ps me.toNat ps.length; omega; simp
  cases hb : homesB ps hs with
  | false =>
    rw [hb, if_neg (by simp)] at ch
    rw [if_neg (by simp)]
    refine W.c1 ch ?_
    exact RetP.zeroS
  | true =>
    rw [hb, if_pos rfl] at ch
    cases hm : hasB ps me with
    | false =>
      rw [hm] at cw
      rw [if_neg (by simp)]
      refine W.c3 ch ct cw ?_
      exact RetP.zeroS
    | true =>
      rw [hm] at cw
      rw [if_pos ⟨rfl, rfl⟩]
      have hl8 : hs.length ≤ 8 := by
        unfold homesB Hf.inB at hb
        simp only [Bool.and_eq_true, decide_eq_true_eq] at hb
        omega
      clear hmb hm hb
      unfold firstV
      generalize nbr ps me = N at *
      refine W.c3 ch ct cw ?_
      clear ch ct cw
      refine LoopV.on (σ := Nat) rfl (fun i => [(0, treeX true ps (nearOf ps)), (2, I me), (6, .ptr 0 0 0), (9, .ptr 1 0 0), (31, intX g hs), (32, I hs.length), (33, I i)]) (fun i => [some ⟨30, 6, true, false, [[I 0, .val (.slice none 0 0), .val (.slice none 0 0), I 0, .val (.slice none 0 0), .val (.slice none 0 0)]]⟩, some ⟨30, 6, false, false, [[I me, .own 2 i, .val (.slice none 0 0), I 0, .val (.slice none 0 0), .val (.slice none 0 0)]]⟩, some (mkB 55 3 (((hs.take i).map (fo ps me)).map (Ow.row true)))]) (fun i => i ≤ hs.length) (fun i => hs.length - i) 0 (AtS.v [(55, 3)] [0, 1, 2]) (Nat.zero_le _) ?_
      intro i hi
      rcases Nat.lt_or_ge i hs.length with him | him
      · have hg := rows_get oneIt hs (Int.toNat_natCast i) him
        have cx := cx hs[i]
        have htk : ((hs.take (i + 1)).map (fo ps me)) = (hs.take i).map (fo ps me) ++ [fo ps me hs[i]] := by rw [List.take_succ_eq_append_getElem him, List.map_append]; rfl
        have hln : ((hs.take i).map (fo ps me)).length = i := by simp; omega
        clear hle hnl cn
        generalize hs[i] = x at *
        have hfo : fo ps me x = ⟨nextS ps me x, 0, if x = me then [⟨0, 3, -1, 0⟩] else []⟩ := rfl
        generalize nextS ps me x = nx' at *
        by_cases hx : x = me
        · rw [if_pos hx] at hfo
          generalize (hs.take i).map (fo ps me) = P at *
          have hlp : Fc (i = (P.map (Ow.row true)).length) := ⟨by simp [hln]⟩
          refine W.s0 ?_
          iterate 5 (refine RegV.d ?_; refine W.s2 hg cx ?_)
          refine RegV.f [4] ?_
          refine W.c1 hlp ?_
          refine nx (i + 1) (by omega) (by omega) ?_
          rw [htk, hfo]
          exact AtS.v [] [0, 1, 6] (by ((repeat' (first | exact trivial | exact rfl | with_reducible assumption | (refine And.intro ?_ ?_) | (refine Exists.intro _ (And.intro rfl ?_)) | (refine Exists.intro _ (Exists.intro _ (And.intro rfl (And.intro rfl ?_)))) | (refine Or.inl ⟨rfl, rfl, ?_⟩) | (refine Or.inl ⟨rfl, ?_⟩; focus (fail_if_success (refine And.intro ?_ ?_))) | (refine Or.inl (?_ : (_ : Nat) = _ ∧ _); refine ⟨?_, ?_⟩; focus (first | (simp only [List.length_map]; done) | (simp only [List.length_map, List.length_append, List.length_cons, List.length_nil]; done))) | exact Or.inl rfl | (refine Or.inr (Or.inr ⟨?_, ?_⟩)) | (refine Or.inr ⟨?_, ?_⟩) | (refine fun h => ?_; first | exact h | exact rfl | (cases h; done)) | (refine om8 ?_; simp only [← List.map_drop, ← List.map_take]; exact rfl) | ((first | refine om1 ?_ | refine om2 ?_ | refine om3 ?_ | refine om4 ?_ | refine om5 ?_ | refine om6 ?_ | refine om7 ?_); first | (simp only [List.length_map]; done) | (simp only [List.length_map]; omega) | omega)))); all_goals exact mapSnoc (Ow.row true) P ⟨nx', 0, [⟨0, 3, -1, 0⟩]⟩)
        · rw [if_neg hx] at hfo
          generalize (hs.take i).map (fo ps me) = P at *
          have hlp : Fc (i = (P.map (Ow.row true)).length) := ⟨by simp [hln]⟩
          refine W.c3 hg cx hlp ?_
          refine nx (i + 1) (by omega) (by omega) ?_
          rw [htk, hfo]
          refine AtS.v [] [0, 1, 5] ⟨⟨_, rfl, VwB.refl⟩, ⟨_, rfl, by ((repeat' (first | exact trivial | exact rfl | with_reducible assumption | (refine And.intro ?_ ?_) | (refine Exists.intro _ (And.intro rfl ?_)) | (refine Exists.intro _ (Exists.intro _ (And.intro rfl (And.intro rfl ?_)))) | (refine Or.inl ⟨rfl, rfl, ?_⟩) | (refine Or.inl ⟨rfl, ?_⟩; focus (fail_if_success (refine And.intro ?_ ?_))) | (refine Or.inl (?_ : (_ : Nat) = _ ∧ _); refine ⟨?_, ?_⟩; focus (first | (simp only [List.length_map]; done) | (simp only [List.length_map, List.length_append, List.length_cons, List.length_nil]; done))) | exact Or.inl rfl | (refine Or.inr (Or.inr ⟨?_, ?_⟩)) | (refine Or.inr ⟨?_, ?_⟩) | (refine fun h => ?_; first | exact h | exact rfl | (cases h; done)) | (refine om8 ?_; simp only [← List.map_drop, ← List.map_take]; exact rfl) | ((first | refine om1 ?_ | refine om2 ?_ | refine om3 ?_ | refine om4 ?_ | refine om5 ?_ | refine om6 ?_ | refine om7 ?_); first | (simp only [List.length_map]; done) | (simp only [List.length_map]; omega) | omega))))⟩, ⟨_, rfl, rfl, rfl, rfl, .inr (.inr ⟨VwR_snoc (Ow.row true) VwL_ow ?_ P, .inr (flat_rows _ (fun _ => rfl) _), ?_⟩)⟩, rfl⟩
          · exact ⟨rfl, rfl, rfl, rfl⟩
          · exact trivial
      · have e : i = hs.length := by omega
        subst e
        rw [List.take_length]
        have hgn := fun j (hj : j < N.length) => rows_get oneIt N (Int.toNat_natCast j) hj
        refine W.c1 cn ?_
        refine LoopV.on (σ := Nat) rfl (fun i => [(2, I me), (6, .ptr 0 0 0), (9, .ptr 1 0 0), (57, .own 3 N.length), (58, I N.length), (59, I i)]) (fun i => [some ⟨30, 6, true, false, [[I 0, .val (.slice none 0 0), .val (.slice none 0 0), I 0, .val (.slice none 0 0), .val (.slice none 0 0)]]⟩, some ⟨30, 6, false, false, [[I me, .own 2 hs.length, .own 4 i, I 0, .val (.slice none 0 0), .val (.slice none 0 0)]]⟩, some (mkB 55 3 ((hs.map (fo ps me)).map (Ow.row true))), some (intB N), some (mkB 60 4 (((N.take i).map fe).map (edRow true)))]) (fun i => i ≤ N.length) (fun i => N.length - i) 0 (AtS.v [(60, 4)] [0, 1, 2, 3, 4]) (Nat.zero_le _) ?_
        intro i hi
        rcases Nat.lt_or_ge i N.length with him | him
        · have hg := hgn i him
          have htk : ((N.take (i + 1)).map fe) = (N.take i).map fe ++ [fe N[i]] := by rw [List.take_succ_eq_append_getElem him, List.map_append]; rfl
          have hln : ((N.take i).map fe).length = i := by simp; omega
          have hlp : Fc (i = (((N.take i).map fe).map (edRow true)).length) := ⟨by simp; omega⟩
          clear hgn cn cx
          generalize N[i] = x at *
          have hfe : fe x = ⟨x, 0, [], 0⟩ := rfl
          generalize (N.take i).map fe = P at *
          refine W.c2 hg hlp ?_
          refine nx (i + 1) (by omega) (by omega) ?_
          rw [htk, hfe]
          refine AtS.v [] [0, 1, 2, 3, 6] ⟨⟨_, rfl, VwB.refl⟩, ⟨_, rfl, by ((repeat' (first | exact trivial | exact rfl | with_reducible assumption | (refine And.intro ?_ ?_) | (refine Exists.intro _ (And.intro rfl ?_)) | (refine Exists.intro _ (Exists.intro _ (And.intro rfl (And.intro rfl ?_)))) | (refine Or.inl ⟨rfl, rfl, ?_⟩) | (refine Or.inl ⟨rfl, ?_⟩; focus (fail_if_success (refine And.intro ?_ ?_))) | (refine Or.inl (?_ : (_ : Nat) = _ ∧ _); refine ⟨?_, ?_⟩; focus (first | (simp only [List.length_map]; done) | (simp only [List.length_map, List.length_append, List.length_cons, List.length_nil]; done))) | exact Or.inl rfl | (refine Or.inr (Or.inr ⟨?_, ?_⟩)) | (refine Or.inr ⟨?_, ?_⟩) | (refine fun h => ?_; first | exact h | exact rfl | (cases h; done)) | (refine om8 ?_; simp only [← List.map_drop, ← List.map_take]; exact rfl) | ((first | refine om1 ?_ | refine om2 ?_ | refine om3 ?_ | refine om4 ?_ | refine om5 ?_ | refine om6 ?_ | refine om7 ?_); first | (simp only [List.length_map]; done) | (simp only [List.length_map]; omega) | omega))))⟩, ⟨_, rfl, VwB.refl⟩, ⟨_, rfl, VwB.refl⟩, ⟨_, rfl, rfl, rfl, rfl, .inr (.inr ⟨VwR_snoc (edRow true) VwL_ed ?_ P, .inr (flat_rows _ (fun _ => rfl) _), trivial⟩)⟩, rfl⟩
          exact ⟨rfl, rfl, rfl, rfl, rfl⟩
        · have e : i = N.length := by omega
          subst e
          rw [List.take_length]
          clear hgn cn cx
          refine W.go ?_
          exact RetP.go [] [] (by simp) rfl ⟨⟨rfl, ⟨rfl, _, rfl, .inl ⟨by simp [mkB], rfl, .inl ⟨rfl, rfl⟩⟩⟩, ⟨rfl, _, rfl, .inl ⟨by simp [mkB], rfl, .inl ⟨rfl, rfl⟩⟩⟩, rfl, rfl, rfl, rfl⟩, rfl, rfl⟩ ⟨sta_fr _, trivial, trivial⟩ trivial
end Go.Proofs.Ytiklbnianbejdaa
