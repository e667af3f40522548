/- The reference's Good. -/
import Derived.Test.YtiklbnianbejdaaSt4
set_option linter.unusedSimpArgs false
set_option maxRecDepth 20000
set_option linter.unusedVariables false
namespace Go.Proofs.Ytiklbnianbejdaa
open Go Go.Eng Go.RowKit

set_option maxHeartbeats 8000000 in
theorem refsgood_pcon (f g : Bool) (ps : List Int) (s : Sta) (h : Tr1 ps) (hs : s.sz) : PCon Try.prog 19 [intX g ps, .agg (s.row f)] (Bo (goodS ps s)) [] := by
  refine pcon_of (G := gm) Try.func19 rfl rfl rfl ?_
  have hle := h.le
  have co := refsopen_pcon f s hs
  have hnl : (nbr ps s.me).length ≤ 32 := by unfold nbr; split; have := nearTo_le ps s.me.toNat ps.length; omega; simp
  have hgd : goodS ps s = (!(decide (s.me < 0) || decide (s.me ≥ ps.length) || decide ((s.objs.length : Int) < 1) || decide ((s.objs.length : Int) > 8)) && (s.objs.all (ownB ps s.me) && (edsB ps s && (!(decide (s.asked < 0) || decide (s.asked > 1099511627776) || decide ((s.asks.length : Int) > 4) || decide ((s.got.length : Int) > 4)) && ((List.range s.asks.length).all (askAt s.objs.length s.asked s.asks) && (s.got.all (gotB s.objs.length s.asked ps.length) && decide (opS s.objs s.objs.length ≤ 8))))))) := by
    unfold goodS frontB Hf.inB
    rw [Bool.eq_iff_iff]
    simp only [Bool.and_eq_true, Bool.not_eq_true', Bool.or_eq_false_iff, decide_eq_false_iff_not, Bool.not_eq_false', decide_eq_true_eq]
    constructor
    · rintro ⟨⟨⟨⟨⟨a1, a2⟩, a3⟩, a4⟩, a5⟩, a6, a7, a8, a9, a10⟩
      exact ⟨⟨⟨⟨by omega, by omega⟩, by omega⟩, by omega⟩, a6, a9, ⟨⟨⟨by omega, by omega⟩, by omega⟩, by omega⟩, a7, a8, a10⟩
    · rintro ⟨⟨⟨⟨a1, a2⟩, a3⟩, a4⟩, a6, a9, ⟨⟨⟨b1, b2⟩, b3⟩, b4⟩, a7, a8, a10⟩
      exact ⟨⟨⟨⟨⟨⟨by omega, by omega⟩, ⟨by omega, by omega⟩⟩, ⟨by omega, by omega⟩⟩, by omega⟩, by omega⟩, a6, a7, a8, a9, a10⟩
  rw [hgd]
  clear hgd
  obtain ⟨me, objs, edges, asked, asks, got⟩ := s
  obtain ⟨h1, h2, h3, h4, h5, h6⟩ := hs
  dsimp only at h1 h2 h3 h4 h5 h6 hnl ⊢
  have hln := (nbr ps me).length
  by_cases hfr : me < 0 ∨ me ≥ ps.length ∨ (objs.length : Int) < 1 ∨ (objs.length : Int) > 8
  · rw [show (decide (me < 0) || decide (me ≥ ps.length) || decide ((objs.length : Int) < 1) || decide ((objs.length : Int) > 8)) = true by simp only [Bool.or_eq_true, decide_eq_true_eq]; omega]
    clear h2 h4
    refine W.go ?_
    exact RetP.v rfl
  rw [show (decide (me < 0) || decide (me ≥ ps.length) || decide ((objs.length : Int) < 1) || decide ((objs.length : Int) > 8)) = false by simp only [Bool.or_eq_false_iff, decide_eq_false_iff_not]; omega]
  rw [Bool.not_false, Bool.true_and]
  have hmeb : hasB ps me = true := hasB_iff.2 (by omega)
  have cn := refneigh_pcon g ps me (by omega) hmeb
  rw [show nearTo ps me.toNat ps.length = nbr ps me by rw [nbr, if_pos hmeb]] at cn
  have hown : ∀ o : Ow, ownB ps me o = (!(!((o.arrow == me) || (nbr ps me).contains o.arrow) || decide (o.made < 0) || decide (o.made > 1099511627776) || !Ch.goodC o.cells me (o.arrow == me)) && o.cells.all (cellB' ps.length o.made)) := fun o => by
    unfold ownB
    cases hg : Ch.goodC o.cells me (o.arrow == me) with
    | false => simp
    | true =>
      rw [own_eq hg]
      have e1 : (o.arrow != me && !(nbr ps me).contains o.arrow) = !((o.arrow == me) || (nbr ps me).contains o.arrow) := by cases (nbr ps me).contains o.arrow <;> cases h : (o.arrow == me) <;> simp [bne, h]
      have e2 : (!Hf.inB o.made 0 1099511627776) = (decide (o.made < 0) || decide (o.made > 1099511627776)) := by
        unfold Hf.inB; rw [Bool.eq_iff_iff]; simp; try omega
      rw [e1, e2]
      simp only [Bool.or_assoc]
  have hedge := fun i => (rfl : edAt ps.length objs.length (nbr ps me) edges i = edB ps.length objs.length ((nbr ps me).getD i 0) (edges.getD i Hf.Edge.zero))
  unfold edsB
  dsimp only
  have hgn := fun j (hj : j < (nbr ps me).length) => int_get (nbr ps me) (n := ((j : Nat) : Int).toNat) j (Int.toNat_natCast j) hj
  generalize nbr ps me = N at *
  refine W.c1 cn ?_
  clear hfr
  refine LoopV.on (σ := Nat) rfl (fun i => [(0, intX g ps), (3, .ptr 0 0 0), (5, I ps.length), (6, I objs.length), (7, .own 1 N.length), (50, .ext f 3 (objs.map (Ow.row f))), (51, I objs.length), (52, I i)]) (fun _ => [some ⟨30, 6, false, false, [Sta.row f ⟨me, objs, edges, asked, asks, got⟩]⟩, some (intB N)]) (fun i => i ≤ objs.length ∧ ∀ j (hj : j < objs.length), j < i → ownB ps me objs[j] = true) (fun i => objs.length - i) 0 (AtS.v [] [0, 1]) ⟨Nat.zero_le _, by simp⟩ ?_
  rintro i ⟨hi, hok⟩
  rcases Nat.lt_or_ge i objs.length with him | him
  · have hg := rows_get (Ow.row f) objs (Int.toNat_natCast i) him
    have hmore := all_more him hok
    have hno := all_no (p := ownB ps me) him
    rw [hown objs[i]] at hmore hno
    have ho := h2 _ (List.getElem_mem him)
    have cg := Ch.refgood_pcon f objs[i].cells me (objs[i].arrow == me) (by omega)
    clear hok h2 hown h4 hedge
    generalize objs[i] = o at *
    obtain ⟨oa, om, oc⟩ := o
    dsimp only at *
    generalize Ch.goodC oc me (oa == me) = b3 at *
    refine W.c1 hg ?_
    refine LoopV.on (σ := Nat) rfl (fun k => [(0, intX g ps), (3, .ptr 0 0 0), (5, I ps.length), (6, I objs.length), (7, .own 1 N.length), (9, .ptr 2 0 0), (10, Bo ((oa == me) || (N.take k).contains oa)), (50, .ext f 3 (objs.map (Ow.row f))), (51, I objs.length), (52, I i), (61, .own 1 N.length), (62, I N.length), (63, I k)]) (fun _ => [some ⟨30, 6, false, false, [Sta.row f ⟨me, objs, edges, asked, asks, got⟩]⟩, some (intB N), some ⟨55, 3, true, false, [[I oa, I om, Ch.cellX f oc]]⟩]) (fun k => k ≤ N.length) (fun k => N.length - k) 0 (AtS.v [] [0, 1, 2] VwsC (by ((repeat' (first | exact trivial | exact rfl | with_reducible assumption | (refine And.intro ?_ ?_) | (refine Exists.intro _ (And.intro rfl ?_)) | (refine Exists.intro _ (Exists.intro _ (And.intro rfl (And.intro rfl ?_)))) | (refine Or.inl ⟨rfl, rfl, ?_⟩) | (refine Or.inl ⟨rfl, ?_⟩; focus (fail_if_success (refine And.intro ?_ ?_))) | (refine Or.inl (?_ : (_ : Nat) = _ ∧ _); refine ⟨?_, ?_⟩; focus (first | (simp only [List.length_map]; done) | (simp only [List.length_map, List.length_append, List.length_cons, List.length_nil]; done))) | exact Or.inl rfl | (refine Or.inr (Or.inr ⟨?_, ?_⟩)) | (refine Or.inr ⟨?_, ?_⟩) | (refine fun h => ?_; first | exact h | exact rfl | (cases h; done)) | (refine om8 ?_; simp only [← List.map_drop, ← List.map_take]; exact rfl) | ((first | refine om1 ?_ | refine om2 ?_ | refine om3 ?_ | refine om4 ?_ | refine om5 ?_ | refine om6 ?_ | refine om7 ?_); first | (simp only [List.length_map]; done) | (simp only [List.length_map]; omega) | omega)))); all_goals (simp; rfl))) (Nat.zero_le _) ?_
    intro k hk
    rcases Nat.lt_or_ge k N.length with hkm | hkm
    · have hg2 := hgn k hkm
      have ht : (N.take (k + 1)).contains oa = ((N.take k).contains oa || (oa == N.getD k 0)) := by
        rw [List.take_succ_eq_append_getElem hkm, List.contains_eq_any_beq, List.contains_eq_any_beq, List.any_append, getDo _ hkm]
        simp
      generalize N.getD k 0 = v at *
      clear hmore hno cg hgn
      by_cases hv : v = oa
      · have ht2 : ((oa == me) || (N.take (k + 1)).contains oa) = true := by rw [ht, hv]; simp
        clear ht
        refine W.c1 hg2 ?_
        refine nx (k + 1) (by omega) (by omega) ?_
        rw [ht2]
        exact AtS.v [] [0, 1, 2]
      · have ht2 : ((oa == me) || (N.take (k + 1)).contains oa) = ((oa == me) || (N.take k).contains oa) := by
          rw [ht, show (oa == v) = false by simp; omega, Bool.or_false]
        clear ht
        refine W.c1 hg2 ?_
        refine nx (k + 1) (by omega) (by omega) ?_
        rw [ht2]
        exact AtS.v [] [0, 1, 2]
    have e : k = N.length := by omega
    subst e
    rw [List.take_length]
    generalize N.contains oa = b1 at *
    clear hgn
    refine W.c1 cg ?_
    refine Br.mk (fun hb => ?_) (fun hb => ?_)
    · rw [hno (by rw [hb]; rfl)]
      clear hmore hno
      refine W.go ?_
      exact RetP.v rfl
    rw [hb, Bool.not_false, Bool.true_and] at hmore hno
    clear hb cg
    refine W.go ?_
    refine LoopV.on (σ := Nat) rfl (fun k => [(0, intX g ps), (3, .ptr 0 0 0), (5, I ps.length), (6, I objs.length), (7, .own 1 N.length), (9, .ptr 2 0 0), (50, .ext f 3 (objs.map (Ow.row f))), (51, I objs.length), (52, I i), (98, Ch.cellX f oc), (99, I oc.length), (100, I k)]) (fun _ => [some ⟨30, 6, false, false, [Sta.row f ⟨me, objs, edges, asked, asks, got⟩]⟩, some (intB N), some ⟨55, 3, true, false, [[I oa, I om, Ch.cellX f oc]]⟩]) (fun k => k ≤ oc.length ∧ ∀ j (hj : j < oc.length), j < k → cellB' ps.length om oc[j] = true) (fun k => oc.length - k) 0 (AtS.v [] [0, 1, 2]) ⟨Nat.zero_le _, by simp⟩ ?_
    rintro k ⟨hk, hokc⟩
    rcases Nat.lt_or_ge k oc.length with hkm | hkm
    · have hg := rows_get Ch.Cell.row oc (Int.toNat_natCast k) hkm
      have hm2 := all_more (p := cellB' ps.length om) hkm hokc
      have hn2 := fun e => hno (all_no (p := cellB' ps.length om) hkm e)
      have hE : cellB' ps.length om oc[k] = !(decide (oc[k].num > om) || decide (oc[k].node ≥ ps.length)) := rfl
      rw [hE] at hm2 hn2
      clear hokc hmore hno hE
      generalize oc[k] = c at *
      obtain ⟨ca, cb, cc, cd⟩ := c
      dsimp only at *
      refine W.c1 hg ?_
      refine Br.mk (fun hb => ?_) (fun hb => ?_)
      · rw [hn2 (by rw [hb]; rfl)]
        clear hm2 hn2
        refine W.go ?_
        exact RetP.v rfl
      · replace hm2 := hm2 (by rw [hb]; rfl)
        clear hn2
        refine W.go ?_
        exact nx (k + 1) (by omega) ⟨by omega, hm2⟩ (AtS.v [] [0, 1, 2])
    · replace hmore := hmore (all_yes fun j hj => hokc j hj (by omega))
      clear hokc hno
      refine W.go ?_
      exact nx (i + 1) (by omega) ⟨by omega, hmore⟩ (AtS.v [] [0, 1])
  rw [all_yes fun j hj => hok j hj (by omega)]
  have e : i = objs.length := by omega
  subst e
  clear hok h2 hown
  rw [Bool.true_and]
  by_cases hn : N.length = edges.length
  case neg =>
    rw [decide_eq_false hn]
    clear h4 hedge hgn
    refine W.go ?_
    exact RetP.v rfl
  rw [decide_eq_true hn, Bool.true_and]
  refine W.go ?_
  refine LoopV.on (σ := Nat) rfl (fun i => [(0, intX g ps), (3, .ptr 0 0 0), (5, I ps.length), (6, I objs.length), (7, .own 1 N.length), (124, .ext f 4 (edges.map (edRow f))), (125, I edges.length), (126, I i)]) (fun _ => [some ⟨30, 6, false, false, [Sta.row f ⟨me, objs, edges, asked, asks, got⟩]⟩, some (intB N)]) (fun i => i ≤ edges.length ∧ ∀ j, j < i → edAt ps.length objs.length N edges j = true) (fun i => edges.length - i) 0 (AtS.v [] [0, 1]) ⟨Nat.zero_le _, by simp⟩ ?_
  rintro i ⟨hi, hok⟩
  rcases Nat.lt_or_ge i edges.length with him | him
  · have hg := rows_get (edRow f) edges (Int.toNat_natCast i) him
    have hg2 := hgn i (by omega)
    have hmore := upto_more hok
    have hno := allr_no (p := edAt ps.length objs.length N edges) him
    clear hok
    have hE : edAt ps.length objs.length N edges i = (!(edges[i].peer != N.getD i 0 || !edges[i].good) && edges[i].out.all (meantB ps.length objs.length)) := by
      rw [edAt, getDo _ him, edB]
      rw [show decide (edges[i].peer = N.getD i 0) = !(edges[i].peer != N.getD i 0) by cases h : decide (edges[i].peer = N.getD i 0) <;> simp_all]
      cases edges[i].good <;> simp
    rw [hE] at hmore hno
    have he := h4 _ (List.getElem_mem him)
    have cg := Hf.refgood_pcon edges[i] f (by omega)
    clear hE h4 hgn hedge
    generalize edges[i] = e at *
    generalize N.getD i 0 = v at *
    generalize e.good = b2 at *
    obtain ⟨ep, eb, eo, es⟩ := e
    dsimp only at *
    refine W.c3 hg hg2 cg ?_
    refine Br.mk (fun hb => ?_) (fun hb => ?_)
    · rw [hno (by rw [hb]; rfl)]
      clear hmore hno
      refine W.go ?_
      exact RetP.v rfl
    rw [hb, Bool.not_false, Bool.true_and] at hmore hno
    clear hb cg
    refine W.go ?_
    refine LoopV.on (σ := Nat) rfl (fun k => [(0, intX g ps), (3, .ptr 0 0 0), (5, I ps.length), (6, I objs.length), (7, .own 1 N.length), (124, .ext f 4 (edges.map (edRow f))), (125, I edges.length), (126, I i), (144, .ext f 5 (eo.map Hf.Msg.row)), (145, I eo.length), (146, I k)]) (fun _ => [some ⟨30, 6, false, false, [Sta.row f ⟨me, objs, edges, asked, asks, got⟩]⟩, some (intB N)]) (fun k => k ≤ eo.length ∧ ∀ j (hj : j < eo.length), j < k → meantB ps.length objs.length eo[j] = true) (fun k => eo.length - k) 0 (AtS.v [] [0, 1]) ⟨Nat.zero_le _, by simp⟩ ?_
    rintro k ⟨hk, hokc⟩
    rcases Nat.lt_or_ge k eo.length with hkm | hkm
    · have hg := rows_get Hf.Msg.row eo (Int.toNat_natCast k) hkm
      have hm2 := all_more (p := meantB ps.length objs.length) hkm hokc
      have hn2 := fun e => hno (all_no (p := meantB ps.length objs.length) hkm e)
      have cm := refmeant_pcon ps.length objs.length eo[k]
      clear hokc hmore hno
      generalize eo[k] = m at *
      cases hb : meantB ps.length objs.length m with
      | false =>
        rw [hn2 hb]
        rw [hb] at cm
        clear hm2 hn2
        obtain ⟨ma, mb, mc, md, mf⟩ := m
        refine W.c2 hg cm ?_
        exact RetP.v rfl
      | true =>
        replace hm2 := hm2 hb
        rw [hb] at cm
        clear hn2
        obtain ⟨ma, mb, mc, md, mf⟩ := m
        refine W.c2 hg cm ?_
        exact nx (k + 1) (by omega) ⟨by omega, hm2⟩ (AtS.v [] [0, 1])
    · replace hmore := hmore (all_yes fun j hj => hokc j hj (by omega))
      clear hokc hno
      refine W.go ?_
      exact nx (i + 1) (by omega) ⟨by omega, hmore⟩ (AtS.v [] [0, 1])
  rw [allr_yes fun j hj => hok j (by omega)]
  clear hok h4 hedge hgn
  rw [Bool.true_and]
  refine W.go ?_
  refine Br.mk (fun hb => ?_) (fun hb => ?_)
  · rw [hb]
    refine W.go ?_
    exact RetP.v rfl
  rw [hb, Bool.not_false, Bool.true_and]
  clear hb
  refine W.go ?_
  refine LoopV.on (σ := Nat) rfl (fun i => [(3, .ptr 0 0 0), (5, I ps.length), (6, I objs.length), (178, .ext f 2 (asks.map Asq.row)), (179, I asks.length), (180, I i)]) (fun _ => [some ⟨30, 6, false, false, [Sta.row f ⟨me, objs, edges, asked, asks, got⟩]⟩]) (fun i => i ≤ asks.length ∧ ∀ j, j < i → askAt objs.length asked asks j = true) (fun i => asks.length - i) 0 (AtS.v [] [0]) ⟨Nat.zero_le _, by simp⟩ ?_
  rintro i ⟨hi, hok⟩
  rcases Nat.lt_or_ge i asks.length with him | him
  · have hg := rows_get Asq.row asks (Int.toNat_natCast i) him
    have hmore := upto_more hok
    have hno := allr_no (p := askAt objs.length asked asks) him
    have hpos := asks_pos hok
    have hE : askAt objs.length asked asks i = !(!Hf.inB asks[i].obj 0 (objs.length - 1) || decide (asks[i].num ≤ lastN asks i) || decide (asks[i].num > asked)) := by unfold askAt; rw [getDo _ him]
    clear hok
    have key : ∀ a : Asq, (!Hf.inB a.obj 0 (objs.length - 1) || decide (a.num ≤ lastN asks i) || decide (a.num > asked)) = (decide (a.obj < 0) || decide (a.obj ≥ objs.length) || decide (a.num < 1) || decide (a.num > asked) || (decide ((i : Int) > 0) && decide (lastN asks i ≥ a.num))) := fun a => by
      unfold Hf.inB
      rw [Bool.eq_iff_iff]
      simp only [Bool.or_eq_true, Bool.not_eq_true', Bool.and_eq_false_iff, decide_eq_false_iff_not, decide_eq_true_eq, Bool.and_eq_true]
      rcases Nat.eq_zero_or_pos i with h0 | h0
      · subst h0
        simp only [lastN]
        omega
      · have := hpos h0
        omega
    rw [hE, key] at hmore hno
    clear hE key hpos
    rcases Nat.eq_zero_or_pos i with h0 | h0
    · subst h0
      generalize asks[0] = a at *
      obtain ⟨ao, an⟩ := a
      dsimp only at *
      refine W.c1 hg ?_
      refine Br.mk (fun hb => ?_) (fun hb => ?_)
      · rw [hno (by have := congrArg not hb; exact this)]
        clear hmore hno
        refine W.go ?_
        exact RetP.v rfl
      · replace hmore := hmore (by have := congrArg not hb; exact this)
        clear hno
        refine W.go ?_
        exact nx (0 + 1) (by omega) ⟨by omega, hmore⟩ (AtS.v [] [0])
    · have hg2 := rows_get Asq.row asks (n := ((i : Int) - 1).toNat) (k := i - 1) (by omega) (by omega)
      have hl : lastN asks i = asks[i - 1].num := by
        obtain ⟨j, rfl⟩ : ∃ j, i = j + 1 := ⟨i - 1, by omega⟩
        rw [lastN, getDo _ (by omega)]
        rfl
      rw [hl] at hmore hno
      generalize asks[i] = a at *
      generalize asks[i - 1] = p at *
      clear hl
      obtain ⟨ao, an⟩ := a
      obtain ⟨po, pn⟩ := p
      dsimp only at *
      refine W.c2 hg hg2 ?_
      refine Br.mk (fun hb => ?_) (fun hb => ?_)
      · rw [hno (by have := congrArg not hb; exact this)]
        clear hmore hno
        refine W.go ?_
        exact RetP.v rfl
      · replace hmore := hmore (by have := congrArg not hb; exact this)
        clear hno
        refine W.go ?_
        exact nx (i + 1) (by omega) ⟨by omega, hmore⟩ (AtS.v [] [0])
  rw [allr_yes fun j hj => hok j (by omega)]
  clear hok
  rw [Bool.true_and]
  refine W.go ?_
  refine LoopV.on (σ := Nat) rfl (fun i => [(3, .ptr 0 0 0), (5, I ps.length), (6, I objs.length), (224, .ext f 3 (got.map Fnd.row)), (225, I got.length), (226, I i)]) (fun _ => [some ⟨30, 6, false, false, [Sta.row f ⟨me, objs, edges, asked, asks, got⟩]⟩]) (fun i => i ≤ got.length ∧ ∀ j (hj : j < got.length), j < i → gotB objs.length asked ps.length got[j] = true) (fun i => got.length - i) 0 (AtS.v [] [0]) ⟨Nat.zero_le _, by simp⟩ ?_
  rintro i ⟨hi, hok⟩
  rcases Nat.lt_or_ge i got.length with him | him
  · have hg := rows_get Fnd.row got (Int.toNat_natCast i) him
    have hmore := all_more (p := gotB objs.length asked ps.length) him hok
    have hno := all_no (p := gotB objs.length asked ps.length) him
    have hE : gotB objs.length asked ps.length got[i] = !(decide (got[i].obj < 0) || decide (got[i].obj ≥ objs.length) || decide (got[i].num < 1) || decide (got[i].num > asked) || decide (got[i].whr < 0) || decide (got[i].whr ≥ ps.length)) := by
      unfold gotB Hf.inB
      rw [Bool.eq_iff_iff]
      simp only [Bool.or_eq_false_iff, Bool.not_eq_true', Bool.not_eq_false', Bool.and_eq_true, decide_eq_false_iff_not, decide_eq_true_eq]
      omega
    rw [hE] at hmore hno
    clear hok hE
    generalize got[i] = a at *
    obtain ⟨ao, an, aw⟩ := a
    dsimp only at *
    refine W.c1 hg ?_
    refine Br.mk (fun hb => ?_) (fun hb => ?_)
    · rw [hno (by rw [hb]; rfl)]
      refine W.go ?_
      exact RetP.v rfl
    · replace hmore := hmore (by rw [hb]; rfl)
      clear hno
      refine W.go ?_
      exact nx (i + 1) (by omega) ⟨by omega, hmore⟩ (AtS.v [] [0])
  rw [all_yes fun j hj => hok j hj (by omega)]
  clear hok
  rw [Bool.true_and]
  refine W.c1 co ?_
  exact RetP.v rfl
end Go.Proofs.Ytiklbnianbejdaa
