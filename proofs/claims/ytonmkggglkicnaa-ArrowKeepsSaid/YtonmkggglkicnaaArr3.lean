/- arrow: Quiet and Run. -/
import Derived.Test.YtonmkggglkicnaaArr2
set_option linter.unusedSimpArgs false
set_option maxRecDepth 20000
set_option linter.unusedVariables false
namespace Go.Proofs.Ytonmkggglkicnaa
open Go Go.Eng Go.RowKit

theorem legB_iff {ps aw : List Int} : legB ps aw = true ↔ aw.length = ps.length ∧ ∀ v, v < ps.length → legAt ps aw v = true := by
  unfold legB
  simp only [Bool.and_eq_true, decide_eq_true_eq, List.all_eq_true, List.mem_range]
theorem quB_leg {ps aw : List Int} (h : legB ps aw = false) : quB ps aw = false := by unfold quB; rw [h]; rfl
theorem quB_snk {ps aw : List Int} (h : (snk aw aw.length).length ≠ 1) : quB ps aw = false := by unfold quB; simp [h]
theorem quB_ed {ps aw : List Int} {u v : Nat} (hv : v < ps.length) (huv : u < v) (hn : isNear ps u v = true) (h : oneB aw u v = false) : quB ps aw = false := by
  rw [Bool.eq_false_iff]
  intro hq
  rw [(quB_iff.1 hq).ed u v hv huv hn] at h
  cases h
theorem quB_yes {ps aw : List Int} (h : legB ps aw = true) (h1 : (snk aw aw.length).length = 1) (h2 : ∀ u v : Nat, v < ps.length → u < v → isNear ps u v = true → oneB aw u v = true) : quB ps aw = true :=
  quB_iff.2 ⟨(legB_iff.1 h).1, (legB_iff.1 h).2, h1, h2⟩
theorem one_no {aw : List Int} {u v : Nat} (h : oneB aw u v = false) : ((aw.getD u 0 == (v : Int)) == (aw.getD v 0 == (u : Int))) = true := by simpa only [oneB, Bool.not_eq_false'] using h
theorem one_yes {aw : List Int} {u v : Nat} (h : oneB aw u v = true) : ((aw.getD u 0 == (v : Int)) == (aw.getD v 0 == (u : Int))) = false := by simpa only [oneB, Bool.not_eq_true'] using h
theorem quietN_pcon (f : Bool) (aw : List Int) : PCon Try.prog 20 [treeN, intX f aw] (Bo false) [] := by
  refine pcon_of (G := gm) Try.func20 rfl rfl rfl ?_
  refine W.d1 (legalN_pcon f aw) ?_
  exact RetP.v rfl
set_option maxHeartbeats 1000000 in
theorem quiet_pcon (g : Bool) (ps aw : List Int) (h : Tr1 ps) (ha : aw.length * 8 ≤ 140737488351232) : PCon Try.prog 20 [treeX true ps (nearOf ps), intX g aw] (Bo (quB ps aw)) [] := by
  refine pcon_of (G := gm) Try.func20 rfl rfl rfl ?_
  have hle := h.le
  have cl := legal_pcon true g ps aw h (by omega)
  have cs := sinks_pcon g aw ha
  cases hl : legB ps aw with
  | false =>
    rw [quB_leg hl]
    rw [hl] at cl
    refine W.d1 cl ?_
    exact RetP.v rfl
  | true =>
    rw [hl] at cl
    by_cases h1 : (snk aw aw.length).length = 1
    case neg =>
      rw [quB_snk h1]
      generalize snk aw aw.length = S at *
      refine W.d2 cl cs ?_
      exact RetP.v rfl
    have hq := quB_yes hl h1
    have hbad := fun u v => quB_ed (ps := ps) (aw := aw) (u := u) (v := v)
    have hlen := (legB_iff.1 hl).1
    have hi1 := edges1_icon true ps (nearOf ps) (by rw [nearOf_length]; omega) (fun i => by
      rcases Nat.lt_or_ge i ps.length with hi | hi
      · rw [h.p.near_list hi]; have := nearTo_le ps i ps.length; omega
      · rw [List.getD_eq_getElem?_getD, List.getElem?_eq_none (by rw [nearOf_length]; exact hi)]; simp)
    rw [← h.eL_eq] at hi1
    have hat := fun p => eL_at (ps := ps) (p := p)
    have hmem := fun u v => eL_mem (ps := ps) (u := u) (v := v)
    generalize eL ps ps.length = E at *
    generalize snk aw aw.length = S at *
    refine W.d3 cl cs (edges_pcon ps (nearOf ps)) ?_
    refine RangeV.on rfl E pairIt 2 43 [.ref true [treeX true ps (nearOf ps)]] [(3, .ptr 0 0 0), (4, .ptr 1 0 0), (18, .clo 43 [.ref true [treeX true ps (nearOf ps)]])]
      (fun _ : Unit => [some ⟨26, 1, false, false, [[intX g aw]]⟩, some ⟨4, 1, true, false, [[Bo false]]⟩])
      (fun j _ => ∀ k (hk : k < E.length), k < j → oneB aw E[k].1.toNat E[k].2.toNat = true) () hi1 (AtS.v [] [0, 1]) (by simp) rfl rfl (fun x => ⟨rfl, rfl⟩) (Nat.zero_le _) rfl (fun _ => rfl) ?_ ?_
    · rintro j hj _ hok
      obtain ⟨u, v, e, huv, hv, hn⟩ := hat _ (List.getElem_mem hj)
      have hok2 : oneB aw u v = true → ∀ k (hk : k < E.length), k < j + 1 → oneB aw E[k].1.toNat E[k].2.toNat = true := fun ho k hk hkj => by
        rcases Nat.lt_or_ge k j with h2 | h2
        · exact hok k hk h2
        · have : k = j := by omega
          subst this
          rw [e]
          exact ho
      have hbad := hbad u v hv huv hn
      have g1 := int_get aw u (Int.toNat_natCast u) (by omega)
      have g2 := int_get aw v (Int.toNat_natCast v) (by omega)
      unfold pairIt
      rw [e]
      clear hok hat hmem hq
      cases ho : oneB aw u v with
      | true =>
        have hok2 := hok2 ho
        have hb := one_yes ho
        clear ho hbad
        generalize aw.getD u 0 = x at *
        generalize aw.getD v 0 = y at *
        refine W.c2 g1 g2 ?_
        exact nxr () hok2 (AtS.v [] [0, 1])
      | false =>
        have hb := one_no ho
        rw [hbad ho]
        clear ho hok2
        generalize aw.getD u 0 = x at *
        generalize aw.getD v 0 = y at *
        refine W.c2 g1 g2 ?_
        exact RetP.v rfl
    · intro _ hok
      rw [hq fun u v hv huv hn => by
        obtain ⟨k, hk, e⟩ := List.mem_iff_getElem.1 (hmem u v (by omega) hv huv hn)
        have := hok k hk hk
        rw [e] at this
        exact this]
      refine W.go ?_
      exact RetP.v rfl
/-- An own list and a number. -/
theorem RetP.ownI {hp : Hp} {k n e wd : Nat} {a : Int} {gr : Bool} {rows : List (List Sv)} (h : hpGet hp k = some ⟨e, wd, true, gr, rows⟩) (hf : FrR rows) : RetP hp (.tup [.own k n, I a]) (.tup [.own 0 n, I a]) [⟨e, wd, true, gr, rows⟩] :=
  RetP.go [] [k] (by simp) ⟨⟨_, hpGet_app h _, VwB.refl⟩, rfl⟩ ⟨⟨rfl, rfl⟩, rfl, rfl⟩ ⟨trivial, trivial, trivial⟩ ⟨hf, trivial⟩
theorem RetP.nilI {hp : Hp} {e wd : Nat} {a : Int} : RetP hp (.tup [.val (.slice none 0 0), I a]) (.tup [.own 0 0, I a]) [⟨e, wd, true, true, []⟩] :=
  RetP.go [(e, wd)] [hp.length] (by simp) ⟨⟨_, hpGet_new, VwB.refl⟩, rfl⟩ ⟨⟨⟨_, rfl, nlB_new _⟩, rfl⟩, rfl, rfl⟩ ⟨trivial, trivial, trivial⟩ ⟨by simp [Sv.Fr.goR], trivial⟩
theorem run_bad (g : Bool) (ps aw : List Int) (fr : Int) (h : Tr1 ps) (ha : aw.length * 8 ≤ 140737488351232) (hn : quB ps aw = false ∨ fr < 0 ∨ aw.length ≤ fr) : PCon Try.prog 14 [treeX true ps (nearOf ps), intX g aw, I fr] (.tup [.own 0 0, I (-1)]) [intB []] := by
  refine pcon_of (G := gm) Try.func14 rfl rfl rfl ?_
  have cq := quiet_pcon g ps aw h ha
  generalize quB ps aw = q at *
  cases q with
  | false =>
    refine W.c1 cq ?_
    exact RetP.nilI
  | true =>
    have hn := hn.resolve_left (by simp)
    refine W.c1 cq ?_
    exact RetP.nilI
/-- The stops of a find, one by one. -/
theorem TrP.stops {ps : List Int} (h : TrP ps) {f s : Nat} (hf : f < ps.length) (hs : s < ps.length) : ∃ y : Nat → Nat, y 0 = f ∧ y (dst ps f s) = s ∧ (∀ j, j ≤ dst ps f s → y j < ps.length ∧ (arr ps f s j).getD (y j) 0 = nextS ps (y j) s ∧ (arr ps f s j).set (y j) (nextS ps (y j) f) = arr ps f s (j + 1)) ∧
    (∀ j, j < dst ps f s → nextS ps (y j) s = y (j + 1) ∧ nextS ps (y (j + 1)) f = y j ∧ y j ≠ y (j + 1)) := by
  have hl := h.wy_len hf hs
  have hg : ∀ j (hj : j < (wy ps f s).length), (wy ps f s).getD j 0 = (wy ps f s)[j] := fun j hj => getD_get hj
  refine ⟨fun j => (wy ps f s).getD j 0, ?_, ?_, fun j hj => ?_, fun j hj => ?_⟩
  · dsimp only
    rw [hg 0 (by omega), h.wy_head hf hs]
  · dsimp only
    rw [hg _ (by omega), h.wy_last hf hs]
  · dsimp only
    rw [hg j (by omega)]
    exact ⟨(h.wy_at hs j f hf (by omega)).2.2, h.arr_at hf hs (by omega), arr_set ps f s (by omega)⟩
  · dsimp only
    rw [hg j (by omega), hg (j + 1) (by omega)]
    obtain ⟨a1, a2, a3, a4⟩ := (h.way_next hf hs (j := j) (by omega)).2 (by omega)
    exact ⟨a2, a3, a4⟩
set_option maxHeartbeats 1000000 in
theorem run_ok (g : Bool) {ps : List Int} (h : Tr1 ps) {f s : Nat} (hf : f < ps.length) (hs : s < ps.length) : PCon Try.prog 14 [treeX true ps (nearOf ps), intX g (tw ps s), I f] (.tup [.own 0 ps.length, I s]) [intB (tw ps f)] := by
  refine pcon_of (G := gm) Try.func14 rfl rfl rfl ?_
  have hle := h.le
  have htl := tw_len ps s
  have cq := quiet_pcon g ps (tw ps s) h (by omega)
  rw [quB_iff.2 (h.p.tw_qu hs)] at cq
  have cc := clone_pcon g (tw ps s) (by omega)
  rw [htl] at cc
  obtain ⟨y, y0, y1, hat, hnx⟩ := h.p.stops hf hs
  have hend := h.p.arr_end hf hs
  have ha0 := arr_zero ps f s
  rw [← ha0] at cq cc htl ⊢
  have hal := arr_len ps f s
  have hff := nextS_self hf
  have hss := nextS_self hs
  generalize hB : arr ps f s = B at *
  have htf := tw_len ps f
  refine W.c2 cq cc ?_
  refine LoopV.on (σ := Nat) rfl (fun j => [(8, .own 0 ps.length), (9, I (y j)), (10, I (nextS ps (y j) f))]) (fun j => [some (intB (B j))]) (fun j => j ≤ dst ps f s) (fun j => dst ps f s - j) 0 (by rw [y0, hff]; exact AtS.v [] [0]) (Nat.zero_le _) ?_
  intro j hj
  obtain ⟨b1, b2, b3⟩ := hat j hj
  have hg := int_get (B j) (y j) (Int.toNat_natCast (y j)) (by rw [hal]; exact b1)
  rw [b2] at hg
  have hset := int_set (B j) (y j) (nextS ps (y j) f)
  rw [b3] at hset
  have hlj := hal j
  rcases Nat.lt_or_ge j (dst ps f s) with hjd | hjd
  · obtain ⟨n1, n2, n3⟩ := hnx j hjd
    rw [n1] at hg
    have cst := step_pcon (y j) (y (j + 1)) (nextS ps (y j) f)
    rw [if_neg (by omega)] at cst
    clear hat hnx hal b3
    generalize nextS ps (y j) f = bk at *
    refine W.c2 hg cst ?_
    refine nx (j + 1) (by omega) (by omega) ?_
    rw [n2]
    exact AtS.v [] [0]
  · have e : j = dst ps f s := by omega
    subst e
    rw [y1] at hg hset b1 ⊢
    rw [hss] at hg
    have cst := step_pcon s s (nextS ps s f)
    rw [if_pos rfl] at cst
    rw [hend] at hset
    clear hat hnx hal b3
    generalize nextS ps s f = bk at *
    refine W.c2 hg cst ?_
    rw [show ((s : Nat) : Int).toNat = s from rfl, hset]
    exact RetP.ownI rfl (int_fr _)
end Go.Proofs.Ytonmkggglkicnaa
