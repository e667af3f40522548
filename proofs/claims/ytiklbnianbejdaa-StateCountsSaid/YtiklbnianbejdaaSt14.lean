/- The law StateCounts. -/
import Derived.Test.YtiklbnianbejdaaSt13
import Derived.Test.YtiklbnianbejdaaSt10
set_option linter.unusedSimpArgs false
set_option maxRecDepth 20000
set_option linter.unusedVariables false
namespace Go.Proofs.Ytiklbnianbejdaa
open Go Go.Eng Go.RowKit

theorem szH {o : Ow} {os : List Ow} {a b : Int} (h : ∀ x ∈ o :: os, x.cells.length * 32 ≤ 140737488351232) : ∀ x ∈ (⟨a, b, o.cells⟩ : Ow) :: os, x.cells.length * 32 ≤ 140737488351232 := by
  intro x hx
  rcases List.mem_cons.1 hx with rfl | hx
  · exact h o (List.mem_cons_self ..)
  · exact h x (List.mem_cons_of_mem _ hx)
theorem szE {l : List Hf.Edge} (h : ∀ x ∈ l, x.out.length * 40 ≤ 140737488351232) : ∀ x ∈ l ++ [(⟨0, 0, [], 0⟩ : Hf.Edge)], x.out.length * 40 ≤ 140737488351232 := by
  intro x hx
  rcases List.mem_append.1 hx with hx | hx
  · exact h x hx
  · rw [List.mem_singleton] at hx; subst hx; simp
set_option maxHeartbeats 8000000 in
theorem stateCounts_pcon (ps : List Int) (s : Sta) (sp : Int) (hl : ps.length < 9223372036854775808) (hs : s.sz) : PCon Try.prog 8 [intX true ps, .agg (s.row true), I sp] (Bo true) [] := by
  refine pcon_of (G := gm) Try.func8 rfl rfl rfl ?_
  by_cases h : (checkS ps).2 = 0
  case neg =>
    have hn := new_bad false ps hl h
    generalize checkS ps = r at h hn
    obtain ⟨r1, r2⟩ := r
    dsimp only at h
    obtain ⟨me, objs, edges, asked, asks, got⟩ := s
    refine W.c2 swakes_pcon hn ?_
    exact RetP.v rfl
  have ht := (tr1_iff ps).1 h
  have hle := ht.le
  have hn := new_ok false ps ht
  have c1 := sgood_pcon true ps s ht hs
  cases hg : goodS ps s with
  | false =>
    rw [hg] at c1
    obtain ⟨me, objs, edges, asked, asks, got⟩ := s
    generalize nearOf ps = L at *
    refine W.c3 swakes_pcon hn c1 ?_
    exact RetP.v rfl
  | true =>
  rw [hg] at c1
  have hgs := goodS_mk hg
  have c2 := sopen_pcon true s hs
  have hnb : FrR (intR (nbr ps s.me)) := int_fr _
  have c3 := PCon.x (neighAll_pcon ps s.me ht) (by simp) hnb
  have hop := hgs.op
  have hed := hgs.ed
  have how := hgs.ow
  have h8 := hgs.ob8
  have cg := fun s hs => sgood_pcon false ps s ht hs
  have cs := fun s' hs' => ssame_pcon false true s' s hs'
  have cc := copy_pcon s hs
  have hs2 := hs.cells
  obtain ⟨me, objs, edges, asked, asks, got⟩ := s
  dsimp only at *
  generalize opS objs objs.length = op at *
  generalize nbr ps me = N at *
  refine W.c5 swakes_pcon hn c1 c2 c3 ?_
  clear c2 c3 hop hed hn hnb
  have hgd := hg
  refine LoopV.on (σ := Nat) rfl (fun i => [(0, intX true ps), (2, I sp), (4, .ptr 0 0 0), (7, treeX true ps (nearOf ps)), (45, .ext true 3 (objs.map (Ow.row true))), (46, I objs.length), (47, I i)]) (fun _ => [some ⟨30, 6, false, false, [Sta.row true ⟨me, objs, edges, asked, asks, got⟩]⟩]) (fun i => i ≤ objs.length) (fun i => objs.length - i) 0 (AtS.v [] [0]) (Nat.zero_le _) ?_
  intro i hi
  rcases Nat.lt_or_ge i objs.length with him | him
  · have hg := rows_get (Ow.row true) objs (Int.toNat_natCast i) him
    have hb := bare_own (how _ (List.getElem_mem him))
    have hcl := hs2 _ (List.getElem_mem him)
    clear hs2 how cc cg cs c1
    generalize objs[i] = o at *
    obtain ⟨oa, om, oc⟩ := o
    dsimp only at hb hcl
    refine W.c1 hg ?_
    refine LoopV.on (σ := Nat) rfl (fun j => [(0, intX true ps), (2, I sp), (4, .ptr 0 0 0), (7, treeX true ps (nearOf ps)), (10, .ptr 1 0 0), (11, I (bareN oc j)), (45, .ext true 3 (objs.map (Ow.row true))), (46, I objs.length), (47, I i), (52, .ext true 4 (oc.map Ch.Cell.row)), (53, I oc.length), (54, I j)]) (fun _ => [some ⟨30, 6, false, false, [Sta.row true ⟨me, objs, edges, asked, asks, got⟩]⟩, some ⟨55, 3, false, false, [Ow.row true ⟨oa, om, oc⟩]⟩]) (fun j => j ≤ oc.length) (fun j => oc.length - j) 0 (AtS.v [] [0, 1]) (Nat.zero_le _) ?_
    intro j hj
    rcases Nat.lt_or_ge j oc.length with hjm | hjm
    · have hc := rows_get Ch.Cell.row oc (Int.toNat_natCast j) hjm
      have hsu := bareN_succ oc hjm
      have hle := bareN_le oc j
      clear hb
      generalize oc[j] = c at *
      generalize hx : bareN oc (j + 1) = x' at *
      generalize bareN oc j = x at *
      refine W.c1 hc ?_
      refine Br.mk (fun hb => ?_) (fun hb => ?_)
      · rw [if_pos (by simpa using hb)] at hsu
        subst hsu
        refine W.go ?_
        refine nx (j + 1) (by omega) (by omega) ?_
        rw [hx]
        exact AtS.v [] [0, 1]
      · rw [if_neg (by simpa using hb)] at hsu
        subst hsu
        refine W.go ?_
        refine nx (j + 1) (by omega) (by omega) ?_
        rw [hx]
        exact AtS.v [] [0, 1]
    · have e : j = oc.length := by omega
      subst e
      rw [hb]
      by_cases ea : oa = me
      · rw [if_pos ea]
        refine W.go ?_
        refine Br.mk (fun hc => absurd hc (by simp [ea])) (fun hc => ?_)
        refine W.go ?_
        exact nx (i + 1) (by omega) (by omega) (AtS.v [] [0])
      · rw [if_neg ea]
        refine W.go ?_
        refine Br.mk (fun hc => absurd hc (by simp [ea])) (fun hc => ?_)
        refine W.go ?_
        exact nx (i + 1) (by omega) (by omega) (AtS.v [] [0])
  have e : i = objs.length := by omega
  subst e
  clear hs2 how
  refine W.c1 cc ?_
  refine Scal.mk _ (and7_run _ sp) ?_
  obtain ⟨n, hn8, hn⟩ := and7_lt sp
  rw [hn]
  have hn : n = 0 ∨ n = 1 ∨ n = 2 ∨ n = 3 ∨ n = 4 ∨ n = 5 ∨ n = 6 ∨ n = 7 := by omega
  obtain ⟨o, os, rfl⟩ : ∃ o os, objs = o :: os := by
    cases objs with
    | nil => have := hgs.ob1; simp at this
    | cons o os => exact ⟨o, os, rfl⟩
  have hed := hgs.ed
  have hnl : (nbr ps me).length ≤ 32 := by
    unfold nbr
    split
    · have := nearTo_le ps me.toNat ps.length; omega
    · simp
  rw [hed] at hnl
  replace hnl : edges.length ≤ 32 := hnl
  have has := hgs.as1
  have has0 := hgs.as0
  have hak := hgs.ak
  have hgt := hgs.gt
  dsimp only at has has0 hak hgt
  rcases hn with rfl | rfl | rfl | rfl | rfl | rfl | rfl | rfl
  · have b : goodS ps ⟨ps.length, o :: os, edges, asked, asks, got⟩ = false := bad0 (ps := ps) (s := ⟨me, o :: os, edges, asked, asks, got⟩)
    have z : Sta.sz ⟨ps.length, o :: os, edges, asked, asks, got⟩ := ⟨hs.1, hs.2, hs.3, hs.4, hs.5, hs.6⟩
    have g1 := cg _ z
    have g2 := cs _ z
    rw [b] at g1
    rw [not_same b hgd] at g2
    clear b z
    refine W.go ?_
    refine CallV.c g1 ?_ (HL.cons H1.reft (HL.cons (H1.agg (HL.cons H1.val (HL.cons (H1.ownr rfl rfl rfl (ClR_map _ _ ClL_ow _) (flat_rows _ (fun _ => rfl) _) (by simp)) (HL.cons (H1.ownr rfl rfl rfl (ClR_map _ _ ClL_ed _) (flat_rows _ (fun _ => rfl) _) (by simp)) (HL.cons H1.val (HL.cons (H1.ownx rfl rfl rfl rfl rfl (by simp)) (HL.cons (H1.ownx rfl rfl rfl rfl rfl (by simp)) HL.nil))))))) HL.nil))
    refine W.c1 c1 ?_
    refine gds_id ?_
    refine GdS.mk (.val (.bool false)) ?_ ?_
    · conv => whnf
      intros
      exact CallV.c g2 ⟨rfl, rfl, rfl⟩ (HL.cons (H1.agg (HL.cons H1.val (HL.cons (H1.ownr rfl rfl rfl (ClR_map _ _ ClL_ow _) (flat_rows _ (fun _ => rfl) _) (by simp)) (HL.cons (H1.ownr rfl rfl rfl (ClR_map _ _ ClL_ed _) (flat_rows _ (fun _ => rfl) _) (by simp)) (HL.cons H1.val (HL.cons (H1.ownx rfl rfl rfl rfl rfl (by simp)) (HL.cons (H1.ownx rfl rfl rfl rfl rfl (by simp)) HL.nil))))))) (HL.cons (H1.agg (HL.cons H1.val (HL.cons H1.extt (HL.cons H1.extt (HL.cons H1.val (HL.cons H1.extt (HL.cons H1.extt HL.nil))))))) HL.nil))
    refine W.go ?_
    exact RetP.v rfl
  · have b : goodS ps ⟨me, [], edges, asked, asks, got⟩ = false := bad1 (ps := ps) (s := ⟨me, o :: os, edges, asked, asks, got⟩)
    have z : Sta.sz ⟨me, [], edges, asked, asks, got⟩ := ⟨by simp, nofun, hs.3, hs.4, hs.5, hs.6⟩
    have g1 := cg _ z
    have g2 := cs _ z
    rw [b] at g1
    rw [not_same b hgd] at g2
    clear b z
    refine W.go ?_
    refine CallV.c g1 ?_ (HL.cons H1.reft (HL.cons (H1.agg (HL.cons H1.val (HL.cons H1.extn (HL.cons (H1.ownr rfl rfl rfl (ClR_map _ _ ClL_ed _) (flat_rows _ (fun _ => rfl) _) (by simp)) (HL.cons H1.val (HL.cons (H1.ownx rfl rfl rfl rfl rfl (by simp)) (HL.cons (H1.ownx rfl rfl rfl rfl rfl (by simp)) HL.nil))))))) HL.nil))
    refine W.c1 c1 ?_
    refine gds_id ?_
    refine GdS.mk (.val (.bool false)) ?_ ?_
    · conv => whnf
      intros
      exact CallV.c g2 ⟨rfl, rfl, rfl⟩ (HL.cons (H1.agg (HL.cons H1.val (HL.cons H1.extn (HL.cons (H1.ownr rfl rfl rfl (ClR_map _ _ ClL_ed _) (flat_rows _ (fun _ => rfl) _) (by simp)) (HL.cons H1.val (HL.cons (H1.ownx rfl rfl rfl rfl rfl (by simp)) (HL.cons (H1.ownx rfl rfl rfl rfl rfl (by simp)) HL.nil))))))) (HL.cons (H1.agg (HL.cons H1.val (HL.cons H1.extt (HL.cons H1.extt (HL.cons H1.val (HL.cons H1.extt (HL.cons H1.extt HL.nil))))))) HL.nil))
    refine W.go ?_
    exact RetP.v rfl
  · have b : goodS ps ⟨me, ⟨-1, o.made, o.cells⟩ :: os, edges, asked, asks, got⟩ = false := bad2 (ps := ps) (s := ⟨me, o :: os, edges, asked, asks, got⟩) (os := os) (o := o) hgs
    have z : Sta.sz ⟨me, ⟨-1, o.made, o.cells⟩ :: os, edges, asked, asks, got⟩ := ⟨hs.1, (szH hs.2), hs.3, hs.4, hs.5, hs.6⟩
    have g1 := cg _ z
    have g2 := cs _ z
    rw [b] at g1
    rw [not_same b hgd] at g2
    clear b z
    refine W.go ?_
    refine CallV.c g1 ?_ (HL.cons H1.reft (HL.cons (H1.agg (HL.cons H1.val (HL.cons (H1.ownr rfl rfl rfl ⟨⟨rfl, rfl, ⟨nofun, rfl, rfl⟩, rfl⟩, ClR_map _ _ ClL_ow os⟩ (flat_rows _ (fun _ => rfl) _) (by simp)) (HL.cons (H1.ownr rfl rfl rfl (ClR_map _ _ ClL_ed _) (flat_rows _ (fun _ => rfl) _) (by simp)) (HL.cons H1.val (HL.cons (H1.ownx rfl rfl rfl rfl rfl (by simp)) (HL.cons (H1.ownx rfl rfl rfl rfl rfl (by simp)) HL.nil))))))) HL.nil))
    refine W.c1 c1 ?_
    refine gds_id ?_
    refine GdS.mk (.val (.bool false)) ?_ ?_
    · conv => whnf
      intros
      exact CallV.c g2 ⟨rfl, rfl, rfl⟩ (HL.cons (H1.agg (HL.cons H1.val (HL.cons (H1.ownr rfl rfl rfl ⟨⟨rfl, rfl, ⟨nofun, rfl, rfl⟩, rfl⟩, ClR_map _ _ ClL_ow os⟩ (flat_rows _ (fun _ => rfl) _) (by simp)) (HL.cons (H1.ownr rfl rfl rfl (ClR_map _ _ ClL_ed _) (flat_rows _ (fun _ => rfl) _) (by simp)) (HL.cons H1.val (HL.cons (H1.ownx rfl rfl rfl rfl rfl (by simp)) (HL.cons (H1.ownx rfl rfl rfl rfl rfl (by simp)) HL.nil))))))) (HL.cons (H1.agg (HL.cons H1.val (HL.cons H1.extt (HL.cons H1.extt (HL.cons H1.val (HL.cons H1.extt (HL.cons H1.extt HL.nil))))))) HL.nil))
    refine W.go ?_
    exact RetP.v rfl
  · have b : goodS ps ⟨me, ⟨o.arrow, 1099511627777, o.cells⟩ :: os, edges, asked, asks, got⟩ = false := bad3 (ps := ps) (s := ⟨me, o :: os, edges, asked, asks, got⟩) (os := os) (o := o)
    have z : Sta.sz ⟨me, ⟨o.arrow, 1099511627777, o.cells⟩ :: os, edges, asked, asks, got⟩ := ⟨hs.1, (szH hs.2), hs.3, hs.4, hs.5, hs.6⟩
    have g1 := cg _ z
    have g2 := cs _ z
    rw [b] at g1
    rw [not_same b hgd] at g2
    clear b z
    refine W.go ?_
    refine CallV.c g1 ?_ (HL.cons H1.reft (HL.cons (H1.agg (HL.cons H1.val (HL.cons (H1.ownr rfl rfl rfl ⟨⟨rfl, rfl, ⟨nofun, rfl, rfl⟩, rfl⟩, ClR_map _ _ ClL_ow os⟩ (flat_rows _ (fun _ => rfl) _) (by simp)) (HL.cons (H1.ownr rfl rfl rfl (ClR_map _ _ ClL_ed _) (flat_rows _ (fun _ => rfl) _) (by simp)) (HL.cons H1.val (HL.cons (H1.ownx rfl rfl rfl rfl rfl (by simp)) (HL.cons (H1.ownx rfl rfl rfl rfl rfl (by simp)) HL.nil))))))) HL.nil))
    refine W.c1 c1 ?_
    refine gds_id ?_
    refine GdS.mk (.val (.bool false)) ?_ ?_
    · conv => whnf
      intros
      exact CallV.c g2 ⟨rfl, rfl, rfl⟩ (HL.cons (H1.agg (HL.cons H1.val (HL.cons (H1.ownr rfl rfl rfl ⟨⟨rfl, rfl, ⟨nofun, rfl, rfl⟩, rfl⟩, ClR_map _ _ ClL_ow os⟩ (flat_rows _ (fun _ => rfl) _) (by simp)) (HL.cons (H1.ownr rfl rfl rfl (ClR_map _ _ ClL_ed _) (flat_rows _ (fun _ => rfl) _) (by simp)) (HL.cons H1.val (HL.cons (H1.ownx rfl rfl rfl rfl rfl (by simp)) (HL.cons (H1.ownx rfl rfl rfl rfl rfl (by simp)) HL.nil))))))) (HL.cons (H1.agg (HL.cons H1.val (HL.cons H1.extt (HL.cons H1.extt (HL.cons H1.val (HL.cons H1.extt (HL.cons H1.extt HL.nil))))))) HL.nil))
    refine W.go ?_
    exact RetP.v rfl
  · have b : goodS ps ⟨me, o :: os, edges, -1, asks, got⟩ = false := bad4 (ps := ps) (s := ⟨me, o :: os, edges, asked, asks, got⟩)
    have z : Sta.sz ⟨me, o :: os, edges, -1, asks, got⟩ := ⟨hs.1, hs.2, hs.3, hs.4, hs.5, hs.6⟩
    have g1 := cg _ z
    have g2 := cs _ z
    rw [b] at g1
    rw [not_same b hgd] at g2
    clear b z
    refine W.go ?_
    refine CallV.c g1 ?_ (HL.cons H1.reft (HL.cons (H1.agg (HL.cons H1.val (HL.cons (H1.ownr rfl rfl rfl (ClR_map _ _ ClL_ow _) (flat_rows _ (fun _ => rfl) _) (by simp)) (HL.cons (H1.ownr rfl rfl rfl (ClR_map _ _ ClL_ed _) (flat_rows _ (fun _ => rfl) _) (by simp)) (HL.cons H1.val (HL.cons (H1.ownx rfl rfl rfl rfl rfl (by simp)) (HL.cons (H1.ownx rfl rfl rfl rfl rfl (by simp)) HL.nil))))))) HL.nil))
    refine W.c1 c1 ?_
    refine gds_id ?_
    refine GdS.mk (.val (.bool false)) ?_ ?_
    · conv => whnf
      intros
      exact CallV.c g2 ⟨rfl, rfl, rfl⟩ (HL.cons (H1.agg (HL.cons H1.val (HL.cons (H1.ownr rfl rfl rfl (ClR_map _ _ ClL_ow _) (flat_rows _ (fun _ => rfl) _) (by simp)) (HL.cons (H1.ownr rfl rfl rfl (ClR_map _ _ ClL_ed _) (flat_rows _ (fun _ => rfl) _) (by simp)) (HL.cons H1.val (HL.cons (H1.ownx rfl rfl rfl rfl rfl (by simp)) (HL.cons (H1.ownx rfl rfl rfl rfl rfl (by simp)) HL.nil))))))) (HL.cons (H1.agg (HL.cons H1.val (HL.cons H1.extt (HL.cons H1.extt (HL.cons H1.val (HL.cons H1.extt (HL.cons H1.extt HL.nil))))))) HL.nil))
    refine W.go ?_
    exact RetP.v rfl
  · have b : goodS ps ⟨me, o :: os, edges ++ [⟨0, 0, [], 0⟩], asked, asks, got⟩ = false := bad5 (ps := ps) (s := ⟨me, o :: os, edges, asked, asks, got⟩) hgs
    have z : Sta.sz ⟨me, o :: os, edges ++ [⟨0, 0, [], 0⟩], asked, asks, got⟩ := ⟨hs.1, hs.2, by simp; omega, szE hs.4, hs.5, hs.6⟩
    have g1 := cg _ z
    have g2 := cs _ z
    rw [b] at g1
    rw [not_same b hgd] at g2
    clear b z
    refine W.go ?_
    refine CallV.c g1 ?_ (HL.cons H1.reft (HL.cons (H1.agg (HL.cons H1.val (HL.cons (H1.ownr rfl rfl rfl (ClR_map _ _ ClL_ow _) (flat_rows _ (fun _ => rfl) _) (by simp)) (HL.cons (H1.ownr rfl rfl rfl (ClR_snoc (edRow true) (edRow false) ClL_ed (y := ⟨0, 0, [], 0⟩) (by exact ⟨rfl, rfl, rfl, rfl, rfl⟩) edges) (flat_rows _ (fun _ => rfl) _) (by simp)) (HL.cons H1.val (HL.cons (H1.ownx rfl rfl rfl rfl rfl (by simp)) (HL.cons (H1.ownx rfl rfl rfl rfl rfl (by simp)) HL.nil))))))) HL.nil))
    refine W.c1 c1 ?_
    refine gds_id ?_
    refine GdS.mk (.val (.bool false)) ?_ ?_
    · conv => whnf
      intros
      exact CallV.c g2 ⟨rfl, rfl, rfl⟩ (HL.cons (H1.agg (HL.cons H1.val (HL.cons (H1.ownr rfl rfl rfl (ClR_map _ _ ClL_ow _) (flat_rows _ (fun _ => rfl) _) (by simp)) (HL.cons (H1.ownr rfl rfl rfl (ClR_snoc (edRow true) (edRow false) ClL_ed (y := ⟨0, 0, [], 0⟩) (by exact ⟨rfl, rfl, rfl, rfl, rfl⟩) edges) (flat_rows _ (fun _ => rfl) _) (by simp)) (HL.cons H1.val (HL.cons (H1.ownx rfl rfl rfl rfl rfl (by simp)) (HL.cons (H1.ownx rfl rfl rfl rfl rfl (by simp)) HL.nil))))))) (HL.cons (H1.agg (HL.cons H1.val (HL.cons H1.extt (HL.cons H1.extt (HL.cons H1.val (HL.cons H1.extt (HL.cons H1.extt HL.nil))))))) HL.nil))
    refine W.go ?_
    exact RetP.v rfl
  · have b : goodS ps ⟨me, o :: os, edges, asked, asks, got ++ [⟨0, asked + 1, 0⟩]⟩ = false := bad6 (ps := ps) (s := ⟨me, o :: os, edges, asked, asks, got⟩)
    have z : Sta.sz ⟨me, o :: os, edges, asked, asks, got ++ [⟨0, asked + 1, 0⟩]⟩ := ⟨hs.1, hs.2, hs.3, hs.4, hs.5, by simp; omega⟩
    have g1 := cg _ z
    have g2 := cs _ z
    rw [b] at g1
    rw [not_same b hgd] at g2
    clear b z
    refine W.go ?_
    refine CallV.c g1 ?_ (HL.cons H1.reft (HL.cons (H1.agg (HL.cons H1.val (HL.cons (H1.ownr rfl rfl rfl (ClR_map _ _ ClL_ow _) (flat_rows _ (fun _ => rfl) _) (by simp)) (HL.cons (H1.ownr rfl rfl rfl (ClR_map _ _ ClL_ed _) (flat_rows _ (fun _ => rfl) _) (by simp)) (HL.cons H1.val (HL.cons (H1.ownx rfl rfl rfl rfl rfl (by simp)) (HL.cons (H1.ownr rfl rfl rfl (ClR_snoc Fnd.row Fnd.row (by exact fun _ => ⟨rfl, rfl, rfl, rfl⟩) (y := ⟨0, asked + 1, 0⟩) (by refine ⟨rfl, ?_, rfl, rfl⟩; simp only [Cl]; first | rfl | exact congrArg (fun x => Sv.val (.int .i64 x)) (by first | rfl | omega | (unfold IntKind.wrap; simp [IntKind.bits]; omega))) got) (flat_rows _ (fun _ => rfl) _) (by simp)) HL.nil))))))) HL.nil))
    refine W.c1 c1 ?_
    refine gds_id ?_
    refine GdS.mk (.val (.bool false)) ?_ ?_
    · conv => whnf
      intros
      exact CallV.c g2 ⟨rfl, rfl, rfl⟩ (HL.cons (H1.agg (HL.cons H1.val (HL.cons (H1.ownr rfl rfl rfl (ClR_map _ _ ClL_ow _) (flat_rows _ (fun _ => rfl) _) (by simp)) (HL.cons (H1.ownr rfl rfl rfl (ClR_map _ _ ClL_ed _) (flat_rows _ (fun _ => rfl) _) (by simp)) (HL.cons H1.val (HL.cons (H1.ownx rfl rfl rfl rfl rfl (by simp)) (HL.cons (H1.ownr rfl rfl rfl (ClR_snoc Fnd.row Fnd.row (by exact fun _ => ⟨rfl, rfl, rfl, rfl⟩) (y := ⟨0, asked + 1, 0⟩) (by refine ⟨rfl, ?_, rfl, rfl⟩; simp only [Cl]; first | rfl | exact congrArg (fun x => Sv.val (.int .i64 x)) (by first | rfl | omega | (unfold IntKind.wrap; simp [IntKind.bits]; omega))) got) (flat_rows _ (fun _ => rfl) _) (by simp)) HL.nil))))))) (HL.cons (H1.agg (HL.cons H1.val (HL.cons H1.extt (HL.cons H1.extt (HL.cons H1.val (HL.cons H1.extt (HL.cons H1.extt HL.nil))))))) HL.nil))
    refine W.go ?_
    exact RetP.v rfl
  · have b : goodS ps ⟨me, o :: os, edges, asked, asks ++ [⟨0, 0⟩], got⟩ = false := bad7 (ps := ps) (s := ⟨me, o :: os, edges, asked, asks, got⟩) hgs
    have z : Sta.sz ⟨me, o :: os, edges, asked, asks ++ [⟨0, 0⟩], got⟩ := ⟨hs.1, hs.2, hs.3, hs.4, by simp; omega, hs.6⟩
    have g1 := cg _ z
    have g2 := cs _ z
    rw [b] at g1
    rw [not_same b hgd] at g2
    clear b z
    refine W.go ?_
    refine CallV.c g1 ?_ (HL.cons H1.reft (HL.cons (H1.agg (HL.cons H1.val (HL.cons (H1.ownr rfl rfl rfl (ClR_map _ _ ClL_ow _) (flat_rows _ (fun _ => rfl) _) (by simp)) (HL.cons (H1.ownr rfl rfl rfl (ClR_map _ _ ClL_ed _) (flat_rows _ (fun _ => rfl) _) (by simp)) (HL.cons H1.val (HL.cons (H1.ownr rfl rfl rfl (ClR_snoc Asq.row Asq.row (by exact fun _ => ⟨rfl, rfl, rfl⟩) (y := ⟨0, 0⟩) (by exact ⟨rfl, rfl, rfl⟩) asks) (flat_rows _ (fun _ => rfl) _) (by simp)) (HL.cons (H1.ownx rfl rfl rfl rfl rfl (by simp)) HL.nil))))))) HL.nil))
    refine W.c1 c1 ?_
    refine gds_id ?_
    refine GdS.mk (.val (.bool false)) ?_ ?_
    · conv => whnf
      intros
      exact CallV.c g2 ⟨rfl, rfl, rfl⟩ (HL.cons (H1.agg (HL.cons H1.val (HL.cons (H1.ownr rfl rfl rfl (ClR_map _ _ ClL_ow _) (flat_rows _ (fun _ => rfl) _) (by simp)) (HL.cons (H1.ownr rfl rfl rfl (ClR_map _ _ ClL_ed _) (flat_rows _ (fun _ => rfl) _) (by simp)) (HL.cons H1.val (HL.cons (H1.ownr rfl rfl rfl (ClR_snoc Asq.row Asq.row (by exact fun _ => ⟨rfl, rfl, rfl⟩) (y := ⟨0, 0⟩) (by exact ⟨rfl, rfl, rfl⟩) asks) (flat_rows _ (fun _ => rfl) _) (by simp)) (HL.cons (H1.ownx rfl rfl rfl rfl rfl (by simp)) HL.nil))))))) (HL.cons (H1.agg (HL.cons H1.val (HL.cons H1.extt (HL.cons H1.extt (HL.cons H1.val (HL.cons H1.extt (HL.cons H1.extt HL.nil))))))) HL.nil))
    refine W.go ?_
    exact RetP.v rfl
end Go.Proofs.Ytiklbnianbejdaa
