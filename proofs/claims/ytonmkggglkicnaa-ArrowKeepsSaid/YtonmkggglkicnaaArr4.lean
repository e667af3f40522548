/- The reference's Toward, Legal, Quiet and Run; what all laws of arrows begin with. -/
import Derived.Test.YtonmkggglkicnaaArr3
set_option linter.unusedSimpArgs false
set_option maxRecDepth 20000
set_option linter.unusedVariables false
namespace Go.Proofs.Ytonmkggglkicnaa
open Go Go.Eng Go.RowKit

set_option maxHeartbeats 1000000 in
theorem reftoward_pcon (f : Bool) (ps : List Int) (home : Int) (h : Tr1 ps) : PCon Try.prog 22 [intX f ps, I home] (.own 0 (towI ps home ps.length).length) [intB (towI ps home ps.length)] := by
  refine pcon_of (G := gm) Try.func22 rfl rfl rfl ?_
  have hle := h.le
  cases hb : hasB ps home with
  | false =>
    rw [towI_no hb]
    have hv : ¬(0 ≤ home ∧ home < ps.length) := fun h2 => by rw [hasB_iff.2 h2] at hb; cases hb
    refine W.go ?_
    exact RetP.nil
  | true =>
    have hv := hasB_iff.1 hb
    have cn := fun s => refnext_pcon f ps s home h
    refine W.go ?_
    refine LoopV.on (σ := Nat) rfl (fun i => [(0, intX f ps), (1, I home), (5, .own 0 (towI ps home i).length), (17, I ps.length), (18, I i)]) (fun i => [some (intB (towI ps home i))]) (fun i => i ≤ ps.length) (fun i => ps.length - i) 0 (by rw [towI_zero]; exact AtS.v [(3, 1)] [0]) (Nat.zero_le _) ?_
    intro i hi
    have hl := towI_len ps home i
    rcases Nat.lt_or_ge i ps.length with him | him
    · have c1 := cn i
      have hs := towI_yes hb i
      generalize towI ps home i = T at *
      generalize nextS ps i home = x at *
      refine W.c1 c1 ?_
      refine nx (i + 1) (by omega) (by omega) ?_
      rw [hs, List.length_append]
      exact AtS.v [] [2]
    · have e : i = ps.length := by omega
      subst e
      refine W.go ?_
      exact RetP.own rfl (int_fr _)
set_option maxHeartbeats 1000000 in
theorem reftowardX_pcon (f : Bool) (ps : List Int) (home : Int) (h : Tr1 ps) : PCon Try.prog 22 [intX f ps, I home] (intX true (towI ps home ps.length)) [] := by
  refine pcon_of (G := gm) Try.func22 rfl rfl rfl ?_
  have hle := h.le
  cases hb : hasB ps home with
  | false =>
    rw [towI_no hb]
    have hv : ¬(0 ≤ home ∧ home < ps.length) := fun h2 => by rw [hasB_iff.2 h2] at hb; cases hb
    refine W.go ?_
    exact RetP.nilX
  | true =>
    have hv := hasB_iff.1 hb
    have cn := fun s => refnext_pcon f ps s home h
    refine W.go ?_
    refine LoopV.on (σ := Nat) rfl (fun i => [(0, intX f ps), (1, I home), (5, .own 0 (towI ps home i).length), (17, I ps.length), (18, I i)]) (fun i => [some (intB (towI ps home i))]) (fun i => i ≤ ps.length) (fun i => ps.length - i) 0 (by rw [towI_zero]; exact AtS.v [(3, 1)] [0]) (Nat.zero_le _) ?_
    intro i hi
    have hl := towI_len ps home i
    rcases Nat.lt_or_ge i ps.length with him | him
    · have c1 := cn i
      have hs := towI_yes hb i
      generalize towI ps home i = T at *
      generalize nextS ps i home = x at *
      refine W.c1 c1 ?_
      refine nx (i + 1) (by omega) (by omega) ?_
      rw [hs, List.length_append]
      exact AtS.v [] [2]
    · have e : i = ps.length := by omega
      subst e
      refine W.go ?_
      exact RetP.ownX _ rfl rfl
theorem legAt_in {ps aw : List Int} {v : Nat} (h : legAt ps aw v = true) (hv : v < ps.length) : 0 ≤ aw.getD v 0 ∧ aw.getD v 0 < ps.length := by
  rcases legAt_iff.1 h with e | ⟨u, e, hu, _⟩ <;> omega
theorem legAt_near {ps aw : List Int} {v u : Nat} (e : aw.getD v 0 = (u : Int)) (hu : u < ps.length) (hne : u ≠ v) : legAt ps aw v = isNear ps v u := by
  rw [Bool.eq_iff_iff, legAt_iff]
  constructor
  · rintro (h | ⟨w, h, hw, hn⟩)
    · omega
    · rw [show u = w by omega]; exact near_sym hn
  · intro h
    exact .inr ⟨u, e, hu, near_sym h⟩
set_option maxHeartbeats 1000000 in
theorem reflegal_pcon (f g : Bool) (ps aw : List Int) (h : Tr1 ps) (ha : aw.length < 9223372036854775808) : PCon Try.prog 23 [intX f ps, intX g aw] (Bo (legB ps aw)) [] := by
  refine pcon_of (G := gm) Try.func23 rfl rfl rfl ?_
  have hle := h.le
  by_cases hl : aw.length = ps.length
  case neg =>
    have e : legB ps aw = false := by unfold legB; simp [hl]
    rw [e]
    refine W.go ?_
    exact RetP.v rfl
  have cn := fun v u => near_pcon f ps v u
  refine W.go ?_
  refine LoopV.on (σ := Nat) rfl (fun i => [(0, intX f ps), (1, intX g aw), (12, intX g aw), (13, I aw.length), (14, I i)]) (fun i => []) (fun i => i ≤ ps.length ∧ ∀ v, v < i → legAt ps aw v = true) (fun i => ps.length - i) 0 (AtS.v [] []) ⟨Nat.zero_le _, by simp⟩ ?_
  rintro i ⟨hi, hok⟩
  rcases Nat.lt_or_ge i ps.length with him | him
  · have hg := int_get aw i (Int.toNat_natCast i) (by omega)
    have hno := fun e => legB_no (ps := ps) (aw := aw) him e
    have hok' : legAt ps aw i = true → ∀ v, v < i + 1 → legAt ps aw v = true := fun e v hv => by
      rcases Nat.lt_or_ge v i with h1 | h1
      · exact hok v h1
      · rw [show v = i by omega]; exact e
    clear hok
    by_cases hr : 0 ≤ aw.getD i 0 ∧ aw.getD i 0 < ps.length
    case neg =>
      rw [hno (by
        rw [Bool.eq_false_iff]
        exact fun e => hr (legAt_in e him))]
      clear hno hok'
      generalize aw.getD i 0 = x at *
      refine W.c1 hg ?_
      exact RetP.v rfl
    obtain ⟨u, hu⟩ : ∃ u : Nat, aw.getD i 0 = u := ⟨(aw.getD i 0).toNat, by omega⟩
    rw [hu] at hr hg
    have hul : u < ps.length := by omega
    by_cases hui : u = i
    · have hok' := hok' (legAt_iff.2 (.inl (by rw [hu, hui])))
      clear hno hu
      have cn := cn i u him hul
      generalize isNear ps i u = b at *
      refine W.c2 hg cn ?_
      exact nx (i + 1) (by omega) ⟨by omega, hok'⟩ (AtS.v [] [])
    · have e := legAt_near hu hul hui
      have cn := cn i u him hul
      rw [e] at hok' hno
      clear hu e
      cases hb : isNear ps i u with
      | true =>
        rw [hb] at cn
        have hok' := hok' hb
        refine W.c2 hg cn ?_
        exact nx (i + 1) (by omega) ⟨by omega, hok'⟩ (AtS.v [] [])
      | false =>
        rw [hb] at cn
        rw [hno hb]
        clear hno hok'
        refine W.c2 hg cn ?_
        exact RetP.v rfl
  · have e : i = ps.length := by omega
    subst e
    rw [legB_yes hl hok]
    clear hok
    refine W.go ?_
    exact RetP.v rfl
set_option maxHeartbeats 1000000 in
theorem refquiet_pcon (f g : Bool) (ps aw : List Int) (h : Tr1 ps) (ha : aw.length < 9223372036854775808) : PCon Try.prog 24 [intX f ps, intX g aw] (Bo (quB ps aw)) [] := by
  refine pcon_of (G := gm) Try.func24 rfl rfl rfl ?_
  have hle := h.le
  have cl := reflegal_pcon f g ps aw h ha
  cases hl : legB ps aw with
  | false =>
    rw [quB_leg hl]
    rw [hl] at cl
    refine W.c1 cl ?_
    exact RetP.v rfl
  | true =>
    rw [hl] at cl
    have hlen := (legB_iff.1 hl).1
    have cn := fun v u => near_pcon f ps v u
    have hss := snk_succ aw
    have hsl := snk_le aw
    refine W.c1 cl ?_
    refine LoopV.on (σ := Nat) rfl (fun i => [(0, intX f ps), (1, intX g aw), (5, I (snk aw i).length), (14, intX g aw), (15, I aw.length), (16, I i)]) (fun i => []) (fun i => i ≤ aw.length) (fun i => aw.length - i) 0 (AtS.v [] []) (Nat.zero_le _) ?_
    intro i hi
    rcases Nat.lt_or_ge i aw.length with him | him
    · have hg := int_get aw i (Int.toNat_natCast i) him
      have hs := hss i
      have hl := hsl i
      by_cases hx : aw.getD i 0 = (i : Int)
      · rw [if_pos hx] at hs
        generalize snk aw i = T at *
        generalize aw.getD i 0 = x at *
        refine W.c1 hg ?_
        refine nx (i + 1) (by omega) (by omega) ?_
        rw [hs, List.length_append]
        exact AtS.v [] []
      · rw [if_neg hx] at hs
        generalize aw.getD i 0 = x at *
        refine W.c1 hg ?_
        refine nx (i + 1) (by omega) (by omega) ?_
        rw [hs]
        exact AtS.v [] []
    have e : i = aw.length := by omega
    subst e
    have hsl := hsl aw.length
    have hbad := fun u v => quB_ed (ps := ps) (aw := aw) (u := u) (v := v)
    have hq := quB_yes hl
    have hq1 := quB_snk (ps := ps) (aw := aw)
    generalize snk aw aw.length = S at *
    clear hss cl hl
    refine W.go ?_
    refine LoopV.on (σ := Nat) rfl (fun u => [(0, intX f ps), (1, intX g aw), (5, I S.length), (28, I ps.length), (29, I u)]) (fun _ => []) (fun u => u ≤ ps.length ∧ ∀ a b : Nat, a < u → b < ps.length → a < b → isNear ps a b = true → oneB aw a b = true) (fun u => ps.length - u) 0 (AtS.v [] []) ⟨Nat.zero_le _, by simp⟩ ?_
    rintro u ⟨hu, hok⟩
    rcases Nat.lt_or_ge u ps.length with hum | hum
    · refine W.go ?_
      refine LoopV.on (σ := Nat) rfl (fun v => [(0, intX f ps), (1, intX g aw), (5, I S.length), (8, I u), (28, I ps.length), (29, I u), (33, I ps.length), (34, I v)]) (fun _ => []) (fun v => v ≤ ps.length ∧ ∀ b : Nat, b < v → u < b → isNear ps u b = true → oneB aw u b = true) (fun v => ps.length - v) 0 (AtS.v [] []) ⟨Nat.zero_le _, by simp⟩ ?_
      rintro v ⟨hv, hok1⟩
      rcases Nat.lt_or_ge v ps.length with hvm | hvm
      · have c1 := cn u v hum hvm
        have hok2 : (u < v → isNear ps u v = true → oneB aw u v = true) → ∀ b : Nat, b < v + 1 → u < b → isNear ps u b = true → oneB aw u b = true := fun ho b hb => by
          rcases Nat.lt_or_ge b v with h1 | h1
          · exact hok1 b h1
          · rw [show b = v by omega]; exact ho
        have g1 := int_get aw u (Int.toNat_natCast u) (by omega)
        have g2 := int_get aw v (Int.toNat_natCast v) (by omega)
        have hbad := hbad u v hvm
        by_cases huv : u < v
        case neg =>
          replace hok2 := hok2 (fun h => absurd h huv)
          clear hok hok1 hq hq1 cn hbad
          generalize isNear ps u v = nb at *
          generalize aw.getD u 0 = x at *
          generalize aw.getD v 0 = y at *
          refine W.c3 c1 g1 g2 ?_
          exact nx (v + 1) (by omega) ⟨by omega, hok2⟩ (AtS.v [] [])
        cases hn : isNear ps u v with
        | false =>
          replace hok2 := hok2 (fun _ h => by rw [hn] at h; cases h)
          rw [hn] at c1
          clear hok hok1 hq hq1 cn hbad
          generalize aw.getD u 0 = x at *
          generalize aw.getD v 0 = y at *
          refine W.c3 c1 g1 g2 ?_
          exact nx (v + 1) (by omega) ⟨by omega, hok2⟩ (AtS.v [] [])
        | true =>
          rw [hn] at c1
          cases ho : oneB aw u v with
          | true =>
            replace hok2 := hok2 (fun _ _ => ho)
            have hb := one_yes ho
            clear ho hbad hok hok1 hq hq1 cn
            generalize aw.getD u 0 = x at *
            generalize aw.getD v 0 = y at *
            have hb' : (decide ((u : Int) < (v : Int)) && true && ((x == (v : Int)) == (y == (u : Int)))) = false := by rw [hb]; simp
            refine W.c3 c1 g1 g2 ?_
            exact nx (v + 1) (by omega) ⟨by omega, hok2⟩ (AtS.v [] [])
          | false =>
            have hb := one_no ho
            rw [hbad huv hn ho]
            clear ho hbad hok hok1 hok2 hq hq1 cn
            generalize aw.getD u 0 = x at *
            generalize aw.getD v 0 = y at *
            have hb' : (decide ((u : Int) < (v : Int)) && true && ((x == (v : Int)) == (y == (u : Int)))) = true := by rw [hb]; simp; omega
            refine W.c3 c1 g1 g2 ?_
            exact RetP.v rfl
      · have e : v = ps.length := by omega
        subst e
        have hok2 : ∀ a b : Nat, a < u + 1 → b < ps.length → a < b → isNear ps a b = true → oneB aw a b = true := fun a b ha hb => by
          rcases Nat.lt_or_ge a u with h1 | h1
          · exact hok a b h1 hb
          · rw [show a = u by omega]; exact hok1 b hb
        clear hok hok1 hq hq1 hbad
        refine W.go ?_
        exact nx (u + 1) (by omega) ⟨by omega, hok2⟩ (AtS.v [] [])
    · have e : u = ps.length := by omega
      subst e
      by_cases hS : S.length = 1
      · rw [hq hS fun a b hb hab => hok a b (by omega) hb hab]
        clear hq hq1 hbad hok
        refine W.go ?_
        exact RetP.v (by rw [hS]; rfl)
      · rw [hq1 hS]
        clear hq hq1 hbad hok
        refine W.go ?_
        exact RetP.v (congrArg Value.bool (by simp; omega))
theorem refrun_bad (f g : Bool) (ps aw : List Int) (fr : Int) (h : Tr1 ps) (ha : aw.length < 9223372036854775808) (hn : quB ps aw = false ∨ fr < 0 ∨ aw.length ≤ fr) : PCon Try.prog 15 [intX f ps, intX g aw, I fr] (.tup [.own 0 0, I (-1)]) [intB []] := by
  refine pcon_of (G := gm) Try.func15 rfl rfl rfl ?_
  have cq := refquiet_pcon f g ps aw h ha
  generalize quB ps aw = q at *
  cases q with
  | false =>
    refine W.c1 cq ?_
    exact RetP.nilI
  | true =>
    have hn := hn.resolve_left (by simp)
    refine W.c1 cq ?_
    exact RetP.nilI
set_option maxHeartbeats 1000000 in
theorem refrun_ok (e g : Bool) {ps : List Int} (h : Tr1 ps) {f s : Nat} (hf : f < ps.length) (hs : s < ps.length) : PCon Try.prog 15 [intX e ps, intX g (tw ps s), I f] (.tup [.own 0 ps.length, I s]) [intB (tw ps f)] := by
  refine pcon_of (G := gm) Try.func15 rfl rfl rfl ?_
  have hle := h.le
  have htl := tw_len ps s
  have cq := refquiet_pcon e g ps (tw ps s) h (by omega)
  rw [quB_iff.2 (h.p.tw_qu hs)] at cq
  obtain ⟨y, y0, y1, hat, hnx⟩ := h.p.stops hf hs
  have hend := h.p.arr_end hf hs
  have ha0 := arr_zero ps f s
  rw [← ha0] at cq htl ⊢
  have hal := arr_len ps f s
  have hff := nextS_self hf
  have hss := nextS_self hs
  generalize hB : arr ps f s = B at *
  have htf := tw_len ps f
  -- the first stop
  have hb := hat 0 (Nat.zero_le _)
  rw [y0, hff] at hb
  have hg := int_get (B 0) f (Int.toNat_natCast f) (by rw [hal]; exact hf)
  rw [hb.2.1] at hg
  have hset := int_set (B 0) f f
  rw [hb.2.2] at hset
  refine W.c2 cq hg ?_
  refine LoopV.on (σ := Nat) rfl (fun j => [(8, .own 0 ps.length), (9, I (y j)), (10, I (nextS ps (y j) s))]) (fun j => [some (intB (B (j + 1)))]) (fun j => j ≤ dst ps f s) (fun j => dst ps f s - j) 0 (by rw [y0]; exact AtS.v [] [1]) (Nat.zero_le _) ?_
  intro j hj
  have hlj := hal (j + 1)
  rcases Nat.lt_or_ge j (dst ps f s) with hjd | hjd
  · obtain ⟨n1, n2, n3⟩ := hnx j hjd
    obtain ⟨b1, b2, b3⟩ := hat (j + 1) (by omega)
    have hg := int_get (B (j + 1)) (y (j + 1)) (Int.toNat_natCast (y (j + 1))) (by rw [hal]; exact b1)
    rw [b2] at hg
    have hset := int_set (B (j + 1)) (y (j + 1)) (nextS ps (y (j + 1)) f)
    rw [b3, n2] at hset
    rw [n1]
    clear hat hnx hal b3 b2
    refine W.c1 hg ?_
    exact nx (j + 1) (by omega) (by omega) (AtS.v [] [0])
  · have e : j = dst ps f s := by omega
    subst e
    rw [y1, hss, hend]
    clear hat hnx hal
    refine W.go ?_
    exact RetP.ownI rfl (int_fr _)
end Go.Proofs.Ytonmkggglkicnaa
