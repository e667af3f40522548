/- chain: the law ChainGoes, walked. -/
import Derived.Test.YtammndlghfknbaaChainH
set_option linter.unusedSimpArgs false
set_option maxRecDepth 20000
set_option linter.unusedVariables false
namespace Go.Proofs.Ytammndlghfknbaa
open Go Go.Eng Go.RowKit

abbrev boolX (f : Bool) (bs : List Bool) : Sv := .ext f 1 (bs.map fun b => [Bo b])
theorem open_is {f : Bool} {cs : List Cell} {n : Int} (h : cs.length * 32 ≤ 140737488355328) (hb : openS cs = n) : PCon Try.prog 40 [cellX f cs] (I n) [] := hb ▸ open_pcon f cs h
theorem succ_is {f : Bool} {cs : List Cell} {a b : Int} {X : List Cell} {g : Bool} (h : cs.length * 32 ≤ 140737488351232) (h1 : (succS cs a b).1 = X) (h2 : (succS cs a b).2 = g) : PCon Try.prog 32 [cellX f cs, I a, I b] (cellsR X g) [cellB X] := by
  have := succ_pcon f cs a b h
  rwa [h1, h2] at this
theorem add_is {f : Bool} {cs : List Cell} {n : Int} {X : List Cell} (h : cs.length * 32 ≤ 140737488351232) (h1 : addS cs n = X) : PCon Try.prog 30 [cellX f cs, I n] (.own 0 X.length) [cellB X] := h1 ▸ add_pcon f cs n h
theorem grant_is {f : Bool} {cs : List Cell} {n : Int} {X : List Cell} {g : Bool} (h : cs.length * 32 ≤ 140737488351232) (h1 : grantS cs n = (X, g)) : PCon Try.prog 34 [cellX f cs, I n] (cellsR X g) [cellB X] := by
  have := grant_pcon f cs n h
  rwa [h1] at this
theorem rel_is {f : Bool} {cs : List Cell} {X : List Cell} {a b c : Int} (h : cs.length * 32 ≤ 140737488351232) (h1 : relS cs = (X, a, b, c)) : PCon Try.prog 36 [cellX f cs] (.tup [.own 0 X.length, I a, I b, I c]) [cellB X] := by
  have := release_pcon f cs h
  rwa [h1] at this
def GoP (bs : List Bool) (s : Nat × Int × Int × Int × Nat) : Prop := s.1 ≤ bs.length ∧ s.2.1 = s.2.2.1 + s.2.2.2.2 ∧ s.2.1 ≤ s.1 ∧ 0 ≤ s.2.2.1 ∧ (s.2.2.2.1 = 2 ∧ 1 ≤ s.2.2.1 ∨ s.2.2.2.1 = 3 ∧ s.2.2.2.2 = 0)
theorem goP {bs : List Bool} {i n : Nat} {m k st : Int} (h1 : i ≤ bs.length) (h2 : m = k + n) (h3 : m ≤ i) (h4 : 0 ≤ k) (h5 : st = 2 ∧ 1 ≤ k ∨ st = 3 ∧ n = 0) : GoP bs (i, m, k, st, n) := ⟨h1, h2, h3, h4, h5⟩
set_option maxHeartbeats 4000000 in
theorem chainGoes_pcon (me : Int) (bs : List Bool) (h : bs.length < 9223372036854775808) : PCon Try.prog 14 [I me, boolX false bs] (Bo true) [] := by
  refine pcon_of (G := gm) Try.func14 rfl rfl rfl ?_
  by_cases hm : 0 ≤ me ∧ me < 32 ∧ bs.length ≤ 512
  · obtain ⟨hm1, hm2, hm3⟩ := hm
    repeat' (conv => whnf
             first
             | (refine get_id ?_; first | refine Get.mk _ rfl ?_)
             | (refine need_id ?_; first | refine Need.a ?_)
             | (refine eqk_id ?_; first | refine EqK.a ?_)
             | (refine br_id ?_; first | refine Br.t ?_ | refine Br.f ?_ | (refine Br.pos ?_ ?_; focus (with_reducible assumption)) | (refine Br.neg ?_ ?_; focus (with_reducible assumption)) | (refine Br.dpos ?_ ?_; focus (first | with_reducible exact rfl | with_reducible exact Int.le_refl _ | with_reducible assumption)) | (refine Br.dneg ?_ ?_; focus (with_reducible assumption)) | (refine Br.d (fun _ => ?_) (fun _ => ?_) <;> (first | (exfalso; omega; done) | skip)) | refine Br.n ?_ | (refine Br.s (fun _ => ?_) (fun _ => ?_) <;> (first | (exfalso; omega; done) | skip)) | (refine Br.mk (fun _ => ?_) (fun _ => ?_) <;> (first | (exfalso; omega; done) | skip)))
             | (refine regv_id ?_; first | refine RegV.q ?_)
             | (refine gds_id ?_; apply GdS.mk)
             | (refine and_id ?_; exact ⟨rfl, rfl, rfl⟩)
             | (refine imp_id ?_; first | refine imp_s (fun _ => ?_) | refine fun _ => ?_)
             | refine NilB.mk (fun b hb => ?_)
             | (refine alv_and ?_ ?_; focus (first | rfl | done))
             | refine DrawV.mk [] ?_
             | (refine appc_id ?_; first | refine AppC.growA ?_ | refine AppC.place ?_)
             | (refine call_id ?_; first
                  | refine CallV.c (wakes13_pcon) ?_
                  | refine CallV.e (wakes13_pcon) ?_)
             | (refine calls_id ?_; first
                  | refine CallS.c (wakes13_pcon) ?_
                  | refine CallS.e (wakes13_pcon) ?_))
    all_goals (try (conv => whnf))
    refine LoopV.on (σ := Nat × Int × Int × Int × Nat) rfl (fun s => [(0, I me), (1, boolX false bs), (5, .own 0 (goL me s.2.2.2.1 s.2.2.1 s.2.2.2.2).length), (6, I s.2.1), (7, I s.2.2.1), (35, boolX false bs), (36, I bs.length), (37, I s.1)]) (fun s => [some (cellB (goL me s.2.2.2.1 s.2.2.1 s.2.2.2.2))])
      (GoP bs) (fun s => bs.length - s.1) (0, 0, 0, 3, 0) ?_ ⟨by simp, by simp, by simp, by simp, .inr ⟨rfl, rfl⟩⟩ ?_
    · refine AtS.mk [] [0] rfl (by simp) rfl ?_ ?_
      · (repeat' (first | exact trivial | exact rfl | with_reducible assumption | (refine ⟨_, rfl, ?_⟩) | (refine ⟨_, _, rfl, rfl, ?_⟩) | (refine And.intro ?_ ?_) | (refine Or.inl ⟨rfl, rfl, ?_⟩) | (refine Or.inl ⟨rfl, ?_⟩; focus (fail_if_success (refine And.intro ?_ ?_))) | (refine Or.inl (?_ : (_ : Nat) = _ ∧ _); refine ⟨?_, ?_⟩; focus (first | (simp only [List.length_map]; done) | (simp only [List.length_map, List.length_append, List.length_cons, List.length_nil]; done))) | exact Or.inl rfl | (refine Or.inr (Or.inr ⟨?_, ?_⟩)) | (refine Or.inr ⟨?_, ?_⟩) | (refine fun h => ?_; first | exact h | exact rfl | (cases h; done)) | (refine om8 ?_; simp only [← List.map_drop, ← List.map_take]; exact rfl) | ((first | refine om1 ?_ | refine om2 ?_ | refine om3 ?_ | refine om4 ?_ | refine om5 ?_ | refine om6 ?_ | refine om7 ?_); first | (simp only [List.length_map]; done) | (simp only [List.length_map]; omega) | omega)))
      · (repeat' (first | exact trivial | exact rfl | with_reducible assumption | (refine ⟨_, rfl, ?_⟩) | (refine ⟨_, _, rfl, rfl, ?_⟩) | (refine And.intro ?_ ?_) | (refine Or.inl ⟨rfl, rfl, ?_⟩) | (refine Or.inl ⟨rfl, ?_⟩; focus (fail_if_success (refine And.intro ?_ ?_))) | (refine Or.inl (?_ : (_ : Nat) = _ ∧ _); refine ⟨?_, ?_⟩; focus (first | (simp only [List.length_map]; done) | (simp only [List.length_map, List.length_append, List.length_cons, List.length_nil]; done))) | exact Or.inl rfl | (refine Or.inr (Or.inr ⟨?_, ?_⟩)) | (refine Or.inr ⟨?_, ?_⟩) | (refine fun h => ?_; first | exact h | exact rfl | (cases h; done)) | (refine om8 ?_; simp only [← List.map_drop, ← List.map_take]; exact rfl) | ((first | refine om1 ?_ | refine om2 ?_ | refine om3 ?_ | refine om4 ?_ | refine om5 ?_ | refine om6 ?_ | refine om7 ?_); first | (simp only [List.length_map]; done) | (simp only [List.length_map]; omega) | omega)))
    rintro ⟨i, m, k, st, n⟩ ⟨p1, p2, p3, p4, p5⟩
    simp only at p1 p2 p3 p4 p5
    dsimp only
    have hbl : n ≤ 512 := by omega
    rcases p5 with ⟨rfl, p5⟩ | ⟨rfl, rfl⟩
    · have hl := goL_len me 2 k n
      obtain ⟨a1, a2⟩ := go_ask me n 2 k (by omega)
      rw [← p2] at a1 a2
      have o1 := open_is (f := false) (n := 1 + n) (cs := goL me 2 k n) (by omega) (by rw [go_open]; simp)
      have l1 := succS_len (goL me 2 k n) me (m + 1)
      generalize hX : (succS (goL me 2 k n) me (m + 1)).1 = X at a2 l1
      have s1 := succ_is (f := false) (by omega) hX a1
      have ad := add_is (f := false) (by omega) a2
      have hl2 := goL_len me 2 k (n + 1)
      have g1 := good_is (f := false) (by omega) (go_good me 2 k (n + 1) ⟨hm1, hm2⟩ (.inl rfl) ⟨p4, fun _ => p5, by omega⟩)
      clear a1 a2 hX
      cases n with
      | zero =>
        have hl3 := goL_len me 3 k 0
        have rl := rel_is (f := false) (cs := goL me 2 k 0) (by omega) (go_rel0 me k)
        have g2 := good_is (f := false) (cs := goL me 3 k 0) (me := me) (by omega) (go_good me 3 k 0 ⟨hm1, hm2⟩ (.inr ⟨rfl, rfl⟩) ⟨by omega, fun h => by omega, by omega⟩)
        obtain rfl : m = k := by omega
        clear p2
        repeat' (conv => whnf
                 first
                 | (refine get_id ?_; first | refine Get.mk _ rfl ?_ | refine Get.mk _ (nth_map (fun b => [Bo b]) bs i rfl (by omega)) ?_ | refine Get.mk _ (go_last me 2 m (0 + 1) (by omega)) ?_ | refine Get.mk _ (go_last me 3 m 0 (by omega)) ?_)
                 | (refine need_id ?_; first | refine Need.a ?_)
                 | (refine eqk_id ?_; first | refine EqK.a ?_)
                 | (refine br_id ?_; first | refine Br.t ?_ | refine Br.f ?_ | (refine Br.pos ?_ ?_; focus (with_reducible assumption)) | (refine Br.neg ?_ ?_; focus (with_reducible assumption)) | (refine Br.dpos ?_ ?_; focus (first | with_reducible exact rfl | with_reducible exact Int.le_refl _ | with_reducible assumption)) | (refine Br.dneg ?_ ?_; focus (with_reducible assumption)) | (refine Br.d (fun _ => ?_) (fun _ => ?_) <;> (first | (exfalso; omega; done) | skip)) | refine Br.n ?_ | (refine Br.s (fun _ => ?_) (fun _ => ?_) <;> (first | (exfalso; omega; done) | skip)) | (refine Br.mk (fun _ => ?_) (fun _ => ?_) <;> (first | (exfalso; omega; done) | skip)))
                 | (refine regv_id ?_; first | refine RegV.q ?_)
                 | (refine gds_id ?_; apply GdS.mk)
                 | (refine and_id ?_; exact ⟨rfl, rfl, rfl⟩)
                 | (refine imp_id ?_; first | refine imp_s (fun _ => ?_) | refine fun _ => ?_)
                 | refine NilB.mk (fun b hb => ?_)
                 | (refine alv_and ?_ ?_; focus (first | rfl | done))
                 | refine DrawV.mk [] ?_
                 | (refine appc_id ?_; first | refine AppC.growA ?_ | refine AppC.place ?_)
                 | (refine call_id ?_; first
                      | refine CallV.c (s1) ?_
                      | refine CallV.c (ad) ?_
                      | refine CallV.c (g1) ?_
                      | refine CallV.c (o1) ?_
                      | refine CallV.c (rl) ?_
                      | refine CallV.c (g2) ?_
                      | refine CallV.e (s1) ?_
                      | refine CallV.e (ad) ?_
                      | refine CallV.e (g1) ?_
                      | refine CallV.e (o1) ?_
                      | refine CallV.e (rl) ?_
                      | refine CallV.e (g2) ?_)
                 | (refine calls_id ?_; first
                      | refine CallS.c (s1) ?_
                      | refine CallS.c (ad) ?_
                      | refine CallS.c (g1) ?_
                      | refine CallS.c (o1) ?_
                      | refine CallS.c (rl) ?_
                      | refine CallS.c (g2) ?_
                      | refine CallS.e (s1) ?_
                      | refine CallS.e (ad) ?_
                      | refine CallS.e (g1) ?_
                      | refine CallS.e (o1) ?_
                      | refine CallS.e (rl) ?_
                      | refine CallS.e (g2) ?_))
        all_goals (try (conv => whnf))
        · (refine nx (i + 1, m + 1, m, 2, 0 + 1) (by simp only; omega) (goP (by omega) (by omega) (by omega) (by omega) (by omega)) (AtS.mk [] [2] rfl (by simp) rfl ⟨⟨_, rfl, VwB.refl⟩, rfl⟩ ?_); (repeat' (first | exact trivial | exact rfl | with_reducible assumption | (refine ⟨_, rfl, ?_⟩) | (refine ⟨_, _, rfl, rfl, ?_⟩) | (refine And.intro ?_ ?_) | (refine Or.inl ⟨rfl, rfl, ?_⟩) | (refine Or.inl ⟨rfl, ?_⟩; focus (fail_if_success (refine And.intro ?_ ?_))) | (refine Or.inl (?_ : (_ : Nat) = _ ∧ _); refine ⟨?_, ?_⟩; focus (first | (simp only [List.length_map]; done) | (simp only [List.length_map, List.length_append, List.length_cons, List.length_nil]; done))) | exact Or.inl rfl | (refine Or.inr (Or.inr ⟨?_, ?_⟩)) | (refine Or.inr ⟨?_, ?_⟩) | (refine fun h => ?_; first | exact h | exact rfl | (cases h; done)) | (refine om8 ?_; simp only [← List.map_drop, ← List.map_take]; exact rfl) | ((first | refine om1 ?_ | refine om2 ?_ | refine om3 ?_ | refine om4 ?_ | refine om5 ?_ | refine om6 ?_ | refine om7 ?_); first | (simp only [List.length_map]; done) | (simp only [List.length_map]; omega) | omega))))
        · (exfalso; rename_i hx; apply hx; rw [Bool.eq_iff_iff]; simp only [eq_self, iff_true, true_iff, iff_false, false_iff, decide_eq_true_eq, decide_eq_false_iff_not, Bool.or_eq_true, Bool.and_eq_true, Bool.or_eq_false_iff, Bool.and_eq_false_iff, Bool.not_eq_true', Bool.not_eq_false', beq_iff_eq, beq_eq_false_iff_ne, bne_iff_ne, bne_eq_false_iff_eq, ne_eq, Bool.true_and, Bool.and_true, Bool.false_or, Bool.or_false, Bool.true_or, Bool.or_true, Bool.false_and, Bool.and_false, Bool.not_true, Bool.not_false, reduceCtorEq, not_false_eq_true, not_true_eq_false, and_true, true_and, or_false, false_or, or_true, true_or, and_false, false_and, Bool.cond_eq_ite]; omega)
        · (refine nx (i + 1, m, m, 3, 0) (by simp only; omega) (goP (by omega) (by omega) (by omega) (by omega) (by omega)) (AtS.mk [] [1] rfl (by simp) rfl ⟨⟨_, rfl, VwB.refl⟩, rfl⟩ ?_); (repeat' (first | exact trivial | exact rfl | with_reducible assumption | (refine ⟨_, rfl, ?_⟩) | (refine ⟨_, _, rfl, rfl, ?_⟩) | (refine And.intro ?_ ?_) | (refine Or.inl ⟨rfl, rfl, ?_⟩) | (refine Or.inl ⟨rfl, ?_⟩; focus (fail_if_success (refine And.intro ?_ ?_))) | (refine Or.inl (?_ : (_ : Nat) = _ ∧ _); refine ⟨?_, ?_⟩; focus (first | (simp only [List.length_map]; done) | (simp only [List.length_map, List.length_append, List.length_cons, List.length_nil]; done))) | exact Or.inl rfl | (refine Or.inr (Or.inr ⟨?_, ?_⟩)) | (refine Or.inr ⟨?_, ?_⟩) | (refine fun h => ?_; first | exact h | exact rfl | (cases h; done)) | (refine om8 ?_; simp only [← List.map_drop, ← List.map_take]; exact rfl) | ((first | refine om1 ?_ | refine om2 ?_ | refine om3 ?_ | refine om4 ?_ | refine om5 ?_ | refine om6 ?_ | refine om7 ?_); first | (simp only [List.length_map]; done) | (simp only [List.length_map]; omega) | omega))))
        · exact RetP.v rfl
      | succ n =>
        have hl3 := goL_len me 1 (k + 1) n
        have hl4 := goL_len me 2 (k + 1) n
        have rl := rel_is (f := false) (cs := goL me 2 k (n + 1)) (by omega) (go_rel me k n (by omega))
        have gr := grant_is (f := false) (cs := goL me 1 (k + 1) n) (by omega) (go_grant me (k + 1) n)
        have g2 := good_is (f := false) (cs := goL me 2 (k + 1) n) (me := me) (by omega) (go_good me 2 (k + 1) n ⟨hm1, hm2⟩ (.inl rfl) ⟨by omega, fun h => by omega, by omega⟩)
        repeat' (conv => whnf
                 first
                 | (refine get_id ?_; first | refine Get.mk _ rfl ?_ | refine Get.mk _ (nth_map (fun b => [Bo b]) bs i rfl (by omega)) ?_ | refine Get.mk _ (go_last me 2 k (n + 1 + 1) (by omega)) ?_ | refine Get.mk _ (go_last me 2 (k + 1) n (by omega)) ?_)
                 | (refine need_id ?_; first | refine Need.a ?_)
                 | (refine eqk_id ?_; first | refine EqK.a ?_)
                 | (refine br_id ?_; first | refine Br.t ?_ | refine Br.f ?_ | (refine Br.pos ?_ ?_; focus (with_reducible assumption)) | (refine Br.neg ?_ ?_; focus (with_reducible assumption)) | (refine Br.dpos ?_ ?_; focus (first | with_reducible exact rfl | with_reducible exact Int.le_refl _ | with_reducible assumption)) | (refine Br.dneg ?_ ?_; focus (with_reducible assumption)) | (refine Br.d (fun _ => ?_) (fun _ => ?_) <;> (first | (exfalso; omega; done) | skip)) | refine Br.n ?_ | (refine Br.s (fun _ => ?_) (fun _ => ?_) <;> (first | (exfalso; omega; done) | skip)) | (refine Br.mk (fun _ => ?_) (fun _ => ?_) <;> (first | (exfalso; omega; done) | skip)))
                 | (refine regv_id ?_; first | refine RegV.q ?_)
                 | (refine gds_id ?_; apply GdS.mk)
                 | (refine and_id ?_; exact ⟨rfl, rfl, rfl⟩)
                 | (refine imp_id ?_; first | refine imp_s (fun _ => ?_) | refine fun _ => ?_)
                 | refine NilB.mk (fun b hb => ?_)
                 | (refine alv_and ?_ ?_; focus (first | rfl | done))
                 | refine DrawV.mk [] ?_
                 | (refine appc_id ?_; first | refine AppC.growA ?_ | refine AppC.place ?_)
                 | (refine call_id ?_; first
                      | refine CallV.c (s1) ?_
                      | refine CallV.c (ad) ?_
                      | refine CallV.c (g1) ?_
                      | refine CallV.c (o1) ?_
                      | refine CallV.c (rl) ?_
                      | refine CallV.c (gr) ?_
                      | refine CallV.c (g2) ?_
                      | refine CallV.e (s1) ?_
                      | refine CallV.e (ad) ?_
                      | refine CallV.e (g1) ?_
                      | refine CallV.e (o1) ?_
                      | refine CallV.e (rl) ?_
                      | refine CallV.e (gr) ?_
                      | refine CallV.e (g2) ?_)
                 | (refine calls_id ?_; first
                      | refine CallS.c (s1) ?_
                      | refine CallS.c (ad) ?_
                      | refine CallS.c (g1) ?_
                      | refine CallS.c (o1) ?_
                      | refine CallS.c (rl) ?_
                      | refine CallS.c (gr) ?_
                      | refine CallS.c (g2) ?_
                      | refine CallS.e (s1) ?_
                      | refine CallS.e (ad) ?_
                      | refine CallS.e (g1) ?_
                      | refine CallS.e (o1) ?_
                      | refine CallS.e (rl) ?_
                      | refine CallS.e (gr) ?_
                      | refine CallS.e (g2) ?_))
        all_goals (try (conv => whnf))
        · (refine nx (i + 1, m + 1, k, 2, n + 1 + 1) (by simp only; omega) (goP (by omega) (by omega) (by omega) (by omega) (by omega)) (AtS.mk [] [2] rfl (by simp) rfl ⟨⟨_, rfl, VwB.refl⟩, rfl⟩ ?_); (repeat' (first | exact trivial | exact rfl | with_reducible assumption | (refine ⟨_, rfl, ?_⟩) | (refine ⟨_, _, rfl, rfl, ?_⟩) | (refine And.intro ?_ ?_) | (refine Or.inl ⟨rfl, rfl, ?_⟩) | (refine Or.inl ⟨rfl, ?_⟩; focus (fail_if_success (refine And.intro ?_ ?_))) | (refine Or.inl (?_ : (_ : Nat) = _ ∧ _); refine ⟨?_, ?_⟩; focus (first | (simp only [List.length_map]; done) | (simp only [List.length_map, List.length_append, List.length_cons, List.length_nil]; done))) | exact Or.inl rfl | (refine Or.inr (Or.inr ⟨?_, ?_⟩)) | (refine Or.inr ⟨?_, ?_⟩) | (refine fun h => ?_; first | exact h | exact rfl | (cases h; done)) | (refine om8 ?_; simp only [← List.map_drop, ← List.map_take]; exact rfl) | ((first | refine om1 ?_ | refine om2 ?_ | refine om3 ?_ | refine om4 ?_ | refine om5 ?_ | refine om6 ?_ | refine om7 ?_); first | (simp only [List.length_map]; done) | (simp only [List.length_map]; omega) | omega))))
        · (exfalso; rename_i hx; apply hx; rw [Bool.eq_iff_iff]; simp only [eq_self, iff_true, true_iff, iff_false, false_iff, decide_eq_true_eq, decide_eq_false_iff_not, Bool.or_eq_true, Bool.and_eq_true, Bool.or_eq_false_iff, Bool.and_eq_false_iff, Bool.not_eq_true', Bool.not_eq_false', beq_iff_eq, beq_eq_false_iff_ne, bne_iff_ne, bne_eq_false_iff_eq, ne_eq, Bool.true_and, Bool.and_true, Bool.false_or, Bool.or_false, Bool.true_or, Bool.or_true, Bool.false_and, Bool.and_false, Bool.not_true, Bool.not_false, reduceCtorEq, not_false_eq_true, not_true_eq_false, and_true, true_and, or_false, false_or, or_true, true_or, and_false, false_and, Bool.cond_eq_ite]; omega)
        · (exfalso; rename_i hx; simp at hx)
        · (refine nx (i + 1, m, k + 1, 2, n) (by simp only; omega) (goP (by omega) (by omega) (by omega) (by omega) (by omega)) (AtS.mk [] [2] rfl (by simp) rfl ⟨⟨_, rfl, VwB.refl⟩, rfl⟩ ?_); (repeat' (first | exact trivial | exact rfl | with_reducible assumption | (refine ⟨_, rfl, ?_⟩) | (refine ⟨_, _, rfl, rfl, ?_⟩) | (refine And.intro ?_ ?_) | (refine Or.inl ⟨rfl, rfl, ?_⟩) | (refine Or.inl ⟨rfl, ?_⟩; focus (fail_if_success (refine And.intro ?_ ?_))) | (refine Or.inl (?_ : (_ : Nat) = _ ∧ _); refine ⟨?_, ?_⟩; focus (first | (simp only [List.length_map]; done) | (simp only [List.length_map, List.length_append, List.length_cons, List.length_nil]; done))) | exact Or.inl rfl | (refine Or.inr (Or.inr ⟨?_, ?_⟩)) | (refine Or.inr ⟨?_, ?_⟩) | (refine fun h => ?_; first | exact h | exact rfl | (cases h; done)) | (refine om8 ?_; simp only [← List.map_drop, ← List.map_take]; exact rfl) | ((first | refine om1 ?_ | refine om2 ?_ | refine om3 ?_ | refine om4 ?_ | refine om5 ?_ | refine om6 ?_ | refine om7 ?_); first | (simp only [List.length_map]; done) | (simp only [List.length_map]; omega) | omega))))
        · (exfalso; rename_i hx; apply hx; rw [Bool.eq_iff_iff]; simp only [eq_self, iff_true, true_iff, iff_false, false_iff, decide_eq_true_eq, decide_eq_false_iff_not, Bool.or_eq_true, Bool.and_eq_true, Bool.or_eq_false_iff, Bool.and_eq_false_iff, Bool.not_eq_true', Bool.not_eq_false', beq_iff_eq, beq_eq_false_iff_ne, bne_iff_ne, bne_eq_false_iff_eq, ne_eq, Bool.true_and, Bool.and_true, Bool.false_or, Bool.or_false, Bool.true_or, Bool.or_true, Bool.false_and, Bool.and_false, Bool.not_true, Bool.not_false, reduceCtorEq, not_false_eq_true, not_true_eq_false, and_true, true_and, or_false, false_or, or_true, true_or, and_false, false_and, Bool.cond_eq_ite]; omega)
        · exact RetP.v rfl
    · have hl := goL_len me 3 k 0
      have hl2 := goL_len me 2 (k + 1) 0
      obtain rfl : m = k := by omega
      clear p2
      obtain ⟨a1, a2⟩ := go_ask0 me m
      have s1 := succ_is (f := false) (cs := goL me 3 m 0) (a := me) (b := m + 1) (by omega) (congrArg (·.1) a1) (congrArg (·.2) a1)
      dsimp only at s1
      have ad := add_is (f := false) (by simp) a2
      have gr := grant_is (f := false) (cs := goL me 1 (m + 1) 0) (by rw [goL_len]; omega) (go_grant me (m + 1) 0)
      have g1 := good_is (f := false) (cs := goL me 2 (m + 1) 0) (me := me) (by rw [goL_len]; omega) (go_good me 2 (m + 1) 0 ⟨hm1, hm2⟩ (.inl rfl) ⟨by omega, fun _ => by omega, by omega⟩)
      have o1 := open_is (f := false) (n := 0) (cs := goL me 3 m 0) (by omega) (by rw [go_open]; simp)
      have rl := rel_is (f := false) (cs := goL me 3 m 0) (by omega) (go_relN me m)
      clear a1 a2
      repeat' (conv => whnf
               first
               | (refine get_id ?_; first | refine Get.mk _ rfl ?_ | refine Get.mk _ (nth_map (fun b => [Bo b]) bs i rfl (by omega)) ?_ | refine Get.mk _ (go_last me 2 (m + 1) 0 (by omega)) ?_)
               | (refine need_id ?_; first | refine Need.a ?_)
               | (refine eqk_id ?_; first | refine EqK.a ?_)
               | (refine br_id ?_; first | refine Br.t ?_ | refine Br.f ?_ | (refine Br.pos ?_ ?_; focus (with_reducible assumption)) | (refine Br.neg ?_ ?_; focus (with_reducible assumption)) | (refine Br.dpos ?_ ?_; focus (first | with_reducible exact rfl | with_reducible exact Int.le_refl _ | with_reducible assumption)) | (refine Br.dneg ?_ ?_; focus (with_reducible assumption)) | (refine Br.d (fun _ => ?_) (fun _ => ?_) <;> (first | (exfalso; omega; done) | skip)) | refine Br.n ?_ | (refine Br.s (fun _ => ?_) (fun _ => ?_) <;> (first | (exfalso; omega; done) | skip)) | (refine Br.mk (fun _ => ?_) (fun _ => ?_) <;> (first | (exfalso; omega; done) | skip)))
               | (refine regv_id ?_; first | refine RegV.q ?_)
               | (refine gds_id ?_; apply GdS.mk)
               | (refine and_id ?_; exact ⟨rfl, rfl, rfl⟩)
               | (refine imp_id ?_; first | refine imp_s (fun _ => ?_) | refine fun _ => ?_)
               | refine NilB.mk (fun b hb => ?_)
               | (refine alv_and ?_ ?_; focus (first | rfl | done))
               | refine DrawV.mk [] ?_
               | (refine appc_id ?_; first | refine AppC.growA ?_ | refine AppC.place ?_)
               | (refine call_id ?_; first
                    | refine CallV.c (s1) ?_
                    | refine CallV.c (ad) ?_
                    | refine CallV.c (gr) ?_
                    | refine CallV.c (g1) ?_
                    | refine CallV.c (o1) ?_
                    | refine CallV.c (rl) ?_
                    | refine CallV.e (s1) ?_
                    | refine CallV.e (ad) ?_
                    | refine CallV.e (gr) ?_
                    | refine CallV.e (g1) ?_
                    | refine CallV.e (o1) ?_
                    | refine CallV.e (rl) ?_)
               | (refine calls_id ?_; first
                    | refine CallS.c (s1) ?_
                    | refine CallS.c (ad) ?_
                    | refine CallS.c (gr) ?_
                    | refine CallS.c (g1) ?_
                    | refine CallS.c (o1) ?_
                    | refine CallS.c (rl) ?_
                    | refine CallS.e (s1) ?_
                    | refine CallS.e (ad) ?_
                    | refine CallS.e (gr) ?_
                    | refine CallS.e (g1) ?_
                    | refine CallS.e (o1) ?_
                    | refine CallS.e (rl) ?_))
      all_goals (try (conv => whnf))
      · (refine nx (i + 1, m + 1, m + 1, 2, 0) (by simp only; omega) (goP (by omega) (by omega) (by omega) (by omega) (by omega)) (AtS.mk [] [3] rfl (by simp) rfl ⟨⟨_, rfl, VwB.refl⟩, rfl⟩ ?_); (repeat' (first | exact trivial | exact rfl | with_reducible assumption | (refine ⟨_, rfl, ?_⟩) | (refine ⟨_, _, rfl, rfl, ?_⟩) | (refine And.intro ?_ ?_) | (refine Or.inl ⟨rfl, rfl, ?_⟩) | (refine Or.inl ⟨rfl, ?_⟩; focus (fail_if_success (refine And.intro ?_ ?_))) | (refine Or.inl (?_ : (_ : Nat) = _ ∧ _); refine ⟨?_, ?_⟩; focus (first | (simp only [List.length_map]; done) | (simp only [List.length_map, List.length_append, List.length_cons, List.length_nil]; done))) | exact Or.inl rfl | (refine Or.inr (Or.inr ⟨?_, ?_⟩)) | (refine Or.inr ⟨?_, ?_⟩) | (refine fun h => ?_; first | exact h | exact rfl | (cases h; done)) | (refine om8 ?_; simp only [← List.map_drop, ← List.map_take]; exact rfl) | ((first | refine om1 ?_ | refine om2 ?_ | refine om3 ?_ | refine om4 ?_ | refine om5 ?_ | refine om6 ?_ | refine om7 ?_); first | (simp only [List.length_map]; done) | (simp only [List.length_map]; omega) | omega))))
      · (exfalso; rename_i hx; apply hx; rw [Bool.eq_iff_iff]; simp only [eq_self, iff_true, true_iff, iff_false, false_iff, decide_eq_true_eq, decide_eq_false_iff_not, Bool.or_eq_true, Bool.and_eq_true, Bool.or_eq_false_iff, Bool.and_eq_false_iff, Bool.not_eq_true', Bool.not_eq_false', beq_iff_eq, beq_eq_false_iff_ne, bne_iff_ne, bne_eq_false_iff_eq, ne_eq, Bool.true_and, Bool.and_true, Bool.false_or, Bool.or_false, Bool.true_or, Bool.or_true, Bool.false_and, Bool.and_false, Bool.not_true, Bool.not_false, reduceCtorEq, not_false_eq_true, not_true_eq_false, and_true, true_and, or_false, false_or, or_true, true_or, and_false, false_and, Bool.cond_eq_ite]; omega)
      · (refine nx (i + 1, m, m, 3, 0) (by simp only; omega) (goP (by omega) (by omega) (by omega) (by omega) (by omega)) (AtS.mk [] [0] rfl (by simp) rfl ⟨⟨_, rfl, VwB.refl⟩, rfl⟩ ?_); (repeat' (first | exact trivial | exact rfl | with_reducible assumption | (refine ⟨_, rfl, ?_⟩) | (refine ⟨_, _, rfl, rfl, ?_⟩) | (refine And.intro ?_ ?_) | (refine Or.inl ⟨rfl, rfl, ?_⟩) | (refine Or.inl ⟨rfl, ?_⟩; focus (fail_if_success (refine And.intro ?_ ?_))) | (refine Or.inl (?_ : (_ : Nat) = _ ∧ _); refine ⟨?_, ?_⟩; focus (first | (simp only [List.length_map]; done) | (simp only [List.length_map, List.length_append, List.length_cons, List.length_nil]; done))) | exact Or.inl rfl | (refine Or.inr (Or.inr ⟨?_, ?_⟩)) | (refine Or.inr ⟨?_, ?_⟩) | (refine fun h => ?_; first | exact h | exact rfl | (cases h; done)) | (refine om8 ?_; simp only [← List.map_drop, ← List.map_take]; exact rfl) | ((first | refine om1 ?_ | refine om2 ?_ | refine om3 ?_ | refine om4 ?_ | refine om5 ?_ | refine om6 ?_ | refine om7 ?_); first | (simp only [List.length_map]; done) | (simp only [List.length_map]; omega) | omega))))
      · exact RetP.v rfl
  · repeat' (conv => whnf
             first
             | (refine get_id ?_; first | refine Get.mk _ rfl ?_)
             | (refine need_id ?_; first | refine Need.a ?_)
             | (refine eqk_id ?_; first | refine EqK.a ?_)
             | (refine br_id ?_; first | refine Br.t ?_ | refine Br.f ?_ | (refine Br.pos ?_ ?_; focus (with_reducible assumption)) | (refine Br.neg ?_ ?_; focus (with_reducible assumption)) | (refine Br.dpos ?_ ?_; focus (first | with_reducible exact rfl | with_reducible exact Int.le_refl _ | with_reducible assumption)) | (refine Br.dneg ?_ ?_; focus (with_reducible assumption)) | (refine Br.d (fun _ => ?_) (fun _ => ?_) <;> (first | (exfalso; omega; done) | skip)) | refine Br.n ?_ | (refine Br.s (fun _ => ?_) (fun _ => ?_) <;> (first | (exfalso; omega; done) | skip)) | (refine Br.mk (fun _ => ?_) (fun _ => ?_) <;> (first | (exfalso; omega; done) | skip)))
             | (refine regv_id ?_; first | refine RegV.q ?_)
             | (refine gds_id ?_; apply GdS.mk)
             | (refine and_id ?_; exact ⟨rfl, rfl, rfl⟩)
             | (refine imp_id ?_; first | refine imp_s (fun _ => ?_) | refine fun _ => ?_)
             | refine NilB.mk (fun b hb => ?_)
             | (refine alv_and ?_ ?_; focus (first | rfl | done))
             | refine DrawV.mk [] ?_
             | (refine appc_id ?_; first | refine AppC.growA ?_ | refine AppC.place ?_)
             | (refine call_id ?_; first
                  | refine CallV.c (wakes13_pcon) ?_
                  | refine CallV.e (wakes13_pcon) ?_)
             | (refine calls_id ?_; first
                  | refine CallS.c (wakes13_pcon) ?_
                  | refine CallS.e (wakes13_pcon) ?_))
    all_goals (try (conv => whnf))
    exact RetP.v rfl
end Go.Proofs.Ytammndlghfknbaa
