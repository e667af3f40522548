/- The law HalfDelivers: its walk. (Printed by gen_halfd.py.) -/
import Derived.Test.YtammndlghfknbaaHalfD
set_option linter.unusedSimpArgs false
set_option maxRecDepth 20000
set_option linter.unusedVariables false
namespace Go.Proofs.Ytammndlghfknbaa
open Go Go.Eng Go.RowKit

abbrev mvX (ms : List Mv) : Sv := .ext false 3 (ms.map Mv.row)
def Hid (p : Prop) : Prop := p
structure Ds where
  i : Nat
  F : Edge
  T : Edge
  P : List Msg
  u : List Car
  C : List Msg
def Ds.ok (s : Ds) : Prop := ∃ b p c, s.F = fromE b p ∧ s.T = toE c ∧ s.P = Pn p ∧ s.C = Pn c ∧ b ≤ c ∧ c ≤ p ∧ p ≤ s.i ∧ s.u.length ≤ s.i ∧ ∀ x ∈ s.u, Car.ok c p x
theorem mv_get (ms : List Mv) {n : Nat} (k : Nat) (hn : n = k) (h : k < ms.length) : nth (ms.map Mv.row) n = some (Mv.row ms[k]) := nth_map Mv.row ms k hn h
theorem car_get (u : List Car) {n : Nat} (k : Nat) (hn : n = k) (h : k < u.length) : nth (u.map Car.row) n = some (Car.row u[k]) := nth_map Car.row u k hn h
set_option maxRecDepth 20000 in
set_option maxHeartbeats 4000000 in
theorem halfDelivers_pcon (ms : List Mv) (h : ms.length * 24 ≤ 140737488351232) : PCon Try.prog 8 [mvX ms] (Bo true) [] := by
  refine pcon_of (G := gm) Try.func8 rfl rfl rfl ?_
  repeat' (conv => whnf
           first
           | (refine get_id ?_; first | refine Get.mk _ rfl ?_)
           | (refine need_id ?_; first | refine Need.a ?_)
           | (refine eqk_id ?_; first | refine EqK.a ?_)
           | (refine br_id ?_; first | refine Br.t ?_ | refine Br.f ?_ | (refine Br.pos ?_ ?_; focus (with_reducible assumption)) | (refine Br.neg ?_ ?_; focus (with_reducible assumption)) | (refine Br.dpos ?_ ?_; focus (first | with_reducible exact rfl | with_reducible exact Int.le_refl _ | with_reducible assumption)) | (refine Br.dneg ?_ ?_; focus (with_reducible assumption)) | (refine Br.d (fun _ => ?_) (fun _ => ?_) <;> (first | (exfalso; omega; done) | skip)) | refine Br.n ?_ | (refine Br.s (fun _ => ?_) (fun _ => ?_) <;> (first | (exfalso; omega; done) | skip)) | (refine Br.mk (fun _ => ?_) (fun _ => ?_) <;> (first | (exfalso; omega; done) | skip)))
           | (refine regv_id ?_; first | refine RegV.d ?_)
           | refine NilB.mk (fun b hb => ?_)
           | (refine alv_and ?_ ?_; focus (first | rfl | done))
           | refine DrawV.mk [] ?_
           | (refine appc_id ?_; first | refine AppC.growA ?_ | refine AppC.place ?_)
           | (refine call_id ?_; first
                | refine CallV.c (wakes_pcon) ?_
                | refine CallV.e (wakes_pcon) ?_)
           | (refine calls_id ?_; first
                | refine CallS.c (wakes_pcon) ?_
                | refine CallS.e (wakes_pcon) ?_))
  all_goals (try (conv => whnf))
  · exact RetP.v rfl
  rename_i hlen
  refine LoopV.on (σ := Ds) rfl (fun s => [(2, .ptr 0 0 0), (3, .ptr 1 0 0), (4, .ptr 2 0 0), (5, .ptr 3 0 0), (6, .own 9 s.C.length), (7, .ptr 4 0 0), (33, mvX ms), (34, I ms.length), (35, I s.i)]) (fun s => [some ⟨4, 1, true, false, [[Bo false]]⟩, some ⟨24, 4, false, false, [[I s.F.peer, I s.F.base, .own 5 s.F.out.length, I s.F.seen]]⟩, some ⟨24, 4, false, false, [[I s.T.peer, I s.T.base, .own 6 s.T.out.length, I s.T.seen]]⟩, some ⟨22, 1, false, false, [[.own 7 s.P.length]]⟩, some ⟨44, 1, false, false, [[.own 8 s.u.length]]⟩, some (msgB s.F.out), some (msgB s.T.out), some (msgB s.P), some (carB s.u), some (msgB s.C)]) (fun s => s.i ≤ ms.length ∧ s.ok) (fun s => ms.length - s.i) ⟨0, fromE 0 0, toE 0, [], [], []⟩ ?_ ⟨Nat.zero_le _, 0, 0, 0, rfl, rfl, rfl, rfl, by simp⟩ ?_
  · refine AtS.mk [(26, 5), (26, 5), (26, 5), (48, 7), (26, 5)] [0, 1, 2, 3, 4, 5, 6, 7, 8, 9] rfl (by simp) rfl ?_ ?_
    · (repeat' (first | exact trivial | exact rfl | with_reducible assumption | (refine And.intro ?_ ?_) | (refine Exists.intro _ (And.intro rfl ?_)) | (refine Exists.intro _ (Exists.intro _ (And.intro rfl (And.intro rfl ?_)))) | (refine Or.inl ⟨rfl, rfl, ?_⟩) | (refine Or.inl ⟨rfl, ?_⟩; focus (fail_if_success (refine And.intro ?_ ?_))) | (refine Or.inl (?_ : (_ : Nat) = _ ∧ _); refine ⟨?_, ?_⟩; focus (first | (simp only [List.length_map]; done) | (simp only [List.length_map, List.length_append, List.length_cons, List.length_nil]; done))) | exact Or.inl rfl | (refine Or.inr (Or.inr ⟨?_, ?_⟩)) | (refine Or.inr ⟨?_, ?_⟩) | (refine fun h => ?_; first | exact h | exact rfl | (cases h; done)) | (refine om8 ?_; simp only [← List.map_drop, ← List.map_take]; exact rfl) | ((first | refine om1 ?_ | refine om2 ?_ | refine om3 ?_ | refine om4 ?_ | refine om5 ?_ | refine om6 ?_ | refine om7 ?_); first | (simp only [List.length_map]; done) | (simp only [List.length_map]; omega) | omega)))
    · (repeat' (first | exact trivial | exact rfl | with_reducible assumption | (refine And.intro ?_ ?_) | (refine Exists.intro _ (And.intro rfl ?_)) | (refine Exists.intro _ (Exists.intro _ (And.intro rfl (And.intro rfl ?_)))) | (refine Or.inl ⟨rfl, rfl, ?_⟩) | (refine Or.inl ⟨rfl, ?_⟩; focus (fail_if_success (refine And.intro ?_ ?_))) | (refine Or.inl (?_ : (_ : Nat) = _ ∧ _); refine ⟨?_, ?_⟩; focus (first | (simp only [List.length_map]; done) | (simp only [List.length_map, List.length_append, List.length_cons, List.length_nil]; done))) | exact Or.inl rfl | (refine Or.inr (Or.inr ⟨?_, ?_⟩)) | (refine Or.inr ⟨?_, ?_⟩) | (refine fun h => ?_; first | exact h | exact rfl | (cases h; done)) | (refine om8 ?_; simp only [← List.map_drop, ← List.map_take]; exact rfl) | ((first | refine om1 ?_ | refine om2 ?_ | refine om3 ?_ | refine om4 ?_ | refine om5 ?_ | refine om6 ?_ | refine om7 ?_); first | (simp only [List.length_map]; done) | (simp only [List.length_map]; omega) | omega)))
  rintro ⟨i, F, T, P, u, C⟩ ⟨hi, b, p, c, hF, hT, hP, hC, hbc, hcp, hpi, hui, hcar⟩
  dsimp only at hi hF hT hP hC hpi hui hcar
  rcases Nat.lt_or_ge i ms.length with him | him
  case inr =>
    dsimp only
    repeat' (conv => whnf
             first
             | (refine get_id ?_; first | refine Get.mk _ rfl ?_)
             | (refine need_id ?_; first | refine Need.a ?_)
             | (refine eqk_id ?_; first | refine EqK.a ?_)
             | (refine br_id ?_; first | refine Br.t ?_ | refine Br.f ?_ | (refine Br.pos ?_ ?_; focus (with_reducible assumption)) | (refine Br.neg ?_ ?_; focus (with_reducible assumption)) | (refine Br.dpos ?_ ?_; focus (first | with_reducible exact rfl | with_reducible exact Int.le_refl _ | with_reducible assumption)) | (refine Br.dneg ?_ ?_; focus (with_reducible assumption)) | (refine Br.d (fun _ => ?_) (fun _ => ?_) <;> (first | (exfalso; omega; done) | skip)) | refine Br.n ?_ | (refine Br.s (fun _ => ?_) (fun _ => ?_) <;> (first | (exfalso; omega; done) | skip)) | (refine Br.mk (fun _ => ?_) (fun _ => ?_) <;> (first | (exfalso; omega; done) | skip)))
             | (refine regv_id ?_; first | refine RegV.d ?_)
             | refine NilB.mk (fun b hb => ?_)
             | (refine alv_and ?_ ?_; focus (first | rfl | done))
             | refine DrawV.mk [] ?_
             | (refine appc_id ?_; first | refine AppC.growA ?_ | refine AppC.place ?_))
    all_goals (try (conv => whnf))
    exact RetP.v rfl
  have hg := mv_get ms i rfl him
  generalize ms[i] = m at hg
  obtain ⟨k, a, n⟩ := m
  replace hg : nth (ms.map Mv.row) i = some [I k, I a, I n] := hg
  have hPl : P.length = p := by rw [hP, Pn_len]
  have hCl : C.length = c := by rw [hC, Pn_len]
  have hFl : F.out.length = p - b := by rw [hF, fromE_len]
  have hTl : T.out.length = 0 := by rw [hT]; rfl
  have hFb : F.base = b := by rw [hF]; rfl
  have hTs : T.seen = c := by rw [hT]; rfl
  have hPg : ∀ j, j < p → ∀ n, n = j → nth (P.map Msg.row) n = some (pm j).row := fun j hj n hn => by
    rw [nth_map Msg.row P j hn (by omega)]; subst hP; rw [Pn_get]
  have hCg : ∀ j, j < c → ∀ n, n = j → nth (C.map Msg.row) n = some (pm j).row := fun j hj n hn => by
    rw [nth_map Msg.row C j hn (by omega)]; subst hC; rw [Pn_get]
  have gT := good_pcon T false (by omega)
  rw [hT, toE_good (by omega), ← hT] at gT
  have gF := good_pcon F false (by omega)
  rw [hF, fromE_good (by omega) (by omega), ← hF] at gF
  dsimp only
  have cl := left_pcon F false T.seen (by omega)
  have ic := left1_icon F T.seen (by omega)
  rw [show leftS F T.seen = lst c p by rw [hF, hTs]; exact left_from hbc hcp (by omega)] at ic
  by_cases hko : k < 0 ∨ 4 < k
  · repeat' (conv => whnf
             first
             | (refine get_id ?_; first | refine Get.mk _ rfl ?_ | refine Get.mk _ (hg) ?_)
             | (refine need_id ?_; first | refine Need.a ?_)
             | (refine eqk_id ?_; first | refine EqK.a ?_)
             | (refine br_id ?_; first | refine Br.t ?_ | refine Br.f ?_ | (refine Br.pos ?_ ?_; focus (with_reducible assumption)) | (refine Br.neg ?_ ?_; focus (with_reducible assumption)) | (refine Br.dpos ?_ ?_; focus (first | with_reducible exact rfl | with_reducible exact Int.le_refl _ | with_reducible assumption)) | (refine Br.dneg ?_ ?_; focus (with_reducible assumption)) | (refine Br.d (fun _ => ?_) (fun _ => ?_) <;> (first | (exfalso; omega; done) | skip)) | refine Br.n ?_ | (refine Br.s (fun _ => ?_) (fun _ => ?_) <;> (first | (exfalso; omega; done) | skip)) | (refine Br.mk (fun _ => ?_) (fun _ => ?_) <;> (first | (exfalso; omega; done) | skip)))
             | (refine regv_id ?_; first | refine RegV.qg ?_ | refine RegV.d ?_)
             | (refine gds_id ?_; apply GdS.mk)
             | (refine and_id ?_; exact ⟨rfl, rfl, rfl⟩)
             | (refine imp_id ?_; first | refine imp_s (fun _ => ?_) | refine fun _ => ?_)
             | refine NilB.mk (fun b hb => ?_)
             | (refine alv_and ?_ ?_; focus (first | rfl | done))
             | refine DrawV.mk [] ?_
             | (refine appc_id ?_; first | refine AppC.growA ?_ | refine AppC.place ?_)
             | (refine call_id ?_; first
                  | refine CallV.c (gF) ?_
                  | refine CallV.c (gT) ?_
                  | refine CallV.e (gF) ?_
                  | refine CallV.e (gT) ?_)
             | (refine calls_id ?_; first
                  | refine CallS.c (gF) ?_
                  | refine CallS.c (gT) ?_
                  | refine CallS.e (gF) ?_
                  | refine CallS.e (gT) ?_))
    all_goals (try (conv => whnf))
    refine LoopV.on (σ := Nat) rfl (fun j => [(2, .ptr 0 0 0), (3, .ptr 1 0 0), (4, .ptr 2 0 0), (5, .ptr 3 0 0), (6, .own 9 C.length), (7, .ptr 4 0 0), (33, mvX ms), (34, I ms.length), (35, I i), (180, .own 9 C.length), (181, I ((C.length : Nat))), (182, I j)]) (fun _ => [some ⟨4, 1, true, false, [[Bo false]]⟩, some ⟨24, 4, false, false, [[I F.peer, I F.base, .own 5 F.out.length, I F.seen]]⟩, some ⟨24, 4, false, false, [[I T.peer, I T.base, .own 6 T.out.length, I T.seen]]⟩, some ⟨22, 1, false, false, [[.own 7 P.length]]⟩, some ⟨44, 1, false, false, [[.own 8 u.length]]⟩, some (msgB F.out), some (msgB T.out), some (msgB P), some (carB u), some (msgB C)]) (fun j => j ≤ c) (fun j => c - j) 0 ?_ (Nat.zero_le _) ?_
    · refine AtS.mk [] [0, 1, 2, 3, 4, 5, 6, 7, 8, 9] rfl (by simp) rfl ?_ ?_
      · (repeat' (first | exact trivial | exact rfl | with_reducible assumption | (refine And.intro ?_ ?_) | (refine Exists.intro _ (And.intro rfl ?_)) | (refine Exists.intro _ (Exists.intro _ (And.intro rfl (And.intro rfl ?_)))) | (refine Or.inl ⟨rfl, rfl, ?_⟩) | (refine Or.inl ⟨rfl, ?_⟩; focus (fail_if_success (refine And.intro ?_ ?_))) | (refine Or.inl (?_ : (_ : Nat) = _ ∧ _); refine ⟨?_, ?_⟩; focus (first | (simp only [List.length_map]; done) | (simp only [List.length_map, List.length_append, List.length_cons, List.length_nil]; done))) | exact Or.inl rfl | (refine Or.inr (Or.inr ⟨?_, ?_⟩)) | (refine Or.inr ⟨?_, ?_⟩) | (refine fun h => ?_; first | exact h | exact rfl | (cases h; done)) | (refine om8 ?_; simp only [← List.map_drop, ← List.map_take]; exact rfl) | ((first | refine om1 ?_ | refine om2 ?_ | refine om3 ?_ | refine om4 ?_ | refine om5 ?_ | refine om6 ?_ | refine om7 ?_); first | (simp only [List.length_map]; done) | (simp only [List.length_map]; omega) | omega)))
        all_goals first | assumption | omega | (simp; omega)
      · (repeat' (first | exact trivial | exact rfl | with_reducible assumption | (refine And.intro ?_ ?_) | (refine Exists.intro _ (And.intro rfl ?_)) | (refine Exists.intro _ (Exists.intro _ (And.intro rfl (And.intro rfl ?_)))) | (refine Or.inl ⟨rfl, rfl, ?_⟩) | (refine Or.inl ⟨rfl, ?_⟩; focus (fail_if_success (refine And.intro ?_ ?_))) | (refine Or.inl (?_ : (_ : Nat) = _ ∧ _); refine ⟨?_, ?_⟩; focus (first | (simp only [List.length_map]; done) | (simp only [List.length_map, List.length_append, List.length_cons, List.length_nil]; done))) | exact Or.inl rfl | (refine Or.inr (Or.inr ⟨?_, ?_⟩)) | (refine Or.inr ⟨?_, ?_⟩) | (refine fun h => ?_; first | exact h | exact rfl | (cases h; done)) | (refine om8 ?_; simp only [← List.map_drop, ← List.map_take]; exact rfl) | ((first | refine om1 ?_ | refine om2 ?_ | refine om3 ?_ | refine om4 ?_ | refine om5 ?_ | refine om6 ?_ | refine om7 ?_); first | (simp only [List.length_map]; done) | (simp only [List.length_map]; omega) | omega)))
        all_goals first | assumption | omega | (simp; omega)
    intro j hj
    rcases Nat.lt_or_ge j (c) with hjc | hjc
    · have g1 := hCg j hjc
      have g2 := hPg j (by omega)
      generalize pm j = x at g1 g2
      repeat' (conv => whnf
               first
               | (refine get_id ?_; first | refine Get.mk _ rfl ?_ | refine Get.mk _ (g1 _ rfl) ?_ | refine Get.mk _ (g2 _ (by omega)) ?_)
               | (refine need_id ?_; first | refine Need.a ?_)
               | (refine eqk_id ?_; first | refine EqK.a ?_)
               | (refine br_id ?_; first | refine Br.t ?_ | refine Br.f ?_ | (refine Br.pos ?_ ?_; focus (with_reducible assumption)) | (refine Br.neg ?_ ?_; focus (with_reducible assumption)) | (refine Br.dpos ?_ ?_; focus (first | with_reducible exact rfl | with_reducible exact Int.le_refl _ | with_reducible assumption)) | (refine Br.dneg ?_ ?_; focus (with_reducible assumption)) | (refine Br.d (fun _ => ?_) (fun _ => ?_) <;> (first | (exfalso; omega; done) | skip)) | refine Br.n ?_ | (refine Br.s (fun _ => ?_) (fun _ => ?_) <;> (first | (exfalso; omega; done) | skip)) | (refine Br.mk (fun _ => ?_) (fun _ => ?_) <;> (first | (exfalso; omega; done) | skip)))
               | (refine regv_id ?_; first | refine RegV.qg ?_ | refine RegV.d ?_)
               | (refine gds_id ?_; apply GdS.mk)
               | (refine and_id ?_; exact ⟨rfl, rfl, rfl⟩)
               | (refine imp_id ?_; first | refine imp_s (fun _ => ?_) | refine fun _ => ?_)
               | refine NilB.mk (fun b hb => ?_)
               | (refine alv_and ?_ ?_; focus (first | rfl | done))
               | refine DrawV.mk [] ?_
               | (refine appc_id ?_; first | refine AppC.growA ?_ | refine AppC.place ?_))
      all_goals (try (conv => whnf))
      · refine nx (j + 1) (by omega) (by omega) (AtS.mk [] [0, 1, 2, 3, 4, 5, 6, 7, 8, 9] rfl (by simp) rfl ?_ ?_)
        · (repeat' (first | exact trivial | exact rfl | with_reducible assumption | (refine And.intro ?_ ?_) | (refine Exists.intro _ (And.intro rfl ?_)) | (refine Exists.intro _ (Exists.intro _ (And.intro rfl (And.intro rfl ?_)))) | (refine Or.inl ⟨rfl, rfl, ?_⟩) | (refine Or.inl ⟨rfl, ?_⟩; focus (fail_if_success (refine And.intro ?_ ?_))) | (refine Or.inl (?_ : (_ : Nat) = _ ∧ _); refine ⟨?_, ?_⟩; focus (first | (simp only [List.length_map]; done) | (simp only [List.length_map, List.length_append, List.length_cons, List.length_nil]; done))) | exact Or.inl rfl | (refine Or.inr (Or.inr ⟨?_, ?_⟩)) | (refine Or.inr ⟨?_, ?_⟩) | (refine fun h => ?_; first | exact h | exact rfl | (cases h; done)) | (refine om8 ?_; simp only [← List.map_drop, ← List.map_take]; exact rfl) | ((first | refine om1 ?_ | refine om2 ?_ | refine om3 ?_ | refine om4 ?_ | refine om5 ?_ | refine om6 ?_ | refine om7 ?_); first | (simp only [List.length_map]; done) | (simp only [List.length_map]; omega) | omega)))
        · (repeat' (first | exact trivial | exact rfl | with_reducible assumption | (refine And.intro ?_ ?_) | (refine Exists.intro _ (And.intro rfl ?_)) | (refine Exists.intro _ (Exists.intro _ (And.intro rfl (And.intro rfl ?_)))) | (refine Or.inl ⟨rfl, rfl, ?_⟩) | (refine Or.inl ⟨rfl, ?_⟩; focus (fail_if_success (refine And.intro ?_ ?_))) | (refine Or.inl (?_ : (_ : Nat) = _ ∧ _); refine ⟨?_, ?_⟩; focus (first | (simp only [List.length_map]; done) | (simp only [List.length_map, List.length_append, List.length_cons, List.length_nil]; done))) | exact Or.inl rfl | (refine Or.inr (Or.inr ⟨?_, ?_⟩)) | (refine Or.inr ⟨?_, ?_⟩) | (refine fun h => ?_; first | exact h | exact rfl | (cases h; done)) | (refine om8 ?_; simp only [← List.map_drop, ← List.map_take]; exact rfl) | ((first | refine om1 ?_ | refine om2 ?_ | refine om3 ?_ | refine om4 ?_ | refine om5 ?_ | refine om6 ?_ | refine om7 ?_); first | (simp only [List.length_map]; done) | (simp only [List.length_map]; omega) | omega)))
      · exfalso
        rename_i hx
        simp at hx
    · repeat' (conv => whnf
               first
               | (refine get_id ?_; first | refine Get.mk _ rfl ?_)
               | (refine need_id ?_; first | refine Need.a ?_)
               | (refine eqk_id ?_; first | refine EqK.a ?_)
               | (refine br_id ?_; first | refine Br.t ?_ | refine Br.f ?_ | (refine Br.pos ?_ ?_; focus (with_reducible assumption)) | (refine Br.neg ?_ ?_; focus (with_reducible assumption)) | (refine Br.dpos ?_ ?_; focus (first | with_reducible exact rfl | with_reducible exact Int.le_refl _ | with_reducible assumption)) | (refine Br.dneg ?_ ?_; focus (with_reducible assumption)) | (refine Br.d (fun _ => ?_) (fun _ => ?_) <;> (first | (exfalso; omega; done) | skip)) | refine Br.n ?_ | (refine Br.s (fun _ => ?_) (fun _ => ?_) <;> (first | (exfalso; omega; done) | skip)) | (refine Br.mk (fun _ => ?_) (fun _ => ?_) <;> (first | (exfalso; omega; done) | skip)))
               | (refine regv_id ?_; first | refine RegV.qg ?_ | refine RegV.d ?_)
               | (refine gds_id ?_; apply GdS.mk)
               | (refine and_id ?_; exact ⟨rfl, rfl, rfl⟩)
               | (refine imp_id ?_; first | refine imp_s (fun _ => ?_) | refine fun _ => ?_)
               | refine NilB.mk (fun b hb => ?_)
               | (refine alv_and ?_ ?_; focus (first | rfl | done))
               | refine DrawV.mk [] ?_
               | (refine appc_id ?_; first | refine AppC.growA ?_ | refine AppC.place ?_)
               | (refine call_id ?_; first
                    | refine CallV.c (cl) ?_
                    | refine CallV.e (cl) ?_)
               | (refine calls_id ?_; first
                    | refine CallS.c (cl) ?_
                    | refine CallS.e (cl) ?_))
      all_goals (try (conv => whnf))
      refine RangeV.on rfl (lst (c) (p)) leftIt 11 48 (leftCaps F T.seen) [(2, .ptr 0 0 0), (3, .ptr 1 0 0), (4, .ptr 2 0 0), (5, .ptr 3 0 0), (6, .own 9 C.length), (7, .ptr 4 0 0), (23, .ptr 10 0 0), (33, mvX ms), (34, I ms.length), (35, I i), (199, .clo 48 (leftCaps F T.seen))]
        (fun j : Nat => [some ⟨4, 1, true, false, [[Bo false]]⟩, some ⟨24, 4, false, false, [[I F.peer, I F.base, .own 5 F.out.length, I F.seen]]⟩, some ⟨24, 4, false, false, [[I T.peer, I T.base, .own 6 T.out.length, I T.seen]]⟩, some ⟨22, 1, false, false, [[.own 7 P.length]]⟩, some ⟨44, 1, false, false, [[.own 8 u.length]]⟩, some (msgB F.out), some (msgB T.out), some (msgB P), some (carB u), some (msgB C), some ⟨3, 1, true, false, [[I ((c + j : Nat))]]⟩])
        (fun j s => s = j) 0 ic ?_ rfl rfl rfl (fun x => ⟨rfl, rfl⟩) (Nat.zero_le _) rfl (fun _ => rfl) ?_ ?_
      · refine AtS.mk [] [0, 1, 2, 3, 4, 5, 6, 7, 8, 9, 10] rfl (by simp) rfl ?_ ?_
        · (repeat' (first | exact trivial | exact rfl | with_reducible assumption | (refine And.intro ?_ ?_) | (refine Exists.intro _ (And.intro rfl ?_)) | (refine Exists.intro _ (Exists.intro _ (And.intro rfl (And.intro rfl ?_)))) | (refine Or.inl ⟨rfl, rfl, ?_⟩) | (refine Or.inl ⟨rfl, ?_⟩; focus (fail_if_success (refine And.intro ?_ ?_))) | (refine Or.inl (?_ : (_ : Nat) = _ ∧ _); refine ⟨?_, ?_⟩; focus (first | (simp only [List.length_map]; done) | (simp only [List.length_map, List.length_append, List.length_cons, List.length_nil]; done))) | exact Or.inl rfl | (refine Or.inr (Or.inr ⟨?_, ?_⟩)) | (refine Or.inr ⟨?_, ?_⟩) | (refine fun h => ?_; first | exact h | exact rfl | (cases h; done)) | (refine om8 ?_; simp only [← List.map_drop, ← List.map_take]; exact rfl) | ((first | refine om1 ?_ | refine om2 ?_ | refine om3 ?_ | refine om4 ?_ | refine om5 ?_ | refine om6 ?_ | refine om7 ?_); first | (simp only [List.length_map]; done) | (simp only [List.length_map]; omega) | omega)))
          all_goals (simp; omega)
        · unfold leftCaps
          (repeat' (first | exact trivial | exact rfl | with_reducible assumption | (refine And.intro ?_ ?_) | (refine Exists.intro _ (And.intro rfl ?_)) | (refine Exists.intro _ (Exists.intro _ (And.intro rfl (And.intro rfl ?_)))) | (refine Or.inl ⟨rfl, rfl, ?_⟩) | (refine Or.inl ⟨rfl, ?_⟩; focus (fail_if_success (refine And.intro ?_ ?_))) | (refine Or.inl (?_ : (_ : Nat) = _ ∧ _); refine ⟨?_, ?_⟩; focus (first | (simp only [List.length_map]; done) | (simp only [List.length_map, List.length_append, List.length_cons, List.length_nil]; done))) | exact Or.inl rfl | (refine Or.inr (Or.inr ⟨?_, ?_⟩)) | (refine Or.inr ⟨?_, ?_⟩) | (refine fun h => ?_; first | exact h | exact rfl | (cases h; done)) | (refine om8 ?_; simp only [← List.map_drop, ← List.map_take]; exact rfl) | ((first | refine om1 ?_ | refine om2 ?_ | refine om3 ?_ | refine om4 ?_ | refine om5 ?_ | refine om6 ?_ | refine om7 ?_); first | (simp only [List.length_map]; done) | (simp only [List.length_map]; omega) | omega)))
      · rintro _ hj1 j rfl
        have hj2 := hj1
        rw [lst_len] at hj2
        rw [lst_get hj1]
        have g2 := hPg (c + j) (by omega)
        generalize pm (c + j) = x at g2
        repeat' (conv => whnf
                 first
                 | (refine get_id ?_; first | refine Get.mk _ rfl ?_ | refine Get.mk _ (g2 _ (by omega)) ?_)
                 | (refine need_id ?_; first | refine Need.a ?_)
                 | (refine eqk_id ?_; first | refine EqK.a ?_)
                 | (refine br_id ?_; first | refine Br.t ?_ | refine Br.f ?_ | (refine Br.pos ?_ ?_; focus (with_reducible assumption)) | (refine Br.neg ?_ ?_; focus (with_reducible assumption)) | (refine Br.dpos ?_ ?_; focus (first | with_reducible exact rfl | with_reducible exact Int.le_refl _ | with_reducible assumption)) | (refine Br.dneg ?_ ?_; focus (with_reducible assumption)) | (refine Br.d (fun _ => ?_) (fun _ => ?_) <;> (first | (exfalso; omega; done) | skip)) | refine Br.n ?_ | (refine Br.s (fun _ => ?_) (fun _ => ?_) <;> (first | (exfalso; omega; done) | skip)) | (refine Br.mk (fun _ => ?_) (fun _ => ?_) <;> (first | (exfalso; omega; done) | skip)))
                 | (refine regv_id ?_; first | refine RegV.qg ?_ | refine RegV.d ?_)
                 | (refine gds_id ?_; apply GdS.mk)
                 | (refine and_id ?_; exact ⟨rfl, rfl, rfl⟩)
                 | (refine imp_id ?_; first | refine imp_s (fun _ => ?_) | refine fun _ => ?_)
                 | refine NilB.mk (fun b hb => ?_)
                 | (refine alv_and ?_ ?_; focus (first | rfl | done))
                 | refine DrawV.mk [] ?_
                 | (refine appc_id ?_; first | refine AppC.growA ?_ | refine AppC.place ?_))
        all_goals (try (conv => whnf))
        refine nxr (j + 1) rfl (AtS.mk [] [0, 1, 2, 3, 4, 5, 6, 7, 8, 9, 10] rfl (by simp) rfl ?_ ?_)
        · (repeat' (first | exact trivial | exact rfl | with_reducible assumption | (refine And.intro ?_ ?_) | (refine Exists.intro _ (And.intro rfl ?_)) | (refine Exists.intro _ (Exists.intro _ (And.intro rfl (And.intro rfl ?_)))) | (refine Or.inl ⟨rfl, rfl, ?_⟩) | (refine Or.inl ⟨rfl, ?_⟩; focus (fail_if_success (refine And.intro ?_ ?_))) | (refine Or.inl (?_ : (_ : Nat) = _ ∧ _); refine ⟨?_, ?_⟩; focus (first | (simp only [List.length_map]; done) | (simp only [List.length_map, List.length_append, List.length_cons, List.length_nil]; done))) | exact Or.inl rfl | (refine Or.inr (Or.inr ⟨?_, ?_⟩)) | (refine Or.inr ⟨?_, ?_⟩) | (refine fun h => ?_; first | exact h | exact rfl | (cases h; done)) | (refine om8 ?_; simp only [← List.map_drop, ← List.map_take]; exact rfl) | ((first | refine om1 ?_ | refine om2 ?_ | refine om3 ?_ | refine om4 ?_ | refine om5 ?_ | refine om6 ?_ | refine om7 ?_); first | (simp only [List.length_map]; done) | (simp only [List.length_map]; omega) | omega)))
        · (repeat' (first | exact trivial | exact rfl | with_reducible assumption | (refine And.intro ?_ ?_) | (refine Exists.intro _ (And.intro rfl ?_)) | (refine Exists.intro _ (Exists.intro _ (And.intro rfl (And.intro rfl ?_)))) | (refine Or.inl ⟨rfl, rfl, ?_⟩) | (refine Or.inl ⟨rfl, ?_⟩; focus (fail_if_success (refine And.intro ?_ ?_))) | (refine Or.inl (?_ : (_ : Nat) = _ ∧ _); refine ⟨?_, ?_⟩; focus (first | (simp only [List.length_map]; done) | (simp only [List.length_map, List.length_append, List.length_cons, List.length_nil]; done))) | exact Or.inl rfl | (refine Or.inr (Or.inr ⟨?_, ?_⟩)) | (refine Or.inr ⟨?_, ?_⟩) | (refine fun h => ?_; first | exact h | exact rfl | (cases h; done)) | (refine om8 ?_; simp only [← List.map_drop, ← List.map_take]; exact rfl) | ((first | refine om1 ?_ | refine om2 ?_ | refine om3 ?_ | refine om4 ?_ | refine om5 ?_ | refine om6 ?_ | refine om7 ?_); first | (simp only [List.length_map]; done) | (simp only [List.length_map]; omega) | omega)))
      · rintro j rfl
        rw [lst_len]
        repeat' (conv => whnf
                 first
                 | (refine get_id ?_; first | refine Get.mk _ rfl ?_)
                 | (refine need_id ?_; first | refine Need.a ?_)
                 | (refine eqk_id ?_; first | refine EqK.a ?_)
                 | (refine br_id ?_; first | refine Br.t ?_ | refine Br.f ?_ | (refine Br.pos ?_ ?_; focus (with_reducible assumption)) | (refine Br.neg ?_ ?_; focus (with_reducible assumption)) | (refine Br.dpos ?_ ?_; focus (first | with_reducible exact rfl | with_reducible exact Int.le_refl _ | with_reducible assumption)) | (refine Br.dneg ?_ ?_; focus (with_reducible assumption)) | (refine Br.d (fun _ => ?_) (fun _ => ?_) <;> (first | (exfalso; omega; done) | skip)) | refine Br.n ?_ | (refine Br.s (fun _ => ?_) (fun _ => ?_) <;> (first | (exfalso; omega; done) | skip)) | (refine Br.mk (fun _ => ?_) (fun _ => ?_) <;> (first | (exfalso; omega; done) | skip)))
                 | (refine regv_id ?_; first | refine RegV.qg ?_ | refine RegV.d ?_)
                 | (refine gds_id ?_; apply GdS.mk)
                 | (refine and_id ?_; exact ⟨rfl, rfl, rfl⟩)
                 | (refine imp_id ?_; first | refine imp_s (fun _ => ?_) | refine fun _ => ?_)
                 | refine NilB.mk (fun b hb => ?_)
                 | (refine alv_and ?_ ?_; focus (first | rfl | done))
                 | refine DrawV.mk [] ?_
                 | (refine appc_id ?_; first | refine AppC.growA ?_ | refine AppC.place ?_))
        all_goals (try (conv => whnf))
        refine nx ⟨i + 1, F, T, P, u, C⟩ (by simp only; omega) ⟨by simp only; omega, b, p, c, hF, hT, hP, hC, hbc, hcp, by simp only; omega, by simp only; omega, hcar⟩ (AtS.mk [] [0, 1, 2, 3, 4, 5, 6, 7, 8, 9] rfl (by simp) rfl ?_ ?_)
        · (repeat' (first | exact trivial | exact rfl | with_reducible assumption | (refine And.intro ?_ ?_) | (refine Exists.intro _ (And.intro rfl ?_)) | (refine Exists.intro _ (Exists.intro _ (And.intro rfl (And.intro rfl ?_)))) | (refine Or.inl ⟨rfl, rfl, ?_⟩) | (refine Or.inl ⟨rfl, ?_⟩; focus (fail_if_success (refine And.intro ?_ ?_))) | (refine Or.inl (?_ : (_ : Nat) = _ ∧ _); refine ⟨?_, ?_⟩; focus (first | (simp only [List.length_map]; done) | (simp only [List.length_map, List.length_append, List.length_cons, List.length_nil]; done))) | exact Or.inl rfl | (refine Or.inr (Or.inr ⟨?_, ?_⟩)) | (refine Or.inr ⟨?_, ?_⟩) | (refine fun h => ?_; first | exact h | exact rfl | (cases h; done)) | (refine om8 ?_; simp only [← List.map_drop, ← List.map_take]; exact rfl) | ((first | refine om1 ?_ | refine om2 ?_ | refine om3 ?_ | refine om4 ?_ | refine om5 ?_ | refine om6 ?_ | refine om7 ?_); first | (simp only [List.length_map]; done) | (simp only [List.length_map]; omega) | omega)))
        · (repeat' (first | exact trivial | exact rfl | with_reducible assumption | (refine And.intro ?_ ?_) | (refine Exists.intro _ (And.intro rfl ?_)) | (refine Exists.intro _ (Exists.intro _ (And.intro rfl (And.intro rfl ?_)))) | (refine Or.inl ⟨rfl, rfl, ?_⟩) | (refine Or.inl ⟨rfl, ?_⟩; focus (fail_if_success (refine And.intro ?_ ?_))) | (refine Or.inl (?_ : (_ : Nat) = _ ∧ _); refine ⟨?_, ?_⟩; focus (first | (simp only [List.length_map]; done) | (simp only [List.length_map, List.length_append, List.length_cons, List.length_nil]; done))) | exact Or.inl rfl | (refine Or.inr (Or.inr ⟨?_, ?_⟩)) | (refine Or.inr ⟨?_, ?_⟩) | (refine fun h => ?_; first | exact h | exact rfl | (cases h; done)) | (refine om8 ?_; simp only [← List.map_drop, ← List.map_take]; exact rfl) | ((first | refine om1 ?_ | refine om2 ?_ | refine om3 ?_ | refine om4 ?_ | refine om5 ?_ | refine om6 ?_ | refine om7 ?_); first | (simp only [List.length_map]; done) | (simp only [List.length_map]; omega) | omega)))
  have h04 : 0 ≤ k ∧ k ≤ 4 := by omega
  by_cases hk0 : k = 0
  · subst hk0
    have cpush := push_pcon F false (pm p) (by omega)
    rw [show pushS F (pm p) = (fromE b (p + 1), 0) by rw [hF]; exact push_from (by omega) (by omega), show (pm p).row = [I 1, I 0, I 0, I (1 + (P.length : Int)), I 0] by rw [hPl]; rfl] at cpush
    have hF1l := fromE_len b (p + 1)
    have hF1b : (fromE b (p + 1)).base = b := rfl
    have gF1 := good_pcon (fromE b (p + 1)) false (by omega)
    rw [fromE_good (by omega) (by omega)] at gF1
    have cl1 := left_pcon (fromE b (p + 1)) false T.seen (by omega)
    have ic1 := left1_icon (fromE b (p + 1)) T.seen (by omega)
    rw [show leftS (fromE b (p + 1)) T.seen = lst c (p + 1) by rw [hTs]; exact left_from hbc (by omega) (by omega)] at ic1
    generalize hF1 : fromE b (p + 1) = F1 at cpush hF1l hF1b gF1 cl1 ic1
    obtain ⟨P1, hP1⟩ : ∃ P1, P1 = Pn (p + 1) := ⟨_, rfl⟩
    have hP1l : P1.length = p + 1 := by rw [hP1, Pn_len]
    have hP1m : P.map Msg.row ++ [[I 1, I 0, I 0, I (1 + (P.length : Int)), I 0]] = P1.map Msg.row := by rw [hP1, Pn_succ, ← hP, hPl]; simp [Msg.row, pm]
    have hP1g : ∀ j, j < p + 1 → ∀ n, n = j → nth (P1.map Msg.row) n = some (pm j).row := fun j hj n hn => by
      rw [nth_map Msg.row P1 j hn (by omega)]; subst hP1; rw [Pn_get]
    repeat' (conv => whnf
             first
             | (refine get_id ?_; first | refine Get.mk _ rfl ?_ | refine Get.mk _ (hg) ?_)
             | (refine need_id ?_; first | refine Need.a ?_ | refine Need.mk (by (exact ⟨rfl, rfl, rfl, by simp [msgB, carB, mkB], rfl, rfl⟩)) ?_)
             | (refine eqk_id ?_; first | refine EqK.a ?_)
             | (refine br_id ?_; first | refine Br.t ?_ | refine Br.f ?_ | (refine Br.pos ?_ ?_; focus (with_reducible assumption)) | (refine Br.neg ?_ ?_; focus (with_reducible assumption)) | (refine Br.dpos ?_ ?_; focus (first | with_reducible exact rfl | with_reducible exact Int.le_refl _ | with_reducible assumption)) | (refine Br.dneg ?_ ?_; focus (with_reducible assumption)) | (refine Br.d (fun _ => ?_) (fun _ => ?_) <;> (first | (exfalso; omega; done) | skip)) | refine Br.n ?_ | (refine Br.s (fun _ => ?_) (fun _ => ?_) <;> (first | (exfalso; omega; done) | skip)) | (refine Br.mk (fun _ => ?_) (fun _ => ?_) <;> (first | (exfalso; omega; done) | skip)))
             | (refine regv_id ?_; first | refine RegV.qg ?_ | refine RegV.d ?_)
             | (refine gds_id ?_; apply GdS.mk)
             | (refine and_id ?_; exact ⟨rfl, rfl, rfl⟩)
             | (refine imp_id ?_; first | refine imp_s (fun _ => ?_) | refine fun _ => ?_)
             | refine NilB.mk (fun b hb => ?_)
             | (refine alv_and ?_ ?_; focus (first | rfl | done))
             | refine DrawV.mk [] ?_
             | (refine appc_id ?_; first | refine AppC.growA ?_ | refine AppC.grow (by (simp [msgB, carB, mkB])) ?_ | refine AppC.place ?_)
             | (refine call_id ?_; first
                  | refine CallV.c (cpush) ?_
                  | refine CallV.c (gF1) ?_
                  | refine CallV.c (gT) ?_
                  | refine CallV.e (cpush) ?_
                  | refine CallV.e (gF1) ?_
                  | refine CallV.e (gT) ?_)
             | (refine calls_id ?_; first
                  | refine CallS.c (cpush) ?_
                  | refine CallS.c (gF1) ?_
                  | refine CallS.c (gT) ?_
                  | refine CallS.e (cpush) ?_
                  | refine CallS.e (gF1) ?_
                  | refine CallS.e (gT) ?_))
    all_goals (try (conv => whnf))
    refine LoopV.on (σ := Nat) rfl (fun j => [(2, .ptr 0 0 0), (3, .ptr 1 0 0), (4, .ptr 2 0 0), (5, .ptr 3 0 0), (6, .own 9 C.length), (7, .ptr 4 0 0), (33, mvX ms), (34, I ms.length), (35, I i), (180, .own 9 C.length), (181, I ((C.length : Nat))), (182, I j)]) (fun _ => [some ⟨4, 1, true, false, [[Bo false]]⟩, some ⟨24, 4, false, false, [[I F1.peer, I F1.base, .own 5 F1.out.length, I F1.seen]]⟩, some ⟨24, 4, false, false, [[I T.peer, I T.base, .own 6 T.out.length, I T.seen]]⟩, some ⟨22, 1, false, false, [[.own 7 P1.length]]⟩, some ⟨44, 1, false, false, [[.own 8 u.length]]⟩, some (msgB F1.out), some (msgB T.out), some (msgB P1), some (carB u), some (msgB C)]) (fun j => j ≤ c) (fun j => c - j) 0 ?_ (Nat.zero_le _) ?_
    · refine AtS.mk [] [0, 1, 2, 3, 4, 12, 6, 15, 8, 9] rfl (by simp) rfl ?_ ?_
      · (repeat' (first | exact trivial | exact rfl | with_reducible assumption | (refine And.intro ?_ ?_) | (refine Exists.intro _ (And.intro rfl ?_)) | (refine Exists.intro _ (Exists.intro _ (And.intro rfl (And.intro rfl ?_)))) | (refine Or.inl ⟨rfl, rfl, ?_⟩) | (refine Or.inl ⟨rfl, ?_⟩; focus (fail_if_success (refine And.intro ?_ ?_))) | (refine Or.inl (?_ : (_ : Nat) = _ ∧ _); refine ⟨?_, ?_⟩; focus (first | (simp only [List.length_map]; done) | (simp only [List.length_map, List.length_append, List.length_cons, List.length_nil]; done))) | exact Or.inl rfl | (refine Or.inr (Or.inr ⟨?_, ?_⟩)) | (refine Or.inr ⟨?_, ?_⟩) | (refine fun h => ?_; first | exact h | exact rfl | (cases h; done)) | (refine om8 ?_; simp only [← List.map_drop, ← List.map_take]; exact rfl) | ((first | refine om1 ?_ | refine om2 ?_ | refine om3 ?_ | refine om4 ?_ | refine om5 ?_ | refine om6 ?_ | refine om7 ?_); first | (simp only [List.length_map]; done) | (simp only [List.length_map]; omega) | omega)))
        all_goals first | assumption | omega | (simp; omega)
      · (repeat' (first | exact trivial | exact rfl | with_reducible assumption | (refine And.intro ?_ ?_) | (refine Exists.intro _ (And.intro rfl ?_)) | (refine Exists.intro _ (Exists.intro _ (And.intro rfl (And.intro rfl ?_)))) | (refine Or.inl ⟨rfl, rfl, ?_⟩) | (refine Or.inl ⟨rfl, ?_⟩; focus (fail_if_success (refine And.intro ?_ ?_))) | (refine Or.inl (?_ : (_ : Nat) = _ ∧ _); refine ⟨?_, ?_⟩; focus (first | (simp only [List.length_map]; done) | (simp only [List.length_map, List.length_append, List.length_cons, List.length_nil]; done))) | exact Or.inl rfl | (refine Or.inr (Or.inr ⟨?_, ?_⟩)) | (refine Or.inr ⟨?_, ?_⟩) | (refine fun h => ?_; first | exact h | exact rfl | (cases h; done)) | (refine om8 ?_; simp only [← List.map_drop, ← List.map_take]; exact rfl) | ((first | refine om1 ?_ | refine om2 ?_ | refine om3 ?_ | refine om4 ?_ | refine om5 ?_ | refine om6 ?_ | refine om7 ?_); first | (simp only [List.length_map]; done) | (simp only [List.length_map]; omega) | omega)))
        all_goals first | assumption | omega | (simp; omega)
    intro j hj
    rcases Nat.lt_or_ge j (c) with hjc | hjc
    · have g1 := hCg j hjc
      have g2 := hP1g j (by omega)
      generalize pm j = x at g1 g2
      repeat' (conv => whnf
               first
               | (refine get_id ?_; first | refine Get.mk _ rfl ?_ | refine Get.mk _ (g1 _ rfl) ?_ | refine Get.mk _ (g2 _ (by omega)) ?_)
               | (refine need_id ?_; first | refine Need.a ?_)
               | (refine eqk_id ?_; first | refine EqK.a ?_)
               | (refine br_id ?_; first | refine Br.t ?_ | refine Br.f ?_ | (refine Br.pos ?_ ?_; focus (with_reducible assumption)) | (refine Br.neg ?_ ?_; focus (with_reducible assumption)) | (refine Br.dpos ?_ ?_; focus (first | with_reducible exact rfl | with_reducible exact Int.le_refl _ | with_reducible assumption)) | (refine Br.dneg ?_ ?_; focus (with_reducible assumption)) | (refine Br.d (fun _ => ?_) (fun _ => ?_) <;> (first | (exfalso; omega; done) | skip)) | refine Br.n ?_ | (refine Br.s (fun _ => ?_) (fun _ => ?_) <;> (first | (exfalso; omega; done) | skip)) | (refine Br.mk (fun _ => ?_) (fun _ => ?_) <;> (first | (exfalso; omega; done) | skip)))
               | (refine regv_id ?_; first | refine RegV.qg ?_ | refine RegV.d ?_)
               | (refine gds_id ?_; apply GdS.mk)
               | (refine and_id ?_; exact ⟨rfl, rfl, rfl⟩)
               | (refine imp_id ?_; first | refine imp_s (fun _ => ?_) | refine fun _ => ?_)
               | refine NilB.mk (fun b hb => ?_)
               | (refine alv_and ?_ ?_; focus (first | rfl | done))
               | refine DrawV.mk [] ?_
               | (refine appc_id ?_; first | refine AppC.growA ?_ | refine AppC.place ?_))
      all_goals (try (conv => whnf))
      · refine nx (j + 1) (by omega) (by omega) (AtS.mk [] [0, 1, 2, 3, 4, 5, 6, 7, 8, 9] rfl (by simp) rfl ?_ ?_)
        · (repeat' (first | exact trivial | exact rfl | with_reducible assumption | (refine And.intro ?_ ?_) | (refine Exists.intro _ (And.intro rfl ?_)) | (refine Exists.intro _ (Exists.intro _ (And.intro rfl (And.intro rfl ?_)))) | (refine Or.inl ⟨rfl, rfl, ?_⟩) | (refine Or.inl ⟨rfl, ?_⟩; focus (fail_if_success (refine And.intro ?_ ?_))) | (refine Or.inl (?_ : (_ : Nat) = _ ∧ _); refine ⟨?_, ?_⟩; focus (first | (simp only [List.length_map]; done) | (simp only [List.length_map, List.length_append, List.length_cons, List.length_nil]; done))) | exact Or.inl rfl | (refine Or.inr (Or.inr ⟨?_, ?_⟩)) | (refine Or.inr ⟨?_, ?_⟩) | (refine fun h => ?_; first | exact h | exact rfl | (cases h; done)) | (refine om8 ?_; simp only [← List.map_drop, ← List.map_take]; exact rfl) | ((first | refine om1 ?_ | refine om2 ?_ | refine om3 ?_ | refine om4 ?_ | refine om5 ?_ | refine om6 ?_ | refine om7 ?_); first | (simp only [List.length_map]; done) | (simp only [List.length_map]; omega) | omega)))
        · (repeat' (first | exact trivial | exact rfl | with_reducible assumption | (refine And.intro ?_ ?_) | (refine Exists.intro _ (And.intro rfl ?_)) | (refine Exists.intro _ (Exists.intro _ (And.intro rfl (And.intro rfl ?_)))) | (refine Or.inl ⟨rfl, rfl, ?_⟩) | (refine Or.inl ⟨rfl, ?_⟩; focus (fail_if_success (refine And.intro ?_ ?_))) | (refine Or.inl (?_ : (_ : Nat) = _ ∧ _); refine ⟨?_, ?_⟩; focus (first | (simp only [List.length_map]; done) | (simp only [List.length_map, List.length_append, List.length_cons, List.length_nil]; done))) | exact Or.inl rfl | (refine Or.inr (Or.inr ⟨?_, ?_⟩)) | (refine Or.inr ⟨?_, ?_⟩) | (refine fun h => ?_; first | exact h | exact rfl | (cases h; done)) | (refine om8 ?_; simp only [← List.map_drop, ← List.map_take]; exact rfl) | ((first | refine om1 ?_ | refine om2 ?_ | refine om3 ?_ | refine om4 ?_ | refine om5 ?_ | refine om6 ?_ | refine om7 ?_); first | (simp only [List.length_map]; done) | (simp only [List.length_map]; omega) | omega)))
      · exfalso
        rename_i hx
        simp at hx
    · repeat' (conv => whnf
               first
               | (refine get_id ?_; first | refine Get.mk _ rfl ?_)
               | (refine need_id ?_; first | refine Need.a ?_)
               | (refine eqk_id ?_; first | refine EqK.a ?_)
               | (refine br_id ?_; first | refine Br.t ?_ | refine Br.f ?_ | (refine Br.pos ?_ ?_; focus (with_reducible assumption)) | (refine Br.neg ?_ ?_; focus (with_reducible assumption)) | (refine Br.dpos ?_ ?_; focus (first | with_reducible exact rfl | with_reducible exact Int.le_refl _ | with_reducible assumption)) | (refine Br.dneg ?_ ?_; focus (with_reducible assumption)) | (refine Br.d (fun _ => ?_) (fun _ => ?_) <;> (first | (exfalso; omega; done) | skip)) | refine Br.n ?_ | (refine Br.s (fun _ => ?_) (fun _ => ?_) <;> (first | (exfalso; omega; done) | skip)) | (refine Br.mk (fun _ => ?_) (fun _ => ?_) <;> (first | (exfalso; omega; done) | skip)))
               | (refine regv_id ?_; first | refine RegV.qg ?_ | refine RegV.d ?_)
               | (refine gds_id ?_; apply GdS.mk)
               | (refine and_id ?_; exact ⟨rfl, rfl, rfl⟩)
               | (refine imp_id ?_; first | refine imp_s (fun _ => ?_) | refine fun _ => ?_)
               | refine NilB.mk (fun b hb => ?_)
               | (refine alv_and ?_ ?_; focus (first | rfl | done))
               | refine DrawV.mk [] ?_
               | (refine appc_id ?_; first | refine AppC.growA ?_ | refine AppC.place ?_)
               | (refine call_id ?_; first
                    | refine CallV.c (cl1) ?_
                    | refine CallV.e (cl1) ?_)
               | (refine calls_id ?_; first
                    | refine CallS.c (cl1) ?_
                    | refine CallS.e (cl1) ?_))
      all_goals (try (conv => whnf))
      refine RangeV.on rfl (lst (c) (p + 1)) leftIt 11 48 (leftCaps F1 T.seen) [(2, .ptr 0 0 0), (3, .ptr 1 0 0), (4, .ptr 2 0 0), (5, .ptr 3 0 0), (6, .own 9 C.length), (7, .ptr 4 0 0), (23, .ptr 10 0 0), (33, mvX ms), (34, I ms.length), (35, I i), (199, .clo 48 (leftCaps F1 T.seen))]
        (fun j : Nat => [some ⟨4, 1, true, false, [[Bo false]]⟩, some ⟨24, 4, false, false, [[I F1.peer, I F1.base, .own 5 F1.out.length, I F1.seen]]⟩, some ⟨24, 4, false, false, [[I T.peer, I T.base, .own 6 T.out.length, I T.seen]]⟩, some ⟨22, 1, false, false, [[.own 7 P1.length]]⟩, some ⟨44, 1, false, false, [[.own 8 u.length]]⟩, some (msgB F1.out), some (msgB T.out), some (msgB P1), some (carB u), some (msgB C), some ⟨3, 1, true, false, [[I ((c + j : Nat))]]⟩])
        (fun j s => s = j) 0 ic1 ?_ rfl rfl rfl (fun x => ⟨rfl, rfl⟩) (Nat.zero_le _) rfl (fun _ => rfl) ?_ ?_
      · refine AtS.mk [] [0, 1, 2, 3, 4, 5, 6, 7, 8, 9, 10] rfl (by simp) rfl ?_ ?_
        · (repeat' (first | exact trivial | exact rfl | with_reducible assumption | (refine And.intro ?_ ?_) | (refine Exists.intro _ (And.intro rfl ?_)) | (refine Exists.intro _ (Exists.intro _ (And.intro rfl (And.intro rfl ?_)))) | (refine Or.inl ⟨rfl, rfl, ?_⟩) | (refine Or.inl ⟨rfl, ?_⟩; focus (fail_if_success (refine And.intro ?_ ?_))) | (refine Or.inl (?_ : (_ : Nat) = _ ∧ _); refine ⟨?_, ?_⟩; focus (first | (simp only [List.length_map]; done) | (simp only [List.length_map, List.length_append, List.length_cons, List.length_nil]; done))) | exact Or.inl rfl | (refine Or.inr (Or.inr ⟨?_, ?_⟩)) | (refine Or.inr ⟨?_, ?_⟩) | (refine fun h => ?_; first | exact h | exact rfl | (cases h; done)) | (refine om8 ?_; simp only [← List.map_drop, ← List.map_take]; exact rfl) | ((first | refine om1 ?_ | refine om2 ?_ | refine om3 ?_ | refine om4 ?_ | refine om5 ?_ | refine om6 ?_ | refine om7 ?_); first | (simp only [List.length_map]; done) | (simp only [List.length_map]; omega) | omega)))
          all_goals (simp; omega)
        · unfold leftCaps
          (repeat' (first | exact trivial | exact rfl | with_reducible assumption | (refine And.intro ?_ ?_) | (refine Exists.intro _ (And.intro rfl ?_)) | (refine Exists.intro _ (Exists.intro _ (And.intro rfl (And.intro rfl ?_)))) | (refine Or.inl ⟨rfl, rfl, ?_⟩) | (refine Or.inl ⟨rfl, ?_⟩; focus (fail_if_success (refine And.intro ?_ ?_))) | (refine Or.inl (?_ : (_ : Nat) = _ ∧ _); refine ⟨?_, ?_⟩; focus (first | (simp only [List.length_map]; done) | (simp only [List.length_map, List.length_append, List.length_cons, List.length_nil]; done))) | exact Or.inl rfl | (refine Or.inr (Or.inr ⟨?_, ?_⟩)) | (refine Or.inr ⟨?_, ?_⟩) | (refine fun h => ?_; first | exact h | exact rfl | (cases h; done)) | (refine om8 ?_; simp only [← List.map_drop, ← List.map_take]; exact rfl) | ((first | refine om1 ?_ | refine om2 ?_ | refine om3 ?_ | refine om4 ?_ | refine om5 ?_ | refine om6 ?_ | refine om7 ?_); first | (simp only [List.length_map]; done) | (simp only [List.length_map]; omega) | omega)))
      · rintro _ hj1 j rfl
        have hj2 := hj1
        rw [lst_len] at hj2
        rw [lst_get hj1]
        have g2 := hP1g (c + j) (by omega)
        generalize pm (c + j) = x at g2
        repeat' (conv => whnf
                 first
                 | (refine get_id ?_; first | refine Get.mk _ rfl ?_ | refine Get.mk _ (g2 _ (by omega)) ?_)
                 | (refine need_id ?_; first | refine Need.a ?_)
                 | (refine eqk_id ?_; first | refine EqK.a ?_)
                 | (refine br_id ?_; first | refine Br.t ?_ | refine Br.f ?_ | (refine Br.pos ?_ ?_; focus (with_reducible assumption)) | (refine Br.neg ?_ ?_; focus (with_reducible assumption)) | (refine Br.dpos ?_ ?_; focus (first | with_reducible exact rfl | with_reducible exact Int.le_refl _ | with_reducible assumption)) | (refine Br.dneg ?_ ?_; focus (with_reducible assumption)) | (refine Br.d (fun _ => ?_) (fun _ => ?_) <;> (first | (exfalso; omega; done) | skip)) | refine Br.n ?_ | (refine Br.s (fun _ => ?_) (fun _ => ?_) <;> (first | (exfalso; omega; done) | skip)) | (refine Br.mk (fun _ => ?_) (fun _ => ?_) <;> (first | (exfalso; omega; done) | skip)))
                 | (refine regv_id ?_; first | refine RegV.qg ?_ | refine RegV.d ?_)
                 | (refine gds_id ?_; apply GdS.mk)
                 | (refine and_id ?_; exact ⟨rfl, rfl, rfl⟩)
                 | (refine imp_id ?_; first | refine imp_s (fun _ => ?_) | refine fun _ => ?_)
                 | refine NilB.mk (fun b hb => ?_)
                 | (refine alv_and ?_ ?_; focus (first | rfl | done))
                 | refine DrawV.mk [] ?_
                 | (refine appc_id ?_; first | refine AppC.growA ?_ | refine AppC.place ?_))
        all_goals (try (conv => whnf))
        refine nxr (j + 1) rfl (AtS.mk [] [0, 1, 2, 3, 4, 5, 6, 7, 8, 9, 10] rfl (by simp) rfl ?_ ?_)
        · (repeat' (first | exact trivial | exact rfl | with_reducible assumption | (refine And.intro ?_ ?_) | (refine Exists.intro _ (And.intro rfl ?_)) | (refine Exists.intro _ (Exists.intro _ (And.intro rfl (And.intro rfl ?_)))) | (refine Or.inl ⟨rfl, rfl, ?_⟩) | (refine Or.inl ⟨rfl, ?_⟩; focus (fail_if_success (refine And.intro ?_ ?_))) | (refine Or.inl (?_ : (_ : Nat) = _ ∧ _); refine ⟨?_, ?_⟩; focus (first | (simp only [List.length_map]; done) | (simp only [List.length_map, List.length_append, List.length_cons, List.length_nil]; done))) | exact Or.inl rfl | (refine Or.inr (Or.inr ⟨?_, ?_⟩)) | (refine Or.inr ⟨?_, ?_⟩) | (refine fun h => ?_; first | exact h | exact rfl | (cases h; done)) | (refine om8 ?_; simp only [← List.map_drop, ← List.map_take]; exact rfl) | ((first | refine om1 ?_ | refine om2 ?_ | refine om3 ?_ | refine om4 ?_ | refine om5 ?_ | refine om6 ?_ | refine om7 ?_); first | (simp only [List.length_map]; done) | (simp only [List.length_map]; omega) | omega)))
        · (repeat' (first | exact trivial | exact rfl | with_reducible assumption | (refine And.intro ?_ ?_) | (refine Exists.intro _ (And.intro rfl ?_)) | (refine Exists.intro _ (Exists.intro _ (And.intro rfl (And.intro rfl ?_)))) | (refine Or.inl ⟨rfl, rfl, ?_⟩) | (refine Or.inl ⟨rfl, ?_⟩; focus (fail_if_success (refine And.intro ?_ ?_))) | (refine Or.inl (?_ : (_ : Nat) = _ ∧ _); refine ⟨?_, ?_⟩; focus (first | (simp only [List.length_map]; done) | (simp only [List.length_map, List.length_append, List.length_cons, List.length_nil]; done))) | exact Or.inl rfl | (refine Or.inr (Or.inr ⟨?_, ?_⟩)) | (refine Or.inr ⟨?_, ?_⟩) | (refine fun h => ?_; first | exact h | exact rfl | (cases h; done)) | (refine om8 ?_; simp only [← List.map_drop, ← List.map_take]; exact rfl) | ((first | refine om1 ?_ | refine om2 ?_ | refine om3 ?_ | refine om4 ?_ | refine om5 ?_ | refine om6 ?_ | refine om7 ?_); first | (simp only [List.length_map]; done) | (simp only [List.length_map]; omega) | omega)))
      · rintro j rfl
        rw [lst_len]
        repeat' (conv => whnf
                 first
                 | (refine get_id ?_; first | refine Get.mk _ rfl ?_)
                 | (refine need_id ?_; first | refine Need.a ?_)
                 | (refine eqk_id ?_; first | refine EqK.a ?_)
                 | (refine br_id ?_; first | refine Br.t ?_ | refine Br.f ?_ | (refine Br.pos ?_ ?_; focus (with_reducible assumption)) | (refine Br.neg ?_ ?_; focus (with_reducible assumption)) | (refine Br.dpos ?_ ?_; focus (first | with_reducible exact rfl | with_reducible exact Int.le_refl _ | with_reducible assumption)) | (refine Br.dneg ?_ ?_; focus (with_reducible assumption)) | (refine Br.d (fun _ => ?_) (fun _ => ?_) <;> (first | (exfalso; omega; done) | skip)) | refine Br.n ?_ | (refine Br.s (fun _ => ?_) (fun _ => ?_) <;> (first | (exfalso; omega; done) | skip)) | (refine Br.mk (fun _ => ?_) (fun _ => ?_) <;> (first | (exfalso; omega; done) | skip)))
                 | (refine regv_id ?_; first | refine RegV.qg ?_ | refine RegV.d ?_)
                 | (refine gds_id ?_; apply GdS.mk)
                 | (refine and_id ?_; exact ⟨rfl, rfl, rfl⟩)
                 | (refine imp_id ?_; first | refine imp_s (fun _ => ?_) | refine fun _ => ?_)
                 | refine NilB.mk (fun b hb => ?_)
                 | (refine alv_and ?_ ?_; focus (first | rfl | done))
                 | refine DrawV.mk [] ?_
                 | (refine appc_id ?_; first | refine AppC.growA ?_ | refine AppC.place ?_))
        all_goals (try (conv => whnf))
        refine nx ⟨i + 1, F1, T, P1, u, C⟩ (by simp only; omega) ⟨by simp only; omega, b, p + 1, c, hF1.symm, hT, hP1, hC, hbc, by omega, by simp only; omega, by simp only; omega, fun x hx => Car.ok_mono (hcar x hx) (by omega) (by omega)⟩ (AtS.mk [] [0, 1, 2, 3, 4, 5, 6, 7, 8, 9] rfl (by simp) rfl ?_ ?_)
        · (repeat' (first | exact trivial | exact rfl | with_reducible assumption | (refine And.intro ?_ ?_) | (refine Exists.intro _ (And.intro rfl ?_)) | (refine Exists.intro _ (Exists.intro _ (And.intro rfl (And.intro rfl ?_)))) | (refine Or.inl ⟨rfl, rfl, ?_⟩) | (refine Or.inl ⟨rfl, ?_⟩; focus (fail_if_success (refine And.intro ?_ ?_))) | (refine Or.inl (?_ : (_ : Nat) = _ ∧ _); refine ⟨?_, ?_⟩; focus (first | (simp only [List.length_map]; done) | (simp only [List.length_map, List.length_append, List.length_cons, List.length_nil]; done))) | exact Or.inl rfl | (refine Or.inr (Or.inr ⟨?_, ?_⟩)) | (refine Or.inr ⟨?_, ?_⟩) | (refine fun h => ?_; first | exact h | exact rfl | (cases h; done)) | (refine om8 ?_; simp only [← List.map_drop, ← List.map_take]; exact rfl) | ((first | refine om1 ?_ | refine om2 ?_ | refine om3 ?_ | refine om4 ?_ | refine om5 ?_ | refine om6 ?_ | refine om7 ?_); first | (simp only [List.length_map]; done) | (simp only [List.length_map]; omega) | omega)))
        · (repeat' (first | exact trivial | exact rfl | with_reducible assumption | (refine And.intro ?_ ?_) | (refine Exists.intro _ (And.intro rfl ?_)) | (refine Exists.intro _ (Exists.intro _ (And.intro rfl (And.intro rfl ?_)))) | (refine Or.inl ⟨rfl, rfl, ?_⟩) | (refine Or.inl ⟨rfl, ?_⟩; focus (fail_if_success (refine And.intro ?_ ?_))) | (refine Or.inl (?_ : (_ : Nat) = _ ∧ _); refine ⟨?_, ?_⟩; focus (first | (simp only [List.length_map]; done) | (simp only [List.length_map, List.length_append, List.length_cons, List.length_nil]; done))) | exact Or.inl rfl | (refine Or.inr (Or.inr ⟨?_, ?_⟩)) | (refine Or.inr ⟨?_, ?_⟩) | (refine fun h => ?_; first | exact h | exact rfl | (cases h; done)) | (refine om8 ?_; simp only [← List.map_drop, ← List.map_take]; exact rfl) | ((first | refine om1 ?_ | refine om2 ?_ | refine om3 ?_ | refine om4 ?_ | refine om5 ?_ | refine om6 ?_ | refine om7 ?_); first | (simp only [List.length_map]; done) | (simp only [List.length_map]; omega) | omega)))
  by_cases hk1 : k = 1
  · subst hk1
    have cl1 := left_pcon F false F.base (by omega)
    have ic1 := left1_icon F F.base (by omega)
    rw [show leftS F F.base = lst b p by rw [hFb, hF]; exact left_from (Nat.le_refl _) (by omega) (by omega)] at ic1
    repeat' (conv => whnf
             first
             | (refine get_id ?_; first | refine Get.mk _ rfl ?_ | refine Get.mk _ (hg) ?_)
             | (refine need_id ?_; first | refine Need.a ?_)
             | (refine eqk_id ?_; first | refine EqK.a ?_)
             | (refine br_id ?_; first | refine Br.t ?_ | refine Br.f ?_ | (refine Br.pos ?_ ?_; focus (with_reducible assumption)) | (refine Br.neg ?_ ?_; focus (with_reducible assumption)) | (refine Br.dpos ?_ ?_; focus (first | with_reducible exact rfl | with_reducible exact Int.le_refl _ | with_reducible assumption)) | (refine Br.dneg ?_ ?_; focus (with_reducible assumption)) | (refine Br.d (fun _ => ?_) (fun _ => ?_) <;> (first | (exfalso; omega; done) | skip)) | refine Br.n ?_ | (refine Br.s (fun _ => ?_) (fun _ => ?_) <;> (first | (exfalso; omega; done) | skip)) | (refine Br.mk (fun _ => ?_) (fun _ => ?_) <;> (first | (exfalso; omega; done) | skip)))
             | (refine regv_id ?_; first | refine RegV.qg ?_ | refine RegV.d ?_)
             | (refine gds_id ?_; apply GdS.mk)
             | (refine and_id ?_; exact ⟨rfl, rfl, rfl⟩)
             | (refine imp_id ?_; first | refine imp_s (fun _ => ?_) | refine fun _ => ?_)
             | refine NilB.mk (fun b hb => ?_)
             | (refine alv_and ?_ ?_; focus (first | rfl | done))
             | refine DrawV.mk [] ?_
             | (refine appc_id ?_; first | refine AppC.growA ?_ | refine AppC.place ?_)
             | (refine call_id ?_; first
                  | refine CallV.c (cl1) ?_
                  | refine CallV.e (cl1) ?_)
             | (refine calls_id ?_; first
                  | refine CallS.c (cl1) ?_
                  | refine CallS.e (cl1) ?_))
    all_goals (try (conv => whnf))
    refine RangeV.on (σ := Nat × List Car) rfl (lst b p) leftIt 11 48 (leftCaps F F.base) [(2, .ptr 0 0 0), (3, .ptr 1 0 0), (4, .ptr 2 0 0), (5, .ptr 3 0 0), (6, .own 8 C.length), (7, .ptr 4 0 0), (9, .ptr 9 0 0), (13, .ptr 10 0 0), (33, mvX ms), (34, I ms.length), (35, I i), (65, .clo 48 (leftCaps F F.base))]
      (fun s => [some ⟨4, 1, true, false, [[Bo false]]⟩, some ⟨24, 4, false, false, [[I F.peer, I F.base, .own 5 F.out.length, I F.seen]]⟩, some ⟨24, 4, false, false, [[I T.peer, I T.base, .own 6 T.out.length, I T.seen]]⟩, some ⟨22, 1, false, false, [[.own 7 P.length]]⟩, some ⟨44, 1, false, false, [[.own 11 s.2.length]]⟩, some (msgB F.out), some (msgB T.out), some (msgB P), some (msgB C), some ⟨46, 3, true, false, [[I 1, I a, I n]]⟩, some ⟨3, 1, true, false, [[I s.1]]⟩, some (carB s.2)])
      (fun j s => s.1 = j ∧ ((s.2 = u ∧ (a < 0 ∨ j ≤ a)) ∨ ∃ q : Nat, a = q ∧ q < j ∧ q < p - b ∧ s.2 = u ++ [⟨b + 1 + q, pm (b + q), 0⟩])) (0, u) ic1 ?_ ⟨rfl, .inl ⟨rfl, by omega⟩⟩ rfl rfl (fun x => ⟨rfl, rfl⟩) (Nat.zero_le _) rfl (fun _ => rfl) ?_ ?_
    · refine AtS.mk [] [0, 1, 2, 3, 4, 5, 6, 7, 9, 10, 11, 8] rfl (by simp) rfl ?_ ?_
      · (repeat' (first | exact trivial | exact rfl | with_reducible assumption | (refine And.intro ?_ ?_) | (refine Exists.intro _ (And.intro rfl ?_)) | (refine Exists.intro _ (Exists.intro _ (And.intro rfl (And.intro rfl ?_)))) | (refine Or.inl ⟨rfl, rfl, ?_⟩) | (refine Or.inl ⟨rfl, ?_⟩; focus (fail_if_success (refine And.intro ?_ ?_))) | (refine Or.inl (?_ : (_ : Nat) = _ ∧ _); refine ⟨?_, ?_⟩; focus (first | (simp only [List.length_map]; done) | (simp only [List.length_map, List.length_append, List.length_cons, List.length_nil]; done))) | exact Or.inl rfl | (refine Or.inr (Or.inr ⟨?_, ?_⟩)) | (refine Or.inr ⟨?_, ?_⟩) | (refine fun h => ?_; first | exact h | exact rfl | (cases h; done)) | (refine om8 ?_; simp only [← List.map_drop, ← List.map_take]; exact rfl) | ((first | refine om1 ?_ | refine om2 ?_ | refine om3 ?_ | refine om4 ?_ | refine om5 ?_ | refine om6 ?_ | refine om7 ?_); first | (simp only [List.length_map]; done) | (simp only [List.length_map]; omega) | omega)))
      · unfold leftCaps
        (repeat' (first | exact trivial | exact rfl | with_reducible assumption | (refine And.intro ?_ ?_) | (refine Exists.intro _ (And.intro rfl ?_)) | (refine Exists.intro _ (Exists.intro _ (And.intro rfl (And.intro rfl ?_)))) | (refine Or.inl ⟨rfl, rfl, ?_⟩) | (refine Or.inl ⟨rfl, ?_⟩; focus (fail_if_success (refine And.intro ?_ ?_))) | (refine Or.inl (?_ : (_ : Nat) = _ ∧ _); refine ⟨?_, ?_⟩; focus (first | (simp only [List.length_map]; done) | (simp only [List.length_map, List.length_append, List.length_cons, List.length_nil]; done))) | exact Or.inl rfl | (refine Or.inr (Or.inr ⟨?_, ?_⟩)) | (refine Or.inr ⟨?_, ?_⟩) | (refine fun h => ?_; first | exact h | exact rfl | (cases h; done)) | (refine om8 ?_; simp only [← List.map_drop, ← List.map_take]; exact rfl) | ((first | refine om1 ?_ | refine om2 ?_ | refine om3 ?_ | refine om4 ?_ | refine om5 ?_ | refine om6 ?_ | refine om7 ?_); first | (simp only [List.length_map]; done) | (simp only [List.length_map]; omega) | omega)))
    · rintro j hj1 ⟨_, v⟩ ⟨rfl, hv⟩
      dsimp only at hj1 hv
      have hj2 := hj1
      rw [lst_len] at hj2
      rw [lst_get hj1]
      rename_i j
      by_cases hja : (j : Int) = a
      · have hv : v = u := by
          rcases hv with ⟨hv, _⟩ | ⟨q, h1, h2, _⟩
          · exact hv
          · omega
        subst hv
        dsimp only
        have hx : (pm (b + j)).row = [I 1, I 0, I 0, I (1 + ((b + j : Nat) : Int)), I 0] := rfl
        generalize hxx : pm (b + j) = x at hx
        clear hv
        repeat' (conv => whnf
                 first
                 | (refine get_id ?_; first | refine Get.mk _ rfl ?_)
                 | (refine need_id ?_; first | refine Need.a ?_ | refine Need.mk (by (exact ⟨rfl, rfl, rfl, by simp [msgB, carB, mkB], rfl, rfl⟩)) ?_)
                 | (refine eqk_id ?_; first | refine EqK.a ?_)
                 | (refine br_id ?_; first | refine Br.t ?_ | refine Br.f ?_ | (refine Br.pos ?_ ?_; focus (with_reducible assumption)) | (refine Br.neg ?_ ?_; focus (with_reducible assumption)) | (refine Br.dpos ?_ ?_; focus (first | with_reducible exact rfl | with_reducible exact Int.le_refl _ | with_reducible assumption)) | (refine Br.dneg ?_ ?_; focus (with_reducible assumption)) | (refine Br.d (fun _ => ?_) (fun _ => ?_) <;> (first | (exfalso; omega; done) | skip)) | refine Br.n ?_ | (refine Br.s (fun _ => ?_) (fun _ => ?_) <;> (first | (exfalso; omega; done) | skip)) | (refine Br.mk (fun _ => ?_) (fun _ => ?_) <;> (first | (exfalso; omega; done) | skip)))
                 | (refine regv_id ?_; first | refine RegV.qg ?_ | refine RegV.d ?_)
                 | (refine gds_id ?_; apply GdS.mk)
                 | (refine and_id ?_; exact ⟨rfl, rfl, rfl⟩)
                 | (refine imp_id ?_; first | refine imp_s (fun _ => ?_) | refine fun _ => ?_)
                 | refine NilB.mk (fun b hb => ?_)
                 | (refine alv_and ?_ ?_; focus (first | rfl | done))
                 | refine DrawV.mk [] ?_
                 | (refine appc_id ?_; first | refine AppC.growA ?_ | refine AppC.grow (by (simp [msgB, carB, mkB])) ?_ | refine AppC.place ?_))
        all_goals (try (conv => whnf))
        refine nxr (j + 1, v ++ [⟨b + 1 + j, x, 0⟩]) ⟨rfl, .inr ⟨j, hja.symm, by omega, hj2, by rw [hxx]⟩⟩ (AtS.mk [] [0, 1, 2, 3, 4, 5, 6, 7, 8, 9, 10, 14] rfl (by simp) rfl ?_ ?_)
        · (repeat' (first | exact trivial | exact rfl | with_reducible assumption | (refine And.intro ?_ ?_) | (refine Exists.intro _ (And.intro rfl ?_)) | (refine Exists.intro _ (Exists.intro _ (And.intro rfl (And.intro rfl ?_)))) | (refine Or.inl ⟨rfl, rfl, ?_⟩) | (refine Or.inl ⟨rfl, ?_⟩; focus (fail_if_success (refine And.intro ?_ ?_))) | (refine Or.inl (?_ : (_ : Nat) = _ ∧ _); refine ⟨?_, ?_⟩; focus (first | (simp only [List.length_map]; done) | (simp only [List.length_map, List.length_append, List.length_cons, List.length_nil]; done))) | exact Or.inl rfl | (refine Or.inr (Or.inr ⟨?_, ?_⟩)) | (refine Or.inr ⟨?_, ?_⟩) | (refine fun h => ?_; first | exact h | exact rfl | (cases h; done)) | (refine om8 ?_; simp only [← List.map_drop, ← List.map_take]; exact rfl) | ((first | refine om1 ?_ | refine om2 ?_ | refine om3 ?_ | refine om4 ?_ | refine om5 ?_ | refine om6 ?_ | refine om7 ?_); first | (simp only [List.length_map]; done) | (simp only [List.length_map]; omega) | omega)))
          all_goals first | (simp; done) | (simp [carB, mkB, Car.row]; done)
        · (repeat' (first | exact trivial | exact rfl | with_reducible assumption | (refine And.intro ?_ ?_) | (refine Exists.intro _ (And.intro rfl ?_)) | (refine Exists.intro _ (Exists.intro _ (And.intro rfl (And.intro rfl ?_)))) | (refine Or.inl ⟨rfl, rfl, ?_⟩) | (refine Or.inl ⟨rfl, ?_⟩; focus (fail_if_success (refine And.intro ?_ ?_))) | (refine Or.inl (?_ : (_ : Nat) = _ ∧ _); refine ⟨?_, ?_⟩; focus (first | (simp only [List.length_map]; done) | (simp only [List.length_map, List.length_append, List.length_cons, List.length_nil]; done))) | exact Or.inl rfl | (refine Or.inr (Or.inr ⟨?_, ?_⟩)) | (refine Or.inr ⟨?_, ?_⟩) | (refine fun h => ?_; first | exact h | exact rfl | (cases h; done)) | (refine om8 ?_; simp only [← List.map_drop, ← List.map_take]; exact rfl) | ((first | refine om1 ?_ | refine om2 ?_ | refine om3 ?_ | refine om4 ?_ | refine om5 ?_ | refine om6 ?_ | refine om7 ?_); first | (simp only [List.length_map]; done) | (simp only [List.length_map]; omega) | omega)))
      · replace hv : Hid _ := hv
        dsimp only
        generalize hxx : pm (b + j) = x
        repeat' (conv => whnf
                 first
                 | (refine get_id ?_; first | refine Get.mk _ rfl ?_)
                 | (refine need_id ?_; first | refine Need.a ?_)
                 | (refine eqk_id ?_; first | refine EqK.a ?_)
                 | (refine br_id ?_; first | refine Br.t ?_ | refine Br.f ?_ | (refine Br.pos ?_ ?_; focus (with_reducible assumption)) | (refine Br.neg ?_ ?_; focus (with_reducible assumption)) | (refine Br.dpos ?_ ?_; focus (first | with_reducible exact rfl | with_reducible exact Int.le_refl _ | with_reducible assumption)) | (refine Br.dneg ?_ ?_; focus (with_reducible assumption)) | (refine Br.d (fun _ => ?_) (fun _ => ?_) <;> (first | (exfalso; omega; done) | skip)) | refine Br.n ?_ | (refine Br.s (fun _ => ?_) (fun _ => ?_) <;> (first | (exfalso; omega; done) | skip)) | (refine Br.mk (fun _ => ?_) (fun _ => ?_) <;> (first | (exfalso; omega; done) | skip)))
                 | (refine regv_id ?_; first | refine RegV.qg ?_ | refine RegV.d ?_)
                 | (refine gds_id ?_; apply GdS.mk)
                 | (refine and_id ?_; exact ⟨rfl, rfl, rfl⟩)
                 | (refine imp_id ?_; first | refine imp_s (fun _ => ?_) | refine fun _ => ?_)
                 | refine NilB.mk (fun b hb => ?_)
                 | (refine alv_and ?_ ?_; focus (first | rfl | done))
                 | refine DrawV.mk [] ?_
                 | (refine appc_id ?_; first | refine AppC.growA ?_ | refine AppC.place ?_))
        all_goals (try (conv => whnf))
        refine nxr (j + 1, v) ⟨rfl, ?_⟩ (AtS.mk [] [0, 1, 2, 3, 4, 5, 6, 7, 8, 9, 10, 11] rfl (by simp) rfl ?_ ?_)
        · rcases hv with ⟨h1, h2⟩ | ⟨q, h1, h2, h3, h4⟩
          · exact .inl ⟨h1, by omega⟩
          · exact .inr ⟨q, h1, by omega, h3, h4⟩
        · (repeat' (first | exact trivial | exact rfl | with_reducible assumption | (refine And.intro ?_ ?_) | (refine Exists.intro _ (And.intro rfl ?_)) | (refine Exists.intro _ (Exists.intro _ (And.intro rfl (And.intro rfl ?_)))) | (refine Or.inl ⟨rfl, rfl, ?_⟩) | (refine Or.inl ⟨rfl, ?_⟩; focus (fail_if_success (refine And.intro ?_ ?_))) | (refine Or.inl (?_ : (_ : Nat) = _ ∧ _); refine ⟨?_, ?_⟩; focus (first | (simp only [List.length_map]; done) | (simp only [List.length_map, List.length_append, List.length_cons, List.length_nil]; done))) | exact Or.inl rfl | (refine Or.inr (Or.inr ⟨?_, ?_⟩)) | (refine Or.inr ⟨?_, ?_⟩) | (refine fun h => ?_; first | exact h | exact rfl | (cases h; done)) | (refine om8 ?_; simp only [← List.map_drop, ← List.map_take]; exact rfl) | ((first | refine om1 ?_ | refine om2 ?_ | refine om3 ?_ | refine om4 ?_ | refine om5 ?_ | refine om6 ?_ | refine om7 ?_); first | (simp only [List.length_map]; done) | (simp only [List.length_map]; omega) | omega)))
        · (repeat' (first | exact trivial | exact rfl | with_reducible assumption | (refine And.intro ?_ ?_) | (refine Exists.intro _ (And.intro rfl ?_)) | (refine Exists.intro _ (Exists.intro _ (And.intro rfl (And.intro rfl ?_)))) | (refine Or.inl ⟨rfl, rfl, ?_⟩) | (refine Or.inl ⟨rfl, ?_⟩; focus (fail_if_success (refine And.intro ?_ ?_))) | (refine Or.inl (?_ : (_ : Nat) = _ ∧ _); refine ⟨?_, ?_⟩; focus (first | (simp only [List.length_map]; done) | (simp only [List.length_map, List.length_append, List.length_cons, List.length_nil]; done))) | exact Or.inl rfl | (refine Or.inr (Or.inr ⟨?_, ?_⟩)) | (refine Or.inr ⟨?_, ?_⟩) | (refine fun h => ?_; first | exact h | exact rfl | (cases h; done)) | (refine om8 ?_; simp only [← List.map_drop, ← List.map_take]; exact rfl) | ((first | refine om1 ?_ | refine om2 ?_ | refine om3 ?_ | refine om4 ?_ | refine om5 ?_ | refine om6 ?_ | refine om7 ?_); first | (simp only [List.length_map]; done) | (simp only [List.length_map]; omega) | omega)))
    · rintro ⟨_, v⟩ ⟨rfl, hv⟩
      dsimp only at hv
      have hvl : v.length ≤ i + 1 := by
        rcases hv with ⟨h1, h2⟩ | ⟨q, h1, h2, h3, h4⟩
        · rw [h1]; omega
        · rw [h4]; simp; omega
      have hvc : ∀ x ∈ v, Car.ok c p x := by
        rcases hv with ⟨h1, h2⟩ | ⟨q, h1, h2, h3, h4⟩
        · rw [h1]; exact hcar
        · rw [h4]
          intro x hx
          rcases List.mem_append.1 hx with hx | hx
          · exact hcar x hx
          · simp at hx
            subst hx
            exact .inr ⟨b + q, by simp only; omega, by omega, rfl⟩
      clear hv hcar
      dsimp only
      repeat' (conv => whnf
               first
               | (refine get_id ?_; first | refine Get.mk _ rfl ?_)
               | (refine need_id ?_; first | refine Need.a ?_)
               | (refine eqk_id ?_; first | refine EqK.a ?_)
               | (refine br_id ?_; first | refine Br.t ?_ | refine Br.f ?_ | (refine Br.pos ?_ ?_; focus (with_reducible assumption)) | (refine Br.neg ?_ ?_; focus (with_reducible assumption)) | (refine Br.dpos ?_ ?_; focus (first | with_reducible exact rfl | with_reducible exact Int.le_refl _ | with_reducible assumption)) | (refine Br.dneg ?_ ?_; focus (with_reducible assumption)) | (refine Br.d (fun _ => ?_) (fun _ => ?_) <;> (first | (exfalso; omega; done) | skip)) | refine Br.n ?_ | (refine Br.s (fun _ => ?_) (fun _ => ?_) <;> (first | (exfalso; omega; done) | skip)) | (refine Br.mk (fun _ => ?_) (fun _ => ?_) <;> (first | (exfalso; omega; done) | skip)))
               | (refine regv_id ?_; first | refine RegV.qg ?_ | refine RegV.d ?_)
               | (refine gds_id ?_; apply GdS.mk)
               | (refine and_id ?_; exact ⟨rfl, rfl, rfl⟩)
               | (refine imp_id ?_; first | refine imp_s (fun _ => ?_) | refine fun _ => ?_)
               | refine NilB.mk (fun b hb => ?_)
               | (refine alv_and ?_ ?_; focus (first | rfl | done))
               | refine DrawV.mk [] ?_
               | (refine appc_id ?_; first | refine AppC.growA ?_ | refine AppC.place ?_)
               | (refine call_id ?_; first
                    | refine CallV.c (gF) ?_
                    | refine CallV.c (gT) ?_
                    | refine CallV.e (gF) ?_
                    | refine CallV.e (gT) ?_)
               | (refine calls_id ?_; first
                    | refine CallS.c (gF) ?_
                    | refine CallS.c (gT) ?_
                    | refine CallS.e (gF) ?_
                    | refine CallS.e (gT) ?_))
      all_goals (try (conv => whnf))
      refine LoopV.on (σ := Nat) rfl (fun j => [(2, .ptr 0 0 0), (3, .ptr 1 0 0), (4, .ptr 2 0 0), (5, .ptr 3 0 0), (6, .own 9 C.length), (7, .ptr 4 0 0), (33, mvX ms), (34, I ms.length), (35, I i), (180, .own 9 C.length), (181, I ((C.length : Nat))), (182, I j)]) (fun _ => [some ⟨4, 1, true, false, [[Bo false]]⟩, some ⟨24, 4, false, false, [[I F.peer, I F.base, .own 5 F.out.length, I F.seen]]⟩, some ⟨24, 4, false, false, [[I T.peer, I T.base, .own 6 T.out.length, I T.seen]]⟩, some ⟨22, 1, false, false, [[.own 7 P.length]]⟩, some ⟨44, 1, false, false, [[.own 8 v.length]]⟩, some (msgB F.out), some (msgB T.out), some (msgB P), some (carB v), some (msgB C)]) (fun j => j ≤ c) (fun j => c - j) 0 ?_ (Nat.zero_le _) ?_
      · refine AtS.mk [] [0, 1, 2, 3, 4, 5, 6, 7, 11, 8] rfl (by simp) rfl ?_ ?_
        · (repeat' (first | exact trivial | exact rfl | with_reducible assumption | (refine And.intro ?_ ?_) | (refine Exists.intro _ (And.intro rfl ?_)) | (refine Exists.intro _ (Exists.intro _ (And.intro rfl (And.intro rfl ?_)))) | (refine Or.inl ⟨rfl, rfl, ?_⟩) | (refine Or.inl ⟨rfl, ?_⟩; focus (fail_if_success (refine And.intro ?_ ?_))) | (refine Or.inl (?_ : (_ : Nat) = _ ∧ _); refine ⟨?_, ?_⟩; focus (first | (simp only [List.length_map]; done) | (simp only [List.length_map, List.length_append, List.length_cons, List.length_nil]; done))) | exact Or.inl rfl | (refine Or.inr (Or.inr ⟨?_, ?_⟩)) | (refine Or.inr ⟨?_, ?_⟩) | (refine fun h => ?_; first | exact h | exact rfl | (cases h; done)) | (refine om8 ?_; simp only [← List.map_drop, ← List.map_take]; exact rfl) | ((first | refine om1 ?_ | refine om2 ?_ | refine om3 ?_ | refine om4 ?_ | refine om5 ?_ | refine om6 ?_ | refine om7 ?_); first | (simp only [List.length_map]; done) | (simp only [List.length_map]; omega) | omega)))
          all_goals first | assumption | omega | (simp; omega)
        · (repeat' (first | exact trivial | exact rfl | with_reducible assumption | (refine And.intro ?_ ?_) | (refine Exists.intro _ (And.intro rfl ?_)) | (refine Exists.intro _ (Exists.intro _ (And.intro rfl (And.intro rfl ?_)))) | (refine Or.inl ⟨rfl, rfl, ?_⟩) | (refine Or.inl ⟨rfl, ?_⟩; focus (fail_if_success (refine And.intro ?_ ?_))) | (refine Or.inl (?_ : (_ : Nat) = _ ∧ _); refine ⟨?_, ?_⟩; focus (first | (simp only [List.length_map]; done) | (simp only [List.length_map, List.length_append, List.length_cons, List.length_nil]; done))) | exact Or.inl rfl | (refine Or.inr (Or.inr ⟨?_, ?_⟩)) | (refine Or.inr ⟨?_, ?_⟩) | (refine fun h => ?_; first | exact h | exact rfl | (cases h; done)) | (refine om8 ?_; simp only [← List.map_drop, ← List.map_take]; exact rfl) | ((first | refine om1 ?_ | refine om2 ?_ | refine om3 ?_ | refine om4 ?_ | refine om5 ?_ | refine om6 ?_ | refine om7 ?_); first | (simp only [List.length_map]; done) | (simp only [List.length_map]; omega) | omega)))
          all_goals first | assumption | omega | (simp; omega)
      intro j hj
      rcases Nat.lt_or_ge j (c) with hjc | hjc
      · have g1 := hCg j hjc
        have g2 := hPg j (by omega)
        generalize pm j = x at g1 g2
        repeat' (conv => whnf
                 first
                 | (refine get_id ?_; first | refine Get.mk _ rfl ?_ | refine Get.mk _ (g1 _ rfl) ?_ | refine Get.mk _ (g2 _ (by omega)) ?_)
                 | (refine need_id ?_; first | refine Need.a ?_)
                 | (refine eqk_id ?_; first | refine EqK.a ?_)
                 | (refine br_id ?_; first | refine Br.t ?_ | refine Br.f ?_ | (refine Br.pos ?_ ?_; focus (with_reducible assumption)) | (refine Br.neg ?_ ?_; focus (with_reducible assumption)) | (refine Br.dpos ?_ ?_; focus (first | with_reducible exact rfl | with_reducible exact Int.le_refl _ | with_reducible assumption)) | (refine Br.dneg ?_ ?_; focus (with_reducible assumption)) | (refine Br.d (fun _ => ?_) (fun _ => ?_) <;> (first | (exfalso; omega; done) | skip)) | refine Br.n ?_ | (refine Br.s (fun _ => ?_) (fun _ => ?_) <;> (first | (exfalso; omega; done) | skip)) | (refine Br.mk (fun _ => ?_) (fun _ => ?_) <;> (first | (exfalso; omega; done) | skip)))
                 | (refine regv_id ?_; first | refine RegV.qg ?_ | refine RegV.d ?_)
                 | (refine gds_id ?_; apply GdS.mk)
                 | (refine and_id ?_; exact ⟨rfl, rfl, rfl⟩)
                 | (refine imp_id ?_; first | refine imp_s (fun _ => ?_) | refine fun _ => ?_)
                 | refine NilB.mk (fun b hb => ?_)
                 | (refine alv_and ?_ ?_; focus (first | rfl | done))
                 | refine DrawV.mk [] ?_
                 | (refine appc_id ?_; first | refine AppC.growA ?_ | refine AppC.place ?_))
        all_goals (try (conv => whnf))
        · refine nx (j + 1) (by omega) (by omega) (AtS.mk [] [0, 1, 2, 3, 4, 5, 6, 7, 8, 9] rfl (by simp) rfl ?_ ?_)
          · (repeat' (first | exact trivial | exact rfl | with_reducible assumption | (refine And.intro ?_ ?_) | (refine Exists.intro _ (And.intro rfl ?_)) | (refine Exists.intro _ (Exists.intro _ (And.intro rfl (And.intro rfl ?_)))) | (refine Or.inl ⟨rfl, rfl, ?_⟩) | (refine Or.inl ⟨rfl, ?_⟩; focus (fail_if_success (refine And.intro ?_ ?_))) | (refine Or.inl (?_ : (_ : Nat) = _ ∧ _); refine ⟨?_, ?_⟩; focus (first | (simp only [List.length_map]; done) | (simp only [List.length_map, List.length_append, List.length_cons, List.length_nil]; done))) | exact Or.inl rfl | (refine Or.inr (Or.inr ⟨?_, ?_⟩)) | (refine Or.inr ⟨?_, ?_⟩) | (refine fun h => ?_; first | exact h | exact rfl | (cases h; done)) | (refine om8 ?_; simp only [← List.map_drop, ← List.map_take]; exact rfl) | ((first | refine om1 ?_ | refine om2 ?_ | refine om3 ?_ | refine om4 ?_ | refine om5 ?_ | refine om6 ?_ | refine om7 ?_); first | (simp only [List.length_map]; done) | (simp only [List.length_map]; omega) | omega)))
          · (repeat' (first | exact trivial | exact rfl | with_reducible assumption | (refine And.intro ?_ ?_) | (refine Exists.intro _ (And.intro rfl ?_)) | (refine Exists.intro _ (Exists.intro _ (And.intro rfl (And.intro rfl ?_)))) | (refine Or.inl ⟨rfl, rfl, ?_⟩) | (refine Or.inl ⟨rfl, ?_⟩; focus (fail_if_success (refine And.intro ?_ ?_))) | (refine Or.inl (?_ : (_ : Nat) = _ ∧ _); refine ⟨?_, ?_⟩; focus (first | (simp only [List.length_map]; done) | (simp only [List.length_map, List.length_append, List.length_cons, List.length_nil]; done))) | exact Or.inl rfl | (refine Or.inr (Or.inr ⟨?_, ?_⟩)) | (refine Or.inr ⟨?_, ?_⟩) | (refine fun h => ?_; first | exact h | exact rfl | (cases h; done)) | (refine om8 ?_; simp only [← List.map_drop, ← List.map_take]; exact rfl) | ((first | refine om1 ?_ | refine om2 ?_ | refine om3 ?_ | refine om4 ?_ | refine om5 ?_ | refine om6 ?_ | refine om7 ?_); first | (simp only [List.length_map]; done) | (simp only [List.length_map]; omega) | omega)))
        · exfalso
          rename_i hx
          simp at hx
      · repeat' (conv => whnf
                 first
                 | (refine get_id ?_; first | refine Get.mk _ rfl ?_)
                 | (refine need_id ?_; first | refine Need.a ?_)
                 | (refine eqk_id ?_; first | refine EqK.a ?_)
                 | (refine br_id ?_; first | refine Br.t ?_ | refine Br.f ?_ | (refine Br.pos ?_ ?_; focus (with_reducible assumption)) | (refine Br.neg ?_ ?_; focus (with_reducible assumption)) | (refine Br.dpos ?_ ?_; focus (first | with_reducible exact rfl | with_reducible exact Int.le_refl _ | with_reducible assumption)) | (refine Br.dneg ?_ ?_; focus (with_reducible assumption)) | (refine Br.d (fun _ => ?_) (fun _ => ?_) <;> (first | (exfalso; omega; done) | skip)) | refine Br.n ?_ | (refine Br.s (fun _ => ?_) (fun _ => ?_) <;> (first | (exfalso; omega; done) | skip)) | (refine Br.mk (fun _ => ?_) (fun _ => ?_) <;> (first | (exfalso; omega; done) | skip)))
                 | (refine regv_id ?_; first | refine RegV.qg ?_ | refine RegV.d ?_)
                 | (refine gds_id ?_; apply GdS.mk)
                 | (refine and_id ?_; exact ⟨rfl, rfl, rfl⟩)
                 | (refine imp_id ?_; first | refine imp_s (fun _ => ?_) | refine fun _ => ?_)
                 | refine NilB.mk (fun b hb => ?_)
                 | (refine alv_and ?_ ?_; focus (first | rfl | done))
                 | refine DrawV.mk [] ?_
                 | (refine appc_id ?_; first | refine AppC.growA ?_ | refine AppC.place ?_)
                 | (refine call_id ?_; first
                      | refine CallV.c (cl) ?_
                      | refine CallV.e (cl) ?_)
                 | (refine calls_id ?_; first
                      | refine CallS.c (cl) ?_
                      | refine CallS.e (cl) ?_))
        all_goals (try (conv => whnf))
        refine RangeV.on rfl (lst (c) (p)) leftIt 11 48 (leftCaps F T.seen) [(2, .ptr 0 0 0), (3, .ptr 1 0 0), (4, .ptr 2 0 0), (5, .ptr 3 0 0), (6, .own 9 C.length), (7, .ptr 4 0 0), (23, .ptr 10 0 0), (33, mvX ms), (34, I ms.length), (35, I i), (199, .clo 48 (leftCaps F T.seen))]
          (fun j : Nat => [some ⟨4, 1, true, false, [[Bo false]]⟩, some ⟨24, 4, false, false, [[I F.peer, I F.base, .own 5 F.out.length, I F.seen]]⟩, some ⟨24, 4, false, false, [[I T.peer, I T.base, .own 6 T.out.length, I T.seen]]⟩, some ⟨22, 1, false, false, [[.own 7 P.length]]⟩, some ⟨44, 1, false, false, [[.own 8 v.length]]⟩, some (msgB F.out), some (msgB T.out), some (msgB P), some (carB v), some (msgB C), some ⟨3, 1, true, false, [[I ((c + j : Nat))]]⟩])
          (fun j s => s = j) 0 ic ?_ rfl rfl rfl (fun x => ⟨rfl, rfl⟩) (Nat.zero_le _) rfl (fun _ => rfl) ?_ ?_
        · refine AtS.mk [] [0, 1, 2, 3, 4, 5, 6, 7, 8, 9, 10] rfl (by simp) rfl ?_ ?_
          · (repeat' (first | exact trivial | exact rfl | with_reducible assumption | (refine And.intro ?_ ?_) | (refine Exists.intro _ (And.intro rfl ?_)) | (refine Exists.intro _ (Exists.intro _ (And.intro rfl (And.intro rfl ?_)))) | (refine Or.inl ⟨rfl, rfl, ?_⟩) | (refine Or.inl ⟨rfl, ?_⟩; focus (fail_if_success (refine And.intro ?_ ?_))) | (refine Or.inl (?_ : (_ : Nat) = _ ∧ _); refine ⟨?_, ?_⟩; focus (first | (simp only [List.length_map]; done) | (simp only [List.length_map, List.length_append, List.length_cons, List.length_nil]; done))) | exact Or.inl rfl | (refine Or.inr (Or.inr ⟨?_, ?_⟩)) | (refine Or.inr ⟨?_, ?_⟩) | (refine fun h => ?_; first | exact h | exact rfl | (cases h; done)) | (refine om8 ?_; simp only [← List.map_drop, ← List.map_take]; exact rfl) | ((first | refine om1 ?_ | refine om2 ?_ | refine om3 ?_ | refine om4 ?_ | refine om5 ?_ | refine om6 ?_ | refine om7 ?_); first | (simp only [List.length_map]; done) | (simp only [List.length_map]; omega) | omega)))
            all_goals (simp; omega)
          · unfold leftCaps
            (repeat' (first | exact trivial | exact rfl | with_reducible assumption | (refine And.intro ?_ ?_) | (refine Exists.intro _ (And.intro rfl ?_)) | (refine Exists.intro _ (Exists.intro _ (And.intro rfl (And.intro rfl ?_)))) | (refine Or.inl ⟨rfl, rfl, ?_⟩) | (refine Or.inl ⟨rfl, ?_⟩; focus (fail_if_success (refine And.intro ?_ ?_))) | (refine Or.inl (?_ : (_ : Nat) = _ ∧ _); refine ⟨?_, ?_⟩; focus (first | (simp only [List.length_map]; done) | (simp only [List.length_map, List.length_append, List.length_cons, List.length_nil]; done))) | exact Or.inl rfl | (refine Or.inr (Or.inr ⟨?_, ?_⟩)) | (refine Or.inr ⟨?_, ?_⟩) | (refine fun h => ?_; first | exact h | exact rfl | (cases h; done)) | (refine om8 ?_; simp only [← List.map_drop, ← List.map_take]; exact rfl) | ((first | refine om1 ?_ | refine om2 ?_ | refine om3 ?_ | refine om4 ?_ | refine om5 ?_ | refine om6 ?_ | refine om7 ?_); first | (simp only [List.length_map]; done) | (simp only [List.length_map]; omega) | omega)))
        · rintro _ hj1 j rfl
          have hj2 := hj1
          rw [lst_len] at hj2
          rw [lst_get hj1]
          have g2 := hPg (c + j) (by omega)
          generalize pm (c + j) = x at g2
          repeat' (conv => whnf
                   first
                   | (refine get_id ?_; first | refine Get.mk _ rfl ?_ | refine Get.mk _ (g2 _ (by omega)) ?_)
                   | (refine need_id ?_; first | refine Need.a ?_)
                   | (refine eqk_id ?_; first | refine EqK.a ?_)
                   | (refine br_id ?_; first | refine Br.t ?_ | refine Br.f ?_ | (refine Br.pos ?_ ?_; focus (with_reducible assumption)) | (refine Br.neg ?_ ?_; focus (with_reducible assumption)) | (refine Br.dpos ?_ ?_; focus (first | with_reducible exact rfl | with_reducible exact Int.le_refl _ | with_reducible assumption)) | (refine Br.dneg ?_ ?_; focus (with_reducible assumption)) | (refine Br.d (fun _ => ?_) (fun _ => ?_) <;> (first | (exfalso; omega; done) | skip)) | refine Br.n ?_ | (refine Br.s (fun _ => ?_) (fun _ => ?_) <;> (first | (exfalso; omega; done) | skip)) | (refine Br.mk (fun _ => ?_) (fun _ => ?_) <;> (first | (exfalso; omega; done) | skip)))
                   | (refine regv_id ?_; first | refine RegV.qg ?_ | refine RegV.d ?_)
                   | (refine gds_id ?_; apply GdS.mk)
                   | (refine and_id ?_; exact ⟨rfl, rfl, rfl⟩)
                   | (refine imp_id ?_; first | refine imp_s (fun _ => ?_) | refine fun _ => ?_)
                   | refine NilB.mk (fun b hb => ?_)
                   | (refine alv_and ?_ ?_; focus (first | rfl | done))
                   | refine DrawV.mk [] ?_
                   | (refine appc_id ?_; first | refine AppC.growA ?_ | refine AppC.place ?_))
          all_goals (try (conv => whnf))
          refine nxr (j + 1) rfl (AtS.mk [] [0, 1, 2, 3, 4, 5, 6, 7, 8, 9, 10] rfl (by simp) rfl ?_ ?_)
          · (repeat' (first | exact trivial | exact rfl | with_reducible assumption | (refine And.intro ?_ ?_) | (refine Exists.intro _ (And.intro rfl ?_)) | (refine Exists.intro _ (Exists.intro _ (And.intro rfl (And.intro rfl ?_)))) | (refine Or.inl ⟨rfl, rfl, ?_⟩) | (refine Or.inl ⟨rfl, ?_⟩; focus (fail_if_success (refine And.intro ?_ ?_))) | (refine Or.inl (?_ : (_ : Nat) = _ ∧ _); refine ⟨?_, ?_⟩; focus (first | (simp only [List.length_map]; done) | (simp only [List.length_map, List.length_append, List.length_cons, List.length_nil]; done))) | exact Or.inl rfl | (refine Or.inr (Or.inr ⟨?_, ?_⟩)) | (refine Or.inr ⟨?_, ?_⟩) | (refine fun h => ?_; first | exact h | exact rfl | (cases h; done)) | (refine om8 ?_; simp only [← List.map_drop, ← List.map_take]; exact rfl) | ((first | refine om1 ?_ | refine om2 ?_ | refine om3 ?_ | refine om4 ?_ | refine om5 ?_ | refine om6 ?_ | refine om7 ?_); first | (simp only [List.length_map]; done) | (simp only [List.length_map]; omega) | omega)))
          · (repeat' (first | exact trivial | exact rfl | with_reducible assumption | (refine And.intro ?_ ?_) | (refine Exists.intro _ (And.intro rfl ?_)) | (refine Exists.intro _ (Exists.intro _ (And.intro rfl (And.intro rfl ?_)))) | (refine Or.inl ⟨rfl, rfl, ?_⟩) | (refine Or.inl ⟨rfl, ?_⟩; focus (fail_if_success (refine And.intro ?_ ?_))) | (refine Or.inl (?_ : (_ : Nat) = _ ∧ _); refine ⟨?_, ?_⟩; focus (first | (simp only [List.length_map]; done) | (simp only [List.length_map, List.length_append, List.length_cons, List.length_nil]; done))) | exact Or.inl rfl | (refine Or.inr (Or.inr ⟨?_, ?_⟩)) | (refine Or.inr ⟨?_, ?_⟩) | (refine fun h => ?_; first | exact h | exact rfl | (cases h; done)) | (refine om8 ?_; simp only [← List.map_drop, ← List.map_take]; exact rfl) | ((first | refine om1 ?_ | refine om2 ?_ | refine om3 ?_ | refine om4 ?_ | refine om5 ?_ | refine om6 ?_ | refine om7 ?_); first | (simp only [List.length_map]; done) | (simp only [List.length_map]; omega) | omega)))
        · rintro j rfl
          rw [lst_len]
          repeat' (conv => whnf
                   first
                   | (refine get_id ?_; first | refine Get.mk _ rfl ?_)
                   | (refine need_id ?_; first | refine Need.a ?_)
                   | (refine eqk_id ?_; first | refine EqK.a ?_)
                   | (refine br_id ?_; first | refine Br.t ?_ | refine Br.f ?_ | (refine Br.pos ?_ ?_; focus (with_reducible assumption)) | (refine Br.neg ?_ ?_; focus (with_reducible assumption)) | (refine Br.dpos ?_ ?_; focus (first | with_reducible exact rfl | with_reducible exact Int.le_refl _ | with_reducible assumption)) | (refine Br.dneg ?_ ?_; focus (with_reducible assumption)) | (refine Br.d (fun _ => ?_) (fun _ => ?_) <;> (first | (exfalso; omega; done) | skip)) | refine Br.n ?_ | (refine Br.s (fun _ => ?_) (fun _ => ?_) <;> (first | (exfalso; omega; done) | skip)) | (refine Br.mk (fun _ => ?_) (fun _ => ?_) <;> (first | (exfalso; omega; done) | skip)))
                   | (refine regv_id ?_; first | refine RegV.qg ?_ | refine RegV.d ?_)
                   | (refine gds_id ?_; apply GdS.mk)
                   | (refine and_id ?_; exact ⟨rfl, rfl, rfl⟩)
                   | (refine imp_id ?_; first | refine imp_s (fun _ => ?_) | refine fun _ => ?_)
                   | refine NilB.mk (fun b hb => ?_)
                   | (refine alv_and ?_ ?_; focus (first | rfl | done))
                   | refine DrawV.mk [] ?_
                   | (refine appc_id ?_; first | refine AppC.growA ?_ | refine AppC.place ?_))
          all_goals (try (conv => whnf))
          refine nx ⟨i + 1, F, T, P, v, C⟩ (by simp only; omega) ⟨by simp only; omega, b, p, c, hF, hT, hP, hC, hbc, hcp, by simp only; omega, by simp only; omega, hvc⟩ (AtS.mk [] [0, 1, 2, 3, 4, 5, 6, 7, 8, 9] rfl (by simp) rfl ?_ ?_)
          · (repeat' (first | exact trivial | exact rfl | with_reducible assumption | (refine And.intro ?_ ?_) | (refine Exists.intro _ (And.intro rfl ?_)) | (refine Exists.intro _ (Exists.intro _ (And.intro rfl (And.intro rfl ?_)))) | (refine Or.inl ⟨rfl, rfl, ?_⟩) | (refine Or.inl ⟨rfl, ?_⟩; focus (fail_if_success (refine And.intro ?_ ?_))) | (refine Or.inl (?_ : (_ : Nat) = _ ∧ _); refine ⟨?_, ?_⟩; focus (first | (simp only [List.length_map]; done) | (simp only [List.length_map, List.length_append, List.length_cons, List.length_nil]; done))) | exact Or.inl rfl | (refine Or.inr (Or.inr ⟨?_, ?_⟩)) | (refine Or.inr ⟨?_, ?_⟩) | (refine fun h => ?_; first | exact h | exact rfl | (cases h; done)) | (refine om8 ?_; simp only [← List.map_drop, ← List.map_take]; exact rfl) | ((first | refine om1 ?_ | refine om2 ?_ | refine om3 ?_ | refine om4 ?_ | refine om5 ?_ | refine om6 ?_ | refine om7 ?_); first | (simp only [List.length_map]; done) | (simp only [List.length_map]; omega) | omega)))
          · (repeat' (first | exact trivial | exact rfl | with_reducible assumption | (refine And.intro ?_ ?_) | (refine Exists.intro _ (And.intro rfl ?_)) | (refine Exists.intro _ (Exists.intro _ (And.intro rfl (And.intro rfl ?_)))) | (refine Or.inl ⟨rfl, rfl, ?_⟩) | (refine Or.inl ⟨rfl, ?_⟩; focus (fail_if_success (refine And.intro ?_ ?_))) | (refine Or.inl (?_ : (_ : Nat) = _ ∧ _); refine ⟨?_, ?_⟩; focus (first | (simp only [List.length_map]; done) | (simp only [List.length_map, List.length_append, List.length_cons, List.length_nil]; done))) | exact Or.inl rfl | (refine Or.inr (Or.inr ⟨?_, ?_⟩)) | (refine Or.inr ⟨?_, ?_⟩) | (refine fun h => ?_; first | exact h | exact rfl | (cases h; done)) | (refine om8 ?_; simp only [← List.map_drop, ← List.map_take]; exact rfl) | ((first | refine om1 ?_ | refine om2 ?_ | refine om3 ?_ | refine om4 ?_ | refine om5 ?_ | refine om6 ?_ | refine om7 ?_); first | (simp only [List.length_map]; done) | (simp only [List.length_map]; omega) | omega)))
  by_cases hk2 : k = 2
  · subst hk2
    obtain ⟨u1, hu1⟩ : ∃ u1, u1 = u ++ [⟨0, ⟨0, 0, 0, 0, 0⟩, T.seen⟩] := ⟨_, rfl⟩
    have hu1l : u1.length = u.length + 1 := by rw [hu1]; simp
    have hu1m : u.map Car.row ++ [[I 0, I 0, I 0, I 0, I 0, I 0, I T.seen]] = u1.map Car.row := by rw [hu1]; simp [Car.row]
    have hu1c : ∀ x ∈ u1, Car.ok c p x := by
      rw [hu1]
      intro x hx
      rcases List.mem_append.1 hx with hx | hx
      · exact hcar x hx
      · simp at hx
        subst hx
        exact .inl ⟨rfl, c, hTs, Nat.le_refl _⟩
    clear hcar hu1
    repeat' (conv => whnf
             first
             | (refine get_id ?_; first | refine Get.mk _ rfl ?_ | refine Get.mk _ (hg) ?_)
             | (refine need_id ?_; first | refine Need.a ?_ | refine Need.mk (by (exact ⟨rfl, rfl, rfl, by simp [msgB, carB, mkB], rfl, rfl⟩)) ?_)
             | (refine eqk_id ?_; first | refine EqK.a ?_)
             | (refine br_id ?_; first | refine Br.t ?_ | refine Br.f ?_ | (refine Br.pos ?_ ?_; focus (with_reducible assumption)) | (refine Br.neg ?_ ?_; focus (with_reducible assumption)) | (refine Br.dpos ?_ ?_; focus (first | with_reducible exact rfl | with_reducible exact Int.le_refl _ | with_reducible assumption)) | (refine Br.dneg ?_ ?_; focus (with_reducible assumption)) | (refine Br.d (fun _ => ?_) (fun _ => ?_) <;> (first | (exfalso; omega; done) | skip)) | refine Br.n ?_ | (refine Br.s (fun _ => ?_) (fun _ => ?_) <;> (first | (exfalso; omega; done) | skip)) | (refine Br.mk (fun _ => ?_) (fun _ => ?_) <;> (first | (exfalso; omega; done) | skip)))
             | (refine regv_id ?_; first | refine RegV.qg ?_ | refine RegV.d ?_)
             | (refine gds_id ?_; apply GdS.mk)
             | (refine and_id ?_; exact ⟨rfl, rfl, rfl⟩)
             | (refine imp_id ?_; first | refine imp_s (fun _ => ?_) | refine fun _ => ?_)
             | refine NilB.mk (fun b hb => ?_)
             | (refine alv_and ?_ ?_; focus (first | rfl | done))
             | refine DrawV.mk [] ?_
             | (refine appc_id ?_; first | refine AppC.growA ?_ | refine AppC.grow (by (simp [msgB, carB, mkB])) ?_ | refine AppC.place ?_)
             | (refine call_id ?_; first
                  | refine CallV.c (gF) ?_
                  | refine CallV.c (gT) ?_
                  | refine CallV.e (gF) ?_
                  | refine CallV.e (gT) ?_)
             | (refine calls_id ?_; first
                  | refine CallS.c (gF) ?_
                  | refine CallS.c (gT) ?_
                  | refine CallS.e (gF) ?_
                  | refine CallS.e (gT) ?_))
    all_goals (try (conv => whnf))
    refine LoopV.on (σ := Nat) rfl (fun j => [(2, .ptr 0 0 0), (3, .ptr 1 0 0), (4, .ptr 2 0 0), (5, .ptr 3 0 0), (6, .own 9 C.length), (7, .ptr 4 0 0), (33, mvX ms), (34, I ms.length), (35, I i), (180, .own 9 C.length), (181, I ((C.length : Nat))), (182, I j)]) (fun _ => [some ⟨4, 1, true, false, [[Bo false]]⟩, some ⟨24, 4, false, false, [[I F.peer, I F.base, .own 5 F.out.length, I F.seen]]⟩, some ⟨24, 4, false, false, [[I T.peer, I T.base, .own 6 T.out.length, I T.seen]]⟩, some ⟨22, 1, false, false, [[.own 7 P.length]]⟩, some ⟨44, 1, false, false, [[.own 8 u1.length]]⟩, some (msgB F.out), some (msgB T.out), some (msgB P), some (carB u1), some (msgB C)]) (fun j => j ≤ c) (fun j => c - j) 0 ?_ (Nat.zero_le _) ?_
    · refine AtS.mk [] [0, 1, 2, 3, 4, 5, 6, 7, 12, 9] rfl (by simp) rfl ?_ ?_
      · (repeat' (first | exact trivial | exact rfl | with_reducible assumption | (refine And.intro ?_ ?_) | (refine Exists.intro _ (And.intro rfl ?_)) | (refine Exists.intro _ (Exists.intro _ (And.intro rfl (And.intro rfl ?_)))) | (refine Or.inl ⟨rfl, rfl, ?_⟩) | (refine Or.inl ⟨rfl, ?_⟩; focus (fail_if_success (refine And.intro ?_ ?_))) | (refine Or.inl (?_ : (_ : Nat) = _ ∧ _); refine ⟨?_, ?_⟩; focus (first | (simp only [List.length_map]; done) | (simp only [List.length_map, List.length_append, List.length_cons, List.length_nil]; done))) | exact Or.inl rfl | (refine Or.inr (Or.inr ⟨?_, ?_⟩)) | (refine Or.inr ⟨?_, ?_⟩) | (refine fun h => ?_; first | exact h | exact rfl | (cases h; done)) | (refine om8 ?_; simp only [← List.map_drop, ← List.map_take]; exact rfl) | ((first | refine om1 ?_ | refine om2 ?_ | refine om3 ?_ | refine om4 ?_ | refine om5 ?_ | refine om6 ?_ | refine om7 ?_); first | (simp only [List.length_map]; done) | (simp only [List.length_map]; omega) | omega)))
        all_goals first | assumption | omega | (simp; omega)
      · (repeat' (first | exact trivial | exact rfl | with_reducible assumption | (refine And.intro ?_ ?_) | (refine Exists.intro _ (And.intro rfl ?_)) | (refine Exists.intro _ (Exists.intro _ (And.intro rfl (And.intro rfl ?_)))) | (refine Or.inl ⟨rfl, rfl, ?_⟩) | (refine Or.inl ⟨rfl, ?_⟩; focus (fail_if_success (refine And.intro ?_ ?_))) | (refine Or.inl (?_ : (_ : Nat) = _ ∧ _); refine ⟨?_, ?_⟩; focus (first | (simp only [List.length_map]; done) | (simp only [List.length_map, List.length_append, List.length_cons, List.length_nil]; done))) | exact Or.inl rfl | (refine Or.inr (Or.inr ⟨?_, ?_⟩)) | (refine Or.inr ⟨?_, ?_⟩) | (refine fun h => ?_; first | exact h | exact rfl | (cases h; done)) | (refine om8 ?_; simp only [← List.map_drop, ← List.map_take]; exact rfl) | ((first | refine om1 ?_ | refine om2 ?_ | refine om3 ?_ | refine om4 ?_ | refine om5 ?_ | refine om6 ?_ | refine om7 ?_); first | (simp only [List.length_map]; done) | (simp only [List.length_map]; omega) | omega)))
        all_goals first | assumption | omega | (simp; omega)
    intro j hj
    rcases Nat.lt_or_ge j (c) with hjc | hjc
    · have g1 := hCg j hjc
      have g2 := hPg j (by omega)
      generalize pm j = x at g1 g2
      repeat' (conv => whnf
               first
               | (refine get_id ?_; first | refine Get.mk _ rfl ?_ | refine Get.mk _ (g1 _ rfl) ?_ | refine Get.mk _ (g2 _ (by omega)) ?_)
               | (refine need_id ?_; first | refine Need.a ?_)
               | (refine eqk_id ?_; first | refine EqK.a ?_)
               | (refine br_id ?_; first | refine Br.t ?_ | refine Br.f ?_ | (refine Br.pos ?_ ?_; focus (with_reducible assumption)) | (refine Br.neg ?_ ?_; focus (with_reducible assumption)) | (refine Br.dpos ?_ ?_; focus (first | with_reducible exact rfl | with_reducible exact Int.le_refl _ | with_reducible assumption)) | (refine Br.dneg ?_ ?_; focus (with_reducible assumption)) | (refine Br.d (fun _ => ?_) (fun _ => ?_) <;> (first | (exfalso; omega; done) | skip)) | refine Br.n ?_ | (refine Br.s (fun _ => ?_) (fun _ => ?_) <;> (first | (exfalso; omega; done) | skip)) | (refine Br.mk (fun _ => ?_) (fun _ => ?_) <;> (first | (exfalso; omega; done) | skip)))
               | (refine regv_id ?_; first | refine RegV.qg ?_ | refine RegV.d ?_)
               | (refine gds_id ?_; apply GdS.mk)
               | (refine and_id ?_; exact ⟨rfl, rfl, rfl⟩)
               | (refine imp_id ?_; first | refine imp_s (fun _ => ?_) | refine fun _ => ?_)
               | refine NilB.mk (fun b hb => ?_)
               | (refine alv_and ?_ ?_; focus (first | rfl | done))
               | refine DrawV.mk [] ?_
               | (refine appc_id ?_; first | refine AppC.growA ?_ | refine AppC.place ?_))
      all_goals (try (conv => whnf))
      · refine nx (j + 1) (by omega) (by omega) (AtS.mk [] [0, 1, 2, 3, 4, 5, 6, 7, 8, 9] rfl (by simp) rfl ?_ ?_)
        · (repeat' (first | exact trivial | exact rfl | with_reducible assumption | (refine And.intro ?_ ?_) | (refine Exists.intro _ (And.intro rfl ?_)) | (refine Exists.intro _ (Exists.intro _ (And.intro rfl (And.intro rfl ?_)))) | (refine Or.inl ⟨rfl, rfl, ?_⟩) | (refine Or.inl ⟨rfl, ?_⟩; focus (fail_if_success (refine And.intro ?_ ?_))) | (refine Or.inl (?_ : (_ : Nat) = _ ∧ _); refine ⟨?_, ?_⟩; focus (first | (simp only [List.length_map]; done) | (simp only [List.length_map, List.length_append, List.length_cons, List.length_nil]; done))) | exact Or.inl rfl | (refine Or.inr (Or.inr ⟨?_, ?_⟩)) | (refine Or.inr ⟨?_, ?_⟩) | (refine fun h => ?_; first | exact h | exact rfl | (cases h; done)) | (refine om8 ?_; simp only [← List.map_drop, ← List.map_take]; exact rfl) | ((first | refine om1 ?_ | refine om2 ?_ | refine om3 ?_ | refine om4 ?_ | refine om5 ?_ | refine om6 ?_ | refine om7 ?_); first | (simp only [List.length_map]; done) | (simp only [List.length_map]; omega) | omega)))
        · (repeat' (first | exact trivial | exact rfl | with_reducible assumption | (refine And.intro ?_ ?_) | (refine Exists.intro _ (And.intro rfl ?_)) | (refine Exists.intro _ (Exists.intro _ (And.intro rfl (And.intro rfl ?_)))) | (refine Or.inl ⟨rfl, rfl, ?_⟩) | (refine Or.inl ⟨rfl, ?_⟩; focus (fail_if_success (refine And.intro ?_ ?_))) | (refine Or.inl (?_ : (_ : Nat) = _ ∧ _); refine ⟨?_, ?_⟩; focus (first | (simp only [List.length_map]; done) | (simp only [List.length_map, List.length_append, List.length_cons, List.length_nil]; done))) | exact Or.inl rfl | (refine Or.inr (Or.inr ⟨?_, ?_⟩)) | (refine Or.inr ⟨?_, ?_⟩) | (refine fun h => ?_; first | exact h | exact rfl | (cases h; done)) | (refine om8 ?_; simp only [← List.map_drop, ← List.map_take]; exact rfl) | ((first | refine om1 ?_ | refine om2 ?_ | refine om3 ?_ | refine om4 ?_ | refine om5 ?_ | refine om6 ?_ | refine om7 ?_); first | (simp only [List.length_map]; done) | (simp only [List.length_map]; omega) | omega)))
      · exfalso
        rename_i hx
        simp at hx
    · repeat' (conv => whnf
               first
               | (refine get_id ?_; first | refine Get.mk _ rfl ?_)
               | (refine need_id ?_; first | refine Need.a ?_)
               | (refine eqk_id ?_; first | refine EqK.a ?_)
               | (refine br_id ?_; first | refine Br.t ?_ | refine Br.f ?_ | (refine Br.pos ?_ ?_; focus (with_reducible assumption)) | (refine Br.neg ?_ ?_; focus (with_reducible assumption)) | (refine Br.dpos ?_ ?_; focus (first | with_reducible exact rfl | with_reducible exact Int.le_refl _ | with_reducible assumption)) | (refine Br.dneg ?_ ?_; focus (with_reducible assumption)) | (refine Br.d (fun _ => ?_) (fun _ => ?_) <;> (first | (exfalso; omega; done) | skip)) | refine Br.n ?_ | (refine Br.s (fun _ => ?_) (fun _ => ?_) <;> (first | (exfalso; omega; done) | skip)) | (refine Br.mk (fun _ => ?_) (fun _ => ?_) <;> (first | (exfalso; omega; done) | skip)))
               | (refine regv_id ?_; first | refine RegV.qg ?_ | refine RegV.d ?_)
               | (refine gds_id ?_; apply GdS.mk)
               | (refine and_id ?_; exact ⟨rfl, rfl, rfl⟩)
               | (refine imp_id ?_; first | refine imp_s (fun _ => ?_) | refine fun _ => ?_)
               | refine NilB.mk (fun b hb => ?_)
               | (refine alv_and ?_ ?_; focus (first | rfl | done))
               | refine DrawV.mk [] ?_
               | (refine appc_id ?_; first | refine AppC.growA ?_ | refine AppC.place ?_)
               | (refine call_id ?_; first
                    | refine CallV.c (cl) ?_
                    | refine CallV.e (cl) ?_)
               | (refine calls_id ?_; first
                    | refine CallS.c (cl) ?_
                    | refine CallS.e (cl) ?_))
      all_goals (try (conv => whnf))
      refine RangeV.on rfl (lst (c) (p)) leftIt 11 48 (leftCaps F T.seen) [(2, .ptr 0 0 0), (3, .ptr 1 0 0), (4, .ptr 2 0 0), (5, .ptr 3 0 0), (6, .own 9 C.length), (7, .ptr 4 0 0), (23, .ptr 10 0 0), (33, mvX ms), (34, I ms.length), (35, I i), (199, .clo 48 (leftCaps F T.seen))]
        (fun j : Nat => [some ⟨4, 1, true, false, [[Bo false]]⟩, some ⟨24, 4, false, false, [[I F.peer, I F.base, .own 5 F.out.length, I F.seen]]⟩, some ⟨24, 4, false, false, [[I T.peer, I T.base, .own 6 T.out.length, I T.seen]]⟩, some ⟨22, 1, false, false, [[.own 7 P.length]]⟩, some ⟨44, 1, false, false, [[.own 8 u1.length]]⟩, some (msgB F.out), some (msgB T.out), some (msgB P), some (carB u1), some (msgB C), some ⟨3, 1, true, false, [[I ((c + j : Nat))]]⟩])
        (fun j s => s = j) 0 ic ?_ rfl rfl rfl (fun x => ⟨rfl, rfl⟩) (Nat.zero_le _) rfl (fun _ => rfl) ?_ ?_
      · refine AtS.mk [] [0, 1, 2, 3, 4, 5, 6, 7, 8, 9, 10] rfl (by simp) rfl ?_ ?_
        · (repeat' (first | exact trivial | exact rfl | with_reducible assumption | (refine And.intro ?_ ?_) | (refine Exists.intro _ (And.intro rfl ?_)) | (refine Exists.intro _ (Exists.intro _ (And.intro rfl (And.intro rfl ?_)))) | (refine Or.inl ⟨rfl, rfl, ?_⟩) | (refine Or.inl ⟨rfl, ?_⟩; focus (fail_if_success (refine And.intro ?_ ?_))) | (refine Or.inl (?_ : (_ : Nat) = _ ∧ _); refine ⟨?_, ?_⟩; focus (first | (simp only [List.length_map]; done) | (simp only [List.length_map, List.length_append, List.length_cons, List.length_nil]; done))) | exact Or.inl rfl | (refine Or.inr (Or.inr ⟨?_, ?_⟩)) | (refine Or.inr ⟨?_, ?_⟩) | (refine fun h => ?_; first | exact h | exact rfl | (cases h; done)) | (refine om8 ?_; simp only [← List.map_drop, ← List.map_take]; exact rfl) | ((first | refine om1 ?_ | refine om2 ?_ | refine om3 ?_ | refine om4 ?_ | refine om5 ?_ | refine om6 ?_ | refine om7 ?_); first | (simp only [List.length_map]; done) | (simp only [List.length_map]; omega) | omega)))
          all_goals (simp; omega)
        · unfold leftCaps
          (repeat' (first | exact trivial | exact rfl | with_reducible assumption | (refine And.intro ?_ ?_) | (refine Exists.intro _ (And.intro rfl ?_)) | (refine Exists.intro _ (Exists.intro _ (And.intro rfl (And.intro rfl ?_)))) | (refine Or.inl ⟨rfl, rfl, ?_⟩) | (refine Or.inl ⟨rfl, ?_⟩; focus (fail_if_success (refine And.intro ?_ ?_))) | (refine Or.inl (?_ : (_ : Nat) = _ ∧ _); refine ⟨?_, ?_⟩; focus (first | (simp only [List.length_map]; done) | (simp only [List.length_map, List.length_append, List.length_cons, List.length_nil]; done))) | exact Or.inl rfl | (refine Or.inr (Or.inr ⟨?_, ?_⟩)) | (refine Or.inr ⟨?_, ?_⟩) | (refine fun h => ?_; first | exact h | exact rfl | (cases h; done)) | (refine om8 ?_; simp only [← List.map_drop, ← List.map_take]; exact rfl) | ((first | refine om1 ?_ | refine om2 ?_ | refine om3 ?_ | refine om4 ?_ | refine om5 ?_ | refine om6 ?_ | refine om7 ?_); first | (simp only [List.length_map]; done) | (simp only [List.length_map]; omega) | omega)))
      · rintro _ hj1 j rfl
        have hj2 := hj1
        rw [lst_len] at hj2
        rw [lst_get hj1]
        have g2 := hPg (c + j) (by omega)
        generalize pm (c + j) = x at g2
        repeat' (conv => whnf
                 first
                 | (refine get_id ?_; first | refine Get.mk _ rfl ?_ | refine Get.mk _ (g2 _ (by omega)) ?_)
                 | (refine need_id ?_; first | refine Need.a ?_)
                 | (refine eqk_id ?_; first | refine EqK.a ?_)
                 | (refine br_id ?_; first | refine Br.t ?_ | refine Br.f ?_ | (refine Br.pos ?_ ?_; focus (with_reducible assumption)) | (refine Br.neg ?_ ?_; focus (with_reducible assumption)) | (refine Br.dpos ?_ ?_; focus (first | with_reducible exact rfl | with_reducible exact Int.le_refl _ | with_reducible assumption)) | (refine Br.dneg ?_ ?_; focus (with_reducible assumption)) | (refine Br.d (fun _ => ?_) (fun _ => ?_) <;> (first | (exfalso; omega; done) | skip)) | refine Br.n ?_ | (refine Br.s (fun _ => ?_) (fun _ => ?_) <;> (first | (exfalso; omega; done) | skip)) | (refine Br.mk (fun _ => ?_) (fun _ => ?_) <;> (first | (exfalso; omega; done) | skip)))
                 | (refine regv_id ?_; first | refine RegV.qg ?_ | refine RegV.d ?_)
                 | (refine gds_id ?_; apply GdS.mk)
                 | (refine and_id ?_; exact ⟨rfl, rfl, rfl⟩)
                 | (refine imp_id ?_; first | refine imp_s (fun _ => ?_) | refine fun _ => ?_)
                 | refine NilB.mk (fun b hb => ?_)
                 | (refine alv_and ?_ ?_; focus (first | rfl | done))
                 | refine DrawV.mk [] ?_
                 | (refine appc_id ?_; first | refine AppC.growA ?_ | refine AppC.place ?_))
        all_goals (try (conv => whnf))
        refine nxr (j + 1) rfl (AtS.mk [] [0, 1, 2, 3, 4, 5, 6, 7, 8, 9, 10] rfl (by simp) rfl ?_ ?_)
        · (repeat' (first | exact trivial | exact rfl | with_reducible assumption | (refine And.intro ?_ ?_) | (refine Exists.intro _ (And.intro rfl ?_)) | (refine Exists.intro _ (Exists.intro _ (And.intro rfl (And.intro rfl ?_)))) | (refine Or.inl ⟨rfl, rfl, ?_⟩) | (refine Or.inl ⟨rfl, ?_⟩; focus (fail_if_success (refine And.intro ?_ ?_))) | (refine Or.inl (?_ : (_ : Nat) = _ ∧ _); refine ⟨?_, ?_⟩; focus (first | (simp only [List.length_map]; done) | (simp only [List.length_map, List.length_append, List.length_cons, List.length_nil]; done))) | exact Or.inl rfl | (refine Or.inr (Or.inr ⟨?_, ?_⟩)) | (refine Or.inr ⟨?_, ?_⟩) | (refine fun h => ?_; first | exact h | exact rfl | (cases h; done)) | (refine om8 ?_; simp only [← List.map_drop, ← List.map_take]; exact rfl) | ((first | refine om1 ?_ | refine om2 ?_ | refine om3 ?_ | refine om4 ?_ | refine om5 ?_ | refine om6 ?_ | refine om7 ?_); first | (simp only [List.length_map]; done) | (simp only [List.length_map]; omega) | omega)))
        · (repeat' (first | exact trivial | exact rfl | with_reducible assumption | (refine And.intro ?_ ?_) | (refine Exists.intro _ (And.intro rfl ?_)) | (refine Exists.intro _ (Exists.intro _ (And.intro rfl (And.intro rfl ?_)))) | (refine Or.inl ⟨rfl, rfl, ?_⟩) | (refine Or.inl ⟨rfl, ?_⟩; focus (fail_if_success (refine And.intro ?_ ?_))) | (refine Or.inl (?_ : (_ : Nat) = _ ∧ _); refine ⟨?_, ?_⟩; focus (first | (simp only [List.length_map]; done) | (simp only [List.length_map, List.length_append, List.length_cons, List.length_nil]; done))) | exact Or.inl rfl | (refine Or.inr (Or.inr ⟨?_, ?_⟩)) | (refine Or.inr ⟨?_, ?_⟩) | (refine fun h => ?_; first | exact h | exact rfl | (cases h; done)) | (refine om8 ?_; simp only [← List.map_drop, ← List.map_take]; exact rfl) | ((first | refine om1 ?_ | refine om2 ?_ | refine om3 ?_ | refine om4 ?_ | refine om5 ?_ | refine om6 ?_ | refine om7 ?_); first | (simp only [List.length_map]; done) | (simp only [List.length_map]; omega) | omega)))
      · rintro j rfl
        rw [lst_len]
        repeat' (conv => whnf
                 first
                 | (refine get_id ?_; first | refine Get.mk _ rfl ?_)
                 | (refine need_id ?_; first | refine Need.a ?_)
                 | (refine eqk_id ?_; first | refine EqK.a ?_)
                 | (refine br_id ?_; first | refine Br.t ?_ | refine Br.f ?_ | (refine Br.pos ?_ ?_; focus (with_reducible assumption)) | (refine Br.neg ?_ ?_; focus (with_reducible assumption)) | (refine Br.dpos ?_ ?_; focus (first | with_reducible exact rfl | with_reducible exact Int.le_refl _ | with_reducible assumption)) | (refine Br.dneg ?_ ?_; focus (with_reducible assumption)) | (refine Br.d (fun _ => ?_) (fun _ => ?_) <;> (first | (exfalso; omega; done) | skip)) | refine Br.n ?_ | (refine Br.s (fun _ => ?_) (fun _ => ?_) <;> (first | (exfalso; omega; done) | skip)) | (refine Br.mk (fun _ => ?_) (fun _ => ?_) <;> (first | (exfalso; omega; done) | skip)))
                 | (refine regv_id ?_; first | refine RegV.qg ?_ | refine RegV.d ?_)
                 | (refine gds_id ?_; apply GdS.mk)
                 | (refine and_id ?_; exact ⟨rfl, rfl, rfl⟩)
                 | (refine imp_id ?_; first | refine imp_s (fun _ => ?_) | refine fun _ => ?_)
                 | refine NilB.mk (fun b hb => ?_)
                 | (refine alv_and ?_ ?_; focus (first | rfl | done))
                 | refine DrawV.mk [] ?_
                 | (refine appc_id ?_; first | refine AppC.growA ?_ | refine AppC.place ?_))
        all_goals (try (conv => whnf))
        refine nx ⟨i + 1, F, T, P, u1, C⟩ (by simp only; omega) ⟨by simp only; omega, b, p, c, hF, hT, hP, hC, hbc, hcp, by simp only; omega, by simp only; omega, hu1c⟩ (AtS.mk [] [0, 1, 2, 3, 4, 5, 6, 7, 8, 9] rfl (by simp) rfl ?_ ?_)
        · (repeat' (first | exact trivial | exact rfl | with_reducible assumption | (refine And.intro ?_ ?_) | (refine Exists.intro _ (And.intro rfl ?_)) | (refine Exists.intro _ (Exists.intro _ (And.intro rfl (And.intro rfl ?_)))) | (refine Or.inl ⟨rfl, rfl, ?_⟩) | (refine Or.inl ⟨rfl, ?_⟩; focus (fail_if_success (refine And.intro ?_ ?_))) | (refine Or.inl (?_ : (_ : Nat) = _ ∧ _); refine ⟨?_, ?_⟩; focus (first | (simp only [List.length_map]; done) | (simp only [List.length_map, List.length_append, List.length_cons, List.length_nil]; done))) | exact Or.inl rfl | (refine Or.inr (Or.inr ⟨?_, ?_⟩)) | (refine Or.inr ⟨?_, ?_⟩) | (refine fun h => ?_; first | exact h | exact rfl | (cases h; done)) | (refine om8 ?_; simp only [← List.map_drop, ← List.map_take]; exact rfl) | ((first | refine om1 ?_ | refine om2 ?_ | refine om3 ?_ | refine om4 ?_ | refine om5 ?_ | refine om6 ?_ | refine om7 ?_); first | (simp only [List.length_map]; done) | (simp only [List.length_map]; omega) | omega)))
        · (repeat' (first | exact trivial | exact rfl | with_reducible assumption | (refine And.intro ?_ ?_) | (refine Exists.intro _ (And.intro rfl ?_)) | (refine Exists.intro _ (Exists.intro _ (And.intro rfl (And.intro rfl ?_)))) | (refine Or.inl ⟨rfl, rfl, ?_⟩) | (refine Or.inl ⟨rfl, ?_⟩; focus (fail_if_success (refine And.intro ?_ ?_))) | (refine Or.inl (?_ : (_ : Nat) = _ ∧ _); refine ⟨?_, ?_⟩; focus (first | (simp only [List.length_map]; done) | (simp only [List.length_map, List.length_append, List.length_cons, List.length_nil]; done))) | exact Or.inl rfl | (refine Or.inr (Or.inr ⟨?_, ?_⟩)) | (refine Or.inr ⟨?_, ?_⟩) | (refine fun h => ?_; first | exact h | exact rfl | (cases h; done)) | (refine om8 ?_; simp only [← List.map_drop, ← List.map_take]; exact rfl) | ((first | refine om1 ?_ | refine om2 ?_ | refine om3 ?_ | refine om4 ?_ | refine om5 ?_ | refine om6 ?_ | refine om7 ?_); first | (simp only [List.length_map]; done) | (simp only [List.length_map]; omega) | omega)))
  have h34 : k = 3 ∨ k = 4 := by omega
  by_cases hr : a < 0 ∨ a ≥ u.length
  · replace hcar : Hid _ := hcar
    repeat' (conv => whnf
             first
             | (refine get_id ?_; first | refine Get.mk _ rfl ?_ | refine Get.mk _ (hg) ?_)
             | (refine need_id ?_; first | refine Need.a ?_)
             | (refine eqk_id ?_; first | refine EqK.a ?_)
             | (refine br_id ?_; first | refine Br.t ?_ | refine Br.f ?_ | (refine Br.pos ?_ ?_; focus (with_reducible assumption)) | (refine Br.neg ?_ ?_; focus (with_reducible assumption)) | (refine Br.dpos ?_ ?_; focus (first | with_reducible exact rfl | with_reducible exact Int.le_refl _ | with_reducible assumption)) | (refine Br.dneg ?_ ?_; focus (with_reducible assumption)) | (refine Br.d (fun _ => ?_) (fun _ => ?_) <;> (first | (exfalso; omega; done) | skip)) | refine Br.n ?_ | (refine Br.s (fun _ => ?_) (fun _ => ?_) <;> (first | (exfalso; omega; done) | skip)) | (refine Br.mk (fun _ => ?_) (fun _ => ?_) <;> (first | (exfalso; omega; done) | skip)))
             | (refine regv_id ?_; first | refine RegV.qg ?_ | refine RegV.d ?_)
             | (refine gds_id ?_; apply GdS.mk)
             | (refine and_id ?_; exact ⟨rfl, rfl, rfl⟩)
             | (refine imp_id ?_; first | refine imp_s (fun _ => ?_) | refine fun _ => ?_)
             | refine NilB.mk (fun b hb => ?_)
             | (refine alv_and ?_ ?_; focus (first | rfl | done))
             | refine DrawV.mk [] ?_
             | (refine appc_id ?_; first | refine AppC.growA ?_ | refine AppC.place ?_))
    all_goals (try (conv => whnf))
    all_goals refine nx ⟨i + 1, F, T, P, u, C⟩ (by simp only; omega) ⟨by simp only; omega, b, p, c, hF, hT, hP, hC, hbc, hcp, by simp only; omega, by simp only; omega, hcar⟩ (AtS.mk [] [0, 1, 2, 3, 4, 5, 6, 7, 8, 9] rfl (by simp) rfl ?_ ?_)
    all_goals (repeat' (first | exact trivial | exact rfl | with_reducible assumption | (refine And.intro ?_ ?_) | (refine Exists.intro _ (And.intro rfl ?_)) | (refine Exists.intro _ (Exists.intro _ (And.intro rfl (And.intro rfl ?_)))) | (refine Or.inl ⟨rfl, rfl, ?_⟩) | (refine Or.inl ⟨rfl, ?_⟩; focus (fail_if_success (refine And.intro ?_ ?_))) | (refine Or.inl (?_ : (_ : Nat) = _ ∧ _); refine ⟨?_, ?_⟩; focus (first | (simp only [List.length_map]; done) | (simp only [List.length_map, List.length_append, List.length_cons, List.length_nil]; done))) | exact Or.inl rfl | (refine Or.inr (Or.inr ⟨?_, ?_⟩)) | (refine Or.inr ⟨?_, ?_⟩) | (refine fun h => ?_; first | exact h | exact rfl | (cases h; done)) | (refine om8 ?_; simp only [← List.map_drop, ← List.map_take]; exact rfl) | ((first | refine om1 ?_ | refine om2 ?_ | refine om3 ?_ | refine om4 ?_ | refine om5 ?_ | refine om6 ?_ | refine om7 ?_); first | (simp only [List.length_map]; done) | (simp only [List.length_map]; omega) | omega)))
  have hau : a.toNat < u.length := by omega
  have hu := car_get u a.toNat rfl hau
  have hxo := hcar u[a.toNat] (List.getElem_mem _)
  by_cases hk4 : k = 4
  · subst hk4
    replace hcar : Hid _ := hcar
    clear hxo
    repeat' (conv => whnf
             first
             | (refine get_id ?_; first | refine Get.mk _ rfl ?_ | refine Get.mk _ (hg) ?_ | refine Get.mk _ (hu) ?_)
             | (refine need_id ?_; first | refine Need.a ?_ | refine Need.mk (by (exact ⟨rfl, rfl, rfl, by simp [msgB, carB, mkB], rfl, rfl⟩)) ?_)
             | (refine eqk_id ?_; first | refine EqK.a ?_)
             | (refine br_id ?_; first | refine Br.t ?_ | refine Br.f ?_ | (refine Br.pos ?_ ?_; focus (with_reducible assumption)) | (refine Br.neg ?_ ?_; focus (with_reducible assumption)) | (refine Br.dpos ?_ ?_; focus (first | with_reducible exact rfl | with_reducible exact Int.le_refl _ | with_reducible assumption)) | (refine Br.dneg ?_ ?_; focus (with_reducible assumption)) | (refine Br.d (fun _ => ?_) (fun _ => ?_) <;> (first | (exfalso; omega; done) | skip)) | refine Br.n ?_ | (refine Br.s (fun _ => ?_) (fun _ => ?_) <;> (first | (exfalso; omega; done) | skip)) | (refine Br.mk (fun _ => ?_) (fun _ => ?_) <;> (first | (exfalso; omega; done) | skip)))
             | (refine regv_id ?_; first | refine RegV.d (id := 34) ?_ | refine RegV.qg ?_ | refine RegV.d ?_)
             | (refine gds_id ?_; apply GdS.mk)
             | (refine and_id ?_; exact ⟨rfl, rfl, rfl⟩)
             | (refine imp_id ?_; first | refine imp_s (fun _ => ?_) | refine fun _ => ?_)
             | refine NilB.mk (fun b hb => ?_)
             | (refine alv_and ?_ ?_; focus (first | rfl | done))
             | refine DrawV.mk [(5, 12), (11, 13)] ?_
             | (refine appc_id ?_; first | refine AppC.growA ?_ | refine AppC.grow (by (simp [msgB, carB, mkB])) ?_ | refine AppC.place ?_))
    all_goals (try (conv => whnf))
    refine nx ⟨i + 1, F, T, P, u.take a.toNat ++ (u.drop (a + 1).toNat).take (u.length - (a + 1).toNat), C⟩ (by simp only; omega) ⟨by simp only; omega, b, p, c, hF, hT, hP, hC, hbc, hcp, by simp only; omega, by simp only [List.length_append, List.length_take, List.length_drop]; omega, fun x hx => ?_⟩ (AtS.mk [] [0, 1, 2, 3, 4, 5, 6, 7, 14, 9] rfl (by simp) rfl ?_ ?_)
    · rcases List.mem_append.1 hx with hx | hx
      · exact hcar x (List.mem_of_mem_take hx)
      · exact hcar x (List.mem_of_mem_drop (List.mem_of_mem_take hx))
    · (repeat' (first | exact trivial | exact rfl | with_reducible assumption | (refine And.intro ?_ ?_) | (refine Exists.intro _ (And.intro rfl ?_)) | (refine Exists.intro _ (Exists.intro _ (And.intro rfl (And.intro rfl ?_)))) | (refine Or.inl ⟨rfl, rfl, ?_⟩) | (refine Or.inl ⟨rfl, ?_⟩; focus (fail_if_success (refine And.intro ?_ ?_))) | (refine Or.inl (?_ : (_ : Nat) = _ ∧ _); refine ⟨?_, ?_⟩; focus (first | (simp only [List.length_map]; done) | (simp only [List.length_map, List.length_append, List.length_cons, List.length_nil]; done))) | exact Or.inl rfl | (refine Or.inr (Or.inr ⟨?_, ?_⟩)) | (refine Or.inr ⟨?_, ?_⟩) | (refine fun h => ?_; first | exact h | exact rfl | (cases h; done)) | (refine om8 ?_; simp only [← List.map_drop, ← List.map_take]; exact rfl) | ((first | refine om1 ?_ | refine om2 ?_ | refine om3 ?_ | refine om4 ?_ | refine om5 ?_ | refine om6 ?_ | refine om7 ?_); first | (simp only [List.length_map]; done) | (simp only [List.length_map]; omega) | omega)))
      all_goals simp [carB, mkB, List.map_take, List.map_drop]
    · (repeat' (first | exact trivial | exact rfl | with_reducible assumption | (refine And.intro ?_ ?_) | (refine Exists.intro _ (And.intro rfl ?_)) | (refine Exists.intro _ (Exists.intro _ (And.intro rfl (And.intro rfl ?_)))) | (refine Or.inl ⟨rfl, rfl, ?_⟩) | (refine Or.inl ⟨rfl, ?_⟩; focus (fail_if_success (refine And.intro ?_ ?_))) | (refine Or.inl (?_ : (_ : Nat) = _ ∧ _); refine ⟨?_, ?_⟩; focus (first | (simp only [List.length_map]; done) | (simp only [List.length_map, List.length_append, List.length_cons, List.length_nil]; done))) | exact Or.inl rfl | (refine Or.inr (Or.inr ⟨?_, ?_⟩)) | (refine Or.inr ⟨?_, ?_⟩) | (refine fun h => ?_; first | exact h | exact rfl | (cases h; done)) | (refine om8 ?_; simp only [← List.map_drop, ← List.map_take]; exact rfl) | ((first | refine om1 ?_ | refine om2 ?_ | refine om3 ?_ | refine om4 ?_ | refine om5 ?_ | refine om6 ?_ | refine om7 ?_); first | (simp only [List.length_map]; done) | (simp only [List.length_map]; omega) | omega)))
  have hk3 : k = 3 := by omega
  subst hk3
  rcases hxo with ⟨hs, w, hw, hwc⟩ | ⟨q, hs, hq, hm⟩
  · generalize u[a.toNat] = x at hu hs hw
    obtain ⟨xs, xm, xw⟩ := x
    dsimp only at hs hw
    subst hs hw
    replace hu : nth (u.map Car.row) a.toNat = some [I 0, I xm.kind, I xm.obj, I xm.node, I xm.num, I xm.whr, I w] := hu
    have ch := heard_pcon F false w (by omega) (by omega)
    rw [show heardS F w = (fromE (max b w) p, 0) by rw [hF]; exact heard_from w (by omega) (by omega) (by omega)] at ch
    obtain ⟨b2, hb2⟩ : ∃ b2, b2 = max b w := ⟨_, rfl⟩
    have hb2c : b2 ≤ c := by omega
    rw [← hb2] at ch
    clear hb2
    have hF1l := fromE_len b2 p
    have hF1b : (fromE b2 p).base = b2 := rfl
    have gF1 := good_pcon (fromE b2 p) false (by omega)
    rw [fromE_good (by omega) (by omega)] at gF1
    have cl1 := left_pcon (fromE b2 p) false T.seen (by omega)
    have ic1 := left1_icon (fromE b2 p) T.seen (by omega)
    rw [show leftS (fromE b2 p) T.seen = lst c p by rw [hTs]; exact left_from hb2c (by omega) (by omega)] at ic1
    generalize hF1 : fromE b2 p = F1 at ch hF1l hF1b gF1 cl1 ic1
    replace hcar : Hid _ := hcar
    repeat' (conv => whnf
             first
             | (refine get_id ?_; first | refine Get.mk _ rfl ?_ | refine Get.mk _ (hg) ?_ | refine Get.mk _ (hu) ?_)
             | (refine need_id ?_; first | refine Need.a ?_)
             | (refine eqk_id ?_; first | refine EqK.a ?_)
             | (refine br_id ?_; first | refine Br.t ?_ | refine Br.f ?_ | (refine Br.pos ?_ ?_; focus (with_reducible assumption)) | (refine Br.neg ?_ ?_; focus (with_reducible assumption)) | (refine Br.dpos ?_ ?_; focus (first | with_reducible exact rfl | with_reducible exact Int.le_refl _ | with_reducible assumption)) | (refine Br.dneg ?_ ?_; focus (with_reducible assumption)) | (refine Br.d (fun _ => ?_) (fun _ => ?_) <;> (first | (exfalso; omega; done) | skip)) | refine Br.n ?_ | (refine Br.s (fun _ => ?_) (fun _ => ?_) <;> (first | (exfalso; omega; done) | skip)) | (refine Br.mk (fun _ => ?_) (fun _ => ?_) <;> (first | (exfalso; omega; done) | skip)))
             | (refine regv_id ?_; first | refine RegV.qg ?_ | refine RegV.d ?_)
             | (refine gds_id ?_; apply GdS.mk)
             | (refine and_id ?_; exact ⟨rfl, rfl, rfl⟩)
             | (refine imp_id ?_; first | refine imp_s (fun _ => ?_) | refine fun _ => ?_)
             | refine NilB.mk (fun b hb => ?_)
             | (refine alv_and ?_ ?_; focus (first | rfl | done))
             | refine DrawV.mk [] ?_
             | (refine appc_id ?_; first | refine AppC.growA ?_ | refine AppC.place ?_)
             | (refine call_id ?_; first
                  | refine CallV.c (ch) ?_
                  | refine CallV.c (gF1) ?_
                  | refine CallV.c (gT) ?_
                  | refine CallV.e (ch) ?_
                  | refine CallV.e (gF1) ?_
                  | refine CallV.e (gT) ?_)
             | (refine calls_id ?_; first
                  | refine CallS.c (ch) ?_
                  | refine CallS.c (gF1) ?_
                  | refine CallS.c (gT) ?_
                  | refine CallS.e (ch) ?_
                  | refine CallS.e (gF1) ?_
                  | refine CallS.e (gT) ?_))
    all_goals (try (conv => whnf))
    refine LoopV.on (σ := Nat) rfl (fun j => [(2, .ptr 0 0 0), (3, .ptr 1 0 0), (4, .ptr 2 0 0), (5, .ptr 3 0 0), (6, .own 9 C.length), (7, .ptr 4 0 0), (33, mvX ms), (34, I ms.length), (35, I i), (180, .own 9 C.length), (181, I ((C.length : Nat))), (182, I j)]) (fun _ => [some ⟨4, 1, true, false, [[Bo false]]⟩, some ⟨24, 4, false, false, [[I F1.peer, I F1.base, .own 5 F1.out.length, I F1.seen]]⟩, some ⟨24, 4, false, false, [[I T.peer, I T.base, .own 6 T.out.length, I T.seen]]⟩, some ⟨22, 1, false, false, [[.own 7 P.length]]⟩, some ⟨44, 1, false, false, [[.own 8 u.length]]⟩, some (msgB F1.out), some (msgB T.out), some (msgB P), some (carB u), some (msgB C)]) (fun j => j ≤ c) (fun j => c - j) 0 ?_ (Nat.zero_le _) ?_
    · refine AtS.mk [] [0, 1, 2, 3, 4, 12, 6, 7, 8, 9] rfl (by simp) rfl ?_ ?_
      · (repeat' (first | exact trivial | exact rfl | with_reducible assumption | (refine And.intro ?_ ?_) | (refine Exists.intro _ (And.intro rfl ?_)) | (refine Exists.intro _ (Exists.intro _ (And.intro rfl (And.intro rfl ?_)))) | (refine Or.inl ⟨rfl, rfl, ?_⟩) | (refine Or.inl ⟨rfl, ?_⟩; focus (fail_if_success (refine And.intro ?_ ?_))) | (refine Or.inl (?_ : (_ : Nat) = _ ∧ _); refine ⟨?_, ?_⟩; focus (first | (simp only [List.length_map]; done) | (simp only [List.length_map, List.length_append, List.length_cons, List.length_nil]; done))) | exact Or.inl rfl | (refine Or.inr (Or.inr ⟨?_, ?_⟩)) | (refine Or.inr ⟨?_, ?_⟩) | (refine fun h => ?_; first | exact h | exact rfl | (cases h; done)) | (refine om8 ?_; simp only [← List.map_drop, ← List.map_take]; exact rfl) | ((first | refine om1 ?_ | refine om2 ?_ | refine om3 ?_ | refine om4 ?_ | refine om5 ?_ | refine om6 ?_ | refine om7 ?_); first | (simp only [List.length_map]; done) | (simp only [List.length_map]; omega) | omega)))
        all_goals first | assumption | omega | (simp; omega)
      · (repeat' (first | exact trivial | exact rfl | with_reducible assumption | (refine And.intro ?_ ?_) | (refine Exists.intro _ (And.intro rfl ?_)) | (refine Exists.intro _ (Exists.intro _ (And.intro rfl (And.intro rfl ?_)))) | (refine Or.inl ⟨rfl, rfl, ?_⟩) | (refine Or.inl ⟨rfl, ?_⟩; focus (fail_if_success (refine And.intro ?_ ?_))) | (refine Or.inl (?_ : (_ : Nat) = _ ∧ _); refine ⟨?_, ?_⟩; focus (first | (simp only [List.length_map]; done) | (simp only [List.length_map, List.length_append, List.length_cons, List.length_nil]; done))) | exact Or.inl rfl | (refine Or.inr (Or.inr ⟨?_, ?_⟩)) | (refine Or.inr ⟨?_, ?_⟩) | (refine fun h => ?_; first | exact h | exact rfl | (cases h; done)) | (refine om8 ?_; simp only [← List.map_drop, ← List.map_take]; exact rfl) | ((first | refine om1 ?_ | refine om2 ?_ | refine om3 ?_ | refine om4 ?_ | refine om5 ?_ | refine om6 ?_ | refine om7 ?_); first | (simp only [List.length_map]; done) | (simp only [List.length_map]; omega) | omega)))
        all_goals first | assumption | omega | (simp; omega)
    intro j hj
    rcases Nat.lt_or_ge j (c) with hjc | hjc
    · have g1 := hCg j hjc
      have g2 := hPg j (by omega)
      generalize pm j = x at g1 g2
      repeat' (conv => whnf
               first
               | (refine get_id ?_; first | refine Get.mk _ rfl ?_ | refine Get.mk _ (g1 _ rfl) ?_ | refine Get.mk _ (g2 _ (by omega)) ?_)
               | (refine need_id ?_; first | refine Need.a ?_)
               | (refine eqk_id ?_; first | refine EqK.a ?_)
               | (refine br_id ?_; first | refine Br.t ?_ | refine Br.f ?_ | (refine Br.pos ?_ ?_; focus (with_reducible assumption)) | (refine Br.neg ?_ ?_; focus (with_reducible assumption)) | (refine Br.dpos ?_ ?_; focus (first | with_reducible exact rfl | with_reducible exact Int.le_refl _ | with_reducible assumption)) | (refine Br.dneg ?_ ?_; focus (with_reducible assumption)) | (refine Br.d (fun _ => ?_) (fun _ => ?_) <;> (first | (exfalso; omega; done) | skip)) | refine Br.n ?_ | (refine Br.s (fun _ => ?_) (fun _ => ?_) <;> (first | (exfalso; omega; done) | skip)) | (refine Br.mk (fun _ => ?_) (fun _ => ?_) <;> (first | (exfalso; omega; done) | skip)))
               | (refine regv_id ?_; first | refine RegV.qg ?_ | refine RegV.d ?_)
               | (refine gds_id ?_; apply GdS.mk)
               | (refine and_id ?_; exact ⟨rfl, rfl, rfl⟩)
               | (refine imp_id ?_; first | refine imp_s (fun _ => ?_) | refine fun _ => ?_)
               | refine NilB.mk (fun b hb => ?_)
               | (refine alv_and ?_ ?_; focus (first | rfl | done))
               | refine DrawV.mk [] ?_
               | (refine appc_id ?_; first | refine AppC.growA ?_ | refine AppC.place ?_))
      all_goals (try (conv => whnf))
      · refine nx (j + 1) (by omega) (by omega) (AtS.mk [] [0, 1, 2, 3, 4, 5, 6, 7, 8, 9] rfl (by simp) rfl ?_ ?_)
        · (repeat' (first | exact trivial | exact rfl | with_reducible assumption | (refine And.intro ?_ ?_) | (refine Exists.intro _ (And.intro rfl ?_)) | (refine Exists.intro _ (Exists.intro _ (And.intro rfl (And.intro rfl ?_)))) | (refine Or.inl ⟨rfl, rfl, ?_⟩) | (refine Or.inl ⟨rfl, ?_⟩; focus (fail_if_success (refine And.intro ?_ ?_))) | (refine Or.inl (?_ : (_ : Nat) = _ ∧ _); refine ⟨?_, ?_⟩; focus (first | (simp only [List.length_map]; done) | (simp only [List.length_map, List.length_append, List.length_cons, List.length_nil]; done))) | exact Or.inl rfl | (refine Or.inr (Or.inr ⟨?_, ?_⟩)) | (refine Or.inr ⟨?_, ?_⟩) | (refine fun h => ?_; first | exact h | exact rfl | (cases h; done)) | (refine om8 ?_; simp only [← List.map_drop, ← List.map_take]; exact rfl) | ((first | refine om1 ?_ | refine om2 ?_ | refine om3 ?_ | refine om4 ?_ | refine om5 ?_ | refine om6 ?_ | refine om7 ?_); first | (simp only [List.length_map]; done) | (simp only [List.length_map]; omega) | omega)))
        · (repeat' (first | exact trivial | exact rfl | with_reducible assumption | (refine And.intro ?_ ?_) | (refine Exists.intro _ (And.intro rfl ?_)) | (refine Exists.intro _ (Exists.intro _ (And.intro rfl (And.intro rfl ?_)))) | (refine Or.inl ⟨rfl, rfl, ?_⟩) | (refine Or.inl ⟨rfl, ?_⟩; focus (fail_if_success (refine And.intro ?_ ?_))) | (refine Or.inl (?_ : (_ : Nat) = _ ∧ _); refine ⟨?_, ?_⟩; focus (first | (simp only [List.length_map]; done) | (simp only [List.length_map, List.length_append, List.length_cons, List.length_nil]; done))) | exact Or.inl rfl | (refine Or.inr (Or.inr ⟨?_, ?_⟩)) | (refine Or.inr ⟨?_, ?_⟩) | (refine fun h => ?_; first | exact h | exact rfl | (cases h; done)) | (refine om8 ?_; simp only [← List.map_drop, ← List.map_take]; exact rfl) | ((first | refine om1 ?_ | refine om2 ?_ | refine om3 ?_ | refine om4 ?_ | refine om5 ?_ | refine om6 ?_ | refine om7 ?_); first | (simp only [List.length_map]; done) | (simp only [List.length_map]; omega) | omega)))
      · exfalso
        rename_i hx
        simp at hx
    · repeat' (conv => whnf
               first
               | (refine get_id ?_; first | refine Get.mk _ rfl ?_)
               | (refine need_id ?_; first | refine Need.a ?_)
               | (refine eqk_id ?_; first | refine EqK.a ?_)
               | (refine br_id ?_; first | refine Br.t ?_ | refine Br.f ?_ | (refine Br.pos ?_ ?_; focus (with_reducible assumption)) | (refine Br.neg ?_ ?_; focus (with_reducible assumption)) | (refine Br.dpos ?_ ?_; focus (first | with_reducible exact rfl | with_reducible exact Int.le_refl _ | with_reducible assumption)) | (refine Br.dneg ?_ ?_; focus (with_reducible assumption)) | (refine Br.d (fun _ => ?_) (fun _ => ?_) <;> (first | (exfalso; omega; done) | skip)) | refine Br.n ?_ | (refine Br.s (fun _ => ?_) (fun _ => ?_) <;> (first | (exfalso; omega; done) | skip)) | (refine Br.mk (fun _ => ?_) (fun _ => ?_) <;> (first | (exfalso; omega; done) | skip)))
               | (refine regv_id ?_; first | refine RegV.qg ?_ | refine RegV.d ?_)
               | (refine gds_id ?_; apply GdS.mk)
               | (refine and_id ?_; exact ⟨rfl, rfl, rfl⟩)
               | (refine imp_id ?_; first | refine imp_s (fun _ => ?_) | refine fun _ => ?_)
               | refine NilB.mk (fun b hb => ?_)
               | (refine alv_and ?_ ?_; focus (first | rfl | done))
               | refine DrawV.mk [] ?_
               | (refine appc_id ?_; first | refine AppC.growA ?_ | refine AppC.place ?_)
               | (refine call_id ?_; first
                    | refine CallV.c (cl1) ?_
                    | refine CallV.e (cl1) ?_)
               | (refine calls_id ?_; first
                    | refine CallS.c (cl1) ?_
                    | refine CallS.e (cl1) ?_))
      all_goals (try (conv => whnf))
      refine RangeV.on rfl (lst (c) (p)) leftIt 11 48 (leftCaps F1 T.seen) [(2, .ptr 0 0 0), (3, .ptr 1 0 0), (4, .ptr 2 0 0), (5, .ptr 3 0 0), (6, .own 9 C.length), (7, .ptr 4 0 0), (23, .ptr 10 0 0), (33, mvX ms), (34, I ms.length), (35, I i), (199, .clo 48 (leftCaps F1 T.seen))]
        (fun j : Nat => [some ⟨4, 1, true, false, [[Bo false]]⟩, some ⟨24, 4, false, false, [[I F1.peer, I F1.base, .own 5 F1.out.length, I F1.seen]]⟩, some ⟨24, 4, false, false, [[I T.peer, I T.base, .own 6 T.out.length, I T.seen]]⟩, some ⟨22, 1, false, false, [[.own 7 P.length]]⟩, some ⟨44, 1, false, false, [[.own 8 u.length]]⟩, some (msgB F1.out), some (msgB T.out), some (msgB P), some (carB u), some (msgB C), some ⟨3, 1, true, false, [[I ((c + j : Nat))]]⟩])
        (fun j s => s = j) 0 ic1 ?_ rfl rfl rfl (fun x => ⟨rfl, rfl⟩) (Nat.zero_le _) rfl (fun _ => rfl) ?_ ?_
      · refine AtS.mk [] [0, 1, 2, 3, 4, 5, 6, 7, 8, 9, 10] rfl (by simp) rfl ?_ ?_
        · (repeat' (first | exact trivial | exact rfl | with_reducible assumption | (refine And.intro ?_ ?_) | (refine Exists.intro _ (And.intro rfl ?_)) | (refine Exists.intro _ (Exists.intro _ (And.intro rfl (And.intro rfl ?_)))) | (refine Or.inl ⟨rfl, rfl, ?_⟩) | (refine Or.inl ⟨rfl, ?_⟩; focus (fail_if_success (refine And.intro ?_ ?_))) | (refine Or.inl (?_ : (_ : Nat) = _ ∧ _); refine ⟨?_, ?_⟩; focus (first | (simp only [List.length_map]; done) | (simp only [List.length_map, List.length_append, List.length_cons, List.length_nil]; done))) | exact Or.inl rfl | (refine Or.inr (Or.inr ⟨?_, ?_⟩)) | (refine Or.inr ⟨?_, ?_⟩) | (refine fun h => ?_; first | exact h | exact rfl | (cases h; done)) | (refine om8 ?_; simp only [← List.map_drop, ← List.map_take]; exact rfl) | ((first | refine om1 ?_ | refine om2 ?_ | refine om3 ?_ | refine om4 ?_ | refine om5 ?_ | refine om6 ?_ | refine om7 ?_); first | (simp only [List.length_map]; done) | (simp only [List.length_map]; omega) | omega)))
          all_goals (simp; omega)
        · unfold leftCaps
          (repeat' (first | exact trivial | exact rfl | with_reducible assumption | (refine And.intro ?_ ?_) | (refine Exists.intro _ (And.intro rfl ?_)) | (refine Exists.intro _ (Exists.intro _ (And.intro rfl (And.intro rfl ?_)))) | (refine Or.inl ⟨rfl, rfl, ?_⟩) | (refine Or.inl ⟨rfl, ?_⟩; focus (fail_if_success (refine And.intro ?_ ?_))) | (refine Or.inl (?_ : (_ : Nat) = _ ∧ _); refine ⟨?_, ?_⟩; focus (first | (simp only [List.length_map]; done) | (simp only [List.length_map, List.length_append, List.length_cons, List.length_nil]; done))) | exact Or.inl rfl | (refine Or.inr (Or.inr ⟨?_, ?_⟩)) | (refine Or.inr ⟨?_, ?_⟩) | (refine fun h => ?_; first | exact h | exact rfl | (cases h; done)) | (refine om8 ?_; simp only [← List.map_drop, ← List.map_take]; exact rfl) | ((first | refine om1 ?_ | refine om2 ?_ | refine om3 ?_ | refine om4 ?_ | refine om5 ?_ | refine om6 ?_ | refine om7 ?_); first | (simp only [List.length_map]; done) | (simp only [List.length_map]; omega) | omega)))
      · rintro _ hj1 j rfl
        have hj2 := hj1
        rw [lst_len] at hj2
        rw [lst_get hj1]
        have g2 := hPg (c + j) (by omega)
        generalize pm (c + j) = x at g2
        repeat' (conv => whnf
                 first
                 | (refine get_id ?_; first | refine Get.mk _ rfl ?_ | refine Get.mk _ (g2 _ (by omega)) ?_)
                 | (refine need_id ?_; first | refine Need.a ?_)
                 | (refine eqk_id ?_; first | refine EqK.a ?_)
                 | (refine br_id ?_; first | refine Br.t ?_ | refine Br.f ?_ | (refine Br.pos ?_ ?_; focus (with_reducible assumption)) | (refine Br.neg ?_ ?_; focus (with_reducible assumption)) | (refine Br.dpos ?_ ?_; focus (first | with_reducible exact rfl | with_reducible exact Int.le_refl _ | with_reducible assumption)) | (refine Br.dneg ?_ ?_; focus (with_reducible assumption)) | (refine Br.d (fun _ => ?_) (fun _ => ?_) <;> (first | (exfalso; omega; done) | skip)) | refine Br.n ?_ | (refine Br.s (fun _ => ?_) (fun _ => ?_) <;> (first | (exfalso; omega; done) | skip)) | (refine Br.mk (fun _ => ?_) (fun _ => ?_) <;> (first | (exfalso; omega; done) | skip)))
                 | (refine regv_id ?_; first | refine RegV.qg ?_ | refine RegV.d ?_)
                 | (refine gds_id ?_; apply GdS.mk)
                 | (refine and_id ?_; exact ⟨rfl, rfl, rfl⟩)
                 | (refine imp_id ?_; first | refine imp_s (fun _ => ?_) | refine fun _ => ?_)
                 | refine NilB.mk (fun b hb => ?_)
                 | (refine alv_and ?_ ?_; focus (first | rfl | done))
                 | refine DrawV.mk [] ?_
                 | (refine appc_id ?_; first | refine AppC.growA ?_ | refine AppC.place ?_))
        all_goals (try (conv => whnf))
        refine nxr (j + 1) rfl (AtS.mk [] [0, 1, 2, 3, 4, 5, 6, 7, 8, 9, 10] rfl (by simp) rfl ?_ ?_)
        · (repeat' (first | exact trivial | exact rfl | with_reducible assumption | (refine And.intro ?_ ?_) | (refine Exists.intro _ (And.intro rfl ?_)) | (refine Exists.intro _ (Exists.intro _ (And.intro rfl (And.intro rfl ?_)))) | (refine Or.inl ⟨rfl, rfl, ?_⟩) | (refine Or.inl ⟨rfl, ?_⟩; focus (fail_if_success (refine And.intro ?_ ?_))) | (refine Or.inl (?_ : (_ : Nat) = _ ∧ _); refine ⟨?_, ?_⟩; focus (first | (simp only [List.length_map]; done) | (simp only [List.length_map, List.length_append, List.length_cons, List.length_nil]; done))) | exact Or.inl rfl | (refine Or.inr (Or.inr ⟨?_, ?_⟩)) | (refine Or.inr ⟨?_, ?_⟩) | (refine fun h => ?_; first | exact h | exact rfl | (cases h; done)) | (refine om8 ?_; simp only [← List.map_drop, ← List.map_take]; exact rfl) | ((first | refine om1 ?_ | refine om2 ?_ | refine om3 ?_ | refine om4 ?_ | refine om5 ?_ | refine om6 ?_ | refine om7 ?_); first | (simp only [List.length_map]; done) | (simp only [List.length_map]; omega) | omega)))
        · (repeat' (first | exact trivial | exact rfl | with_reducible assumption | (refine And.intro ?_ ?_) | (refine Exists.intro _ (And.intro rfl ?_)) | (refine Exists.intro _ (Exists.intro _ (And.intro rfl (And.intro rfl ?_)))) | (refine Or.inl ⟨rfl, rfl, ?_⟩) | (refine Or.inl ⟨rfl, ?_⟩; focus (fail_if_success (refine And.intro ?_ ?_))) | (refine Or.inl (?_ : (_ : Nat) = _ ∧ _); refine ⟨?_, ?_⟩; focus (first | (simp only [List.length_map]; done) | (simp only [List.length_map, List.length_append, List.length_cons, List.length_nil]; done))) | exact Or.inl rfl | (refine Or.inr (Or.inr ⟨?_, ?_⟩)) | (refine Or.inr ⟨?_, ?_⟩) | (refine fun h => ?_; first | exact h | exact rfl | (cases h; done)) | (refine om8 ?_; simp only [← List.map_drop, ← List.map_take]; exact rfl) | ((first | refine om1 ?_ | refine om2 ?_ | refine om3 ?_ | refine om4 ?_ | refine om5 ?_ | refine om6 ?_ | refine om7 ?_); first | (simp only [List.length_map]; done) | (simp only [List.length_map]; omega) | omega)))
      · rintro j rfl
        rw [lst_len]
        repeat' (conv => whnf
                 first
                 | (refine get_id ?_; first | refine Get.mk _ rfl ?_)
                 | (refine need_id ?_; first | refine Need.a ?_)
                 | (refine eqk_id ?_; first | refine EqK.a ?_)
                 | (refine br_id ?_; first | refine Br.t ?_ | refine Br.f ?_ | (refine Br.pos ?_ ?_; focus (with_reducible assumption)) | (refine Br.neg ?_ ?_; focus (with_reducible assumption)) | (refine Br.dpos ?_ ?_; focus (first | with_reducible exact rfl | with_reducible exact Int.le_refl _ | with_reducible assumption)) | (refine Br.dneg ?_ ?_; focus (with_reducible assumption)) | (refine Br.d (fun _ => ?_) (fun _ => ?_) <;> (first | (exfalso; omega; done) | skip)) | refine Br.n ?_ | (refine Br.s (fun _ => ?_) (fun _ => ?_) <;> (first | (exfalso; omega; done) | skip)) | (refine Br.mk (fun _ => ?_) (fun _ => ?_) <;> (first | (exfalso; omega; done) | skip)))
                 | (refine regv_id ?_; first | refine RegV.qg ?_ | refine RegV.d ?_)
                 | (refine gds_id ?_; apply GdS.mk)
                 | (refine and_id ?_; exact ⟨rfl, rfl, rfl⟩)
                 | (refine imp_id ?_; first | refine imp_s (fun _ => ?_) | refine fun _ => ?_)
                 | refine NilB.mk (fun b hb => ?_)
                 | (refine alv_and ?_ ?_; focus (first | rfl | done))
                 | refine DrawV.mk [] ?_
                 | (refine appc_id ?_; first | refine AppC.growA ?_ | refine AppC.place ?_))
        all_goals (try (conv => whnf))
        refine nx ⟨i + 1, F1, T, P, u, C⟩ (by simp only; omega) ⟨by simp only; omega, b2, p, c, hF1.symm, hT, hP, hC, hb2c, hcp, by simp only; omega, by simp only; omega, hcar⟩ (AtS.mk [] [0, 1, 2, 3, 4, 5, 6, 7, 8, 9] rfl (by simp) rfl ?_ ?_)
        · (repeat' (first | exact trivial | exact rfl | with_reducible assumption | (refine And.intro ?_ ?_) | (refine Exists.intro _ (And.intro rfl ?_)) | (refine Exists.intro _ (Exists.intro _ (And.intro rfl (And.intro rfl ?_)))) | (refine Or.inl ⟨rfl, rfl, ?_⟩) | (refine Or.inl ⟨rfl, ?_⟩; focus (fail_if_success (refine And.intro ?_ ?_))) | (refine Or.inl (?_ : (_ : Nat) = _ ∧ _); refine ⟨?_, ?_⟩; focus (first | (simp only [List.length_map]; done) | (simp only [List.length_map, List.length_append, List.length_cons, List.length_nil]; done))) | exact Or.inl rfl | (refine Or.inr (Or.inr ⟨?_, ?_⟩)) | (refine Or.inr ⟨?_, ?_⟩) | (refine fun h => ?_; first | exact h | exact rfl | (cases h; done)) | (refine om8 ?_; simp only [← List.map_drop, ← List.map_take]; exact rfl) | ((first | refine om1 ?_ | refine om2 ?_ | refine om3 ?_ | refine om4 ?_ | refine om5 ?_ | refine om6 ?_ | refine om7 ?_); first | (simp only [List.length_map]; done) | (simp only [List.length_map]; omega) | omega)))
        · (repeat' (first | exact trivial | exact rfl | with_reducible assumption | (refine And.intro ?_ ?_) | (refine Exists.intro _ (And.intro rfl ?_)) | (refine Exists.intro _ (Exists.intro _ (And.intro rfl (And.intro rfl ?_)))) | (refine Or.inl ⟨rfl, rfl, ?_⟩) | (refine Or.inl ⟨rfl, ?_⟩; focus (fail_if_success (refine And.intro ?_ ?_))) | (refine Or.inl (?_ : (_ : Nat) = _ ∧ _); refine ⟨?_, ?_⟩; focus (first | (simp only [List.length_map]; done) | (simp only [List.length_map, List.length_append, List.length_cons, List.length_nil]; done))) | exact Or.inl rfl | (refine Or.inr (Or.inr ⟨?_, ?_⟩)) | (refine Or.inr ⟨?_, ?_⟩) | (refine fun h => ?_; first | exact h | exact rfl | (cases h; done)) | (refine om8 ?_; simp only [← List.map_drop, ← List.map_take]; exact rfl) | ((first | refine om1 ?_ | refine om2 ?_ | refine om3 ?_ | refine om4 ?_ | refine om5 ?_ | refine om6 ?_ | refine om7 ?_); first | (simp only [List.length_map]; done) | (simp only [List.length_map]; omega) | omega)))
  · have hsx : u[a.toNat].row = [I (q + 1 : Int), I (pm q).kind, I (pm q).obj, I (pm q).node, I (pm q).num, I (pm q).whr, I u[a.toNat].word] := by rw [← hs, ← hm]; rfl
    rw [hsx] at hu
    generalize u[a.toNat].word = xw at hu
    replace hcar : Hid _ := hcar
    have cf := fits_pcon T false (q + 1) (by omega)
    rw [show T.fits ((q : Int) + 1) = ((q : Int) + 1 == (c : Int) + 1) by rw [hT]; exact fits_to (by omega) _] at cf
    by_cases hqc : q = c
    · subst hqc
      rw [show ((q : Int) + 1 == (q : Int) + 1) = true by simp] at cf
      have ct := take_pcon T false (by omega)
      rw [show takeS T = (toE (q + 1), 0) by rw [hT]; exact take_to (by omega)] at ct
      have hT1l : (toE (q + 1)).out.length = 0 := rfl
      have hT1s : (toE (q + 1)).seen = (q + 1 : Nat) := rfl
      have gT1 := good_pcon (toE (q + 1)) false (by omega)
      rw [toE_good (by omega)] at gT1
      generalize hT1 : toE (q + 1) = T1 at ct hT1l hT1s gT1
      have cl1 := left_pcon F false T1.seen (by omega)
      have ic1 := left1_icon F T1.seen (by omega)
      rw [show leftS F T1.seen = lst (q + 1) p by rw [hT1s, hF]; exact left_from (by omega) (by omega) (by omega)] at ic1
      obtain ⟨C1, hC1⟩ : ∃ C1, C1 = Pn (q + 1) := ⟨_, rfl⟩
      have hC1l : C1.length = q + 1 := by rw [hC1, Pn_len]
      have hC1m : C.map Msg.row ++ [[I (pm q).kind, I (pm q).obj, I (pm q).node, I (pm q).num, I (pm q).whr]] = C1.map Msg.row := by rw [hC1, Pn_succ, ← hC]; simp [Msg.row]
      have hC1g : ∀ j, j < q + 1 → ∀ n, n = j → nth (C1.map Msg.row) n = some (pm j).row := fun j hj n hn => by
        rw [nth_map Msg.row C1 j hn (by omega)]; subst hC1; rw [Pn_get]
      generalize pm q = y at hu hC1m
      repeat' (conv => whnf
               first
               | (refine get_id ?_; first | refine Get.mk _ rfl ?_ | refine Get.mk _ (hg) ?_ | refine Get.mk _ (hu) ?_)
               | (refine need_id ?_; first | refine Need.a ?_ | refine Need.mk (by (exact ⟨rfl, rfl, rfl, by simp [msgB, carB, mkB], rfl, rfl⟩)) ?_)
               | (refine eqk_id ?_; first | refine EqK.a ?_)
               | (refine br_id ?_; first | refine Br.t ?_ | refine Br.f ?_ | (refine Br.pos ?_ ?_; focus (with_reducible assumption)) | (refine Br.neg ?_ ?_; focus (with_reducible assumption)) | (refine Br.dpos ?_ ?_; focus (first | with_reducible exact rfl | with_reducible exact Int.le_refl _ | with_reducible assumption)) | (refine Br.dneg ?_ ?_; focus (with_reducible assumption)) | (refine Br.d (fun _ => ?_) (fun _ => ?_) <;> (first | (exfalso; omega; done) | skip)) | refine Br.n ?_ | (refine Br.s (fun _ => ?_) (fun _ => ?_) <;> (first | (exfalso; omega; done) | skip)) | (refine Br.mk (fun _ => ?_) (fun _ => ?_) <;> (first | (exfalso; omega; done) | skip)))
               | (refine regv_id ?_; first | refine RegV.qg ?_ | refine RegV.d ?_)
               | (refine gds_id ?_; apply GdS.mk)
               | (refine and_id ?_; exact ⟨rfl, rfl, rfl⟩)
               | (refine imp_id ?_; first | refine imp_s (fun _ => ?_) | refine fun _ => ?_)
               | refine NilB.mk (fun b hb => ?_)
               | (refine alv_and ?_ ?_; focus (first | rfl | done))
               | refine DrawV.mk [] ?_
               | (refine appc_id ?_; first | refine AppC.growA ?_ | refine AppC.grow (by (simp [msgB, carB, mkB])) ?_ | refine AppC.place ?_)
               | (refine call_id ?_; first
                    | refine CallV.c (cf) ?_
                    | refine CallV.c (ct) ?_
                    | refine CallV.c (gF) ?_
                    | refine CallV.c (gT1) ?_
                    | refine CallV.e (cf) ?_
                    | refine CallV.e (ct) ?_
                    | refine CallV.e (gF) ?_
                    | refine CallV.e (gT1) ?_)
               | (refine calls_id ?_; first
                    | refine CallS.c (cf) ?_
                    | refine CallS.c (ct) ?_
                    | refine CallS.c (gF) ?_
                    | refine CallS.c (gT1) ?_
                    | refine CallS.e (cf) ?_
                    | refine CallS.e (ct) ?_
                    | refine CallS.e (gF) ?_
                    | refine CallS.e (gT1) ?_))
      all_goals (try (conv => whnf))
      refine LoopV.on (σ := Nat) rfl (fun j => [(2, .ptr 0 0 0), (3, .ptr 1 0 0), (4, .ptr 2 0 0), (5, .ptr 3 0 0), (6, .own 9 C1.length), (7, .ptr 4 0 0), (33, mvX ms), (34, I ms.length), (35, I i), (180, .own 9 C1.length), (181, I ((C.length + 1 : Nat))), (182, I j)]) (fun _ => [some ⟨4, 1, true, false, [[Bo false]]⟩, some ⟨24, 4, false, false, [[I F.peer, I F.base, .own 5 F.out.length, I F.seen]]⟩, some ⟨24, 4, false, false, [[I T1.peer, I T1.base, .own 6 T1.out.length, I T1.seen]]⟩, some ⟨22, 1, false, false, [[.own 7 P.length]]⟩, some ⟨44, 1, false, false, [[.own 8 u.length]]⟩, some (msgB F.out), some (msgB T1.out), some (msgB P), some (carB u), some (msgB C1)]) (fun j => j ≤ q + 1) (fun j => q + 1 - j) 0 ?_ (Nat.zero_le _) ?_
      · refine AtS.mk [] [0, 1, 2, 3, 4, 5, 12, 7, 8, 15] rfl (by simp) rfl ?_ ?_
        · (repeat' (first | exact trivial | exact rfl | with_reducible assumption | (refine And.intro ?_ ?_) | (refine Exists.intro _ (And.intro rfl ?_)) | (refine Exists.intro _ (Exists.intro _ (And.intro rfl (And.intro rfl ?_)))) | (refine Or.inl ⟨rfl, rfl, ?_⟩) | (refine Or.inl ⟨rfl, ?_⟩; focus (fail_if_success (refine And.intro ?_ ?_))) | (refine Or.inl (?_ : (_ : Nat) = _ ∧ _); refine ⟨?_, ?_⟩; focus (first | (simp only [List.length_map]; done) | (simp only [List.length_map, List.length_append, List.length_cons, List.length_nil]; done))) | exact Or.inl rfl | (refine Or.inr (Or.inr ⟨?_, ?_⟩)) | (refine Or.inr ⟨?_, ?_⟩) | (refine fun h => ?_; first | exact h | exact rfl | (cases h; done)) | (refine om8 ?_; simp only [← List.map_drop, ← List.map_take]; exact rfl) | ((first | refine om1 ?_ | refine om2 ?_ | refine om3 ?_ | refine om4 ?_ | refine om5 ?_ | refine om6 ?_ | refine om7 ?_); first | (simp only [List.length_map]; done) | (simp only [List.length_map]; omega) | omega)))
          all_goals first | assumption | omega | (simp; omega)
        · (repeat' (first | exact trivial | exact rfl | with_reducible assumption | (refine And.intro ?_ ?_) | (refine Exists.intro _ (And.intro rfl ?_)) | (refine Exists.intro _ (Exists.intro _ (And.intro rfl (And.intro rfl ?_)))) | (refine Or.inl ⟨rfl, rfl, ?_⟩) | (refine Or.inl ⟨rfl, ?_⟩; focus (fail_if_success (refine And.intro ?_ ?_))) | (refine Or.inl (?_ : (_ : Nat) = _ ∧ _); refine ⟨?_, ?_⟩; focus (first | (simp only [List.length_map]; done) | (simp only [List.length_map, List.length_append, List.length_cons, List.length_nil]; done))) | exact Or.inl rfl | (refine Or.inr (Or.inr ⟨?_, ?_⟩)) | (refine Or.inr ⟨?_, ?_⟩) | (refine fun h => ?_; first | exact h | exact rfl | (cases h; done)) | (refine om8 ?_; simp only [← List.map_drop, ← List.map_take]; exact rfl) | ((first | refine om1 ?_ | refine om2 ?_ | refine om3 ?_ | refine om4 ?_ | refine om5 ?_ | refine om6 ?_ | refine om7 ?_); first | (simp only [List.length_map]; done) | (simp only [List.length_map]; omega) | omega)))
          all_goals first | assumption | omega | (simp; omega)
      intro j hj
      rcases Nat.lt_or_ge j (q + 1) with hjc | hjc
      · have g1 := hC1g j hjc
        have g2 := hPg j (by omega)
        generalize pm j = x at g1 g2
        repeat' (conv => whnf
                 first
                 | (refine get_id ?_; first | refine Get.mk _ rfl ?_ | refine Get.mk _ (g1 _ rfl) ?_ | refine Get.mk _ (g2 _ (by omega)) ?_)
                 | (refine need_id ?_; first | refine Need.a ?_)
                 | (refine eqk_id ?_; first | refine EqK.a ?_)
                 | (refine br_id ?_; first | refine Br.t ?_ | refine Br.f ?_ | (refine Br.pos ?_ ?_; focus (with_reducible assumption)) | (refine Br.neg ?_ ?_; focus (with_reducible assumption)) | (refine Br.dpos ?_ ?_; focus (first | with_reducible exact rfl | with_reducible exact Int.le_refl _ | with_reducible assumption)) | (refine Br.dneg ?_ ?_; focus (with_reducible assumption)) | (refine Br.d (fun _ => ?_) (fun _ => ?_) <;> (first | (exfalso; omega; done) | skip)) | refine Br.n ?_ | (refine Br.s (fun _ => ?_) (fun _ => ?_) <;> (first | (exfalso; omega; done) | skip)) | (refine Br.mk (fun _ => ?_) (fun _ => ?_) <;> (first | (exfalso; omega; done) | skip)))
                 | (refine regv_id ?_; first | refine RegV.qg ?_ | refine RegV.d ?_)
                 | (refine gds_id ?_; apply GdS.mk)
                 | (refine and_id ?_; exact ⟨rfl, rfl, rfl⟩)
                 | (refine imp_id ?_; first | refine imp_s (fun _ => ?_) | refine fun _ => ?_)
                 | refine NilB.mk (fun b hb => ?_)
                 | (refine alv_and ?_ ?_; focus (first | rfl | done))
                 | refine DrawV.mk [] ?_
                 | (refine appc_id ?_; first | refine AppC.growA ?_ | refine AppC.place ?_))
        all_goals (try (conv => whnf))
        · refine nx (j + 1) (by omega) (by omega) (AtS.mk [] [0, 1, 2, 3, 4, 5, 6, 7, 8, 9] rfl (by simp) rfl ?_ ?_)
          · (repeat' (first | exact trivial | exact rfl | with_reducible assumption | (refine And.intro ?_ ?_) | (refine Exists.intro _ (And.intro rfl ?_)) | (refine Exists.intro _ (Exists.intro _ (And.intro rfl (And.intro rfl ?_)))) | (refine Or.inl ⟨rfl, rfl, ?_⟩) | (refine Or.inl ⟨rfl, ?_⟩; focus (fail_if_success (refine And.intro ?_ ?_))) | (refine Or.inl (?_ : (_ : Nat) = _ ∧ _); refine ⟨?_, ?_⟩; focus (first | (simp only [List.length_map]; done) | (simp only [List.length_map, List.length_append, List.length_cons, List.length_nil]; done))) | exact Or.inl rfl | (refine Or.inr (Or.inr ⟨?_, ?_⟩)) | (refine Or.inr ⟨?_, ?_⟩) | (refine fun h => ?_; first | exact h | exact rfl | (cases h; done)) | (refine om8 ?_; simp only [← List.map_drop, ← List.map_take]; exact rfl) | ((first | refine om1 ?_ | refine om2 ?_ | refine om3 ?_ | refine om4 ?_ | refine om5 ?_ | refine om6 ?_ | refine om7 ?_); first | (simp only [List.length_map]; done) | (simp only [List.length_map]; omega) | omega)))
          · (repeat' (first | exact trivial | exact rfl | with_reducible assumption | (refine And.intro ?_ ?_) | (refine Exists.intro _ (And.intro rfl ?_)) | (refine Exists.intro _ (Exists.intro _ (And.intro rfl (And.intro rfl ?_)))) | (refine Or.inl ⟨rfl, rfl, ?_⟩) | (refine Or.inl ⟨rfl, ?_⟩; focus (fail_if_success (refine And.intro ?_ ?_))) | (refine Or.inl (?_ : (_ : Nat) = _ ∧ _); refine ⟨?_, ?_⟩; focus (first | (simp only [List.length_map]; done) | (simp only [List.length_map, List.length_append, List.length_cons, List.length_nil]; done))) | exact Or.inl rfl | (refine Or.inr (Or.inr ⟨?_, ?_⟩)) | (refine Or.inr ⟨?_, ?_⟩) | (refine fun h => ?_; first | exact h | exact rfl | (cases h; done)) | (refine om8 ?_; simp only [← List.map_drop, ← List.map_take]; exact rfl) | ((first | refine om1 ?_ | refine om2 ?_ | refine om3 ?_ | refine om4 ?_ | refine om5 ?_ | refine om6 ?_ | refine om7 ?_); first | (simp only [List.length_map]; done) | (simp only [List.length_map]; omega) | omega)))
        · exfalso
          rename_i hx
          simp at hx
      · repeat' (conv => whnf
                 first
                 | (refine get_id ?_; first | refine Get.mk _ rfl ?_)
                 | (refine need_id ?_; first | refine Need.a ?_)
                 | (refine eqk_id ?_; first | refine EqK.a ?_)
                 | (refine br_id ?_; first | refine Br.t ?_ | refine Br.f ?_ | (refine Br.pos ?_ ?_; focus (with_reducible assumption)) | (refine Br.neg ?_ ?_; focus (with_reducible assumption)) | (refine Br.dpos ?_ ?_; focus (first | with_reducible exact rfl | with_reducible exact Int.le_refl _ | with_reducible assumption)) | (refine Br.dneg ?_ ?_; focus (with_reducible assumption)) | (refine Br.d (fun _ => ?_) (fun _ => ?_) <;> (first | (exfalso; omega; done) | skip)) | refine Br.n ?_ | (refine Br.s (fun _ => ?_) (fun _ => ?_) <;> (first | (exfalso; omega; done) | skip)) | (refine Br.mk (fun _ => ?_) (fun _ => ?_) <;> (first | (exfalso; omega; done) | skip)))
                 | (refine regv_id ?_; first | refine RegV.qg ?_ | refine RegV.d ?_)
                 | (refine gds_id ?_; apply GdS.mk)
                 | (refine and_id ?_; exact ⟨rfl, rfl, rfl⟩)
                 | (refine imp_id ?_; first | refine imp_s (fun _ => ?_) | refine fun _ => ?_)
                 | refine NilB.mk (fun b hb => ?_)
                 | (refine alv_and ?_ ?_; focus (first | rfl | done))
                 | refine DrawV.mk [] ?_
                 | (refine appc_id ?_; first | refine AppC.growA ?_ | refine AppC.place ?_)
                 | (refine call_id ?_; first
                      | refine CallV.c (cl1) ?_
                      | refine CallV.e (cl1) ?_)
                 | (refine calls_id ?_; first
                      | refine CallS.c (cl1) ?_
                      | refine CallS.e (cl1) ?_))
        all_goals (try (conv => whnf))
        refine RangeV.on rfl (lst (q + 1) (p)) leftIt 11 48 (leftCaps F T1.seen) [(2, .ptr 0 0 0), (3, .ptr 1 0 0), (4, .ptr 2 0 0), (5, .ptr 3 0 0), (6, .own 9 C1.length), (7, .ptr 4 0 0), (23, .ptr 10 0 0), (33, mvX ms), (34, I ms.length), (35, I i), (199, .clo 48 (leftCaps F T1.seen))]
          (fun j : Nat => [some ⟨4, 1, true, false, [[Bo false]]⟩, some ⟨24, 4, false, false, [[I F.peer, I F.base, .own 5 F.out.length, I F.seen]]⟩, some ⟨24, 4, false, false, [[I T1.peer, I T1.base, .own 6 T1.out.length, I T1.seen]]⟩, some ⟨22, 1, false, false, [[.own 7 P.length]]⟩, some ⟨44, 1, false, false, [[.own 8 u.length]]⟩, some (msgB F.out), some (msgB T1.out), some (msgB P), some (carB u), some (msgB C1), some ⟨3, 1, true, false, [[I ((q + 1 + j : Nat))]]⟩])
          (fun j s => s = j) 0 ic1 ?_ rfl rfl rfl (fun x => ⟨rfl, rfl⟩) (Nat.zero_le _) rfl (fun _ => rfl) ?_ ?_
        · refine AtS.mk [] [0, 1, 2, 3, 4, 5, 6, 7, 8, 9, 10] rfl (by simp) rfl ?_ ?_
          · (repeat' (first | exact trivial | exact rfl | with_reducible assumption | (refine And.intro ?_ ?_) | (refine Exists.intro _ (And.intro rfl ?_)) | (refine Exists.intro _ (Exists.intro _ (And.intro rfl (And.intro rfl ?_)))) | (refine Or.inl ⟨rfl, rfl, ?_⟩) | (refine Or.inl ⟨rfl, ?_⟩; focus (fail_if_success (refine And.intro ?_ ?_))) | (refine Or.inl (?_ : (_ : Nat) = _ ∧ _); refine ⟨?_, ?_⟩; focus (first | (simp only [List.length_map]; done) | (simp only [List.length_map, List.length_append, List.length_cons, List.length_nil]; done))) | exact Or.inl rfl | (refine Or.inr (Or.inr ⟨?_, ?_⟩)) | (refine Or.inr ⟨?_, ?_⟩) | (refine fun h => ?_; first | exact h | exact rfl | (cases h; done)) | (refine om8 ?_; simp only [← List.map_drop, ← List.map_take]; exact rfl) | ((first | refine om1 ?_ | refine om2 ?_ | refine om3 ?_ | refine om4 ?_ | refine om5 ?_ | refine om6 ?_ | refine om7 ?_); first | (simp only [List.length_map]; done) | (simp only [List.length_map]; omega) | omega)))
            all_goals (simp; omega)
          · unfold leftCaps
            (repeat' (first | exact trivial | exact rfl | with_reducible assumption | (refine And.intro ?_ ?_) | (refine Exists.intro _ (And.intro rfl ?_)) | (refine Exists.intro _ (Exists.intro _ (And.intro rfl (And.intro rfl ?_)))) | (refine Or.inl ⟨rfl, rfl, ?_⟩) | (refine Or.inl ⟨rfl, ?_⟩; focus (fail_if_success (refine And.intro ?_ ?_))) | (refine Or.inl (?_ : (_ : Nat) = _ ∧ _); refine ⟨?_, ?_⟩; focus (first | (simp only [List.length_map]; done) | (simp only [List.length_map, List.length_append, List.length_cons, List.length_nil]; done))) | exact Or.inl rfl | (refine Or.inr (Or.inr ⟨?_, ?_⟩)) | (refine Or.inr ⟨?_, ?_⟩) | (refine fun h => ?_; first | exact h | exact rfl | (cases h; done)) | (refine om8 ?_; simp only [← List.map_drop, ← List.map_take]; exact rfl) | ((first | refine om1 ?_ | refine om2 ?_ | refine om3 ?_ | refine om4 ?_ | refine om5 ?_ | refine om6 ?_ | refine om7 ?_); first | (simp only [List.length_map]; done) | (simp only [List.length_map]; omega) | omega)))
        · rintro _ hj1 j rfl
          have hj2 := hj1
          rw [lst_len] at hj2
          rw [lst_get hj1]
          have g2 := hPg (q + 1 + j) (by omega)
          generalize pm (q + 1 + j) = x at g2
          repeat' (conv => whnf
                   first
                   | (refine get_id ?_; first | refine Get.mk _ rfl ?_ | refine Get.mk _ (g2 _ (by omega)) ?_)
                   | (refine need_id ?_; first | refine Need.a ?_)
                   | (refine eqk_id ?_; first | refine EqK.a ?_)
                   | (refine br_id ?_; first | refine Br.t ?_ | refine Br.f ?_ | (refine Br.pos ?_ ?_; focus (with_reducible assumption)) | (refine Br.neg ?_ ?_; focus (with_reducible assumption)) | (refine Br.dpos ?_ ?_; focus (first | with_reducible exact rfl | with_reducible exact Int.le_refl _ | with_reducible assumption)) | (refine Br.dneg ?_ ?_; focus (with_reducible assumption)) | (refine Br.d (fun _ => ?_) (fun _ => ?_) <;> (first | (exfalso; omega; done) | skip)) | refine Br.n ?_ | (refine Br.s (fun _ => ?_) (fun _ => ?_) <;> (first | (exfalso; omega; done) | skip)) | (refine Br.mk (fun _ => ?_) (fun _ => ?_) <;> (first | (exfalso; omega; done) | skip)))
                   | (refine regv_id ?_; first | refine RegV.qg ?_ | refine RegV.d ?_)
                   | (refine gds_id ?_; apply GdS.mk)
                   | (refine and_id ?_; exact ⟨rfl, rfl, rfl⟩)
                   | (refine imp_id ?_; first | refine imp_s (fun _ => ?_) | refine fun _ => ?_)
                   | refine NilB.mk (fun b hb => ?_)
                   | (refine alv_and ?_ ?_; focus (first | rfl | done))
                   | refine DrawV.mk [] ?_
                   | (refine appc_id ?_; first | refine AppC.growA ?_ | refine AppC.place ?_))
          all_goals (try (conv => whnf))
          refine nxr (j + 1) rfl (AtS.mk [] [0, 1, 2, 3, 4, 5, 6, 7, 8, 9, 10] rfl (by simp) rfl ?_ ?_)
          · (repeat' (first | exact trivial | exact rfl | with_reducible assumption | (refine And.intro ?_ ?_) | (refine Exists.intro _ (And.intro rfl ?_)) | (refine Exists.intro _ (Exists.intro _ (And.intro rfl (And.intro rfl ?_)))) | (refine Or.inl ⟨rfl, rfl, ?_⟩) | (refine Or.inl ⟨rfl, ?_⟩; focus (fail_if_success (refine And.intro ?_ ?_))) | (refine Or.inl (?_ : (_ : Nat) = _ ∧ _); refine ⟨?_, ?_⟩; focus (first | (simp only [List.length_map]; done) | (simp only [List.length_map, List.length_append, List.length_cons, List.length_nil]; done))) | exact Or.inl rfl | (refine Or.inr (Or.inr ⟨?_, ?_⟩)) | (refine Or.inr ⟨?_, ?_⟩) | (refine fun h => ?_; first | exact h | exact rfl | (cases h; done)) | (refine om8 ?_; simp only [← List.map_drop, ← List.map_take]; exact rfl) | ((first | refine om1 ?_ | refine om2 ?_ | refine om3 ?_ | refine om4 ?_ | refine om5 ?_ | refine om6 ?_ | refine om7 ?_); first | (simp only [List.length_map]; done) | (simp only [List.length_map]; omega) | omega)))
          · (repeat' (first | exact trivial | exact rfl | with_reducible assumption | (refine And.intro ?_ ?_) | (refine Exists.intro _ (And.intro rfl ?_)) | (refine Exists.intro _ (Exists.intro _ (And.intro rfl (And.intro rfl ?_)))) | (refine Or.inl ⟨rfl, rfl, ?_⟩) | (refine Or.inl ⟨rfl, ?_⟩; focus (fail_if_success (refine And.intro ?_ ?_))) | (refine Or.inl (?_ : (_ : Nat) = _ ∧ _); refine ⟨?_, ?_⟩; focus (first | (simp only [List.length_map]; done) | (simp only [List.length_map, List.length_append, List.length_cons, List.length_nil]; done))) | exact Or.inl rfl | (refine Or.inr (Or.inr ⟨?_, ?_⟩)) | (refine Or.inr ⟨?_, ?_⟩) | (refine fun h => ?_; first | exact h | exact rfl | (cases h; done)) | (refine om8 ?_; simp only [← List.map_drop, ← List.map_take]; exact rfl) | ((first | refine om1 ?_ | refine om2 ?_ | refine om3 ?_ | refine om4 ?_ | refine om5 ?_ | refine om6 ?_ | refine om7 ?_); first | (simp only [List.length_map]; done) | (simp only [List.length_map]; omega) | omega)))
        · rintro j rfl
          rw [lst_len]
          repeat' (conv => whnf
                   first
                   | (refine get_id ?_; first | refine Get.mk _ rfl ?_)
                   | (refine need_id ?_; first | refine Need.a ?_)
                   | (refine eqk_id ?_; first | refine EqK.a ?_)
                   | (refine br_id ?_; first | refine Br.t ?_ | refine Br.f ?_ | (refine Br.pos ?_ ?_; focus (with_reducible assumption)) | (refine Br.neg ?_ ?_; focus (with_reducible assumption)) | (refine Br.dpos ?_ ?_; focus (first | with_reducible exact rfl | with_reducible exact Int.le_refl _ | with_reducible assumption)) | (refine Br.dneg ?_ ?_; focus (with_reducible assumption)) | (refine Br.d (fun _ => ?_) (fun _ => ?_) <;> (first | (exfalso; omega; done) | skip)) | refine Br.n ?_ | (refine Br.s (fun _ => ?_) (fun _ => ?_) <;> (first | (exfalso; omega; done) | skip)) | (refine Br.mk (fun _ => ?_) (fun _ => ?_) <;> (first | (exfalso; omega; done) | skip)))
                   | (refine regv_id ?_; first | refine RegV.qg ?_ | refine RegV.d ?_)
                   | (refine gds_id ?_; apply GdS.mk)
                   | (refine and_id ?_; exact ⟨rfl, rfl, rfl⟩)
                   | (refine imp_id ?_; first | refine imp_s (fun _ => ?_) | refine fun _ => ?_)
                   | refine NilB.mk (fun b hb => ?_)
                   | (refine alv_and ?_ ?_; focus (first | rfl | done))
                   | refine DrawV.mk [] ?_
                   | (refine appc_id ?_; first | refine AppC.growA ?_ | refine AppC.place ?_))
          all_goals (try (conv => whnf))
          refine nx ⟨i + 1, F, T1, P, u, C1⟩ (by simp only; omega) ⟨by simp only; omega, b, p, q + 1, hF, hT1.symm, hP, hC1, by omega, by omega, by simp only; omega, by simp only; omega, fun x hx => Car.ok_mono (hcar x hx) (by omega) (by omega)⟩ (AtS.mk [] [0, 1, 2, 3, 4, 5, 6, 7, 8, 9] rfl (by simp) rfl ?_ ?_)
          · (repeat' (first | exact trivial | exact rfl | with_reducible assumption | (refine And.intro ?_ ?_) | (refine Exists.intro _ (And.intro rfl ?_)) | (refine Exists.intro _ (Exists.intro _ (And.intro rfl (And.intro rfl ?_)))) | (refine Or.inl ⟨rfl, rfl, ?_⟩) | (refine Or.inl ⟨rfl, ?_⟩; focus (fail_if_success (refine And.intro ?_ ?_))) | (refine Or.inl (?_ : (_ : Nat) = _ ∧ _); refine ⟨?_, ?_⟩; focus (first | (simp only [List.length_map]; done) | (simp only [List.length_map, List.length_append, List.length_cons, List.length_nil]; done))) | exact Or.inl rfl | (refine Or.inr (Or.inr ⟨?_, ?_⟩)) | (refine Or.inr ⟨?_, ?_⟩) | (refine fun h => ?_; first | exact h | exact rfl | (cases h; done)) | (refine om8 ?_; simp only [← List.map_drop, ← List.map_take]; exact rfl) | ((first | refine om1 ?_ | refine om2 ?_ | refine om3 ?_ | refine om4 ?_ | refine om5 ?_ | refine om6 ?_ | refine om7 ?_); first | (simp only [List.length_map]; done) | (simp only [List.length_map]; omega) | omega)))
          · (repeat' (first | exact trivial | exact rfl | with_reducible assumption | (refine And.intro ?_ ?_) | (refine Exists.intro _ (And.intro rfl ?_)) | (refine Exists.intro _ (Exists.intro _ (And.intro rfl (And.intro rfl ?_)))) | (refine Or.inl ⟨rfl, rfl, ?_⟩) | (refine Or.inl ⟨rfl, ?_⟩; focus (fail_if_success (refine And.intro ?_ ?_))) | (refine Or.inl (?_ : (_ : Nat) = _ ∧ _); refine ⟨?_, ?_⟩; focus (first | (simp only [List.length_map]; done) | (simp only [List.length_map, List.length_append, List.length_cons, List.length_nil]; done))) | exact Or.inl rfl | (refine Or.inr (Or.inr ⟨?_, ?_⟩)) | (refine Or.inr ⟨?_, ?_⟩) | (refine fun h => ?_; first | exact h | exact rfl | (cases h; done)) | (refine om8 ?_; simp only [← List.map_drop, ← List.map_take]; exact rfl) | ((first | refine om1 ?_ | refine om2 ?_ | refine om3 ?_ | refine om4 ?_ | refine om5 ?_ | refine om6 ?_ | refine om7 ?_); first | (simp only [List.length_map]; done) | (simp only [List.length_map]; omega) | omega)))
    · rw [show ((q : Int) + 1 == (c : Int) + 1) = false by simp; omega] at cf
      repeat' (conv => whnf
               first
               | (refine get_id ?_; first | refine Get.mk _ rfl ?_ | refine Get.mk _ (hg) ?_ | refine Get.mk _ (hu) ?_)
               | (refine need_id ?_; first | refine Need.a ?_)
               | (refine eqk_id ?_; first | refine EqK.a ?_)
               | (refine br_id ?_; first | refine Br.t ?_ | refine Br.f ?_ | (refine Br.pos ?_ ?_; focus (with_reducible assumption)) | (refine Br.neg ?_ ?_; focus (with_reducible assumption)) | (refine Br.dpos ?_ ?_; focus (first | with_reducible exact rfl | with_reducible exact Int.le_refl _ | with_reducible assumption)) | (refine Br.dneg ?_ ?_; focus (with_reducible assumption)) | (refine Br.d (fun _ => ?_) (fun _ => ?_) <;> (first | (exfalso; omega; done) | skip)) | refine Br.n ?_ | (refine Br.s (fun _ => ?_) (fun _ => ?_) <;> (first | (exfalso; omega; done) | skip)) | (refine Br.mk (fun _ => ?_) (fun _ => ?_) <;> (first | (exfalso; omega; done) | skip)))
               | (refine regv_id ?_; first | refine RegV.qg ?_ | refine RegV.d ?_)
               | (refine gds_id ?_; apply GdS.mk)
               | (refine and_id ?_; exact ⟨rfl, rfl, rfl⟩)
               | (refine imp_id ?_; first | refine imp_s (fun _ => ?_) | refine fun _ => ?_)
               | refine NilB.mk (fun b hb => ?_)
               | (refine alv_and ?_ ?_; focus (first | rfl | done))
               | refine DrawV.mk [] ?_
               | (refine appc_id ?_; first | refine AppC.growA ?_ | refine AppC.place ?_)
               | (refine call_id ?_; first
                    | refine CallV.c (cf) ?_
                    | refine CallV.c (gF) ?_
                    | refine CallV.c (gT) ?_
                    | refine CallV.e (cf) ?_
                    | refine CallV.e (gF) ?_
                    | refine CallV.e (gT) ?_)
               | (refine calls_id ?_; first
                    | refine CallS.c (cf) ?_
                    | refine CallS.c (gF) ?_
                    | refine CallS.c (gT) ?_
                    | refine CallS.e (cf) ?_
                    | refine CallS.e (gF) ?_
                    | refine CallS.e (gT) ?_))
      all_goals (try (conv => whnf))
      refine LoopV.on (σ := Nat) rfl (fun j => [(2, .ptr 0 0 0), (3, .ptr 1 0 0), (4, .ptr 2 0 0), (5, .ptr 3 0 0), (6, .own 9 C.length), (7, .ptr 4 0 0), (33, mvX ms), (34, I ms.length), (35, I i), (180, .own 9 C.length), (181, I ((C.length : Nat))), (182, I j)]) (fun _ => [some ⟨4, 1, true, false, [[Bo false]]⟩, some ⟨24, 4, false, false, [[I F.peer, I F.base, .own 5 F.out.length, I F.seen]]⟩, some ⟨24, 4, false, false, [[I T.peer, I T.base, .own 6 T.out.length, I T.seen]]⟩, some ⟨22, 1, false, false, [[.own 7 P.length]]⟩, some ⟨44, 1, false, false, [[.own 8 u.length]]⟩, some (msgB F.out), some (msgB T.out), some (msgB P), some (carB u), some (msgB C)]) (fun j => j ≤ c) (fun j => c - j) 0 ?_ (Nat.zero_le _) ?_
      · refine AtS.mk [] [0, 1, 2, 3, 4, 5, 6, 7, 8, 9] rfl (by simp) rfl ?_ ?_
        · (repeat' (first | exact trivial | exact rfl | with_reducible assumption | (refine And.intro ?_ ?_) | (refine Exists.intro _ (And.intro rfl ?_)) | (refine Exists.intro _ (Exists.intro _ (And.intro rfl (And.intro rfl ?_)))) | (refine Or.inl ⟨rfl, rfl, ?_⟩) | (refine Or.inl ⟨rfl, ?_⟩; focus (fail_if_success (refine And.intro ?_ ?_))) | (refine Or.inl (?_ : (_ : Nat) = _ ∧ _); refine ⟨?_, ?_⟩; focus (first | (simp only [List.length_map]; done) | (simp only [List.length_map, List.length_append, List.length_cons, List.length_nil]; done))) | exact Or.inl rfl | (refine Or.inr (Or.inr ⟨?_, ?_⟩)) | (refine Or.inr ⟨?_, ?_⟩) | (refine fun h => ?_; first | exact h | exact rfl | (cases h; done)) | (refine om8 ?_; simp only [← List.map_drop, ← List.map_take]; exact rfl) | ((first | refine om1 ?_ | refine om2 ?_ | refine om3 ?_ | refine om4 ?_ | refine om5 ?_ | refine om6 ?_ | refine om7 ?_); first | (simp only [List.length_map]; done) | (simp only [List.length_map]; omega) | omega)))
          all_goals first | assumption | omega | (simp; omega)
        · (repeat' (first | exact trivial | exact rfl | with_reducible assumption | (refine And.intro ?_ ?_) | (refine Exists.intro _ (And.intro rfl ?_)) | (refine Exists.intro _ (Exists.intro _ (And.intro rfl (And.intro rfl ?_)))) | (refine Or.inl ⟨rfl, rfl, ?_⟩) | (refine Or.inl ⟨rfl, ?_⟩; focus (fail_if_success (refine And.intro ?_ ?_))) | (refine Or.inl (?_ : (_ : Nat) = _ ∧ _); refine ⟨?_, ?_⟩; focus (first | (simp only [List.length_map]; done) | (simp only [List.length_map, List.length_append, List.length_cons, List.length_nil]; done))) | exact Or.inl rfl | (refine Or.inr (Or.inr ⟨?_, ?_⟩)) | (refine Or.inr ⟨?_, ?_⟩) | (refine fun h => ?_; first | exact h | exact rfl | (cases h; done)) | (refine om8 ?_; simp only [← List.map_drop, ← List.map_take]; exact rfl) | ((first | refine om1 ?_ | refine om2 ?_ | refine om3 ?_ | refine om4 ?_ | refine om5 ?_ | refine om6 ?_ | refine om7 ?_); first | (simp only [List.length_map]; done) | (simp only [List.length_map]; omega) | omega)))
          all_goals first | assumption | omega | (simp; omega)
      intro j hj
      rcases Nat.lt_or_ge j (c) with hjc | hjc
      · have g1 := hCg j hjc
        have g2 := hPg j (by omega)
        generalize pm j = x at g1 g2
        repeat' (conv => whnf
                 first
                 | (refine get_id ?_; first | refine Get.mk _ rfl ?_ | refine Get.mk _ (g1 _ rfl) ?_ | refine Get.mk _ (g2 _ (by omega)) ?_)
                 | (refine need_id ?_; first | refine Need.a ?_)
                 | (refine eqk_id ?_; first | refine EqK.a ?_)
                 | (refine br_id ?_; first | refine Br.t ?_ | refine Br.f ?_ | (refine Br.pos ?_ ?_; focus (with_reducible assumption)) | (refine Br.neg ?_ ?_; focus (with_reducible assumption)) | (refine Br.dpos ?_ ?_; focus (first | with_reducible exact rfl | with_reducible exact Int.le_refl _ | with_reducible assumption)) | (refine Br.dneg ?_ ?_; focus (with_reducible assumption)) | (refine Br.d (fun _ => ?_) (fun _ => ?_) <;> (first | (exfalso; omega; done) | skip)) | refine Br.n ?_ | (refine Br.s (fun _ => ?_) (fun _ => ?_) <;> (first | (exfalso; omega; done) | skip)) | (refine Br.mk (fun _ => ?_) (fun _ => ?_) <;> (first | (exfalso; omega; done) | skip)))
                 | (refine regv_id ?_; first | refine RegV.qg ?_ | refine RegV.d ?_)
                 | (refine gds_id ?_; apply GdS.mk)
                 | (refine and_id ?_; exact ⟨rfl, rfl, rfl⟩)
                 | (refine imp_id ?_; first | refine imp_s (fun _ => ?_) | refine fun _ => ?_)
                 | refine NilB.mk (fun b hb => ?_)
                 | (refine alv_and ?_ ?_; focus (first | rfl | done))
                 | refine DrawV.mk [] ?_
                 | (refine appc_id ?_; first | refine AppC.growA ?_ | refine AppC.place ?_))
        all_goals (try (conv => whnf))
        · refine nx (j + 1) (by omega) (by omega) (AtS.mk [] [0, 1, 2, 3, 4, 5, 6, 7, 8, 9] rfl (by simp) rfl ?_ ?_)
          · (repeat' (first | exact trivial | exact rfl | with_reducible assumption | (refine And.intro ?_ ?_) | (refine Exists.intro _ (And.intro rfl ?_)) | (refine Exists.intro _ (Exists.intro _ (And.intro rfl (And.intro rfl ?_)))) | (refine Or.inl ⟨rfl, rfl, ?_⟩) | (refine Or.inl ⟨rfl, ?_⟩; focus (fail_if_success (refine And.intro ?_ ?_))) | (refine Or.inl (?_ : (_ : Nat) = _ ∧ _); refine ⟨?_, ?_⟩; focus (first | (simp only [List.length_map]; done) | (simp only [List.length_map, List.length_append, List.length_cons, List.length_nil]; done))) | exact Or.inl rfl | (refine Or.inr (Or.inr ⟨?_, ?_⟩)) | (refine Or.inr ⟨?_, ?_⟩) | (refine fun h => ?_; first | exact h | exact rfl | (cases h; done)) | (refine om8 ?_; simp only [← List.map_drop, ← List.map_take]; exact rfl) | ((first | refine om1 ?_ | refine om2 ?_ | refine om3 ?_ | refine om4 ?_ | refine om5 ?_ | refine om6 ?_ | refine om7 ?_); first | (simp only [List.length_map]; done) | (simp only [List.length_map]; omega) | omega)))
          · (repeat' (first | exact trivial | exact rfl | with_reducible assumption | (refine And.intro ?_ ?_) | (refine Exists.intro _ (And.intro rfl ?_)) | (refine Exists.intro _ (Exists.intro _ (And.intro rfl (And.intro rfl ?_)))) | (refine Or.inl ⟨rfl, rfl, ?_⟩) | (refine Or.inl ⟨rfl, ?_⟩; focus (fail_if_success (refine And.intro ?_ ?_))) | (refine Or.inl (?_ : (_ : Nat) = _ ∧ _); refine ⟨?_, ?_⟩; focus (first | (simp only [List.length_map]; done) | (simp only [List.length_map, List.length_append, List.length_cons, List.length_nil]; done))) | exact Or.inl rfl | (refine Or.inr (Or.inr ⟨?_, ?_⟩)) | (refine Or.inr ⟨?_, ?_⟩) | (refine fun h => ?_; first | exact h | exact rfl | (cases h; done)) | (refine om8 ?_; simp only [← List.map_drop, ← List.map_take]; exact rfl) | ((first | refine om1 ?_ | refine om2 ?_ | refine om3 ?_ | refine om4 ?_ | refine om5 ?_ | refine om6 ?_ | refine om7 ?_); first | (simp only [List.length_map]; done) | (simp only [List.length_map]; omega) | omega)))
        · exfalso
          rename_i hx
          simp at hx
      · repeat' (conv => whnf
                 first
                 | (refine get_id ?_; first | refine Get.mk _ rfl ?_)
                 | (refine need_id ?_; first | refine Need.a ?_)
                 | (refine eqk_id ?_; first | refine EqK.a ?_)
                 | (refine br_id ?_; first | refine Br.t ?_ | refine Br.f ?_ | (refine Br.pos ?_ ?_; focus (with_reducible assumption)) | (refine Br.neg ?_ ?_; focus (with_reducible assumption)) | (refine Br.dpos ?_ ?_; focus (first | with_reducible exact rfl | with_reducible exact Int.le_refl _ | with_reducible assumption)) | (refine Br.dneg ?_ ?_; focus (with_reducible assumption)) | (refine Br.d (fun _ => ?_) (fun _ => ?_) <;> (first | (exfalso; omega; done) | skip)) | refine Br.n ?_ | (refine Br.s (fun _ => ?_) (fun _ => ?_) <;> (first | (exfalso; omega; done) | skip)) | (refine Br.mk (fun _ => ?_) (fun _ => ?_) <;> (first | (exfalso; omega; done) | skip)))
                 | (refine regv_id ?_; first | refine RegV.qg ?_ | refine RegV.d ?_)
                 | (refine gds_id ?_; apply GdS.mk)
                 | (refine and_id ?_; exact ⟨rfl, rfl, rfl⟩)
                 | (refine imp_id ?_; first | refine imp_s (fun _ => ?_) | refine fun _ => ?_)
                 | refine NilB.mk (fun b hb => ?_)
                 | (refine alv_and ?_ ?_; focus (first | rfl | done))
                 | refine DrawV.mk [] ?_
                 | (refine appc_id ?_; first | refine AppC.growA ?_ | refine AppC.place ?_)
                 | (refine call_id ?_; first
                      | refine CallV.c (cl) ?_
                      | refine CallV.e (cl) ?_)
                 | (refine calls_id ?_; first
                      | refine CallS.c (cl) ?_
                      | refine CallS.e (cl) ?_))
        all_goals (try (conv => whnf))
        refine RangeV.on rfl (lst (c) (p)) leftIt 11 48 (leftCaps F T.seen) [(2, .ptr 0 0 0), (3, .ptr 1 0 0), (4, .ptr 2 0 0), (5, .ptr 3 0 0), (6, .own 9 C.length), (7, .ptr 4 0 0), (23, .ptr 10 0 0), (33, mvX ms), (34, I ms.length), (35, I i), (199, .clo 48 (leftCaps F T.seen))]
          (fun j : Nat => [some ⟨4, 1, true, false, [[Bo false]]⟩, some ⟨24, 4, false, false, [[I F.peer, I F.base, .own 5 F.out.length, I F.seen]]⟩, some ⟨24, 4, false, false, [[I T.peer, I T.base, .own 6 T.out.length, I T.seen]]⟩, some ⟨22, 1, false, false, [[.own 7 P.length]]⟩, some ⟨44, 1, false, false, [[.own 8 u.length]]⟩, some (msgB F.out), some (msgB T.out), some (msgB P), some (carB u), some (msgB C), some ⟨3, 1, true, false, [[I ((c + j : Nat))]]⟩])
          (fun j s => s = j) 0 ic ?_ rfl rfl rfl (fun x => ⟨rfl, rfl⟩) (Nat.zero_le _) rfl (fun _ => rfl) ?_ ?_
        · refine AtS.mk [] [0, 1, 2, 3, 4, 5, 6, 7, 8, 9, 10] rfl (by simp) rfl ?_ ?_
          · (repeat' (first | exact trivial | exact rfl | with_reducible assumption | (refine And.intro ?_ ?_) | (refine Exists.intro _ (And.intro rfl ?_)) | (refine Exists.intro _ (Exists.intro _ (And.intro rfl (And.intro rfl ?_)))) | (refine Or.inl ⟨rfl, rfl, ?_⟩) | (refine Or.inl ⟨rfl, ?_⟩; focus (fail_if_success (refine And.intro ?_ ?_))) | (refine Or.inl (?_ : (_ : Nat) = _ ∧ _); refine ⟨?_, ?_⟩; focus (first | (simp only [List.length_map]; done) | (simp only [List.length_map, List.length_append, List.length_cons, List.length_nil]; done))) | exact Or.inl rfl | (refine Or.inr (Or.inr ⟨?_, ?_⟩)) | (refine Or.inr ⟨?_, ?_⟩) | (refine fun h => ?_; first | exact h | exact rfl | (cases h; done)) | (refine om8 ?_; simp only [← List.map_drop, ← List.map_take]; exact rfl) | ((first | refine om1 ?_ | refine om2 ?_ | refine om3 ?_ | refine om4 ?_ | refine om5 ?_ | refine om6 ?_ | refine om7 ?_); first | (simp only [List.length_map]; done) | (simp only [List.length_map]; omega) | omega)))
            all_goals (simp; omega)
          · unfold leftCaps
            (repeat' (first | exact trivial | exact rfl | with_reducible assumption | (refine And.intro ?_ ?_) | (refine Exists.intro _ (And.intro rfl ?_)) | (refine Exists.intro _ (Exists.intro _ (And.intro rfl (And.intro rfl ?_)))) | (refine Or.inl ⟨rfl, rfl, ?_⟩) | (refine Or.inl ⟨rfl, ?_⟩; focus (fail_if_success (refine And.intro ?_ ?_))) | (refine Or.inl (?_ : (_ : Nat) = _ ∧ _); refine ⟨?_, ?_⟩; focus (first | (simp only [List.length_map]; done) | (simp only [List.length_map, List.length_append, List.length_cons, List.length_nil]; done))) | exact Or.inl rfl | (refine Or.inr (Or.inr ⟨?_, ?_⟩)) | (refine Or.inr ⟨?_, ?_⟩) | (refine fun h => ?_; first | exact h | exact rfl | (cases h; done)) | (refine om8 ?_; simp only [← List.map_drop, ← List.map_take]; exact rfl) | ((first | refine om1 ?_ | refine om2 ?_ | refine om3 ?_ | refine om4 ?_ | refine om5 ?_ | refine om6 ?_ | refine om7 ?_); first | (simp only [List.length_map]; done) | (simp only [List.length_map]; omega) | omega)))
        · rintro _ hj1 j rfl
          have hj2 := hj1
          rw [lst_len] at hj2
          rw [lst_get hj1]
          have g2 := hPg (c + j) (by omega)
          generalize pm (c + j) = x at g2
          repeat' (conv => whnf
                   first
                   | (refine get_id ?_; first | refine Get.mk _ rfl ?_ | refine Get.mk _ (g2 _ (by omega)) ?_)
                   | (refine need_id ?_; first | refine Need.a ?_)
                   | (refine eqk_id ?_; first | refine EqK.a ?_)
                   | (refine br_id ?_; first | refine Br.t ?_ | refine Br.f ?_ | (refine Br.pos ?_ ?_; focus (with_reducible assumption)) | (refine Br.neg ?_ ?_; focus (with_reducible assumption)) | (refine Br.dpos ?_ ?_; focus (first | with_reducible exact rfl | with_reducible exact Int.le_refl _ | with_reducible assumption)) | (refine Br.dneg ?_ ?_; focus (with_reducible assumption)) | (refine Br.d (fun _ => ?_) (fun _ => ?_) <;> (first | (exfalso; omega; done) | skip)) | refine Br.n ?_ | (refine Br.s (fun _ => ?_) (fun _ => ?_) <;> (first | (exfalso; omega; done) | skip)) | (refine Br.mk (fun _ => ?_) (fun _ => ?_) <;> (first | (exfalso; omega; done) | skip)))
                   | (refine regv_id ?_; first | refine RegV.qg ?_ | refine RegV.d ?_)
                   | (refine gds_id ?_; apply GdS.mk)
                   | (refine and_id ?_; exact ⟨rfl, rfl, rfl⟩)
                   | (refine imp_id ?_; first | refine imp_s (fun _ => ?_) | refine fun _ => ?_)
                   | refine NilB.mk (fun b hb => ?_)
                   | (refine alv_and ?_ ?_; focus (first | rfl | done))
                   | refine DrawV.mk [] ?_
                   | (refine appc_id ?_; first | refine AppC.growA ?_ | refine AppC.place ?_))
          all_goals (try (conv => whnf))
          refine nxr (j + 1) rfl (AtS.mk [] [0, 1, 2, 3, 4, 5, 6, 7, 8, 9, 10] rfl (by simp) rfl ?_ ?_)
          · (repeat' (first | exact trivial | exact rfl | with_reducible assumption | (refine And.intro ?_ ?_) | (refine Exists.intro _ (And.intro rfl ?_)) | (refine Exists.intro _ (Exists.intro _ (And.intro rfl (And.intro rfl ?_)))) | (refine Or.inl ⟨rfl, rfl, ?_⟩) | (refine Or.inl ⟨rfl, ?_⟩; focus (fail_if_success (refine And.intro ?_ ?_))) | (refine Or.inl (?_ : (_ : Nat) = _ ∧ _); refine ⟨?_, ?_⟩; focus (first | (simp only [List.length_map]; done) | (simp only [List.length_map, List.length_append, List.length_cons, List.length_nil]; done))) | exact Or.inl rfl | (refine Or.inr (Or.inr ⟨?_, ?_⟩)) | (refine Or.inr ⟨?_, ?_⟩) | (refine fun h => ?_; first | exact h | exact rfl | (cases h; done)) | (refine om8 ?_; simp only [← List.map_drop, ← List.map_take]; exact rfl) | ((first | refine om1 ?_ | refine om2 ?_ | refine om3 ?_ | refine om4 ?_ | refine om5 ?_ | refine om6 ?_ | refine om7 ?_); first | (simp only [List.length_map]; done) | (simp only [List.length_map]; omega) | omega)))
          · (repeat' (first | exact trivial | exact rfl | with_reducible assumption | (refine And.intro ?_ ?_) | (refine Exists.intro _ (And.intro rfl ?_)) | (refine Exists.intro _ (Exists.intro _ (And.intro rfl (And.intro rfl ?_)))) | (refine Or.inl ⟨rfl, rfl, ?_⟩) | (refine Or.inl ⟨rfl, ?_⟩; focus (fail_if_success (refine And.intro ?_ ?_))) | (refine Or.inl (?_ : (_ : Nat) = _ ∧ _); refine ⟨?_, ?_⟩; focus (first | (simp only [List.length_map]; done) | (simp only [List.length_map, List.length_append, List.length_cons, List.length_nil]; done))) | exact Or.inl rfl | (refine Or.inr (Or.inr ⟨?_, ?_⟩)) | (refine Or.inr ⟨?_, ?_⟩) | (refine fun h => ?_; first | exact h | exact rfl | (cases h; done)) | (refine om8 ?_; simp only [← List.map_drop, ← List.map_take]; exact rfl) | ((first | refine om1 ?_ | refine om2 ?_ | refine om3 ?_ | refine om4 ?_ | refine om5 ?_ | refine om6 ?_ | refine om7 ?_); first | (simp only [List.length_map]; done) | (simp only [List.length_map]; omega) | omega)))
        · rintro j rfl
          rw [lst_len]
          repeat' (conv => whnf
                   first
                   | (refine get_id ?_; first | refine Get.mk _ rfl ?_)
                   | (refine need_id ?_; first | refine Need.a ?_)
                   | (refine eqk_id ?_; first | refine EqK.a ?_)
                   | (refine br_id ?_; first | refine Br.t ?_ | refine Br.f ?_ | (refine Br.pos ?_ ?_; focus (with_reducible assumption)) | (refine Br.neg ?_ ?_; focus (with_reducible assumption)) | (refine Br.dpos ?_ ?_; focus (first | with_reducible exact rfl | with_reducible exact Int.le_refl _ | with_reducible assumption)) | (refine Br.dneg ?_ ?_; focus (with_reducible assumption)) | (refine Br.d (fun _ => ?_) (fun _ => ?_) <;> (first | (exfalso; omega; done) | skip)) | refine Br.n ?_ | (refine Br.s (fun _ => ?_) (fun _ => ?_) <;> (first | (exfalso; omega; done) | skip)) | (refine Br.mk (fun _ => ?_) (fun _ => ?_) <;> (first | (exfalso; omega; done) | skip)))
                   | (refine regv_id ?_; first | refine RegV.qg ?_ | refine RegV.d ?_)
                   | (refine gds_id ?_; apply GdS.mk)
                   | (refine and_id ?_; exact ⟨rfl, rfl, rfl⟩)
                   | (refine imp_id ?_; first | refine imp_s (fun _ => ?_) | refine fun _ => ?_)
                   | refine NilB.mk (fun b hb => ?_)
                   | (refine alv_and ?_ ?_; focus (first | rfl | done))
                   | refine DrawV.mk [] ?_
                   | (refine appc_id ?_; first | refine AppC.growA ?_ | refine AppC.place ?_))
          all_goals (try (conv => whnf))
          refine nx ⟨i + 1, F, T, P, u, C⟩ (by simp only; omega) ⟨by simp only; omega, b, p, c, hF, hT, hP, hC, hbc, hcp, by simp only; omega, by simp only; omega, hcar⟩ (AtS.mk [] [0, 1, 2, 3, 4, 5, 6, 7, 8, 9] rfl (by simp) rfl ?_ ?_)
          · (repeat' (first | exact trivial | exact rfl | with_reducible assumption | (refine And.intro ?_ ?_) | (refine Exists.intro _ (And.intro rfl ?_)) | (refine Exists.intro _ (Exists.intro _ (And.intro rfl (And.intro rfl ?_)))) | (refine Or.inl ⟨rfl, rfl, ?_⟩) | (refine Or.inl ⟨rfl, ?_⟩; focus (fail_if_success (refine And.intro ?_ ?_))) | (refine Or.inl (?_ : (_ : Nat) = _ ∧ _); refine ⟨?_, ?_⟩; focus (first | (simp only [List.length_map]; done) | (simp only [List.length_map, List.length_append, List.length_cons, List.length_nil]; done))) | exact Or.inl rfl | (refine Or.inr (Or.inr ⟨?_, ?_⟩)) | (refine Or.inr ⟨?_, ?_⟩) | (refine fun h => ?_; first | exact h | exact rfl | (cases h; done)) | (refine om8 ?_; simp only [← List.map_drop, ← List.map_take]; exact rfl) | ((first | refine om1 ?_ | refine om2 ?_ | refine om3 ?_ | refine om4 ?_ | refine om5 ?_ | refine om6 ?_ | refine om7 ?_); first | (simp only [List.length_map]; done) | (simp only [List.length_map]; omega) | omega)))
          · (repeat' (first | exact trivial | exact rfl | with_reducible assumption | (refine And.intro ?_ ?_) | (refine Exists.intro _ (And.intro rfl ?_)) | (refine Exists.intro _ (Exists.intro _ (And.intro rfl (And.intro rfl ?_)))) | (refine Or.inl ⟨rfl, rfl, ?_⟩) | (refine Or.inl ⟨rfl, ?_⟩; focus (fail_if_success (refine And.intro ?_ ?_))) | (refine Or.inl (?_ : (_ : Nat) = _ ∧ _); refine ⟨?_, ?_⟩; focus (first | (simp only [List.length_map]; done) | (simp only [List.length_map, List.length_append, List.length_cons, List.length_nil]; done))) | exact Or.inl rfl | (refine Or.inr (Or.inr ⟨?_, ?_⟩)) | (refine Or.inr ⟨?_, ?_⟩) | (refine fun h => ?_; first | exact h | exact rfl | (cases h; done)) | (refine om8 ?_; simp only [← List.map_drop, ← List.map_take]; exact rfl) | ((first | refine om1 ?_ | refine om2 ?_ | refine om3 ?_ | refine om4 ?_ | refine om5 ?_ | refine om6 ?_ | refine om7 ?_); first | (simp only [List.length_map]; done) | (simp only [List.length_map]; omega) | omega)))
end Go.Proofs.Ytammndlghfknbaa

