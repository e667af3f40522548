/- Copies of states; the reference's First (printed by gen_st10.py). -/
import Derived.Test.YtiklbnianbejdaaSt9
set_option linter.unusedSimpArgs false
set_option maxRecDepth 20000
set_option linter.unusedVariables false
namespace Go.Proofs.Ytiklbnianbejdaa
open Go Go.Eng Go.RowKit

theorem owclone_pcon (xs : List Ow) (h : xs.length * 40 ≤ 140737488355328) : PCon Try.prog 45 [.ext true 3 (xs.map (Ow.row true))] (.own 0 xs.length) [mkB 55 3 (xs.map (Ow.row true))] := by
  refine pcon_of (G := gm) Try.func45 rfl rfl rfl ?_
  refine W.go ?_
  refine NilB.mk (fun b hb => ?_)
  cases b with
  | true =>
    have e : xs = [] := by
      cases xs with
      | nil => rfl
      | cons x xs => simp at hb
    subst e
    refine W.go ?_
    exact RetP.nil
  | false =>
    refine W.go ?_
    exact RetP.own rfl (ow_fr xs)
theorem edclone_pcon (xs : List Hf.Edge) (h : xs.length * 48 ≤ 140737488355328) : PCon Try.prog 46 [.ext true 4 (xs.map (edRow true))] (.own 0 xs.length) [mkB 60 4 (xs.map (edRow true))] := by
  refine pcon_of (G := gm) Try.func46 rfl rfl rfl ?_
  refine W.go ?_
  refine NilB.mk (fun b hb => ?_)
  cases b with
  | true =>
    have e : xs = [] := by
      cases xs with
      | nil => rfl
      | cons x xs => simp at hb
    subst e
    refine W.go ?_
    exact RetP.nil
  | false =>
    refine W.go ?_
    exact RetP.own rfl (ed_fr xs)
theorem askclone_pcon (f : Bool) (xs : List Asq) (h : xs.length * 16 ≤ 140737488355328) : PCon Try.prog 47 [.ext f 2 (xs.map Asq.row)] (.own 0 xs.length) [mkB 64 2 (xs.map Asq.row)] := by
  refine pcon_of (G := gm) Try.func47 rfl rfl rfl ?_
  refine W.go ?_
  refine NilB.mk (fun b hb => ?_)
  cases b with
  | true =>
    have e : xs = [] := by
      cases xs with
      | nil => rfl
      | cons x xs => simp at hb
    subst e
    refine W.go ?_
    exact RetP.nil
  | false =>
    refine W.go ?_
    exact RetP.own rfl (asq_fr xs)
theorem fndclone_pcon (f : Bool) (xs : List Fnd) (h : xs.length * 24 ≤ 140737488355328) : PCon Try.prog 48 [.ext f 3 (xs.map Fnd.row)] (.own 0 xs.length) [mkB 62 3 (xs.map Fnd.row)] := by
  refine pcon_of (G := gm) Try.func48 rfl rfl rfl ?_
  refine W.go ?_
  refine NilB.mk (fun b hb => ?_)
  cases b with
  | true =>
    have e : xs = [] := by
      cases xs with
      | nil => rfl
      | cons x xs => simp at hb
    subst e
    refine W.go ?_
    exact RetP.nil
  | false =>
    refine W.go ?_
    exact RetP.own rfl (fnd_fr xs)
theorem VwR_refl {hp : Hp} {nl : Nat → Bool} {sel : List Nat} {α : Type} (f : α → List Sv) (hf : ∀ x, VwL hp nl sel (f x) (f x)) : ∀ l : List α, VwR hp nl sel (l.map f) (l.map f)
  | [] => rfl
  | x :: l => ⟨hf x, VwR_refl f hf l⟩
theorem VwR_set {hp : Hp} {nl : Nat → Bool} {sel : List Nat} {α : Type} (f : α → List Sv) (hf : ∀ x, VwL hp nl sel (f x) (f x)) {r : List Sv} : ∀ (l : List α) (i : Nat) (hi : i < l.length), VwL hp nl sel r (f l[i]) → VwR hp nl sel ((l.map f).set i r) (l.map f)
  | x :: l, 0, _, h => ⟨h, VwR_refl f hf l⟩
  | x :: l, i + 1, hi, h => ⟨hf x, VwR_set f hf l i (by simpa using hi) h⟩
/-- A state in blocks of its own. -/
def copyR (s : Sta) : Sv := .agg [I s.me, .own 0 s.objs.length, .own 1 s.edges.length, I s.asked, .own 2 s.asks.length, .own 3 s.got.length]
def copyB (s : Sta) : List Blk := [mkB 55 3 (s.objs.map (Ow.row true)), mkB 60 4 (s.edges.map (edRow true)), mkB 64 2 (s.asks.map Asq.row), mkB 62 3 (s.got.map Fnd.row)]
set_option maxHeartbeats 4000000 in
theorem copy_pcon (s : Sta) (hs : s.sz) : PCon Try.prog 23 [.agg (s.row true)] (copyR s) (copyB s) := by
  refine pcon_of (G := gm) Try.func23 rfl rfl rfl ?_
  obtain ⟨me, objs, edges, asked, asks, got⟩ := s
  obtain ⟨h1, h2, h3, h4, h5, h6⟩ := hs
  dsimp only at h1 h2 h3 h4 h5 h6
  have c1 := owclone_pcon objs (by omega)
  have c2 := edclone_pcon edges (by omega)
  have c3 := askclone_pcon true asks (by omega)
  have c4 := fndclone_pcon true got (by omega)
  refine W.d4 c1 c2 c3 c4 ?_
  refine LoopV.on (σ := Nat) rfl (fun i => [(1, .ptr 0 0 0), (2, .ptr 1 0 0), (23, I objs.length), (24, I i)]) (fun _ => [some ⟨30, 6, false, false, [[I me, .own 2 objs.length, .own 3 edges.length, I asked, .own 4 asks.length, .own 5 got.length]]⟩, some ⟨30, 6, true, false, [[I 0, .val (.slice none 0 0), .val (.slice none 0 0), I 0, .val (.slice none 0 0), .val (.slice none 0 0)]]⟩, some (mkB 55 3 (objs.map (Ow.row true))), some (mkB 60 4 (edges.map (edRow true))), some (mkB 64 2 (asks.map Asq.row)), some (mkB 62 3 (got.map Fnd.row))]) (fun i => i ≤ objs.length) (fun i => objs.length - i) 0 (AtS.v [] [0, 1, 2, 3, 4, 5]) (Nat.zero_le _) ?_
  intro i hi
  clear c1 c2 c3 c4
  rcases Nat.lt_or_ge i objs.length with him | him
  · have hg := rows_get (Ow.row true) objs (Int.toNat_natCast i) him
    have hc := Ch.cellclone_pcon true objs[i].cells (by have := h2 _ (List.getElem_mem him); omega)
    have hr : objs[i] = objs[i] := rfl
    obtain ⟨o, ho⟩ : ∃ o, o = objs[i] := ⟨_, rfl⟩
    rw [← ho] at hg hc
    obtain ⟨oa, om, oc⟩ := o
    clear hr h2 h4
    refine W.d2 hg hc ?_
    refine nx (i + 1) (by omega) (by omega) (AtS.v [] [0, 1, 2, 3, 4, 5] ⟨⟨_, rfl, by ((repeat' (first | exact trivial | exact rfl | with_reducible assumption | (refine And.intro ?_ ?_) | (refine Exists.intro _ (And.intro rfl ?_)) | (refine Exists.intro _ (Exists.intro _ (And.intro rfl (And.intro rfl ?_)))) | (refine Or.inl ⟨rfl, rfl, ?_⟩) | (refine Or.inl ⟨rfl, ?_⟩; focus (fail_if_success (refine And.intro ?_ ?_))) | (refine Or.inl (?_ : (_ : Nat) = _ ∧ _); refine ⟨?_, ?_⟩; focus (first | (simp only [List.length_map]; done) | (simp only [List.length_map, List.length_append, List.length_cons, List.length_nil]; done))) | exact Or.inl rfl | (refine Or.inr (Or.inr ⟨?_, ?_⟩)) | (refine Or.inr ⟨?_, ?_⟩) | (refine fun h => ?_; first | exact h | exact rfl | (cases h; done)) | (refine om8 ?_; simp only [← List.map_drop, ← List.map_take]; exact rfl) | ((first | refine om1 ?_ | refine om2 ?_ | refine om3 ?_ | refine om4 ?_ | refine om5 ?_ | refine om6 ?_ | refine om7 ?_); first | (simp only [List.length_map]; done) | (simp only [List.length_map]; omega) | omega))))⟩, ⟨_, rfl, VwB.refl⟩, ⟨_, rfl, rfl, rfl, rfl, .inr (.inr ⟨VwR_set (Ow.row true) VwL_ow objs i him ?_, .inr (flat_rows _ (fun _ => rfl) _), trivial⟩)⟩, ⟨_, rfl, VwB.refl⟩, ⟨_, rfl, VwB.refl⟩, ⟨_, rfl, VwB.refl⟩, rfl⟩)
    rw [← ho]
    exact ⟨rfl, rfl, ⟨rfl, _, rfl, .inl ⟨by simp, rfl, .inl ⟨rfl, rfl⟩⟩⟩, rfl⟩
  have e : i = objs.length := by omega
  subst e
  refine W.go ?_
  refine LoopV.on (σ := Nat) rfl (fun i => [(1, .ptr 0 0 0), (2, .ptr 1 0 0), (42, I edges.length), (43, I i)]) (fun _ => [some ⟨30, 6, false, false, [[I me, .own 2 objs.length, .own 3 edges.length, I asked, .own 4 asks.length, .own 5 got.length]]⟩, some ⟨30, 6, true, false, [[I 0, .val (.slice none 0 0), .val (.slice none 0 0), I 0, .val (.slice none 0 0), .val (.slice none 0 0)]]⟩, some (mkB 55 3 (objs.map (Ow.row true))), some (mkB 60 4 (edges.map (edRow true))), some (mkB 64 2 (asks.map Asq.row)), some (mkB 62 3 (got.map Fnd.row))]) (fun i => i ≤ edges.length) (fun i => edges.length - i) 0 (AtS.v [] [0, 1, 2, 3, 4, 5]) (Nat.zero_le _) ?_
  intro i hi
  rcases Nat.lt_or_ge i edges.length with him | him
  · have hg := rows_get (edRow true) edges (Int.toNat_natCast i) him
    have hc := Hf.clone_pcon true edges[i].out (by have := h4 _ (List.getElem_mem him); omega)
    obtain ⟨o, ho⟩ : ∃ o, o = edges[i] := ⟨_, rfl⟩
    rw [← ho] at hg hc
    obtain ⟨ep, eb, eo, es⟩ := o
    clear h2 h4
    refine W.d2 hg hc ?_
    refine nx (i + 1) (by omega) (by omega) (AtS.v [] [0, 1, 2, 3, 4, 5] ⟨⟨_, rfl, by ((repeat' (first | exact trivial | exact rfl | with_reducible assumption | (refine And.intro ?_ ?_) | (refine Exists.intro _ (And.intro rfl ?_)) | (refine Exists.intro _ (Exists.intro _ (And.intro rfl (And.intro rfl ?_)))) | (refine Or.inl ⟨rfl, rfl, ?_⟩) | (refine Or.inl ⟨rfl, ?_⟩; focus (fail_if_success (refine And.intro ?_ ?_))) | (refine Or.inl (?_ : (_ : Nat) = _ ∧ _); refine ⟨?_, ?_⟩; focus (first | (simp only [List.length_map]; done) | (simp only [List.length_map, List.length_append, List.length_cons, List.length_nil]; done))) | exact Or.inl rfl | (refine Or.inr (Or.inr ⟨?_, ?_⟩)) | (refine Or.inr ⟨?_, ?_⟩) | (refine fun h => ?_; first | exact h | exact rfl | (cases h; done)) | (refine om8 ?_; simp only [← List.map_drop, ← List.map_take]; exact rfl) | ((first | refine om1 ?_ | refine om2 ?_ | refine om3 ?_ | refine om4 ?_ | refine om5 ?_ | refine om6 ?_ | refine om7 ?_); first | (simp only [List.length_map]; done) | (simp only [List.length_map]; omega) | omega))))⟩, ⟨_, rfl, VwB.refl⟩, ⟨_, rfl, VwB.refl⟩, ⟨_, rfl, rfl, rfl, rfl, .inr (.inr ⟨VwR_set (edRow true) VwL_ed edges i him ?_, .inr (flat_rows _ (fun _ => rfl) _), trivial⟩)⟩, ⟨_, rfl, VwB.refl⟩, ⟨_, rfl, VwB.refl⟩, rfl⟩)
    rw [← ho]
    exact ⟨rfl, rfl, ⟨rfl, _, rfl, .inl ⟨by simp, rfl, .inl ⟨rfl, rfl⟩⟩⟩, rfl, rfl⟩
  have e : i = edges.length := by omega
  subst e
  refine W.go ?_
  exact RetP.go [] [2, 3, 4, 5] (by simp) ⟨⟨_, rfl, VwB.refl⟩, ⟨_, rfl, VwB.refl⟩, ⟨_, rfl, VwB.refl⟩, ⟨_, rfl, VwB.refl⟩, rfl⟩ ⟨rfl, ⟨rfl, rfl⟩, ⟨rfl, rfl⟩, rfl, ⟨rfl, rfl⟩, ⟨rfl, rfl⟩, rfl⟩ ⟨trivial, trivial, trivial, trivial, trivial, trivial, trivial⟩ ⟨ow_fr _, ed_fr _, asq_fr _, fnd_fr _, trivial⟩
/-- The copy, as content for good. -/
theorem copyX_pcon (s : Sta) (hs : s.sz) : PCon Try.prog 23 [.agg (s.row true)] (.agg (s.row true)) [] :=
  PCon.re (copy_pcon s hs) (RetP.go [] [] (by simp) rfl ⟨rfl, ⟨rfl, _, rfl, .inl ⟨by simp, rfl, .inl ⟨rfl, rfl⟩⟩⟩, ⟨rfl, _, rfl, .inl ⟨by simp, rfl, .inl ⟨rfl, rfl⟩⟩⟩, rfl, ⟨rfl, _, rfl, .inl ⟨by simp, rfl, .inl ⟨rfl, rfl⟩⟩⟩, ⟨rfl, _, rfl, .inl ⟨by simp, rfl, .inl ⟨rfl, rfl⟩⟩⟩, rfl⟩ (sta_fr s) trivial)
set_option maxHeartbeats 2000000 in
theorem stateSames_pcon (a b : Sta) (ha : a.sz) (hb : b.sz) : PCon Try.prog 7 [.agg (a.row true), .agg (b.row true)] (Bo true) [] := by
  refine pcon_of (G := gm) Try.func7 rfl rfl rfl ?_
  have d1 := ssame_pcon true true a b ha
  have d2 := refssame_pcon true true a b ha
  have d3 := ssame_pcon true true b a hb
  have d4 := ssame_pcon true true a a ha
  have d5 := ssame_pcon true true b b hb
  have d6 := copyX_pcon a ha
  have d7 := copyX_pcon b hb
  have e1 : staEq a a = true := (staEq_iff a a).2 rfl
  have e2 : staEq b b = true := (staEq_iff b b).2 rfl
  have e3 : staEq b a = staEq a b := by
    rw [Bool.eq_iff_iff, staEq_iff, staEq_iff]
    exact ⟨Eq.symm, Eq.symm⟩
  rw [e1] at d4
  rw [e2] at d5
  rw [e3] at d3
  generalize staEq a b = x at *
  obtain ⟨me, objs, edges, asked, asks, got⟩ := a
  obtain ⟨me', objs', edges', asked', asks', got'⟩ := b
  clear ha hb e1 e2 e3
  refine W.go ?_
  refine CallV.c swakes_pcon ?_
  refine W.c7 d1 d2 d3 d4 d5 d6 d7 ?_
  exact RetP.v (congrArg Value.bool (by simp))
end Go.Proofs.Ytiklbnianbejdaa
