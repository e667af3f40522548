/- chain: slices.Delete, Release. -/
import Derived.Test.YtammndlghfknbaaChainB
set_option linter.unusedSimpArgs false
set_option maxRecDepth 20000
set_option linter.unusedVariables false
namespace Go.Proofs.Ytammndlghfknbaa
open Go Go.Eng Go.RowKit

set_option maxRecDepth 20000 in
set_option maxHeartbeats 2000000 in
theorem celldelete_mcon (cs : List Cell) (i : Nat) (hi : i < cs.length) (h : cs.length * 32 ≤ 140737488351232) :
    MCon Try.prog 53 [.own 0 cs.length, I i, I (i + 1)] [cellB cs] fun r hp => r = .own 0 (cs.length - 1) ∧ hp = [some (cellB (cs.eraseIdx i))] := by
  refine mcon_of (G := gm.at 1) Try.func53 rfl rfl rfl ?_
  have e1 : (List.take (cs.length - ((i : Int) + 1).toNat) (List.drop ((i : Int) + 1).toNat (cs.map Cell.row))) = (cs.drop (i + 1)).map Cell.row := by
    rw [List.take_of_length_le (by simp), List.map_drop]
    rfl
  have e2 : i + (List.take (cs.length - ((i : Int) + 1).toNat) (List.drop ((i : Int) + 1).toNat (cs.map Cell.row))).length = cs.length - 1 := by rw [e1]; simp; omega
  have e3 : putL (cs.map Cell.row) i (List.take (cs.length - ((i : Int) + 1).toNat) (List.drop ((i : Int) + 1).toNat (cs.map Cell.row))) = (cs.eraseIdx i).map Cell.row ++ [Cell.row (cs[cs.length - 1]'(by omega))] := by
    unfold putL
    rw [e2, e1, List.eraseIdx_eq_take_drop_succ, ← List.map_drop]
    rw [List.drop_eq_getElem_cons (show cs.length - 1 < cs.length by omega), List.drop_of_length_le (show cs.length ≤ cs.length - 1 + 1 by omega)]
    simp
  have e4 : cs.length ≤ ((cs.eraseIdx i).map Cell.row ++ [Cell.row (cs[cs.length - 1]'(by omega))]).length := by simp [List.length_eraseIdx, hi]; omega
  have e5 : ((cs.length : Int)).toNat - (((cs.length - 1 : Nat) : Int)).toNat = 1 := by omega
  have e6 : cs.length - 1 + 1 ≤ ((cs.eraseIdx i).map Cell.row ++ [Cell.row (cs[cs.length - 1]'(by omega))]).length := by omega
  have e8 : (cs.eraseIdx i).length = cs.length - 1 := by simp [List.length_eraseIdx, hi]
  have e7 : putL ((cs.eraseIdx i).map Cell.row ++ [Cell.row (cs[cs.length - 1]'(by omega))]) (cs.length - 1) (List.replicate 1 [I 0, I 0, I 0, I 0]) = (cs.eraseIdx i).map Cell.row ++ [[I 0, I 0, I 0, I 0]] := by
    unfold putL
    simp [e8]
  repeat' (conv => whnf
           first
           | (refine get_id ?_; first | refine Get.mk _ rfl ?_)
           | (refine need_id ?_; first | refine Need.a ?_ | refine Need.mk (by (exact ⟨rfl, e6, rfl⟩)) ?_ | refine Need.mk (by (exact ⟨by omega, by omega, by omega, .inr ⟨rfl, by exact_mod_cast e4⟩⟩)) ?_)
           | (refine eqk_id ?_; first | refine EqK.mk _ (e2) ?_ | refine EqK.mk _ (e3) ?_ | refine EqK.mk _ (e5) ?_ | refine EqK.mk _ (e7) ?_ | refine EqK.a ?_)
           | (refine br_id ?_; first | refine Br.t ?_ | refine Br.f ?_ | (refine Br.pos ?_ ?_; focus (with_reducible assumption)) | (refine Br.neg ?_ ?_; focus (with_reducible assumption)) | (refine Br.dpos ?_ ?_; focus (first | with_reducible exact rfl | with_reducible exact Int.le_refl _ | with_reducible assumption)) | (refine Br.dneg ?_ ?_; focus (with_reducible assumption)) | (refine Br.d (fun _ => ?_) (fun _ => ?_)) | refine Br.n ?_ | (refine Br.s (fun _ => ?_) (fun _ => ?_)) | (refine Br.mk (fun _ => ?_) (fun _ => ?_)))
           | (refine regv_id ?_; first | refine RegV.d ?_)
           | refine NilB.mk (fun b hb => ?_)
           | (refine alv_and ?_ ?_; focus (first | rfl | done))
           | refine DrawV.mk [] ?_
           | (refine appc_id ?_; first | refine AppC.growA ?_ | refine AppC.place ?_))
  all_goals (try (conv => whnf))
  · omega
  · exact .mk [] [0] (.own 0 (cs.length - 1)) [some (cellB (cs.eraseIdx i))] (by simp) rfl ⟨⟨_, rfl, rfl, rfl, rfl, .inr (.inl ⟨rfl, rfl, rfl, cs.length - 1, by simp [e8, cellB]⟩)⟩, rfl⟩ ⟨rfl, rfl⟩ trivial ⟨cell_fr _, trivial⟩ ⟨rfl, rfl⟩
abbrev relW (r : List Cell × Int × Int × Int) : Sv := .tup [.own 0 r.1.length, I r.2.1, I r.2.2.1, I r.2.2.2]
theorem RetP.relNo {hp : Hp} : RetP hp (.tup [.val (.slice none 0 0), I 0, I 0, I 22]) (relW ([], 0, 0, 22)) [cellB []] :=
  RetP.go [(61, 4)] [hp.length] (by simp) ⟨⟨_, hpGet_new, VwB.refl⟩, rfl⟩ ⟨⟨⟨_, rfl, nlB_new _⟩, rfl⟩, rfl, rfl, rfl, rfl⟩ (by (repeat' (first | exact trivial | exact rfl | with_reducible assumption | (refine ⟨_, rfl, ?_⟩) | (refine ⟨_, _, rfl, rfl, ?_⟩) | (refine And.intro ?_ ?_) | (refine Or.inl ⟨rfl, rfl, ?_⟩) | (refine Or.inl ⟨rfl, ?_⟩; focus (fail_if_success (refine And.intro ?_ ?_))) | (refine Or.inl (?_ : (_ : Nat) = _ ∧ _); refine ⟨?_, ?_⟩; focus (first | (simp only [List.length_map]; done) | (simp only [List.length_map, List.length_append, List.length_cons, List.length_nil]; done))) | exact Or.inl rfl | (refine Or.inr (Or.inr ⟨?_, ?_⟩)) | (refine Or.inr ⟨?_, ?_⟩) | (refine fun h => ?_; first | exact h | exact rfl | (cases h; done)) | (refine om8 ?_; simp only [← List.map_drop, ← List.map_take]; exact rfl) | ((first | refine om1 ?_ | refine om2 ?_ | refine om3 ?_ | refine om4 ?_ | refine om5 ?_ | refine om6 ?_ | refine om7 ?_); first | (simp only [List.length_map]; done) | (simp only [List.length_map]; omega) | omega)))) ⟨trivial, trivial⟩
theorem RetP.rel2 {hp : Hp} (cs : List Cell) {a b c : Int} {k n : Nat} {rows : List (List Sv)} (hk : hpGet hp k = some ⟨61, 4, true, true, rows⟩) (hr : rows = cs.map Cell.row) (hn : n = cs.length) : RetP hp (.tup [.own k n, I a, I b, I c]) (relW (cs, a, b, c)) [cellB cs] := by
  subst hr
  subst hn
  exact RetP.go [] [k] (by simp) ⟨⟨_, hpGet_app hk _, VwB.refl⟩, rfl⟩ ⟨⟨rfl, rfl⟩, rfl, rfl, rfl, rfl⟩ (by (repeat' (first | exact trivial | exact rfl | with_reducible assumption | (refine ⟨_, rfl, ?_⟩) | (refine ⟨_, _, rfl, rfl, ?_⟩) | (refine And.intro ?_ ?_) | (refine Or.inl ⟨rfl, rfl, ?_⟩) | (refine Or.inl ⟨rfl, ?_⟩; focus (fail_if_success (refine And.intro ?_ ?_))) | (refine Or.inl (?_ : (_ : Nat) = _ ∧ _); refine ⟨?_, ?_⟩; focus (first | (simp only [List.length_map]; done) | (simp only [List.length_map, List.length_append, List.length_cons, List.length_nil]; done))) | exact Or.inl rfl | (refine Or.inr (Or.inr ⟨?_, ?_⟩)) | (refine Or.inr ⟨?_, ?_⟩) | (refine fun h => ?_; first | exact h | exact rfl | (cases h; done)) | (refine om8 ?_; simp only [← List.map_drop, ← List.map_take]; exact rfl) | ((first | refine om1 ?_ | refine om2 ?_ | refine om3 ?_ | refine om4 ?_ | refine om5 ?_ | refine om6 ?_ | refine om7 ?_); first | (simp only [List.length_map]; done) | (simp only [List.length_map]; omega) | omega)))) ⟨cell_fr cs, trivial⟩
set_option maxRecDepth 20000 in
set_option maxHeartbeats 2000000 in
theorem release_pcon (f : Bool) (cs : List Cell) (h : cs.length * 32 ≤ 140737488351232) : PCon Try.prog 36 [cellX f cs] (relW (relS cs)) [cellB (relS cs).1] := by
  refine pcon_of (G := gm) Try.func36 rfl rfl rfl ?_
  have hi := cellindex_pcon isHeld 52 [] f cs (by omega) (.inl rfl) held_pcon
  cases hx : cs.findIdx? isHeld with
  | none =>
    rw [hx] at hi
    repeat' (conv => whnf
             first
             | (refine get_id ?_; first | refine Get.mk _ rfl ?_)
             | (refine need_id ?_; first | refine Need.a ?_)
             | (refine eqk_id ?_; first | refine EqK.a ?_)
             | (refine br_id ?_; first | refine Br.t ?_ | refine Br.f ?_ | (refine Br.pos ?_ ?_; focus (with_reducible assumption)) | (refine Br.neg ?_ ?_; focus (with_reducible assumption)) | (refine Br.dpos ?_ ?_; focus (first | with_reducible exact rfl | with_reducible exact Int.le_refl _ | with_reducible assumption)) | (refine Br.dneg ?_ ?_; focus (with_reducible assumption)) | (refine Br.d (fun _ => ?_) (fun _ => ?_)) | refine Br.n ?_ | (refine Br.s (fun _ => ?_) (fun _ => ?_)) | (refine Br.mk (fun _ => ?_) (fun _ => ?_)))
             | (refine regv_id ?_; first | refine RegV.d ?_)
             | refine NilB.mk (fun b hb => ?_)
             | (refine alv_and ?_ ?_; focus (first | rfl | done))
             | refine DrawV.mk [] ?_
             | (refine appc_id ?_; first | refine AppC.growA ?_ | refine AppC.place ?_)
             | (refine call_id ?_; first
                  | refine CallV.c (cellclone_pcon _ cs (by omega)) ?_
                  | refine CallV.c (hi) ?_
                  | refine CallV.e (cellclone_pcon _ cs (by omega)) ?_
                  | refine CallV.e (hi) ?_)
             | (refine calls_id ?_; first
                  | refine CallS.c (cellclone_pcon _ cs (by omega)) ?_
                  | refine CallS.c (hi) ?_
                  | refine CallS.e (cellclone_pcon _ cs (by omega)) ?_
                  | refine CallS.e (hi) ?_))
    all_goals (try (conv => whnf))
    rw [show relS cs = ([], 0, 0, 22) by simp [relS, hx]]
    exact RetP.relNo
  | some i =>
    rw [hx] at hi
    simp only at hi
    have hil : i < cs.length := by
      rw [List.findIdx?_eq_some_iff_getElem] at hx
      exact hx.1
    have hd := celldelete_mcon cs i hil h
    repeat' (conv => whnf
             first
             | (refine get_id ?_; first | refine Get.mk _ rfl ?_ | refine Get.mk _ (nth_map Cell.row cs i (by omega) (by omega)) ?_)
             | (refine need_id ?_; first | refine Need.a ?_)
             | (refine eqk_id ?_; first | refine EqK.a ?_)
             | (refine br_id ?_; first | refine Br.t ?_ | refine Br.f ?_ | (refine Br.pos ?_ ?_; focus (with_reducible assumption)) | (refine Br.neg ?_ ?_; focus (with_reducible assumption)) | (refine Br.dpos ?_ ?_; focus (first | with_reducible exact rfl | with_reducible exact Int.le_refl _ | with_reducible assumption)) | (refine Br.dneg ?_ ?_; focus (with_reducible assumption)) | (refine Br.d (fun _ => ?_) (fun _ => ?_)) | refine Br.n ?_ | (refine Br.s (fun _ => ?_) (fun _ => ?_)) | (refine Br.mk (fun _ => ?_) (fun _ => ?_)))
             | (refine regv_id ?_; first | refine RegV.d ?_)
             | refine NilB.mk (fun b hb => ?_)
             | (refine alv_and ?_ ?_; focus (first | rfl | done))
             | refine DrawV.mk [(4, 0)] ?_
             | (refine appc_id ?_; first | refine AppC.growA ?_ | refine AppC.place ?_)
             | (refine call_id ?_; first
                  | refine CallV.c (cellclone_pcon _ cs (by omega)) ?_
                  | refine CallV.c (hi) ?_
                  | refine CallV.e (cellclone_pcon _ cs (by omega)) ?_
                  | refine CallV.e (hi) ?_
                  | refine CallV.take _ _ _ _ _ _ _ rfl (by (repeat' (first | exact trivial | exact rfl | with_reducible assumption | (refine ⟨_, rfl, ?_⟩) | (refine ⟨_, _, rfl, rfl, ?_⟩) | (refine And.intro ?_ ?_) | (refine Or.inl ⟨rfl, rfl, ?_⟩) | (refine Or.inl ⟨rfl, ?_⟩; focus (fail_if_success (refine And.intro ?_ ?_))) | (refine Or.inl (?_ : (_ : Nat) = _ ∧ _); refine ⟨?_, ?_⟩; focus (first | (simp only [List.length_map]; done) | (simp only [List.length_map, List.length_append, List.length_cons, List.length_nil]; done))) | exact Or.inl rfl | (refine Or.inr (Or.inr ⟨?_, ?_⟩)) | (refine Or.inr ⟨?_, ?_⟩) | (refine fun h => ?_; first | exact h | exact rfl | (cases h; done)) | (refine om8 ?_; simp only [← List.map_drop, ← List.map_take]; exact rfl) | ((first | refine om1 ?_ | refine om2 ?_ | refine om3 ?_ | refine om4 ?_ | refine om5 ?_ | refine om6 ?_ | refine om7 ?_); first | (simp only [List.length_map]; done) | (simp only [List.length_map]; omega) | omega))); first | done | fail) (by (repeat' (first | exact trivial | exact rfl | with_reducible assumption | (refine ⟨_, rfl, ?_⟩) | (refine ⟨_, _, rfl, rfl, ?_⟩) | (refine And.intro ?_ ?_) | (refine Or.inl ⟨rfl, rfl, ?_⟩) | (refine Or.inl ⟨rfl, ?_⟩; focus (fail_if_success (refine And.intro ?_ ?_))) | (refine Or.inl (?_ : (_ : Nat) = _ ∧ _); refine ⟨?_, ?_⟩; focus (first | (simp only [List.length_map]; done) | (simp only [List.length_map, List.length_append, List.length_cons, List.length_nil]; done))) | exact Or.inl rfl | (refine Or.inr (Or.inr ⟨?_, ?_⟩)) | (refine Or.inr ⟨?_, ?_⟩) | (refine fun h => ?_; first | exact h | exact rfl | (cases h; done)) | (refine om8 ?_; simp only [← List.map_drop, ← List.map_take]; exact rfl) | ((first | refine om1 ?_ | refine om2 ?_ | refine om3 ?_ | refine om4 ?_ | refine om5 ?_ | refine om6 ?_ | refine om7 ?_); first | (simp only [List.length_map]; done) | (simp only [List.length_map]; omega) | omega))); first | done | fail) (hd) rfl rfl ?_)
             | (refine calls_id ?_; first
                  | refine CallS.c (cellclone_pcon _ cs (by omega)) ?_
                  | refine CallS.c (hi) ?_
                  | refine CallS.e (cellclone_pcon _ cs (by omega)) ?_
                  | refine CallS.e (hi) ?_))
    all_goals (try (conv => whnf))
    · rename_i h1
      rw [show relS cs = (cs.set i ⟨cs[i].num, 3, cs[i].node, cs[i].next⟩, -1, 0, 0) by simp [relS, hx, hil, h1]]
      exact RetP.rel2 _ rfl (by simp [List.map_set, Cell.row]) (by simp)
    · rename_i h1
      rw [show relS cs = (cs.eraseIdx i, cs[i].node, cs[i].next, 0) by simp [relS, hx, hil, h1]]
      exact RetP.rel2 (cs.eraseIdx i) rfl rfl (by simp [List.length_eraseIdx, hil])
/-! ### Laws -/
theorem succS_len (cs : List Cell) (a b : Int) : (succS cs a b).1.length ≤ cs.length := by
  unfold succS
  split
  · simp
  · split <;> simp
theorem relS_len (cs : List Cell) : (relS cs).1.length ≤ cs.length := by
  unfold relS
  split
  · simp
  · simp only
    split
    · simp
    · exact List.length_eraseIdx_le _ _
theorem wakes13_pcon : PCon Try.prog 28 [] (Bo true) [] := by
  refine pcon_of (G := gm) Try.func28 rfl rfl rfl ?_
  have h1 := release_pcon false [⟨3, 2, 2, 5⟩] (by simp)
  have h2 := succ_pcon false [⟨3, 2, -1, 0⟩] 2 5 (by simp)
  rw [show relS [⟨3, 2, 2, 5⟩] = ([], 2, 5, 0) by decide +kernel] at h1
  rw [show succS [⟨3, 2, -1, 0⟩] 2 5 = ([⟨3, 2, 2, 5⟩], false) by decide +kernel] at h2
  repeat' (conv => whnf
           first
           | (refine get_id ?_; first | refine Get.mk _ rfl ?_)
           | (refine need_id ?_; first | refine Need.a ?_)
           | (refine eqk_id ?_; first | refine EqK.a ?_)
           | (refine br_id ?_; first | refine Br.t ?_ | refine Br.f ?_ | (refine Br.pos ?_ ?_; focus (with_reducible assumption)) | (refine Br.neg ?_ ?_; focus (with_reducible assumption)) | (refine Br.dpos ?_ ?_; focus (first | with_reducible exact rfl | with_reducible exact Int.le_refl _ | with_reducible assumption)) | (refine Br.dneg ?_ ?_; focus (with_reducible assumption)) | (refine Br.d (fun _ => ?_) (fun _ => ?_)) | refine Br.n ?_ | (refine Br.s (fun _ => ?_) (fun _ => ?_)) | (refine Br.mk (fun _ => ?_) (fun _ => ?_)))
           | (refine regv_id ?_; first | refine RegV.d ?_)
           | refine NilB.mk (fun b hb => ?_)
           | (refine alv_and ?_ ?_; focus (first | rfl | done))
           | refine DrawV.mk [] ?_
           | (refine appc_id ?_; first | refine AppC.growA ?_ | refine AppC.place ?_)
           | (refine call_id ?_; first
                | refine CallV.c (h1) ?_
                | refine CallV.c (h2) ?_
                | refine CallV.e (h1) ?_
                | refine CallV.e (h2) ?_)
           | (refine calls_id ?_; first
                | refine CallS.c (h1) ?_
                | refine CallS.c (h2) ?_
                | refine CallS.e (h1) ?_
                | refine CallS.e (h2) ?_))
  all_goals (try (conv => whnf))
  exact RetP.v rfl
end Go.Proofs.Ytammndlghfknbaa
