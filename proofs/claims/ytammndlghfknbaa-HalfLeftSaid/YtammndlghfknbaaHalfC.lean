/- half: Take; the reference's Heard, Fits, Take. -/
import Derived.Test.YtammndlghfknbaaHalfB
set_option linter.unusedSimpArgs false
set_option linter.unusedVariables false
namespace Go.Proofs.Ytammndlghfknbaa
open Go Go.Eng Go.RowKit

def takeS (e : Edge) : Edge × Int := if e.good = false then (.zero, 24) else if e.seen = 1099511627776 then (.zero, 23) else ({ e with seen := e.seen + 1 }, 0)
theorem take_pcon (e : Edge) (f : Bool) (h : e.out.length * 40 ≤ 140737488355328) : PCon Try.prog 23 [e.exf f] (edgeR (takeS e)) [msgB (takeS e).1.out] := by
  refine pcon_of (G := gm) Try.func23 rfl rfl rfl ?_
  rcases Bool.eq_false_or_eq_true e.good with hgd | hgd
  · have hf := good_fit e hgd
    unfold Edge.fit at hf
    repeat' (conv => whnf
             first
             | (refine get_id ?_; refine Get.mk _ rfl ?_)
             | (refine need_id ?_; refine Need.mk (by first | exact eqOk_of rfl | rfl | exact Nat.le_of_ble_eq_true rfl | exact ⟨rfl, Nat.le_of_ble_eq_true rfl⟩ | (simp [maxLen]; done) | decide | (simp [maxLen]; omega) | (simp_all [maxLen]; omega)) ?_)
             | refine Br.t ?_
             | refine Br.f ?_
             | refine Br.pos (by assumption) ?_
             | refine Br.neg (by assumption) ?_
             | refine Br.dpos (by with_reducible rfl) ?_
             | refine Br.dpos (by assumption) ?_
             | refine Br.dneg (by assumption) ?_
             | refine Br.d (fun _ => ?_) (fun _ => ?_)
             | refine Br.n ?_
             | refine Br.mk (fun _ => ?_) (fun _ => ?_)
             | refine NilB.mk (fun b hb => ?_)
             | refine alv_and (by first | rfl | done) ?_
             | refine DrawV.mk [] ?_
             | (refine appc_id ?_; first | (refine AppC.grow ?_ ?_; focus (first | rfl | (simp only [List.length_map]; done) | (simp; done) | omega)) | refine AppC.place ?_)
             | (refine eqk_id ?_; refine EqK.mk _ (by first | exact takeAll (by first | exact Nat.le_refl _ | (simp only [List.length_map]; exact Nat.le_refl _) | (simp; done) | omega) | exact wrapN (by omega) | exact wrap64 (by omega) (by omega) | (simp only [List.length_map, List.length_append, List.length_cons, List.length_nil, Int.toNat_natCast, Nat.sub_zero, Nat.zero_add, Nat.add_zero, Int.toNat_zero, Int.natCast_zero, Int.toNat_one, List.take_length, List.drop_zero, List.take_zero, List.nil_append, List.append_nil]; rfl) | rfl) ?_)
             | (refine call_id ?_; first
                  | refine CallV.mk _ _ _ (by (repeat' (first | exact trivial | exact rfl | assumption | (refine ⟨_, rfl, ?_⟩) | (refine ⟨_, _, rfl, rfl, ?_⟩) | (refine And.intro ?_ ?_) | (refine Or.inl ⟨rfl, rfl, ?_⟩) | (refine Or.inl ⟨rfl, ?_⟩; focus (fail_if_success (refine And.intro ?_ ?_))) | (refine Or.inl (?_ : (_ : Nat) = _ ∧ _); refine ⟨?_, ?_⟩; focus (first | (simp only [List.length_map]; done) | (simp only [List.length_map, List.length_append, List.length_cons, List.length_nil]; done))) | exact Or.inl rfl | (refine Or.inr (Or.inr ⟨?_, ?_⟩)) | (refine Or.inr ⟨?_, ?_⟩) | (refine fun h => ?_; first | exact h | exact rfl | (cases h; done)) | (simp only [← List.map_drop, ← List.map_take]; exact rfl) | (simp only [List.length_map]; done) | (simp only [List.length_map]; omega) | omega)); first | done | fail) (good_pcon e _ h) ?_
                  | refine CallV.mk _ _ _ (by (repeat' (first | exact trivial | exact rfl | assumption | (refine ⟨_, rfl, ?_⟩) | (refine ⟨_, _, rfl, rfl, ?_⟩) | (refine And.intro ?_ ?_) | (refine Or.inl ⟨rfl, rfl, ?_⟩) | (refine Or.inl ⟨rfl, ?_⟩; focus (fail_if_success (refine And.intro ?_ ?_))) | (refine Or.inl (?_ : (_ : Nat) = _ ∧ _); refine ⟨?_, ?_⟩; focus (first | (simp only [List.length_map]; done) | (simp only [List.length_map, List.length_append, List.length_cons, List.length_nil]; done))) | exact Or.inl rfl | (refine Or.inr (Or.inr ⟨?_, ?_⟩)) | (refine Or.inr ⟨?_, ?_⟩) | (refine fun h => ?_; first | exact h | exact rfl | (cases h; done)) | (simp only [← List.map_drop, ← List.map_take]; exact rfl) | (simp only [List.length_map]; done) | (simp only [List.length_map]; omega) | omega)); first | done | fail) (copied_pcon e _ h) ?_)
             | (refine calls_id ?_; first
                  | refine CallS.pure _ _ _ (by (repeat' (first | exact trivial | exact rfl | assumption | (refine ⟨_, rfl, ?_⟩) | (refine ⟨_, _, rfl, rfl, ?_⟩) | (refine And.intro ?_ ?_) | (refine Or.inl ⟨rfl, rfl, ?_⟩) | (refine Or.inl ⟨rfl, ?_⟩; focus (fail_if_success (refine And.intro ?_ ?_))) | (refine Or.inl (?_ : (_ : Nat) = _ ∧ _); refine ⟨?_, ?_⟩; focus (first | (simp only [List.length_map]; done) | (simp only [List.length_map, List.length_append, List.length_cons, List.length_nil]; done))) | exact Or.inl rfl | (refine Or.inr (Or.inr ⟨?_, ?_⟩)) | (refine Or.inr ⟨?_, ?_⟩) | (refine fun h => ?_; first | exact h | exact rfl | (cases h; done)) | (simp only [← List.map_drop, ← List.map_take]; exact rfl) | (simp only [List.length_map]; done) | (simp only [List.length_map]; omega) | omega)); first | done | fail) (good_pcon e _ h) ?_
                  | refine CallS.pure _ _ _ (by (repeat' (first | exact trivial | exact rfl | assumption | (refine ⟨_, rfl, ?_⟩) | (refine ⟨_, _, rfl, rfl, ?_⟩) | (refine And.intro ?_ ?_) | (refine Or.inl ⟨rfl, rfl, ?_⟩) | (refine Or.inl ⟨rfl, ?_⟩; focus (fail_if_success (refine And.intro ?_ ?_))) | (refine Or.inl (?_ : (_ : Nat) = _ ∧ _); refine ⟨?_, ?_⟩; focus (first | (simp only [List.length_map]; done) | (simp only [List.length_map, List.length_append, List.length_cons, List.length_nil]; done))) | exact Or.inl rfl | (refine Or.inr (Or.inr ⟨?_, ?_⟩)) | (refine Or.inr ⟨?_, ?_⟩) | (refine fun h => ?_; first | exact h | exact rfl | (cases h; done)) | (simp only [← List.map_drop, ← List.map_take]; exact rfl) | (simp only [List.length_map]; done) | (simp only [List.length_map]; omega) | omega)); first | done | fail) (copied_pcon e _ h) ?_))
    all_goals (try (conv => whnf))
    · rw [show takeS e = (.zero, 23) by simp [takeS, *]]
      exact RetP.zeroE
    · rw [show takeS e = ({ e with seen := e.seen + 1 }, 0) by simp [takeS, *]]
      exact RetP.edge { e with seen := e.seen + 1 } rfl rfl rfl
  · repeat' (conv => whnf
             first
             | (refine get_id ?_; refine Get.mk _ rfl ?_)
             | (refine need_id ?_; refine Need.mk (by first | exact eqOk_of rfl | rfl | exact Nat.le_of_ble_eq_true rfl | exact ⟨rfl, Nat.le_of_ble_eq_true rfl⟩ | (simp [maxLen]; done) | decide | (simp [maxLen]; omega) | (simp_all [maxLen]; omega)) ?_)
             | refine Br.t ?_
             | refine Br.f ?_
             | refine Br.pos (by assumption) ?_
             | refine Br.neg (by assumption) ?_
             | refine Br.dpos (by with_reducible rfl) ?_
             | refine Br.dpos (by assumption) ?_
             | refine Br.dneg (by assumption) ?_
             | refine Br.d (fun _ => ?_) (fun _ => ?_)
             | refine Br.n ?_
             | refine Br.mk (fun _ => ?_) (fun _ => ?_)
             | refine NilB.mk (fun b hb => ?_)
             | refine alv_and (by first | rfl | done) ?_
             | refine DrawV.mk [] ?_
             | (refine appc_id ?_; first | (refine AppC.grow ?_ ?_; focus (first | rfl | (simp only [List.length_map]; done) | (simp; done) | omega)) | refine AppC.place ?_)
             | (refine eqk_id ?_; refine EqK.mk _ (by first | exact takeAll (by first | exact Nat.le_refl _ | (simp only [List.length_map]; exact Nat.le_refl _) | (simp; done) | omega) | exact wrapN (by omega) | exact wrap64 (by omega) (by omega) | (simp only [List.length_map, List.length_append, List.length_cons, List.length_nil, Int.toNat_natCast, Nat.sub_zero, Nat.zero_add, Nat.add_zero, Int.toNat_zero, Int.natCast_zero, Int.toNat_one, List.take_length, List.drop_zero, List.take_zero, List.nil_append, List.append_nil]; rfl) | rfl) ?_)
             | (refine call_id ?_; first
                  | refine CallV.mk _ _ _ (by (repeat' (first | exact trivial | exact rfl | assumption | (refine ⟨_, rfl, ?_⟩) | (refine ⟨_, _, rfl, rfl, ?_⟩) | (refine And.intro ?_ ?_) | (refine Or.inl ⟨rfl, rfl, ?_⟩) | (refine Or.inl ⟨rfl, ?_⟩; focus (fail_if_success (refine And.intro ?_ ?_))) | (refine Or.inl (?_ : (_ : Nat) = _ ∧ _); refine ⟨?_, ?_⟩; focus (first | (simp only [List.length_map]; done) | (simp only [List.length_map, List.length_append, List.length_cons, List.length_nil]; done))) | exact Or.inl rfl | (refine Or.inr (Or.inr ⟨?_, ?_⟩)) | (refine Or.inr ⟨?_, ?_⟩) | (refine fun h => ?_; first | exact h | exact rfl | (cases h; done)) | (simp only [← List.map_drop, ← List.map_take]; exact rfl) | (simp only [List.length_map]; done) | (simp only [List.length_map]; omega) | omega)); first | done | fail) (good_pcon e _ h) ?_)
             | (refine calls_id ?_; first
                  | refine CallS.pure _ _ _ (by (repeat' (first | exact trivial | exact rfl | assumption | (refine ⟨_, rfl, ?_⟩) | (refine ⟨_, _, rfl, rfl, ?_⟩) | (refine And.intro ?_ ?_) | (refine Or.inl ⟨rfl, rfl, ?_⟩) | (refine Or.inl ⟨rfl, ?_⟩; focus (fail_if_success (refine And.intro ?_ ?_))) | (refine Or.inl (?_ : (_ : Nat) = _ ∧ _); refine ⟨?_, ?_⟩; focus (first | (simp only [List.length_map]; done) | (simp only [List.length_map, List.length_append, List.length_cons, List.length_nil]; done))) | exact Or.inl rfl | (refine Or.inr (Or.inr ⟨?_, ?_⟩)) | (refine Or.inr ⟨?_, ?_⟩) | (refine fun h => ?_; first | exact h | exact rfl | (cases h; done)) | (simp only [← List.map_drop, ← List.map_take]; exact rfl) | (simp only [List.length_map]; done) | (simp only [List.length_map]; omega) | omega)); first | done | fail) (good_pcon e _ h) ?_))
    all_goals (try (conv => whnf))
    rw [show takeS e = (.zero, 24) by simp [takeS, *]]
    exact RetP.zeroE
theorem reftake_pcon (e : Edge) (f : Bool) (h : e.out.length * 40 ≤ 140737488355328) : PCon Try.prog 24 [e.exf f] (edgeR (takeS e)) [msgB (takeS e).1.out] := by
  refine pcon_of (G := gm) Try.func24 rfl rfl rfl ?_
  rcases Bool.eq_false_or_eq_true e.good with hgd | hgd
  · have hf := good_fit e hgd
    unfold Edge.fit at hf
    repeat' (conv => whnf
             first
             | (refine get_id ?_; refine Get.mk _ rfl ?_)
             | (refine need_id ?_; refine Need.mk (by first | exact eqOk_of rfl | rfl | exact Nat.le_of_ble_eq_true rfl | exact ⟨rfl, Nat.le_of_ble_eq_true rfl⟩ | (simp [maxLen]; done) | decide | (simp [maxLen]; omega) | (simp_all [maxLen]; omega)) ?_)
             | refine Br.t ?_
             | refine Br.f ?_
             | refine Br.pos (by assumption) ?_
             | refine Br.neg (by assumption) ?_
             | refine Br.dpos (by with_reducible rfl) ?_
             | refine Br.dpos (by assumption) ?_
             | refine Br.dneg (by assumption) ?_
             | refine Br.d (fun _ => ?_) (fun _ => ?_)
             | refine Br.n ?_
             | refine Br.mk (fun _ => ?_) (fun _ => ?_)
             | refine NilB.mk (fun b hb => ?_)
             | refine alv_and (by first | rfl | done) ?_
             | refine DrawV.mk [(7, 2)] ?_
             | (refine appc_id ?_; first | (refine AppC.grow ?_ ?_; focus (first | rfl | (simp only [List.length_map]; done) | (simp; done) | omega)) | refine AppC.place ?_)
             | (refine eqk_id ?_; refine EqK.mk _ (by first | exact takeAll (by first | exact Nat.le_refl _ | (simp only [List.length_map]; exact Nat.le_refl _) | (simp; done) | omega) | exact wrapN (by omega) | exact wrap64 (by omega) (by omega) | (simp only [List.length_map, List.length_append, List.length_cons, List.length_nil, Int.toNat_natCast, Nat.sub_zero, Nat.zero_add, Nat.add_zero, Int.toNat_zero, Int.natCast_zero, Int.toNat_one, List.take_length, List.drop_zero, List.take_zero, List.nil_append, List.append_nil]; rfl) | rfl) ?_)
             | (refine call_id ?_; first
                  | refine CallV.mk _ _ _ (by (repeat' (first | exact trivial | exact rfl | assumption | (refine ⟨_, rfl, ?_⟩) | (refine ⟨_, _, rfl, rfl, ?_⟩) | (refine And.intro ?_ ?_) | (refine Or.inl ⟨rfl, rfl, ?_⟩) | (refine Or.inl ⟨rfl, ?_⟩; focus (fail_if_success (refine And.intro ?_ ?_))) | (refine Or.inl (?_ : (_ : Nat) = _ ∧ _); refine ⟨?_, ?_⟩; focus (first | (simp only [List.length_map]; done) | (simp only [List.length_map, List.length_append, List.length_cons, List.length_nil]; done))) | exact Or.inl rfl | (refine Or.inr (Or.inr ⟨?_, ?_⟩)) | (refine Or.inr ⟨?_, ?_⟩) | (refine fun h => ?_; first | exact h | exact rfl | (cases h; done)) | (simp only [← List.map_drop, ← List.map_take]; exact rfl) | (simp only [List.length_map]; done) | (simp only [List.length_map]; omega) | omega)); first | done | fail) (refgood_pcon e _ h) ?_)
             | (refine calls_id ?_; first
                  | refine CallS.pure _ _ _ (by (repeat' (first | exact trivial | exact rfl | assumption | (refine ⟨_, rfl, ?_⟩) | (refine ⟨_, _, rfl, rfl, ?_⟩) | (refine And.intro ?_ ?_) | (refine Or.inl ⟨rfl, rfl, ?_⟩) | (refine Or.inl ⟨rfl, ?_⟩; focus (fail_if_success (refine And.intro ?_ ?_))) | (refine Or.inl (?_ : (_ : Nat) = _ ∧ _); refine ⟨?_, ?_⟩; focus (first | (simp only [List.length_map]; done) | (simp only [List.length_map, List.length_append, List.length_cons, List.length_nil]; done))) | exact Or.inl rfl | (refine Or.inr (Or.inr ⟨?_, ?_⟩)) | (refine Or.inr ⟨?_, ?_⟩) | (refine fun h => ?_; first | exact h | exact rfl | (cases h; done)) | (simp only [← List.map_drop, ← List.map_take]; exact rfl) | (simp only [List.length_map]; done) | (simp only [List.length_map]; omega) | omega)); first | done | fail) (refgood_pcon e _ h) ?_))
    all_goals (try (conv => whnf))
    · rw [show takeS e = (.zero, 23) by simp [takeS, *]]
      exact RetP.zeroE
    · rw [show takeS e = ({ e with seen := e.seen + 1 }, 0) by simp [takeS, *]]
      exact RetP.edge { e with seen := e.seen + 1 } rfl rfl rfl
  · repeat' (conv => whnf
             first
             | (refine get_id ?_; refine Get.mk _ rfl ?_)
             | (refine need_id ?_; refine Need.mk (by first | exact eqOk_of rfl | rfl | exact Nat.le_of_ble_eq_true rfl | exact ⟨rfl, Nat.le_of_ble_eq_true rfl⟩ | (simp [maxLen]; done) | decide | (simp [maxLen]; omega) | (simp_all [maxLen]; omega)) ?_)
             | refine Br.t ?_
             | refine Br.f ?_
             | refine Br.pos (by assumption) ?_
             | refine Br.neg (by assumption) ?_
             | refine Br.dpos (by with_reducible rfl) ?_
             | refine Br.dpos (by assumption) ?_
             | refine Br.dneg (by assumption) ?_
             | refine Br.d (fun _ => ?_) (fun _ => ?_)
             | refine Br.n ?_
             | refine Br.mk (fun _ => ?_) (fun _ => ?_)
             | refine NilB.mk (fun b hb => ?_)
             | refine alv_and (by first | rfl | done) ?_
             | refine DrawV.mk [] ?_
             | (refine appc_id ?_; first | (refine AppC.grow ?_ ?_; focus (first | rfl | (simp only [List.length_map]; done) | (simp; done) | omega)) | refine AppC.place ?_)
             | (refine eqk_id ?_; refine EqK.mk _ (by first | exact takeAll (by first | exact Nat.le_refl _ | (simp only [List.length_map]; exact Nat.le_refl _) | (simp; done) | omega) | exact wrapN (by omega) | exact wrap64 (by omega) (by omega) | (simp only [List.length_map, List.length_append, List.length_cons, List.length_nil, Int.toNat_natCast, Nat.sub_zero, Nat.zero_add, Nat.add_zero, Int.toNat_zero, Int.natCast_zero, Int.toNat_one, List.take_length, List.drop_zero, List.take_zero, List.nil_append, List.append_nil]; rfl) | rfl) ?_)
             | (refine call_id ?_; first
                  | refine CallV.mk _ _ _ (by (repeat' (first | exact trivial | exact rfl | assumption | (refine ⟨_, rfl, ?_⟩) | (refine ⟨_, _, rfl, rfl, ?_⟩) | (refine And.intro ?_ ?_) | (refine Or.inl ⟨rfl, rfl, ?_⟩) | (refine Or.inl ⟨rfl, ?_⟩; focus (fail_if_success (refine And.intro ?_ ?_))) | (refine Or.inl (?_ : (_ : Nat) = _ ∧ _); refine ⟨?_, ?_⟩; focus (first | (simp only [List.length_map]; done) | (simp only [List.length_map, List.length_append, List.length_cons, List.length_nil]; done))) | exact Or.inl rfl | (refine Or.inr (Or.inr ⟨?_, ?_⟩)) | (refine Or.inr ⟨?_, ?_⟩) | (refine fun h => ?_; first | exact h | exact rfl | (cases h; done)) | (simp only [← List.map_drop, ← List.map_take]; exact rfl) | (simp only [List.length_map]; done) | (simp only [List.length_map]; omega) | omega)); first | done | fail) (refgood_pcon e _ h) ?_)
             | (refine calls_id ?_; first
                  | refine CallS.pure _ _ _ (by (repeat' (first | exact trivial | exact rfl | assumption | (refine ⟨_, rfl, ?_⟩) | (refine ⟨_, _, rfl, rfl, ?_⟩) | (refine And.intro ?_ ?_) | (refine Or.inl ⟨rfl, rfl, ?_⟩) | (refine Or.inl ⟨rfl, ?_⟩; focus (fail_if_success (refine And.intro ?_ ?_))) | (refine Or.inl (?_ : (_ : Nat) = _ ∧ _); refine ⟨?_, ?_⟩; focus (first | (simp only [List.length_map]; done) | (simp only [List.length_map, List.length_append, List.length_cons, List.length_nil]; done))) | exact Or.inl rfl | (refine Or.inr (Or.inr ⟨?_, ?_⟩)) | (refine Or.inr ⟨?_, ?_⟩) | (refine fun h => ?_; first | exact h | exact rfl | (cases h; done)) | (simp only [← List.map_drop, ← List.map_take]; exact rfl) | (simp only [List.length_map]; done) | (simp only [List.length_map]; omega) | omega)); first | done | fail) (refgood_pcon e _ h) ?_))
    all_goals (try (conv => whnf))
    rw [show takeS e = (.zero, 24) by simp [takeS, *]]
    exact RetP.zeroE
theorem reffits_pcon (e : Edge) (f : Bool) (n : Int) (h : e.out.length * 40 ≤ 140737488355328) : PCon Try.prog 26 [e.exf f, I n] (Bo (e.fits n)) [] := by
  refine pcon_of (G := gm) Try.func26 rfl rfl rfl ?_
  rcases Bool.eq_false_or_eq_true e.good with hgd | hgd
  · have hf := good_fit e hgd
    unfold Edge.fit at hf
    repeat' (conv => whnf
             first
             | (refine get_id ?_; refine Get.mk _ rfl ?_)
             | (refine need_id ?_; refine Need.mk (by first | exact eqOk_of rfl | rfl | exact Nat.le_of_ble_eq_true rfl | exact ⟨rfl, Nat.le_of_ble_eq_true rfl⟩ | (simp [maxLen]; done) | decide | (simp [maxLen]; omega) | (simp_all [maxLen]; omega)) ?_)
             | refine Br.t ?_
             | refine Br.f ?_
             | refine Br.pos (by assumption) ?_
             | refine Br.neg (by assumption) ?_
             | refine Br.dpos (by with_reducible rfl) ?_
             | refine Br.dpos (by assumption) ?_
             | refine Br.dneg (by assumption) ?_
             | refine Br.d (fun _ => ?_) (fun _ => ?_)
             | refine Br.n ?_
             | refine Br.mk (fun _ => ?_) (fun _ => ?_)
             | refine NilB.mk (fun b hb => ?_)
             | refine alv_and (by first | rfl | done) ?_
             | refine DrawV.mk [] ?_
             | (refine appc_id ?_; first | (refine AppC.grow ?_ ?_; focus (first | rfl | (simp only [List.length_map]; done) | (simp; done) | omega)) | refine AppC.place ?_)
             | (refine eqk_id ?_; refine EqK.mk _ (by first | exact takeAll (by first | exact Nat.le_refl _ | (simp only [List.length_map]; exact Nat.le_refl _) | (simp; done) | omega) | exact wrapN (by omega) | exact wrap64 (by omega) (by omega) | (simp only [List.length_map, List.length_append, List.length_cons, List.length_nil, Int.toNat_natCast, Nat.sub_zero, Nat.zero_add, Nat.add_zero, Int.toNat_zero, Int.natCast_zero, Int.toNat_one, List.take_length, List.drop_zero, List.take_zero, List.nil_append, List.append_nil]; rfl) | rfl) ?_)
             | (refine call_id ?_; first
                  | refine CallV.mk _ _ _ (by (repeat' (first | exact trivial | exact rfl | assumption | (refine ⟨_, rfl, ?_⟩) | (refine ⟨_, _, rfl, rfl, ?_⟩) | (refine And.intro ?_ ?_) | (refine Or.inl ⟨rfl, rfl, ?_⟩) | (refine Or.inl ⟨rfl, ?_⟩; focus (fail_if_success (refine And.intro ?_ ?_))) | (refine Or.inl (?_ : (_ : Nat) = _ ∧ _); refine ⟨?_, ?_⟩; focus (first | (simp only [List.length_map]; done) | (simp only [List.length_map, List.length_append, List.length_cons, List.length_nil]; done))) | exact Or.inl rfl | (refine Or.inr (Or.inr ⟨?_, ?_⟩)) | (refine Or.inr ⟨?_, ?_⟩) | (refine fun h => ?_; first | exact h | exact rfl | (cases h; done)) | (simp only [← List.map_drop, ← List.map_take]; exact rfl) | (simp only [List.length_map]; done) | (simp only [List.length_map]; omega) | omega)); first | done | fail) (refgood_pcon e _ h) ?_)
             | (refine calls_id ?_; first
                  | refine CallS.pure _ _ _ (by (repeat' (first | exact trivial | exact rfl | assumption | (refine ⟨_, rfl, ?_⟩) | (refine ⟨_, _, rfl, rfl, ?_⟩) | (refine And.intro ?_ ?_) | (refine Or.inl ⟨rfl, rfl, ?_⟩) | (refine Or.inl ⟨rfl, ?_⟩; focus (fail_if_success (refine And.intro ?_ ?_))) | (refine Or.inl (?_ : (_ : Nat) = _ ∧ _); refine ⟨?_, ?_⟩; focus (first | (simp only [List.length_map]; done) | (simp only [List.length_map, List.length_append, List.length_cons, List.length_nil]; done))) | exact Or.inl rfl | (refine Or.inr (Or.inr ⟨?_, ?_⟩)) | (refine Or.inr ⟨?_, ?_⟩) | (refine fun h => ?_; first | exact h | exact rfl | (cases h; done)) | (simp only [← List.map_drop, ← List.map_take]; exact rfl) | (simp only [List.length_map]; done) | (simp only [List.length_map]; omega) | omega)); first | done | fail) (refgood_pcon e _ h) ?_))
    all_goals (try (conv => whnf))
    all_goals refine RetP.v ?_
    all_goals simp [Edge.fits, *]
  · repeat' (conv => whnf
             first
             | (refine get_id ?_; refine Get.mk _ rfl ?_)
             | (refine need_id ?_; refine Need.mk (by first | exact eqOk_of rfl | rfl | exact Nat.le_of_ble_eq_true rfl | exact ⟨rfl, Nat.le_of_ble_eq_true rfl⟩ | (simp [maxLen]; done) | decide | (simp [maxLen]; omega) | (simp_all [maxLen]; omega)) ?_)
             | refine Br.t ?_
             | refine Br.f ?_
             | refine Br.pos (by assumption) ?_
             | refine Br.neg (by assumption) ?_
             | refine Br.dpos (by with_reducible rfl) ?_
             | refine Br.dpos (by assumption) ?_
             | refine Br.dneg (by assumption) ?_
             | refine Br.d (fun _ => ?_) (fun _ => ?_)
             | refine Br.n ?_
             | refine Br.mk (fun _ => ?_) (fun _ => ?_)
             | refine NilB.mk (fun b hb => ?_)
             | refine alv_and (by first | rfl | done) ?_
             | refine DrawV.mk [] ?_
             | (refine appc_id ?_; first | (refine AppC.grow ?_ ?_; focus (first | rfl | (simp only [List.length_map]; done) | (simp; done) | omega)) | refine AppC.place ?_)
             | (refine eqk_id ?_; refine EqK.mk _ (by first | exact takeAll (by first | exact Nat.le_refl _ | (simp only [List.length_map]; exact Nat.le_refl _) | (simp; done) | omega) | exact wrapN (by omega) | exact wrap64 (by omega) (by omega) | (simp only [List.length_map, List.length_append, List.length_cons, List.length_nil, Int.toNat_natCast, Nat.sub_zero, Nat.zero_add, Nat.add_zero, Int.toNat_zero, Int.natCast_zero, Int.toNat_one, List.take_length, List.drop_zero, List.take_zero, List.nil_append, List.append_nil]; rfl) | rfl) ?_)
             | (refine call_id ?_; first
                  | refine CallV.mk _ _ _ (by (repeat' (first | exact trivial | exact rfl | assumption | (refine ⟨_, rfl, ?_⟩) | (refine ⟨_, _, rfl, rfl, ?_⟩) | (refine And.intro ?_ ?_) | (refine Or.inl ⟨rfl, rfl, ?_⟩) | (refine Or.inl ⟨rfl, ?_⟩; focus (fail_if_success (refine And.intro ?_ ?_))) | (refine Or.inl (?_ : (_ : Nat) = _ ∧ _); refine ⟨?_, ?_⟩; focus (first | (simp only [List.length_map]; done) | (simp only [List.length_map, List.length_append, List.length_cons, List.length_nil]; done))) | exact Or.inl rfl | (refine Or.inr (Or.inr ⟨?_, ?_⟩)) | (refine Or.inr ⟨?_, ?_⟩) | (refine fun h => ?_; first | exact h | exact rfl | (cases h; done)) | (simp only [← List.map_drop, ← List.map_take]; exact rfl) | (simp only [List.length_map]; done) | (simp only [List.length_map]; omega) | omega)); first | done | fail) (refgood_pcon e _ h) ?_)
             | (refine calls_id ?_; first
                  | refine CallS.pure _ _ _ (by (repeat' (first | exact trivial | exact rfl | assumption | (refine ⟨_, rfl, ?_⟩) | (refine ⟨_, _, rfl, rfl, ?_⟩) | (refine And.intro ?_ ?_) | (refine Or.inl ⟨rfl, rfl, ?_⟩) | (refine Or.inl ⟨rfl, ?_⟩; focus (fail_if_success (refine And.intro ?_ ?_))) | (refine Or.inl (?_ : (_ : Nat) = _ ∧ _); refine ⟨?_, ?_⟩; focus (first | (simp only [List.length_map]; done) | (simp only [List.length_map, List.length_append, List.length_cons, List.length_nil]; done))) | exact Or.inl rfl | (refine Or.inr (Or.inr ⟨?_, ?_⟩)) | (refine Or.inr ⟨?_, ?_⟩) | (refine fun h => ?_; first | exact h | exact rfl | (cases h; done)) | (simp only [← List.map_drop, ← List.map_take]; exact rfl) | (simp only [List.length_map]; done) | (simp only [List.length_map]; omega) | omega)); first | done | fail) (refgood_pcon e _ h) ?_))
    all_goals (try (conv => whnf))
    refine RetP.v ?_
    simp [Edge.fits, *]
theorem refheard_pcon (e : Edge) (f : Bool) (n : Int) (hn : -9223372036854775808 ≤ n ∧ n < 9223372036854775808) (h : e.out.length * 40 ≤ 140737488355328) : PCon Try.prog 22 [e.exf f, I n] (edgeR (heardS e n)) [msgB (heardS e n).1.out] := by
  refine pcon_of (G := gm) Try.func22 rfl rfl rfl ?_
  rcases Bool.eq_false_or_eq_true e.good with hgd | hgd
  · have hf := good_fit e hgd
    unfold Edge.fit at hf
    by_cases hnb : n > e.base
    · repeat' (conv => whnf
               first
               | (refine get_id ?_; refine Get.mk _ rfl ?_)
               | (refine need_id ?_; refine Need.mk (by first | exact eqOk_of rfl | rfl | exact Nat.le_of_ble_eq_true rfl | exact ⟨rfl, Nat.le_of_ble_eq_true rfl⟩ | (simp [maxLen]; done) | decide | (simp [maxLen]; omega) | (simp_all [maxLen]; omega)) ?_)
               | refine Br.t ?_
               | refine Br.f ?_
               | refine Br.pos (by assumption) ?_
               | refine Br.neg (by assumption) ?_
               | refine Br.dpos (by with_reducible rfl) ?_
               | refine Br.dpos (by assumption) ?_
               | refine Br.dneg (by assumption) ?_
               | refine Br.d (fun _ => ?_) (fun _ => ?_)
               | refine Br.n ?_
               | refine Br.mk (fun _ => ?_) (fun _ => ?_)
               | refine NilB.mk (fun b hb => ?_)
               | refine alv_and (by first | rfl | done) ?_
               | refine DrawV.mk [(7, 2)] ?_
               | (refine appc_id ?_; first | (refine AppC.grow ?_ ?_; focus (first | rfl | (simp only [List.length_map]; done) | (simp; done) | omega)) | refine AppC.place ?_)
               | (refine eqk_id ?_; refine EqK.mk _ (by first | exact takeAll (by first | exact Nat.le_refl _ | (simp only [List.length_map]; exact Nat.le_refl _) | (simp; done) | omega) | exact wrapN (by omega) | exact wrap64 (by omega) (by omega) | (simp only [List.length_map, List.length_append, List.length_cons, List.length_nil, Int.toNat_natCast, Nat.sub_zero, Nat.zero_add, Nat.add_zero, Int.toNat_zero, Int.natCast_zero, Int.toNat_one, List.take_length, List.drop_zero, List.take_zero, List.nil_append, List.append_nil]; rfl) | rfl) ?_)
               | (refine call_id ?_; first
                    | refine CallV.mk _ _ _ (by (repeat' (first | exact trivial | exact rfl | assumption | (refine ⟨_, rfl, ?_⟩) | (refine ⟨_, _, rfl, rfl, ?_⟩) | (refine And.intro ?_ ?_) | (refine Or.inl ⟨rfl, rfl, ?_⟩) | (refine Or.inl ⟨rfl, ?_⟩; focus (fail_if_success (refine And.intro ?_ ?_))) | (refine Or.inl (?_ : (_ : Nat) = _ ∧ _); refine ⟨?_, ?_⟩; focus (first | (simp only [List.length_map]; done) | (simp only [List.length_map, List.length_append, List.length_cons, List.length_nil]; done))) | exact Or.inl rfl | (refine Or.inr (Or.inr ⟨?_, ?_⟩)) | (refine Or.inr ⟨?_, ?_⟩) | (refine fun h => ?_; first | exact h | exact rfl | (cases h; done)) | (simp only [← List.map_drop, ← List.map_take]; exact rfl) | (simp only [List.length_map]; done) | (simp only [List.length_map]; omega) | omega)); first | done | fail) (refgood_pcon e _ h) ?_)
               | (refine calls_id ?_; first
                    | refine CallS.pure _ _ _ (by (repeat' (first | exact trivial | exact rfl | assumption | (refine ⟨_, rfl, ?_⟩) | (refine ⟨_, _, rfl, rfl, ?_⟩) | (refine And.intro ?_ ?_) | (refine Or.inl ⟨rfl, rfl, ?_⟩) | (refine Or.inl ⟨rfl, ?_⟩; focus (fail_if_success (refine And.intro ?_ ?_))) | (refine Or.inl (?_ : (_ : Nat) = _ ∧ _); refine ⟨?_, ?_⟩; focus (first | (simp only [List.length_map]; done) | (simp only [List.length_map, List.length_append, List.length_cons, List.length_nil]; done))) | exact Or.inl rfl | (refine Or.inr (Or.inr ⟨?_, ?_⟩)) | (refine Or.inr ⟨?_, ?_⟩) | (refine fun h => ?_; first | exact h | exact rfl | (cases h; done)) | (simp only [← List.map_drop, ← List.map_take]; exact rfl) | (simp only [List.length_map]; done) | (simp only [List.length_map]; omega) | omega)); first | done | fail) (refgood_pcon e _ h) ?_))
      all_goals (try (conv => whnf))
      · rw [show heardS e n = ({ e with base := n, out := e.out.drop (n - e.base).toNat }, 0) by simp [heardS, *]; omega]
        exact RetP.edge { e with base := n, out := e.out.drop (n - e.base).toNat } rfl (by simp [← List.map_take, List.take_of_length_le]) (by simp)
      · rw [show heardS e n = (e, 0) by simp [heardS, *]; omega]
        exact RetP.edge e rfl rfl rfl
    · repeat' (conv => whnf
               first
               | (refine get_id ?_; refine Get.mk _ rfl ?_)
               | (refine need_id ?_; refine Need.mk (by first | exact eqOk_of rfl | rfl | exact Nat.le_of_ble_eq_true rfl | exact ⟨rfl, Nat.le_of_ble_eq_true rfl⟩ | (simp [maxLen]; done) | decide | (simp [maxLen]; omega) | (simp_all [maxLen]; omega)) ?_)
               | refine Br.t ?_
               | refine Br.f ?_
               | refine Br.pos (by assumption) ?_
               | refine Br.neg (by assumption) ?_
               | refine Br.dpos (by with_reducible rfl) ?_
               | refine Br.dpos (by assumption) ?_
               | refine Br.dneg (by assumption) ?_
               | refine Br.d (fun _ => ?_) (fun _ => ?_)
               | refine Br.n ?_
               | refine Br.mk (fun _ => ?_) (fun _ => ?_)
               | refine NilB.mk (fun b hb => ?_)
               | refine alv_and (by first | rfl | done) ?_
               | refine DrawV.mk [(7, 2)] ?_
               | (refine appc_id ?_; first | (refine AppC.grow ?_ ?_; focus (first | rfl | (simp only [List.length_map]; done) | (simp; done) | omega)) | refine AppC.place ?_)
               | (refine eqk_id ?_; refine EqK.mk _ (by first | exact takeAll (by first | exact Nat.le_refl _ | (simp only [List.length_map]; exact Nat.le_refl _) | (simp; done) | omega) | exact wrapN (by omega) | exact wrap64 (by omega) (by omega) | (simp only [List.length_map, List.length_append, List.length_cons, List.length_nil, Int.toNat_natCast, Nat.sub_zero, Nat.zero_add, Nat.add_zero, Int.toNat_zero, Int.natCast_zero, Int.toNat_one, List.take_length, List.drop_zero, List.take_zero, List.nil_append, List.append_nil]; rfl) | rfl) ?_)
               | (refine call_id ?_; first
                    | refine CallV.mk _ _ _ (by (repeat' (first | exact trivial | exact rfl | assumption | (refine ⟨_, rfl, ?_⟩) | (refine ⟨_, _, rfl, rfl, ?_⟩) | (refine And.intro ?_ ?_) | (refine Or.inl ⟨rfl, rfl, ?_⟩) | (refine Or.inl ⟨rfl, ?_⟩; focus (fail_if_success (refine And.intro ?_ ?_))) | (refine Or.inl (?_ : (_ : Nat) = _ ∧ _); refine ⟨?_, ?_⟩; focus (first | (simp only [List.length_map]; done) | (simp only [List.length_map, List.length_append, List.length_cons, List.length_nil]; done))) | exact Or.inl rfl | (refine Or.inr (Or.inr ⟨?_, ?_⟩)) | (refine Or.inr ⟨?_, ?_⟩) | (refine fun h => ?_; first | exact h | exact rfl | (cases h; done)) | (simp only [← List.map_drop, ← List.map_take]; exact rfl) | (simp only [List.length_map]; done) | (simp only [List.length_map]; omega) | omega)); first | done | fail) (refgood_pcon e _ h) ?_)
               | (refine calls_id ?_; first
                    | refine CallS.pure _ _ _ (by (repeat' (first | exact trivial | exact rfl | assumption | (refine ⟨_, rfl, ?_⟩) | (refine ⟨_, _, rfl, rfl, ?_⟩) | (refine And.intro ?_ ?_) | (refine Or.inl ⟨rfl, rfl, ?_⟩) | (refine Or.inl ⟨rfl, ?_⟩; focus (fail_if_success (refine And.intro ?_ ?_))) | (refine Or.inl (?_ : (_ : Nat) = _ ∧ _); refine ⟨?_, ?_⟩; focus (first | (simp only [List.length_map]; done) | (simp only [List.length_map, List.length_append, List.length_cons, List.length_nil]; done))) | exact Or.inl rfl | (refine Or.inr (Or.inr ⟨?_, ?_⟩)) | (refine Or.inr ⟨?_, ?_⟩) | (refine fun h => ?_; first | exact h | exact rfl | (cases h; done)) | (simp only [← List.map_drop, ← List.map_take]; exact rfl) | (simp only [List.length_map]; done) | (simp only [List.length_map]; omega) | omega)); first | done | fail) (refgood_pcon e _ h) ?_))
      all_goals (try (conv => whnf))
      rw [show heardS e n = (e, 0) by simp [heardS, *]]
      exact RetP.edge e rfl rfl rfl
  · repeat' (conv => whnf
             first
             | (refine get_id ?_; refine Get.mk _ rfl ?_)
             | (refine need_id ?_; refine Need.mk (by first | exact eqOk_of rfl | rfl | exact Nat.le_of_ble_eq_true rfl | exact ⟨rfl, Nat.le_of_ble_eq_true rfl⟩ | (simp [maxLen]; done) | decide | (simp [maxLen]; omega) | (simp_all [maxLen]; omega)) ?_)
             | refine Br.t ?_
             | refine Br.f ?_
             | refine Br.pos (by assumption) ?_
             | refine Br.neg (by assumption) ?_
             | refine Br.dpos (by with_reducible rfl) ?_
             | refine Br.dpos (by assumption) ?_
             | refine Br.dneg (by assumption) ?_
             | refine Br.d (fun _ => ?_) (fun _ => ?_)
             | refine Br.n ?_
             | refine Br.mk (fun _ => ?_) (fun _ => ?_)
             | refine NilB.mk (fun b hb => ?_)
             | refine alv_and (by first | rfl | done) ?_
             | refine DrawV.mk [] ?_
             | (refine appc_id ?_; first | (refine AppC.grow ?_ ?_; focus (first | rfl | (simp only [List.length_map]; done) | (simp; done) | omega)) | refine AppC.place ?_)
             | (refine eqk_id ?_; refine EqK.mk _ (by first | exact takeAll (by first | exact Nat.le_refl _ | (simp only [List.length_map]; exact Nat.le_refl _) | (simp; done) | omega) | exact wrapN (by omega) | exact wrap64 (by omega) (by omega) | (simp only [List.length_map, List.length_append, List.length_cons, List.length_nil, Int.toNat_natCast, Nat.sub_zero, Nat.zero_add, Nat.add_zero, Int.toNat_zero, Int.natCast_zero, Int.toNat_one, List.take_length, List.drop_zero, List.take_zero, List.nil_append, List.append_nil]; rfl) | rfl) ?_)
             | (refine call_id ?_; first
                  | refine CallV.mk _ _ _ (by (repeat' (first | exact trivial | exact rfl | assumption | (refine ⟨_, rfl, ?_⟩) | (refine ⟨_, _, rfl, rfl, ?_⟩) | (refine And.intro ?_ ?_) | (refine Or.inl ⟨rfl, rfl, ?_⟩) | (refine Or.inl ⟨rfl, ?_⟩; focus (fail_if_success (refine And.intro ?_ ?_))) | (refine Or.inl (?_ : (_ : Nat) = _ ∧ _); refine ⟨?_, ?_⟩; focus (first | (simp only [List.length_map]; done) | (simp only [List.length_map, List.length_append, List.length_cons, List.length_nil]; done))) | exact Or.inl rfl | (refine Or.inr (Or.inr ⟨?_, ?_⟩)) | (refine Or.inr ⟨?_, ?_⟩) | (refine fun h => ?_; first | exact h | exact rfl | (cases h; done)) | (simp only [← List.map_drop, ← List.map_take]; exact rfl) | (simp only [List.length_map]; done) | (simp only [List.length_map]; omega) | omega)); first | done | fail) (refgood_pcon e _ h) ?_)
             | (refine calls_id ?_; first
                  | refine CallS.pure _ _ _ (by (repeat' (first | exact trivial | exact rfl | assumption | (refine ⟨_, rfl, ?_⟩) | (refine ⟨_, _, rfl, rfl, ?_⟩) | (refine And.intro ?_ ?_) | (refine Or.inl ⟨rfl, rfl, ?_⟩) | (refine Or.inl ⟨rfl, ?_⟩; focus (fail_if_success (refine And.intro ?_ ?_))) | (refine Or.inl (?_ : (_ : Nat) = _ ∧ _); refine ⟨?_, ?_⟩; focus (first | (simp only [List.length_map]; done) | (simp only [List.length_map, List.length_append, List.length_cons, List.length_nil]; done))) | exact Or.inl rfl | (refine Or.inr (Or.inr ⟨?_, ?_⟩)) | (refine Or.inr ⟨?_, ?_⟩) | (refine fun h => ?_; first | exact h | exact rfl | (cases h; done)) | (simp only [← List.map_drop, ← List.map_take]; exact rfl) | (simp only [List.length_map]; done) | (simp only [List.length_map]; omega) | omega)); first | done | fail) (refgood_pcon e _ h) ?_))
    all_goals (try (conv => whnf))
    rw [show heardS e n = (.zero, 24) by simp [heardS, *]]
    exact RetP.zeroE
end Go.Proofs.Ytammndlghfknbaa
