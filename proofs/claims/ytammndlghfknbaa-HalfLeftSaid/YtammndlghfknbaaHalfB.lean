/- half: Heard, Fits, Take; what a side must do. -/
import Derived.Test.YtammndlghfknbaaHalfR
set_option linter.unusedSimpArgs false
set_option linter.unusedVariables false
namespace Go.Proofs.Ytammndlghfknbaa
open Go Go.Eng Go.RowKit

def Edge.fits (e : Edge) (n : Int) : Bool := e.good && decide (e.seen < 1099511627776) && n == e.seen + 1
theorem fits_pcon (e : Edge) (f : Bool) (n : Int) (h : e.out.length * 40 ≤ 140737488355328) : PCon Try.prog 25 [e.exf f, I n] (Bo (e.fits n)) [] := by
  refine pcon_of (G := gm) Try.func25 rfl rfl rfl ?_
  rcases Bool.eq_false_or_eq_true e.good with hgd | hgd
  · have hf := good_fit e hgd
    unfold Edge.fit at hf
    repeat' (conv => whnf
             first
             | (refine get_id ?_; refine Get.mk _ rfl ?_)
             | (refine need_id ?_; refine Need.mk (by first | exact eqOk_of rfl | rfl | exact Nat.le_of_ble_eq_true rfl | exact ⟨rfl, Nat.le_of_ble_eq_true rfl⟩ | (simp [maxLen]; done) | decide | (simp [maxLen]; omega) | (simp_all [maxLen]; omega)) ?_)
             | refine Br.t ?_
             | refine Br.f ?_
             | refine Br.pos (by assumption) ?_
             | refine Br.neg (by assumption) ?_
             | refine Br.dpos (by with_reducible rfl) ?_
             | refine Br.dpos (by assumption) ?_
             | refine Br.dneg (by assumption) ?_
             | refine Br.d (fun _ => ?_) (fun _ => ?_)
             | refine Br.n ?_
             | refine Br.mk (fun _ => ?_) (fun _ => ?_)
             | refine NilB.mk (fun b hb => ?_)
             | refine alv_and (by first | rfl | done) ?_
             | refine DrawV.mk [] ?_
             | (refine appc_id ?_; first | (refine AppC.grow ?_ ?_; focus (first | rfl | (simp only [List.length_map]; done) | (simp; done) | omega)) | refine AppC.place ?_)
             | (refine eqk_id ?_; refine EqK.mk _ (by first | exact takeAll (by first | exact Nat.le_refl _ | (simp only [List.length_map]; exact Nat.le_refl _) | (simp; done) | omega) | exact wrapN (by omega) | exact wrap64 (by omega) (by omega) | (simp only [List.length_map, List.length_append, List.length_cons, List.length_nil, Int.toNat_natCast, Nat.sub_zero, Nat.zero_add, Nat.add_zero, Int.toNat_zero, Int.natCast_zero, Int.toNat_one, List.take_length, List.drop_zero, List.take_zero, List.nil_append, List.append_nil]; rfl) | rfl) ?_)
             | (refine call_id ?_; first
                  | refine CallV.mk _ _ _ (by (repeat' (first | exact trivial | exact rfl | assumption | (refine ⟨_, rfl, ?_⟩) | (refine ⟨_, _, rfl, rfl, ?_⟩) | (refine And.intro ?_ ?_) | (refine Or.inl ⟨rfl, rfl, ?_⟩) | (refine Or.inl ⟨rfl, ?_⟩; focus (fail_if_success (refine And.intro ?_ ?_))) | (refine Or.inl (?_ : (_ : Nat) = _ ∧ _); refine ⟨?_, ?_⟩; focus (first | (simp only [List.length_map]; done) | (simp only [List.length_map, List.length_append, List.length_cons, List.length_nil]; done))) | exact Or.inl rfl | (refine Or.inr (Or.inr ⟨?_, ?_⟩)) | (refine Or.inr ⟨?_, ?_⟩) | (refine fun h => ?_; first | exact h | exact rfl | (cases h; done)) | (simp only [← List.map_drop, ← List.map_take]; exact rfl) | (simp only [List.length_map]; done) | (simp only [List.length_map]; omega) | omega)); first | done | fail) (good_pcon e _ h) ?_)
             | (refine calls_id ?_; first
                  | refine CallS.pure _ _ _ (by (repeat' (first | exact trivial | exact rfl | assumption | (refine ⟨_, rfl, ?_⟩) | (refine ⟨_, _, rfl, rfl, ?_⟩) | (refine And.intro ?_ ?_) | (refine Or.inl ⟨rfl, rfl, ?_⟩) | (refine Or.inl ⟨rfl, ?_⟩; focus (fail_if_success (refine And.intro ?_ ?_))) | (refine Or.inl (?_ : (_ : Nat) = _ ∧ _); refine ⟨?_, ?_⟩; focus (first | (simp only [List.length_map]; done) | (simp only [List.length_map, List.length_append, List.length_cons, List.length_nil]; done))) | exact Or.inl rfl | (refine Or.inr (Or.inr ⟨?_, ?_⟩)) | (refine Or.inr ⟨?_, ?_⟩) | (refine fun h => ?_; first | exact h | exact rfl | (cases h; done)) | (simp only [← List.map_drop, ← List.map_take]; exact rfl) | (simp only [List.length_map]; done) | (simp only [List.length_map]; omega) | omega)); first | done | fail) (good_pcon e _ h) ?_))
    all_goals (try (conv => whnf))
    all_goals refine RetP.v ?_
    all_goals simp [Edge.fits, *]
  · repeat' (conv => whnf
             first
             | (refine get_id ?_; refine Get.mk _ rfl ?_)
             | (refine need_id ?_; refine Need.mk (by first | exact eqOk_of rfl | rfl | exact Nat.le_of_ble_eq_true rfl | exact ⟨rfl, Nat.le_of_ble_eq_true rfl⟩ | (simp [maxLen]; done) | decide | (simp [maxLen]; omega) | (simp_all [maxLen]; omega)) ?_)
             | refine Br.t ?_
             | refine Br.f ?_
             | refine Br.pos (by assumption) ?_
             | refine Br.neg (by assumption) ?_
             | refine Br.dpos (by with_reducible rfl) ?_
             | refine Br.dpos (by assumption) ?_
             | refine Br.dneg (by assumption) ?_
             | refine Br.d (fun _ => ?_) (fun _ => ?_)
             | refine Br.n ?_
             | refine Br.mk (fun _ => ?_) (fun _ => ?_)
             | refine NilB.mk (fun b hb => ?_)
             | refine alv_and (by first | rfl | done) ?_
             | refine DrawV.mk [] ?_
             | (refine appc_id ?_; first | (refine AppC.grow ?_ ?_; focus (first | rfl | (simp only [List.length_map]; done) | (simp; done) | omega)) | refine AppC.place ?_)
             | (refine eqk_id ?_; refine EqK.mk _ (by first | exact takeAll (by first | exact Nat.le_refl _ | (simp only [List.length_map]; exact Nat.le_refl _) | (simp; done) | omega) | exact wrapN (by omega) | exact wrap64 (by omega) (by omega) | (simp only [List.length_map, List.length_append, List.length_cons, List.length_nil, Int.toNat_natCast, Nat.sub_zero, Nat.zero_add, Nat.add_zero, Int.toNat_zero, Int.natCast_zero, Int.toNat_one, List.take_length, List.drop_zero, List.take_zero, List.nil_append, List.append_nil]; rfl) | rfl) ?_)
             | (refine call_id ?_; first
                  | refine CallV.mk _ _ _ (by (repeat' (first | exact trivial | exact rfl | assumption | (refine ⟨_, rfl, ?_⟩) | (refine ⟨_, _, rfl, rfl, ?_⟩) | (refine And.intro ?_ ?_) | (refine Or.inl ⟨rfl, rfl, ?_⟩) | (refine Or.inl ⟨rfl, ?_⟩; focus (fail_if_success (refine And.intro ?_ ?_))) | (refine Or.inl (?_ : (_ : Nat) = _ ∧ _); refine ⟨?_, ?_⟩; focus (first | (simp only [List.length_map]; done) | (simp only [List.length_map, List.length_append, List.length_cons, List.length_nil]; done))) | exact Or.inl rfl | (refine Or.inr (Or.inr ⟨?_, ?_⟩)) | (refine Or.inr ⟨?_, ?_⟩) | (refine fun h => ?_; first | exact h | exact rfl | (cases h; done)) | (simp only [← List.map_drop, ← List.map_take]; exact rfl) | (simp only [List.length_map]; done) | (simp only [List.length_map]; omega) | omega)); first | done | fail) (good_pcon e _ h) ?_)
             | (refine calls_id ?_; first
                  | refine CallS.pure _ _ _ (by (repeat' (first | exact trivial | exact rfl | assumption | (refine ⟨_, rfl, ?_⟩) | (refine ⟨_, _, rfl, rfl, ?_⟩) | (refine And.intro ?_ ?_) | (refine Or.inl ⟨rfl, rfl, ?_⟩) | (refine Or.inl ⟨rfl, ?_⟩; focus (fail_if_success (refine And.intro ?_ ?_))) | (refine Or.inl (?_ : (_ : Nat) = _ ∧ _); refine ⟨?_, ?_⟩; focus (first | (simp only [List.length_map]; done) | (simp only [List.length_map, List.length_append, List.length_cons, List.length_nil]; done))) | exact Or.inl rfl | (refine Or.inr (Or.inr ⟨?_, ?_⟩)) | (refine Or.inr ⟨?_, ?_⟩) | (refine fun h => ?_; first | exact h | exact rfl | (cases h; done)) | (simp only [← List.map_drop, ← List.map_take]; exact rfl) | (simp only [List.length_map]; done) | (simp only [List.length_map]; omega) | omega)); first | done | fail) (good_pcon e _ h) ?_))
    all_goals (try (conv => whnf))
    refine RetP.v ?_
    simp [Edge.fits, *]
def heardS (e : Edge) (ack : Int) : Edge × Int :=
  if e.good = false then (.zero, 24) else if ack > e.base ∧ ack - e.base ≤ e.out.length then ({ e with base := ack, out := e.out.drop (ack - e.base).toNat }, 0) else (e, 0)
theorem heard_pcon (e : Edge) (f : Bool) (n : Int) (hn : -9223372036854775808 ≤ n ∧ n < 9223372036854775808) (h : e.out.length * 40 ≤ 140737488355328) : PCon Try.prog 21 [e.exf f, I n] (edgeR (heardS e n)) [msgB (heardS e n).1.out] := by
  refine pcon_of (G := gm) Try.func21 rfl rfl rfl ?_
  rcases Bool.eq_false_or_eq_true e.good with hgd | hgd
  · have hf := good_fit e hgd
    unfold Edge.fit at hf
    by_cases hnb : n > e.base
    · repeat' (conv => whnf
               first
               | (refine get_id ?_; refine Get.mk _ rfl ?_)
               | (refine need_id ?_; refine Need.mk (by first | exact eqOk_of rfl | rfl | exact Nat.le_of_ble_eq_true rfl | exact ⟨rfl, Nat.le_of_ble_eq_true rfl⟩ | (simp [maxLen]; done) | decide | (simp [maxLen]; omega) | (simp_all [maxLen]; omega)) ?_)
               | refine Br.t ?_
               | refine Br.f ?_
               | refine Br.pos (by assumption) ?_
               | refine Br.neg (by assumption) ?_
               | refine Br.dpos (by with_reducible rfl) ?_
               | refine Br.dpos (by assumption) ?_
               | refine Br.dneg (by assumption) ?_
               | refine Br.d (fun _ => ?_) (fun _ => ?_)
               | refine Br.n ?_
               | refine Br.mk (fun _ => ?_) (fun _ => ?_)
               | refine NilB.mk (fun b hb => ?_)
               | refine alv_and (by first | rfl | done) ?_
               | refine DrawV.mk [] ?_
               | (refine appc_id ?_; first | (refine AppC.grow ?_ ?_; focus (first | rfl | (simp only [List.length_map]; done) | (simp; done) | omega)) | refine AppC.place ?_)
               | (refine eqk_id ?_; refine EqK.mk _ (by first | exact takeAll (by first | exact Nat.le_refl _ | (simp only [List.length_map]; exact Nat.le_refl _) | (simp; done) | omega) | exact wrapN (by omega) | exact wrap64 (by omega) (by omega) | (simp only [List.length_map, List.length_append, List.length_cons, List.length_nil, Int.toNat_natCast, Nat.sub_zero, Nat.zero_add, Nat.add_zero, Int.toNat_zero, Int.natCast_zero, Int.toNat_one, List.take_length, List.drop_zero, List.take_zero, List.nil_append, List.append_nil]; rfl) | rfl) ?_)
               | (refine call_id ?_; first
                    | refine CallV.mk _ _ _ (by (repeat' (first | exact trivial | exact rfl | assumption | (refine ⟨_, rfl, ?_⟩) | (refine ⟨_, _, rfl, rfl, ?_⟩) | (refine And.intro ?_ ?_) | (refine Or.inl ⟨rfl, rfl, ?_⟩) | (refine Or.inl ⟨rfl, ?_⟩; focus (fail_if_success (refine And.intro ?_ ?_))) | (refine Or.inl (?_ : (_ : Nat) = _ ∧ _); refine ⟨?_, ?_⟩; focus (first | (simp only [List.length_map]; done) | (simp only [List.length_map, List.length_append, List.length_cons, List.length_nil]; done))) | exact Or.inl rfl | (refine Or.inr (Or.inr ⟨?_, ?_⟩)) | (refine Or.inr ⟨?_, ?_⟩) | (refine fun h => ?_; first | exact h | exact rfl | (cases h; done)) | (simp only [← List.map_drop, ← List.map_take]; exact rfl) | (simp only [List.length_map]; done) | (simp only [List.length_map]; omega) | omega)); first | done | fail) (good_pcon e _ h) ?_
                    | refine CallV.mk _ _ _ (by (repeat' (first | exact trivial | exact rfl | assumption | (refine ⟨_, rfl, ?_⟩) | (refine ⟨_, _, rfl, rfl, ?_⟩) | (refine And.intro ?_ ?_) | (refine Or.inl ⟨rfl, rfl, ?_⟩) | (refine Or.inl ⟨rfl, ?_⟩; focus (fail_if_success (refine And.intro ?_ ?_))) | (refine Or.inl (?_ : (_ : Nat) = _ ∧ _); refine ⟨?_, ?_⟩; focus (first | (simp only [List.length_map]; done) | (simp only [List.length_map, List.length_append, List.length_cons, List.length_nil]; done))) | exact Or.inl rfl | (refine Or.inr (Or.inr ⟨?_, ?_⟩)) | (refine Or.inr ⟨?_, ?_⟩) | (refine fun h => ?_; first | exact h | exact rfl | (cases h; done)) | (simp only [← List.map_drop, ← List.map_take]; exact rfl) | (simp only [List.length_map]; done) | (simp only [List.length_map]; omega) | omega)); first | done | fail) (copied_pcon e _ h) ?_
                    | refine CallV.mk _ _ _ (by (repeat' (first | exact trivial | exact rfl | assumption | (refine ⟨_, rfl, ?_⟩) | (refine ⟨_, _, rfl, rfl, ?_⟩) | (refine And.intro ?_ ?_) | (refine Or.inl ⟨rfl, rfl, ?_⟩) | (refine Or.inl ⟨rfl, ?_⟩; focus (fail_if_success (refine And.intro ?_ ?_))) | (refine Or.inl (?_ : (_ : Nat) = _ ∧ _); refine ⟨?_, ?_⟩; focus (first | (simp only [List.length_map]; done) | (simp only [List.length_map, List.length_append, List.length_cons, List.length_nil]; done))) | exact Or.inl rfl | (refine Or.inr (Or.inr ⟨?_, ?_⟩)) | (refine Or.inr ⟨?_, ?_⟩) | (refine fun h => ?_; first | exact h | exact rfl | (cases h; done)) | (simp only [← List.map_drop, ← List.map_take]; exact rfl) | (simp only [List.length_map]; done) | (simp only [List.length_map]; omega) | omega)); first | done | fail) (clone_pcon false _ (by simp; omega)) ?_)
               | (refine calls_id ?_; first
                    | refine CallS.pure _ _ _ (by (repeat' (first | exact trivial | exact rfl | assumption | (refine ⟨_, rfl, ?_⟩) | (refine ⟨_, _, rfl, rfl, ?_⟩) | (refine And.intro ?_ ?_) | (refine Or.inl ⟨rfl, rfl, ?_⟩) | (refine Or.inl ⟨rfl, ?_⟩; focus (fail_if_success (refine And.intro ?_ ?_))) | (refine Or.inl (?_ : (_ : Nat) = _ ∧ _); refine ⟨?_, ?_⟩; focus (first | (simp only [List.length_map]; done) | (simp only [List.length_map, List.length_append, List.length_cons, List.length_nil]; done))) | exact Or.inl rfl | (refine Or.inr (Or.inr ⟨?_, ?_⟩)) | (refine Or.inr ⟨?_, ?_⟩) | (refine fun h => ?_; first | exact h | exact rfl | (cases h; done)) | (simp only [← List.map_drop, ← List.map_take]; exact rfl) | (simp only [List.length_map]; done) | (simp only [List.length_map]; omega) | omega)); first | done | fail) (good_pcon e _ h) ?_
                    | refine CallS.pure _ _ _ (by (repeat' (first | exact trivial | exact rfl | assumption | (refine ⟨_, rfl, ?_⟩) | (refine ⟨_, _, rfl, rfl, ?_⟩) | (refine And.intro ?_ ?_) | (refine Or.inl ⟨rfl, rfl, ?_⟩) | (refine Or.inl ⟨rfl, ?_⟩; focus (fail_if_success (refine And.intro ?_ ?_))) | (refine Or.inl (?_ : (_ : Nat) = _ ∧ _); refine ⟨?_, ?_⟩; focus (first | (simp only [List.length_map]; done) | (simp only [List.length_map, List.length_append, List.length_cons, List.length_nil]; done))) | exact Or.inl rfl | (refine Or.inr (Or.inr ⟨?_, ?_⟩)) | (refine Or.inr ⟨?_, ?_⟩) | (refine fun h => ?_; first | exact h | exact rfl | (cases h; done)) | (simp only [← List.map_drop, ← List.map_take]; exact rfl) | (simp only [List.length_map]; done) | (simp only [List.length_map]; omega) | omega)); first | done | fail) (copied_pcon e _ h) ?_
                    | refine CallS.pure _ _ _ (by (repeat' (first | exact trivial | exact rfl | assumption | (refine ⟨_, rfl, ?_⟩) | (refine ⟨_, _, rfl, rfl, ?_⟩) | (refine And.intro ?_ ?_) | (refine Or.inl ⟨rfl, rfl, ?_⟩) | (refine Or.inl ⟨rfl, ?_⟩; focus (fail_if_success (refine And.intro ?_ ?_))) | (refine Or.inl (?_ : (_ : Nat) = _ ∧ _); refine ⟨?_, ?_⟩; focus (first | (simp only [List.length_map]; done) | (simp only [List.length_map, List.length_append, List.length_cons, List.length_nil]; done))) | exact Or.inl rfl | (refine Or.inr (Or.inr ⟨?_, ?_⟩)) | (refine Or.inr ⟨?_, ?_⟩) | (refine fun h => ?_; first | exact h | exact rfl | (cases h; done)) | (simp only [← List.map_drop, ← List.map_take]; exact rfl) | (simp only [List.length_map]; done) | (simp only [List.length_map]; omega) | omega)); first | done | fail) (clone_pcon false _ (by simp; omega)) ?_))
      all_goals (try (conv => whnf))
      · have ho : List.take (e.out.length - (n - e.base).toNat) (List.drop (n - e.base).toNat e.out) = e.out.drop (n - e.base).toNat := List.take_of_length_le (by simp)
        rw [ho]
        rw [show heardS e n = ({ e with base := n, out := e.out.drop (n - e.base).toNat }, 0) by simp [heardS, *]]
        exact RetP.edge { e with base := n, out := e.out.drop (n - e.base).toNat } rfl rfl rfl
      · rw [show heardS e n = (e, 0) by simp [heardS, *]]
        exact RetP.edge e rfl rfl rfl
    · repeat' (conv => whnf
               first
               | (refine get_id ?_; refine Get.mk _ rfl ?_)
               | (refine need_id ?_; refine Need.mk (by first | exact eqOk_of rfl | rfl | exact Nat.le_of_ble_eq_true rfl | exact ⟨rfl, Nat.le_of_ble_eq_true rfl⟩ | (simp [maxLen]; done) | decide | (simp [maxLen]; omega) | (simp_all [maxLen]; omega)) ?_)
               | refine Br.t ?_
               | refine Br.f ?_
               | refine Br.pos (by assumption) ?_
               | refine Br.neg (by assumption) ?_
               | refine Br.dpos (by with_reducible rfl) ?_
               | refine Br.dpos (by assumption) ?_
               | refine Br.dneg (by assumption) ?_
               | refine Br.d (fun _ => ?_) (fun _ => ?_)
               | refine Br.n ?_
               | refine Br.mk (fun _ => ?_) (fun _ => ?_)
               | refine NilB.mk (fun b hb => ?_)
               | refine alv_and (by first | rfl | done) ?_
               | refine DrawV.mk [] ?_
               | (refine appc_id ?_; first | (refine AppC.grow ?_ ?_; focus (first | rfl | (simp only [List.length_map]; done) | (simp; done) | omega)) | refine AppC.place ?_)
               | (refine eqk_id ?_; refine EqK.mk _ (by first | exact takeAll (by first | exact Nat.le_refl _ | (simp only [List.length_map]; exact Nat.le_refl _) | (simp; done) | omega) | exact wrapN (by omega) | exact wrap64 (by omega) (by omega) | (simp only [List.length_map, List.length_append, List.length_cons, List.length_nil, Int.toNat_natCast, Nat.sub_zero, Nat.zero_add, Nat.add_zero, Int.toNat_zero, Int.natCast_zero, Int.toNat_one, List.take_length, List.drop_zero, List.take_zero, List.nil_append, List.append_nil]; rfl) | rfl) ?_)
               | (refine call_id ?_; first
                    | refine CallV.mk _ _ _ (by (repeat' (first | exact trivial | exact rfl | assumption | (refine ⟨_, rfl, ?_⟩) | (refine ⟨_, _, rfl, rfl, ?_⟩) | (refine And.intro ?_ ?_) | (refine Or.inl ⟨rfl, rfl, ?_⟩) | (refine Or.inl ⟨rfl, ?_⟩; focus (fail_if_success (refine And.intro ?_ ?_))) | (refine Or.inl (?_ : (_ : Nat) = _ ∧ _); refine ⟨?_, ?_⟩; focus (first | (simp only [List.length_map]; done) | (simp only [List.length_map, List.length_append, List.length_cons, List.length_nil]; done))) | exact Or.inl rfl | (refine Or.inr (Or.inr ⟨?_, ?_⟩)) | (refine Or.inr ⟨?_, ?_⟩) | (refine fun h => ?_; first | exact h | exact rfl | (cases h; done)) | (simp only [← List.map_drop, ← List.map_take]; exact rfl) | (simp only [List.length_map]; done) | (simp only [List.length_map]; omega) | omega)); first | done | fail) (good_pcon e _ h) ?_
                    | refine CallV.mk _ _ _ (by (repeat' (first | exact trivial | exact rfl | assumption | (refine ⟨_, rfl, ?_⟩) | (refine ⟨_, _, rfl, rfl, ?_⟩) | (refine And.intro ?_ ?_) | (refine Or.inl ⟨rfl, rfl, ?_⟩) | (refine Or.inl ⟨rfl, ?_⟩; focus (fail_if_success (refine And.intro ?_ ?_))) | (refine Or.inl (?_ : (_ : Nat) = _ ∧ _); refine ⟨?_, ?_⟩; focus (first | (simp only [List.length_map]; done) | (simp only [List.length_map, List.length_append, List.length_cons, List.length_nil]; done))) | exact Or.inl rfl | (refine Or.inr (Or.inr ⟨?_, ?_⟩)) | (refine Or.inr ⟨?_, ?_⟩) | (refine fun h => ?_; first | exact h | exact rfl | (cases h; done)) | (simp only [← List.map_drop, ← List.map_take]; exact rfl) | (simp only [List.length_map]; done) | (simp only [List.length_map]; omega) | omega)); first | done | fail) (copied_pcon e _ h) ?_)
               | (refine calls_id ?_; first
                    | refine CallS.pure _ _ _ (by (repeat' (first | exact trivial | exact rfl | assumption | (refine ⟨_, rfl, ?_⟩) | (refine ⟨_, _, rfl, rfl, ?_⟩) | (refine And.intro ?_ ?_) | (refine Or.inl ⟨rfl, rfl, ?_⟩) | (refine Or.inl ⟨rfl, ?_⟩; focus (fail_if_success (refine And.intro ?_ ?_))) | (refine Or.inl (?_ : (_ : Nat) = _ ∧ _); refine ⟨?_, ?_⟩; focus (first | (simp only [List.length_map]; done) | (simp only [List.length_map, List.length_append, List.length_cons, List.length_nil]; done))) | exact Or.inl rfl | (refine Or.inr (Or.inr ⟨?_, ?_⟩)) | (refine Or.inr ⟨?_, ?_⟩) | (refine fun h => ?_; first | exact h | exact rfl | (cases h; done)) | (simp only [← List.map_drop, ← List.map_take]; exact rfl) | (simp only [List.length_map]; done) | (simp only [List.length_map]; omega) | omega)); first | done | fail) (good_pcon e _ h) ?_
                    | refine CallS.pure _ _ _ (by (repeat' (first | exact trivial | exact rfl | assumption | (refine ⟨_, rfl, ?_⟩) | (refine ⟨_, _, rfl, rfl, ?_⟩) | (refine And.intro ?_ ?_) | (refine Or.inl ⟨rfl, rfl, ?_⟩) | (refine Or.inl ⟨rfl, ?_⟩; focus (fail_if_success (refine And.intro ?_ ?_))) | (refine Or.inl (?_ : (_ : Nat) = _ ∧ _); refine ⟨?_, ?_⟩; focus (first | (simp only [List.length_map]; done) | (simp only [List.length_map, List.length_append, List.length_cons, List.length_nil]; done))) | exact Or.inl rfl | (refine Or.inr (Or.inr ⟨?_, ?_⟩)) | (refine Or.inr ⟨?_, ?_⟩) | (refine fun h => ?_; first | exact h | exact rfl | (cases h; done)) | (simp only [← List.map_drop, ← List.map_take]; exact rfl) | (simp only [List.length_map]; done) | (simp only [List.length_map]; omega) | omega)); first | done | fail) (copied_pcon e _ h) ?_))
      all_goals (try (conv => whnf))
      rw [show heardS e n = (e, 0) by simp [heardS, *]]
      exact RetP.edge e rfl rfl rfl
  · repeat' (conv => whnf
             first
             | (refine get_id ?_; refine Get.mk _ rfl ?_)
             | (refine need_id ?_; refine Need.mk (by first | exact eqOk_of rfl | rfl | exact Nat.le_of_ble_eq_true rfl | exact ⟨rfl, Nat.le_of_ble_eq_true rfl⟩ | (simp [maxLen]; done) | decide | (simp [maxLen]; omega) | (simp_all [maxLen]; omega)) ?_)
             | refine Br.t ?_
             | refine Br.f ?_
             | refine Br.pos (by assumption) ?_
             | refine Br.neg (by assumption) ?_
             | refine Br.dpos (by with_reducible rfl) ?_
             | refine Br.dpos (by assumption) ?_
             | refine Br.dneg (by assumption) ?_
             | refine Br.d (fun _ => ?_) (fun _ => ?_)
             | refine Br.n ?_
             | refine Br.mk (fun _ => ?_) (fun _ => ?_)
             | refine NilB.mk (fun b hb => ?_)
             | refine alv_and (by first | rfl | done) ?_
             | refine DrawV.mk [] ?_
             | (refine appc_id ?_; first | (refine AppC.grow ?_ ?_; focus (first | rfl | (simp only [List.length_map]; done) | (simp; done) | omega)) | refine AppC.place ?_)
             | (refine eqk_id ?_; refine EqK.mk _ (by first | exact takeAll (by first | exact Nat.le_refl _ | (simp only [List.length_map]; exact Nat.le_refl _) | (simp; done) | omega) | exact wrapN (by omega) | exact wrap64 (by omega) (by omega) | (simp only [List.length_map, List.length_append, List.length_cons, List.length_nil, Int.toNat_natCast, Nat.sub_zero, Nat.zero_add, Nat.add_zero, Int.toNat_zero, Int.natCast_zero, Int.toNat_one, List.take_length, List.drop_zero, List.take_zero, List.nil_append, List.append_nil]; rfl) | rfl) ?_)
             | (refine call_id ?_; first
                  | refine CallV.mk _ _ _ (by (repeat' (first | exact trivial | exact rfl | assumption | (refine ⟨_, rfl, ?_⟩) | (refine ⟨_, _, rfl, rfl, ?_⟩) | (refine And.intro ?_ ?_) | (refine Or.inl ⟨rfl, rfl, ?_⟩) | (refine Or.inl ⟨rfl, ?_⟩; focus (fail_if_success (refine And.intro ?_ ?_))) | (refine Or.inl (?_ : (_ : Nat) = _ ∧ _); refine ⟨?_, ?_⟩; focus (first | (simp only [List.length_map]; done) | (simp only [List.length_map, List.length_append, List.length_cons, List.length_nil]; done))) | exact Or.inl rfl | (refine Or.inr (Or.inr ⟨?_, ?_⟩)) | (refine Or.inr ⟨?_, ?_⟩) | (refine fun h => ?_; first | exact h | exact rfl | (cases h; done)) | (simp only [← List.map_drop, ← List.map_take]; exact rfl) | (simp only [List.length_map]; done) | (simp only [List.length_map]; omega) | omega)); first | done | fail) (good_pcon e _ h) ?_)
             | (refine calls_id ?_; first
                  | refine CallS.pure _ _ _ (by (repeat' (first | exact trivial | exact rfl | assumption | (refine ⟨_, rfl, ?_⟩) | (refine ⟨_, _, rfl, rfl, ?_⟩) | (refine And.intro ?_ ?_) | (refine Or.inl ⟨rfl, rfl, ?_⟩) | (refine Or.inl ⟨rfl, ?_⟩; focus (fail_if_success (refine And.intro ?_ ?_))) | (refine Or.inl (?_ : (_ : Nat) = _ ∧ _); refine ⟨?_, ?_⟩; focus (first | (simp only [List.length_map]; done) | (simp only [List.length_map, List.length_append, List.length_cons, List.length_nil]; done))) | exact Or.inl rfl | (refine Or.inr (Or.inr ⟨?_, ?_⟩)) | (refine Or.inr ⟨?_, ?_⟩) | (refine fun h => ?_; first | exact h | exact rfl | (cases h; done)) | (simp only [← List.map_drop, ← List.map_take]; exact rfl) | (simp only [List.length_map]; done) | (simp only [List.length_map]; omega) | omega)); first | done | fail) (good_pcon e _ h) ?_))
    all_goals (try (conv => whnf))
    rw [show heardS e n = (.zero, 24) by simp [heardS, *]]
    exact RetP.zeroE
def e0 : Edge := ⟨1, 0, [], 0⟩
def m0 : Msg := ⟨1, 0, 0, 1, 0⟩
def e1 : Edge := ⟨1, 0, [m0], 0⟩
def e2 : Edge := ⟨1, 1, [], 0⟩
theorem push0 : pushS e0 m0 = (e1, 0) := by decide
theorem heard0 : heardS e1 1 = (e2, 0) := by decide
theorem push0_pcon (f : Bool) : PCon Try.prog 16 [e0.exf f, .agg m0.row] (edgeR (e1, 0)) [msgB e1.out] := by
  have := push_pcon e0 f m0 (by simp [e0])
  rwa [push0] at this
theorem heard0_pcon (f : Bool) : PCon Try.prog 21 [e1.exf f, I 1] (edgeR (e2, 0)) [msgB e2.out] := by
  have := heard_pcon e1 f 1 (by omega) (by simp [e1])
  rwa [heard0] at this
theorem fits0_pcon (f : Bool) : PCon Try.prog 25 [e1.exf f, I 1] (Bo true) [] := fits_pcon e1 f 1 (by simp [e1])
set_option maxRecDepth 20000 in
theorem wakes_pcon : PCon Try.prog 15 [] (Bo true) [] := by
  refine pcon_of (G := gm) Try.func15 rfl rfl rfl ?_
  repeat' (conv => whnf
           first
           | (refine get_id ?_; refine Get.mk _ rfl ?_)
           | (refine need_id ?_; refine Need.mk (by first | exact eqOk_of rfl | rfl | exact Nat.le_of_ble_eq_true rfl | exact ⟨rfl, Nat.le_of_ble_eq_true rfl⟩ | (simp [maxLen]; done) | decide | (simp [maxLen]; omega) | (simp_all [maxLen]; omega)) ?_)
           | refine Br.t ?_
           | refine Br.f ?_
           | refine Br.pos (by assumption) ?_
           | refine Br.neg (by assumption) ?_
           | refine Br.dpos (by with_reducible rfl) ?_
           | refine Br.dpos (by assumption) ?_
           | refine Br.dneg (by assumption) ?_
           | refine Br.d (fun _ => ?_) (fun _ => ?_)
           | refine Br.n ?_
           | refine Br.mk (fun _ => ?_) (fun _ => ?_)
           | refine NilB.mk (fun b hb => ?_)
           | refine alv_and (by first | rfl | done) ?_
           | refine DrawV.mk [] ?_
           | (refine appc_id ?_; first | (refine AppC.grow ?_ ?_; focus (first | rfl | (simp only [List.length_map]; done) | (simp; done) | omega)) | refine AppC.place ?_)
           | (refine eqk_id ?_; refine EqK.mk _ (by first | exact takeAll (by first | exact Nat.le_refl _ | (simp only [List.length_map]; exact Nat.le_refl _) | (simp; done) | omega) | exact wrapN (by omega) | exact wrap64 (by omega) (by omega) | (simp only [List.length_map, List.length_append, List.length_cons, List.length_nil, Int.toNat_natCast, Nat.sub_zero, Nat.zero_add, Nat.add_zero, Int.toNat_zero, Int.natCast_zero, Int.toNat_one, List.take_length, List.drop_zero, List.take_zero, List.nil_append, List.append_nil]; rfl) | rfl) ?_)
           | (refine call_id ?_; first
                | refine CallV.mk _ _ _ (by (repeat' (first | exact trivial | exact rfl | assumption | (refine ⟨_, rfl, ?_⟩) | (refine ⟨_, _, rfl, rfl, ?_⟩) | (refine And.intro ?_ ?_) | (refine Or.inl ⟨rfl, rfl, ?_⟩) | (refine Or.inl ⟨rfl, ?_⟩; focus (fail_if_success (refine And.intro ?_ ?_))) | (refine Or.inl (?_ : (_ : Nat) = _ ∧ _); refine ⟨?_, ?_⟩; focus (first | (simp only [List.length_map]; done) | (simp only [List.length_map, List.length_append, List.length_cons, List.length_nil]; done))) | exact Or.inl rfl | (refine Or.inr (Or.inr ⟨?_, ?_⟩)) | (refine Or.inr ⟨?_, ?_⟩) | (refine fun h => ?_; first | exact h | exact rfl | (cases h; done)) | (simp only [← List.map_drop, ← List.map_take]; exact rfl) | (simp only [List.length_map]; done) | (simp only [List.length_map]; omega) | omega)); first | done | fail) (push0_pcon false) ?_
                | refine CallV.mk _ _ _ (by (repeat' (first | exact trivial | exact rfl | assumption | (refine ⟨_, rfl, ?_⟩) | (refine ⟨_, _, rfl, rfl, ?_⟩) | (refine And.intro ?_ ?_) | (refine Or.inl ⟨rfl, rfl, ?_⟩) | (refine Or.inl ⟨rfl, ?_⟩; focus (fail_if_success (refine And.intro ?_ ?_))) | (refine Or.inl (?_ : (_ : Nat) = _ ∧ _); refine ⟨?_, ?_⟩; focus (first | (simp only [List.length_map]; done) | (simp only [List.length_map, List.length_append, List.length_cons, List.length_nil]; done))) | exact Or.inl rfl | (refine Or.inr (Or.inr ⟨?_, ?_⟩)) | (refine Or.inr ⟨?_, ?_⟩) | (refine fun h => ?_; first | exact h | exact rfl | (cases h; done)) | (simp only [← List.map_drop, ← List.map_take]; exact rfl) | (simp only [List.length_map]; done) | (simp only [List.length_map]; omega) | omega)); first | done | fail) (heard0_pcon false) ?_
                | refine CallV.mk _ _ _ (by (repeat' (first | exact trivial | exact rfl | assumption | (refine ⟨_, rfl, ?_⟩) | (refine ⟨_, _, rfl, rfl, ?_⟩) | (refine And.intro ?_ ?_) | (refine Or.inl ⟨rfl, rfl, ?_⟩) | (refine Or.inl ⟨rfl, ?_⟩; focus (fail_if_success (refine And.intro ?_ ?_))) | (refine Or.inl (?_ : (_ : Nat) = _ ∧ _); refine ⟨?_, ?_⟩; focus (first | (simp only [List.length_map]; done) | (simp only [List.length_map, List.length_append, List.length_cons, List.length_nil]; done))) | exact Or.inl rfl | (refine Or.inr (Or.inr ⟨?_, ?_⟩)) | (refine Or.inr ⟨?_, ?_⟩) | (refine fun h => ?_; first | exact h | exact rfl | (cases h; done)) | (simp only [← List.map_drop, ← List.map_take]; exact rfl) | (simp only [List.length_map]; done) | (simp only [List.length_map]; omega) | omega)); first | done | fail) (fits0_pcon false) ?_)
           | (refine calls_id ?_; first
                | refine CallS.pure _ _ _ (by (repeat' (first | exact trivial | exact rfl | assumption | (refine ⟨_, rfl, ?_⟩) | (refine ⟨_, _, rfl, rfl, ?_⟩) | (refine And.intro ?_ ?_) | (refine Or.inl ⟨rfl, rfl, ?_⟩) | (refine Or.inl ⟨rfl, ?_⟩; focus (fail_if_success (refine And.intro ?_ ?_))) | (refine Or.inl (?_ : (_ : Nat) = _ ∧ _); refine ⟨?_, ?_⟩; focus (first | (simp only [List.length_map]; done) | (simp only [List.length_map, List.length_append, List.length_cons, List.length_nil]; done))) | exact Or.inl rfl | (refine Or.inr (Or.inr ⟨?_, ?_⟩)) | (refine Or.inr ⟨?_, ?_⟩) | (refine fun h => ?_; first | exact h | exact rfl | (cases h; done)) | (simp only [← List.map_drop, ← List.map_take]; exact rfl) | (simp only [List.length_map]; done) | (simp only [List.length_map]; omega) | omega)); first | done | fail) (push0_pcon false) ?_
                | refine CallS.pure _ _ _ (by (repeat' (first | exact trivial | exact rfl | assumption | (refine ⟨_, rfl, ?_⟩) | (refine ⟨_, _, rfl, rfl, ?_⟩) | (refine And.intro ?_ ?_) | (refine Or.inl ⟨rfl, rfl, ?_⟩) | (refine Or.inl ⟨rfl, ?_⟩; focus (fail_if_success (refine And.intro ?_ ?_))) | (refine Or.inl (?_ : (_ : Nat) = _ ∧ _); refine ⟨?_, ?_⟩; focus (first | (simp only [List.length_map]; done) | (simp only [List.length_map, List.length_append, List.length_cons, List.length_nil]; done))) | exact Or.inl rfl | (refine Or.inr (Or.inr ⟨?_, ?_⟩)) | (refine Or.inr ⟨?_, ?_⟩) | (refine fun h => ?_; first | exact h | exact rfl | (cases h; done)) | (simp only [← List.map_drop, ← List.map_take]; exact rfl) | (simp only [List.length_map]; done) | (simp only [List.length_map]; omega) | omega)); first | done | fail) (heard0_pcon false) ?_
                | refine CallS.pure _ _ _ (by (repeat' (first | exact trivial | exact rfl | assumption | (refine ⟨_, rfl, ?_⟩) | (refine ⟨_, _, rfl, rfl, ?_⟩) | (refine And.intro ?_ ?_) | (refine Or.inl ⟨rfl, rfl, ?_⟩) | (refine Or.inl ⟨rfl, ?_⟩; focus (fail_if_success (refine And.intro ?_ ?_))) | (refine Or.inl (?_ : (_ : Nat) = _ ∧ _); refine ⟨?_, ?_⟩; focus (first | (simp only [List.length_map]; done) | (simp only [List.length_map, List.length_append, List.length_cons, List.length_nil]; done))) | exact Or.inl rfl | (refine Or.inr (Or.inr ⟨?_, ?_⟩)) | (refine Or.inr ⟨?_, ?_⟩) | (refine fun h => ?_; first | exact h | exact rfl | (cases h; done)) | (simp only [← List.map_drop, ← List.map_take]; exact rfl) | (simp only [List.length_map]; done) | (simp only [List.length_map]; omega) | omega)); first | done | fail) (fits0_pcon false) ?_))
  all_goals (try (conv => whnf))
  exact RetP.v rfl
end Go.Proofs.Ytammndlghfknbaa
