/- The law HalfPushes: its walk. -/
import Derived.Test.YtammndlghfknbaaHalfB
set_option linter.unusedSimpArgs false
set_option linter.unusedVariables false
namespace Go.Proofs.Ytammndlghfknbaa
open Go Go.Eng Go.RowKit

theorem same_self (e : Edge) : e.same e = true := by simp [Edge.same]
theorem pushS_len (e : Edge) (m : Msg) : (pushS e m).1.out.length ≤ 1024 := by
  unfold pushS
  split
  · simp [Edge.zero]
  · rename_i h
    have := good_len e (by simpa using h)
    split
    · simp [Edge.zero]
    · split
      · simp [Edge.zero]
      · simp; omega
set_option maxRecDepth 20000 in
theorem halfPushes_pcon (e : Edge) (m : Msg) (h : e.out.length * 40 ≤ 140737488351232) : PCon Try.prog 3 [e.exf false, .agg m.row] (Bo true) [] := by
  have hl := pushS_len e m
  refine pcon_of (G := gm) Try.func3 rfl rfl rfl ?_
  repeat' (conv => whnf
           first
           | (refine get_id ?_; refine Get.mk _ rfl ?_)
           | (refine need_id ?_; refine Need.mk (by first | exact eqOk_of rfl | rfl | exact Nat.le_of_ble_eq_true rfl | exact ⟨rfl, Nat.le_of_ble_eq_true rfl⟩ | (simp [maxLen]; done) | decide | (simp [maxLen]; omega) | (simp_all [maxLen]; omega)) ?_)
           | refine Br.t ?_
           | refine Br.f ?_
           | refine Br.pos (by assumption) ?_
           | refine Br.neg (by assumption) ?_
           | refine Br.dpos (by with_reducible rfl) ?_
           | refine Br.dpos (by assumption) ?_
           | refine Br.dneg (by assumption) ?_
           | refine Br.d (fun _ => ?_) (fun _ => ?_)
           | refine Br.n ?_
           | refine Br.mk (fun _ => ?_) (fun _ => ?_)
           | refine NilB.mk (fun b hb => ?_)
           | refine DrawV.mk [] ?_
           | (refine eqk_id ?_; refine EqK.mk _ (by first | exact wrapN (by omega) | exact wrap64 (by omega) (by omega) | (simp only [List.length_map, List.length_append, List.length_cons, List.length_nil, Int.toNat_natCast, Nat.sub_zero, Nat.zero_add, Nat.add_zero, Int.toNat_zero, Int.natCast_zero, Int.toNat_one, List.take_length, List.drop_zero, List.take_zero, List.nil_append, List.append_nil]; rfl) | rfl) ?_)
           | (refine call_id ?_; first
                | refine CallV.mk _ _ _ (by (repeat' (first | exact trivial | exact rfl | assumption | (refine ⟨_, rfl, ?_⟩) | (refine ⟨_, _, rfl, rfl, ?_⟩) | (refine And.intro ?_ ?_) | (refine Or.inl ⟨rfl, ?_⟩) | exact Or.inl rfl | (refine Or.inr ⟨?_, ?_⟩) | (refine fun h => ?_; first | exact h | exact rfl | (cases h; done)) | (simp only [← List.map_drop, ← List.map_take]; exact rfl) | (simp only [List.length_map]; done) | (simp only [List.length_map]; omega) | omega)); first | done | fail) (wakes_pcon) ?_
                | refine CallV.mk _ _ _ (by (repeat' (first | exact trivial | exact rfl | assumption | (refine ⟨_, rfl, ?_⟩) | (refine ⟨_, _, rfl, rfl, ?_⟩) | (refine And.intro ?_ ?_) | (refine Or.inl ⟨rfl, ?_⟩) | exact Or.inl rfl | (refine Or.inr ⟨?_, ?_⟩) | (refine fun h => ?_; first | exact h | exact rfl | (cases h; done)) | (simp only [← List.map_drop, ← List.map_take]; exact rfl) | (simp only [List.length_map]; done) | (simp only [List.length_map]; omega) | omega)); first | done | fail) (push_pcon e _ m (by omega)) ?_
                | refine CallV.mk _ _ _ (by (repeat' (first | exact trivial | exact rfl | assumption | (refine ⟨_, rfl, ?_⟩) | (refine ⟨_, _, rfl, rfl, ?_⟩) | (refine And.intro ?_ ?_) | (refine Or.inl ⟨rfl, ?_⟩) | exact Or.inl rfl | (refine Or.inr ⟨?_, ?_⟩) | (refine fun h => ?_; first | exact h | exact rfl | (cases h; done)) | (simp only [← List.map_drop, ← List.map_take]; exact rfl) | (simp only [List.length_map]; done) | (simp only [List.length_map]; omega) | omega)); first | done | fail) (refpush_pcon e _ m (by omega)) ?_
                | refine CallV.mk _ _ _ (by (repeat' (first | exact trivial | exact rfl | assumption | (refine ⟨_, rfl, ?_⟩) | (refine ⟨_, _, rfl, rfl, ?_⟩) | (refine And.intro ?_ ?_) | (refine Or.inl ⟨rfl, ?_⟩) | exact Or.inl rfl | (refine Or.inr ⟨?_, ?_⟩) | (refine fun h => ?_; first | exact h | exact rfl | (cases h; done)) | (simp only [← List.map_drop, ← List.map_take]; exact rfl) | (simp only [List.length_map]; done) | (simp only [List.length_map]; omega) | omega)); first | done | fail) (good_pcon e _ (by omega)) ?_
                | refine CallV.mk _ _ _ (by (repeat' (first | exact trivial | exact rfl | assumption | (refine ⟨_, rfl, ?_⟩) | (refine ⟨_, _, rfl, rfl, ?_⟩) | (refine And.intro ?_ ?_) | (refine Or.inl ⟨rfl, ?_⟩) | exact Or.inl rfl | (refine Or.inr ⟨?_, ?_⟩) | (refine fun h => ?_; first | exact h | exact rfl | (cases h; done)) | (simp only [← List.map_drop, ← List.map_take]; exact rfl) | (simp only [List.length_map]; done) | (simp only [List.length_map]; omega) | omega)); first | done | fail) (refgood_pcon e _ (by omega)) ?_
                | refine CallV.mk _ _ _ (by (repeat' (first | exact trivial | exact rfl | assumption | (refine ⟨_, rfl, ?_⟩) | (refine ⟨_, _, rfl, rfl, ?_⟩) | (refine And.intro ?_ ?_) | (refine Or.inl ⟨rfl, ?_⟩) | exact Or.inl rfl | (refine Or.inr ⟨?_, ?_⟩) | (refine fun h => ?_; first | exact h | exact rfl | (cases h; done)) | (simp only [← List.map_drop, ← List.map_take]; exact rfl) | (simp only [List.length_map]; done) | (simp only [List.length_map]; omega) | omega)); first | done | fail) (same_pcon (pushS e m).1 (pushS e m).1 false false (by omega)) ?_)
           | (refine calls_id ?_; first
                | refine CallS.pure _ _ _ (by (repeat' (first | exact trivial | exact rfl | assumption | (refine ⟨_, rfl, ?_⟩) | (refine ⟨_, _, rfl, rfl, ?_⟩) | (refine And.intro ?_ ?_) | (refine Or.inl ⟨rfl, ?_⟩) | exact Or.inl rfl | (refine Or.inr ⟨?_, ?_⟩) | (refine fun h => ?_; first | exact h | exact rfl | (cases h; done)) | (simp only [← List.map_drop, ← List.map_take]; exact rfl) | (simp only [List.length_map]; done) | (simp only [List.length_map]; omega) | omega)); first | done | fail) (wakes_pcon) ?_
                | refine CallS.pure _ _ _ (by (repeat' (first | exact trivial | exact rfl | assumption | (refine ⟨_, rfl, ?_⟩) | (refine ⟨_, _, rfl, rfl, ?_⟩) | (refine And.intro ?_ ?_) | (refine Or.inl ⟨rfl, ?_⟩) | exact Or.inl rfl | (refine Or.inr ⟨?_, ?_⟩) | (refine fun h => ?_; first | exact h | exact rfl | (cases h; done)) | (simp only [← List.map_drop, ← List.map_take]; exact rfl) | (simp only [List.length_map]; done) | (simp only [List.length_map]; omega) | omega)); first | done | fail) (push_pcon e _ m (by omega)) ?_
                | refine CallS.pure _ _ _ (by (repeat' (first | exact trivial | exact rfl | assumption | (refine ⟨_, rfl, ?_⟩) | (refine ⟨_, _, rfl, rfl, ?_⟩) | (refine And.intro ?_ ?_) | (refine Or.inl ⟨rfl, ?_⟩) | exact Or.inl rfl | (refine Or.inr ⟨?_, ?_⟩) | (refine fun h => ?_; first | exact h | exact rfl | (cases h; done)) | (simp only [← List.map_drop, ← List.map_take]; exact rfl) | (simp only [List.length_map]; done) | (simp only [List.length_map]; omega) | omega)); first | done | fail) (refpush_pcon e _ m (by omega)) ?_
                | refine CallS.pure _ _ _ (by (repeat' (first | exact trivial | exact rfl | assumption | (refine ⟨_, rfl, ?_⟩) | (refine ⟨_, _, rfl, rfl, ?_⟩) | (refine And.intro ?_ ?_) | (refine Or.inl ⟨rfl, ?_⟩) | exact Or.inl rfl | (refine Or.inr ⟨?_, ?_⟩) | (refine fun h => ?_; first | exact h | exact rfl | (cases h; done)) | (simp only [← List.map_drop, ← List.map_take]; exact rfl) | (simp only [List.length_map]; done) | (simp only [List.length_map]; omega) | omega)); first | done | fail) (good_pcon e _ (by omega)) ?_
                | refine CallS.pure _ _ _ (by (repeat' (first | exact trivial | exact rfl | assumption | (refine ⟨_, rfl, ?_⟩) | (refine ⟨_, _, rfl, rfl, ?_⟩) | (refine And.intro ?_ ?_) | (refine Or.inl ⟨rfl, ?_⟩) | exact Or.inl rfl | (refine Or.inr ⟨?_, ?_⟩) | (refine fun h => ?_; first | exact h | exact rfl | (cases h; done)) | (simp only [← List.map_drop, ← List.map_take]; exact rfl) | (simp only [List.length_map]; done) | (simp only [List.length_map]; omega) | omega)); first | done | fail) (refgood_pcon e _ (by omega)) ?_
                | refine CallS.pure _ _ _ (by (repeat' (first | exact trivial | exact rfl | assumption | (refine ⟨_, rfl, ?_⟩) | (refine ⟨_, _, rfl, rfl, ?_⟩) | (refine And.intro ?_ ?_) | (refine Or.inl ⟨rfl, ?_⟩) | exact Or.inl rfl | (refine Or.inr ⟨?_, ?_⟩) | (refine fun h => ?_; first | exact h | exact rfl | (cases h; done)) | (simp only [← List.map_drop, ← List.map_take]; exact rfl) | (simp only [List.length_map]; done) | (simp only [List.length_map]; omega) | omega)); first | done | fail) (same_pcon (pushS e m).1 (pushS e m).1 false false (by omega)) ?_))
  all_goals (try (conv => whnf))
  · refine RetP.v ?_
    rw [same_self]
  all_goals (exact absurd rfl (by assumption))
end Go.Proofs.Ytammndlghfknbaa
