/- The laws HalfHears and HalfTakes: their walks. -/
import Derived.Test.YtammndlghfknbaaHalfF
namespace Go.Proofs.Ytammndlghfknbaa
open Go Go.Eng Go.RowKit

set_option maxRecDepth 20000 in
set_option maxHeartbeats 2000000 in
theorem halfHears_pcon (e : Edge) (n : Int) (hn : -9223372036854775808 ≤ n ∧ n < 9223372036854775808) (h : e.out.length * 40 ≤ 140737488351232) : PCon Try.prog 5 [e.exf false, I n] (Bo true) [] := by
  have hl := heardS_len e n
  have hk := takeS_len e
  refine pcon_of (G := gm) Try.func5 rfl rfl rfl ?_
  repeat' (conv => whnf
           first
           | (refine get_id ?_; refine Get.mk _ rfl ?_)
           | (refine need_id ?_; refine Need.mk (by first | exact eqOk_of rfl | rfl | exact Nat.le_of_ble_eq_true rfl | exact ⟨rfl, Nat.le_of_ble_eq_true rfl⟩ | (simp [maxLen]; done) | decide | (simp [maxLen]; omega) | (simp_all [maxLen]; omega)) ?_)
           | refine Br.t ?_
           | refine Br.f ?_
           | refine Br.pos (by assumption) ?_
           | refine Br.neg (by assumption) ?_
           | refine Br.dpos (by with_reducible rfl) ?_
           | refine Br.dpos (by assumption) ?_
           | refine Br.dneg (by assumption) ?_
           | refine Br.d (fun _ => ?_) (fun _ => ?_)
           | refine Br.n ?_
           | refine Br.mk (fun _ => ?_) (fun _ => ?_)
           | refine NilB.mk (fun b hb => ?_)
           | refine DrawV.mk [] ?_
           | (refine eqk_id ?_; refine EqK.mk _ (by first | exact wrapN (by omega) | exact wrap64 (by omega) (by omega) | (simp only [List.length_map, List.length_append, List.length_cons, List.length_nil, Int.toNat_natCast, Nat.sub_zero, Nat.zero_add, Nat.add_zero, Int.toNat_zero, Int.natCast_zero, Int.toNat_one, List.take_length, List.drop_zero, List.take_zero, List.nil_append, List.append_nil]; rfl) | rfl) ?_)
           | (refine call_id ?_; first
                | refine CallV.mk _ _ _ (by (repeat' (first | exact trivial | exact rfl | assumption | (refine ⟨_, rfl, ?_⟩) | (refine ⟨_, _, rfl, rfl, ?_⟩) | (refine And.intro ?_ ?_) | (refine Or.inl ⟨rfl, ?_⟩) | exact Or.inl rfl | (refine Or.inr ⟨?_, ?_⟩) | (refine fun h => ?_; first | exact h | exact rfl | (cases h; done)) | (simp only [← List.map_drop, ← List.map_take]; exact rfl) | (simp only [List.length_map]; done) | (simp only [List.length_map]; omega) | omega)); first | done | fail) (wakes_pcon) ?_
                | refine CallV.mk _ _ _ (by (repeat' (first | exact trivial | exact rfl | assumption | (refine ⟨_, rfl, ?_⟩) | (refine ⟨_, _, rfl, rfl, ?_⟩) | (refine And.intro ?_ ?_) | (refine Or.inl ⟨rfl, ?_⟩) | exact Or.inl rfl | (refine Or.inr ⟨?_, ?_⟩) | (refine fun h => ?_; first | exact h | exact rfl | (cases h; done)) | (simp only [← List.map_drop, ← List.map_take]; exact rfl) | (simp only [List.length_map]; done) | (simp only [List.length_map]; omega) | omega)); first | done | fail) (heard_pcon e _ n hn (by omega)) ?_
                | refine CallV.mk _ _ _ (by (repeat' (first | exact trivial | exact rfl | assumption | (refine ⟨_, rfl, ?_⟩) | (refine ⟨_, _, rfl, rfl, ?_⟩) | (refine And.intro ?_ ?_) | (refine Or.inl ⟨rfl, ?_⟩) | exact Or.inl rfl | (refine Or.inr ⟨?_, ?_⟩) | (refine fun h => ?_; first | exact h | exact rfl | (cases h; done)) | (simp only [← List.map_drop, ← List.map_take]; exact rfl) | (simp only [List.length_map]; done) | (simp only [List.length_map]; omega) | omega)); first | done | fail) (refheard_pcon e _ n hn (by omega)) ?_
                | refine CallV.mk _ _ _ (by (repeat' (first | exact trivial | exact rfl | assumption | (refine ⟨_, rfl, ?_⟩) | (refine ⟨_, _, rfl, rfl, ?_⟩) | (refine And.intro ?_ ?_) | (refine Or.inl ⟨rfl, ?_⟩) | exact Or.inl rfl | (refine Or.inr ⟨?_, ?_⟩) | (refine fun h => ?_; first | exact h | exact rfl | (cases h; done)) | (simp only [← List.map_drop, ← List.map_take]; exact rfl) | (simp only [List.length_map]; done) | (simp only [List.length_map]; omega) | omega)); first | done | fail) (take_pcon e _ (by omega)) ?_
                | refine CallV.mk _ _ _ (by (repeat' (first | exact trivial | exact rfl | assumption | (refine ⟨_, rfl, ?_⟩) | (refine ⟨_, _, rfl, rfl, ?_⟩) | (refine And.intro ?_ ?_) | (refine Or.inl ⟨rfl, ?_⟩) | exact Or.inl rfl | (refine Or.inr ⟨?_, ?_⟩) | (refine fun h => ?_; first | exact h | exact rfl | (cases h; done)) | (simp only [← List.map_drop, ← List.map_take]; exact rfl) | (simp only [List.length_map]; done) | (simp only [List.length_map]; omega) | omega)); first | done | fail) (reftake_pcon e _ (by omega)) ?_
                | refine CallV.mk _ _ _ (by (repeat' (first | exact trivial | exact rfl | assumption | (refine ⟨_, rfl, ?_⟩) | (refine ⟨_, _, rfl, rfl, ?_⟩) | (refine And.intro ?_ ?_) | (refine Or.inl ⟨rfl, ?_⟩) | exact Or.inl rfl | (refine Or.inr ⟨?_, ?_⟩) | (refine fun h => ?_; first | exact h | exact rfl | (cases h; done)) | (simp only [← List.map_drop, ← List.map_take]; exact rfl) | (simp only [List.length_map]; done) | (simp only [List.length_map]; omega) | omega)); first | done | fail) (fits_pcon e _ n (by omega)) ?_
                | refine CallV.mk _ _ _ (by (repeat' (first | exact trivial | exact rfl | assumption | (refine ⟨_, rfl, ?_⟩) | (refine ⟨_, _, rfl, rfl, ?_⟩) | (refine And.intro ?_ ?_) | (refine Or.inl ⟨rfl, ?_⟩) | exact Or.inl rfl | (refine Or.inr ⟨?_, ?_⟩) | (refine fun h => ?_; first | exact h | exact rfl | (cases h; done)) | (simp only [← List.map_drop, ← List.map_take]; exact rfl) | (simp only [List.length_map]; done) | (simp only [List.length_map]; omega) | omega)); first | done | fail) (reffits_pcon e _ n (by omega)) ?_
                | refine CallV.mk _ _ _ (by (repeat' (first | exact trivial | exact rfl | assumption | (refine ⟨_, rfl, ?_⟩) | (refine ⟨_, _, rfl, rfl, ?_⟩) | (refine And.intro ?_ ?_) | (refine Or.inl ⟨rfl, ?_⟩) | exact Or.inl rfl | (refine Or.inr ⟨?_, ?_⟩) | (refine fun h => ?_; first | exact h | exact rfl | (cases h; done)) | (simp only [← List.map_drop, ← List.map_take]; exact rfl) | (simp only [List.length_map]; done) | (simp only [List.length_map]; omega) | omega)); first | done | fail) (sameself_pcon (heardS e n).1 false false (by omega)) ?_
                | refine CallV.mk _ _ _ (by (repeat' (first | exact trivial | exact rfl | assumption | (refine ⟨_, rfl, ?_⟩) | (refine ⟨_, _, rfl, rfl, ?_⟩) | (refine And.intro ?_ ?_) | (refine Or.inl ⟨rfl, ?_⟩) | exact Or.inl rfl | (refine Or.inr ⟨?_, ?_⟩) | (refine fun h => ?_; first | exact h | exact rfl | (cases h; done)) | (simp only [← List.map_drop, ← List.map_take]; exact rfl) | (simp only [List.length_map]; done) | (simp only [List.length_map]; omega) | omega)); first | done | fail) (sameself_pcon (takeS e).1 false false (by omega)) ?_)
           | (refine calls_id ?_; first
                | refine CallS.pure _ _ _ (by (repeat' (first | exact trivial | exact rfl | assumption | (refine ⟨_, rfl, ?_⟩) | (refine ⟨_, _, rfl, rfl, ?_⟩) | (refine And.intro ?_ ?_) | (refine Or.inl ⟨rfl, ?_⟩) | exact Or.inl rfl | (refine Or.inr ⟨?_, ?_⟩) | (refine fun h => ?_; first | exact h | exact rfl | (cases h; done)) | (simp only [← List.map_drop, ← List.map_take]; exact rfl) | (simp only [List.length_map]; done) | (simp only [List.length_map]; omega) | omega)); first | done | fail) (wakes_pcon) ?_
                | refine CallS.pure _ _ _ (by (repeat' (first | exact trivial | exact rfl | assumption | (refine ⟨_, rfl, ?_⟩) | (refine ⟨_, _, rfl, rfl, ?_⟩) | (refine And.intro ?_ ?_) | (refine Or.inl ⟨rfl, ?_⟩) | exact Or.inl rfl | (refine Or.inr ⟨?_, ?_⟩) | (refine fun h => ?_; first | exact h | exact rfl | (cases h; done)) | (simp only [← List.map_drop, ← List.map_take]; exact rfl) | (simp only [List.length_map]; done) | (simp only [List.length_map]; omega) | omega)); first | done | fail) (heard_pcon e _ n hn (by omega)) ?_
                | refine CallS.pure _ _ _ (by (repeat' (first | exact trivial | exact rfl | assumption | (refine ⟨_, rfl, ?_⟩) | (refine ⟨_, _, rfl, rfl, ?_⟩) | (refine And.intro ?_ ?_) | (refine Or.inl ⟨rfl, ?_⟩) | exact Or.inl rfl | (refine Or.inr ⟨?_, ?_⟩) | (refine fun h => ?_; first | exact h | exact rfl | (cases h; done)) | (simp only [← List.map_drop, ← List.map_take]; exact rfl) | (simp only [List.length_map]; done) | (simp only [List.length_map]; omega) | omega)); first | done | fail) (refheard_pcon e _ n hn (by omega)) ?_
                | refine CallS.pure _ _ _ (by (repeat' (first | exact trivial | exact rfl | assumption | (refine ⟨_, rfl, ?_⟩) | (refine ⟨_, _, rfl, rfl, ?_⟩) | (refine And.intro ?_ ?_) | (refine Or.inl ⟨rfl, ?_⟩) | exact Or.inl rfl | (refine Or.inr ⟨?_, ?_⟩) | (refine fun h => ?_; first | exact h | exact rfl | (cases h; done)) | (simp only [← List.map_drop, ← List.map_take]; exact rfl) | (simp only [List.length_map]; done) | (simp only [List.length_map]; omega) | omega)); first | done | fail) (take_pcon e _ (by omega)) ?_
                | refine CallS.pure _ _ _ (by (repeat' (first | exact trivial | exact rfl | assumption | (refine ⟨_, rfl, ?_⟩) | (refine ⟨_, _, rfl, rfl, ?_⟩) | (refine And.intro ?_ ?_) | (refine Or.inl ⟨rfl, ?_⟩) | exact Or.inl rfl | (refine Or.inr ⟨?_, ?_⟩) | (refine fun h => ?_; first | exact h | exact rfl | (cases h; done)) | (simp only [← List.map_drop, ← List.map_take]; exact rfl) | (simp only [List.length_map]; done) | (simp only [List.length_map]; omega) | omega)); first | done | fail) (reftake_pcon e _ (by omega)) ?_
                | refine CallS.pure _ _ _ (by (repeat' (first | exact trivial | exact rfl | assumption | (refine ⟨_, rfl, ?_⟩) | (refine ⟨_, _, rfl, rfl, ?_⟩) | (refine And.intro ?_ ?_) | (refine Or.inl ⟨rfl, ?_⟩) | exact Or.inl rfl | (refine Or.inr ⟨?_, ?_⟩) | (refine fun h => ?_; first | exact h | exact rfl | (cases h; done)) | (simp only [← List.map_drop, ← List.map_take]; exact rfl) | (simp only [List.length_map]; done) | (simp only [List.length_map]; omega) | omega)); first | done | fail) (fits_pcon e _ n (by omega)) ?_
                | refine CallS.pure _ _ _ (by (repeat' (first | exact trivial | exact rfl | assumption | (refine ⟨_, rfl, ?_⟩) | (refine ⟨_, _, rfl, rfl, ?_⟩) | (refine And.intro ?_ ?_) | (refine Or.inl ⟨rfl, ?_⟩) | exact Or.inl rfl | (refine Or.inr ⟨?_, ?_⟩) | (refine fun h => ?_; first | exact h | exact rfl | (cases h; done)) | (simp only [← List.map_drop, ← List.map_take]; exact rfl) | (simp only [List.length_map]; done) | (simp only [List.length_map]; omega) | omega)); first | done | fail) (reffits_pcon e _ n (by omega)) ?_
                | refine CallS.pure _ _ _ (by (repeat' (first | exact trivial | exact rfl | assumption | (refine ⟨_, rfl, ?_⟩) | (refine ⟨_, _, rfl, rfl, ?_⟩) | (refine And.intro ?_ ?_) | (refine Or.inl ⟨rfl, ?_⟩) | exact Or.inl rfl | (refine Or.inr ⟨?_, ?_⟩) | (refine fun h => ?_; first | exact h | exact rfl | (cases h; done)) | (simp only [← List.map_drop, ← List.map_take]; exact rfl) | (simp only [List.length_map]; done) | (simp only [List.length_map]; omega) | omega)); first | done | fail) (sameself_pcon (heardS e n).1 false false (by omega)) ?_
                | refine CallS.pure _ _ _ (by (repeat' (first | exact trivial | exact rfl | assumption | (refine ⟨_, rfl, ?_⟩) | (refine ⟨_, _, rfl, rfl, ?_⟩) | (refine And.intro ?_ ?_) | (refine Or.inl ⟨rfl, ?_⟩) | exact Or.inl rfl | (refine Or.inr ⟨?_, ?_⟩) | (refine fun h => ?_; first | exact h | exact rfl | (cases h; done)) | (simp only [← List.map_drop, ← List.map_take]; exact rfl) | (simp only [List.length_map]; done) | (simp only [List.length_map]; omega) | omega)); first | done | fail) (sameself_pcon (takeS e).1 false false (by omega)) ?_))
  all_goals (try (conv => whnf))
  exact RetP.v (by simp)
set_option maxRecDepth 20000 in
set_option maxHeartbeats 2000000 in
theorem halfTakes_pcon (e : Edge) (m : Msg) (n : Int) (hn : -9223372036854775808 ≤ n ∧ n < 9223372036854775808) (h : e.out.length * 40 ≤ 140737488351232) : PCon Try.prog 6 [e.exf false, .agg m.row, I n] (Bo true) [] := by
  have hl := heardS_len e n
  have hp := pushS_len e m
  refine pcon_of (G := gm) Try.func6 rfl rfl rfl ?_
  rcases Bool.eq_false_or_eq_true e.good with hgd | hgd
  · have hf := good_fit e hgd
    unfold Edge.fit at hf
    by_cases hs : e.seen ≥ 1099511627775
    · repeat' (conv => whnf
               first
               | (refine get_id ?_; refine Get.mk _ rfl ?_)
               | (refine need_id ?_; refine Need.mk (by first | exact eqOk_of rfl | rfl | exact Nat.le_of_ble_eq_true rfl | exact ⟨rfl, Nat.le_of_ble_eq_true rfl⟩ | (simp [maxLen]; done) | decide | (simp [maxLen]; omega) | (simp_all [maxLen]; omega)) ?_)
               | refine Br.t ?_
               | refine Br.f ?_
               | refine Br.pos (by assumption) ?_
               | refine Br.neg (by assumption) ?_
               | refine Br.dpos (by with_reducible rfl) ?_
               | refine Br.dpos (by assumption) ?_
               | refine Br.dneg (by assumption) ?_
               | refine Br.d (fun _ => ?_) (fun _ => ?_)
               | refine Br.n ?_
               | refine Br.mk (fun _ => ?_) (fun _ => ?_)
               | refine NilB.mk (fun b hb => ?_)
               | refine DrawV.mk [] ?_
               | (refine eqk_id ?_; refine EqK.mk _ (by first | exact wrapN (by omega) | exact wrap64 (by omega) (by omega) | (simp only [List.length_map, List.length_append, List.length_cons, List.length_nil, Int.toNat_natCast, Nat.sub_zero, Nat.zero_add, Nat.add_zero, Int.toNat_zero, Int.natCast_zero, Int.toNat_one, List.take_length, List.drop_zero, List.take_zero, List.nil_append, List.append_nil]; rfl) | rfl) ?_)
               | (refine call_id ?_; first
                    | refine CallV.mk _ _ _ (by (repeat' (first | exact trivial | exact rfl | assumption | (refine ⟨_, rfl, ?_⟩) | (refine ⟨_, _, rfl, rfl, ?_⟩) | (refine And.intro ?_ ?_) | (refine Or.inl ⟨rfl, ?_⟩) | exact Or.inl rfl | (refine Or.inr ⟨?_, ?_⟩) | (refine fun h => ?_; first | exact h | exact rfl | (cases h; done)) | (simp only [← List.map_drop, ← List.map_take]; exact rfl) | (simp only [List.length_map]; done) | (simp only [List.length_map]; omega) | omega)); first | done | fail) (wakes_pcon) ?_
                    | refine CallV.mk _ _ _ (by (repeat' (first | exact trivial | exact rfl | assumption | (refine ⟨_, rfl, ?_⟩) | (refine ⟨_, _, rfl, rfl, ?_⟩) | (refine And.intro ?_ ?_) | (refine Or.inl ⟨rfl, ?_⟩) | exact Or.inl rfl | (refine Or.inr ⟨?_, ?_⟩) | (refine fun h => ?_; first | exact h | exact rfl | (cases h; done)) | (simp only [← List.map_drop, ← List.map_take]; exact rfl) | (simp only [List.length_map]; done) | (simp only [List.length_map]; omega) | omega)); first | done | fail) (good_pcon e _ (by omega)) ?_
                    | refine CallV.mk _ _ _ (by (repeat' (first | exact trivial | exact rfl | assumption | (refine ⟨_, rfl, ?_⟩) | (refine ⟨_, _, rfl, rfl, ?_⟩) | (refine And.intro ?_ ?_) | (refine Or.inl ⟨rfl, ?_⟩) | exact Or.inl rfl | (refine Or.inr ⟨?_, ?_⟩) | (refine fun h => ?_; first | exact h | exact rfl | (cases h; done)) | (simp only [← List.map_drop, ← List.map_take]; exact rfl) | (simp only [List.length_map]; done) | (simp only [List.length_map]; omega) | omega)); first | done | fail) (fits_pcon e _ n (by omega)) ?_)
               | (refine calls_id ?_; first
                    | refine CallS.pure _ _ _ (by (repeat' (first | exact trivial | exact rfl | assumption | (refine ⟨_, rfl, ?_⟩) | (refine ⟨_, _, rfl, rfl, ?_⟩) | (refine And.intro ?_ ?_) | (refine Or.inl ⟨rfl, ?_⟩) | exact Or.inl rfl | (refine Or.inr ⟨?_, ?_⟩) | (refine fun h => ?_; first | exact h | exact rfl | (cases h; done)) | (simp only [← List.map_drop, ← List.map_take]; exact rfl) | (simp only [List.length_map]; done) | (simp only [List.length_map]; omega) | omega)); first | done | fail) (wakes_pcon) ?_
                    | refine CallS.pure _ _ _ (by (repeat' (first | exact trivial | exact rfl | assumption | (refine ⟨_, rfl, ?_⟩) | (refine ⟨_, _, rfl, rfl, ?_⟩) | (refine And.intro ?_ ?_) | (refine Or.inl ⟨rfl, ?_⟩) | exact Or.inl rfl | (refine Or.inr ⟨?_, ?_⟩) | (refine fun h => ?_; first | exact h | exact rfl | (cases h; done)) | (simp only [← List.map_drop, ← List.map_take]; exact rfl) | (simp only [List.length_map]; done) | (simp only [List.length_map]; omega) | omega)); first | done | fail) (good_pcon e _ (by omega)) ?_
                    | refine CallS.pure _ _ _ (by (repeat' (first | exact trivial | exact rfl | assumption | (refine ⟨_, rfl, ?_⟩) | (refine ⟨_, _, rfl, rfl, ?_⟩) | (refine And.intro ?_ ?_) | (refine Or.inl ⟨rfl, ?_⟩) | exact Or.inl rfl | (refine Or.inr ⟨?_, ?_⟩) | (refine fun h => ?_; first | exact h | exact rfl | (cases h; done)) | (simp only [← List.map_drop, ← List.map_take]; exact rfl) | (simp only [List.length_map]; done) | (simp only [List.length_map]; omega) | omega)); first | done | fail) (fits_pcon e _ n (by omega)) ?_))
      all_goals (try (conv => whnf))
      all_goals exact RetP.v (by simp_all)
    · have ht := take_pcon e false (by omega)
      have htg := take_good e hgd (by omega)
      obtain ⟨hh1, hh2, hh3, hh4, hh5⟩ := heard_good e n hgd
      have hs1 : e.seen < 1099511627776 := by omega
      have hs2 : e.seen + 1 < 1099511627776 := by omega
      have hs3 : ¬ e.seen = 1099511627776 := by omega
      have hs4 : ¬ e.seen = e.seen + 1 := by omega
      have hpf : (pushS e m).2 = 0 → (pushS e m).1.fits (e.seen + 1) = true := fun h0 => by
        obtain ⟨g1, g2⟩ := push_good e m hgd h0
        simp [Edge.fits, g1, g2, hs1]
      rw [show takeS e = ({ e with seen := e.seen + 1 }, 0) by simp [takeS, hgd, hs3]] at ht
      have hfits : e.fits n = (n == e.seen + 1) := by simp [Edge.fits, hgd, hs1]
      have hf1 : ({ e with seen := e.seen + 1 } : Edge).fits (e.seen + 1) = false := by simp [Edge.fits, hs4]
      have hf2 : ({ e with seen := e.seen + 1 } : Edge).fits (e.seen + 1 + 1) = true := by simp [Edge.fits, htg, hs2]
      have hf3 : (heardS e n).1.fits (e.seen + 1) = true := by simp [Edge.fits, hh1, hh3, hs1]
      have f0 := fits_pcon e false n (by omega)
      rw [hfits] at f0
      have f1 := fits_pcon { e with seen := e.seen + 1 } false (e.seen + 1) (by simp only; omega)
      rw [hf1] at f1
      have f2 := fits_pcon { e with seen := e.seen + 1 } false (e.seen + 1 + 1) (by simp only; omega)
      rw [hf2] at f2
      have f3 := fits_pcon (heardS e n).1 false (e.seen + 1) (by omega)
      rw [hf3] at f3
      repeat' (conv => whnf
               first
               | (refine get_id ?_; refine Get.mk _ rfl ?_)
               | (refine need_id ?_; refine Need.mk (by first | exact eqOk_of rfl | rfl | exact Nat.le_of_ble_eq_true rfl | exact ⟨rfl, Nat.le_of_ble_eq_true rfl⟩ | (simp [maxLen]; done) | decide | (simp [maxLen]; omega) | (simp_all [maxLen]; omega)) ?_)
               | refine Br.t ?_
               | refine Br.f ?_
               | refine Br.pos (by assumption) ?_
               | refine Br.neg (by assumption) ?_
               | refine Br.dpos (by with_reducible rfl) ?_
               | refine Br.dpos (by assumption) ?_
               | refine Br.dneg (by assumption) ?_
               | refine Br.d (fun _ => ?_) (fun _ => ?_)
               | refine Br.n ?_
               | refine Br.mk (fun _ => ?_) (fun _ => ?_)
               | refine NilB.mk (fun b hb => ?_)
               | refine DrawV.mk [] ?_
               | (refine eqk_id ?_; refine EqK.mk _ (by first | exact wrapN (by omega) | exact wrap64 (by omega) (by omega) | (simp only [List.length_map, List.length_append, List.length_cons, List.length_nil, Int.toNat_natCast, Nat.sub_zero, Nat.zero_add, Nat.add_zero, Int.toNat_zero, Int.natCast_zero, Int.toNat_one, List.take_length, List.drop_zero, List.take_zero, List.nil_append, List.append_nil]; rfl) | rfl) ?_)
               | (refine call_id ?_; first
                    | refine CallV.mk _ _ _ (by (repeat' (first | exact trivial | exact rfl | assumption | (refine ⟨_, rfl, ?_⟩) | (refine ⟨_, _, rfl, rfl, ?_⟩) | (refine And.intro ?_ ?_) | (refine Or.inl ⟨rfl, ?_⟩) | exact Or.inl rfl | (refine Or.inr ⟨?_, ?_⟩) | (refine fun h => ?_; first | exact h | exact rfl | (cases h; done)) | (simp only [← List.map_drop, ← List.map_take]; exact rfl) | (simp only [List.length_map]; done) | (simp only [List.length_map]; omega) | omega)); first | done | fail) (wakes_pcon) ?_
                    | refine CallV.mk _ _ _ (by (repeat' (first | exact trivial | exact rfl | assumption | (refine ⟨_, rfl, ?_⟩) | (refine ⟨_, _, rfl, rfl, ?_⟩) | (refine And.intro ?_ ?_) | (refine Or.inl ⟨rfl, ?_⟩) | exact Or.inl rfl | (refine Or.inr ⟨?_, ?_⟩) | (refine fun h => ?_; first | exact h | exact rfl | (cases h; done)) | (simp only [← List.map_drop, ← List.map_take]; exact rfl) | (simp only [List.length_map]; done) | (simp only [List.length_map]; omega) | omega)); first | done | fail) (good_pcon e _ (by omega)) ?_
                    | refine CallV.mk _ _ _ (by (repeat' (first | exact trivial | exact rfl | assumption | (refine ⟨_, rfl, ?_⟩) | (refine ⟨_, _, rfl, rfl, ?_⟩) | (refine And.intro ?_ ?_) | (refine Or.inl ⟨rfl, ?_⟩) | exact Or.inl rfl | (refine Or.inr ⟨?_, ?_⟩) | (refine fun h => ?_; first | exact h | exact rfl | (cases h; done)) | (simp only [← List.map_drop, ← List.map_take]; exact rfl) | (simp only [List.length_map]; done) | (simp only [List.length_map]; omega) | omega)); first | done | fail) (f0) ?_
                    | refine CallV.mk _ _ _ (by (repeat' (first | exact trivial | exact rfl | assumption | (refine ⟨_, rfl, ?_⟩) | (refine ⟨_, _, rfl, rfl, ?_⟩) | (refine And.intro ?_ ?_) | (refine Or.inl ⟨rfl, ?_⟩) | exact Or.inl rfl | (refine Or.inr ⟨?_, ?_⟩) | (refine fun h => ?_; first | exact h | exact rfl | (cases h; done)) | (simp only [← List.map_drop, ← List.map_take]; exact rfl) | (simp only [List.length_map]; done) | (simp only [List.length_map]; omega) | omega)); first | done | fail) (f1) ?_
                    | refine CallV.mk _ _ _ (by (repeat' (first | exact trivial | exact rfl | assumption | (refine ⟨_, rfl, ?_⟩) | (refine ⟨_, _, rfl, rfl, ?_⟩) | (refine And.intro ?_ ?_) | (refine Or.inl ⟨rfl, ?_⟩) | exact Or.inl rfl | (refine Or.inr ⟨?_, ?_⟩) | (refine fun h => ?_; first | exact h | exact rfl | (cases h; done)) | (simp only [← List.map_drop, ← List.map_take]; exact rfl) | (simp only [List.length_map]; done) | (simp only [List.length_map]; omega) | omega)); first | done | fail) (f2) ?_
                    | refine CallV.mk _ _ _ (by (repeat' (first | exact trivial | exact rfl | assumption | (refine ⟨_, rfl, ?_⟩) | (refine ⟨_, _, rfl, rfl, ?_⟩) | (refine And.intro ?_ ?_) | (refine Or.inl ⟨rfl, ?_⟩) | exact Or.inl rfl | (refine Or.inr ⟨?_, ?_⟩) | (refine fun h => ?_; first | exact h | exact rfl | (cases h; done)) | (simp only [← List.map_drop, ← List.map_take]; exact rfl) | (simp only [List.length_map]; done) | (simp only [List.length_map]; omega) | omega)); first | done | fail) (ht) ?_
                    | refine CallV.mk _ _ _ (by (repeat' (first | exact trivial | exact rfl | assumption | (refine ⟨_, rfl, ?_⟩) | (refine ⟨_, _, rfl, rfl, ?_⟩) | (refine And.intro ?_ ?_) | (refine Or.inl ⟨rfl, ?_⟩) | exact Or.inl rfl | (refine Or.inr ⟨?_, ?_⟩) | (refine fun h => ?_; first | exact h | exact rfl | (cases h; done)) | (simp only [← List.map_drop, ← List.map_take]; exact rfl) | (simp only [List.length_map]; done) | (simp only [List.length_map]; omega) | omega)); first | done | fail) (push_pcon e _ m (by omega)) ?_
                    | refine CallV.mk _ _ _ (by (repeat' (first | exact trivial | exact rfl | assumption | (refine ⟨_, rfl, ?_⟩) | (refine ⟨_, _, rfl, rfl, ?_⟩) | (refine And.intro ?_ ?_) | (refine Or.inl ⟨rfl, ?_⟩) | exact Or.inl rfl | (refine Or.inr ⟨?_, ?_⟩) | (refine fun h => ?_; first | exact h | exact rfl | (cases h; done)) | (simp only [← List.map_drop, ← List.map_take]; exact rfl) | (simp only [List.length_map]; done) | (simp only [List.length_map]; omega) | omega)); first | done | fail) (heard_pcon e _ n hn (by omega)) ?_
                    | refine CallV.mk _ _ _ (by (repeat' (first | exact trivial | exact rfl | assumption | (refine ⟨_, rfl, ?_⟩) | (refine ⟨_, _, rfl, rfl, ?_⟩) | (refine And.intro ?_ ?_) | (refine Or.inl ⟨rfl, ?_⟩) | exact Or.inl rfl | (refine Or.inr ⟨?_, ?_⟩) | (refine fun h => ?_; first | exact h | exact rfl | (cases h; done)) | (simp only [← List.map_drop, ← List.map_take]; exact rfl) | (simp only [List.length_map]; done) | (simp only [List.length_map]; omega) | omega)); first | done | fail) (fits_pcon (pushS e m).1 _ (e.seen + 1) (by omega)) ?_
                    | refine CallV.mk _ _ _ (by (repeat' (first | exact trivial | exact rfl | assumption | (refine ⟨_, rfl, ?_⟩) | (refine ⟨_, _, rfl, rfl, ?_⟩) | (refine And.intro ?_ ?_) | (refine Or.inl ⟨rfl, ?_⟩) | exact Or.inl rfl | (refine Or.inr ⟨?_, ?_⟩) | (refine fun h => ?_; first | exact h | exact rfl | (cases h; done)) | (simp only [← List.map_drop, ← List.map_take]; exact rfl) | (simp only [List.length_map]; done) | (simp only [List.length_map]; omega) | omega)); first | done | fail) (f3) ?_)
               | (refine calls_id ?_; first
                    | refine CallS.pure _ _ _ (by (repeat' (first | exact trivial | exact rfl | assumption | (refine ⟨_, rfl, ?_⟩) | (refine ⟨_, _, rfl, rfl, ?_⟩) | (refine And.intro ?_ ?_) | (refine Or.inl ⟨rfl, ?_⟩) | exact Or.inl rfl | (refine Or.inr ⟨?_, ?_⟩) | (refine fun h => ?_; first | exact h | exact rfl | (cases h; done)) | (simp only [← List.map_drop, ← List.map_take]; exact rfl) | (simp only [List.length_map]; done) | (simp only [List.length_map]; omega) | omega)); first | done | fail) (wakes_pcon) ?_
                    | refine CallS.pure _ _ _ (by (repeat' (first | exact trivial | exact rfl | assumption | (refine ⟨_, rfl, ?_⟩) | (refine ⟨_, _, rfl, rfl, ?_⟩) | (refine And.intro ?_ ?_) | (refine Or.inl ⟨rfl, ?_⟩) | exact Or.inl rfl | (refine Or.inr ⟨?_, ?_⟩) | (refine fun h => ?_; first | exact h | exact rfl | (cases h; done)) | (simp only [← List.map_drop, ← List.map_take]; exact rfl) | (simp only [List.length_map]; done) | (simp only [List.length_map]; omega) | omega)); first | done | fail) (good_pcon e _ (by omega)) ?_
                    | refine CallS.pure _ _ _ (by (repeat' (first | exact trivial | exact rfl | assumption | (refine ⟨_, rfl, ?_⟩) | (refine ⟨_, _, rfl, rfl, ?_⟩) | (refine And.intro ?_ ?_) | (refine Or.inl ⟨rfl, ?_⟩) | exact Or.inl rfl | (refine Or.inr ⟨?_, ?_⟩) | (refine fun h => ?_; first | exact h | exact rfl | (cases h; done)) | (simp only [← List.map_drop, ← List.map_take]; exact rfl) | (simp only [List.length_map]; done) | (simp only [List.length_map]; omega) | omega)); first | done | fail) (f0) ?_
                    | refine CallS.pure _ _ _ (by (repeat' (first | exact trivial | exact rfl | assumption | (refine ⟨_, rfl, ?_⟩) | (refine ⟨_, _, rfl, rfl, ?_⟩) | (refine And.intro ?_ ?_) | (refine Or.inl ⟨rfl, ?_⟩) | exact Or.inl rfl | (refine Or.inr ⟨?_, ?_⟩) | (refine fun h => ?_; first | exact h | exact rfl | (cases h; done)) | (simp only [← List.map_drop, ← List.map_take]; exact rfl) | (simp only [List.length_map]; done) | (simp only [List.length_map]; omega) | omega)); first | done | fail) (f1) ?_
                    | refine CallS.pure _ _ _ (by (repeat' (first | exact trivial | exact rfl | assumption | (refine ⟨_, rfl, ?_⟩) | (refine ⟨_, _, rfl, rfl, ?_⟩) | (refine And.intro ?_ ?_) | (refine Or.inl ⟨rfl, ?_⟩) | exact Or.inl rfl | (refine Or.inr ⟨?_, ?_⟩) | (refine fun h => ?_; first | exact h | exact rfl | (cases h; done)) | (simp only [← List.map_drop, ← List.map_take]; exact rfl) | (simp only [List.length_map]; done) | (simp only [List.length_map]; omega) | omega)); first | done | fail) (f2) ?_
                    | refine CallS.pure _ _ _ (by (repeat' (first | exact trivial | exact rfl | assumption | (refine ⟨_, rfl, ?_⟩) | (refine ⟨_, _, rfl, rfl, ?_⟩) | (refine And.intro ?_ ?_) | (refine Or.inl ⟨rfl, ?_⟩) | exact Or.inl rfl | (refine Or.inr ⟨?_, ?_⟩) | (refine fun h => ?_; first | exact h | exact rfl | (cases h; done)) | (simp only [← List.map_drop, ← List.map_take]; exact rfl) | (simp only [List.length_map]; done) | (simp only [List.length_map]; omega) | omega)); first | done | fail) (ht) ?_
                    | refine CallS.pure _ _ _ (by (repeat' (first | exact trivial | exact rfl | assumption | (refine ⟨_, rfl, ?_⟩) | (refine ⟨_, _, rfl, rfl, ?_⟩) | (refine And.intro ?_ ?_) | (refine Or.inl ⟨rfl, ?_⟩) | exact Or.inl rfl | (refine Or.inr ⟨?_, ?_⟩) | (refine fun h => ?_; first | exact h | exact rfl | (cases h; done)) | (simp only [← List.map_drop, ← List.map_take]; exact rfl) | (simp only [List.length_map]; done) | (simp only [List.length_map]; omega) | omega)); first | done | fail) (push_pcon e _ m (by omega)) ?_
                    | refine CallS.pure _ _ _ (by (repeat' (first | exact trivial | exact rfl | assumption | (refine ⟨_, rfl, ?_⟩) | (refine ⟨_, _, rfl, rfl, ?_⟩) | (refine And.intro ?_ ?_) | (refine Or.inl ⟨rfl, ?_⟩) | exact Or.inl rfl | (refine Or.inr ⟨?_, ?_⟩) | (refine fun h => ?_; first | exact h | exact rfl | (cases h; done)) | (simp only [← List.map_drop, ← List.map_take]; exact rfl) | (simp only [List.length_map]; done) | (simp only [List.length_map]; omega) | omega)); first | done | fail) (heard_pcon e _ n hn (by omega)) ?_
                    | refine CallS.pure _ _ _ (by (repeat' (first | exact trivial | exact rfl | assumption | (refine ⟨_, rfl, ?_⟩) | (refine ⟨_, _, rfl, rfl, ?_⟩) | (refine And.intro ?_ ?_) | (refine Or.inl ⟨rfl, ?_⟩) | exact Or.inl rfl | (refine Or.inr ⟨?_, ?_⟩) | (refine fun h => ?_; first | exact h | exact rfl | (cases h; done)) | (simp only [← List.map_drop, ← List.map_take]; exact rfl) | (simp only [List.length_map]; done) | (simp only [List.length_map]; omega) | omega)); first | done | fail) (fits_pcon (pushS e m).1 _ (e.seen + 1) (by omega)) ?_
                    | refine CallS.pure _ _ _ (by (repeat' (first | exact trivial | exact rfl | assumption | (refine ⟨_, rfl, ?_⟩) | (refine ⟨_, _, rfl, rfl, ?_⟩) | (refine And.intro ?_ ?_) | (refine Or.inl ⟨rfl, ?_⟩) | exact Or.inl rfl | (refine Or.inr ⟨?_, ?_⟩) | (refine fun h => ?_; first | exact h | exact rfl | (cases h; done)) | (simp only [← List.map_drop, ← List.map_take]; exact rfl) | (simp only [List.length_map]; done) | (simp only [List.length_map]; omega) | omega)); first | done | fail) (f3) ?_))
      all_goals (try (conv => whnf))
      all_goals exact RetP.v (by simp_all)
  · repeat' (conv => whnf
             first
             | (refine get_id ?_; refine Get.mk _ rfl ?_)
             | (refine need_id ?_; refine Need.mk (by first | exact eqOk_of rfl | rfl | exact Nat.le_of_ble_eq_true rfl | exact ⟨rfl, Nat.le_of_ble_eq_true rfl⟩ | (simp [maxLen]; done) | decide | (simp [maxLen]; omega) | (simp_all [maxLen]; omega)) ?_)
             | refine Br.t ?_
             | refine Br.f ?_
             | refine Br.pos (by assumption) ?_
             | refine Br.neg (by assumption) ?_
             | refine Br.dpos (by with_reducible rfl) ?_
             | refine Br.dpos (by assumption) ?_
             | refine Br.dneg (by assumption) ?_
             | refine Br.d (fun _ => ?_) (fun _ => ?_)
             | refine Br.n ?_
             | refine Br.mk (fun _ => ?_) (fun _ => ?_)
             | refine NilB.mk (fun b hb => ?_)
             | refine DrawV.mk [] ?_
             | (refine eqk_id ?_; refine EqK.mk _ (by first | exact wrapN (by omega) | exact wrap64 (by omega) (by omega) | (simp only [List.length_map, List.length_append, List.length_cons, List.length_nil, Int.toNat_natCast, Nat.sub_zero, Nat.zero_add, Nat.add_zero, Int.toNat_zero, Int.natCast_zero, Int.toNat_one, List.take_length, List.drop_zero, List.take_zero, List.nil_append, List.append_nil]; rfl) | rfl) ?_)
             | (refine call_id ?_; first
                  | refine CallV.mk _ _ _ (by (repeat' (first | exact trivial | exact rfl | assumption | (refine ⟨_, rfl, ?_⟩) | (refine ⟨_, _, rfl, rfl, ?_⟩) | (refine And.intro ?_ ?_) | (refine Or.inl ⟨rfl, ?_⟩) | exact Or.inl rfl | (refine Or.inr ⟨?_, ?_⟩) | (refine fun h => ?_; first | exact h | exact rfl | (cases h; done)) | (simp only [← List.map_drop, ← List.map_take]; exact rfl) | (simp only [List.length_map]; done) | (simp only [List.length_map]; omega) | omega)); first | done | fail) (wakes_pcon) ?_
                  | refine CallV.mk _ _ _ (by (repeat' (first | exact trivial | exact rfl | assumption | (refine ⟨_, rfl, ?_⟩) | (refine ⟨_, _, rfl, rfl, ?_⟩) | (refine And.intro ?_ ?_) | (refine Or.inl ⟨rfl, ?_⟩) | exact Or.inl rfl | (refine Or.inr ⟨?_, ?_⟩) | (refine fun h => ?_; first | exact h | exact rfl | (cases h; done)) | (simp only [← List.map_drop, ← List.map_take]; exact rfl) | (simp only [List.length_map]; done) | (simp only [List.length_map]; omega) | omega)); first | done | fail) (good_pcon e _ (by omega)) ?_
                  | refine CallV.mk _ _ _ (by (repeat' (first | exact trivial | exact rfl | assumption | (refine ⟨_, rfl, ?_⟩) | (refine ⟨_, _, rfl, rfl, ?_⟩) | (refine And.intro ?_ ?_) | (refine Or.inl ⟨rfl, ?_⟩) | exact Or.inl rfl | (refine Or.inr ⟨?_, ?_⟩) | (refine fun h => ?_; first | exact h | exact rfl | (cases h; done)) | (simp only [← List.map_drop, ← List.map_take]; exact rfl) | (simp only [List.length_map]; done) | (simp only [List.length_map]; omega) | omega)); first | done | fail) (fits_pcon e _ n (by omega)) ?_)
             | (refine calls_id ?_; first
                  | refine CallS.pure _ _ _ (by (repeat' (first | exact trivial | exact rfl | assumption | (refine ⟨_, rfl, ?_⟩) | (refine ⟨_, _, rfl, rfl, ?_⟩) | (refine And.intro ?_ ?_) | (refine Or.inl ⟨rfl, ?_⟩) | exact Or.inl rfl | (refine Or.inr ⟨?_, ?_⟩) | (refine fun h => ?_; first | exact h | exact rfl | (cases h; done)) | (simp only [← List.map_drop, ← List.map_take]; exact rfl) | (simp only [List.length_map]; done) | (simp only [List.length_map]; omega) | omega)); first | done | fail) (wakes_pcon) ?_
                  | refine CallS.pure _ _ _ (by (repeat' (first | exact trivial | exact rfl | assumption | (refine ⟨_, rfl, ?_⟩) | (refine ⟨_, _, rfl, rfl, ?_⟩) | (refine And.intro ?_ ?_) | (refine Or.inl ⟨rfl, ?_⟩) | exact Or.inl rfl | (refine Or.inr ⟨?_, ?_⟩) | (refine fun h => ?_; first | exact h | exact rfl | (cases h; done)) | (simp only [← List.map_drop, ← List.map_take]; exact rfl) | (simp only [List.length_map]; done) | (simp only [List.length_map]; omega) | omega)); first | done | fail) (good_pcon e _ (by omega)) ?_
                  | refine CallS.pure _ _ _ (by (repeat' (first | exact trivial | exact rfl | assumption | (refine ⟨_, rfl, ?_⟩) | (refine ⟨_, _, rfl, rfl, ?_⟩) | (refine And.intro ?_ ?_) | (refine Or.inl ⟨rfl, ?_⟩) | exact Or.inl rfl | (refine Or.inr ⟨?_, ?_⟩) | (refine fun h => ?_; first | exact h | exact rfl | (cases h; done)) | (simp only [← List.map_drop, ← List.map_take]; exact rfl) | (simp only [List.length_map]; done) | (simp only [List.length_map]; omega) | omega)); first | done | fail) (fits_pcon e _ n (by omega)) ?_))
    all_goals (try (conv => whnf))
    all_goals exact RetP.v (by simp_all [Edge.fits])
end Go.Proofs.Ytammndlghfknbaa
