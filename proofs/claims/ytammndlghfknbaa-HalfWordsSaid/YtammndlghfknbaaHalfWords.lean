/- The law HalfWords: its walk. -/
import Derived.Test.YtammndlghfknbaaHalfF
set_option linter.unusedSimpArgs false
set_option linter.unusedVariables false
namespace Go.Proofs.Ytammndlghfknbaa
open Go Go.Eng Go.RowKit

theorem heardS_lo (e : Edge) (n : Int) (h : e.good = true) (hn : n < e.base ∨ n > e.base + e.out.length) : heardS e n = (e, 0) := by
  unfold heardS
  rw [if_neg (by simp [h]), if_neg (by omega)]
theorem heardS_hi (e : Edge) (n : Int) (h : e.good = true) (h1 : e.base ≤ n) (h2 : n ≤ e.base + e.out.length) : heardS e n = ({ e with base := n, out := e.out.drop (n - e.base).toNat }, 0) := by
  unfold heardS
  rw [if_neg (by simp [h])]
  split
  · rfl
  · have : n = e.base := by omega
    subst this
    simp
theorem heardS_again (e : Edge) (n : Int) (h : e.good = true) : heardS (heardS e n).1 n = ((heardS e n).1, 0) := by
  have hg := (heard_good e n h).1
  by_cases h1 : e.base ≤ n ∧ n ≤ e.base + e.out.length
  · rw [heardS_hi e n h h1.1 h1.2] at *
    simp only at *
    rw [heardS_hi _ n hg (by simp) (by simp; omega)]
    simp
  · rw [heardS_lo e n h (by omega)] at *
    exact heardS_lo e n h (by omega)
/-- Word of what is among what was sent. -/
def Edge.cut (e : Edge) (a : Int) : Edge := { e with base := a, out := e.out.drop (a - e.base).toNat }
theorem cut_cut (e : Edge) (a b : Int) (h1 : e.base ≤ a) (h2 : a ≤ b) : (e.cut a).cut b = e.cut b := by
  unfold Edge.cut
  simp only [List.drop_drop]
  congr 2
  omega
abbrev edgeZ (e : Edge) : Sv := .tup [e.own, I 0]
theorem heard_lo (e : Edge) (a : Int) (ha : -9223372036854775808 ≤ a ∧ a < 9223372036854775808) (h : e.out.length ≤ 1024) (hgd : e.good = true) (hlo : a < e.base ∨ a > e.base + e.out.length) : PCon Try.prog 21 [e.exf false, I a] (edgeZ e) [msgB e.out] := by
  have h1 := heard_pcon e false a ha (by omega)
  rwa [heardS_lo e a hgd hlo] at h1
theorem heard_hi (e c : Edge) (a : Int) (ha : -9223372036854775808 ≤ a ∧ a < 9223372036854775808) (h : e.out.length ≤ 1024) (hgd : e.good = true) (h1 : e.base ≤ a) (h2 : a ≤ e.base + e.out.length) (hc : e.cut a = c) : PCon Try.prog 21 [e.exf false, I a] (edgeZ c) [msgB c.out] := by
  have h3 := heard_pcon e false a ha (by omega)
  rw [heardS_hi e a hgd h1 h2] at h3
  subst hc
  exact h3
set_option maxRecDepth 20000 in
set_option maxHeartbeats 1000000 in
theorem halfWords_lo (e : Edge) (a b : Int) (ha : -9223372036854775808 ≤ a ∧ a < 9223372036854775808) (hgd : e.good = true) (hlo : a < e.base ∨ a > e.base + e.out.length) : PCon Try.prog 4 [e.exf false, I a, I b] (Bo true) [] := by
  refine pcon_of (G := gm) Try.func4 rfl rfl rfl ?_
  have hf := good_fit e hgd
  unfold Edge.fit at hf
  have h1 := heard_lo e a ha (by omega) hgd hlo
  have h2 := good_pcon e false (by omega)
  rw [hgd] at h2
  repeat' (conv => whnf
           first
           | (refine get_id ?_; refine Get.mk _ rfl ?_)
           | (refine need_id ?_; refine Need.mk (by first | exact eqOk_of rfl | rfl | exact Nat.le_of_ble_eq_true rfl | exact ⟨rfl, Nat.le_of_ble_eq_true rfl⟩ | (simp [maxLen]; done) | decide | (simp [maxLen]; omega) | (simp_all [maxLen]; omega)) ?_)
           | refine Br.t ?_
           | refine Br.f ?_
           | refine Br.pos (by assumption) ?_
           | refine Br.neg (by assumption) ?_
           | refine Br.dpos (by with_reducible rfl) ?_
           | refine Br.dpos (by assumption) ?_
           | refine Br.dneg (by assumption) ?_
           | refine Br.d (fun _ => ?_) (fun _ => ?_)
           | refine Br.n ?_
           | refine Br.mk (fun _ => ?_) (fun _ => ?_)
           | refine NilB.mk (fun b hb => ?_)
           | refine DrawV.mk [] ?_
           | (refine eqk_id ?_; refine EqK.mk _ (by first | exact wrapN (by omega) | exact wrap64 (by omega) (by omega) | (simp only [List.length_map, List.length_append, List.length_cons, List.length_nil, Int.toNat_natCast, Nat.sub_zero, Nat.zero_add, Nat.add_zero, Int.toNat_zero, Int.natCast_zero, Int.toNat_one, List.take_length, List.drop_zero, List.take_zero, List.nil_append, List.append_nil]; rfl) | rfl) ?_)
           | (refine call_id ?_; first
                | refine CallV.mk _ _ _ (by (repeat' (first | exact trivial | exact rfl | assumption | (refine ⟨_, rfl, ?_⟩) | (refine ⟨_, _, rfl, rfl, ?_⟩) | (refine And.intro ?_ ?_) | (refine Or.inl ⟨rfl, ?_⟩) | exact Or.inl rfl | (refine Or.inr ⟨?_, ?_⟩) | (refine fun h => ?_; first | exact h | exact rfl | (cases h; done)) | (simp only [← List.map_drop, ← List.map_take]; exact rfl) | (simp only [List.length_map]; done) | (simp only [List.length_map]; omega) | omega)); first | done | fail) (wakes_pcon) ?_
                | refine CallV.mk _ _ _ (by (repeat' (first | exact trivial | exact rfl | assumption | (refine ⟨_, rfl, ?_⟩) | (refine ⟨_, _, rfl, rfl, ?_⟩) | (refine And.intro ?_ ?_) | (refine Or.inl ⟨rfl, ?_⟩) | exact Or.inl rfl | (refine Or.inr ⟨?_, ?_⟩) | (refine fun h => ?_; first | exact h | exact rfl | (cases h; done)) | (simp only [← List.map_drop, ← List.map_take]; exact rfl) | (simp only [List.length_map]; done) | (simp only [List.length_map]; omega) | omega)); first | done | fail) (h2) ?_
                | refine CallV.mk _ _ _ (by (repeat' (first | exact trivial | exact rfl | assumption | (refine ⟨_, rfl, ?_⟩) | (refine ⟨_, _, rfl, rfl, ?_⟩) | (refine And.intro ?_ ?_) | (refine Or.inl ⟨rfl, ?_⟩) | exact Or.inl rfl | (refine Or.inr ⟨?_, ?_⟩) | (refine fun h => ?_; first | exact h | exact rfl | (cases h; done)) | (simp only [← List.map_drop, ← List.map_take]; exact rfl) | (simp only [List.length_map]; done) | (simp only [List.length_map]; omega) | omega)); first | done | fail) (h1) ?_
                | refine CallV.mk _ _ _ (by (repeat' (first | exact trivial | exact rfl | assumption | (refine ⟨_, rfl, ?_⟩) | (refine ⟨_, _, rfl, rfl, ?_⟩) | (refine And.intro ?_ ?_) | (refine Or.inl ⟨rfl, ?_⟩) | exact Or.inl rfl | (refine Or.inr ⟨?_, ?_⟩) | (refine fun h => ?_; first | exact h | exact rfl | (cases h; done)) | (simp only [← List.map_drop, ← List.map_take]; exact rfl) | (simp only [List.length_map]; done) | (simp only [List.length_map]; omega) | omega)); first | done | fail) (sameself_pcon e _ _ (by omega)) ?_)
           | (refine calls_id ?_; first
                | refine CallS.pure _ _ _ (by (repeat' (first | exact trivial | exact rfl | assumption | (refine ⟨_, rfl, ?_⟩) | (refine ⟨_, _, rfl, rfl, ?_⟩) | (refine And.intro ?_ ?_) | (refine Or.inl ⟨rfl, ?_⟩) | exact Or.inl rfl | (refine Or.inr ⟨?_, ?_⟩) | (refine fun h => ?_; first | exact h | exact rfl | (cases h; done)) | (simp only [← List.map_drop, ← List.map_take]; exact rfl) | (simp only [List.length_map]; done) | (simp only [List.length_map]; omega) | omega)); first | done | fail) (wakes_pcon) ?_
                | refine CallS.pure _ _ _ (by (repeat' (first | exact trivial | exact rfl | assumption | (refine ⟨_, rfl, ?_⟩) | (refine ⟨_, _, rfl, rfl, ?_⟩) | (refine And.intro ?_ ?_) | (refine Or.inl ⟨rfl, ?_⟩) | exact Or.inl rfl | (refine Or.inr ⟨?_, ?_⟩) | (refine fun h => ?_; first | exact h | exact rfl | (cases h; done)) | (simp only [← List.map_drop, ← List.map_take]; exact rfl) | (simp only [List.length_map]; done) | (simp only [List.length_map]; omega) | omega)); first | done | fail) (h2) ?_
                | refine CallS.pure _ _ _ (by (repeat' (first | exact trivial | exact rfl | assumption | (refine ⟨_, rfl, ?_⟩) | (refine ⟨_, _, rfl, rfl, ?_⟩) | (refine And.intro ?_ ?_) | (refine Or.inl ⟨rfl, ?_⟩) | exact Or.inl rfl | (refine Or.inr ⟨?_, ?_⟩) | (refine fun h => ?_; first | exact h | exact rfl | (cases h; done)) | (simp only [← List.map_drop, ← List.map_take]; exact rfl) | (simp only [List.length_map]; done) | (simp only [List.length_map]; omega) | omega)); first | done | fail) (h1) ?_
                | refine CallS.pure _ _ _ (by (repeat' (first | exact trivial | exact rfl | assumption | (refine ⟨_, rfl, ?_⟩) | (refine ⟨_, _, rfl, rfl, ?_⟩) | (refine And.intro ?_ ?_) | (refine Or.inl ⟨rfl, ?_⟩) | exact Or.inl rfl | (refine Or.inr ⟨?_, ?_⟩) | (refine fun h => ?_; first | exact h | exact rfl | (cases h; done)) | (simp only [← List.map_drop, ← List.map_take]; exact rfl) | (simp only [List.length_map]; done) | (simp only [List.length_map]; omega) | omega)); first | done | fail) (sameself_pcon e _ _ (by omega)) ?_))
  all_goals (try (conv => whnf))
  all_goals first | exact RetP.v rfl | (exfalso; omega)
set_option maxRecDepth 20000 in
set_option maxHeartbeats 1000000 in
theorem halfWords_mid (e c : Edge) (a b : Int) (hb : -9223372036854775808 ≤ b ∧ b < 9223372036854775808) (hf : e.fit) (h2 : PCon Try.prog 18 [e.exf false] (Bo true) []) (h1 : PCon Try.prog 21 [e.exf false, I a] (edgeZ c) [msgB c.out]) (h3 : PCon Try.prog 21 [c.exf false, I a] (edgeZ c) [msgB c.out])
    (h4 : PCon Try.prog 18 [c.exf false] (Bo true) []) (hc1 : c.base = a) (hc2 : c.seen = e.seen) (hc3 : c.base + c.out.length = e.base + e.out.length) (hlo : e.base ≤ a) (hhi : a ≤ e.base + e.out.length) (hbb : b < a ∨ b > e.base + e.out.length) : PCon Try.prog 4 [e.exf false, I a, I b] (Bo true) [] := by
  refine pcon_of (G := gm) Try.func4 rfl rfl rfl ?_
  unfold Edge.fit at hf
  repeat' (conv => whnf
           first
           | (refine get_id ?_; refine Get.mk _ rfl ?_)
           | (refine need_id ?_; refine Need.mk (by first | exact eqOk_of rfl | rfl | exact Nat.le_of_ble_eq_true rfl | exact ⟨rfl, Nat.le_of_ble_eq_true rfl⟩ | (simp [maxLen]; done) | decide | (simp [maxLen]; omega) | (simp_all [maxLen]; omega)) ?_)
           | refine Br.t ?_
           | refine Br.f ?_
           | refine Br.pos (by assumption) ?_
           | refine Br.neg (by assumption) ?_
           | refine Br.dpos (by with_reducible rfl) ?_
           | refine Br.dpos (by assumption) ?_
           | refine Br.dneg (by assumption) ?_
           | refine Br.d (fun _ => ?_) (fun _ => ?_)
           | refine Br.n ?_
           | refine Br.mk (fun _ => ?_) (fun _ => ?_)
           | refine NilB.mk (fun b hb => ?_)
           | refine DrawV.mk [] ?_
           | (refine eqk_id ?_; refine EqK.mk _ (by first | exact wrapN (by omega) | exact wrap64 (by omega) (by omega) | (simp only [List.length_map, List.length_append, List.length_cons, List.length_nil, Int.toNat_natCast, Nat.sub_zero, Nat.zero_add, Nat.add_zero, Int.toNat_zero, Int.natCast_zero, Int.toNat_one, List.take_length, List.drop_zero, List.take_zero, List.nil_append, List.append_nil]; rfl) | rfl) ?_)
           | (refine call_id ?_; first
                | refine CallV.mk _ _ _ (by (repeat' (first | exact trivial | exact rfl | assumption | (refine ⟨_, rfl, ?_⟩) | (refine ⟨_, _, rfl, rfl, ?_⟩) | (refine And.intro ?_ ?_) | (refine Or.inl ⟨rfl, ?_⟩) | exact Or.inl rfl | (refine Or.inr ⟨?_, ?_⟩) | (refine fun h => ?_; first | exact h | exact rfl | (cases h; done)) | (simp only [← List.map_drop, ← List.map_take]; exact rfl) | (simp only [List.length_map]; done) | (simp only [List.length_map]; omega) | omega)); first | done | fail) (wakes_pcon) ?_
                | refine CallV.mk _ _ _ (by (repeat' (first | exact trivial | exact rfl | assumption | (refine ⟨_, rfl, ?_⟩) | (refine ⟨_, _, rfl, rfl, ?_⟩) | (refine And.intro ?_ ?_) | (refine Or.inl ⟨rfl, ?_⟩) | exact Or.inl rfl | (refine Or.inr ⟨?_, ?_⟩) | (refine fun h => ?_; first | exact h | exact rfl | (cases h; done)) | (simp only [← List.map_drop, ← List.map_take]; exact rfl) | (simp only [List.length_map]; done) | (simp only [List.length_map]; omega) | omega)); first | done | fail) (h2) ?_
                | refine CallV.mk _ _ _ (by (repeat' (first | exact trivial | exact rfl | assumption | (refine ⟨_, rfl, ?_⟩) | (refine ⟨_, _, rfl, rfl, ?_⟩) | (refine And.intro ?_ ?_) | (refine Or.inl ⟨rfl, ?_⟩) | exact Or.inl rfl | (refine Or.inr ⟨?_, ?_⟩) | (refine fun h => ?_; first | exact h | exact rfl | (cases h; done)) | (simp only [← List.map_drop, ← List.map_take]; exact rfl) | (simp only [List.length_map]; done) | (simp only [List.length_map]; omega) | omega)); first | done | fail) (h1) ?_
                | refine CallV.mk _ _ _ (by (repeat' (first | exact trivial | exact rfl | assumption | (refine ⟨_, rfl, ?_⟩) | (refine ⟨_, _, rfl, rfl, ?_⟩) | (refine And.intro ?_ ?_) | (refine Or.inl ⟨rfl, ?_⟩) | exact Or.inl rfl | (refine Or.inr ⟨?_, ?_⟩) | (refine fun h => ?_; first | exact h | exact rfl | (cases h; done)) | (simp only [← List.map_drop, ← List.map_take]; exact rfl) | (simp only [List.length_map]; done) | (simp only [List.length_map]; omega) | omega)); first | done | fail) (h3) ?_
                | refine CallV.mk _ _ _ (by (repeat' (first | exact trivial | exact rfl | assumption | (refine ⟨_, rfl, ?_⟩) | (refine ⟨_, _, rfl, rfl, ?_⟩) | (refine And.intro ?_ ?_) | (refine Or.inl ⟨rfl, ?_⟩) | exact Or.inl rfl | (refine Or.inr ⟨?_, ?_⟩) | (refine fun h => ?_; first | exact h | exact rfl | (cases h; done)) | (simp only [← List.map_drop, ← List.map_take]; exact rfl) | (simp only [List.length_map]; done) | (simp only [List.length_map]; omega) | omega)); first | done | fail) (h4) ?_
                | refine CallV.mk _ _ _ (by (repeat' (first | exact trivial | exact rfl | assumption | (refine ⟨_, rfl, ?_⟩) | (refine ⟨_, _, rfl, rfl, ?_⟩) | (refine And.intro ?_ ?_) | (refine Or.inl ⟨rfl, ?_⟩) | exact Or.inl rfl | (refine Or.inr ⟨?_, ?_⟩) | (refine fun h => ?_; first | exact h | exact rfl | (cases h; done)) | (simp only [← List.map_drop, ← List.map_take]; exact rfl) | (simp only [List.length_map]; done) | (simp only [List.length_map]; omega) | omega)); first | done | fail) (sameself_pcon c _ _ (by omega)) ?_)
           | (refine calls_id ?_; first
                | refine CallS.pure _ _ _ (by (repeat' (first | exact trivial | exact rfl | assumption | (refine ⟨_, rfl, ?_⟩) | (refine ⟨_, _, rfl, rfl, ?_⟩) | (refine And.intro ?_ ?_) | (refine Or.inl ⟨rfl, ?_⟩) | exact Or.inl rfl | (refine Or.inr ⟨?_, ?_⟩) | (refine fun h => ?_; first | exact h | exact rfl | (cases h; done)) | (simp only [← List.map_drop, ← List.map_take]; exact rfl) | (simp only [List.length_map]; done) | (simp only [List.length_map]; omega) | omega)); first | done | fail) (wakes_pcon) ?_
                | refine CallS.pure _ _ _ (by (repeat' (first | exact trivial | exact rfl | assumption | (refine ⟨_, rfl, ?_⟩) | (refine ⟨_, _, rfl, rfl, ?_⟩) | (refine And.intro ?_ ?_) | (refine Or.inl ⟨rfl, ?_⟩) | exact Or.inl rfl | (refine Or.inr ⟨?_, ?_⟩) | (refine fun h => ?_; first | exact h | exact rfl | (cases h; done)) | (simp only [← List.map_drop, ← List.map_take]; exact rfl) | (simp only [List.length_map]; done) | (simp only [List.length_map]; omega) | omega)); first | done | fail) (h2) ?_
                | refine CallS.pure _ _ _ (by (repeat' (first | exact trivial | exact rfl | assumption | (refine ⟨_, rfl, ?_⟩) | (refine ⟨_, _, rfl, rfl, ?_⟩) | (refine And.intro ?_ ?_) | (refine Or.inl ⟨rfl, ?_⟩) | exact Or.inl rfl | (refine Or.inr ⟨?_, ?_⟩) | (refine fun h => ?_; first | exact h | exact rfl | (cases h; done)) | (simp only [← List.map_drop, ← List.map_take]; exact rfl) | (simp only [List.length_map]; done) | (simp only [List.length_map]; omega) | omega)); first | done | fail) (h1) ?_
                | refine CallS.pure _ _ _ (by (repeat' (first | exact trivial | exact rfl | assumption | (refine ⟨_, rfl, ?_⟩) | (refine ⟨_, _, rfl, rfl, ?_⟩) | (refine And.intro ?_ ?_) | (refine Or.inl ⟨rfl, ?_⟩) | exact Or.inl rfl | (refine Or.inr ⟨?_, ?_⟩) | (refine fun h => ?_; first | exact h | exact rfl | (cases h; done)) | (simp only [← List.map_drop, ← List.map_take]; exact rfl) | (simp only [List.length_map]; done) | (simp only [List.length_map]; omega) | omega)); first | done | fail) (h3) ?_
                | refine CallS.pure _ _ _ (by (repeat' (first | exact trivial | exact rfl | assumption | (refine ⟨_, rfl, ?_⟩) | (refine ⟨_, _, rfl, rfl, ?_⟩) | (refine And.intro ?_ ?_) | (refine Or.inl ⟨rfl, ?_⟩) | exact Or.inl rfl | (refine Or.inr ⟨?_, ?_⟩) | (refine fun h => ?_; first | exact h | exact rfl | (cases h; done)) | (simp only [← List.map_drop, ← List.map_take]; exact rfl) | (simp only [List.length_map]; done) | (simp only [List.length_map]; omega) | omega)); first | done | fail) (h4) ?_
                | refine CallS.pure _ _ _ (by (repeat' (first | exact trivial | exact rfl | assumption | (refine ⟨_, rfl, ?_⟩) | (refine ⟨_, _, rfl, rfl, ?_⟩) | (refine And.intro ?_ ?_) | (refine Or.inl ⟨rfl, ?_⟩) | exact Or.inl rfl | (refine Or.inr ⟨?_, ?_⟩) | (refine fun h => ?_; first | exact h | exact rfl | (cases h; done)) | (simp only [← List.map_drop, ← List.map_take]; exact rfl) | (simp only [List.length_map]; done) | (simp only [List.length_map]; omega) | omega)); first | done | fail) (sameself_pcon c _ _ (by omega)) ?_))
  all_goals (try (conv => whnf))
  all_goals first | exact RetP.v rfl | (exfalso; omega) | exact RetP.v (by simp [hc1])
set_option maxRecDepth 20000 in
set_option maxHeartbeats 1000000 in
theorem halfWords_hi (e c d : Edge) (a b : Int) (hf : e.fit) (h2 : PCon Try.prog 18 [e.exf false] (Bo true) []) (h1 : PCon Try.prog 21 [e.exf false, I a] (edgeZ c) [msgB c.out]) (h3 : PCon Try.prog 21 [c.exf false, I a] (edgeZ c) [msgB c.out])
    (h4 : PCon Try.prog 18 [c.exf false] (Bo true) []) (h5 : PCon Try.prog 21 [e.exf false, I b] (edgeZ d) [msgB d.out]) (h6 : PCon Try.prog 21 [c.exf false, I b] (edgeZ d) [msgB d.out]) (hd : d.out.length ≤ 1024)
    (hc1 : c.base = a) (hc2 : c.seen = e.seen) (hc3 : c.base + c.out.length = e.base + e.out.length) (hlo : e.base ≤ a) (hhi : a ≤ e.base + e.out.length) (hbb : a ≤ b ∧ b ≤ e.base + e.out.length) : PCon Try.prog 4 [e.exf false, I a, I b] (Bo true) [] := by
  refine pcon_of (G := gm) Try.func4 rfl rfl rfl ?_
  unfold Edge.fit at hf
  repeat' (conv => whnf
           first
           | (refine get_id ?_; refine Get.mk _ rfl ?_)
           | (refine need_id ?_; refine Need.mk (by first | exact eqOk_of rfl | rfl | exact Nat.le_of_ble_eq_true rfl | exact ⟨rfl, Nat.le_of_ble_eq_true rfl⟩ | (simp [maxLen]; done) | decide | (simp [maxLen]; omega) | (simp_all [maxLen]; omega)) ?_)
           | refine Br.t ?_
           | refine Br.f ?_
           | refine Br.pos (by assumption) ?_
           | refine Br.neg (by assumption) ?_
           | refine Br.dpos (by with_reducible rfl) ?_
           | refine Br.dpos (by assumption) ?_
           | refine Br.dneg (by assumption) ?_
           | refine Br.d (fun _ => ?_) (fun _ => ?_)
           | refine Br.n ?_
           | refine Br.mk (fun _ => ?_) (fun _ => ?_)
           | refine NilB.mk (fun b hb => ?_)
           | refine DrawV.mk [] ?_
           | (refine eqk_id ?_; refine EqK.mk _ (by first | exact wrapN (by omega) | exact wrap64 (by omega) (by omega) | (simp only [List.length_map, List.length_append, List.length_cons, List.length_nil, Int.toNat_natCast, Nat.sub_zero, Nat.zero_add, Nat.add_zero, Int.toNat_zero, Int.natCast_zero, Int.toNat_one, List.take_length, List.drop_zero, List.take_zero, List.nil_append, List.append_nil]; rfl) | rfl) ?_)
           | (refine call_id ?_; first
                | refine CallV.mk _ _ _ (by (repeat' (first | exact trivial | exact rfl | assumption | (refine ⟨_, rfl, ?_⟩) | (refine ⟨_, _, rfl, rfl, ?_⟩) | (refine And.intro ?_ ?_) | (refine Or.inl ⟨rfl, ?_⟩) | exact Or.inl rfl | (refine Or.inr ⟨?_, ?_⟩) | (refine fun h => ?_; first | exact h | exact rfl | (cases h; done)) | (simp only [← List.map_drop, ← List.map_take]; exact rfl) | (simp only [List.length_map]; done) | (simp only [List.length_map]; omega) | omega)); first | done | fail) (wakes_pcon) ?_
                | refine CallV.mk _ _ _ (by (repeat' (first | exact trivial | exact rfl | assumption | (refine ⟨_, rfl, ?_⟩) | (refine ⟨_, _, rfl, rfl, ?_⟩) | (refine And.intro ?_ ?_) | (refine Or.inl ⟨rfl, ?_⟩) | exact Or.inl rfl | (refine Or.inr ⟨?_, ?_⟩) | (refine fun h => ?_; first | exact h | exact rfl | (cases h; done)) | (simp only [← List.map_drop, ← List.map_take]; exact rfl) | (simp only [List.length_map]; done) | (simp only [List.length_map]; omega) | omega)); first | done | fail) (h2) ?_
                | refine CallV.mk _ _ _ (by (repeat' (first | exact trivial | exact rfl | assumption | (refine ⟨_, rfl, ?_⟩) | (refine ⟨_, _, rfl, rfl, ?_⟩) | (refine And.intro ?_ ?_) | (refine Or.inl ⟨rfl, ?_⟩) | exact Or.inl rfl | (refine Or.inr ⟨?_, ?_⟩) | (refine fun h => ?_; first | exact h | exact rfl | (cases h; done)) | (simp only [← List.map_drop, ← List.map_take]; exact rfl) | (simp only [List.length_map]; done) | (simp only [List.length_map]; omega) | omega)); first | done | fail) (h1) ?_
                | refine CallV.mk _ _ _ (by (repeat' (first | exact trivial | exact rfl | assumption | (refine ⟨_, rfl, ?_⟩) | (refine ⟨_, _, rfl, rfl, ?_⟩) | (refine And.intro ?_ ?_) | (refine Or.inl ⟨rfl, ?_⟩) | exact Or.inl rfl | (refine Or.inr ⟨?_, ?_⟩) | (refine fun h => ?_; first | exact h | exact rfl | (cases h; done)) | (simp only [← List.map_drop, ← List.map_take]; exact rfl) | (simp only [List.length_map]; done) | (simp only [List.length_map]; omega) | omega)); first | done | fail) (h3) ?_
                | refine CallV.mk _ _ _ (by (repeat' (first | exact trivial | exact rfl | assumption | (refine ⟨_, rfl, ?_⟩) | (refine ⟨_, _, rfl, rfl, ?_⟩) | (refine And.intro ?_ ?_) | (refine Or.inl ⟨rfl, ?_⟩) | exact Or.inl rfl | (refine Or.inr ⟨?_, ?_⟩) | (refine fun h => ?_; first | exact h | exact rfl | (cases h; done)) | (simp only [← List.map_drop, ← List.map_take]; exact rfl) | (simp only [List.length_map]; done) | (simp only [List.length_map]; omega) | omega)); first | done | fail) (h4) ?_
                | refine CallV.mk _ _ _ (by (repeat' (first | exact trivial | exact rfl | assumption | (refine ⟨_, rfl, ?_⟩) | (refine ⟨_, _, rfl, rfl, ?_⟩) | (refine And.intro ?_ ?_) | (refine Or.inl ⟨rfl, ?_⟩) | exact Or.inl rfl | (refine Or.inr ⟨?_, ?_⟩) | (refine fun h => ?_; first | exact h | exact rfl | (cases h; done)) | (simp only [← List.map_drop, ← List.map_take]; exact rfl) | (simp only [List.length_map]; done) | (simp only [List.length_map]; omega) | omega)); first | done | fail) (h5) ?_
                | refine CallV.mk _ _ _ (by (repeat' (first | exact trivial | exact rfl | assumption | (refine ⟨_, rfl, ?_⟩) | (refine ⟨_, _, rfl, rfl, ?_⟩) | (refine And.intro ?_ ?_) | (refine Or.inl ⟨rfl, ?_⟩) | exact Or.inl rfl | (refine Or.inr ⟨?_, ?_⟩) | (refine fun h => ?_; first | exact h | exact rfl | (cases h; done)) | (simp only [← List.map_drop, ← List.map_take]; exact rfl) | (simp only [List.length_map]; done) | (simp only [List.length_map]; omega) | omega)); first | done | fail) (h6) ?_
                | refine CallV.mk _ _ _ (by (repeat' (first | exact trivial | exact rfl | assumption | (refine ⟨_, rfl, ?_⟩) | (refine ⟨_, _, rfl, rfl, ?_⟩) | (refine And.intro ?_ ?_) | (refine Or.inl ⟨rfl, ?_⟩) | exact Or.inl rfl | (refine Or.inr ⟨?_, ?_⟩) | (refine fun h => ?_; first | exact h | exact rfl | (cases h; done)) | (simp only [← List.map_drop, ← List.map_take]; exact rfl) | (simp only [List.length_map]; done) | (simp only [List.length_map]; omega) | omega)); first | done | fail) (sameself_pcon c _ _ (by omega)) ?_
                | refine CallV.mk _ _ _ (by (repeat' (first | exact trivial | exact rfl | assumption | (refine ⟨_, rfl, ?_⟩) | (refine ⟨_, _, rfl, rfl, ?_⟩) | (refine And.intro ?_ ?_) | (refine Or.inl ⟨rfl, ?_⟩) | exact Or.inl rfl | (refine Or.inr ⟨?_, ?_⟩) | (refine fun h => ?_; first | exact h | exact rfl | (cases h; done)) | (simp only [← List.map_drop, ← List.map_take]; exact rfl) | (simp only [List.length_map]; done) | (simp only [List.length_map]; omega) | omega)); first | done | fail) (sameself_pcon d _ _ (by omega)) ?_)
           | (refine calls_id ?_; first
                | refine CallS.pure _ _ _ (by (repeat' (first | exact trivial | exact rfl | assumption | (refine ⟨_, rfl, ?_⟩) | (refine ⟨_, _, rfl, rfl, ?_⟩) | (refine And.intro ?_ ?_) | (refine Or.inl ⟨rfl, ?_⟩) | exact Or.inl rfl | (refine Or.inr ⟨?_, ?_⟩) | (refine fun h => ?_; first | exact h | exact rfl | (cases h; done)) | (simp only [← List.map_drop, ← List.map_take]; exact rfl) | (simp only [List.length_map]; done) | (simp only [List.length_map]; omega) | omega)); first | done | fail) (wakes_pcon) ?_
                | refine CallS.pure _ _ _ (by (repeat' (first | exact trivial | exact rfl | assumption | (refine ⟨_, rfl, ?_⟩) | (refine ⟨_, _, rfl, rfl, ?_⟩) | (refine And.intro ?_ ?_) | (refine Or.inl ⟨rfl, ?_⟩) | exact Or.inl rfl | (refine Or.inr ⟨?_, ?_⟩) | (refine fun h => ?_; first | exact h | exact rfl | (cases h; done)) | (simp only [← List.map_drop, ← List.map_take]; exact rfl) | (simp only [List.length_map]; done) | (simp only [List.length_map]; omega) | omega)); first | done | fail) (h2) ?_
                | refine CallS.pure _ _ _ (by (repeat' (first | exact trivial | exact rfl | assumption | (refine ⟨_, rfl, ?_⟩) | (refine ⟨_, _, rfl, rfl, ?_⟩) | (refine And.intro ?_ ?_) | (refine Or.inl ⟨rfl, ?_⟩) | exact Or.inl rfl | (refine Or.inr ⟨?_, ?_⟩) | (refine fun h => ?_; first | exact h | exact rfl | (cases h; done)) | (simp only [← List.map_drop, ← List.map_take]; exact rfl) | (simp only [List.length_map]; done) | (simp only [List.length_map]; omega) | omega)); first | done | fail) (h1) ?_
                | refine CallS.pure _ _ _ (by (repeat' (first | exact trivial | exact rfl | assumption | (refine ⟨_, rfl, ?_⟩) | (refine ⟨_, _, rfl, rfl, ?_⟩) | (refine And.intro ?_ ?_) | (refine Or.inl ⟨rfl, ?_⟩) | exact Or.inl rfl | (refine Or.inr ⟨?_, ?_⟩) | (refine fun h => ?_; first | exact h | exact rfl | (cases h; done)) | (simp only [← List.map_drop, ← List.map_take]; exact rfl) | (simp only [List.length_map]; done) | (simp only [List.length_map]; omega) | omega)); first | done | fail) (h3) ?_
                | refine CallS.pure _ _ _ (by (repeat' (first | exact trivial | exact rfl | assumption | (refine ⟨_, rfl, ?_⟩) | (refine ⟨_, _, rfl, rfl, ?_⟩) | (refine And.intro ?_ ?_) | (refine Or.inl ⟨rfl, ?_⟩) | exact Or.inl rfl | (refine Or.inr ⟨?_, ?_⟩) | (refine fun h => ?_; first | exact h | exact rfl | (cases h; done)) | (simp only [← List.map_drop, ← List.map_take]; exact rfl) | (simp only [List.length_map]; done) | (simp only [List.length_map]; omega) | omega)); first | done | fail) (h4) ?_
                | refine CallS.pure _ _ _ (by (repeat' (first | exact trivial | exact rfl | assumption | (refine ⟨_, rfl, ?_⟩) | (refine ⟨_, _, rfl, rfl, ?_⟩) | (refine And.intro ?_ ?_) | (refine Or.inl ⟨rfl, ?_⟩) | exact Or.inl rfl | (refine Or.inr ⟨?_, ?_⟩) | (refine fun h => ?_; first | exact h | exact rfl | (cases h; done)) | (simp only [← List.map_drop, ← List.map_take]; exact rfl) | (simp only [List.length_map]; done) | (simp only [List.length_map]; omega) | omega)); first | done | fail) (h5) ?_
                | refine CallS.pure _ _ _ (by (repeat' (first | exact trivial | exact rfl | assumption | (refine ⟨_, rfl, ?_⟩) | (refine ⟨_, _, rfl, rfl, ?_⟩) | (refine And.intro ?_ ?_) | (refine Or.inl ⟨rfl, ?_⟩) | exact Or.inl rfl | (refine Or.inr ⟨?_, ?_⟩) | (refine fun h => ?_; first | exact h | exact rfl | (cases h; done)) | (simp only [← List.map_drop, ← List.map_take]; exact rfl) | (simp only [List.length_map]; done) | (simp only [List.length_map]; omega) | omega)); first | done | fail) (h6) ?_
                | refine CallS.pure _ _ _ (by (repeat' (first | exact trivial | exact rfl | assumption | (refine ⟨_, rfl, ?_⟩) | (refine ⟨_, _, rfl, rfl, ?_⟩) | (refine And.intro ?_ ?_) | (refine Or.inl ⟨rfl, ?_⟩) | exact Or.inl rfl | (refine Or.inr ⟨?_, ?_⟩) | (refine fun h => ?_; first | exact h | exact rfl | (cases h; done)) | (simp only [← List.map_drop, ← List.map_take]; exact rfl) | (simp only [List.length_map]; done) | (simp only [List.length_map]; omega) | omega)); first | done | fail) (sameself_pcon c _ _ (by omega)) ?_
                | refine CallS.pure _ _ _ (by (repeat' (first | exact trivial | exact rfl | assumption | (refine ⟨_, rfl, ?_⟩) | (refine ⟨_, _, rfl, rfl, ?_⟩) | (refine And.intro ?_ ?_) | (refine Or.inl ⟨rfl, ?_⟩) | exact Or.inl rfl | (refine Or.inr ⟨?_, ?_⟩) | (refine fun h => ?_; first | exact h | exact rfl | (cases h; done)) | (simp only [← List.map_drop, ← List.map_take]; exact rfl) | (simp only [List.length_map]; done) | (simp only [List.length_map]; omega) | omega)); first | done | fail) (sameself_pcon d _ _ (by omega)) ?_))
  all_goals (try (conv => whnf))
  all_goals first | exact RetP.v rfl | (exfalso; omega) | exact RetP.v (by simp [hc1])
theorem halfWords_pcon (e : Edge) (a b : Int) (ha : -9223372036854775808 ≤ a ∧ a < 9223372036854775808) (hb : -9223372036854775808 ≤ b ∧ b < 9223372036854775808) (h : e.out.length * 40 ≤ 140737488351232) : PCon Try.prog 4 [e.exf false, I a, I b] (Bo true) [] := by
  rcases Bool.eq_false_or_eq_true e.good with hgd | hgd
  · have hfit := good_fit e hgd
    have hf := hfit
    unfold Edge.fit at hf
    by_cases hlo : a < e.base ∨ a > e.base + e.out.length
    · exact halfWords_lo e a b ha hgd hlo
    · have g := heard_good e a hgd
      rw [heardS_hi e a hgd (by omega) (by omega)] at g
      obtain ⟨g1, g2, g3, g4, g5⟩ := g
      have h2 := good_pcon e false (by omega)
      rw [hgd] at h2
      have h4 := good_pcon (e.cut a) false (by simp only [Edge.cut, List.length_drop]; omega)
      have g1 : (e.cut a).good = true := g1
      rw [g1] at h4
      have h3 : (e.cut a).cut a = e.cut a := cut_cut e a a (by omega) (by omega)
      have hl : (e.cut a).out.length ≤ 1024 := by simp only [Edge.cut, List.length_drop]; omega
      have hb1 : (e.cut a).base + (e.cut a).out.length = e.base + e.out.length := g5
      have hb2 : (e.cut a).base = a := rfl
      by_cases hbb : b < a ∨ b > e.base + e.out.length
      · exact halfWords_mid e _ a b hb hfit h2 (heard_hi e _ a ha (by omega) hgd (by omega) (by omega) rfl) (heard_hi _ _ a ha hl g1 (by omega) (by omega) h3) h4 rfl rfl hb1 (by omega) (by omega) hbb
      · have h7 : (e.cut a).cut b = e.cut b := cut_cut e a b (by omega) (by omega)
        exact halfWords_hi e _ _ a b hfit h2 (heard_hi e _ a ha (by omega) hgd (by omega) (by omega) rfl) (heard_hi _ _ a ha hl g1 (by omega) (by omega) h3) h4 (heard_hi e _ b hb (by omega) hgd (by omega) (by omega) rfl) (heard_hi _ _ b hb hl g1 (by omega) (by omega) h7)
          (by simp only [Edge.cut, List.length_drop]; omega) rfl rfl hb1 (by omega) (by omega) (by omega)
  · refine pcon_of (G := gm) Try.func4 rfl rfl rfl ?_
    have h2 := good_pcon e false (by omega)
    rw [hgd] at h2
    repeat' (conv => whnf
             first
             | (refine get_id ?_; refine Get.mk _ rfl ?_)
             | (refine need_id ?_; refine Need.mk (by first | exact eqOk_of rfl | rfl | exact Nat.le_of_ble_eq_true rfl | exact ⟨rfl, Nat.le_of_ble_eq_true rfl⟩ | (simp [maxLen]; done) | decide | (simp [maxLen]; omega) | (simp_all [maxLen]; omega)) ?_)
             | refine Br.t ?_
             | refine Br.f ?_
             | refine Br.pos (by assumption) ?_
             | refine Br.neg (by assumption) ?_
             | refine Br.dpos (by with_reducible rfl) ?_
             | refine Br.dpos (by assumption) ?_
             | refine Br.dneg (by assumption) ?_
             | refine Br.d (fun _ => ?_) (fun _ => ?_)
             | refine Br.n ?_
             | refine Br.mk (fun _ => ?_) (fun _ => ?_)
             | refine NilB.mk (fun b hb => ?_)
             | refine DrawV.mk [] ?_
             | (refine eqk_id ?_; refine EqK.mk _ (by first | exact wrapN (by omega) | exact wrap64 (by omega) (by omega) | (simp only [List.length_map, List.length_append, List.length_cons, List.length_nil, Int.toNat_natCast, Nat.sub_zero, Nat.zero_add, Nat.add_zero, Int.toNat_zero, Int.natCast_zero, Int.toNat_one, List.take_length, List.drop_zero, List.take_zero, List.nil_append, List.append_nil]; rfl) | rfl) ?_)
             | (refine call_id ?_; first
                  | refine CallV.mk _ _ _ (by (repeat' (first | exact trivial | exact rfl | assumption | (refine ⟨_, rfl, ?_⟩) | (refine ⟨_, _, rfl, rfl, ?_⟩) | (refine And.intro ?_ ?_) | (refine Or.inl ⟨rfl, ?_⟩) | exact Or.inl rfl | (refine Or.inr ⟨?_, ?_⟩) | (refine fun h => ?_; first | exact h | exact rfl | (cases h; done)) | (simp only [← List.map_drop, ← List.map_take]; exact rfl) | (simp only [List.length_map]; done) | (simp only [List.length_map]; omega) | omega)); first | done | fail) (wakes_pcon) ?_
                  | refine CallV.mk _ _ _ (by (repeat' (first | exact trivial | exact rfl | assumption | (refine ⟨_, rfl, ?_⟩) | (refine ⟨_, _, rfl, rfl, ?_⟩) | (refine And.intro ?_ ?_) | (refine Or.inl ⟨rfl, ?_⟩) | exact Or.inl rfl | (refine Or.inr ⟨?_, ?_⟩) | (refine fun h => ?_; first | exact h | exact rfl | (cases h; done)) | (simp only [← List.map_drop, ← List.map_take]; exact rfl) | (simp only [List.length_map]; done) | (simp only [List.length_map]; omega) | omega)); first | done | fail) (h2) ?_)
             | (refine calls_id ?_; first
                  | refine CallS.pure _ _ _ (by (repeat' (first | exact trivial | exact rfl | assumption | (refine ⟨_, rfl, ?_⟩) | (refine ⟨_, _, rfl, rfl, ?_⟩) | (refine And.intro ?_ ?_) | (refine Or.inl ⟨rfl, ?_⟩) | exact Or.inl rfl | (refine Or.inr ⟨?_, ?_⟩) | (refine fun h => ?_; first | exact h | exact rfl | (cases h; done)) | (simp only [← List.map_drop, ← List.map_take]; exact rfl) | (simp only [List.length_map]; done) | (simp only [List.length_map]; omega) | omega)); first | done | fail) (wakes_pcon) ?_
                  | refine CallS.pure _ _ _ (by (repeat' (first | exact trivial | exact rfl | assumption | (refine ⟨_, rfl, ?_⟩) | (refine ⟨_, _, rfl, rfl, ?_⟩) | (refine And.intro ?_ ?_) | (refine Or.inl ⟨rfl, ?_⟩) | exact Or.inl rfl | (refine Or.inr ⟨?_, ?_⟩) | (refine fun h => ?_; first | exact h | exact rfl | (cases h; done)) | (simp only [← List.map_drop, ← List.map_take]; exact rfl) | (simp only [List.length_map]; done) | (simp only [List.length_map]; omega) | omega)); first | done | fail) (h2) ?_))
    all_goals (try (conv => whnf))
    exact RetP.v rfl
end Go.Proofs.Ytammndlghfknbaa
