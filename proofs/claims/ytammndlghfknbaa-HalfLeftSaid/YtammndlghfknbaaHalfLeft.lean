/- The law HalfLeft: its walk. -/
import Derived.Test.YtammndlghfknbaaHalfL
set_option linter.unusedSimpArgs false
set_option linter.unusedVariables false
namespace Go.Proofs.Ytammndlghfknbaa
open Go Go.Eng Go.RowKit

theorem leftFrom_mem (seen : Int) : ∀ (ms : List Msg) (b : Int) (p : Int × Msg), p ∈ leftFrom seen b ms → ∃ (k : Nat) (hk : k < ms.length), p.1 = b + 1 + k ∧ ms[k] = p.2
  | [], _, _, h => by simp [leftFrom] at h
  | m :: ms, b, p, h => by
    unfold leftFrom at h
    have key : p ∈ leftFrom seen (b + 1) ms → ∃ (k : Nat) (hk : k < (m :: ms).length), p.1 = b + 1 + k ∧ (m :: ms)[k] = p.2 := fun h => by
      obtain ⟨k, hk, h1, h2⟩ := leftFrom_mem seen ms (b + 1) p h
      exact ⟨k + 1, by simp; omega, by omega, by simpa using h2⟩
    split at h
    · exact key h
    · rcases List.mem_cons.1 h with h | h
      · exact ⟨0, by simp, by rw [h]; simp, by rw [h]; rfl⟩
      · exact key h
theorem leftFrom_len (seen : Int) : ∀ (ms : List Msg) (b : Int), (leftFrom seen b ms).length ≤ ms.length
  | [], _ => by simp [leftFrom]
  | m :: ms, b => by
    have := leftFrom_len seen ms (b + 1)
    unfold leftFrom
    split <;> simp <;> omega
abbrev wantR (l : List (Int × Msg)) : List (List Sv) := l.map fun p => [I p.1]
theorem leftIt_row (e : Edge) (seen : Int) : (leftS e seen).length ≤ e.out.length := by
  unfold leftS
  split
  · exact leftFrom_len _ _ _
  · simp
set_option maxRecDepth 20000 in
set_option maxHeartbeats 2000000 in
theorem halfLeft_good (e : Edge) (seen stop : Int) (hg : e.good = true) (h : e.out.length * 40 ≤ 140737488351232) : PCon Try.prog 7 [e.exf false, I seen, I stop] (Bo true) [] := by
  refine pcon_of (G := gm) Try.func7 rfl rfl rfl ?_
  have hcon := left1_icon e seen (by omega)
  have hf := good_fit e hg
  unfold Edge.fit at hf
  have hl : leftS e seen = leftFrom seen e.base e.out := by simp [leftS, hg]
  rw [hl] at hcon
  repeat' (conv => whnf
           first
           | (refine get_id ?_; refine Get.mk _ rfl ?_)
           | (refine need_id ?_; refine Need.mk (by first | exact eqOk_of rfl | rfl | exact Nat.le_of_ble_eq_true rfl | exact ⟨rfl, Nat.le_of_ble_eq_true rfl⟩ | (simp [maxLen]; done) | decide | (simp [maxLen]; omega) | (simp_all [maxLen]; omega)) ?_)
           | refine Br.t ?_
           | refine Br.f ?_
           | refine Br.pos (by assumption) ?_
           | refine Br.neg (by assumption) ?_
           | refine Br.dpos (by with_reducible rfl) ?_
           | refine Br.dpos (by assumption) ?_
           | refine Br.dneg (by assumption) ?_
           | refine Br.d (fun _ => ?_) (fun _ => ?_)
           | refine Br.n ?_
           | refine Br.mk (fun _ => ?_) (fun _ => ?_)
           | refine NilB.mk (fun b hb => ?_)
           | refine alv_and (by first | rfl | done) ?_
           | refine DrawV.mk [] ?_
           | (refine appc_id ?_; first | (refine AppC.grow ?_ ?_; focus (first | rfl | (simp only [List.length_map]; done) | (simp; done) | omega)) | refine AppC.place ?_)
           | (refine eqk_id ?_; refine EqK.mk _ (by first | exact takeAll (by first | exact Nat.le_refl _ | (simp only [List.length_map]; exact Nat.le_refl _) | (simp; done) | omega) | exact wrapN (by omega) | exact wrap64 (by omega) (by omega) | (simp only [List.length_map, List.length_append, List.length_cons, List.length_nil, Int.toNat_natCast, Nat.sub_zero, Nat.zero_add, Nat.add_zero, Int.toNat_zero, Int.natCast_zero, Int.toNat_one, List.take_length, List.drop_zero, List.take_zero, List.nil_append, List.append_nil]; rfl) | rfl) ?_)
           | (refine call_id ?_; first
                | refine CallV.mk _ _ _ (by (repeat' (first | exact trivial | exact rfl | assumption | (refine ⟨_, rfl, ?_⟩) | (refine ⟨_, _, rfl, rfl, ?_⟩) | (refine And.intro ?_ ?_) | (refine Or.inl ⟨rfl, rfl, ?_⟩) | (refine Or.inl ⟨rfl, ?_⟩; focus (fail_if_success (refine And.intro ?_ ?_))) | (refine Or.inl (?_ : (_ : Nat) = _ ∧ _); refine ⟨?_, ?_⟩; focus (first | (simp only [List.length_map]; done) | (simp only [List.length_map, List.length_append, List.length_cons, List.length_nil]; done))) | exact Or.inl rfl | (refine Or.inr (Or.inr ⟨?_, ?_⟩)) | (refine Or.inr ⟨?_, ?_⟩) | (refine fun h => ?_; first | exact h | exact rfl | (cases h; done)) | (simp only [← List.map_drop, ← List.map_take]; exact rfl) | (simp only [List.length_map]; done) | (simp only [List.length_map]; omega) | omega)); first | done | fail) (wakes_pcon) ?_
                | refine CallV.mk _ _ _ (by (repeat' (first | exact trivial | exact rfl | assumption | (refine ⟨_, rfl, ?_⟩) | (refine ⟨_, _, rfl, rfl, ?_⟩) | (refine And.intro ?_ ?_) | (refine Or.inl ⟨rfl, rfl, ?_⟩) | (refine Or.inl ⟨rfl, ?_⟩; focus (fail_if_success (refine And.intro ?_ ?_))) | (refine Or.inl (?_ : (_ : Nat) = _ ∧ _); refine ⟨?_, ?_⟩; focus (first | (simp only [List.length_map]; done) | (simp only [List.length_map, List.length_append, List.length_cons, List.length_nil]; done))) | exact Or.inl rfl | (refine Or.inr (Or.inr ⟨?_, ?_⟩)) | (refine Or.inr ⟨?_, ?_⟩) | (refine fun h => ?_; first | exact h | exact rfl | (cases h; done)) | (simp only [← List.map_drop, ← List.map_take]; exact rfl) | (simp only [List.length_map]; done) | (simp only [List.length_map]; omega) | omega)); first | done | fail) (refgood_pcon e _ (by omega)) ?_
                | refine CallV.mk _ _ _ (by (repeat' (first | exact trivial | exact rfl | assumption | (refine ⟨_, rfl, ?_⟩) | (refine ⟨_, _, rfl, rfl, ?_⟩) | (refine And.intro ?_ ?_) | (refine Or.inl ⟨rfl, rfl, ?_⟩) | (refine Or.inl ⟨rfl, ?_⟩; focus (fail_if_success (refine And.intro ?_ ?_))) | (refine Or.inl (?_ : (_ : Nat) = _ ∧ _); refine ⟨?_, ?_⟩; focus (first | (simp only [List.length_map]; done) | (simp only [List.length_map, List.length_append, List.length_cons, List.length_nil]; done))) | exact Or.inl rfl | (refine Or.inr (Or.inr ⟨?_, ?_⟩)) | (refine Or.inr ⟨?_, ?_⟩) | (refine fun h => ?_; first | exact h | exact rfl | (cases h; done)) | (simp only [← List.map_drop, ← List.map_take]; exact rfl) | (simp only [List.length_map]; done) | (simp only [List.length_map]; omega) | omega)); first | done | fail) (left_pcon e _ seen (by omega)) ?_)
           | (refine calls_id ?_; first
                | refine CallS.pure _ _ _ (by (repeat' (first | exact trivial | exact rfl | assumption | (refine ⟨_, rfl, ?_⟩) | (refine ⟨_, _, rfl, rfl, ?_⟩) | (refine And.intro ?_ ?_) | (refine Or.inl ⟨rfl, rfl, ?_⟩) | (refine Or.inl ⟨rfl, ?_⟩; focus (fail_if_success (refine And.intro ?_ ?_))) | (refine Or.inl (?_ : (_ : Nat) = _ ∧ _); refine ⟨?_, ?_⟩; focus (first | (simp only [List.length_map]; done) | (simp only [List.length_map, List.length_append, List.length_cons, List.length_nil]; done))) | exact Or.inl rfl | (refine Or.inr (Or.inr ⟨?_, ?_⟩)) | (refine Or.inr ⟨?_, ?_⟩) | (refine fun h => ?_; first | exact h | exact rfl | (cases h; done)) | (simp only [← List.map_drop, ← List.map_take]; exact rfl) | (simp only [List.length_map]; done) | (simp only [List.length_map]; omega) | omega)); first | done | fail) (wakes_pcon) ?_
                | refine CallS.pure _ _ _ (by (repeat' (first | exact trivial | exact rfl | assumption | (refine ⟨_, rfl, ?_⟩) | (refine ⟨_, _, rfl, rfl, ?_⟩) | (refine And.intro ?_ ?_) | (refine Or.inl ⟨rfl, rfl, ?_⟩) | (refine Or.inl ⟨rfl, ?_⟩; focus (fail_if_success (refine And.intro ?_ ?_))) | (refine Or.inl (?_ : (_ : Nat) = _ ∧ _); refine ⟨?_, ?_⟩; focus (first | (simp only [List.length_map]; done) | (simp only [List.length_map, List.length_append, List.length_cons, List.length_nil]; done))) | exact Or.inl rfl | (refine Or.inr (Or.inr ⟨?_, ?_⟩)) | (refine Or.inr ⟨?_, ?_⟩) | (refine fun h => ?_; first | exact h | exact rfl | (cases h; done)) | (simp only [← List.map_drop, ← List.map_take]; exact rfl) | (simp only [List.length_map]; done) | (simp only [List.length_map]; omega) | omega)); first | done | fail) (refgood_pcon e _ (by omega)) ?_
                | refine CallS.pure _ _ _ (by (repeat' (first | exact trivial | exact rfl | assumption | (refine ⟨_, rfl, ?_⟩) | (refine ⟨_, _, rfl, rfl, ?_⟩) | (refine And.intro ?_ ?_) | (refine Or.inl ⟨rfl, rfl, ?_⟩) | (refine Or.inl ⟨rfl, ?_⟩; focus (fail_if_success (refine And.intro ?_ ?_))) | (refine Or.inl (?_ : (_ : Nat) = _ ∧ _); refine ⟨?_, ?_⟩; focus (first | (simp only [List.length_map]; done) | (simp only [List.length_map, List.length_append, List.length_cons, List.length_nil]; done))) | exact Or.inl rfl | (refine Or.inr (Or.inr ⟨?_, ?_⟩)) | (refine Or.inr ⟨?_, ?_⟩) | (refine fun h => ?_; first | exact h | exact rfl | (cases h; done)) | (simp only [← List.map_drop, ← List.map_take]; exact rfl) | (simp only [List.length_map]; done) | (simp only [List.length_map]; omega) | omega)); first | done | fail) (left_pcon e _ seen (by omega)) ?_))
  all_goals (try (conv => whnf))
  refine LoopV.on (σ := Nat × List (Int × Msg)) rfl (fun s => [(1, I seen), (3, .ptr 0 0 0), (5, .ptr 1 0 0), (6, .ptr 2 0 0), (7, .ptr 3 0 0), (21, I e.out.length), (22, I s.1)])
    (fun s => [some ⟨24, 4, false, false, [[I e.peer, I e.base, .ext false 5 (e.out.map Msg.row), I e.seen]]⟩, some ⟨3, 1, false, false, [[I stop]]⟩, some ⟨4, 1, true, false, [[Bo false]]⟩, some ⟨39, 1, false, false, [[.own 4 s.2.length]]⟩, some ⟨3, 1, true, true, wantR s.2⟩])
    (fun s => s.1 ≤ e.out.length ∧ s.2 ++ leftFrom seen (e.base + s.1) (e.out.drop s.1) = leftFrom seen e.base e.out) (fun s => e.out.length - s.1) (0, []) ?_ ⟨Nat.zero_le _, by simp⟩ ?_
  · refine AtS.mk [(3, 1)] [0, 1, 2, 3, 4] rfl (by simp) rfl ?_ ?_
    · (repeat' (first | exact trivial | exact rfl | assumption | (refine ⟨_, rfl, ?_⟩) | (refine ⟨_, _, rfl, rfl, ?_⟩) | (refine And.intro ?_ ?_) | (refine Or.inl ⟨rfl, rfl, ?_⟩) | (refine Or.inl ⟨rfl, ?_⟩; focus (fail_if_success (refine And.intro ?_ ?_))) | (refine Or.inl (?_ : (_ : Nat) = _ ∧ _); refine ⟨?_, ?_⟩; focus (first | (simp only [List.length_map]; done) | (simp only [List.length_map, List.length_append, List.length_cons, List.length_nil]; done))) | exact Or.inl rfl | (refine Or.inr (Or.inr ⟨?_, ?_⟩)) | (refine Or.inr ⟨?_, ?_⟩) | (refine fun h => ?_; first | exact h | exact rfl | (cases h; done)) | (simp only [← List.map_drop, ← List.map_take]; exact rfl) | (simp only [List.length_map]; done) | (simp only [List.length_map]; omega) | omega))
    · (repeat' (first | exact trivial | exact rfl | assumption | (refine ⟨_, rfl, ?_⟩) | (refine ⟨_, _, rfl, rfl, ?_⟩) | (refine And.intro ?_ ?_) | (refine Or.inl ⟨rfl, rfl, ?_⟩) | (refine Or.inl ⟨rfl, ?_⟩; focus (fail_if_success (refine And.intro ?_ ?_))) | (refine Or.inl (?_ : (_ : Nat) = _ ∧ _); refine ⟨?_, ?_⟩; focus (first | (simp only [List.length_map]; done) | (simp only [List.length_map, List.length_append, List.length_cons, List.length_nil]; done))) | exact Or.inl rfl | (refine Or.inr (Or.inr ⟨?_, ?_⟩)) | (refine Or.inr ⟨?_, ?_⟩) | (refine fun h => ?_; first | exact h | exact rfl | (cases h; done)) | (simp only [← List.map_drop, ← List.map_take]; exact rfl) | (simp only [List.length_map]; done) | (simp only [List.length_map]; omega) | omega))
  rintro ⟨i, w⟩ ⟨hi, hw⟩
  simp only at hi hw
  have hwl : w.length ≤ e.out.length := by
    have := congrArg List.length hw
    have := leftFrom_len seen e.out e.base
    simp only [List.length_append] at *
    omega
  repeat' (conv => whnf
           first
           | (refine get_id ?_; refine Get.mk _ rfl ?_)
           | (refine need_id ?_; refine Need.mk (by first | exact eqOk_of rfl | rfl | exact Nat.le_of_ble_eq_true rfl | exact ⟨rfl, Nat.le_of_ble_eq_true rfl⟩ | (simp [maxLen]; done) | decide | (simp [maxLen]; omega) | (simp_all [maxLen]; omega)) ?_)
           | refine Br.t ?_
           | refine Br.f ?_
           | refine Br.pos (by assumption) ?_
           | refine Br.neg (by assumption) ?_
           | refine Br.dpos (by with_reducible rfl) ?_
           | refine Br.dpos (by assumption) ?_
           | refine Br.dneg (by assumption) ?_
           | refine Br.d (fun _ => ?_) (fun _ => ?_)
           | refine Br.n ?_
           | refine Br.mk (fun _ => ?_) (fun _ => ?_)
           | refine NilB.mk (fun b hb => ?_)
           | refine alv_and (by first | rfl | done) ?_
           | refine DrawV.mk [] ?_
           | (refine appc_id ?_; first | (refine AppC.grow ?_ ?_; focus (first | rfl | (simp only [List.length_map]; done) | (simp; done) | omega)) | refine AppC.place ?_)
           | (refine eqk_id ?_; refine EqK.mk _ (by first | exact takeAll (by first | exact Nat.le_refl _ | (simp only [List.length_map]; exact Nat.le_refl _) | (simp; done) | omega) | exact wrapN (by omega) | exact wrap64 (by omega) (by omega) | (simp only [List.length_map, List.length_append, List.length_cons, List.length_nil, Int.toNat_natCast, Nat.sub_zero, Nat.zero_add, Nat.add_zero, Int.toNat_zero, Int.natCast_zero, Int.toNat_one, List.take_length, List.drop_zero, List.take_zero, List.nil_append, List.append_nil]; rfl) | rfl) ?_)
           | (refine call_id ?_; first
                | refine CallV.mk _ _ _ (by (repeat' (first | exact trivial | exact rfl | assumption | (refine ⟨_, rfl, ?_⟩) | (refine ⟨_, _, rfl, rfl, ?_⟩) | (refine And.intro ?_ ?_) | (refine Or.inl ⟨rfl, rfl, ?_⟩) | (refine Or.inl ⟨rfl, ?_⟩; focus (fail_if_success (refine And.intro ?_ ?_))) | (refine Or.inl (?_ : (_ : Nat) = _ ∧ _); refine ⟨?_, ?_⟩; focus (first | (simp only [List.length_map]; done) | (simp only [List.length_map, List.length_append, List.length_cons, List.length_nil]; done))) | exact Or.inl rfl | (refine Or.inr (Or.inr ⟨?_, ?_⟩)) | (refine Or.inr ⟨?_, ?_⟩) | (refine fun h => ?_; first | exact h | exact rfl | (cases h; done)) | (simp only [← List.map_drop, ← List.map_take]; exact rfl) | (simp only [List.length_map]; done) | (simp only [List.length_map]; omega) | omega)); first | done | fail) (left_pcon e _ seen (by omega)) ?_)
           | (refine calls_id ?_; first
                | refine CallS.pure _ _ _ (by (repeat' (first | exact trivial | exact rfl | assumption | (refine ⟨_, rfl, ?_⟩) | (refine ⟨_, _, rfl, rfl, ?_⟩) | (refine And.intro ?_ ?_) | (refine Or.inl ⟨rfl, rfl, ?_⟩) | (refine Or.inl ⟨rfl, ?_⟩; focus (fail_if_success (refine And.intro ?_ ?_))) | (refine Or.inl (?_ : (_ : Nat) = _ ∧ _); refine ⟨?_, ?_⟩; focus (first | (simp only [List.length_map]; done) | (simp only [List.length_map, List.length_append, List.length_cons, List.length_nil]; done))) | exact Or.inl rfl | (refine Or.inr (Or.inr ⟨?_, ?_⟩)) | (refine Or.inr ⟨?_, ?_⟩) | (refine fun h => ?_; first | exact h | exact rfl | (cases h; done)) | (simp only [← List.map_drop, ← List.map_take]; exact rfl) | (simp only [List.length_map]; done) | (simp only [List.length_map]; omega) | omega)); first | done | fail) (left_pcon e _ seen (by omega)) ?_))
  all_goals (try (conv => whnf))
  · rename_i h1 h2
    simp only at h1 h2
    rw [leftFrom_at seen (by omega), if_neg (by omega)] at hw
    refine nx (i + 1, w ++ [(e.base + i + 1, e.out[i])]) (by simp only; omega) ⟨by simp only; omega, by rw [← hw]; simp⟩ (AtS.mk [] [0, 1, 2, 3, 6] rfl (by simp) rfl ?_ ?_)
    · (repeat' (first | exact trivial | exact rfl | assumption | (refine ⟨_, rfl, ?_⟩) | (refine ⟨_, _, rfl, rfl, ?_⟩) | (refine And.intro ?_ ?_) | (refine Or.inl ⟨rfl, rfl, ?_⟩) | (refine Or.inl ⟨rfl, ?_⟩; focus (fail_if_success (refine And.intro ?_ ?_))) | (refine Or.inl (?_ : (_ : Nat) = _ ∧ _); refine ⟨?_, ?_⟩; focus (first | (simp only [List.length_map]; done) | (simp only [List.length_map, List.length_append, List.length_cons, List.length_nil]; done))) | exact Or.inl rfl | (refine Or.inr (Or.inr ⟨?_, ?_⟩)) | (refine Or.inr ⟨?_, ?_⟩) | (refine fun h => ?_; first | exact h | exact rfl | (cases h; done)) | (simp only [← List.map_drop, ← List.map_take]; exact rfl) | (simp only [List.length_map]; done) | (simp only [List.length_map]; omega) | omega))
      · simp
      · simp only [wantR, List.map_append, List.map_cons, List.map_nil, show e.base + 1 + (i : Int) = e.base + i + 1 by omega]
    · (repeat' (first | exact trivial | exact rfl | assumption | (refine ⟨_, rfl, ?_⟩) | (refine ⟨_, _, rfl, rfl, ?_⟩) | (refine And.intro ?_ ?_) | (refine Or.inl ⟨rfl, rfl, ?_⟩) | (refine Or.inl ⟨rfl, ?_⟩; focus (fail_if_success (refine And.intro ?_ ?_))) | (refine Or.inl (?_ : (_ : Nat) = _ ∧ _); refine ⟨?_, ?_⟩; focus (first | (simp only [List.length_map]; done) | (simp only [List.length_map, List.length_append, List.length_cons, List.length_nil]; done))) | exact Or.inl rfl | (refine Or.inr (Or.inr ⟨?_, ?_⟩)) | (refine Or.inr ⟨?_, ?_⟩) | (refine fun h => ?_; first | exact h | exact rfl | (cases h; done)) | (simp only [← List.map_drop, ← List.map_take]; exact rfl) | (simp only [List.length_map]; done) | (simp only [List.length_map]; omega) | omega))
  · rename_i h1 h2
    simp only at h1 h2
    rw [leftFrom_at seen (by omega), if_pos (by omega)] at hw
    refine nx (i + 1, w) (by simp only; omega) ⟨by simp only; omega, by rw [← hw]⟩ (AtS.mk [] [0, 1, 2, 3, 4] rfl (by simp) rfl ?_ ?_)
    · (repeat' (first | exact trivial | exact rfl | assumption | (refine ⟨_, rfl, ?_⟩) | (refine ⟨_, _, rfl, rfl, ?_⟩) | (refine And.intro ?_ ?_) | (refine Or.inl ⟨rfl, rfl, ?_⟩) | (refine Or.inl ⟨rfl, ?_⟩; focus (fail_if_success (refine And.intro ?_ ?_))) | (refine Or.inl (?_ : (_ : Nat) = _ ∧ _); refine ⟨?_, ?_⟩; focus (first | (simp only [List.length_map]; done) | (simp only [List.length_map, List.length_append, List.length_cons, List.length_nil]; done))) | exact Or.inl rfl | (refine Or.inr (Or.inr ⟨?_, ?_⟩)) | (refine Or.inr ⟨?_, ?_⟩) | (refine fun h => ?_; first | exact h | exact rfl | (cases h; done)) | (simp only [← List.map_drop, ← List.map_take]; exact rfl) | (simp only [List.length_map]; done) | (simp only [List.length_map]; omega) | omega))
    · (repeat' (first | exact trivial | exact rfl | assumption | (refine ⟨_, rfl, ?_⟩) | (refine ⟨_, _, rfl, rfl, ?_⟩) | (refine And.intro ?_ ?_) | (refine Or.inl ⟨rfl, rfl, ?_⟩) | (refine Or.inl ⟨rfl, ?_⟩; focus (fail_if_success (refine And.intro ?_ ?_))) | (refine Or.inl (?_ : (_ : Nat) = _ ∧ _); refine ⟨?_, ?_⟩; focus (first | (simp only [List.length_map]; done) | (simp only [List.length_map, List.length_append, List.length_cons, List.length_nil]; done))) | exact Or.inl rfl | (refine Or.inr (Or.inr ⟨?_, ?_⟩)) | (refine Or.inr ⟨?_, ?_⟩) | (refine fun h => ?_; first | exact h | exact rfl | (cases h; done)) | (simp only [← List.map_drop, ← List.map_take]; exact rfl) | (simp only [List.length_map]; done) | (simp only [List.length_map]; omega) | omega))
  have hw : w = leftFrom seen e.base e.out := by
    rename_i h1
    simp only at h1
    rw [List.drop_eq_nil_of_le (show e.out.length ≤ i by omega)] at hw
    simpa [leftFrom] using hw
  subst hw
  generalize hits : leftFrom seen e.base e.out = its at *
  refine LoopV.on (σ := Nat) rfl (fun r => [(3, .ptr 0 0 0), (5, .ptr 1 0 0), (6, .ptr 2 0 0), (7, .ptr 3 0 0), (9, .clo 48 (leftCaps e seen)), (10, I r)])
    (fun _ => [some ⟨24, 4, false, false, [[I e.peer, I e.base, .ext false 5 (e.out.map Msg.row), I e.seen]]⟩, some ⟨3, 1, false, false, [[I stop]]⟩, some ⟨4, 1, true, false, [[Bo false]]⟩, some ⟨39, 1, false, false, [[.own 4 its.length]]⟩, some ⟨3, 1, true, true, wantR its⟩])
    (fun r => r ≤ 2) (fun r => 2 - r) 0 ?_ (by omega) ?_
  · refine AtS.mk [] [0, 1, 2, 3, 4] rfl (by simp) rfl ?_ ?_
    · (repeat' (first | exact trivial | exact rfl | assumption | (refine ⟨_, rfl, ?_⟩) | (refine ⟨_, _, rfl, rfl, ?_⟩) | (refine And.intro ?_ ?_) | (refine Or.inl ⟨rfl, rfl, ?_⟩) | (refine Or.inl ⟨rfl, ?_⟩; focus (fail_if_success (refine And.intro ?_ ?_))) | (refine Or.inl (?_ : (_ : Nat) = _ ∧ _); refine ⟨?_, ?_⟩; focus (first | (simp only [List.length_map]; done) | (simp only [List.length_map, List.length_append, List.length_cons, List.length_nil]; done))) | exact Or.inl rfl | (refine Or.inr (Or.inr ⟨?_, ?_⟩)) | (refine Or.inr ⟨?_, ?_⟩) | (refine fun h => ?_; first | exact h | exact rfl | (cases h; done)) | (simp only [← List.map_drop, ← List.map_take]; exact rfl) | (simp only [List.length_map]; done) | (simp only [List.length_map]; omega) | omega))
    · unfold leftCaps
      (repeat' (first | exact trivial | exact rfl | assumption | (refine ⟨_, rfl, ?_⟩) | (refine ⟨_, _, rfl, rfl, ?_⟩) | (refine And.intro ?_ ?_) | (refine Or.inl ⟨rfl, rfl, ?_⟩) | (refine Or.inl ⟨rfl, ?_⟩; focus (fail_if_success (refine And.intro ?_ ?_))) | (refine Or.inl (?_ : (_ : Nat) = _ ∧ _); refine ⟨?_, ?_⟩; focus (first | (simp only [List.length_map]; done) | (simp only [List.length_map, List.length_append, List.length_cons, List.length_nil]; done))) | exact Or.inl rfl | (refine Or.inr (Or.inr ⟨?_, ?_⟩)) | (refine Or.inr ⟨?_, ?_⟩) | (refine fun h => ?_; first | exact h | exact rfl | (cases h; done)) | (simp only [← List.map_drop, ← List.map_take]; exact rfl) | (simp only [List.length_map]; done) | (simp only [List.length_map]; omega) | omega))
  intro r hr
  repeat' (conv => whnf
           first
           | (refine get_id ?_; refine Get.mk _ rfl ?_)
           | (refine need_id ?_; refine Need.mk (by first | exact eqOk_of rfl | rfl | exact Nat.le_of_ble_eq_true rfl | exact ⟨rfl, Nat.le_of_ble_eq_true rfl⟩ | (simp [maxLen]; done) | decide | (simp [maxLen]; omega) | (simp_all [maxLen]; omega)) ?_)
           | refine Br.t ?_
           | refine Br.f ?_
           | refine Br.pos (by assumption) ?_
           | refine Br.neg (by assumption) ?_
           | refine Br.dpos (by with_reducible rfl) ?_
           | refine Br.dpos (by assumption) ?_
           | refine Br.dneg (by assumption) ?_
           | refine Br.d (fun _ => ?_) (fun _ => ?_)
           | refine Br.n ?_
           | refine Br.mk (fun _ => ?_) (fun _ => ?_)
           | refine NilB.mk (fun b hb => ?_)
           | refine alv_and (by first | rfl | done) ?_
           | refine DrawV.mk [] ?_
           | (refine appc_id ?_; first | (refine AppC.grow ?_ ?_; focus (first | rfl | (simp only [List.length_map]; done) | (simp; done) | omega)) | refine AppC.place ?_)
           | (refine eqk_id ?_; refine EqK.mk _ (by first | exact takeAll (by first | exact Nat.le_refl _ | (simp only [List.length_map]; exact Nat.le_refl _) | (simp; done) | omega) | exact wrapN (by omega) | exact wrap64 (by omega) (by omega) | (simp only [List.length_map, List.length_append, List.length_cons, List.length_nil, Int.toNat_natCast, Nat.sub_zero, Nat.zero_add, Nat.add_zero, Int.toNat_zero, Int.natCast_zero, Int.toNat_one, List.take_length, List.drop_zero, List.take_zero, List.nil_append, List.append_nil]; rfl) | rfl) ?_))
  all_goals (try (conv => whnf))
  · refine RangeV.on rfl its leftIt 6 48 (leftCaps e seen) [(3, .ptr 0 0 0), (5, .ptr 1 0 0), (6, .ptr 2 0 0), (7, .ptr 3 0 0), (9, .clo 48 (leftCaps e seen)), (10, I r), (11, .ptr 5 0 0), (50, .clo 48 (leftCaps e seen))]
      (fun j : Nat => [some ⟨24, 4, false, false, [[I e.peer, I e.base, .ext false 5 (e.out.map Msg.row), I e.seen]]⟩, some ⟨3, 1, false, false, [[I stop]]⟩, some ⟨4, 1, true, false, [[Bo false]]⟩, some ⟨39, 1, false, false, [[.own 4 its.length]]⟩, some ⟨3, 1, true, true, wantR its⟩, some ⟨3, 1, true, false, [[I j]]⟩])
      (fun j s => s = j) 0 hcon ?_ rfl rfl rfl (fun x => ⟨rfl, rfl⟩) (Nat.zero_le _) rfl (fun _ => rfl) ?_ ?_
    · refine AtS.mk [] [0, 1, 2, 3, 4, 5] rfl (by simp) rfl ?_ ?_
      · (repeat' (first | exact trivial | exact rfl | assumption | (refine ⟨_, rfl, ?_⟩) | (refine ⟨_, _, rfl, rfl, ?_⟩) | (refine And.intro ?_ ?_) | (refine Or.inl ⟨rfl, rfl, ?_⟩) | (refine Or.inl ⟨rfl, ?_⟩; focus (fail_if_success (refine And.intro ?_ ?_))) | (refine Or.inl (?_ : (_ : Nat) = _ ∧ _); refine ⟨?_, ?_⟩; focus (first | (simp only [List.length_map]; done) | (simp only [List.length_map, List.length_append, List.length_cons, List.length_nil]; done))) | exact Or.inl rfl | (refine Or.inr (Or.inr ⟨?_, ?_⟩)) | (refine Or.inr ⟨?_, ?_⟩) | (refine fun h => ?_; first | exact h | exact rfl | (cases h; done)) | (simp only [← List.map_drop, ← List.map_take]; exact rfl) | (simp only [List.length_map]; done) | (simp only [List.length_map]; omega) | omega))
      · (repeat' (first | exact trivial | exact rfl | assumption | (refine ⟨_, rfl, ?_⟩) | (refine ⟨_, _, rfl, rfl, ?_⟩) | (refine And.intro ?_ ?_) | (refine Or.inl ⟨rfl, rfl, ?_⟩) | (refine Or.inl ⟨rfl, ?_⟩; focus (fail_if_success (refine And.intro ?_ ?_))) | (refine Or.inl (?_ : (_ : Nat) = _ ∧ _); refine ⟨?_, ?_⟩; focus (first | (simp only [List.length_map]; done) | (simp only [List.length_map, List.length_append, List.length_cons, List.length_nil]; done))) | exact Or.inl rfl | (refine Or.inr (Or.inr ⟨?_, ?_⟩)) | (refine Or.inr ⟨?_, ?_⟩) | (refine fun h => ?_; first | exact h | exact rfl | (cases h; done)) | (simp only [← List.map_drop, ← List.map_take]; exact rfl) | (simp only [List.length_map]; done) | (simp only [List.length_map]; omega) | omega))
    · rintro _ hj j rfl
      obtain ⟨k, hk, h1, h2⟩ := leftFrom_mem seen e.out e.base its[j] (by rw [hits]; exact List.getElem_mem hj)
      have g1 : nth (wantR its) j = some [I its[j].1] := nth_map (fun p => [I p.1]) its j rfl hj
      have g2 : nth (e.out.map Msg.row) k = some its[j].2.row := (nth_map Msg.row e.out k rfl hk).trans (by rw [h2])
      generalize its[j] = x at *
      repeat' (conv => whnf
               first
               | (refine get_id ?_; first | refine Get.mk _ rfl ?_ | refine Get.mk _ (g1) ?_ | refine Get.mk _ ((show (x.1 - e.base - 1).toNat = k by omega) ▸ g2) ?_)
               | (refine need_id ?_; refine Need.mk (by first | exact eqOk_of rfl | rfl | exact Nat.le_of_ble_eq_true rfl | exact ⟨rfl, Nat.le_of_ble_eq_true rfl⟩ | (simp [maxLen]; done) | decide | (simp [maxLen]; omega) | (simp_all [maxLen]; omega)) ?_)
               | refine Br.t ?_
               | refine Br.f ?_
               | refine Br.pos (by assumption) ?_
               | refine Br.neg (by assumption) ?_
               | refine Br.dpos (by with_reducible rfl) ?_
               | refine Br.dpos (by assumption) ?_
               | refine Br.dneg (by assumption) ?_
               | refine Br.d (fun _ => ?_) (fun _ => ?_)
               | refine Br.n ?_
               | refine Br.mk (fun _ => ?_) (fun _ => ?_)
               | refine NilB.mk (fun b hb => ?_)
               | refine alv_and (by first | rfl | done) ?_
               | refine DrawV.mk [] ?_
               | (refine appc_id ?_; first | (refine AppC.grow ?_ ?_; focus (first | rfl | (simp only [List.length_map]; done) | (simp; done) | omega)) | refine AppC.place ?_)
               | (refine eqk_id ?_; refine EqK.mk _ (by first | exact takeAll (by first | exact Nat.le_refl _ | (simp only [List.length_map]; exact Nat.le_refl _) | (simp; done) | omega) | exact wrapN (by omega) | exact wrap64 (by omega) (by omega) | (simp only [List.length_map, List.length_append, List.length_cons, List.length_nil, Int.toNat_natCast, Nat.sub_zero, Nat.zero_add, Nat.add_zero, Int.toNat_zero, Int.natCast_zero, Int.toNat_one, List.take_length, List.drop_zero, List.take_zero, List.nil_append, List.append_nil]; rfl) | rfl) ?_))
      all_goals (try (conv => whnf))
      · omega
      · refine nxr (j + 1) rfl (AtS.mk [] [0, 1, 2, 3, 4, 5] rfl (by simp) rfl ?_ ?_)
        · (repeat' (first | exact trivial | exact rfl | assumption | (refine ⟨_, rfl, ?_⟩) | (refine ⟨_, _, rfl, rfl, ?_⟩) | (refine And.intro ?_ ?_) | (refine Or.inl ⟨rfl, rfl, ?_⟩) | (refine Or.inl ⟨rfl, ?_⟩; focus (fail_if_success (refine And.intro ?_ ?_))) | (refine Or.inl (?_ : (_ : Nat) = _ ∧ _); refine ⟨?_, ?_⟩; focus (first | (simp only [List.length_map]; done) | (simp only [List.length_map, List.length_append, List.length_cons, List.length_nil]; done))) | exact Or.inl rfl | (refine Or.inr (Or.inr ⟨?_, ?_⟩)) | (refine Or.inr ⟨?_, ?_⟩) | (refine fun h => ?_; first | exact h | exact rfl | (cases h; done)) | (simp only [← List.map_drop, ← List.map_take]; exact rfl) | (simp only [List.length_map]; done) | (simp only [List.length_map]; omega) | omega))
        · (repeat' (first | exact trivial | exact rfl | assumption | (refine ⟨_, rfl, ?_⟩) | (refine ⟨_, _, rfl, rfl, ?_⟩) | (refine And.intro ?_ ?_) | (refine Or.inl ⟨rfl, rfl, ?_⟩) | (refine Or.inl ⟨rfl, ?_⟩; focus (fail_if_success (refine And.intro ?_ ?_))) | (refine Or.inl (?_ : (_ : Nat) = _ ∧ _); refine ⟨?_, ?_⟩; focus (first | (simp only [List.length_map]; done) | (simp only [List.length_map, List.length_append, List.length_cons, List.length_nil]; done))) | exact Or.inl rfl | (refine Or.inr (Or.inr ⟨?_, ?_⟩)) | (refine Or.inr ⟨?_, ?_⟩) | (refine fun h => ?_; first | exact h | exact rfl | (cases h; done)) | (simp only [← List.map_drop, ← List.map_take]; exact rfl) | (simp only [List.length_map]; done) | (simp only [List.length_map]; omega) | omega))
      · rename_i hx
        simp at hx
    · rintro j rfl
      repeat' (conv => whnf
               first
               | (refine get_id ?_; refine Get.mk _ rfl ?_)
               | (refine need_id ?_; refine Need.mk (by first | exact eqOk_of rfl | rfl | exact Nat.le_of_ble_eq_true rfl | exact ⟨rfl, Nat.le_of_ble_eq_true rfl⟩ | (simp [maxLen]; done) | decide | (simp [maxLen]; omega) | (simp_all [maxLen]; omega)) ?_)
               | refine Br.t ?_
               | refine Br.f ?_
               | refine Br.pos (by assumption) ?_
               | refine Br.neg (by assumption) ?_
               | refine Br.dpos (by with_reducible rfl) ?_
               | refine Br.dpos (by assumption) ?_
               | refine Br.dneg (by assumption) ?_
               | refine Br.d (fun _ => ?_) (fun _ => ?_)
               | refine Br.n ?_
               | refine Br.mk (fun _ => ?_) (fun _ => ?_)
               | refine NilB.mk (fun b hb => ?_)
               | refine alv_and (by first | rfl | done) ?_
               | refine DrawV.mk [] ?_
               | (refine appc_id ?_; first | (refine AppC.grow ?_ ?_; focus (first | rfl | (simp only [List.length_map]; done) | (simp; done) | omega)) | refine AppC.place ?_)
               | (refine eqk_id ?_; refine EqK.mk _ (by first | exact takeAll (by first | exact Nat.le_refl _ | (simp only [List.length_map]; exact Nat.le_refl _) | (simp; done) | omega) | exact wrapN (by omega) | exact wrap64 (by omega) (by omega) | (simp only [List.length_map, List.length_append, List.length_cons, List.length_nil, Int.toNat_natCast, Nat.sub_zero, Nat.zero_add, Nat.add_zero, Int.toNat_zero, Int.natCast_zero, Int.toNat_one, List.take_length, List.drop_zero, List.take_zero, List.nil_append, List.append_nil]; rfl) | rfl) ?_))
      all_goals (try (conv => whnf))
      refine nx (r + 1) (by omega) (by omega) (AtS.mk [] [0, 1, 2, 3, 4] rfl (by simp) rfl ?_ ?_)
      · (repeat' (first | exact trivial | exact rfl | assumption | (refine ⟨_, rfl, ?_⟩) | (refine ⟨_, _, rfl, rfl, ?_⟩) | (refine And.intro ?_ ?_) | (refine Or.inl ⟨rfl, rfl, ?_⟩) | (refine Or.inl ⟨rfl, ?_⟩; focus (fail_if_success (refine And.intro ?_ ?_))) | (refine Or.inl (?_ : (_ : Nat) = _ ∧ _); refine ⟨?_, ?_⟩; focus (first | (simp only [List.length_map]; done) | (simp only [List.length_map, List.length_append, List.length_cons, List.length_nil]; done))) | exact Or.inl rfl | (refine Or.inr (Or.inr ⟨?_, ?_⟩)) | (refine Or.inr ⟨?_, ?_⟩) | (refine fun h => ?_; first | exact h | exact rfl | (cases h; done)) | (simp only [← List.map_drop, ← List.map_take]; exact rfl) | (simp only [List.length_map]; done) | (simp only [List.length_map]; omega) | omega))
      · (repeat' (first | exact trivial | exact rfl | assumption | (refine ⟨_, rfl, ?_⟩) | (refine ⟨_, _, rfl, rfl, ?_⟩) | (refine And.intro ?_ ?_) | (refine Or.inl ⟨rfl, rfl, ?_⟩) | (refine Or.inl ⟨rfl, ?_⟩; focus (fail_if_success (refine And.intro ?_ ?_))) | (refine Or.inl (?_ : (_ : Nat) = _ ∧ _); refine ⟨?_, ?_⟩; focus (first | (simp only [List.length_map]; done) | (simp only [List.length_map, List.length_append, List.length_cons, List.length_nil]; done))) | exact Or.inl rfl | (refine Or.inr (Or.inr ⟨?_, ?_⟩)) | (refine Or.inr ⟨?_, ?_⟩) | (refine fun h => ?_; first | exact h | exact rfl | (cases h; done)) | (simp only [← List.map_drop, ← List.map_take]; exact rfl) | (simp only [List.length_map]; done) | (simp only [List.length_map]; omega) | omega))
  · refine RangeV.on rfl its leftIt 6 48 (leftCaps e seen) [(3, .ptr 0 0 0), (5, .ptr 1 0 0), (6, .ptr 2 0 0), (7, .ptr 3 0 0), (14, .ptr 5 0 0), (84, .clo 48 (leftCaps e seen))]
      (fun j : Nat => [some ⟨24, 4, false, false, [[I e.peer, I e.base, .ext false 5 (e.out.map Msg.row), I e.seen]]⟩, some ⟨3, 1, false, false, [[I stop]]⟩, some ⟨4, 1, true, false, [[Bo false]]⟩, some ⟨39, 1, false, false, [[.own 4 its.length]]⟩, some ⟨3, 1, true, true, wantR its⟩, some ⟨3, 1, true, false, [[I j]]⟩])
      (fun j s => s = j ∧ (j = 0 ∨ j < stop)) 0 hcon ?_ ⟨rfl, .inl rfl⟩ rfl rfl (fun x => ⟨rfl, rfl⟩) (Nat.zero_le _) rfl (fun _ => rfl) ?_ ?_
    · refine AtS.mk [] [0, 1, 2, 3, 4, 5] rfl (by simp) rfl ?_ ?_
      · (repeat' (first | exact trivial | exact rfl | assumption | (refine ⟨_, rfl, ?_⟩) | (refine ⟨_, _, rfl, rfl, ?_⟩) | (refine And.intro ?_ ?_) | (refine Or.inl ⟨rfl, rfl, ?_⟩) | (refine Or.inl ⟨rfl, ?_⟩; focus (fail_if_success (refine And.intro ?_ ?_))) | (refine Or.inl (?_ : (_ : Nat) = _ ∧ _); refine ⟨?_, ?_⟩; focus (first | (simp only [List.length_map]; done) | (simp only [List.length_map, List.length_append, List.length_cons, List.length_nil]; done))) | exact Or.inl rfl | (refine Or.inr (Or.inr ⟨?_, ?_⟩)) | (refine Or.inr ⟨?_, ?_⟩) | (refine fun h => ?_; first | exact h | exact rfl | (cases h; done)) | (simp only [← List.map_drop, ← List.map_take]; exact rfl) | (simp only [List.length_map]; done) | (simp only [List.length_map]; omega) | omega))
      · (repeat' (first | exact trivial | exact rfl | assumption | (refine ⟨_, rfl, ?_⟩) | (refine ⟨_, _, rfl, rfl, ?_⟩) | (refine And.intro ?_ ?_) | (refine Or.inl ⟨rfl, rfl, ?_⟩) | (refine Or.inl ⟨rfl, ?_⟩; focus (fail_if_success (refine And.intro ?_ ?_))) | (refine Or.inl (?_ : (_ : Nat) = _ ∧ _); refine ⟨?_, ?_⟩; focus (first | (simp only [List.length_map]; done) | (simp only [List.length_map, List.length_append, List.length_cons, List.length_nil]; done))) | exact Or.inl rfl | (refine Or.inr (Or.inr ⟨?_, ?_⟩)) | (refine Or.inr ⟨?_, ?_⟩) | (refine fun h => ?_; first | exact h | exact rfl | (cases h; done)) | (simp only [← List.map_drop, ← List.map_take]; exact rfl) | (simp only [List.length_map]; done) | (simp only [List.length_map]; omega) | omega))
    · rintro _ hj j ⟨rfl, hs⟩
      repeat' (conv => whnf
               first
               | (refine get_id ?_; refine Get.mk _ rfl ?_)
               | (refine need_id ?_; refine Need.mk (by first | exact eqOk_of rfl | rfl | exact Nat.le_of_ble_eq_true rfl | exact ⟨rfl, Nat.le_of_ble_eq_true rfl⟩ | (simp [maxLen]; done) | decide | (simp [maxLen]; omega) | (simp_all [maxLen]; omega)) ?_)
               | refine Br.t ?_
               | refine Br.f ?_
               | refine Br.pos (by assumption) ?_
               | refine Br.neg (by assumption) ?_
               | refine Br.dpos (by with_reducible rfl) ?_
               | refine Br.dpos (by assumption) ?_
               | refine Br.dneg (by assumption) ?_
               | refine Br.d (fun _ => ?_) (fun _ => ?_)
               | refine Br.n ?_
               | refine Br.mk (fun _ => ?_) (fun _ => ?_)
               | refine NilB.mk (fun b hb => ?_)
               | refine alv_and (by first | rfl | done) ?_
               | refine DrawV.mk [] ?_
               | (refine appc_id ?_; first | (refine AppC.grow ?_ ?_; focus (first | rfl | (simp only [List.length_map]; done) | (simp; done) | omega)) | refine AppC.place ?_)
               | (refine eqk_id ?_; refine EqK.mk _ (by first | exact takeAll (by first | exact Nat.le_refl _ | (simp only [List.length_map]; exact Nat.le_refl _) | (simp; done) | omega) | exact wrapN (by omega) | exact wrap64 (by omega) (by omega) | (simp only [List.length_map, List.length_append, List.length_cons, List.length_nil, Int.toNat_natCast, Nat.sub_zero, Nat.zero_add, Nat.add_zero, Int.toNat_zero, Int.natCast_zero, Int.toNat_one, List.take_length, List.drop_zero, List.take_zero, List.nil_append, List.append_nil]; rfl) | rfl) ?_))
      all_goals (try (conv => whnf))
      · exact RetP.v rfl
      · exact RetP.v (by congr 1; simp; omega)
      · omega
      · refine nxr (j + 1) ⟨rfl, by omega⟩ (AtS.mk [] [0, 1, 2, 3, 4, 5] rfl (by simp) rfl ?_ ?_)
        · (repeat' (first | exact trivial | exact rfl | assumption | (refine ⟨_, rfl, ?_⟩) | (refine ⟨_, _, rfl, rfl, ?_⟩) | (refine And.intro ?_ ?_) | (refine Or.inl ⟨rfl, rfl, ?_⟩) | (refine Or.inl ⟨rfl, ?_⟩; focus (fail_if_success (refine And.intro ?_ ?_))) | (refine Or.inl (?_ : (_ : Nat) = _ ∧ _); refine ⟨?_, ?_⟩; focus (first | (simp only [List.length_map]; done) | (simp only [List.length_map, List.length_append, List.length_cons, List.length_nil]; done))) | exact Or.inl rfl | (refine Or.inr (Or.inr ⟨?_, ?_⟩)) | (refine Or.inr ⟨?_, ?_⟩) | (refine fun h => ?_; first | exact h | exact rfl | (cases h; done)) | (simp only [← List.map_drop, ← List.map_take]; exact rfl) | (simp only [List.length_map]; done) | (simp only [List.length_map]; omega) | omega))
        · (repeat' (first | exact trivial | exact rfl | assumption | (refine ⟨_, rfl, ?_⟩) | (refine ⟨_, _, rfl, rfl, ?_⟩) | (refine And.intro ?_ ?_) | (refine Or.inl ⟨rfl, rfl, ?_⟩) | (refine Or.inl ⟨rfl, ?_⟩; focus (fail_if_success (refine And.intro ?_ ?_))) | (refine Or.inl (?_ : (_ : Nat) = _ ∧ _); refine ⟨?_, ?_⟩; focus (first | (simp only [List.length_map]; done) | (simp only [List.length_map, List.length_append, List.length_cons, List.length_nil]; done))) | exact Or.inl rfl | (refine Or.inr (Or.inr ⟨?_, ?_⟩)) | (refine Or.inr ⟨?_, ?_⟩) | (refine fun h => ?_; first | exact h | exact rfl | (cases h; done)) | (simp only [← List.map_drop, ← List.map_take]; exact rfl) | (simp only [List.length_map]; done) | (simp only [List.length_map]; omega) | omega))
    · rintro j ⟨rfl, hs⟩
      repeat' (conv => whnf
               first
               | (refine get_id ?_; refine Get.mk _ rfl ?_)
               | (refine need_id ?_; refine Need.mk (by first | exact eqOk_of rfl | rfl | exact Nat.le_of_ble_eq_true rfl | exact ⟨rfl, Nat.le_of_ble_eq_true rfl⟩ | (simp [maxLen]; done) | decide | (simp [maxLen]; omega) | (simp_all [maxLen]; omega)) ?_)
               | refine Br.t ?_
               | refine Br.f ?_
               | refine Br.pos (by assumption) ?_
               | refine Br.neg (by assumption) ?_
               | refine Br.dpos (by with_reducible rfl) ?_
               | refine Br.dpos (by assumption) ?_
               | refine Br.dneg (by assumption) ?_
               | refine Br.d (fun _ => ?_) (fun _ => ?_)
               | refine Br.n ?_
               | refine Br.mk (fun _ => ?_) (fun _ => ?_)
               | refine NilB.mk (fun b hb => ?_)
               | refine alv_and (by first | rfl | done) ?_
               | refine DrawV.mk [] ?_
               | (refine appc_id ?_; first | (refine AppC.grow ?_ ?_; focus (first | rfl | (simp only [List.length_map]; done) | (simp; done) | omega)) | refine AppC.place ?_)
               | (refine eqk_id ?_; refine EqK.mk _ (by first | exact takeAll (by first | exact Nat.le_refl _ | (simp only [List.length_map]; exact Nat.le_refl _) | (simp; done) | omega) | exact wrapN (by omega) | exact wrap64 (by omega) (by omega) | (simp only [List.length_map, List.length_append, List.length_cons, List.length_nil, Int.toNat_natCast, Nat.sub_zero, Nat.zero_add, Nat.add_zero, Int.toNat_zero, Int.natCast_zero, Int.toNat_one, List.take_length, List.drop_zero, List.take_zero, List.nil_append, List.append_nil]; rfl) | rfl) ?_))
      all_goals (try (conv => whnf))
      · exact RetP.v rfl
      · exact RetP.v (by congr 1; simp; omega)
      · omega
set_option maxRecDepth 20000 in
set_option maxHeartbeats 2000000 in
theorem halfLeft_bad (e : Edge) (seen stop : Int) (hg : e.good = false) (h : e.out.length * 40 ≤ 140737488351232) : PCon Try.prog 7 [e.exf false, I seen, I stop] (Bo true) [] := by
  refine pcon_of (G := gm) Try.func7 rfl rfl rfl ?_
  have hcon := left1_icon e seen (by omega)
  have hl : leftS e seen = [] := by simp [leftS, hg]
  rw [hl] at hcon
  repeat' (conv => whnf
           first
           | (refine get_id ?_; refine Get.mk _ rfl ?_)
           | (refine need_id ?_; refine Need.mk (by first | exact eqOk_of rfl | rfl | exact Nat.le_of_ble_eq_true rfl | exact ⟨rfl, Nat.le_of_ble_eq_true rfl⟩ | (simp [maxLen]; done) | decide | (simp [maxLen]; omega) | (simp_all [maxLen]; omega)) ?_)
           | refine Br.t ?_
           | refine Br.f ?_
           | refine Br.pos (by assumption) ?_
           | refine Br.neg (by assumption) ?_
           | refine Br.dpos (by with_reducible rfl) ?_
           | refine Br.dpos (by assumption) ?_
           | refine Br.dneg (by assumption) ?_
           | refine Br.d (fun _ => ?_) (fun _ => ?_)
           | refine Br.n ?_
           | refine Br.mk (fun _ => ?_) (fun _ => ?_)
           | refine NilB.mk (fun b hb => ?_)
           | refine alv_and (by first | rfl | done) ?_
           | refine DrawV.mk [] ?_
           | (refine appc_id ?_; first | (refine AppC.grow ?_ ?_; focus (first | rfl | (simp only [List.length_map]; done) | (simp; done) | omega)) | refine AppC.place ?_)
           | (refine eqk_id ?_; refine EqK.mk _ (by first | exact takeAll (by first | exact Nat.le_refl _ | (simp only [List.length_map]; exact Nat.le_refl _) | (simp; done) | omega) | exact wrapN (by omega) | exact wrap64 (by omega) (by omega) | (simp only [List.length_map, List.length_append, List.length_cons, List.length_nil, Int.toNat_natCast, Nat.sub_zero, Nat.zero_add, Nat.add_zero, Int.toNat_zero, Int.natCast_zero, Int.toNat_one, List.take_length, List.drop_zero, List.take_zero, List.nil_append, List.append_nil]; rfl) | rfl) ?_)
           | (refine call_id ?_; first
                | refine CallV.mk _ _ _ (by (repeat' (first | exact trivial | exact rfl | assumption | (refine ⟨_, rfl, ?_⟩) | (refine ⟨_, _, rfl, rfl, ?_⟩) | (refine And.intro ?_ ?_) | (refine Or.inl ⟨rfl, rfl, ?_⟩) | (refine Or.inl ⟨rfl, ?_⟩; focus (fail_if_success (refine And.intro ?_ ?_))) | (refine Or.inl (?_ : (_ : Nat) = _ ∧ _); refine ⟨?_, ?_⟩; focus (first | (simp only [List.length_map]; done) | (simp only [List.length_map, List.length_append, List.length_cons, List.length_nil]; done))) | exact Or.inl rfl | (refine Or.inr (Or.inr ⟨?_, ?_⟩)) | (refine Or.inr ⟨?_, ?_⟩) | (refine fun h => ?_; first | exact h | exact rfl | (cases h; done)) | (simp only [← List.map_drop, ← List.map_take]; exact rfl) | (simp only [List.length_map]; done) | (simp only [List.length_map]; omega) | omega)); first | done | fail) (wakes_pcon) ?_
                | refine CallV.mk _ _ _ (by (repeat' (first | exact trivial | exact rfl | assumption | (refine ⟨_, rfl, ?_⟩) | (refine ⟨_, _, rfl, rfl, ?_⟩) | (refine And.intro ?_ ?_) | (refine Or.inl ⟨rfl, rfl, ?_⟩) | (refine Or.inl ⟨rfl, ?_⟩; focus (fail_if_success (refine And.intro ?_ ?_))) | (refine Or.inl (?_ : (_ : Nat) = _ ∧ _); refine ⟨?_, ?_⟩; focus (first | (simp only [List.length_map]; done) | (simp only [List.length_map, List.length_append, List.length_cons, List.length_nil]; done))) | exact Or.inl rfl | (refine Or.inr (Or.inr ⟨?_, ?_⟩)) | (refine Or.inr ⟨?_, ?_⟩) | (refine fun h => ?_; first | exact h | exact rfl | (cases h; done)) | (simp only [← List.map_drop, ← List.map_take]; exact rfl) | (simp only [List.length_map]; done) | (simp only [List.length_map]; omega) | omega)); first | done | fail) (refgood_pcon e _ (by omega)) ?_
                | refine CallV.mk _ _ _ (by (repeat' (first | exact trivial | exact rfl | assumption | (refine ⟨_, rfl, ?_⟩) | (refine ⟨_, _, rfl, rfl, ?_⟩) | (refine And.intro ?_ ?_) | (refine Or.inl ⟨rfl, rfl, ?_⟩) | (refine Or.inl ⟨rfl, ?_⟩; focus (fail_if_success (refine And.intro ?_ ?_))) | (refine Or.inl (?_ : (_ : Nat) = _ ∧ _); refine ⟨?_, ?_⟩; focus (first | (simp only [List.length_map]; done) | (simp only [List.length_map, List.length_append, List.length_cons, List.length_nil]; done))) | exact Or.inl rfl | (refine Or.inr (Or.inr ⟨?_, ?_⟩)) | (refine Or.inr ⟨?_, ?_⟩) | (refine fun h => ?_; first | exact h | exact rfl | (cases h; done)) | (simp only [← List.map_drop, ← List.map_take]; exact rfl) | (simp only [List.length_map]; done) | (simp only [List.length_map]; omega) | omega)); first | done | fail) (left_pcon e _ seen (by omega)) ?_)
           | (refine calls_id ?_; first
                | refine CallS.pure _ _ _ (by (repeat' (first | exact trivial | exact rfl | assumption | (refine ⟨_, rfl, ?_⟩) | (refine ⟨_, _, rfl, rfl, ?_⟩) | (refine And.intro ?_ ?_) | (refine Or.inl ⟨rfl, rfl, ?_⟩) | (refine Or.inl ⟨rfl, ?_⟩; focus (fail_if_success (refine And.intro ?_ ?_))) | (refine Or.inl (?_ : (_ : Nat) = _ ∧ _); refine ⟨?_, ?_⟩; focus (first | (simp only [List.length_map]; done) | (simp only [List.length_map, List.length_append, List.length_cons, List.length_nil]; done))) | exact Or.inl rfl | (refine Or.inr (Or.inr ⟨?_, ?_⟩)) | (refine Or.inr ⟨?_, ?_⟩) | (refine fun h => ?_; first | exact h | exact rfl | (cases h; done)) | (simp only [← List.map_drop, ← List.map_take]; exact rfl) | (simp only [List.length_map]; done) | (simp only [List.length_map]; omega) | omega)); first | done | fail) (wakes_pcon) ?_
                | refine CallS.pure _ _ _ (by (repeat' (first | exact trivial | exact rfl | assumption | (refine ⟨_, rfl, ?_⟩) | (refine ⟨_, _, rfl, rfl, ?_⟩) | (refine And.intro ?_ ?_) | (refine Or.inl ⟨rfl, rfl, ?_⟩) | (refine Or.inl ⟨rfl, ?_⟩; focus (fail_if_success (refine And.intro ?_ ?_))) | (refine Or.inl (?_ : (_ : Nat) = _ ∧ _); refine ⟨?_, ?_⟩; focus (first | (simp only [List.length_map]; done) | (simp only [List.length_map, List.length_append, List.length_cons, List.length_nil]; done))) | exact Or.inl rfl | (refine Or.inr (Or.inr ⟨?_, ?_⟩)) | (refine Or.inr ⟨?_, ?_⟩) | (refine fun h => ?_; first | exact h | exact rfl | (cases h; done)) | (simp only [← List.map_drop, ← List.map_take]; exact rfl) | (simp only [List.length_map]; done) | (simp only [List.length_map]; omega) | omega)); first | done | fail) (refgood_pcon e _ (by omega)) ?_
                | refine CallS.pure _ _ _ (by (repeat' (first | exact trivial | exact rfl | assumption | (refine ⟨_, rfl, ?_⟩) | (refine ⟨_, _, rfl, rfl, ?_⟩) | (refine And.intro ?_ ?_) | (refine Or.inl ⟨rfl, rfl, ?_⟩) | (refine Or.inl ⟨rfl, ?_⟩; focus (fail_if_success (refine And.intro ?_ ?_))) | (refine Or.inl (?_ : (_ : Nat) = _ ∧ _); refine ⟨?_, ?_⟩; focus (first | (simp only [List.length_map]; done) | (simp only [List.length_map, List.length_append, List.length_cons, List.length_nil]; done))) | exact Or.inl rfl | (refine Or.inr (Or.inr ⟨?_, ?_⟩)) | (refine Or.inr ⟨?_, ?_⟩) | (refine fun h => ?_; first | exact h | exact rfl | (cases h; done)) | (simp only [← List.map_drop, ← List.map_take]; exact rfl) | (simp only [List.length_map]; done) | (simp only [List.length_map]; omega) | omega)); first | done | fail) (left_pcon e _ seen (by omega)) ?_))
  all_goals (try (conv => whnf))
  refine LoopV.on (σ := Nat) rfl (fun r => [(3, .ptr 0 0 0), (5, .ptr 1 0 0), (6, .ptr 2 0 0), (7, .ptr 3 0 0), (9, .clo 48 (leftCaps e seen)), (10, I r)]) (fun _ => [some ⟨24, 4, false, false, [[I e.peer, I e.base, .ext false 5 (e.out.map Msg.row), I e.seen]]⟩, some ⟨3, 1, false, false, [[I stop]]⟩, some ⟨4, 1, true, false, [[Bo false]]⟩, some ⟨39, 1, true, false, [[.val (.slice none 0 0)]]⟩])
    (fun r => r ≤ 2) (fun r => 2 - r) 0 ?_ (by omega) ?_
  · refine AtS.mk [] [0, 1, 2, 3] rfl (by simp) rfl ?_ ?_
    · (repeat' (first | exact trivial | exact rfl | assumption | (refine ⟨_, rfl, ?_⟩) | (refine ⟨_, _, rfl, rfl, ?_⟩) | (refine And.intro ?_ ?_) | (refine Or.inl ⟨rfl, rfl, ?_⟩) | (refine Or.inl ⟨rfl, ?_⟩; focus (fail_if_success (refine And.intro ?_ ?_))) | (refine Or.inl (?_ : (_ : Nat) = _ ∧ _); refine ⟨?_, ?_⟩; focus (first | (simp only [List.length_map]; done) | (simp only [List.length_map, List.length_append, List.length_cons, List.length_nil]; done))) | exact Or.inl rfl | (refine Or.inr (Or.inr ⟨?_, ?_⟩)) | (refine Or.inr ⟨?_, ?_⟩) | (refine fun h => ?_; first | exact h | exact rfl | (cases h; done)) | (simp only [← List.map_drop, ← List.map_take]; exact rfl) | (simp only [List.length_map]; done) | (simp only [List.length_map]; omega) | omega))
    · unfold leftCaps
      (repeat' (first | exact trivial | exact rfl | assumption | (refine ⟨_, rfl, ?_⟩) | (refine ⟨_, _, rfl, rfl, ?_⟩) | (refine And.intro ?_ ?_) | (refine Or.inl ⟨rfl, rfl, ?_⟩) | (refine Or.inl ⟨rfl, ?_⟩; focus (fail_if_success (refine And.intro ?_ ?_))) | (refine Or.inl (?_ : (_ : Nat) = _ ∧ _); refine ⟨?_, ?_⟩; focus (first | (simp only [List.length_map]; done) | (simp only [List.length_map, List.length_append, List.length_cons, List.length_nil]; done))) | exact Or.inl rfl | (refine Or.inr (Or.inr ⟨?_, ?_⟩)) | (refine Or.inr ⟨?_, ?_⟩) | (refine fun h => ?_; first | exact h | exact rfl | (cases h; done)) | (simp only [← List.map_drop, ← List.map_take]; exact rfl) | (simp only [List.length_map]; done) | (simp only [List.length_map]; omega) | omega))
  intro r hr
  repeat' (conv => whnf
           first
           | (refine get_id ?_; refine Get.mk _ rfl ?_)
           | (refine need_id ?_; refine Need.mk (by first | exact eqOk_of rfl | rfl | exact Nat.le_of_ble_eq_true rfl | exact ⟨rfl, Nat.le_of_ble_eq_true rfl⟩ | (simp [maxLen]; done) | decide | (simp [maxLen]; omega) | (simp_all [maxLen]; omega)) ?_)
           | refine Br.t ?_
           | refine Br.f ?_
           | refine Br.pos (by assumption) ?_
           | refine Br.neg (by assumption) ?_
           | refine Br.dpos (by with_reducible rfl) ?_
           | refine Br.dpos (by assumption) ?_
           | refine Br.dneg (by assumption) ?_
           | refine Br.d (fun _ => ?_) (fun _ => ?_)
           | refine Br.n ?_
           | refine Br.mk (fun _ => ?_) (fun _ => ?_)
           | refine NilB.mk (fun b hb => ?_)
           | refine alv_and (by first | rfl | done) ?_
           | refine DrawV.mk [] ?_
           | (refine appc_id ?_; first | (refine AppC.grow ?_ ?_; focus (first | rfl | (simp only [List.length_map]; done) | (simp; done) | omega)) | refine AppC.place ?_)
           | (refine eqk_id ?_; refine EqK.mk _ (by first | exact takeAll (by first | exact Nat.le_refl _ | (simp only [List.length_map]; exact Nat.le_refl _) | (simp; done) | omega) | exact wrapN (by omega) | exact wrap64 (by omega) (by omega) | (simp only [List.length_map, List.length_append, List.length_cons, List.length_nil, Int.toNat_natCast, Nat.sub_zero, Nat.zero_add, Nat.add_zero, Int.toNat_zero, Int.natCast_zero, Int.toNat_one, List.take_length, List.drop_zero, List.take_zero, List.nil_append, List.append_nil]; rfl) | rfl) ?_))
  all_goals (try (conv => whnf))
  · refine RangeV.on rfl [] leftIt 5 48 (leftCaps e seen) [(3, .ptr 0 0 0), (5, .ptr 1 0 0), (6, .ptr 2 0 0), (7, .ptr 3 0 0), (9, .clo 48 (leftCaps e seen)), (10, I r), (11, .ptr 4 0 0), (50, .clo 48 (leftCaps e seen))]
      (fun j : Nat => [some ⟨24, 4, false, false, [[I e.peer, I e.base, .ext false 5 (e.out.map Msg.row), I e.seen]]⟩, some ⟨3, 1, false, false, [[I stop]]⟩, some ⟨4, 1, true, false, [[Bo false]]⟩, some ⟨39, 1, true, false, [[.val (.slice none 0 0)]]⟩, some ⟨3, 1, true, false, [[I j]]⟩])
      (fun j s => s = j) 0 hcon ?_ rfl rfl rfl (fun x => ⟨rfl, rfl⟩) (Nat.zero_le _) rfl (fun _ => rfl) (fun _ h => by simp at h) ?_
    · refine AtS.mk [] [0, 1, 2, 3, 4] rfl (by simp) rfl ?_ ?_
      · (repeat' (first | exact trivial | exact rfl | assumption | (refine ⟨_, rfl, ?_⟩) | (refine ⟨_, _, rfl, rfl, ?_⟩) | (refine And.intro ?_ ?_) | (refine Or.inl ⟨rfl, rfl, ?_⟩) | (refine Or.inl ⟨rfl, ?_⟩; focus (fail_if_success (refine And.intro ?_ ?_))) | (refine Or.inl (?_ : (_ : Nat) = _ ∧ _); refine ⟨?_, ?_⟩; focus (first | (simp only [List.length_map]; done) | (simp only [List.length_map, List.length_append, List.length_cons, List.length_nil]; done))) | exact Or.inl rfl | (refine Or.inr (Or.inr ⟨?_, ?_⟩)) | (refine Or.inr ⟨?_, ?_⟩) | (refine fun h => ?_; first | exact h | exact rfl | (cases h; done)) | (simp only [← List.map_drop, ← List.map_take]; exact rfl) | (simp only [List.length_map]; done) | (simp only [List.length_map]; omega) | omega))
      · (repeat' (first | exact trivial | exact rfl | assumption | (refine ⟨_, rfl, ?_⟩) | (refine ⟨_, _, rfl, rfl, ?_⟩) | (refine And.intro ?_ ?_) | (refine Or.inl ⟨rfl, rfl, ?_⟩) | (refine Or.inl ⟨rfl, ?_⟩; focus (fail_if_success (refine And.intro ?_ ?_))) | (refine Or.inl (?_ : (_ : Nat) = _ ∧ _); refine ⟨?_, ?_⟩; focus (first | (simp only [List.length_map]; done) | (simp only [List.length_map, List.length_append, List.length_cons, List.length_nil]; done))) | exact Or.inl rfl | (refine Or.inr (Or.inr ⟨?_, ?_⟩)) | (refine Or.inr ⟨?_, ?_⟩) | (refine fun h => ?_; first | exact h | exact rfl | (cases h; done)) | (simp only [← List.map_drop, ← List.map_take]; exact rfl) | (simp only [List.length_map]; done) | (simp only [List.length_map]; omega) | omega))
    · rintro j rfl
      repeat' (conv => whnf
               first
               | (refine get_id ?_; refine Get.mk _ rfl ?_)
               | (refine need_id ?_; refine Need.mk (by first | exact eqOk_of rfl | rfl | exact Nat.le_of_ble_eq_true rfl | exact ⟨rfl, Nat.le_of_ble_eq_true rfl⟩ | (simp [maxLen]; done) | decide | (simp [maxLen]; omega) | (simp_all [maxLen]; omega)) ?_)
               | refine Br.t ?_
               | refine Br.f ?_
               | refine Br.pos (by assumption) ?_
               | refine Br.neg (by assumption) ?_
               | refine Br.dpos (by with_reducible rfl) ?_
               | refine Br.dpos (by assumption) ?_
               | refine Br.dneg (by assumption) ?_
               | refine Br.d (fun _ => ?_) (fun _ => ?_)
               | refine Br.n ?_
               | refine Br.mk (fun _ => ?_) (fun _ => ?_)
               | refine NilB.mk (fun b hb => ?_)
               | refine alv_and (by first | rfl | done) ?_
               | refine DrawV.mk [] ?_
               | (refine appc_id ?_; first | (refine AppC.grow ?_ ?_; focus (first | rfl | (simp only [List.length_map]; done) | (simp; done) | omega)) | refine AppC.place ?_)
               | (refine eqk_id ?_; refine EqK.mk _ (by first | exact takeAll (by first | exact Nat.le_refl _ | (simp only [List.length_map]; exact Nat.le_refl _) | (simp; done) | omega) | exact wrapN (by omega) | exact wrap64 (by omega) (by omega) | (simp only [List.length_map, List.length_append, List.length_cons, List.length_nil, Int.toNat_natCast, Nat.sub_zero, Nat.zero_add, Nat.add_zero, Int.toNat_zero, Int.natCast_zero, Int.toNat_one, List.take_length, List.drop_zero, List.take_zero, List.nil_append, List.append_nil]; rfl) | rfl) ?_))
      all_goals (try (conv => whnf))
      refine nx (r + 1) (by omega) (by omega) (AtS.mk [] [0, 1, 2, 3] rfl (by simp) rfl ?_ ?_)
      · (repeat' (first | exact trivial | exact rfl | assumption | (refine ⟨_, rfl, ?_⟩) | (refine ⟨_, _, rfl, rfl, ?_⟩) | (refine And.intro ?_ ?_) | (refine Or.inl ⟨rfl, rfl, ?_⟩) | (refine Or.inl ⟨rfl, ?_⟩; focus (fail_if_success (refine And.intro ?_ ?_))) | (refine Or.inl (?_ : (_ : Nat) = _ ∧ _); refine ⟨?_, ?_⟩; focus (first | (simp only [List.length_map]; done) | (simp only [List.length_map, List.length_append, List.length_cons, List.length_nil]; done))) | exact Or.inl rfl | (refine Or.inr (Or.inr ⟨?_, ?_⟩)) | (refine Or.inr ⟨?_, ?_⟩) | (refine fun h => ?_; first | exact h | exact rfl | (cases h; done)) | (simp only [← List.map_drop, ← List.map_take]; exact rfl) | (simp only [List.length_map]; done) | (simp only [List.length_map]; omega) | omega))
      · (repeat' (first | exact trivial | exact rfl | assumption | (refine ⟨_, rfl, ?_⟩) | (refine ⟨_, _, rfl, rfl, ?_⟩) | (refine And.intro ?_ ?_) | (refine Or.inl ⟨rfl, rfl, ?_⟩) | (refine Or.inl ⟨rfl, ?_⟩; focus (fail_if_success (refine And.intro ?_ ?_))) | (refine Or.inl (?_ : (_ : Nat) = _ ∧ _); refine ⟨?_, ?_⟩; focus (first | (simp only [List.length_map]; done) | (simp only [List.length_map, List.length_append, List.length_cons, List.length_nil]; done))) | exact Or.inl rfl | (refine Or.inr (Or.inr ⟨?_, ?_⟩)) | (refine Or.inr ⟨?_, ?_⟩) | (refine fun h => ?_; first | exact h | exact rfl | (cases h; done)) | (simp only [← List.map_drop, ← List.map_take]; exact rfl) | (simp only [List.length_map]; done) | (simp only [List.length_map]; omega) | omega))
  · refine RangeV.on rfl [] leftIt 5 48 (leftCaps e seen) [(3, .ptr 0 0 0), (5, .ptr 1 0 0), (6, .ptr 2 0 0), (7, .ptr 3 0 0), (14, .ptr 4 0 0), (84, .clo 48 (leftCaps e seen))]
      (fun j : Nat => [some ⟨24, 4, false, false, [[I e.peer, I e.base, .ext false 5 (e.out.map Msg.row), I e.seen]]⟩, some ⟨3, 1, false, false, [[I stop]]⟩, some ⟨4, 1, true, false, [[Bo false]]⟩, some ⟨39, 1, true, false, [[.val (.slice none 0 0)]]⟩, some ⟨3, 1, true, false, [[I j]]⟩])
      (fun j s => s = j) 0 hcon ?_ rfl rfl rfl (fun x => ⟨rfl, rfl⟩) (Nat.zero_le _) rfl (fun _ => rfl) (fun _ h => by simp at h) ?_
    · refine AtS.mk [] [0, 1, 2, 3, 4] rfl (by simp) rfl ?_ ?_
      · (repeat' (first | exact trivial | exact rfl | assumption | (refine ⟨_, rfl, ?_⟩) | (refine ⟨_, _, rfl, rfl, ?_⟩) | (refine And.intro ?_ ?_) | (refine Or.inl ⟨rfl, rfl, ?_⟩) | (refine Or.inl ⟨rfl, ?_⟩; focus (fail_if_success (refine And.intro ?_ ?_))) | (refine Or.inl (?_ : (_ : Nat) = _ ∧ _); refine ⟨?_, ?_⟩; focus (first | (simp only [List.length_map]; done) | (simp only [List.length_map, List.length_append, List.length_cons, List.length_nil]; done))) | exact Or.inl rfl | (refine Or.inr (Or.inr ⟨?_, ?_⟩)) | (refine Or.inr ⟨?_, ?_⟩) | (refine fun h => ?_; first | exact h | exact rfl | (cases h; done)) | (simp only [← List.map_drop, ← List.map_take]; exact rfl) | (simp only [List.length_map]; done) | (simp only [List.length_map]; omega) | omega))
      · (repeat' (first | exact trivial | exact rfl | assumption | (refine ⟨_, rfl, ?_⟩) | (refine ⟨_, _, rfl, rfl, ?_⟩) | (refine And.intro ?_ ?_) | (refine Or.inl ⟨rfl, rfl, ?_⟩) | (refine Or.inl ⟨rfl, ?_⟩; focus (fail_if_success (refine And.intro ?_ ?_))) | (refine Or.inl (?_ : (_ : Nat) = _ ∧ _); refine ⟨?_, ?_⟩; focus (first | (simp only [List.length_map]; done) | (simp only [List.length_map, List.length_append, List.length_cons, List.length_nil]; done))) | exact Or.inl rfl | (refine Or.inr (Or.inr ⟨?_, ?_⟩)) | (refine Or.inr ⟨?_, ?_⟩) | (refine fun h => ?_; first | exact h | exact rfl | (cases h; done)) | (simp only [← List.map_drop, ← List.map_take]; exact rfl) | (simp only [List.length_map]; done) | (simp only [List.length_map]; omega) | omega))
    · rintro j rfl
      repeat' (conv => whnf
               first
               | (refine get_id ?_; refine Get.mk _ rfl ?_)
               | (refine need_id ?_; refine Need.mk (by first | exact eqOk_of rfl | rfl | exact Nat.le_of_ble_eq_true rfl | exact ⟨rfl, Nat.le_of_ble_eq_true rfl⟩ | (simp [maxLen]; done) | decide | (simp [maxLen]; omega) | (simp_all [maxLen]; omega)) ?_)
               | refine Br.t ?_
               | refine Br.f ?_
               | refine Br.pos (by assumption) ?_
               | refine Br.neg (by assumption) ?_
               | refine Br.dpos (by with_reducible rfl) ?_
               | refine Br.dpos (by assumption) ?_
               | refine Br.dneg (by assumption) ?_
               | refine Br.d (fun _ => ?_) (fun _ => ?_)
               | refine Br.n ?_
               | refine Br.mk (fun _ => ?_) (fun _ => ?_)
               | refine NilB.mk (fun b hb => ?_)
               | refine alv_and (by first | rfl | done) ?_
               | refine DrawV.mk [] ?_
               | (refine appc_id ?_; first | (refine AppC.grow ?_ ?_; focus (first | rfl | (simp only [List.length_map]; done) | (simp; done) | omega)) | refine AppC.place ?_)
               | (refine eqk_id ?_; refine EqK.mk _ (by first | exact takeAll (by first | exact Nat.le_refl _ | (simp only [List.length_map]; exact Nat.le_refl _) | (simp; done) | omega) | exact wrapN (by omega) | exact wrap64 (by omega) (by omega) | (simp only [List.length_map, List.length_append, List.length_cons, List.length_nil, Int.toNat_natCast, Nat.sub_zero, Nat.zero_add, Nat.add_zero, Int.toNat_zero, Int.natCast_zero, Int.toNat_one, List.take_length, List.drop_zero, List.take_zero, List.nil_append, List.append_nil]; rfl) | rfl) ?_))
      all_goals (try (conv => whnf))
      · exact RetP.v rfl
      · exact RetP.v (by congr 1; simp; omega)
theorem halfLeft_pcon (e : Edge) (seen stop : Int) (h : e.out.length * 40 ≤ 140737488351232) : PCon Try.prog 7 [e.exf false, I seen, I stop] (Bo true) [] := by
  rcases Bool.eq_false_or_eq_true e.good with hg | hg
  · exact halfLeft_good e seen stop hg h
  · exact halfLeft_bad e seen stop hg h
end Go.Proofs.Ytammndlghfknbaa
