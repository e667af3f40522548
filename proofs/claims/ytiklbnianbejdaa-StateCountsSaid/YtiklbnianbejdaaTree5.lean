/- the reference's Dists, Next and Path; lists that are the same. -/
import Derived.Test.YtiklbnianbejdaaTree1
import Derived.Test.YtiklbnianbejdaaTree4
set_option linter.unusedSimpArgs false
set_option maxRecDepth 20000
set_option linter.unusedVariables false
/- tree: the reference's Dists. -/
namespace Go.Proofs.Ytiklbnianbejdaa
open Go Go.Eng Go.RowKit

/-- What stands in the list in round r, ahead of the pair (v, u). -/
def Hd (p : Prop) : Prop := p
structure Bf (ps : List Int) (s r v u : Nat) (ds : List Int) : Prop where
  len : ds.length = ps.length
  lo : ∀ w, w < ps.length → dst ps w s ≤ r → ds.getD w 0 = dst ps w s
  hi : ∀ w, w < ps.length → r < dst ps w s → ds.getD w 0 = -1 ∨ (ds.getD w 0 = (r : Int) + 1 ∧ dst ps w s = r + 1)
  met : ∀ w, w < ps.length → dst ps w s = r + 1 → ∀ x, x < ps.length → isNear ps w x = true → dst ps x s = r → (x < v ∨ x = v ∧ w < u) → ds.getD w 0 = (r : Int) + 1
theorem getD_set {l : List Int} {i : Nat} {x : Int} (hi : i < l.length) (w : Nat) : (l.set i x).getD w 0 = if i = w then x else l.getD w 0 := by
  rw [List.getD_eq_getElem?_getD, List.getElem?_set]
  by_cases h : i = w
  · subst h
    simp [hi]
  · simp [h]
section
variable {ps : List Int} (h : TrP ps) {s : Nat} (hs : s < ps.length)
include h hs
theorem TrP.bf_init {ds : List Int} (hl : ds.length = ps.length) (h1 : ∀ j, j < ps.length → ds.getD j 0 = -1) : Bf ps s 0 0 0 (ds.set s 0) := by
  have hg : ∀ w, (ds.set s 0).getD w 0 = if s = w then 0 else ds.getD w 0 := fun w => getD_set (by omega) w
  refine ⟨by simpa using hl, fun w hw hd => ?_, fun w hw hd => ?_, fun w hw hd x hx hn h0 hc => by omega⟩
  · have := h.dst_zero hw hs (by omega)
    subst this
    rw [hg, if_pos rfl]
    omega
  · rw [hg, if_neg (fun e => by subst e; rw [h.dst_self hs] at hd; omega), h1 w hw]
    exact .inl rfl
theorem TrP.bf_set {r v u : Nat} {ds : List Int} (b : Bf ps s r v u ds) (hv : v < ps.length) (hu : u < ps.length) (c1 : ds.getD v 0 = r) (c2 : ds.getD u 0 < 0) (c3 : isNear ps u v = true) : Bf ps s r v (u + 1) (ds.set u ((r : Int) + 1)) := by
  have hg : ∀ w, (ds.set u ((r : Int) + 1)).getD w 0 = if u = w then (r : Int) + 1 else ds.getD w 0 := fun w => getD_set (by rw [b.len]; exact hu) w
  have hdv : dst ps v s = r := by
    rcases Nat.lt_or_ge r (dst ps v s) with h1 | h1
    · rcases b.hi v hv h1 with h2 | h2 <;> omega
    · have := b.lo v hv h1; omega
  have hdu : dst ps u s = r + 1 := by
    rcases Nat.lt_or_ge r (dst ps u s) with h1 | h1
    · rcases h.near_dst hu hv hs c3 with h2 | h2 <;> omega
    · have := b.lo u hu h1; omega
  refine ⟨by simpa using b.len, fun w hw hd => ?_, fun w hw hd => ?_, fun w hw hd x hx hn h0 hc => ?_⟩
  · rw [hg, if_neg (fun e => by subst e; omega)]
    exact b.lo w hw hd
  · rw [hg]
    split
    · rename_i e; subst e; exact .inr ⟨rfl, hdu⟩
    · exact b.hi w hw hd
  · rw [hg]
    split
    · rfl
    · rename_i e
      exact b.met w hw hd x hx hn h0 (by omega)
omit h hs in
theorem bf_skip {r v u : Nat} {ds : List Int} (b : Bf ps s r v u ds) (hv : v < ps.length) (hu : u < ps.length) (c : ds.getD v 0 = r → ds.getD u 0 < 0 → isNear ps u v = true → False) : Bf ps s r v (u + 1) ds := by
  refine ⟨b.len, b.lo, b.hi, fun w hw hd x hx hn h0 hc => ?_⟩
  by_cases hq : x < v ∨ x = v ∧ w < u
  · exact b.met w hw hd x hx hn h0 hq
  · have e1 : x = v := by omega
    have e2 : w = u := by omega
    subst e1
    subst e2
    rcases b.hi w hw (by omega) with h1 | h1
    · exact (c (by rw [b.lo x hx (by omega), h0]) (by omega) hn).elim
    · exact h1.1
omit h hs in
theorem bf_v {r v : Nat} {ds : List Int} (b : Bf ps s r v ps.length ds) : Bf ps s r (v + 1) 0 ds :=
  ⟨b.len, b.lo, b.hi, fun w hw hd x hx hn h0 hc => b.met w hw hd x hx hn h0 (by omega)⟩
theorem TrP.bf_r {r : Nat} {ds : List Int} (b : Bf ps s r ps.length 0 ds) : Bf ps s (r + 1) 0 0 ds := by
  refine ⟨b.len, fun w hw hd => ?_, fun w hw hd => ?_, fun w hw hd x hx hn h0 hc => by omega⟩
  · rcases Nat.lt_or_ge r (dst ps w s) with h1 | h1
    · have hne : w ≠ s := fun e => by subst e; rw [h.dst_self hs] at h1; omega
      obtain ⟨k1, k2, _⟩ := h.nxt_ok hw hs hne
      have k3 := h.dst_nxt hw hs hne
      have := b.met w hw (by omega) (nxt ps w s) k1 k2 (by omega) (.inl k1)
      omega
    · exact b.lo w hw h1
  · rcases b.hi w hw (by omega) with h1 | h1
    · exact .inl h1
    · omega
end
def dlist (ps : List Int) (s : Nat) : List Int := (List.range ps.length).map fun v => (dst ps v s : Int)
theorem dlist_len (ps : List Int) (s : Nat) : (dlist ps s).length = ps.length := by simp [dlist]
theorem dlist_get (ps : List Int) (s : Nat) {v : Nat} (hv : v < ps.length) : (dlist ps s).getD v 0 = dst ps v s := by simp [dlist, hv]
theorem TrP.bf_end {ps : List Int} (h : TrP ps) {s : Nat} (hs : s < ps.length) {ds : List Int} (b : Bf ps s ps.length 0 0 ds) : ds = dlist ps s := by
  refine List.ext_getElem (by rw [b.len, dlist_len]) fun w h1 h2 => ?_
  have hw : w < ps.length := by rw [← b.len]; exact h1
  have e1 := b.lo w hw (by have := h.dst_lt hw hs; omega)
  have e2 := dlist_get ps s hw
  simp only [List.getD_eq_getElem?_getD, List.getElem?_eq_getElem h1, List.getElem?_eq_getElem h2, Option.getD_some] at e1 e2
  omega
theorem int_set (ds : List Int) (i : Nat) (x : Int) : (intR ds).set i [I x] = intR (ds.set i x) := by simp [intR, List.map_set]
set_option maxHeartbeats 1000000 in
theorem refdists_pcon (f : Bool) (ps : List Int) (s : Nat) (h : Tr1 ps) (hs : s < ps.length) : PCon Try.prog 63 [intX f ps, I s] (.own 0 ps.length) [intB (dlist ps s)] := by
  refine pcon_of (G := gm) Try.func63 rfl rfl rfl ?_
  have hle := h.le
  repeat' (conv => whnf
           first
           | (refine get_id ?_; first | refine Get.mk _ rfl ?_)
           | (refine need_id ?_; first | refine Need.a ?_)
           | (refine eqk_id ?_; first | refine EqK.a ?_)
           | (refine br_id ?_; first | refine Br.t ?_ | refine Br.f ?_ | (refine Br.pos ?_ ?_; focus (with_reducible assumption)) | (refine Br.neg ?_ ?_; focus (with_reducible assumption)) | (refine Br.dpos ?_ ?_; focus (first | with_reducible exact rfl | with_reducible exact Int.le_refl _ | with_reducible assumption)) | (refine Br.dneg ?_ ?_; focus (with_reducible assumption)) | (refine Br.d (fun _ => ?_) (fun _ => ?_)) | refine Br.n ?_ | (refine Br.s (fun _ => ?_) (fun _ => ?_)) | (refine Br.mk (fun _ => ?_) (fun _ => ?_)))
           | (refine regv_id ?_; first | refine RegV.d ?_)
           | refine NilB.mk (fun b hb => ?_)
           | (refine alv_and ?_ ?_; focus (first | rfl | done))
           | refine DrawV.mk [] ?_
           | (refine appc_id ?_; first | refine AppC.growA ?_ | refine AppC.place ?_))
  all_goals (try (conv => whnf))
  refine LoopV.on (σ := Nat × List Int) rfl (fun s' => [(0, intX f ps), (1, I s), (5, I ps.length), (6, .own 0 ps.length), (7, I s'.1)]) (fun s' => [some (intB s'.2)]) (fun s' => s'.1 ≤ ps.length ∧ s'.2.length = ps.length ∧ ∀ j, j < s'.1 → s'.2.getD j 0 = -1) (fun s' => ps.length - s'.1) (0, List.replicate ps.length 0) ?_ ⟨Nat.zero_le _, by simp, fun j hj => by omega⟩ ?_
  · refine AtS.mk [] [0] rfl (by simp) rfl ?_ ?_
    · (repeat' (first | exact trivial | exact rfl | with_reducible assumption | (refine And.intro ?_ ?_) | (refine Exists.intro _ (And.intro rfl ?_)) | (refine Exists.intro _ (Exists.intro _ (And.intro rfl (And.intro rfl ?_)))) | (refine Or.inl ⟨rfl, rfl, ?_⟩) | (refine Or.inl ⟨rfl, ?_⟩; focus (fail_if_success (refine And.intro ?_ ?_))) | (refine Or.inl (?_ : (_ : Nat) = _ ∧ _); refine ⟨?_, ?_⟩; focus (first | (simp only [List.length_map]; done) | (simp only [List.length_map, List.length_append, List.length_cons, List.length_nil]; done))) | exact Or.inl rfl | (refine Or.inr (Or.inr ⟨?_, ?_⟩)) | (refine Or.inr ⟨?_, ?_⟩) | (refine fun h => ?_; first | exact h | exact rfl | (cases h; done)) | (refine om8 ?_; simp only [← List.map_drop, ← List.map_take]; exact rfl) | ((first | refine om1 ?_ | refine om2 ?_ | refine om3 ?_ | refine om4 ?_ | refine om5 ?_ | refine om6 ?_ | refine om7 ?_); first | (simp only [List.length_map]; done) | (simp only [List.length_map]; omega) | omega)))
      simp [intB]
    · (repeat' (first | exact trivial | exact rfl | with_reducible assumption | (refine And.intro ?_ ?_) | (refine Exists.intro _ (And.intro rfl ?_)) | (refine Exists.intro _ (Exists.intro _ (And.intro rfl (And.intro rfl ?_)))) | (refine Or.inl ⟨rfl, rfl, ?_⟩) | (refine Or.inl ⟨rfl, ?_⟩; focus (fail_if_success (refine And.intro ?_ ?_))) | (refine Or.inl (?_ : (_ : Nat) = _ ∧ _); refine ⟨?_, ?_⟩; focus (first | (simp only [List.length_map]; done) | (simp only [List.length_map, List.length_append, List.length_cons, List.length_nil]; done))) | exact Or.inl rfl | (refine Or.inr (Or.inr ⟨?_, ?_⟩)) | (refine Or.inr ⟨?_, ?_⟩) | (refine fun h => ?_; first | exact h | exact rfl | (cases h; done)) | (refine om8 ?_; simp only [← List.map_drop, ← List.map_take]; exact rfl) | ((first | refine om1 ?_ | refine om2 ?_ | refine om3 ?_ | refine om4 ?_ | refine om5 ?_ | refine om6 ?_ | refine om7 ?_); first | (simp only [List.length_map]; done) | (simp only [List.length_map]; omega) | omega)))
  rintro ⟨i, ds⟩ ⟨p1, p2, p3⟩
  dsimp only at p1 p2 p3
  dsimp only
  rcases Nat.lt_or_ge i ps.length with hin | hin
  · replace p3 : Hd (∀ j, j < i → ds.getD j 0 = -1) := p3
    repeat' (conv => whnf
             first
             | (refine get_id ?_; first | refine Get.mk _ rfl ?_ | refine Get.mk _ (int_get ds i rfl (by omega)) ?_)
             | (refine need_id ?_; first | refine Need.a ?_)
             | (refine eqk_id ?_; first | refine EqK.a ?_)
             | (refine br_id ?_; first | refine Br.t ?_ | refine Br.f ?_ | (refine Br.pos ?_ ?_; focus (with_reducible assumption)) | (refine Br.neg ?_ ?_; focus (with_reducible assumption)) | (refine Br.dpos ?_ ?_; focus (first | with_reducible exact rfl | with_reducible exact Int.le_refl _ | with_reducible assumption)) | (refine Br.dneg ?_ ?_; focus (with_reducible assumption)) | (refine Br.d (fun _ => ?_) (fun _ => ?_) <;> (first | (exfalso; omega; done) | skip)) | refine Br.n ?_ | (refine Br.s (fun _ => ?_) (fun _ => ?_) <;> (first | (exfalso; omega; done) | skip)) | (refine Br.mk (fun _ => ?_) (fun _ => ?_) <;> (first | (exfalso; omega; done) | skip)))
             | (refine regv_id ?_; first | refine RegV.d ?_)
             | refine NilB.mk (fun b hb => ?_)
             | (refine alv_and ?_ ?_; focus (first | rfl | done))
             | refine DrawV.mk [] ?_
             | (refine appc_id ?_; first | refine AppC.growA ?_ | refine AppC.place ?_))
    all_goals (try (conv => whnf))
    refine nx (i + 1, ds.set i (-1)) (by simp only; omega) ⟨by simp only; omega, by simpa using p2, fun j hj => ?_⟩ (AtS.mk [] [0] rfl (by simp) rfl ?_ ?_)
    · simp only at hj ⊢
      rw [getD_set (by omega)]
      split
      · rfl
      · exact p3 j (by omega)
    · (repeat' (first | exact trivial | exact rfl | with_reducible assumption | (refine And.intro ?_ ?_) | (refine Exists.intro _ (And.intro rfl ?_)) | (refine Exists.intro _ (Exists.intro _ (And.intro rfl (And.intro rfl ?_)))) | (refine Or.inl ⟨rfl, rfl, ?_⟩) | (refine Or.inl ⟨rfl, ?_⟩; focus (fail_if_success (refine And.intro ?_ ?_))) | (refine Or.inl (?_ : (_ : Nat) = _ ∧ _); refine ⟨?_, ?_⟩; focus (first | (simp only [List.length_map]; done) | (simp only [List.length_map, List.length_append, List.length_cons, List.length_nil]; done))) | exact Or.inl rfl | (refine Or.inr (Or.inr ⟨?_, ?_⟩)) | (refine Or.inr ⟨?_, ?_⟩) | (refine fun h => ?_; first | exact h | exact rfl | (cases h; done)) | (refine om8 ?_; simp only [← List.map_drop, ← List.map_take]; exact rfl) | ((first | refine om1 ?_ | refine om2 ?_ | refine om3 ?_ | refine om4 ?_ | refine om5 ?_ | refine om6 ?_ | refine om7 ?_); first | (simp only [List.length_map]; done) | (simp only [List.length_map]; omega) | omega)))
      exact int_set ds i (-1)
    · (repeat' (first | exact trivial | exact rfl | with_reducible assumption | (refine And.intro ?_ ?_) | (refine Exists.intro _ (And.intro rfl ?_)) | (refine Exists.intro _ (Exists.intro _ (And.intro rfl (And.intro rfl ?_)))) | (refine Or.inl ⟨rfl, rfl, ?_⟩) | (refine Or.inl ⟨rfl, ?_⟩; focus (fail_if_success (refine And.intro ?_ ?_))) | (refine Or.inl (?_ : (_ : Nat) = _ ∧ _); refine ⟨?_, ?_⟩; focus (first | (simp only [List.length_map]; done) | (simp only [List.length_map, List.length_append, List.length_cons, List.length_nil]; done))) | exact Or.inl rfl | (refine Or.inr (Or.inr ⟨?_, ?_⟩)) | (refine Or.inr ⟨?_, ?_⟩) | (refine fun h => ?_; first | exact h | exact rfl | (cases h; done)) | (refine om8 ?_; simp only [← List.map_drop, ← List.map_take]; exact rfl) | ((first | refine om1 ?_ | refine om2 ?_ | refine om3 ?_ | refine om4 ?_ | refine om5 ?_ | refine om6 ?_ | refine om7 ?_); first | (simp only [List.length_map]; done) | (simp only [List.length_map]; omega) | omega)))
  have b0 := h.p.bf_init hs p2 (fun j hj => p3 j (by omega))
  clear p3
  repeat' (conv => whnf
           first
           | (refine get_id ?_; first | refine Get.mk _ rfl ?_ | refine Get.mk _ (int_get ds s rfl (by omega)) ?_)
           | (refine need_id ?_; first | refine Need.a ?_)
           | (refine eqk_id ?_; first | refine EqK.a ?_)
           | (refine br_id ?_; first | refine Br.t ?_ | refine Br.f ?_ | (refine Br.pos ?_ ?_; focus (with_reducible assumption)) | (refine Br.neg ?_ ?_; focus (with_reducible assumption)) | (refine Br.dpos ?_ ?_; focus (first | with_reducible exact rfl | with_reducible exact Int.le_refl _ | with_reducible assumption)) | (refine Br.dneg ?_ ?_; focus (with_reducible assumption)) | (refine Br.d (fun _ => ?_) (fun _ => ?_) <;> (first | (exfalso; omega; done) | skip)) | refine Br.n ?_ | (refine Br.s (fun _ => ?_) (fun _ => ?_) <;> (first | (exfalso; omega; done) | skip)) | (refine Br.mk (fun _ => ?_) (fun _ => ?_) <;> (first | (exfalso; omega; done) | skip)))
           | (refine regv_id ?_; first | refine RegV.d ?_)
           | refine NilB.mk (fun b hb => ?_)
           | (refine alv_and ?_ ?_; focus (first | rfl | done))
           | refine DrawV.mk [] ?_
           | (refine appc_id ?_; first | refine AppC.growA ?_ | refine AppC.place ?_))
  all_goals (try (conv => whnf))
  generalize hds0 : ds.set s 0 = ds0 at b0
  refine LoopV.on (σ := Nat × List Int) rfl (fun s' => [(0, intX f ps), (5, I ps.length), (6, .own 0 ps.length), (8, I s'.1)]) (fun s' => [some (intB s'.2)]) (fun s' => s'.1 ≤ ps.length ∧ Bf ps s s'.1 0 0 s'.2) (fun s' => ps.length - s'.1) (0, ds0) ?_ ⟨Nat.zero_le _, b0⟩ ?_
  · refine AtS.mk [] [0] rfl (by simp) rfl ?_ ?_
    · (repeat' (first | exact trivial | exact rfl | with_reducible assumption | (refine And.intro ?_ ?_) | (refine Exists.intro _ (And.intro rfl ?_)) | (refine Exists.intro _ (Exists.intro _ (And.intro rfl (And.intro rfl ?_)))) | (refine Or.inl ⟨rfl, rfl, ?_⟩) | (refine Or.inl ⟨rfl, ?_⟩; focus (fail_if_success (refine And.intro ?_ ?_))) | (refine Or.inl (?_ : (_ : Nat) = _ ∧ _); refine ⟨?_, ?_⟩; focus (first | (simp only [List.length_map]; done) | (simp only [List.length_map, List.length_append, List.length_cons, List.length_nil]; done))) | exact Or.inl rfl | (refine Or.inr (Or.inr ⟨?_, ?_⟩)) | (refine Or.inr ⟨?_, ?_⟩) | (refine fun h => ?_; first | exact h | exact rfl | (cases h; done)) | (refine om8 ?_; simp only [← List.map_drop, ← List.map_take]; exact rfl) | ((first | refine om1 ?_ | refine om2 ?_ | refine om3 ?_ | refine om4 ?_ | refine om5 ?_ | refine om6 ?_ | refine om7 ?_); first | (simp only [List.length_map]; done) | (simp only [List.length_map]; omega) | omega)))
      rw [← hds0]
      exact int_set ds s 0
    · (repeat' (first | exact trivial | exact rfl | with_reducible assumption | (refine And.intro ?_ ?_) | (refine Exists.intro _ (And.intro rfl ?_)) | (refine Exists.intro _ (Exists.intro _ (And.intro rfl (And.intro rfl ?_)))) | (refine Or.inl ⟨rfl, rfl, ?_⟩) | (refine Or.inl ⟨rfl, ?_⟩; focus (fail_if_success (refine And.intro ?_ ?_))) | (refine Or.inl (?_ : (_ : Nat) = _ ∧ _); refine ⟨?_, ?_⟩; focus (first | (simp only [List.length_map]; done) | (simp only [List.length_map, List.length_append, List.length_cons, List.length_nil]; done))) | exact Or.inl rfl | (refine Or.inr (Or.inr ⟨?_, ?_⟩)) | (refine Or.inr ⟨?_, ?_⟩) | (refine fun h => ?_; first | exact h | exact rfl | (cases h; done)) | (refine om8 ?_; simp only [← List.map_drop, ← List.map_take]; exact rfl) | ((first | refine om1 ?_ | refine om2 ?_ | refine om3 ?_ | refine om4 ?_ | refine om5 ?_ | refine om6 ?_ | refine om7 ?_); first | (simp only [List.length_map]; done) | (simp only [List.length_map]; omega) | omega)))
  clear b0
  rintro ⟨r, es⟩ ⟨hr, b1⟩
  dsimp only at hr b1
  dsimp only
  rcases Nat.lt_or_ge r ps.length with hrn | hrn
  case inr =>
    have e : r = ps.length := by omega
    subst e
    rw [h.p.bf_end hs b1]
    repeat' (conv => whnf
             first
             | (refine get_id ?_; first | refine Get.mk _ rfl ?_)
             | (refine need_id ?_; first | refine Need.a ?_)
             | (refine eqk_id ?_; first | refine EqK.a ?_)
             | (refine br_id ?_; first | refine Br.t ?_ | refine Br.f ?_ | (refine Br.pos ?_ ?_; focus (with_reducible assumption)) | (refine Br.neg ?_ ?_; focus (with_reducible assumption)) | (refine Br.dpos ?_ ?_; focus (first | with_reducible exact rfl | with_reducible exact Int.le_refl _ | with_reducible assumption)) | (refine Br.dneg ?_ ?_; focus (with_reducible assumption)) | (refine Br.d (fun _ => ?_) (fun _ => ?_) <;> (first | (exfalso; omega; done) | skip)) | refine Br.n ?_ | (refine Br.s (fun _ => ?_) (fun _ => ?_) <;> (first | (exfalso; omega; done) | skip)) | (refine Br.mk (fun _ => ?_) (fun _ => ?_) <;> (first | (exfalso; omega; done) | skip)))
             | (refine regv_id ?_; first | refine RegV.d ?_)
             | refine NilB.mk (fun b hb => ?_)
             | (refine alv_and ?_ ?_; focus (first | rfl | done))
             | refine DrawV.mk [] ?_
             | (refine appc_id ?_; first | refine AppC.growA ?_ | refine AppC.place ?_))
    all_goals (try (conv => whnf))
    exact RetP.own rfl (int_fr _)
  repeat' (conv => whnf
           first
           | (refine get_id ?_; first | refine Get.mk _ rfl ?_)
           | (refine need_id ?_; first | refine Need.a ?_)
           | (refine eqk_id ?_; first | refine EqK.a ?_)
           | (refine br_id ?_; first | refine Br.t ?_ | refine Br.f ?_ | (refine Br.pos ?_ ?_; focus (with_reducible assumption)) | (refine Br.neg ?_ ?_; focus (with_reducible assumption)) | (refine Br.dpos ?_ ?_; focus (first | with_reducible exact rfl | with_reducible exact Int.le_refl _ | with_reducible assumption)) | (refine Br.dneg ?_ ?_; focus (with_reducible assumption)) | (refine Br.d (fun _ => ?_) (fun _ => ?_) <;> (first | (exfalso; omega; done) | skip)) | refine Br.n ?_ | (refine Br.s (fun _ => ?_) (fun _ => ?_) <;> (first | (exfalso; omega; done) | skip)) | (refine Br.mk (fun _ => ?_) (fun _ => ?_) <;> (first | (exfalso; omega; done) | skip)))
           | (refine regv_id ?_; first | refine RegV.d ?_)
           | refine NilB.mk (fun b hb => ?_)
           | (refine alv_and ?_ ?_; focus (first | rfl | done))
           | refine DrawV.mk [] ?_
           | (refine appc_id ?_; first | refine AppC.growA ?_ | refine AppC.place ?_))
  all_goals (try (conv => whnf))
  refine LoopV.on (σ := Nat × List Int) rfl (fun s' => [(0, intX f ps), (5, I ps.length), (6, .own 0 ps.length), (8, I r), (9, I s'.1)]) (fun s' => [some (intB s'.2)]) (fun s' => s'.1 ≤ ps.length ∧ Bf ps s r s'.1 0 s'.2) (fun s' => ps.length - s'.1) (0, es) ?_ ⟨Nat.zero_le _, b1⟩ ?_
  · refine AtS.mk [] [0] rfl (by simp) rfl ?_ ?_
    · (repeat' (first | exact trivial | exact rfl | with_reducible assumption | (refine And.intro ?_ ?_) | (refine Exists.intro _ (And.intro rfl ?_)) | (refine Exists.intro _ (Exists.intro _ (And.intro rfl (And.intro rfl ?_)))) | (refine Or.inl ⟨rfl, rfl, ?_⟩) | (refine Or.inl ⟨rfl, ?_⟩; focus (fail_if_success (refine And.intro ?_ ?_))) | (refine Or.inl (?_ : (_ : Nat) = _ ∧ _); refine ⟨?_, ?_⟩; focus (first | (simp only [List.length_map]; done) | (simp only [List.length_map, List.length_append, List.length_cons, List.length_nil]; done))) | exact Or.inl rfl | (refine Or.inr (Or.inr ⟨?_, ?_⟩)) | (refine Or.inr ⟨?_, ?_⟩) | (refine fun h => ?_; first | exact h | exact rfl | (cases h; done)) | (refine om8 ?_; simp only [← List.map_drop, ← List.map_take]; exact rfl) | ((first | refine om1 ?_ | refine om2 ?_ | refine om3 ?_ | refine om4 ?_ | refine om5 ?_ | refine om6 ?_ | refine om7 ?_); first | (simp only [List.length_map]; done) | (simp only [List.length_map]; omega) | omega)))
    · (repeat' (first | exact trivial | exact rfl | with_reducible assumption | (refine And.intro ?_ ?_) | (refine Exists.intro _ (And.intro rfl ?_)) | (refine Exists.intro _ (Exists.intro _ (And.intro rfl (And.intro rfl ?_)))) | (refine Or.inl ⟨rfl, rfl, ?_⟩) | (refine Or.inl ⟨rfl, ?_⟩; focus (fail_if_success (refine And.intro ?_ ?_))) | (refine Or.inl (?_ : (_ : Nat) = _ ∧ _); refine ⟨?_, ?_⟩; focus (first | (simp only [List.length_map]; done) | (simp only [List.length_map, List.length_append, List.length_cons, List.length_nil]; done))) | exact Or.inl rfl | (refine Or.inr (Or.inr ⟨?_, ?_⟩)) | (refine Or.inr ⟨?_, ?_⟩) | (refine fun h => ?_; first | exact h | exact rfl | (cases h; done)) | (refine om8 ?_; simp only [← List.map_drop, ← List.map_take]; exact rfl) | ((first | refine om1 ?_ | refine om2 ?_ | refine om3 ?_ | refine om4 ?_ | refine om5 ?_ | refine om6 ?_ | refine om7 ?_); first | (simp only [List.length_map]; done) | (simp only [List.length_map]; omega) | omega)))
  clear b1
  rintro ⟨v, es⟩ ⟨hv, b2⟩
  dsimp only at hv b2
  dsimp only
  rcases Nat.lt_or_ge v ps.length with hvn | hvn
  case inr =>
    have e : v = ps.length := by omega
    subst e
    repeat' (conv => whnf
             first
             | (refine get_id ?_; first | refine Get.mk _ rfl ?_)
             | (refine need_id ?_; first | refine Need.a ?_)
             | (refine eqk_id ?_; first | refine EqK.a ?_)
             | (refine br_id ?_; first | refine Br.t ?_ | refine Br.f ?_ | (refine Br.pos ?_ ?_; focus (with_reducible assumption)) | (refine Br.neg ?_ ?_; focus (with_reducible assumption)) | (refine Br.dpos ?_ ?_; focus (first | with_reducible exact rfl | with_reducible exact Int.le_refl _ | with_reducible assumption)) | (refine Br.dneg ?_ ?_; focus (with_reducible assumption)) | (refine Br.d (fun _ => ?_) (fun _ => ?_) <;> (first | (exfalso; omega; done) | skip)) | refine Br.n ?_ | (refine Br.s (fun _ => ?_) (fun _ => ?_) <;> (first | (exfalso; omega; done) | skip)) | (refine Br.mk (fun _ => ?_) (fun _ => ?_) <;> (first | (exfalso; omega; done) | skip)))
             | (refine regv_id ?_; first | refine RegV.d ?_)
             | refine NilB.mk (fun b hb => ?_)
             | (refine alv_and ?_ ?_; focus (first | rfl | done))
             | refine DrawV.mk [] ?_
             | (refine appc_id ?_; first | refine AppC.growA ?_ | refine AppC.place ?_))
    all_goals (try (conv => whnf))
    refine nx (r + 1, es) (by simp only; omega) ⟨by simp only; omega, h.p.bf_r hs b2⟩ (AtS.mk [] [0] rfl (by simp) rfl ?_ ?_)
    · (repeat' (first | exact trivial | exact rfl | with_reducible assumption | (refine And.intro ?_ ?_) | (refine Exists.intro _ (And.intro rfl ?_)) | (refine Exists.intro _ (Exists.intro _ (And.intro rfl (And.intro rfl ?_)))) | (refine Or.inl ⟨rfl, rfl, ?_⟩) | (refine Or.inl ⟨rfl, ?_⟩; focus (fail_if_success (refine And.intro ?_ ?_))) | (refine Or.inl (?_ : (_ : Nat) = _ ∧ _); refine ⟨?_, ?_⟩; focus (first | (simp only [List.length_map]; done) | (simp only [List.length_map, List.length_append, List.length_cons, List.length_nil]; done))) | exact Or.inl rfl | (refine Or.inr (Or.inr ⟨?_, ?_⟩)) | (refine Or.inr ⟨?_, ?_⟩) | (refine fun h => ?_; first | exact h | exact rfl | (cases h; done)) | (refine om8 ?_; simp only [← List.map_drop, ← List.map_take]; exact rfl) | ((first | refine om1 ?_ | refine om2 ?_ | refine om3 ?_ | refine om4 ?_ | refine om5 ?_ | refine om6 ?_ | refine om7 ?_); first | (simp only [List.length_map]; done) | (simp only [List.length_map]; omega) | omega)))
    · (repeat' (first | exact trivial | exact rfl | with_reducible assumption | (refine And.intro ?_ ?_) | (refine Exists.intro _ (And.intro rfl ?_)) | (refine Exists.intro _ (Exists.intro _ (And.intro rfl (And.intro rfl ?_)))) | (refine Or.inl ⟨rfl, rfl, ?_⟩) | (refine Or.inl ⟨rfl, ?_⟩; focus (fail_if_success (refine And.intro ?_ ?_))) | (refine Or.inl (?_ : (_ : Nat) = _ ∧ _); refine ⟨?_, ?_⟩; focus (first | (simp only [List.length_map]; done) | (simp only [List.length_map, List.length_append, List.length_cons, List.length_nil]; done))) | exact Or.inl rfl | (refine Or.inr (Or.inr ⟨?_, ?_⟩)) | (refine Or.inr ⟨?_, ?_⟩) | (refine fun h => ?_; first | exact h | exact rfl | (cases h; done)) | (refine om8 ?_; simp only [← List.map_drop, ← List.map_take]; exact rfl) | ((first | refine om1 ?_ | refine om2 ?_ | refine om3 ?_ | refine om4 ?_ | refine om5 ?_ | refine om6 ?_ | refine om7 ?_); first | (simp only [List.length_map]; done) | (simp only [List.length_map]; omega) | omega)))
  repeat' (conv => whnf
           first
           | (refine get_id ?_; first | refine Get.mk _ rfl ?_)
           | (refine need_id ?_; first | refine Need.a ?_)
           | (refine eqk_id ?_; first | refine EqK.a ?_)
           | (refine br_id ?_; first | refine Br.t ?_ | refine Br.f ?_ | (refine Br.pos ?_ ?_; focus (with_reducible assumption)) | (refine Br.neg ?_ ?_; focus (with_reducible assumption)) | (refine Br.dpos ?_ ?_; focus (first | with_reducible exact rfl | with_reducible exact Int.le_refl _ | with_reducible assumption)) | (refine Br.dneg ?_ ?_; focus (with_reducible assumption)) | (refine Br.d (fun _ => ?_) (fun _ => ?_) <;> (first | (exfalso; omega; done) | skip)) | refine Br.n ?_ | (refine Br.s (fun _ => ?_) (fun _ => ?_) <;> (first | (exfalso; omega; done) | skip)) | (refine Br.mk (fun _ => ?_) (fun _ => ?_) <;> (first | (exfalso; omega; done) | skip)))
           | (refine regv_id ?_; first | refine RegV.d ?_)
           | refine NilB.mk (fun b hb => ?_)
           | (refine alv_and ?_ ?_; focus (first | rfl | done))
           | refine DrawV.mk [] ?_
           | (refine appc_id ?_; first | refine AppC.growA ?_ | refine AppC.place ?_))
  all_goals (try (conv => whnf))
  refine LoopV.on (σ := Nat × List Int) rfl (fun s' => [(0, intX f ps), (5, I ps.length), (6, .own 0 ps.length), (8, I r), (9, I v), (10, I s'.1)]) (fun s' => [some (intB s'.2)]) (fun s' => s'.1 ≤ ps.length ∧ Bf ps s r v s'.1 s'.2) (fun s' => ps.length - s'.1) (0, es) ?_ ⟨Nat.zero_le _, b2⟩ ?_
  · refine AtS.mk [] [0] rfl (by simp) rfl ?_ ?_
    · (repeat' (first | exact trivial | exact rfl | with_reducible assumption | (refine And.intro ?_ ?_) | (refine Exists.intro _ (And.intro rfl ?_)) | (refine Exists.intro _ (Exists.intro _ (And.intro rfl (And.intro rfl ?_)))) | (refine Or.inl ⟨rfl, rfl, ?_⟩) | (refine Or.inl ⟨rfl, ?_⟩; focus (fail_if_success (refine And.intro ?_ ?_))) | (refine Or.inl (?_ : (_ : Nat) = _ ∧ _); refine ⟨?_, ?_⟩; focus (first | (simp only [List.length_map]; done) | (simp only [List.length_map, List.length_append, List.length_cons, List.length_nil]; done))) | exact Or.inl rfl | (refine Or.inr (Or.inr ⟨?_, ?_⟩)) | (refine Or.inr ⟨?_, ?_⟩) | (refine fun h => ?_; first | exact h | exact rfl | (cases h; done)) | (refine om8 ?_; simp only [← List.map_drop, ← List.map_take]; exact rfl) | ((first | refine om1 ?_ | refine om2 ?_ | refine om3 ?_ | refine om4 ?_ | refine om5 ?_ | refine om6 ?_ | refine om7 ?_); first | (simp only [List.length_map]; done) | (simp only [List.length_map]; omega) | omega)))
    · (repeat' (first | exact trivial | exact rfl | with_reducible assumption | (refine And.intro ?_ ?_) | (refine Exists.intro _ (And.intro rfl ?_)) | (refine Exists.intro _ (Exists.intro _ (And.intro rfl (And.intro rfl ?_)))) | (refine Or.inl ⟨rfl, rfl, ?_⟩) | (refine Or.inl ⟨rfl, ?_⟩; focus (fail_if_success (refine And.intro ?_ ?_))) | (refine Or.inl (?_ : (_ : Nat) = _ ∧ _); refine ⟨?_, ?_⟩; focus (first | (simp only [List.length_map]; done) | (simp only [List.length_map, List.length_append, List.length_cons, List.length_nil]; done))) | exact Or.inl rfl | (refine Or.inr (Or.inr ⟨?_, ?_⟩)) | (refine Or.inr ⟨?_, ?_⟩) | (refine fun h => ?_; first | exact h | exact rfl | (cases h; done)) | (refine om8 ?_; simp only [← List.map_drop, ← List.map_take]; exact rfl) | ((first | refine om1 ?_ | refine om2 ?_ | refine om3 ?_ | refine om4 ?_ | refine om5 ?_ | refine om6 ?_ | refine om7 ?_); first | (simp only [List.length_map]; done) | (simp only [List.length_map]; omega) | omega)))
  clear b2
  rintro ⟨u, es⟩ ⟨hu, b3⟩
  dsimp only at hu b3
  dsimp only
  rcases Nat.lt_or_ge u ps.length with hun | hun
  case inr =>
    have e : u = ps.length := by omega
    subst e
    repeat' (conv => whnf
             first
             | (refine get_id ?_; first | refine Get.mk _ rfl ?_)
             | (refine need_id ?_; first | refine Need.a ?_)
             | (refine eqk_id ?_; first | refine EqK.a ?_)
             | (refine br_id ?_; first | refine Br.t ?_ | refine Br.f ?_ | (refine Br.pos ?_ ?_; focus (with_reducible assumption)) | (refine Br.neg ?_ ?_; focus (with_reducible assumption)) | (refine Br.dpos ?_ ?_; focus (first | with_reducible exact rfl | with_reducible exact Int.le_refl _ | with_reducible assumption)) | (refine Br.dneg ?_ ?_; focus (with_reducible assumption)) | (refine Br.d (fun _ => ?_) (fun _ => ?_) <;> (first | (exfalso; omega; done) | skip)) | refine Br.n ?_ | (refine Br.s (fun _ => ?_) (fun _ => ?_) <;> (first | (exfalso; omega; done) | skip)) | (refine Br.mk (fun _ => ?_) (fun _ => ?_) <;> (first | (exfalso; omega; done) | skip)))
             | (refine regv_id ?_; first | refine RegV.d ?_)
             | refine NilB.mk (fun b hb => ?_)
             | (refine alv_and ?_ ?_; focus (first | rfl | done))
             | refine DrawV.mk [] ?_
             | (refine appc_id ?_; first | refine AppC.growA ?_ | refine AppC.place ?_))
    all_goals (try (conv => whnf))
    refine nx (v + 1, es) (by simp only; omega) ⟨by simp only; omega, bf_v b3⟩ (AtS.mk [] [0] rfl (by simp) rfl ?_ ?_)
    · (repeat' (first | exact trivial | exact rfl | with_reducible assumption | (refine And.intro ?_ ?_) | (refine Exists.intro _ (And.intro rfl ?_)) | (refine Exists.intro _ (Exists.intro _ (And.intro rfl (And.intro rfl ?_)))) | (refine Or.inl ⟨rfl, rfl, ?_⟩) | (refine Or.inl ⟨rfl, ?_⟩; focus (fail_if_success (refine And.intro ?_ ?_))) | (refine Or.inl (?_ : (_ : Nat) = _ ∧ _); refine ⟨?_, ?_⟩; focus (first | (simp only [List.length_map]; done) | (simp only [List.length_map, List.length_append, List.length_cons, List.length_nil]; done))) | exact Or.inl rfl | (refine Or.inr (Or.inr ⟨?_, ?_⟩)) | (refine Or.inr ⟨?_, ?_⟩) | (refine fun h => ?_; first | exact h | exact rfl | (cases h; done)) | (refine om8 ?_; simp only [← List.map_drop, ← List.map_take]; exact rfl) | ((first | refine om1 ?_ | refine om2 ?_ | refine om3 ?_ | refine om4 ?_ | refine om5 ?_ | refine om6 ?_ | refine om7 ?_); first | (simp only [List.length_map]; done) | (simp only [List.length_map]; omega) | omega)))
    · (repeat' (first | exact trivial | exact rfl | with_reducible assumption | (refine And.intro ?_ ?_) | (refine Exists.intro _ (And.intro rfl ?_)) | (refine Exists.intro _ (Exists.intro _ (And.intro rfl (And.intro rfl ?_)))) | (refine Or.inl ⟨rfl, rfl, ?_⟩) | (refine Or.inl ⟨rfl, ?_⟩; focus (fail_if_success (refine And.intro ?_ ?_))) | (refine Or.inl (?_ : (_ : Nat) = _ ∧ _); refine ⟨?_, ?_⟩; focus (first | (simp only [List.length_map]; done) | (simp only [List.length_map, List.length_append, List.length_cons, List.length_nil]; done))) | exact Or.inl rfl | (refine Or.inr (Or.inr ⟨?_, ?_⟩)) | (refine Or.inr ⟨?_, ?_⟩) | (refine fun h => ?_; first | exact h | exact rfl | (cases h; done)) | (refine om8 ?_; simp only [← List.map_drop, ← List.map_take]; exact rfl) | ((first | refine om1 ?_ | refine om2 ?_ | refine om3 ?_ | refine om4 ?_ | refine om5 ?_ | refine om6 ?_ | refine om7 ?_); first | (simp only [List.length_map]; done) | (simp only [List.length_map]; omega) | omega)))
  have hel := b3.len
  repeat' (conv => whnf
           first
           | (refine get_id ?_; first | refine Get.mk _ rfl ?_ | refine Get.mk _ (int_get es v (Int.toNat_natCast v) (by omega)) ?_ | refine Get.mk _ (int_get es u (Int.toNat_natCast u) (by omega)) ?_)
           | (refine need_id ?_; first | refine Need.a ?_)
           | (refine eqk_id ?_; first | refine EqK.a ?_)
           | (refine br_id ?_; first | refine Br.t ?_ | refine Br.f ?_ | (refine Br.pos ?_ ?_; focus (with_reducible assumption)) | (refine Br.neg ?_ ?_; focus (with_reducible assumption)) | (refine Br.dpos ?_ ?_; focus (first | with_reducible exact rfl | with_reducible exact Int.le_refl _ | with_reducible assumption)) | (refine Br.dneg ?_ ?_; focus (with_reducible assumption)) | (refine Br.d (fun _ => ?_) (fun _ => ?_) <;> (first | (exfalso; omega; done) | skip)) | refine Br.n ?_ | (refine Br.s (fun _ => ?_) (fun _ => ?_) <;> (first | (exfalso; omega; done) | skip)) | (refine Br.mk (fun _ => ?_) (fun _ => ?_) <;> (first | (exfalso; omega; done) | skip)))
           | (refine regv_id ?_; first | refine RegV.qg ?_ | refine RegV.d ?_)
           | (refine gds_id ?_; apply GdS.mk)
           | (refine and_id ?_; exact ⟨rfl, rfl, rfl⟩)
           | (refine imp_id ?_; first | refine imp_s (fun _ => ?_) | refine fun _ => ?_)
           | refine NilB.mk (fun b hb => ?_)
           | (refine alv_and ?_ ?_; focus (first | rfl | done))
           | refine DrawV.mk [] ?_
           | (refine appc_id ?_; first | refine AppC.growA ?_ | refine AppC.place ?_)
           | (refine call_id ?_; first
                | refine CallV.c (near_pcon f ps u v hun hvn) ?_
                | refine CallV.e (near_pcon f ps u v hun hvn) ?_)
           | (refine calls_id ?_; first
                | refine CallS.c (near_pcon f ps u v hun hvn) ?_
                | refine CallS.e (near_pcon f ps u v hun hvn) ?_))
  all_goals (try (conv => whnf))
  · rename_i hc
    obtain ⟨⟨c1, c2⟩, c3⟩ := hc
    refine nx (u + 1, es.set u ((r : Int) + 1)) (by simp only; omega) ⟨by simp only; omega, h.p.bf_set hs b3 hvn hun c1 c2 c3⟩ (AtS.mk [] [0] rfl (by simp) rfl ?_ ?_)
    · (repeat' (first | exact trivial | exact rfl | with_reducible assumption | (refine And.intro ?_ ?_) | (refine Exists.intro _ (And.intro rfl ?_)) | (refine Exists.intro _ (Exists.intro _ (And.intro rfl (And.intro rfl ?_)))) | (refine Or.inl ⟨rfl, rfl, ?_⟩) | (refine Or.inl ⟨rfl, ?_⟩; focus (fail_if_success (refine And.intro ?_ ?_))) | (refine Or.inl (?_ : (_ : Nat) = _ ∧ _); refine ⟨?_, ?_⟩; focus (first | (simp only [List.length_map]; done) | (simp only [List.length_map, List.length_append, List.length_cons, List.length_nil]; done))) | exact Or.inl rfl | (refine Or.inr (Or.inr ⟨?_, ?_⟩)) | (refine Or.inr ⟨?_, ?_⟩) | (refine fun h => ?_; first | exact h | exact rfl | (cases h; done)) | (refine om8 ?_; simp only [← List.map_drop, ← List.map_take]; exact rfl) | ((first | refine om1 ?_ | refine om2 ?_ | refine om3 ?_ | refine om4 ?_ | refine om5 ?_ | refine om6 ?_ | refine om7 ?_); first | (simp only [List.length_map]; done) | (simp only [List.length_map]; omega) | omega)))
      exact int_set es u ((r : Int) + 1)
    · (repeat' (first | exact trivial | exact rfl | with_reducible assumption | (refine And.intro ?_ ?_) | (refine Exists.intro _ (And.intro rfl ?_)) | (refine Exists.intro _ (Exists.intro _ (And.intro rfl (And.intro rfl ?_)))) | (refine Or.inl ⟨rfl, rfl, ?_⟩) | (refine Or.inl ⟨rfl, ?_⟩; focus (fail_if_success (refine And.intro ?_ ?_))) | (refine Or.inl (?_ : (_ : Nat) = _ ∧ _); refine ⟨?_, ?_⟩; focus (first | (simp only [List.length_map]; done) | (simp only [List.length_map, List.length_append, List.length_cons, List.length_nil]; done))) | exact Or.inl rfl | (refine Or.inr (Or.inr ⟨?_, ?_⟩)) | (refine Or.inr ⟨?_, ?_⟩) | (refine fun h => ?_; first | exact h | exact rfl | (cases h; done)) | (refine om8 ?_; simp only [← List.map_drop, ← List.map_take]; exact rfl) | ((first | refine om1 ?_ | refine om2 ?_ | refine om3 ?_ | refine om4 ?_ | refine om5 ?_ | refine om6 ?_ | refine om7 ?_); first | (simp only [List.length_map]; done) | (simp only [List.length_map]; omega) | omega)))
  · rename_i hc
    refine nx (u + 1, es) (by simp only; omega) ⟨by simp only; omega, bf_skip b3 hvn hun fun c1 c2 c3 => ?_⟩ (AtS.mk [] [0] rfl (by simp) rfl ?_ ?_)
    · rcases hc with (hc | hc) | hc
      · exact hc c1
      · exact hc c2
      · rw [c3] at hc; cases hc
    · (repeat' (first | exact trivial | exact rfl | with_reducible assumption | (refine And.intro ?_ ?_) | (refine Exists.intro _ (And.intro rfl ?_)) | (refine Exists.intro _ (Exists.intro _ (And.intro rfl (And.intro rfl ?_)))) | (refine Or.inl ⟨rfl, rfl, ?_⟩) | (refine Or.inl ⟨rfl, ?_⟩; focus (fail_if_success (refine And.intro ?_ ?_))) | (refine Or.inl (?_ : (_ : Nat) = _ ∧ _); refine ⟨?_, ?_⟩; focus (first | (simp only [List.length_map]; done) | (simp only [List.length_map, List.length_append, List.length_cons, List.length_nil]; done))) | exact Or.inl rfl | (refine Or.inr (Or.inr ⟨?_, ?_⟩)) | (refine Or.inr ⟨?_, ?_⟩) | (refine fun h => ?_; first | exact h | exact rfl | (cases h; done)) | (refine om8 ?_; simp only [← List.map_drop, ← List.map_take]; exact rfl) | ((first | refine om1 ?_ | refine om2 ?_ | refine om3 ?_ | refine om4 ?_ | refine om5 ?_ | refine om6 ?_ | refine om7 ?_); first | (simp only [List.length_map]; done) | (simp only [List.length_map]; omega) | omega)))
    · (repeat' (first | exact trivial | exact rfl | with_reducible assumption | (refine And.intro ?_ ?_) | (refine Exists.intro _ (And.intro rfl ?_)) | (refine Exists.intro _ (Exists.intro _ (And.intro rfl (And.intro rfl ?_)))) | (refine Or.inl ⟨rfl, rfl, ?_⟩) | (refine Or.inl ⟨rfl, ?_⟩; focus (fail_if_success (refine And.intro ?_ ?_))) | (refine Or.inl (?_ : (_ : Nat) = _ ∧ _); refine ⟨?_, ?_⟩; focus (first | (simp only [List.length_map]; done) | (simp only [List.length_map, List.length_append, List.length_cons, List.length_nil]; done))) | exact Or.inl rfl | (refine Or.inr (Or.inr ⟨?_, ?_⟩)) | (refine Or.inr ⟨?_, ?_⟩) | (refine fun h => ?_; first | exact h | exact rfl | (cases h; done)) | (refine om8 ?_; simp only [← List.map_drop, ← List.map_take]; exact rfl) | ((first | refine om1 ?_ | refine om2 ?_ | refine om3 ?_ | refine om4 ?_ | refine om5 ?_ | refine om6 ?_ | refine om7 ?_); first | (simp only [List.length_map]; done) | (simp only [List.length_map]; omega) | omega)))
end Go.Proofs.Ytiklbnianbejdaa

/- tree: the reference's Next and Path. -/
namespace Go.Proofs.Ytiklbnianbejdaa
open Go Go.Eng Go.RowKit

theorem TrP.next_iff {ps : List Int} (h : TrP ps) {a b v : Nat} (ha : a < ps.length) (hb : b < ps.length) (hv : v < ps.length) (hne : a ≠ b) : (isNear ps v a = true ∧ (dst ps v b : Int) = dst ps a b - 1) ↔ v = nxt ps a b := by
  obtain ⟨k1, k2, _⟩ := h.nxt_ok ha hb hne
  have k3 := h.dst_nxt ha hb hne
  constructor
  · rintro ⟨h1, h2⟩
    rcases h.near_dst hv ha hb h1 with ⟨h3, _⟩ | ⟨_, h3⟩
    · omega
    · exact h3.symm
  · rintro rfl
    exact ⟨near_sym k2, by omega⟩
set_option maxHeartbeats 1000000 in
theorem refnext_pcon (f : Bool) (ps : List Int) (a b : Int) (h : Tr1 ps) : PCon Try.prog 37 [intX f ps, I a, I b] (I (nextS ps a b)) [] := by
  refine pcon_of (G := gm) Try.func37 rfl rfl rfl ?_
  have hle := h.le
  by_cases hr : a < 0 ∨ a ≥ ps.length ∨ b < 0 ∨ b ≥ ps.length
  · have e : nextS ps a b = -1 := by
      unfold nextS
      rw [if_pos]
      rw [← Bool.not_eq_true, ← Bool.not_eq_true, hasB_iff, hasB_iff]
      omega
    rw [e]
    repeat' (conv => whnf
             first
             | (refine get_id ?_; first | refine Get.mk _ rfl ?_)
             | (refine need_id ?_; first | refine Need.a ?_)
             | (refine eqk_id ?_; first | refine EqK.a ?_)
             | (refine br_id ?_; first | refine Br.t ?_ | refine Br.f ?_ | (refine Br.pos ?_ ?_; focus (with_reducible assumption)) | (refine Br.neg ?_ ?_; focus (with_reducible assumption)) | (refine Br.dpos ?_ ?_; focus (first | with_reducible exact rfl | with_reducible exact Int.le_refl _ | with_reducible assumption)) | (refine Br.dneg ?_ ?_; focus (with_reducible assumption)) | (refine Br.d (fun _ => ?_) (fun _ => ?_) <;> (first | (exfalso; omega; done) | skip)) | refine Br.n ?_ | (refine Br.s (fun _ => ?_) (fun _ => ?_) <;> (first | (exfalso; omega; done) | skip)) | (refine Br.mk (fun _ => ?_) (fun _ => ?_) <;> (first | (exfalso; omega; done) | skip)))
             | (refine regv_id ?_; first | refine RegV.qg ?_ | refine RegV.d ?_)
             | (refine gds_id ?_; apply GdS.mk)
             | (refine and_id ?_; exact ⟨rfl, rfl, rfl⟩)
             | (refine imp_id ?_; first | refine imp_s (fun _ => ?_) | refine fun _ => ?_)
             | refine NilB.mk (fun b hb => ?_)
             | (refine alv_and ?_ ?_; focus (first | rfl | done))
             | refine DrawV.mk [] ?_
             | (refine appc_id ?_; first | refine AppC.growA ?_ | refine AppC.place ?_))
    all_goals (try (conv => whnf))
    exact RetP.v rfl
  obtain ⟨a, rfl⟩ : ∃ k : Nat, a = k := ⟨a.toNat, by omega⟩
  obtain ⟨b, rfl⟩ : ∃ k : Nat, b = k := ⟨b.toNat, by omega⟩
  have ha : a < ps.length := by omega
  have hb : b < ps.length := by omega
  clear hr
  by_cases hab : a = b
  · subst hab
    have e : nextS ps a a = a := by
      unfold nextS
      rw [hasB_iff.2 ⟨by omega, by omega⟩]
      simp
    rw [e]
    repeat' (conv => whnf
             first
             | (refine get_id ?_; first | refine Get.mk _ rfl ?_)
             | (refine need_id ?_; first | refine Need.a ?_)
             | (refine eqk_id ?_; first | refine EqK.a ?_)
             | (refine br_id ?_; first | refine Br.t ?_ | refine Br.f ?_ | (refine Br.pos ?_ ?_; focus (with_reducible assumption)) | (refine Br.neg ?_ ?_; focus (with_reducible assumption)) | (refine Br.dpos ?_ ?_; focus (first | with_reducible exact rfl | with_reducible exact Int.le_refl _ | with_reducible assumption)) | (refine Br.dneg ?_ ?_; focus (with_reducible assumption)) | (refine Br.d (fun _ => ?_) (fun _ => ?_) <;> (first | (exfalso; omega; done) | skip)) | refine Br.n ?_ | (refine Br.s (fun _ => ?_) (fun _ => ?_) <;> (first | (exfalso; omega; done) | skip)) | (refine Br.mk (fun _ => ?_) (fun _ => ?_) <;> (first | (exfalso; omega; done) | skip)))
             | (refine regv_id ?_; first | refine RegV.qg ?_ | refine RegV.d ?_)
             | (refine gds_id ?_; apply GdS.mk)
             | (refine and_id ?_; exact ⟨rfl, rfl, rfl⟩)
             | (refine imp_id ?_; first | refine imp_s (fun _ => ?_) | refine fun _ => ?_)
             | refine NilB.mk (fun b hb => ?_)
             | (refine alv_and ?_ ?_; focus (first | rfl | done))
             | refine DrawV.mk [] ?_
             | (refine appc_id ?_; first | refine AppC.growA ?_ | refine AppC.place ?_))
    all_goals (try (conv => whnf))
    exact RetP.v rfl
  obtain ⟨k1, k2, k3⟩ := h.p.nxt_ok ha hb hab
  rw [k3]
  have hda := dlist_get ps b ha
  have hdl := dlist_len ps b
  have hlt := h.p.dst_lt ha hb
  have cd := refdists_pcon f ps b h hb
  have hall : Hd (∀ v, v < ps.length → (dlist ps b).getD v 0 = dst ps v b) := fun v hv => dlist_get ps b hv
  generalize dlist ps b = D at *
  repeat' (conv => whnf
           first
           | (refine get_id ?_; first | refine Get.mk _ rfl ?_)
           | (refine need_id ?_; first | refine Need.a ?_)
           | (refine eqk_id ?_; first | refine EqK.a ?_)
           | (refine br_id ?_; first | refine Br.t ?_ | refine Br.f ?_ | (refine Br.pos ?_ ?_; focus (with_reducible assumption)) | (refine Br.neg ?_ ?_; focus (with_reducible assumption)) | (refine Br.dpos ?_ ?_; focus (first | with_reducible exact rfl | with_reducible exact Int.le_refl _ | with_reducible assumption)) | (refine Br.dneg ?_ ?_; focus (with_reducible assumption)) | (refine Br.d (fun _ => ?_) (fun _ => ?_) <;> (first | (exfalso; omega; done) | skip)) | refine Br.n ?_ | (refine Br.s (fun _ => ?_) (fun _ => ?_) <;> (first | (exfalso; omega; done) | skip)) | (refine Br.mk (fun _ => ?_) (fun _ => ?_) <;> (first | (exfalso; omega; done) | skip)))
           | (refine regv_id ?_; first | refine RegV.qg ?_ | refine RegV.d ?_)
           | (refine gds_id ?_; apply GdS.mk)
           | (refine and_id ?_; exact ⟨rfl, rfl, rfl⟩)
           | (refine imp_id ?_; first | refine imp_s (fun _ => ?_) | refine fun _ => ?_)
           | refine NilB.mk (fun b hb => ?_)
           | (refine alv_and ?_ ?_; focus (first | rfl | done))
           | refine DrawV.mk [] ?_
           | (refine appc_id ?_; first | refine AppC.growA ?_ | refine AppC.place ?_)
           | (refine call_id ?_; first
                | refine CallV.c (cd) ?_
                | refine CallV.e (cd) ?_)
           | (refine calls_id ?_; first
                | refine CallS.c (cd) ?_
                | refine CallS.e (cd) ?_))
  all_goals (try (conv => whnf))
  refine LoopV.on (σ := Nat) rfl (fun i => [(0, intX f ps), (1, I a), (7, I ps.length), (8, .own 0 ps.length), (9, I i)]) (fun _ => [some (intB D)]) (fun i => i ≤ nxt ps a b) (fun i => ps.length - i) 0 ?_ (Nat.zero_le _) ?_
  · refine AtS.mk [] [0] rfl (by simp) rfl ?_ ?_
    · (repeat' (first | exact trivial | exact rfl | with_reducible assumption | (refine And.intro ?_ ?_) | (refine Exists.intro _ (And.intro rfl ?_)) | (refine Exists.intro _ (Exists.intro _ (And.intro rfl (And.intro rfl ?_)))) | (refine Or.inl ⟨rfl, rfl, ?_⟩) | (refine Or.inl ⟨rfl, ?_⟩; focus (fail_if_success (refine And.intro ?_ ?_))) | (refine Or.inl (?_ : (_ : Nat) = _ ∧ _); refine ⟨?_, ?_⟩; focus (first | (simp only [List.length_map]; done) | (simp only [List.length_map, List.length_append, List.length_cons, List.length_nil]; done))) | exact Or.inl rfl | (refine Or.inr (Or.inr ⟨?_, ?_⟩)) | (refine Or.inr ⟨?_, ?_⟩) | (refine fun h => ?_; first | exact h | exact rfl | (cases h; done)) | (refine om8 ?_; simp only [← List.map_drop, ← List.map_take]; exact rfl) | ((first | refine om1 ?_ | refine om2 ?_ | refine om3 ?_ | refine om4 ?_ | refine om5 ?_ | refine om6 ?_ | refine om7 ?_); first | (simp only [List.length_map]; done) | (simp only [List.length_map]; omega) | omega)))
    · (repeat' (first | exact trivial | exact rfl | with_reducible assumption | (refine And.intro ?_ ?_) | (refine Exists.intro _ (And.intro rfl ?_)) | (refine Exists.intro _ (Exists.intro _ (And.intro rfl (And.intro rfl ?_)))) | (refine Or.inl ⟨rfl, rfl, ?_⟩) | (refine Or.inl ⟨rfl, ?_⟩; focus (fail_if_success (refine And.intro ?_ ?_))) | (refine Or.inl (?_ : (_ : Nat) = _ ∧ _); refine ⟨?_, ?_⟩; focus (first | (simp only [List.length_map]; done) | (simp only [List.length_map, List.length_append, List.length_cons, List.length_nil]; done))) | exact Or.inl rfl | (refine Or.inr (Or.inr ⟨?_, ?_⟩)) | (refine Or.inr ⟨?_, ?_⟩) | (refine fun h => ?_; first | exact h | exact rfl | (cases h; done)) | (refine om8 ?_; simp only [← List.map_drop, ← List.map_take]; exact rfl) | ((first | refine om1 ?_ | refine om2 ?_ | refine om3 ?_ | refine om4 ?_ | refine om5 ?_ | refine om6 ?_ | refine om7 ?_); first | (simp only [List.length_map]; done) | (simp only [List.length_map]; omega) | omega)))
  intro i hi
  have hin : i < ps.length := by omega
  have hdi := hall i hin
  have hdlt := h.p.dst_lt hin hb
  have hiff := h.p.next_iff ha hb hin hab
  have g1 := int_get D i (Int.toNat_natCast i) (by omega)
  have g2 := int_get D a (Int.toNat_natCast a) (by omega)
  rw [hdi] at g1
  rw [hda] at g2
  have cn := near_pcon f ps i a hin ha
  generalize hq : isNear ps i a = q at cn hiff
  replace hiff : Hd _ := hiff
  cases q with
  | true =>
    repeat' (conv => whnf
             first
             | (refine get_id ?_; first | refine Get.mk _ rfl ?_ | refine Get.mk _ (g1) ?_ | refine Get.mk _ (g2) ?_)
             | (refine need_id ?_; first | refine Need.a ?_)
             | (refine eqk_id ?_; first | refine EqK.a ?_)
             | (refine br_id ?_; first | refine Br.t ?_ | refine Br.f ?_ | (refine Br.pos ?_ ?_; focus (with_reducible assumption)) | (refine Br.neg ?_ ?_; focus (with_reducible assumption)) | (refine Br.dpos ?_ ?_; focus (first | with_reducible exact rfl | with_reducible exact Int.le_refl _ | with_reducible assumption)) | (refine Br.dneg ?_ ?_; focus (with_reducible assumption)) | (refine Br.d (fun _ => ?_) (fun _ => ?_) <;> (first | (exfalso; omega; done) | skip)) | refine Br.n ?_ | (refine Br.s (fun _ => ?_) (fun _ => ?_) <;> (first | (exfalso; omega; done) | skip)) | (refine Br.mk (fun _ => ?_) (fun _ => ?_) <;> (first | (exfalso; omega; done) | skip)))
             | (refine regv_id ?_; first | refine RegV.qg ?_ | refine RegV.d ?_)
             | (refine gds_id ?_; apply GdS.mk)
             | (refine and_id ?_; exact ⟨rfl, rfl, rfl⟩)
             | (refine imp_id ?_; first | refine imp_s (fun _ => ?_) | refine fun _ => ?_)
             | refine NilB.mk (fun b hb => ?_)
             | (refine alv_and ?_ ?_; focus (first | rfl | done))
             | refine DrawV.mk [] ?_
             | (refine appc_id ?_; first | refine AppC.growA ?_ | refine AppC.place ?_)
             | (refine call_id ?_; first
                  | refine CallV.c (cn) ?_
                  | refine CallV.e (cn) ?_)
             | (refine calls_id ?_; first
                  | refine CallS.c (cn) ?_
                  | refine CallS.e (cn) ?_))
    all_goals (try (conv => whnf))
    · rename_i hc
      have := hiff.1 ⟨rfl, hc⟩
      exact RetP.v (by rw [this])
    · rename_i hc
      have hne : i ≠ nxt ps a b := fun e => hc (hiff.2 e).2
      refine nx (i + 1) (by omega) (by omega) (AtS.mk [] [0] rfl (by simp) rfl ?_ ?_)
      · (repeat' (first | exact trivial | exact rfl | with_reducible assumption | (refine And.intro ?_ ?_) | (refine Exists.intro _ (And.intro rfl ?_)) | (refine Exists.intro _ (Exists.intro _ (And.intro rfl (And.intro rfl ?_)))) | (refine Or.inl ⟨rfl, rfl, ?_⟩) | (refine Or.inl ⟨rfl, ?_⟩; focus (fail_if_success (refine And.intro ?_ ?_))) | (refine Or.inl (?_ : (_ : Nat) = _ ∧ _); refine ⟨?_, ?_⟩; focus (first | (simp only [List.length_map]; done) | (simp only [List.length_map, List.length_append, List.length_cons, List.length_nil]; done))) | exact Or.inl rfl | (refine Or.inr (Or.inr ⟨?_, ?_⟩)) | (refine Or.inr ⟨?_, ?_⟩) | (refine fun h => ?_; first | exact h | exact rfl | (cases h; done)) | (refine om8 ?_; simp only [← List.map_drop, ← List.map_take]; exact rfl) | ((first | refine om1 ?_ | refine om2 ?_ | refine om3 ?_ | refine om4 ?_ | refine om5 ?_ | refine om6 ?_ | refine om7 ?_); first | (simp only [List.length_map]; done) | (simp only [List.length_map]; omega) | omega)))
      · (repeat' (first | exact trivial | exact rfl | with_reducible assumption | (refine And.intro ?_ ?_) | (refine Exists.intro _ (And.intro rfl ?_)) | (refine Exists.intro _ (Exists.intro _ (And.intro rfl (And.intro rfl ?_)))) | (refine Or.inl ⟨rfl, rfl, ?_⟩) | (refine Or.inl ⟨rfl, ?_⟩; focus (fail_if_success (refine And.intro ?_ ?_))) | (refine Or.inl (?_ : (_ : Nat) = _ ∧ _); refine ⟨?_, ?_⟩; focus (first | (simp only [List.length_map]; done) | (simp only [List.length_map, List.length_append, List.length_cons, List.length_nil]; done))) | exact Or.inl rfl | (refine Or.inr (Or.inr ⟨?_, ?_⟩)) | (refine Or.inr ⟨?_, ?_⟩) | (refine fun h => ?_; first | exact h | exact rfl | (cases h; done)) | (refine om8 ?_; simp only [← List.map_drop, ← List.map_take]; exact rfl) | ((first | refine om1 ?_ | refine om2 ?_ | refine om3 ?_ | refine om4 ?_ | refine om5 ?_ | refine om6 ?_ | refine om7 ?_); first | (simp only [List.length_map]; done) | (simp only [List.length_map]; omega) | omega)))
  | false =>
    have hne : i ≠ nxt ps a b := fun e => by have := (hiff.2 e).1; cases this
    repeat' (conv => whnf
             first
             | (refine get_id ?_; first | refine Get.mk _ rfl ?_ | refine Get.mk _ (g1) ?_ | refine Get.mk _ (g2) ?_)
             | (refine need_id ?_; first | refine Need.a ?_)
             | (refine eqk_id ?_; first | refine EqK.a ?_)
             | (refine br_id ?_; first | refine Br.t ?_ | refine Br.f ?_ | (refine Br.pos ?_ ?_; focus (with_reducible assumption)) | (refine Br.neg ?_ ?_; focus (with_reducible assumption)) | (refine Br.dpos ?_ ?_; focus (first | with_reducible exact rfl | with_reducible exact Int.le_refl _ | with_reducible assumption)) | (refine Br.dneg ?_ ?_; focus (with_reducible assumption)) | (refine Br.d (fun _ => ?_) (fun _ => ?_) <;> (first | (exfalso; omega; done) | skip)) | refine Br.n ?_ | (refine Br.s (fun _ => ?_) (fun _ => ?_) <;> (first | (exfalso; omega; done) | skip)) | (refine Br.mk (fun _ => ?_) (fun _ => ?_) <;> (first | (exfalso; omega; done) | skip)))
             | (refine regv_id ?_; first | refine RegV.d (id := 10) ?_ | refine RegV.qg ?_ | refine RegV.d ?_)
             | (refine gds_id ?_; apply GdS.mk)
             | (refine and_id ?_; exact ⟨rfl, rfl, rfl⟩)
             | (refine imp_id ?_; first | refine imp_s (fun _ => ?_) | refine fun _ => ?_)
             | refine NilB.mk (fun b hb => ?_)
             | (refine alv_and ?_ ?_; focus (first | rfl | done))
             | refine DrawV.mk [] ?_
             | (refine appc_id ?_; first | refine AppC.growA ?_ | refine AppC.place ?_)
             | (refine call_id ?_; first
                  | refine CallV.c (cn) ?_
                  | refine CallV.e (cn) ?_)
             | (refine calls_id ?_; first
                  | refine CallS.c (cn) ?_
                  | refine CallS.e (cn) ?_))
    all_goals (try (conv => whnf))
    refine nx (i + 1) (by omega) (by omega) (AtS.mk [] [0] rfl (by simp) rfl ?_ ?_)
    · (repeat' (first | exact trivial | exact rfl | with_reducible assumption | (refine And.intro ?_ ?_) | (refine Exists.intro _ (And.intro rfl ?_)) | (refine Exists.intro _ (Exists.intro _ (And.intro rfl (And.intro rfl ?_)))) | (refine Or.inl ⟨rfl, rfl, ?_⟩) | (refine Or.inl ⟨rfl, ?_⟩; focus (fail_if_success (refine And.intro ?_ ?_))) | (refine Or.inl (?_ : (_ : Nat) = _ ∧ _); refine ⟨?_, ?_⟩; focus (first | (simp only [List.length_map]; done) | (simp only [List.length_map, List.length_append, List.length_cons, List.length_nil]; done))) | exact Or.inl rfl | (refine Or.inr (Or.inr ⟨?_, ?_⟩)) | (refine Or.inr ⟨?_, ?_⟩) | (refine fun h => ?_; first | exact h | exact rfl | (cases h; done)) | (refine om8 ?_; simp only [← List.map_drop, ← List.map_take]; exact rfl) | ((first | refine om1 ?_ | refine om2 ?_ | refine om3 ?_ | refine om4 ?_ | refine om5 ?_ | refine om6 ?_ | refine om7 ?_); first | (simp only [List.length_map]; done) | (simp only [List.length_map]; omega) | omega)))
    · (repeat' (first | exact trivial | exact rfl | with_reducible assumption | (refine And.intro ?_ ?_) | (refine Exists.intro _ (And.intro rfl ?_)) | (refine Exists.intro _ (Exists.intro _ (And.intro rfl (And.intro rfl ?_)))) | (refine Or.inl ⟨rfl, rfl, ?_⟩) | (refine Or.inl ⟨rfl, ?_⟩; focus (fail_if_success (refine And.intro ?_ ?_))) | (refine Or.inl (?_ : (_ : Nat) = _ ∧ _); refine ⟨?_, ?_⟩; focus (first | (simp only [List.length_map]; done) | (simp only [List.length_map, List.length_append, List.length_cons, List.length_nil]; done))) | exact Or.inl rfl | (refine Or.inr (Or.inr ⟨?_, ?_⟩)) | (refine Or.inr ⟨?_, ?_⟩) | (refine fun h => ?_; first | exact h | exact rfl | (cases h; done)) | (refine om8 ?_; simp only [← List.map_drop, ← List.map_take]; exact rfl) | ((first | refine om1 ?_ | refine om2 ?_ | refine om3 ?_ | refine om4 ?_ | refine om5 ?_ | refine om6 ?_ | refine om7 ?_); first | (simp only [List.length_map]; done) | (simp only [List.length_map]; omega) | omega)))
theorem natB_int (ys : List Nat) : natB ys = intB (ys.map fun (x : Nat) => (x : Int)) := by
  unfold natB intB natR intR
  rw [List.map_map]
  rfl
/-- The way between two numbers, as a list of numbers. -/
def pathI (ps : List Int) (a b : Int) : List Int := (pathN ps a b).map fun (x : Nat) => (x : Int)
end Go.Proofs.Ytiklbnianbejdaa

/- The law TreeAnswers; lists that are the same. -/
namespace Go.Proofs.Ytiklbnianbejdaa
open Go Go.Eng Go.RowKit

/-- A node's neighbours; none where there is no such node. -/
def nbr (ps : List Int) (v : Int) : List Int := if hasB ps v = true then nearTo ps v.toNat ps.length else []
theorem neighAll_pcon (ps : List Int) (v : Int) (h : Tr1 ps) : PCon Try.prog 26 [treeX true ps (nearOf ps), I v] (.own 0 (nbr ps v).length) [intB (nbr ps v)] := by
  unfold nbr
  have hle := h.le
  by_cases hv : hasB ps v = true
  · have e := hasB_iff.1 hv
    have hn := h.p.near_list (v := v.toNat) (by omega)
    have := neigh_pcon true ps (nearOf ps) v (nearOf_length ps) hv (by rw [hn]; have := nearTo_le ps v.toNat ps.length; omega)
    rw [hn] at this
    rw [if_pos hv]
    exact this
  · rw [if_neg hv]
    exact neighO_pcon true ps (nearOf ps) v (by simpa using hv)
theorem root_at {ps : List Int} (h : Tr1 ps) : ∃ r : Nat, indexS ps (-1) = r ∧ r < ps.length ∧ ps.getD r 0 = -1 := by
  have h1 : ∀ v, v < ps.length → ∃ r, r < ps.length ∧ ps.getD r 0 = -1 := by
    refine h.p.ind fun v hv ih => ?_
    rcases Int.lt_or_le (ps.getD v 0) 0 with h0 | h0
    · have := h.p.bd v hv
      exact ⟨v, hv, by omega⟩
    · exact ih h0
  obtain ⟨r, hr, e⟩ := h1 0 h.pos
  unfold indexS
  cases hf : ps.findIdx? (· == -1) with
  | none =>
    rw [List.findIdx?_eq_none_iff] at hf
    have := hf (ps[r]) (List.getElem_mem hr)
    rw [show ps[r] = -1 by simpa [hr] using e] at this
    cases this
  | some i =>
    rw [List.findIdx?_eq_some_iff_getElem] at hf
    obtain ⟨h2, h3, _⟩ := hf
    exact ⟨i, rfl, h2, by simpa [h2] using h3⟩
end Go.Proofs.Ytiklbnianbejdaa
