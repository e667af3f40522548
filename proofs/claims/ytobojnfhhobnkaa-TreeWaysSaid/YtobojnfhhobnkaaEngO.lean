/- The engine, part O: code and loops. -/
import Derived.Test.YtobojnfhhobnkaaEngZ
set_option linter.unusedSimpArgs false
set_option maxRecDepth 20000
set_option linter.unusedVariables false
namespace Go.Eng
open Go Go.RowKit

/-! ### Code -/
inductive LoopV (J : Option (World → Nat → List (List Sv) → (Nat → Prop) → (Nat → Prop) → World → Prop)) (mm : Nat) (body : List Sv → Hp → (Exit → List Sv → Hp → Prop) → Prop) (tm : List Sv) (hp : Hp) (K : Exit → List Sv → Hp → Prop) : Prop
  | mk (I : Nat → List Sv → Hp → Prop) (n : Nat) : Back mm tm hp (I n) →
      (∀ n tm hp, I n tm hp → body tm hp fun e tm' hp' => match e with | .normal => ∃ m, m < n ∧ Back mm tm' hp' (I m) | e => K e tm' hp') → LoopV J mm body tm hp K
  | ns (I : Nat → List Sv → Hp → Prop) (n : Nat) : BackJ J mm tm hp (I n) →
      (∀ n tm hp, I n tm hp → body tm hp fun e tm' hp' => match e with | .normal => ∃ m, m < n ∧ BackJ J mm tm' hp' (I m) | e => K e tm' hp') → LoopV J mm body tm hp K

/-- What comes behind the first half of a sequence; behind a block; behind a scope. (As words of their own: the continuation stands in each of them once.) -/
def kSeq (r : List Sv → Hp → (Exit → List Sv → Hp → Prop) → Prop) (K : Exit → List Sv → Hp → Prop) (e : Exit) (tm : List Sv) (hp : Hp) : Prop :=
  match e with
  | .normal => r tm hp K
  | e => K e tm hp
def kBlock (id : Nat) (K : Exit → List Sv → Hp → Prop) (e : Exit) (tm : List Sv) (hp : Hp) : Prop :=
  match e with
  | .exit j => match Nat.beq j id with | true => K .normal tm hp | false => K (.exit j) tm hp
  | e => K e tm hp
def kScope (K : Exit → List Sv → Hp → Prop) (e : Exit) (tm : List Sv) (hp : Hp) : Prop :=
  match e with
  | .goto _ => False
  | e => K e tm hp
def kNormal (K : Exit → List Sv → Hp → Prop) (tm : List Sv) (hp : Hp) : Prop := K .normal tm hp
def kLoop (r : List Sv → Hp → (Exit → List Sv → Hp → Prop) → Prop) (tm : List Sv) (hp : Hp) (K : Exit → List Sv → Hp → Prop) : Prop := spineK tm fun tm => r tm hp K

def runC : Gm → Code → List Sv → Hp → (Exit → List Sv → Hp → Prop) → Prop
  | _, .skip, tm, hp, K => K .normal tm hp
  | _, .label _, tm, hp, K => K .normal tm hp
  | G, .region id ops dr, tm, hp, K => RegV G id dr ops.toList tm hp (kNormal K)
  | G, .seq x y, tm, hp, K => runC G x tm hp (kSeq (runC G y) K)
  | G, .cond c x y, tm, hp, K => match evO tm c with
    | .val (.bool b) => Br b (runC G x tm hp K) (runC G y tm hp K)
    | _ => False
  | G, .block id body, tm, hp, K => runC G body tm hp (kBlock id K)
  | G, .loop body, tm, hp, K => LoopV G.J G.m (kLoop (runC G body)) tm hp K
  | G, .rangeFunc f ps assign body, tm, hp, K => RangeV G (fun mr => runC (G.at mr) assign) (fun mr => runC (G.at mr) body) f ps.toList tm hp K
  | _, .exit id, tm, hp, K => K (.exit id) tm hp
  | _, .goto l, tm, hp, K => K (.goto l) tm hp
  | _, .ret, tm, hp, K => K .ret tm hp
  | G, .scope body, tm, hp, K => runC G body tm hp (kScope K)
  | _, .refuse _, _, _, _ => False

section scope
variable {P : Program} {F : Fence} {n : Nat} {Q : Exit → Act → World → Prop} {a : Act} {w : World}
theorem stepR_scope {b : Frame} {k : List Item} {cs : List Frame} {c : Code} : step P (lone (b.atR a (.code (.scope c) :: k)) cs w) = .next (lone (b.atR a (.code c :: .inScope c :: k)) cs w) :=
  step_lone_go (by simp [stepG, stepG.exec, Frame.atR])
theorem stepR_inScope {b : Frame} {k : List Item} {cs : List Frame} {c : Code} : step P (lone (b.atR a (.inScope c :: k)) cs w) = .next (lone (b.atR a k) cs w) :=
  step_lone_go (by simp [stepG, stepG.exec, Frame.atR])
theorem wpIn_scope {c : Code} (h : c.wpIn F n P (Exit.noGoto Q) a w) : (Code.scope c).wpIn F n P Q a w := by
  intro b k cs hro hb hr
  have h0 : (lone (b.atR a (.code (.scope c) :: k)) cs w).fenced P F := fenced_calm hb hr rfl
  obtain ⟨e, a₁, w₁, hq, harr⟩ := h b (.inScope c :: k) cs hro hb hr
  cases e with
  | normal => exact ⟨.normal, a₁, w₁, hq, .head h0 stepR_scope (StepsIn.trans harr (.one (fenced_calm hb hr rfl) stepR_inScope))⟩
  | exit id =>
    have hx : exitTo id (.inScope c :: k) = exitTo id k := by simp [exitTo]
    exact ⟨_, a₁, w₁, hq, fun k' hk => .head h0 stepR_scope (harr.1 k' (by rw [hx]; exact hk)),
      fun hr' hk => let ⟨k₁, h1, h2⟩ := harr.2 hr' (by rw [hx]; exact hk); ⟨k₁, h1, .head h0 stepR_scope h2⟩⟩
  | goto l => exact hq.elim
  | ret => exact ⟨_, a₁, w₁, hq, .of_steps (.one h0 stepR_scope) harr⟩
  | panic ch => exact ⟨_, a₁, w₁, hq, .of_steps (.one h0 stepR_scope) harr⟩
  | outgrown => exact ⟨_, a₁, w₁, hq, .of_steps (.one h0 stepR_scope) harr⟩
end scope

theorem least (p : Nat → Prop) : (∃ n, p n) → ∃ n, p n ∧ ∀ m, p m → n ≤ m := by
  rintro ⟨n, hn⟩
  induction n using Nat.strongRecOn with
  | _ n ih =>
    by_cases h : ∃ m, m < n ∧ p m
    · obtain ⟨m, hm, hp⟩ := h
      exact ih m hm hp
    · exact ⟨n, hn, fun m hm => by
        rcases Nat.lt_or_ge m n with h1 | h1
        · exact absurd ⟨m, h1, hm⟩ h
        · exact h1⟩
open Classical in
noncomputable def mu (p : Nat → Prop) : Nat := if h : ∃ n, p n then Classical.choose (least p h) else 0
theorem mu_spec {p : Nat → Prop} (h : ∃ n, p n) : p (mu p) := by
  unfold mu
  rw [dif_pos h]
  exact (Classical.choose_spec (least p h)).1
theorem mu_le {p : Nat → Prop} {m : Nat} (h : p m) : mu p ≤ m := by
  unfold mu
  rw [dif_pos ⟨m, h⟩]
  exact (Classical.choose_spec (least p ⟨m, h⟩)).2 m h

theorem runC_sound : ∀ (code : Code) (G : Gm), RunOk G code (runC G code)
  | .skip, _ => fun F n w0 M ds tm hp K Q c a hF hm hy hro h hQ hS => wpIn_skip (hQ _ a c tm hp h hS)
  | .label _, _ => fun F n w0 M ds tm hp K Q c a hF hm hy hro h hQ hS => wpIn_label (hQ _ a c tm hp h hS)
  | .region id ops dr, G => fun F n w0 M ds tm hp K Q c a hF hm hy hro h hQ hS => by
    simp only [runC] at h
    exact regv_sound hF hm.1 hy (fun a c tm hp hk hs => hQ .normal a c tm hp hk hs) h hS
  | .seq x y, G => fun F n w0 M ds tm hp K Q c a hF hm hy hro h hQ hS => by
    refine wpIn_seq (runC_sound x G F n w0 M ds tm hp _ _ c a hF hm hy hro h ?_ hS)
    intro e a c tm hp hk hs
    cases e with
    | normal => exact runC_sound y G F n w0 M ds tm hp K Q c a hF hm hy hro hk hQ hs
    | _ => exact hQ _ a c tm hp hk hs
  | .cond q x y, G => fun F n w0 M ds tm hp K Q c a hF hm hy hro h hQ hS => by
    simp only [runC] at h
    split at h
    · rename_i b hb
      have hr := hS.opnd q
      rw [hb] at hr
      simp only [Rel] at hr
      obtain ⟨h1, h2⟩ := h
      exact wpIn_cond_split hr (fun e => runC_sound x G F n w0 M ds tm hp K Q c a hF hm hy hro (h1 e) hQ hS) (fun e => runC_sound y G F n w0 M ds tm hp K Q c a hF hm hy hro (h2 e) hQ hS)
    · exact h.elim
  | .block id body, G => fun F n w0 M ds tm hp K Q c a hF hm hy hro h hQ hS => by
    refine wpIn_block (runC_sound body G F n w0 M ds tm hp _ _ c a hF hm hy hro h ?_ hS)
    intro e a c tm hp hk hs
    cases e with
    | exit j =>
      simp only [kBlock] at hk
      simp only [Exit.inBlock]
      cases hj : Nat.beq j id with
      | true =>
        rw [hj] at hk
        rw [if_pos (Nat.eq_of_beq_eq_true hj)]
        exact hQ _ a c tm hp hk hs
      | false =>
        rw [hj] at hk
        rw [if_neg (fun e => by rw [e, Nat.beq_refl] at hj; cases hj)]
        exact hQ _ a c tm hp hk hs
    | _ => exact hQ _ a c tm hp hk hs
  | .loop body, G => fun F n w0 M ds tm hp K Q c a hF hm hy hro h hQ hS => by
    rcases h with ⟨I, m, ⟨tm', hp', hw, hI⟩, step⟩ | ⟨I, m, hw, step⟩
    · obtain ⟨c', hcw, hS'⟩ := hw w0 M c a ds hm.1 hS
      refine wpIn_loop (fun a w => ∃ m c tm hp, c.w = w ∧ I m tm hp ∧ St w0 M c tm hp a ds) (fun a w => mu fun m => ∃ c tm hp, c.w = w ∧ I m tm hp ∧ St w0 M c tm hp a ds) ⟨m, c', tm', hp', hcw, hI, hS'⟩ ?_
      rintro a w ⟨m0, h0⟩
      obtain ⟨c1, tm1, hp1, rfl, hI1, hS1⟩ := mu_spec (p := fun m => ∃ c tm hp, c.w = w ∧ I m tm hp ∧ St w0 M c tm hp a ds) ⟨m0, h0⟩
      have step' := step _ _ _ hI1
      unfold kLoop at step'
      rw [spineK_eq] at step'
      refine runC_sound body G F n w0 M ds tm1 hp1 _ _ c1 a hF hm hy hro step' ?_ hS1
      intro e a2 c2 tm2 hp2 hk hs
      cases e with
      | normal =>
        obtain ⟨m', hlt, tm3, hp3, hw3, hI3⟩ := hk
        obtain ⟨c3, hc3, hS3⟩ := hw3 w0 M c2 a2 ds hm.1 hs
        exact ⟨⟨m', c3, tm3, hp3, hc3, hI3, hS3⟩, Nat.lt_of_le_of_lt (mu_le ⟨c3, tm3, hp3, hc3, hI3, hS3⟩) hlt⟩
      | _ => exact hQ _ a2 c2 tm2 hp2 hk hs
    · obtain ⟨c', tm', hp', hcw, hI, hS'⟩ := hw w0 M c a ds hm.1 hm.2 hS
      refine wpIn_loop (fun a w => ∃ m c tm hp, c.w = w ∧ I m tm hp ∧ St w0 M c tm hp a ds) (fun a w => mu fun m => ∃ c tm hp, c.w = w ∧ I m tm hp ∧ St w0 M c tm hp a ds) ⟨m, c', tm', hp', hcw, hI, hS'⟩ ?_
      rintro a w ⟨m0, h0⟩
      obtain ⟨c1, tm1, hp1, rfl, hI1, hS1⟩ := mu_spec (p := fun m => ∃ c tm hp, c.w = w ∧ I m tm hp ∧ St w0 M c tm hp a ds) ⟨m0, h0⟩
      have step' := step _ _ _ hI1
      unfold kLoop at step'
      rw [spineK_eq] at step'
      refine runC_sound body G F n w0 M ds tm1 hp1 _ _ c1 a hF hm hy hro step' ?_ hS1
      intro e a2 c2 tm2 hp2 hk hs
      cases e with
      | normal =>
        obtain ⟨m', hlt, hw3⟩ := hk
        obtain ⟨c3, tm3, hp3, hc3, hI3, hS3⟩ := hw3 w0 M c2 a2 ds hm.1 hm.2 hs
        exact ⟨⟨m', c3, tm3, hp3, hc3, hI3, hS3⟩, Nat.lt_of_le_of_lt (mu_le ⟨c3, tm3, hp3, hc3, hI3, hS3⟩) hlt⟩
      | _ => exact hQ _ a2 c2 tm2 hp2 hk hs
  | .rangeFunc f ps assign body, G => fun F n w0 M ds tm hp K Q c a hF hm hy hro h hQ hS =>
    range_sound (fun mr => runC_sound assign (G.at mr)) (fun mr => runC_sound body (G.at mr)) hF hm.1 hy hro h hQ hS
  | .exit id, _ => fun F n w0 M ds tm hp K Q c a hF hm hy hro h hQ hS => wpIn_exit (hQ _ a c tm hp h hS)
  | .goto l, _ => fun F n w0 M ds tm hp K Q c a hF hm hy hro h hQ hS => wpIn_goto (hQ _ a c tm hp h hS)
  | .ret, _ => fun F n w0 M ds tm hp K Q c a hF hm hy hro h hQ hS => wpIn_ret (hQ _ a c tm hp h hS)
  | .scope body, G => fun F n w0 M ds tm hp K Q c a hF hm hy hro h hQ hS => by
    refine wpIn_scope (runC_sound body G F n w0 M ds tm hp _ _ c a hF hm hy hro h ?_ hS)
    intro e a c tm hp hk hs
    cases e with
    | goto l => exact hk.elim
    | _ => exact hQ _ a c tm hp hk hs
  | .refuse _, _ => fun F n w0 M ds tm hp K Q c a hF hm hy hro h hQ hS => by simp only [runC] at h
end Go.Eng
