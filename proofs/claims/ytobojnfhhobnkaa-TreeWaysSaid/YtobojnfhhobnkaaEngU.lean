/- The engine, part U: a call as an operation. -/
import Derived.Test.YtobojnfhhobnkaaEngS
set_option linter.unusedSimpArgs false
set_option maxRecDepth 20000
set_option linter.unusedVariables false
namespace Go.Eng
open Go Go.RowKit

inductive CallV (P : Program) (hp : Hp) (f : Nat) (args : List Sv) (K : Sv → List Blk → List Nat → Prop) : Prop
  | mk (args' : List Sv) (res : Sv) (nb : List Blk) : ClL hp [] args args' → PCon P f args' res nb → K (res.mv (rho [] hp.length)) (nb.map (Blk.mv (rho [] hp.length))) [] → CallV P hp f args K
  /-- The first argument's block is handed over; what comes back is that block, under a new name. -/
  | take (k n : Nat) (rest args' : List Sv) (b b1 : Blk) (n' : Nat) : args = .own k n :: rest → selIn hp [k] [k] [b] → ClL hp [k] args args' → MCon P f args' [b] (fun r hp' => r = .own 0 n' ∧ hp' = [some b1]) → b1.clean = true → b1.grow = true → K (.own hp.length n') [b1] [k] → CallV P hp f args K

theorem okI_nil : okI [] [] = fun _ => true := by funext i; simp [okI, nth]
theorem mrgO_nil (hp' : Hp) (ρ : Nat → Nat) : ∀ (i : Nat) (hp : Hp), mrgO [] [] hp' ρ i hp = hp
  | _, [] => rfl
  | i, b :: bs => by simp [mrgO, memB, mrgO_nil hp' ρ (i + 1) bs]
theorem mvO_some (ρ : Nat → Nat) : ∀ nb : List Blk, mvO ρ (nb.map some) = (nb.map (Blk.mv ρ)).map some
  | [] => rfl
  | b :: nb => by simp [mvO, mvO_some ρ nb]

section
variable {G : Gm} {tm : List Sv} {hp : Hp} {o : Oper}

theorem resolve_value {P : Program} {ρ : Operand → Value} {g : Operand} {args : Array Operand} {tys : Array TypeId} {ty : Nat} {f : Nat} {caps : Array Value} (h : ρ g = .func (.func f) #[] caps) (hf : Callable P f) (w : World) :
    (do let d ← resolve ρ { callee := .value g, args := args, argTypes := tys } ty; invoke d.target d.args : Sem Next).run P w = .ok (.enter f (args.map ρ ++ caps)) w := by
  obtain ⟨fn, h1, h2, h3⟩ := hf
  have h2' : ¬ fn.name = "runtime.NumGoroutine" := by simpa using h2
  have h3' : ¬ fn.body = none := fun h => by rw [h] at h3; cases h3
  simp [resolve, h, Deferred.ofValue, invoke, callFunc, h1, h2', h3']


theorem RelT_append {c : Cx} : ∀ {l1 l2 : List Sv} {v1 v2 : List Value}, RelT l1 c v1 → RelT l2 c v2 → RelT (l1 ++ l2) c (v1 ++ v2)
  | [], _, _, _, h1, h2 => by simp only [RelT] at h1; subst h1; simpa using h2
  | s :: ss, _, _, _, h1, h2 => by
    simp only [RelT] at h1
    obtain ⟨u, us, e, hs, hl⟩ := h1
    subst e
    simp only [List.cons_append, RelT]
    exact ⟨u, _, rfl, hs, RelT_append hl h2⟩

/-- The walk of a call, up to the call itself. -/
theorem call_walk {g : Operand} {xs : Array Operand} {tys : Array TypeId} {f : Nat} {caps : List Sv} (ho : o.op = .call { callee := .value g, args := xs, argTypes := tys }) (hg : evO tm g = .clo f caps)
    {P : Program} (hcall : Callable P f) {F : Fence} (hF : Open F) {n : Nat} {c : Cx} {a : Act} {next : Act → World → Prop} {Q : Exit → Act → World → Prop} (ha : ∀ x ∈ o.op.operands, Rel (evO tm x) c (a.eval x))
    (h : ∀ vs : List Value, RelT (xs.toList.map (evO tm) ++ caps) c vs → Calls P f vs.toArray c.w fun e w' => ∃ v, e = .returned v ∧ next (a.put o.dst v) w') : o.wpIn F n P a c.w next Q := by
  have hgr := opnd_rel ha (by rw [ho]; simp [Op.operands, Call.operands]) hg
  simp only [Rel] at hgr
  obtain ⟨cv, hgv, hcv⟩ := hgr
  have hargs : RelT (xs.toList.map (evO tm)) c (xs.toList.map a.eval) := RelT_map _ fun x hx => ha x (by rw [ho]; simp [Op.operands, Call.operands]; right; simpa using hx)
  have hc := h _ (RelT_append hargs hcv)
  have hrun : (execOp a.eval o).run P c.w = .ok (.enter f (xs.map a.eval ++ cv.toArray)) c.w := by
    simp only [execOp, ho]
    exact resolve_value hgv hcall c.w
  have hvs : (xs.toList.map a.eval ++ cv).toArray = xs.map a.eval ++ cv.toArray := by
    apply Array.ext'
    simp
  rw [hvs] at hc
  refine ⟨fun f _ => hF.fn f, ?_⟩
  rw [Oper.semAt_eq _ _ _ (by rw [ho]; simp), hrun]
  refine ⟨fun h => (by rw [hF.depth] at h; cases h), ?_⟩
  have hin : CallsIn F (n - 1) P f (xs.map a.eval ++ cv.toArray) c.w (fun e w' => ∃ v, e = .returned v ∧ next (a.put o.dst v) w') := hF.callsIn hc
  refine hin.mono fun e w' hR => ?_
  obtain ⟨v, rfl, hE⟩ := hR
  exact hE

theorem killH_congr (kl : List Nat) : ∀ (hp hp2 : Hp) (i : Nat), hp.length = hp2.length → (∀ j, memB (i + j) kl = false → hp[j]? = hp2[j]?) → killH kl i hp = killH kl i hp2
  | [], hp2, i, hl, _ => by
    have : hp2 = [] := List.length_eq_zero_iff.1 hl.symm
    subst this
    rfl
  | x :: xs, [], i, hl, _ => by simp at hl
  | x :: xs, y :: ys, i, hl, h => by
    simp only [killH]
    rw [killH_congr kl xs ys (i + 1) (by simpa using hl) (fun j hj => by simpa using h (j + 1) (by rw [show i + (j + 1) = i + 1 + j by omega]; exact hj))]
    cases hm : memB i kl with
    | true => rfl
    | false =>
      have := h 0 (by simpa using hm)
      simp only [List.getElem?_cons_zero, Option.some.injEq] at this
      rw [this]
theorem callT_sound {g : Operand} {xs : Array Operand} {tys : Array TypeId} {f : Nat} {caps : List Sv} {K : Sv → List Blk → List Nat → Prop} (ho : o.op = .call { callee := .value g, args := xs, argTypes := tys }) (hg : evO tm g = .clo f caps)
    {k n n' : Nat} {rest args' : List Sv} {b b1 : Blk} (hargs : xs.toList.map (evO tm) ++ caps = .own k n :: rest) (hin : selIn hp [k] [k] [b]) (hcl : ClL hp [k] (xs.toList.map (evO tm) ++ caps) args')
    (hcon : MCon G.P f args' [b] (fun r hp' => r = .own 0 n' ∧ hp' = [some b1])) (hb1c : b1.clean = true) (hb1g : b1.grow = true) (hK : K (.own hp.length n') [b1] [k]) : ∃ s nb kl, K s nb kl ∧ EStep G.P o tm hp s nb kl := by
  refine ⟨_, _, _, hK, ?_⟩
  intro F nn w0 M c a next Q hF hI ha hn
  refine call_walk ho hg hcon.1 hF ha fun vs hvs => ?_
  have hDk : c.D k := by
    have hvs' := hvs
    rw [hargs] at hvs'
    simp only [RelT] at hvs'
    obtain ⟨u, us, _, hs, _⟩ := hvs'
    simp only [Rel] at hs
    exact hs.1
  have hsD : ∀ j ∈ [k], c.D j := fun j hj => by
    simp only [List.mem_cons, List.not_mem_nil, or_false] at hj
    subst hj
    exact hDk
  have hnd : [k].Nodup := by simp
  have hmk : memB k [k] = true := by simp [memB]
  have hmn : ∀ j, j ≠ k → memB j [k] = false := fun j hj => by simp [memB, hj]
  obtain ⟨_, hI1, hlen⟩ := hand_invD hI hsD hnd hin
  have hc := hcon.2 c.w (handM c [k]) (c.hand [k]) vs rfl hlen.symm (fun _ h => h) hI1 (fun j b h => by
    have := (List.getElem?_eq_some_iff.1 h).1
    show j < [k].length
    simpa using this) ((ClL.rel args' hcl hI hsD).2.1 vs hvs)
  refine hc.mono fun e w' hR => ?_
  obtain ⟨v, c', r, hp', rfl, ⟨rfl, rfl⟩, hE⟩ := hR
  refine ⟨v, rfl, ?_⟩
  obtain ⟨h1, _, h3, h4⟩ := call_post (kl := []) hI hnd (fun k h => by simp [memB] at h) hsD (fun i j h _ => by
      cases i with
      | zero => exact ⟨b1, rfl⟩
      | succ i => simp [nth] at h) hE (by simp [Sv.all, okI, nth, memB]) (fun i b2 hb _ hc2 => by
      cases i with
      | zero =>
        simp only [List.getElem?_cons_zero, Option.some.injEq] at hb
        subst hb
        rw [hb1c] at hc2; cases hc2
      | succ i => simp at hb)
  have hN : ∀ k, c.D k → k < hp.length := fun k hD => by
    obtain ⟨blk, e, _⟩ := hI.dom _ hD
    exact (List.getElem?_eq_some_iff.1 e).1
  have hkl := hN k hDk
  have hD0 : c'.D 0 := hE.full 0 b1 rfl
  have hE0 : c'.E 0 = c.E k := by
    rw [hE.inv.e0 0 (by show 0 < 1; omega) hD0]
    rfl
  generalize hc1 : mrgC c c' hp.length [k] [] = c1 at h1 h3 h4
  have hE1 : ∀ j, j < hp.length → c1.E j = c.E j := fun j hj => by subst hc1; simp [mrgC, hj]
  have hw1 : c1.w = c'.w := by subst hc1; rfl
  have hD1 : ∀ j, c1.D j ↔ c.D j := fun j => by
    subst hc1
    simp only [mrgC]
    by_cases hj : j < hp.length
    · rw [if_pos hj]
      by_cases hjk : j = k
      · subst hjk
        rw [if_pos hmk]
        simp [memB, idx, hD0, hDk]
      · rw [if_neg (by rw [hmn j hjk]; simp)]
    · rw [if_neg hj]
      constructor
      · intro h
        obtain ⟨blk, e, _⟩ := hE.inv.dom _ h
        have := (List.getElem?_eq_some_iff.1 e).1
        simp at this
      · intro h
        exact absurd (hN j h) hj
  have hH : mrgH hp [k] [] [some b1] = mrgO [k] [] [some b1] (rho [k] hp.length) 0 hp := by
    unfold mrgH
    simp [mvO, kill]
  have hHl : (mrgH hp [k] [] [some b1]).length = hp.length := by rw [hH, mrgO_length]
  have hKill : kill [k] (mrgH hp [k] [] [some b1]) = kill [k] hp := by
    rw [hH]
    unfold kill
    simp only
    refine killH_congr [k] _ _ 0 (mrgO_length _ _ _ _ _ _) fun j hj => ?_
    exact mrgO_not _ _ _ _ 0 hp j (by rw [Nat.zero_add] at hj ⊢; exact hj)
  have hHk : (mrgH hp [k] [] [some b1])[k]? = some (some b1) := by
    rw [hH, mrgO_sel _ _ _ _ 0 hp k hkl (by rw [Nat.zero_add]; exact hmk) (by simp [memB])]
    have hidx : idx (0 + k) [k] = 0 := by simp [idx]
    rw [hidx]
    show some (some (b1.mv _)) = _
    rw [Blk.mv_def]
    simp only [hb1c]
  obtain ⟨b2, hb2, hrel⟩ := h1.dom k ((hD1 k).2 hDk)
  rw [hHk] at hb2
  simp only [Option.some.injEq] at hb2
  subst hb2
  have hb0 : BlkRel ({ c1 with D := fun q => c1.D q ∧ memB q [k] = false, w := c1.w }.put (mrgH hp [k] [] [some b1]).length (c1.E k) c1.w) (mrgH hp [k] [] [some b1]).length b1 := by
    unfold BlkRel at hrel ⊢
    rw [putE]
    refine ⟨hrel.1, fun hn => ?_, fun hn => ?_⟩
    · exact hrel.2.1 hn
    · obtain ⟨arr, g1, g2, g3, g4⟩ := hrel.2.2 hn
      refine ⟨arr, g1, ?_, g3, g4⟩
      simp only [Blk.cx, hb1c, if_true] at g2 ⊢
      have hle0 : c1.shut.Le (fun _ => true) (Cx.put { c1 with D := fun q => c1.D q ∧ memB q [k] = false, w := c1.w } (mrgH hp [k] [] [some b1]).length (c1.E k) c1.w).shut := ⟨fun _ _ h => h.elim, fun _ h => h, fun _ _ h => h, fun _ _ => rfl⟩
      exact RelR.le _ (allR_true _) hle0 rfl g2
  have post := app_post (w' := c1.w) (row := none) (kl := [k]) h1 ⟨rfl, rfl, rfl, Nat.le_refl _, fun _ _ _ => rfl⟩ (fun q hq => by cases hq) (fun e1 => .inr ⟨k, (hD1 k).2 hDk, hmk, e1, rfl⟩) hb0 hb1g
  rw [hHl] at post
  have hfin := hn v (Cx.put { c1 with D := fun q => c1.D q ∧ memB q [k] = false, w := c1.w } hp.length (c1.E k) c1.w) {
      inv := by have := post.inv; rwa [hKill] at this
      le := ⟨fun j hj hD => by
          have hjk : memB j [k] = false := by simpa using hj
          obtain ⟨g1, g2⟩ := h3.ed j (by simp [memB]) hD
          obtain ⟨g3, g4⟩ := post.le.ed j (by simpa using hjk) g1
          exact ⟨g3, g4.trans g2⟩, fun b h => post.le.x b (h3.x b h), fun b h hg => post.le.b b (h3.x b h) (h3.b b h hg), fun b h => (post.le.heap b (h3.x b h)).trans (h3.heap b h)⟩
      dom := fun j => by
        have := post.dom j
        rw [hHl] at this
        rw [this, hD1]
      keep := fun j hj hjn => by
        show c1.w.heap[j]? = _
        rw [hw1]
        exact hE.inv.keep j hj (by
          rintro ⟨i, hi, hnl, e⟩
          simp only [List.mem_cons, List.not_mem_nil, or_false] at hi
          subst hi
          exact hjn i hDk hmk hnl e) (fun h => h)
      xdom := fun x hx => by
        have hx1 : c1.X x := hx
        rw [← hc1] at hx1
        rcases hx1 with h | ⟨h | ⟨i, hi, hnl, e⟩, hx'⟩
        · exact .inl h
        · exact .inr h
        · simp only [List.mem_cons, List.not_mem_nil, or_false] at hi
          subst hi
          exact absurd hx' (by
            intro hx'
            exact hE.inv.xsep 0 x hD0 (by rw [hE0]; exact hnl) hx' (by rw [hE0]; exact e))
      size := by
        show c.w.heap.size ≤ c1.w.heap.size
        rw [hw1]
        exact hE.inv.size
      fresh := fun j hj hD hnn => by
        rcases (post.dom j).1 hD with ⟨g, _⟩ | ⟨g1, g2⟩
        · have := hN j ((hD1 j).1 g); omega
        · have hjh : j = hp.length := by simp only [hHl, List.length_cons, List.length_nil] at g1 g2; omega
          subst hjh
          rw [putE] at hnn ⊢
          exact .inr ⟨k, hDk, hmk, by rw [← hE1 k hkl]; exact hnn, by rw [← hE1 k hkl]⟩
      cA := by subst hc1; rfl
      cC := by subst hc1; rfl
      cZ := by subst hc1; rfl
      nnil := fun j b3 hb3 _ => by
        cases j with
        | zero =>
          simp only [List.getElem?_cons_zero, Option.some.injEq] at hb3
          subst hb3
          exact hb1g
        | succ j => simp at hb3 } ?_
  · have : (Cx.put { c1 with D := fun q => c1.D q ∧ memB q [k] = false, w := c1.w } hp.length (c1.E k) c1.w).w = w' := hw1.trans hE.weq
    rwa [this] at hfin
  · have h4' : Rel (.own k n') c1 v := h4
    simp only [Rel] at h4' ⊢
    rw [putE]
    exact ⟨.inr rfl, h4'.2⟩
theorem callV_sound {g : Operand} {xs : Array Operand} {tys : Array TypeId} {f : Nat} {caps : List Sv} {K : Sv → List Blk → List Nat → Prop} (ho : o.op = .call { callee := .value g, args := xs, argTypes := tys }) (hg : evO tm g = .clo f caps)
    (h : CallV G.P hp f (xs.toList.map (evO tm) ++ caps) K) : ∃ s nb kl, K s nb kl ∧ EStep G.P o tm hp s nb kl := by
  rcases h with ⟨args', res, nb, hcl, hcon, hK⟩ | ⟨k, n, rest, args', b, b1, n', hargs, hin, hcl, hcon, hb1c, hb1g, hK⟩
  case take => exact callT_sound ho hg hargs hin hcl hcon hb1c hb1g hK
  refine ⟨_, _, _, hK, ?_⟩
  intro F n w0 M c a next Q hF hI ha hn
  refine call_walk ho hg hcon.1 hF ha fun vs hvs => ?_
  -- blocks of which nothing is known are none
  have hInil : Inv c.w (handM c []) (c.hand []) (([] : List Blk).map some) :=
    { dom := fun i hi => (by cases hi), inj := fun i _ hi _ => (by cases hi), xsep := fun i _ hi => (by cases hi), xlt := fun b h => h.1, xY := fun _ _ h => h, bnd := rfl, bndG := ⟨fun b h => .inr (h.imp id id), fun _ h => h.elim, fun _ _ _ _ _ _ h => h.elim⟩, e0 := fun _ _ _ => rfl, mlen := Nat.le_refl _, os := rfl, tape := rfl, output := rfl, size := Nat.le_refl _, keep := fun _ _ _ _ => rfl, loc := fun i hi => (by cases hi), x0 := fun b h => .inr (.inr h), ca := fun _ h => h.elim, cc := fun _ h => h.elim, zc := fun _ h => h.elim, z0 := fun _ h => h.elim, xk := fun _ h => h.elim, gh := fun i _ hi => (by cases hi) }
  have hc := hcon.2 c.w (handM c []) (c.hand []) vs rfl rfl (fun _ h => h) hInil (fun k b h => by simp at h) ((ClL.rel args' hcl hI (fun k hk => by cases hk)).2.1 vs hvs)
  refine hc.mono fun e w' hR => ?_
  obtain ⟨v, c', r, hp', rfl, ⟨rfl, rfl⟩, hE⟩ := hR
  refine ⟨v, rfl, ?_⟩
  obtain ⟨h1, _, h3, h4⟩ := call_post (kl := []) hI List.nodup_nil (fun k h => by simp [memB] at h) (fun k h => by cases h) (fun i k h => by simp [nth] at h) hE (by rw [okI_nil]; exact Sv.all_true _) (fun i b _ _ _ => by rw [okI_nil]; exact allR_true _)
  have hH : mrgH hp [] [] (nb.map some) = kill [] hp ++ (nb.map (Blk.mv (rho [] hp.length))).map some := by
    unfold mrgH
    rw [mrgO_nil, ← mvO_some]
    rfl
  rw [hH] at h1
  have hN : ∀ k, c.D k → k < hp.length := fun k hD => by
    obtain ⟨blk, e, _⟩ := hI.dom _ hD
    exact (List.getElem?_eq_some_iff.1 e).1
  have hnoM : ∀ j, ¬ (handM c []).M j := fun j => by rintro ⟨k, hk, _⟩; cases hk
  have hD2 : ∀ k, (mrgC c c' hp.length [] []).D k ↔ (k < hp.length ∧ c.D k) ∨ (hp.length ≤ k ∧ c'.D (k - hp.length)) := fun k => by
    simp only [mrgC, memB_nil, List.length_nil, Nat.add_zero]
    by_cases hk : k < hp.length
    · rw [if_pos hk, if_neg (by simp)]
      constructor
      · exact fun h => .inl ⟨hk, h⟩
      · rintro (h | h)
        · exact h.2
        · omega
    · rw [if_neg hk]
      constructor
      · exact fun h => .inr ⟨by omega, h⟩
      · rintro (h | h)
        · omega
        · exact h.2
  have := hn v (mrgC c c' hp.length [] []) {
      inv := h1
      le := h3
      dom := fun k => by
        rw [hD2]
        simp only [memB_nil, and_true, List.length_map]
        constructor
        · rintro (⟨_, h⟩ | ⟨h, hD⟩)
          · exact .inl h
          · obtain ⟨blk, e, _⟩ := hE.inv.dom _ hD
            have := (List.getElem?_eq_some_iff.1 e).1
            simp at this
            exact .inr ⟨h, by omega⟩
        · rintro (h | ⟨h, hl⟩)
          · exact .inl ⟨hN k h, h⟩
          · refine .inr ⟨h, hE.full _ (nb[k - hp.length]'(by omega)) ?_⟩
            rw [List.getElem?_map, List.getElem?_eq_getElem (by omega)]
            rfl
      keep := fun j hj _ => hE.inv.keep j hj (hnoM j) (fun h => h)
      xdom := fun b hb => hb.imp id (fun h => by
        rcases h.1 with h | ⟨k, hk, _⟩
        · exact h
        · cases hk)
      size := hE.inv.size
      fresh := fun k hk hD hn => by
        rcases (hD2 k).1 hD with ⟨h, _⟩ | ⟨h, hD'⟩
        · omega
        · have e : (mrgC c c' hp.length [] []).E k = c'.E (k - hp.length) := by simp only [mrgC]; rw [if_neg (by omega)]; rfl
          rw [e] at hn ⊢
          rcases hE.inv.loc _ hD' hn with h | h
          · exact absurd h (hnoM _)
          · exact .inl h
      cA := rfl
      cC := rfl
      cZ := rfl
      nnil := fun j b hb hn => by
        have e : (mrgC c c' hp.length [] []).E (hp.length + j) = c'.E j := by simp only [mrgC]; rw [if_neg (by omega)]; congr 1; simp
        rw [e] at hn
        rw [List.getElem?_map] at hb
        cases hq : nb[j]? with
        | none => rw [hq] at hb; cases hb
        | some q =>
          rw [hq] at hb
          simp only [Option.map_some, Option.some.injEq] at hb
          have hq' : (nb.map some)[j]? = some (some q) := by rw [List.getElem?_map, hq]; rfl
          have hD' := hE.full j q hq'
          obtain ⟨b0, e0, r0⟩ := hE.inv.dom j hD'
          rw [hq'] at e0
          cases e0
          have hbg : b.grow = q.grow := by rw [← hb, Blk.mv_def]; split <;> rfl
          rw [hbg]
          cases hg : q.grow with
          | true => rfl
          | false =>
            obtain ⟨_, _, h⟩ := hE.inv.gh j q hD' hq' hn hg
            exact h.elim } h4
  rwa [show (mrgC c c' hp.length [] []).w = w' from hE.weq] at this
end
end Go.Eng
