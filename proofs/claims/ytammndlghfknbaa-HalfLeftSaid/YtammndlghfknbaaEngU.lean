/- The engine, part U: a call as an operation. -/
import Derived.Test.YtammndlghfknbaaEngS
set_option linter.unusedSimpArgs false
set_option linter.unusedVariables false
namespace Go.Eng
open Go Go.RowKit

inductive CallV (P : Program) (hp : Hp) (f : Nat) (args : List Sv) (K : Sv → List Blk → List Nat → Prop) : Prop
  | mk (args' : List Sv) (res : Sv) (nb : List Blk) : ClL hp [] args args' → PCon P f args' res nb → K (res.mv (rho [] hp.length)) (nb.map (Blk.mv (rho [] hp.length))) [] → CallV P hp f args K

theorem okI_nil : okI [] [] = fun _ => true := by funext i; simp [okI, nth]
theorem mrgO_nil (hp' : Hp) (ρ : Nat → Nat) : ∀ (i : Nat) (hp : Hp), mrgO [] [] hp' ρ i hp = hp
  | _, [] => rfl
  | i, b :: bs => by simp [mrgO, memB, mrgO_nil hp' ρ (i + 1) bs]
theorem mvO_some (ρ : Nat → Nat) : ∀ nb : List Blk, mvO ρ (nb.map some) = (nb.map (Blk.mv ρ)).map some
  | [] => rfl
  | b :: nb => by simp [mvO, mvO_some ρ nb]

section
variable {G : Gm} {tm : List Sv} {hp : Hp} {o : Oper}

theorem resolve_value {P : Program} {ρ : Operand → Value} {g : Operand} {args : Array Operand} {tys : Array TypeId} {ty : Nat} {f : Nat} {caps : Array Value} (h : ρ g = .func (.func f) #[] caps) (hf : Callable P f) (w : World) :
    (do let d ← resolve ρ { callee := .value g, args := args, argTypes := tys } ty; invoke d.target d.args : Sem Next).run P w = .ok (.enter f (args.map ρ ++ caps)) w := by
  obtain ⟨fn, h1, h2, h3⟩ := hf
  have h2' : ¬ fn.name = "runtime.NumGoroutine" := by simpa using h2
  have h3' : ¬ fn.body = none := fun h => by rw [h] at h3; cases h3
  simp [resolve, h, Deferred.ofValue, invoke, callFunc, h1, h2', h3']


theorem RelT_append {c : Cx} : ∀ {l1 l2 : List Sv} {v1 v2 : List Value}, RelT l1 c v1 → RelT l2 c v2 → RelT (l1 ++ l2) c (v1 ++ v2)
  | [], _, _, _, h1, h2 => by simp only [RelT] at h1; subst h1; simpa using h2
  | s :: ss, _, _, _, h1, h2 => by
    simp only [RelT] at h1
    obtain ⟨u, us, e, hs, hl⟩ := h1
    subst e
    simp only [List.cons_append, RelT]
    exact ⟨u, _, rfl, hs, RelT_append hl h2⟩

/-- The walk of a call, up to the call itself. -/
theorem call_walk {g : Operand} {xs : Array Operand} {tys : Array TypeId} {f : Nat} {caps : List Sv} (ho : o.op = .call { callee := .value g, args := xs, argTypes := tys }) (hg : evO tm g = .clo f caps)
    {P : Program} (hcall : Callable P f) {F : Fence} (hF : Open F) {n : Nat} {c : Cx} {a : Act} {next : Act → World → Prop} {Q : Exit → Act → World → Prop} (ha : ∀ x ∈ o.op.operands, Rel (evO tm x) c (a.eval x))
    (h : ∀ vs : List Value, RelT (xs.toList.map (evO tm) ++ caps) c vs → Calls P f vs.toArray c.w fun e w' => ∃ v, e = .returned v ∧ next (a.put o.dst v) w') : o.wpIn F n P a c.w next Q := by
  have hgr := opnd_rel ha (by rw [ho]; simp [Op.operands, Call.operands]) hg
  simp only [Rel] at hgr
  obtain ⟨cv, hgv, hcv⟩ := hgr
  have hargs : RelT (xs.toList.map (evO tm)) c (xs.toList.map a.eval) := RelT_map _ fun x hx => ha x (by rw [ho]; simp [Op.operands, Call.operands]; right; simpa using hx)
  have hc := h _ (RelT_append hargs hcv)
  have hrun : (execOp a.eval o).run P c.w = .ok (.enter f (xs.map a.eval ++ cv.toArray)) c.w := by
    simp only [execOp, ho]
    exact resolve_value hgv hcall c.w
  have hvs : (xs.toList.map a.eval ++ cv).toArray = xs.map a.eval ++ cv.toArray := by
    apply Array.ext'
    simp
  rw [hvs] at hc
  refine ⟨fun f _ => hF.fn f, ?_⟩
  rw [Oper.semAt_eq _ _ _ (by rw [ho]; simp), hrun]
  refine ⟨fun h => (by rw [hF.depth] at h; cases h), ?_⟩
  have hin : CallsIn F (n - 1) P f (xs.map a.eval ++ cv.toArray) c.w (fun e w' => ∃ v, e = .returned v ∧ next (a.put o.dst v) w') := hF.callsIn hc
  refine hin.mono fun e w' hR => ?_
  obtain ⟨v, rfl, hE⟩ := hR
  exact hE

theorem callV_sound {g : Operand} {xs : Array Operand} {tys : Array TypeId} {f : Nat} {caps : List Sv} {K : Sv → List Blk → List Nat → Prop} (ho : o.op = .call { callee := .value g, args := xs, argTypes := tys }) (hg : evO tm g = .clo f caps)
    (h : CallV G.P hp f (xs.toList.map (evO tm) ++ caps) K) : ∃ s nb kl, K s nb kl ∧ EStep G.P o tm hp s nb kl := by
  obtain ⟨args', res, nb, hcl, hcon, hK⟩ := h
  refine ⟨_, _, _, hK, ?_⟩
  intro F n w0 M c a next Q hF hI ha hn
  refine call_walk ho hg hcon.1 hF ha fun vs hvs => ?_
  -- blocks of which nothing is known are none
  have hInil : Inv c.w (handM c []) (c.hand []) (([] : List Blk).map some) :=
    { dom := fun i hi => (by cases hi), inj := fun i _ hi _ => (by cases hi), xsep := fun i _ hi => (by cases hi), xlt := fun b h => h.1, xY := fun _ _ h => h, bnd := rfl, bndG := ⟨fun b h => .inr (h.imp id id), fun _ h => h.elim, fun _ _ _ _ _ _ h => h.elim⟩, e0 := fun _ _ _ => rfl, mlen := Nat.le_refl _, os := rfl, tape := rfl, output := rfl, size := Nat.le_refl _, keep := fun _ _ _ _ => rfl, loc := fun i hi => (by cases hi), x0 := fun b h => .inr (.inr h), ca := fun _ h => h.elim, cc := fun _ h => h.elim, zc := fun _ h => h.elim, z0 := fun _ h => h.elim, xk := fun _ h => h.elim, gh := fun i _ hi => (by cases hi) }
  have hc := hcon.2 c.w (handM c []) (c.hand []) vs rfl rfl (fun _ h => h) hInil (fun k b h => by simp at h) ((ClL.rel args' hcl hI (fun k hk => by cases hk)).2.1 vs hvs)
  refine hc.mono fun e w' hR => ?_
  obtain ⟨v, c', r, hp', rfl, ⟨rfl, rfl⟩, hE⟩ := hR
  refine ⟨v, rfl, ?_⟩
  obtain ⟨h1, _, h3, h4⟩ := call_post (kl := []) hI List.nodup_nil (fun k h => by simp [memB] at h) (fun k h => by cases h) (fun i k h => by simp [nth] at h) hE (by rw [okI_nil]; exact Sv.all_true _) (fun i b _ _ _ => by rw [okI_nil]; exact allR_true _)
  have hH : mrgH hp [] [] (nb.map some) = kill [] hp ++ (nb.map (Blk.mv (rho [] hp.length))).map some := by
    unfold mrgH
    rw [mrgO_nil, ← mvO_some]
    rfl
  rw [hH] at h1
  have hN : ∀ k, c.D k → k < hp.length := fun k hD => by
    obtain ⟨blk, e, _⟩ := hI.dom _ hD
    exact (List.getElem?_eq_some_iff.1 e).1
  have hnoM : ∀ j, ¬ (handM c []).M j := fun j => by rintro ⟨k, hk, _⟩; cases hk
  have hD2 : ∀ k, (mrgC c c' hp.length [] []).D k ↔ (k < hp.length ∧ c.D k) ∨ (hp.length ≤ k ∧ c'.D (k - hp.length)) := fun k => by
    simp only [mrgC, memB_nil, List.length_nil, Nat.add_zero]
    by_cases hk : k < hp.length
    · rw [if_pos hk, if_neg (by simp)]
      constructor
      · exact fun h => .inl ⟨hk, h⟩
      · rintro (h | h)
        · exact h.2
        · omega
    · rw [if_neg hk]
      constructor
      · exact fun h => .inr ⟨by omega, h⟩
      · rintro (h | h)
        · omega
        · exact h.2
  have := hn v (mrgC c c' hp.length [] []) {
      inv := h1
      le := h3
      dom := fun k => by
        rw [hD2]
        simp only [memB_nil, and_true, List.length_map]
        constructor
        · rintro (⟨_, h⟩ | ⟨h, hD⟩)
          · exact .inl h
          · obtain ⟨blk, e, _⟩ := hE.inv.dom _ hD
            have := (List.getElem?_eq_some_iff.1 e).1
            simp at this
            exact .inr ⟨h, by omega⟩
        · rintro (h | ⟨h, hl⟩)
          · exact .inl ⟨hN k h, h⟩
          · refine .inr ⟨h, hE.full _ (nb[k - hp.length]'(by omega)) ?_⟩
            rw [List.getElem?_map, List.getElem?_eq_getElem (by omega)]
            rfl
      keep := fun j hj _ => hE.inv.keep j hj (hnoM j) (fun h => h)
      xdom := fun b hb => hb.imp id (fun h => by
        rcases h.1 with h | ⟨k, hk, _⟩
        · exact h
        · cases hk)
      size := hE.inv.size
      fresh := fun k hk hD hn => by
        rcases (hD2 k).1 hD with ⟨h, _⟩ | ⟨h, hD'⟩
        · omega
        · have e : (mrgC c c' hp.length [] []).E k = c'.E (k - hp.length) := by simp only [mrgC]; rw [if_neg (by omega)]; rfl
          rw [e] at hn ⊢
          rcases hE.inv.loc _ hD' hn with h | h
          · exact absurd h (hnoM _)
          · exact .inl h
      cA := rfl
      cC := rfl
      cZ := rfl
      nnil := fun j b hb hn => by
        have e : (mrgC c c' hp.length [] []).E (hp.length + j) = c'.E j := by simp only [mrgC]; rw [if_neg (by omega)]; congr 1; simp
        rw [e] at hn
        rw [List.getElem?_map] at hb
        cases hq : nb[j]? with
        | none => rw [hq] at hb; cases hb
        | some q =>
          rw [hq] at hb
          simp only [Option.map_some, Option.some.injEq] at hb
          have hq' : (nb.map some)[j]? = some (some q) := by rw [List.getElem?_map, hq]; rfl
          have hD' := hE.full j q hq'
          obtain ⟨b0, e0, r0⟩ := hE.inv.dom j hD'
          rw [hq'] at e0
          cases e0
          have hbg : b.grow = q.grow := by rw [← hb, Blk.mv_def]; split <;> rfl
          rw [hbg]
          cases hg : q.grow with
          | true => rfl
          | false =>
            obtain ⟨_, _, h⟩ := hE.inv.gh j q hD' hq' hn hg
            exact h.elim } h4
  rwa [show (mrgC c c' hp.length [] []).w = w' from hE.weq] at this
end
end Go.Eng
