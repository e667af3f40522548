/- The engine, part Z: a loop over a function. -/
import Derived.Test.YtobojnfhhobnkaaEngV
import Derived.RangeFuncNested
set_option linter.unusedSimpArgs false
set_option maxRecDepth 20000
set_option linter.unusedVariables false
namespace Go.Eng
open Go Go.RowKit

/-- What a caller of a loop over a function turns in its rounds; what has to stay for him. -/
def turnS (l : Nat) (ci : Cx) (b : Nat) : Prop := (∃ k, ci.D k ∧ (ci.E k).nil = false ∧ (ci.E k).b = b) ∨ ci.A b ∨ b = l
def stayS (w0 : World) (M : Frm) (l : Nat) (ci : Cx) (b : Nat) : Prop := turnS l ci b ∨ ci.X b ∨ ci.C b ∨ (b < w0.heap.size ∧ ¬ M.M b ∧ ¬ M.Y b)
/-- Between two rounds of the loop l, whose record is rec. -/
structure JR (w0 : World) (M : Frm) (its : List (List Sv)) (mr l : Nat) (rec : LoopState → Option Code → Loop) (I : Nat → Hp → Prop) (tm1 : List Sv) (K : Exit → List Sv → Hp → Prop) (c2 : Cx) (st : Nat) (rows : List (List Sv)) (A C : Nat → Prop) (W : World)
    (i : Nat) (ci : Cx) (hpi : Hp) : Prop where
  rows : rows = its.take i
  ile : i ≤ its.length
  inv : Inv w0 M ci hpi
  full : ∀ (k : Nat) (b : Blk), hpi[k]? = some (some b) → ci.D k
  w : ci.w = W
  z : ci.Z = c2.Z
  le : c2.Le (fun k => Nat.blt k mr) ci
  al : aliveN mr hpi = true
  oth : ∀ b, c2.Z b → b ≠ l → W.heap[b]? = c2.w.heap[b]?
  a : ∀ b, A b ↔ turnS l ci b
  c : ∀ b, C b ↔ stayS w0 M l ci b
  st : st = 0 ∧ W.heap[l]? = some (.loop (rec .ready none)) ∧ I i hpi ∨ st ≠ 0 ∧ ∃ e code, jmp e = some code ∧ W.heap[l]? = some (.loop (rec .done (some code))) ∧ K e tm1 hpi

section
variable {w0 : World} {M : Frm} {its : List (List Sv)} {mr l : Nat} {rec : LoopState → Option Code → Loop} {I : Nat → Hp → Prop} {tm1 : List Sv} {K : Exit → List Sv → Hp → Prop} {c2 : Cx}

theorem JR.same {st : Nat} {rows : List (List Sv)} {A C : Nat → Prop} {W W' : World} {i : Nat} {ci : Cx} {hpi : Hp} (hz : c2.Z l) (h : JR w0 M its mr l rec I tm1 K c2 st rows A C W i ci hpi) (hw : WSame C W W') :
    JR w0 M its mr l rec I tm1 K c2 st rows A C W' i { ci with w := W' } hpi := by
  have hC : ∀ b, stayS w0 M l ci b → C b := fun b hb => (h.c b).2 hb
  have hw' : WSame C ci.w W' := by rw [h.w]; exact hw
  obtain ⟨hI, hle⟩ := h.inv.same hw' (fun k hk hn => hC _ (.inl (.inl ⟨k, hk, hn, rfl⟩))) (fun b hb => hC _ (.inr (.inl hb))) (fun b hb => hC _ (.inr (.inr (.inl hb)))) (fun b h1 h2 h3 => hC _ (.inr (.inr (.inr ⟨h1, h2, h3⟩))))
  have hZC : ∀ b, c2.Z b → C b := fun b hb => hC _ (.inr (.inr (.inl (h.inv.zc b (by rw [h.z]; exact hb)).1)))
  refine { rows := h.rows, ile := h.ile, inv := hI, full := h.full, w := rfl, z := h.z, le := ?_, al := h.al, oth := fun b hb hne => (hw.block b (hZC b hb)).trans (h.oth b hb hne), a := h.a, c := h.c, st := ?_ }
  · exact ⟨fun k hk hD => h.le.ed k hk hD, h.le.x, h.le.b, fun b hb => (hle.heap b (h.le.x b hb)).trans (h.le.heap b hb)⟩
  · have e : W'.heap[l]? = W.heap[l]? := hw.block l (hZC l hz)
    rw [e]
    exact h.st

/-- A value told in the loop's slots is told in every round. -/
theorem JR.slots {st : Nat} {rows : List (List Sv)} {A C : Nat → Prop} {W : World} {i : Nat} {ci : Cx} {hpi : Hp} (h : JR w0 M its mr l rec I tm1 K c2 st rows A C W i ci hpi) (htm : Sv.all.allL (fun k => Nat.blt k mr) tm1 = true) {a : Act}
    (hr : ∀ t, Rel (tmGet tm1 t) c2 (a.tmps.getD t undef)) (t : Nat) : Rel (tmGet tm1 t) ci (a.tmps.getD t undef) := by
  refine Rel.le _ ?_ h.le (hr t)
  unfold tmGet
  rw [nth_eq]
  cases hq : tm1[t]? with
  | none => rfl
  | some s =>
    have : ∀ (ss : List Sv) (t : Nat) (s : Sv), ss[t]? = some s → Sv.all.allL (fun k => Nat.blt k mr) ss = true → s.all (fun k => Nat.blt k mr) = true := by
      intro ss
      induction ss with
      | nil => intro t s h; simp at h
      | cons x xs ih =>
        intro t s h hall
        simp only [Sv.all.allL, Bool.and_eq_true] at hall
        cases t with
        | zero => simp at h; subst h; exact hall.1
        | succ t => exact ih t s (by simpa using h) hall.2
    exact this tm1 t s hq htm

theorem RelT_len : ∀ (ss : List Sv) {c : Cx} {vs : List Value}, RelT ss c vs → vs.length = ss.length
  | [], _, _, h => by simp only [RelT] at h; simp [h]
  | s :: ss, _, _, h => by
    simp only [RelT] at h
    obtain ⟨u, us, rfl, _, h⟩ := h
    simp [RelT_len ss h]
theorem prefix_next {α : Type} {its pre : List α} {x : α} {i : Nat} (h : pre ++ [x] <+: its) (hp : pre = its.take i) (hi : i ≤ its.length) : its[i]? = some x ∧ pre ++ [x] = its.take (i + 1) ∧ i + 1 ≤ its.length := by
  have hlen : pre.length = i := by rw [hp, List.length_take]; omega
  obtain ⟨t, ht⟩ := h
  have h1 : its[i]? = some x := by
    rw [← ht, List.append_assoc, List.getElem?_append_right (by omega), hlen]
    simp
  have hlt : i < its.length := (List.getElem?_eq_some_iff.1 h1).1
  refine ⟨h1, ?_, hlt⟩
  rw [List.take_succ_eq_append_getElem hlt, ← hp]
  congr 2
  rw [List.getElem?_eq_getElem hlt] at h1
  simpa using h1.symm
end

/-- **A loop over a function.** -/
theorem range_sound {G : Gm} {ra rb : Nat → List Sv → Hp → (Exit → List Sv → Hp → Prop) → Prop} {assign body : Code} {f : Operand} {ps : Array Nat} (hra : ∀ mr, RunOk (G.at mr) assign (ra mr)) (hrb : ∀ mr, RunOk (G.at mr) body (rb mr))
    {F : Fence} {n : Nat} {w0 : World} {M : Frm} {ds : List Deferred} {tm : List Sv} {hp : Hp} {K : Exit → List Sv → Hp → Prop} {Q : Exit → Act → World → Prop} {c : Cx} {a : Act} (hF : Open F) (hm : M.m = G.m) (hy : YdOk G.P w0 M G.l G.its) (hro : RdOk F w0 M)
    (h : RangeV G ra rb f ps.toList tm hp K) (hQ : ∀ e a c tm hp, K e tm hp → St w0 M c tm hp a ds → Q e a c.w) (hS : St w0 M c tm hp a ds) : (Code.rangeFunc f ps assign body).wpIn F n G.P Q a c.w := by
  obtain ⟨its, mr, g, caps, I, tm1, hp1, hw, hg, hcl, hcon, hits, hmr, hI0, htm, hal, hstep, hdone⟩ := h
  obtain ⟨c1, hcw, hS1⟩ := hw w0 M c a ds hm hS
  rw [← hcw]
  have hgr := hS1.opnd f
  rw [hg] at hgr
  simp only [Rel] at hgr
  obtain ⟨lb, hgv, hlb⟩ := hgr
  refine wpIn_rangeFunc ?_
  intro fn hfn
  -- the loop is entered
  have enter : ∃ (l : Nat) (mark : List Deferred) (W1 : World) (dfr : Nat) (Zn : Nat → Prop), (Instr.enterLoop fn a.tmps ps assign body F.round).run G.P c1.w = .ok (l, mark) W1 ∧ WGrow c1.w W1 ∧ (∀ b, Zn b → c1.w.heap.size ≤ b ∧ b < W1.heap.size) ∧ Zn l ∧
      W1.heap[l]? = some (.loop { state := .ready, pending := none, fn, tmps := a.tmps, params := ps, assign, body, defers := dfr }) ∧ (mark = [] ∨ ∃ D, mark = [mkD D] ∧ Zn D ∧ D ≠ l ∧ W1.heap[D]? = some (.deferred (some []))) := by
    cases hround : F.round with
    | none =>
      refine ⟨c1.w.heap.size + 1, [mkD c1.w.heap.size], _, c1.w.heap.size, fun b => b = c1.w.heap.size ∨ b = c1.w.heap.size + 1, run_enterLoop_outer _ _ _ _ _, (WGrow.alloc _ _).trans (WGrow.alloc _ _), ?_, .inr rfl, ?_, .inr ⟨_, rfl, .inl rfl, by omega, ?_⟩⟩
      · rintro b (rfl | rfl)
        · exact ⟨Nat.le_refl _, by simp; omega⟩
        · exact ⟨by omega, by simp⟩
      · have := World.alloc_heap_new (c1.w.alloc (.deferred (some []))) (.loop { state := .ready, pending := none, fn, tmps := a.tmps, params := ps, assign, body, defers := c1.w.heap.size })
        rwa [World.size_alloc] at this
      · exact (Below.heap_alloc _ _ _ (by simp)).trans (World.alloc_heap_new c1.w _)
    | some l0 =>
      obtain ⟨⟨r, hr⟩, h1, h2⟩ := hro l0 hround
      have hl0 : c1.w.heap[l0]? = some (.loop r) := (hS1.inv.keep l0 (Array.getElem?_eq_some_iff.1 hr).1 h1 h2).trans hr
      refine ⟨c1.w.heap.size, [], _, r.defers, fun b => b = c1.w.heap.size, run_enterLoop_inner hl0 _ _ _ _ _, WGrow.alloc _ _, ?_, rfl, World.alloc_heap_new c1.w _, .inl rfl⟩
      rintro b rfl
      simp
  obtain ⟨l, mark, W1, dfr, Zn, henter, hgrow, hZn, hZl, hL1, hmark⟩ := enter
  generalize hrec : (fun (st : LoopState) (pe : Option Code) => ({ state := st, pending := pe, fn, tmps := a.tmps, params := ps, assign, body, defers := dfr } : Loop)) = rec
  have hrecR : rec .ready none = { state := .ready, pending := none, fn, tmps := a.tmps, params := ps, assign, body, defers := dfr } := by rw [← hrec]
  rw [← hrecR] at hL1
  have hI2 := hS1.inv.addZ hgrow Zn hZn
  generalize hc2 : ({ c1 with w := W1, C := fun b => c1.C b ∨ Zn b, Z := fun b => c1.Z b ∨ Zn b } : Cx) = c2 at hI2
  have hw2 : c2.w = W1 := by rw [← hc2]
  have hD2 : c2.D = c1.D := by rw [← hc2]
  have hE2 : c2.E = c1.E := by rw [← hc2]
  have hZ2 : ∀ b, Zn b → c2.Z b := fun b hb => by rw [← hc2]; exact .inr hb
  have hZ1 : ∀ b, c1.Z b → c2.Z b := fun b hb => by rw [← hc2]; exact .inl hb
  have hle12 : c1.Le (fun _ => true) c2 := by rw [← hc2]; exact ⟨fun _ _ hk => ⟨hk, rfl⟩, fun _ h => h, fun _ _ h => h, fun b hb => hgrow.block b (hS1.inv.xlt b hb)⟩
  have hl0 : w0.heap.size ≤ l := Nat.le_trans hS1.inv.size (hZn l hZl).1
  have hr2 : ∀ t, Rel (tmGet tm1 t) c2 (a.tmps.getD t undef) := fun t => Rel.le _ (Sv.all_true _) hle12 (hS1.rel t)
  have hfull2 : ∀ (k : Nat) (b : Blk), hp1[k]? = some (some b) → c2.D k := fun k b hb => by rw [hD2]; exact hS1.full k b hb
  have hpin : ∀ k, k < mr → c2.D k := fun k hk => by
    obtain ⟨b, hb⟩ := aliveN_get (hal 0 hp1 hI0) k hk
    exact hfull2 k b hb
  have hEM : ∀ k, k < M.m → c2.E k = M.E0 k := fun k hk => hI2.e0 k hk (hpin k (by omega))
  -- the caller between two rounds
  let J : Nat → List (List Sv) → (Nat → Prop) → (Nat → Prop) → World → Prop := fun st rows A C W => ∃ i ci hpi, JR w0 M its mr l rec I tm1 K c2 st rows A C W i ci hpi
  have hJ0 : JR w0 M its mr l rec I tm1 K c2 0 [] (turnS l c2) (stayS w0 M l c2) W1 0 c2 hp1 :=
    { rows := rfl, ile := Nat.zero_le _, inv := hI2, full := hfull2, w := hw2, z := rfl, le := ⟨fun _ _ hk => ⟨hk, rfl⟩, fun _ h => h, fun _ _ h => h, fun _ _ => rfl⟩, al := hal 0 hp1 hI0, oth := fun b _ _ => by rw [hw2], a := fun _ => Iff.rfl, c := fun _ => Iff.rfl, st := .inl ⟨rfl, hL1, hI0⟩ }
  let Mi : Frm := { M := fun _ => False, G := c2.G, Y := turnS l c2, m := 1, E0 := fun _ => ⟨0, 0, true, 0⟩, J := J, C0 := stayS w0 M l c2, X0 := c2.X }
  let cx : Cx := { E := fun _ => ⟨0, 0, true, 0⟩, D := fun k => k = 0, X := c2.X, G := c2.G, w := W1, A := turnS l c2, C := stayS w0 M l c2 }
  have hlt2 : ∀ k, c2.D k → (c2.E k).nil = false → (c2.E k).b < W1.heap.size := fun k hk hn => by
    obtain ⟨blk, _, r⟩ := hI2.dom k hk
    rw [← hw2]; exact r.lt hn
  have hlW : l < W1.heap.size := (hZn l hZl).2
  have hturn_lt : ∀ b, turnS l c2 b → b < W1.heap.size := by
    rintro b (⟨k, hk, hn, e⟩ | hb | rfl)
    · rw [← e]; exact hlt2 k hk hn
    · rw [← hw2]; exact (hI2.cc b (hI2.ca b hb).1).1
    · exact hlW
  have hturn_X : ∀ b, turnS l c2 b → ¬ c2.X b := by
    rintro b (⟨k, hk, hn, e⟩ | hb | rfl) hx
    · exact hI2.xsep k b hk hn hx e
    · exact (hI2.ca b hb).2.1 hx
    · exact (hI2.zc b (hZ2 b hZl)).2.2 hx
  have hInvIt : Inv cx.w Mi cx [some (gB [])] := by
    refine { dom := ?_, inj := ?_, xsep := ?_, xlt := fun b hb => by show b < W1.heap.size; rw [← hw2]; exact hI2.xlt b hb, xY := fun b hx hb => hturn_X b hb hx, bnd := rfl, bndG := ⟨?_, fun b hb => ⟨hturn_lt b hb, id⟩, ?_⟩, e0 := fun _ _ _ => rfl, mlen := Nat.le_refl _, os := rfl, tape := rfl, output := rfl, size := Nat.le_refl _, keep := fun _ _ _ _ => rfl, loc := ?_, x0 := fun b hb => .inr (.inr hb), ca := fun b hb => ⟨.inl hb, hturn_X b hb, .inr hb⟩, cc := ?_, gh := ?_, zc := fun _ h => h.elim, z0 := fun _ h => h.elim, xk := fun _ h => h.elim }
    · rintro k rfl
      exact ⟨gB [], rfl, rfl, fun _ => .inr ⟨rfl, rfl, rfl⟩, fun h => by cases h⟩
    · rintro k k' rfl rfl hne
      exact absurd rfl hne
    · intro k b _ h
      cases h
    · rintro b (hb | hb)
      · show c2.G b
        rw [hI2.bnd]
        exact hI2.bndG.g b (.inl (Nat.le_trans (Nat.le_trans hS1.inv.size hgrow.size) hb))
      · exact hb.elim
    · rintro st r A C w w' ⟨i, ci, hpi, hj⟩ hws
      exact ⟨i, _, hpi, hj.same (hZ2 l hZl) hws⟩
    · intro k _ h
      cases h
    · intro b hb
      refine ⟨?_, (fun k _ h => by cases h), .inr (.inl hb)⟩
      show b < W1.heap.size
      rcases hb with hb | hb | hb | hb
      · exact hturn_lt b hb
      · rw [← hw2]; exact hI2.xlt b hb
      · rw [← hw2]; exact (hI2.cc b hb).1
      · have h1 := hI2.size; rw [hw2] at h1; have h2 := hb.1; omega
    · rintro k blk rfl hb _ _
      simp at hb
      subst hb
      exact ⟨stayS w0 M l c2, fun b hb => ⟨hb, id⟩, 0, c2, hp1, hJ0⟩
  -- what is asked of a round
  have hYd : YdOk G.P cx.w Mi l its := by
    refine ⟨fun _ => ⟨Nat.one_pos, rfl⟩, fun F' n' pre x c' hp' vs C1 hF' hpre hI' hC1 hJ hrx => ?_⟩
    obtain ⟨i, ci, hpi, hj⟩ := hJ
    have hcw' : c'.w = ci.w := hj.w.symm
    rcases hj.st with ⟨_, hLr, hIi⟩ | ⟨h0, _⟩
    case inr => exact absurd rfl h0
    obtain ⟨hxi, hpre', hile⟩ := prefix_next hpre hj.rows hj.ile
    have hxl := hits x (List.mem_of_getElem? hxi)
    rw [hcw'] at hLr ⊢
    have hvsl : vs.length = x.length := RelT_len x hrx
    have hrunY := run_yield (P := G.P) (args := vs.toArray) hLr (by rw [← hrec]; simp only [List.size_toArray]; rw [hvsl, hxl.1]; simp)
    refine ⟨_, _, _, _, hrunY, ?_⟩
    have hrf : (rec .ready none).fn = fn ∧ (rec .ready none).params = ps ∧ (rec .ready none).tmps = a.tmps ∧ (rec .ready none).assign = assign ∧ (rec .ready none).body = body := by rw [hrecR]; exact ⟨rfl, rfl, rfl, rfl, rfl⟩
    rw [hrf.1, hrf.2.1, hrf.2.2.1, hrf.2.2.2.1, hrf.2.2.2.2]
    refine roundIn_of_wpIn (hF'.fn fn) ?_
    -- the caller, handed what comes
    have hciZ : ∀ b, ci.Z b → c2.Z b := fun b hb => by rw [← hj.z]; exact hb
    have hlZ : ci.Z l := by rw [hj.z]; exact hZ2 l hZl
    have hXlt : ∀ b, c'.X b → b < ci.w.heap.size := fun b hb => by rw [← hcw']; exact hI'.xlt b hb
    have hX0 : ∀ b, c'.X b → W1.heap.size ≤ b ∨ c2.X b := fun b hb => by
      rcases hI'.x0 b hb with h | h | h
      · exact .inl h
      · exact h.elim
      · exact .inr h
    have hAX : ∀ b, turnS l ci b → ¬ c'.X b := fun b hb hx => (hI'.ca b ((hj.a b).2 hb)).2.1 hx
    have hW1 : w0.heap.size ≤ W1.heap.size := Nat.le_trans hS1.inv.size hgrow.size
    obtain ⟨hIr, hler⟩ := hj.inv.addX (fun b => c'.X b ∧ c'.G b) fun b hb => by
      refine ⟨hXlt b hb.1, fun k hk hn e => hAX b (.inl ⟨k, hk, hn, e⟩) hb.1, fun ha => hAX b (.inr (.inl ha)) hb.1, fun hz => ?_, fun hyy => ?_, ?_⟩
      · have hz2 := hciZ b hz
        rcases hX0 b hb.1 with h | h
        · have := (hI2.cc b (hI2.zc b hz2).1).1; rw [hw2] at this; omega
        · exact (hI2.zc b hz2).2.2 h
      · obtain ⟨y1, _⟩ := hI2.bndG.y b hyy
        rcases hX0 b hb.1 with h | h
        · omega
        · exact hI2.xY b h hyy
      · rcases hX0 b hb.1 with h | h
        · exact .inl (Nat.le_trans hW1 h)
        · exact hI2.x0 b h
    generalize hcr : ({ ci with X := fun b => ci.X b ∨ (c'.X b ∧ c'.G b) } : Cx) = cr at hIr hler
    have hcrw : cr.w = ci.w := by rw [← hcr]
    have hcrD : cr.D = ci.D := by rw [← hcr]
    have hcrE : cr.E = ci.E := by rw [← hcr]
    have hcrA : cr.A = ci.A := by rw [← hcr]
    have hcrC : cr.C = ci.C := by rw [← hcr]
    have hcrZ : cr.Z = ci.Z := by rw [← hcr]
    have hcrX : ∀ b, cr.X b ↔ ci.X b ∨ (c'.X b ∧ c'.G b) := fun b => by rw [← hcr]
    have hcrG : cr.G = c'.G := by
      rw [hIr.bnd, hI'.bnd]
      exact hI2.bnd.symm
    have hrxr : RelT x cr vs := by
      have h1 : c'.pick.shut.Le (fun _ => true) cr.shut := ⟨fun _ _ h => h.elim, fun b hb => (hcrX b).2 (.inr hb), fun b _ hb => by show cr.G b; rw [hcrG]; exact hb, fun b _ => by show cr.w.heap[b]? = c'.w.heap[b]?; rw [hcrw, hcw']⟩
      exact RelT.le x (allL_true _) cr.shut_le (RelT.le x (allL_true _) h1 hrx)
    have hEr : ∀ k, k < mr → cr.D k → cr.E k = c2.E k := fun k hk _ => by rw [hcrE]; exact (hj.le.ed k (Nat.ble_eq_true_of_le (by omega)) (hpin k hk)).2
    have hmrl : mr ≤ hpi.length := aliveN_len hj.al
    have hIr1 := hIr.rebase (mr := mr) (E0 := c2.E) hEr hmrl
    have hMm : M.m ≤ mr := by rw [hm]; exact hmr
    have hy1 := hy.round hIr hMm hEM
    obtain ⟨hsz, hrel1⟩ := setPs_rel ps.toList tm1 x vs a.tmps hrxr hS1.size (fun t => Rel.le _ (Sv.all_true _) hler (hj.slots htm hr2 t))
    have htmps : (Array.foldl (fun (tmps : Array Value) (x : Nat × Value) => tmps.setIfInBounds x.1 x.2) a.tmps (ps.zip vs.toArray)) = (ps.toList.zip vs).foldl (fun (t : Array Value) (p : Nat × Value) => t.setIfInBounds p.1 p.2) a.tmps := by
      rw [← Array.foldl_toList, Array.toList_zip]
    have hS2 : St cr.w (M.round cr mr c2.E) cr (setPs tm1 ps.toList x) hpi { tmps := (ps.toList.zip vs).foldl (fun (t : Array Value) (p : Nat × Value) => t.setIfInBounds p.1 p.2) a.tmps, defers := [] } [] :=
      { inv := hIr1, full := fun k b hb => by rw [hcrD]; exact hj.full k b hb, rel := hrel1, size := hsz, ds := Marks.none }
    have hlcr : cr.Z l := by rw [hcrZ]; exact hlZ
    have hlsz : l < cr.w.heap.size := by rw [hcrw]; exact (Array.getElem?_eq_some_iff.1 hLr).1
    have hst := hstep i x hpi hxi hIi
    rw [setPK_eq] at hst
    have hAct : ({ tmps := Array.foldl (fun (tmps : Array Value) (x : Nat × Value) => tmps.setIfInBounds x.1 x.2) a.tmps (ps.zip vs.toArray), defers := [] } : Act) = { tmps := (ps.toList.zip vs).foldl (fun (t : Array Value) (p : Nat × Value) => t.setIfInBounds p.1 p.2) a.tmps, defers := [] } := by rw [htmps]
    rw [← hcrw]
    have hro1 : ∀ (cz : Cx) (hpz : Hp), Inv w0 M cz hpz → cz.Z l → (∃ r, cz.w.heap[l]? = some (.loop r)) → RdOk (F'.inRound l) cz.w (M.round cz mr c2.E) := by
      intro cz hpz hIz hzl hr l0 hl0e
      have : l0 = l := by simpa using hl0e.symm
      subst this
      refine ⟨hr, ?_, fun ha => (hIz.zc l0 hzl).2.1 ha⟩
      rintro ⟨k, hk, hn, e⟩
      exact (hIz.cc l0 (hIz.zc l0 hzl).1).2.1 k hk hn e
    have hFr : Open (F'.inRound l) := ⟨hF'.fn, hF'.depth, hF'.alive⟩
    have hkeepL : ∀ (cz c3 : Cx) (hpz hp3 : Hp), Inv w0 M cz hpz → cz.Z l → l < cz.w.heap.size → Inv cz.w (M.round cz mr c2.E) c3 hp3 → c3.w.heap[l]? = cz.w.heap[l]? := by
      intro cz c3 hpz hp3 hIz hzl hlz hI3
      refine hI3.keep l hlz ?_ (fun ha => (hIz.zc l hzl).2.1 ha)
      rintro ⟨k, hk, hn, e⟩
      exact (hIz.cc l (hIz.zc l hzl).1).2.1 k hk hn e
    refine wpIn_mono (hra mr (F'.inRound l) n' cr.w (M.round cr mr c2.E) [] (setPs tm1 ps.toList x) hpi _ (fun e a3 w3 => e = .normal ∧ ∃ c3 tm3 hp3, c3.w = w3 ∧ rb mr tm3 hp3 (kBody mr tm1 (I (i + 1)) K) ∧ St cr.w (M.round cr mr c2.E) c3 tm3 hp3 a3 []) cr _ hFr ⟨rfl, fun j e => by cases e⟩ hy1 (hro1 cr hpi hIr hlcr ⟨_, by rw [hcrw]; exact hLr⟩) hst ?_ (hAct ▸ hS2)) ?_
    · intro e a3 c3 tm3 hp3 hk hs3
      cases e with
      | normal => exact ⟨rfl, c3, tm3, hp3, rfl, hk, hs3⟩
      | _ => exact hk.elim
    rintro e a3 w3 ⟨rfl, c3, tm3, hp3, rfl, hk3, hS3⟩
    -- the record is busy
    have hL3 : c3.w.heap[l]? = some (.loop (rec .ready none)) := by rw [hkeepL cr c3 hpi hp3 hIr hlcr hlsz hS3.inv, hcrw]; exact hLr
    refine ⟨_, run_beginRound hL3 (by rw [hrecR]), ?_⟩
    have hI3 := hIr.unbase hMm hEM hS3.inv
    have hZ3 : ∀ b, cr.Z b → c3.Z b := hS3.inv.z0
    have hl3 : c3.Z l := hZ3 l hlcr
    obtain ⟨hI4, hle4⟩ := hI3.putZ (.loop { rec .ready none with state := .busy }) hl3 hl0
    generalize hc4 : ({ c3 with w := c3.w.putObj l (.loop { rec .ready none with state := .busy }) } : Cx) = c4 at hI4 hle4
    have hw4 : c4.w = c3.w.putObj l (.loop { rec .ready none with state := .busy }) := by rw [← hc4]
    have hL4 : c4.w.heap[l]? = some (.loop { rec .ready none with state := .busy }) := by rw [hw4]; exact World.putObj_heap_same (Array.getElem?_eq_some_iff.1 hL3).1
    have hl4 : c4.Z l := by rw [← hc4]; exact hl3
    have hE4 : ∀ k, k < mr → c4.D k → c4.E k = c2.E k := fun k hk hD => by rw [← hc4] at hD ⊢; exact hS3.inv.e0 k hk hD
    have hI41 := hI4.rebase (mr := mr) (E0 := c2.E) hE4 hS3.inv.mlen
    have hS4 : St c4.w (M.round c4 mr c2.E) c4 tm3 hp3 a3 a3.defers :=
      { inv := hI41, full := fun k b hb => by rw [← hc4]; exact hS3.full k b hb, rel := fun t => Rel.le _ (Sv.all_true _) hle4 (hS3.rel t), size := hS3.size, ds := Marks.none }
    have hy4 := hy.round hI4 hMm hEM
    have hlsz4 : l < c4.w.heap.size := (Array.getElem?_eq_some_iff.1 hL4).1
    -- the round's end: the caller's new state
    have fin : ∀ (st : Nat) (pe : Option Code) (c5 : Cx) (hp5 : Hp), Inv c4.w (M.round c4 mr c2.E) c5 hp5 → (∀ (k : Nat) (b : Blk), hp5[k]? = some (some b) → c5.D k) → aliveN mr hp5 = true →
        (st = 0 ∧ pe = none ∧ I (i + 1) hp5 ∨ st ≠ 0 ∧ ∃ e code, jmp e = some code ∧ pe = some code ∧ K e tm1 hp5) →
        ∃ w', (Instr.endRound l pe).run G.P c5.w = .ok (.bool pe.isNone) w' ∧ ∃ A' C', YPost c' C1 w' A' C' ∧ J st (pre ++ [x]) A' C' w' := by
      intro st pe c5 hp5 hI5 hf5 hal5 hend
      have hL5 : c5.w.heap[l]? = some (.loop { rec .ready none with state := .busy }) := (hkeepL c4 c5 hp3 hp5 hI4 hl4 hlsz4 hI5).trans hL4
      refine ⟨_, run_endRound pe hL5, ?_⟩
      have hI50 := hI4.unbase hMm hEM hI5
      have hl5 : c5.Z l := hI5.z0 l hl4
      obtain ⟨hI6, hle6⟩ := hI50.putZ (.loop { ({ rec .ready none with state := .busy } : Loop) with state := if pe.isNone then .ready else .done, pending := pe }) hl5 hl0
      generalize hw6 : c5.w.putObj l (.loop { ({ rec .ready none with state := .busy } : Loop) with state := if pe.isNone then .ready else .done, pending := pe }) = w6 at hI6 hle6 ⊢
      have hrec6 : ({ ({ rec .ready none with state := .busy } : Loop) with state := if pe.isNone then .ready else .done, pending := pe } : Loop) = rec (if pe.isNone then .ready else .done) pe := by rw [← hrec]
      have hL6 : w6.heap[l]? = some (.loop (rec (if pe.isNone then .ready else .done) pe)) := by rw [← hw6, hrec6]; exact World.putObj_heap_same (Array.getElem?_eq_some_iff.1 hL5).1
      have hne6 : ∀ b, b ≠ l → w6.heap[b]? = c5.w.heap[b]? := fun b hb => by rw [← hw6]; exact World.putObj_heap_other hb
      have hsz6 : w6.heap.size = c5.w.heap.size := by rw [← hw6]; simp
      -- what has been kept
      have k4 : ∀ b, b < ci.w.heap.size → ¬ turnS l ci b → c3.w.heap[b]? = ci.w.heap[b]? := fun b hb hn => by
        rw [← hcrw] at hb ⊢
        refine hS3.inv.keep b hb ?_ (fun ha => hn (.inr (.inl (by rw [← hcrA]; exact ha))))
        rintro ⟨k, hk, hkn, e⟩
        rw [hcrD] at hk
        rw [hcrE] at hkn e
        exact hn (.inl ⟨k, hk, hkn, e⟩)
      have hsz34 : c4.w.heap.size = c3.w.heap.size := by rw [hw4]; simp
      have hszr3 : ci.w.heap.size ≤ c3.w.heap.size := by rw [← hcrw]; exact hS3.inv.size
      -- whose blocks these are
      have t3 : ∀ k, c3.D k → (c3.E k).nil = false → turnS l ci (c3.E k).b ∨ ci.w.heap.size ≤ (c3.E k).b := fun k hk hn => by
        rcases hS3.inv.loc k hk hn with ⟨j, hj1, hj2, e⟩ | h
        · rw [hcrD] at hj1
          rw [hcrE] at hj2 e
          exact .inl (.inl ⟨j, hj1, hj2, e⟩)
        · rw [hcrw] at h; exact .inr h
      have a3' : ∀ b, c3.A b → turnS l ci b ∨ ci.w.heap.size ≤ b := fun b hb => by
        rcases (hS3.inv.ca b hb).2.2 with h | h
        · rw [hcrw] at h; exact .inr h
        · exact .inl (.inr (.inl (by rw [← hcrA]; exact h)))
      have hc4D : c4.D = c3.D := by rw [← hc4]
      have hc4E : c4.E = c3.E := by rw [← hc4]
      have hc4A : c4.A = c3.A := by rw [← hc4]
      have hc4C : c4.C = c3.C := by rw [← hc4]
      have hc4X : c4.X = c3.X := by rw [← hc4]
      have k6 : ∀ b, b < ci.w.heap.size → ¬ turnS l ci b → w6.heap[b]? = ci.w.heap[b]? := fun b hb hn => by
        have hbl : b ≠ l := fun e => hn (.inr (.inr e))
        rw [hne6 b hbl, ← k4 b hb hn]
        have h4 : c4.w.heap[b]? = c3.w.heap[b]? := by rw [hw4]; exact World.putObj_heap_other hbl
        rw [← h4]
        refine hI5.keep b (by omega) ?_ (fun ha => ?_)
        · rintro ⟨k, hk, hkn, e⟩
          rw [hc4D] at hk
          rw [hc4E] at hkn e
          rcases t3 k hk hkn with h | h
          · rw [e] at h; exact hn h
          · omega
        · have ha : c3.A b := by rw [← hc4A]; exact ha
          rcases a3' b ha with h | h
          · exact hn h
          · omega
      have t5 : ∀ k, c5.D k → (c5.E k).nil = false → turnS l ci (c5.E k).b ∨ ci.w.heap.size ≤ (c5.E k).b := fun k hk hn => by
        rcases hI5.loc k hk hn with ⟨j, hj1, hj2, e⟩ | h
        · rw [hc4D] at hj1
          rw [hc4E] at hj2 e
          rw [← e]; exact t3 j hj1 hj2
        · exact .inr (by omega)
      have a5' : ∀ b, c5.A b → turnS l ci b ∨ ci.w.heap.size ≤ b := fun b hb => by
        rcases (hI5.ca b hb).2.2 with h | h
        · exact .inr (by omega)
        · exact a3' b (by rw [← hc4A]; exact h)
      have hCi : ∀ b, stayS w0 M l ci b → C1 b := fun b hb => (hj.c b).2 hb
      have hIsz : c5.w.heap.size ≥ c4.w.heap.size := hI5.size
      have m1 : ∀ b, (M.round cr mr c2.E).M b → turnS l ci b := by
        rintro b ⟨k, hk, hkn, e⟩
        rw [hcrD] at hk
        rw [hcrE] at hkn e
        exact .inl ⟨k, hk, hkn, e⟩
      have x3 : ∀ b, c3.X b → C1 b ∨ ci.w.heap.size ≤ b ∨ c'.X b ∧ c'.G b := fun b hb => by
        rcases hS3.inv.x0 b hb with h | h | h
        · rw [hcrw] at h; exact .inr (.inl h)
        · exact .inl (hCi b (.inl (m1 b h)))
        · rcases (hcrX b).1 h with h | h
          · exact .inl (hCi b (.inr (.inl h)))
          · exact .inr (.inr h)
      have cc3 : ∀ b, c3.C b → C1 b ∨ ci.w.heap.size ≤ b ∨ c'.X b ∧ c'.G b := fun b hb => by
        rcases (hS3.inv.cc b hb).2.2 with h | h | h | h
        · rw [hcrw] at h; exact .inr (.inl h)
        · exact .inl (hCi b (.inr (.inr (.inl (by rw [← hcrC]; exact h)))))
        · exact .inl (hCi b (.inl (m1 b h)))
        · rcases (hcrX b).1 h with h | h
          · exact .inl (hCi b (.inr (.inl h)))
          · exact .inr (.inr h)
      have m4 : ∀ b, (M.round c4 mr c2.E).M b → C1 b ∨ ci.w.heap.size ≤ b := by
        rintro b ⟨k, hk, hkn, e⟩
        rw [hc4D] at hk
        rw [hc4E] at hkn e
        rcases t3 k hk hkn with h | h
        · rw [e] at h; exact .inl (hCi b (.inl h))
        · exact .inr (by omega)
      have x5 : ∀ b, c5.X b → C1 b ∨ ci.w.heap.size ≤ b ∨ c'.X b ∧ c'.G b := fun b hb => by
        rcases hI5.x0 b hb with h | h | h
        · exact .inr (.inl (by omega))
        · exact (m4 b h).imp id .inl
        · exact x3 b (by rw [← hc4X]; exact h)
      have cc5 : ∀ b, c5.C b → C1 b ∨ ci.w.heap.size ≤ b ∨ c'.X b ∧ c'.G b := fun b hb => by
        rcases (hI5.cc b hb).2.2 with h | h | h | h
        · exact .inr (.inl (by omega))
        · exact cc3 b (by rw [← hc4C]; exact h)
        · exact (m4 b h).imp id .inl
        · exact x3 b (by rw [← hc4X]; exact h)
      have hlt5 : ∀ k, c5.D k → (c5.E k).nil = false → (c5.E k).b < c5.w.heap.size := fun k hk hn => let ⟨_, _, r⟩ := hI5.dom k hk; r.lt hn
      -- the state itself
      have hzsub : ∀ b, c2.Z b → c5.Z b := fun b hb => hI5.z0 b (by rw [← hc4]; exact hZ3 b (by rw [hcrZ, hj.z]; exact hb))
      let c7 : Cx := { c5 with w := w6, Z := c2.Z }
      have hI7 : Inv w0 M c7 hp5 := by
        have hle7 : Cx.Le (fun _ => true) { c5 with w := w6 } c7 := ⟨fun _ _ hk => ⟨hk, rfl⟩, fun _ h => h, fun _ _ h => h, fun _ _ => rfl⟩
        exact { hI6 with
          dom := fun k hk => let ⟨blk, e, r⟩ := hI6.dom k hk; ⟨blk, e, r.le hle7 rfl (fun _ => rfl) (fun _ => allR_true _)⟩
          zc := fun b hb => hI6.zc b (hzsub b hb)
          z0 := fun b hb => hI2.z0 b hb
          gh := fun k blk hk hb hn hg => by
            obtain ⟨C2, g1, g2⟩ := hI6.gh k blk hk hb hn hg
            exact ⟨C2, fun b hb => ⟨(g1 b hb).1, fun hz => (g1 b hb).2 (hzsub b hz)⟩, g2⟩ }
      refine ⟨turnS l c7, stayS w0 M l c7, ?_, i + 1, c7, hp5, ?_⟩
      · have hci : c'.w = ci.w := hcw'
        refine { os := ?_, tape := ?_, output := ?_, size := by rw [hci, hsz6]; omega, keep := fun b hb hn => ?_, a := fun b hb => ?_, c := fun b hb => ?_ }
        · rw [hci, ← hw6]; show c5.w.os = _; rw [hI5.os, hw4]; show c3.w.os = _; rw [hS3.inv.os, hcrw]
        · rw [hci, ← hw6]; show c5.w.tape = _; rw [hI5.tape, hw4]; show c3.w.tape = _; rw [hS3.inv.tape, hcrw]
        · rw [hci, ← hw6]; show c5.w.output = _; rw [hI5.output, hw4]; show c3.w.output = _; rw [hS3.inv.output, hcrw]
        · rw [hci] at hb ⊢
          exact k6 b hb (fun h => hn ((hj.a b).2 h))
        · refine ⟨?_, .inl hb⟩
          rw [hci]
          have : turnS l ci b ∨ ci.w.heap.size ≤ b := by
            rcases hb with ⟨k, hk, hkn, e⟩ | hb | rfl
            · rw [← e]; exact t5 k hk hkn
            · exact a5' b hb
            · exact .inl (.inr (.inr rfl))
          exact this.imp (hj.a b).2 id
        · have hW5 : w0.heap.size ≤ c5.w.heap.size := hI50.size
          rw [hci, hsz6]
          rcases hb with (⟨k, hk, hkn, e⟩ | hb | rfl) | hb | hb | hb
          · refine ⟨by rw [← e]; exact hlt5 k hk hkn, ?_⟩
            rw [← e]
            exact (t5 k hk hkn).imp (fun h => hCi _ (.inl h)) .inl
          · exact ⟨(hI5.cc b (hI5.ca b hb).1).1, (a5' b hb).imp (fun h => hCi _ (.inl h)) .inl⟩
          · exact ⟨(Array.getElem?_eq_some_iff.1 hL5).1, .inl (hCi _ (.inl (.inr (.inr rfl))))⟩
          · exact ⟨hI5.xlt b hb, x5 b hb⟩
          · exact ⟨(hI5.cc b hb).1, cc5 b hb⟩
          · exact ⟨by have := hb.1; omega, .inl (hCi b (.inr (.inr (.inr hb))))⟩
      · refine { rows := hpre', ile := hile, inv := hI7, full := hf5, w := rfl, z := rfl, le := ?_, al := hal5, oth := fun b hb hne => ?_, a := fun _ => Iff.rfl, c := fun _ => Iff.rfl, st := ?_ }
        · refine ⟨fun k hk hD => ?_, fun b hb => ?_, fun b hb hg => ?_, fun b hb => ?_⟩
          · have hkm : k < mr := Nat.le_of_ble_eq_true hk
            obtain ⟨bb, hbb⟩ := aliveN_get hal5 k hkm
            have hD5 := hf5 k bb hbb
            exact ⟨hD5, hI5.e0 k hkm hD5⟩
          · exact hI5.xk b (by show c4.X b; rw [hc4X]; exact hS3.inv.xk b ((hcrX b).2 (.inl (hj.le.x b hb))))
          · show c5.G b
            rw [hI5.bnd]
            have : M.G b := by rw [← hI2.bnd]; exact hg
            exact this
          · have hxb := hj.le.x b hb
            rw [← hj.le.heap b hb]
            refine k6 b (hj.inv.xlt b hxb) ?_
            rintro (⟨k, hk, hkn, e⟩ | h | rfl)
            · exact hj.inv.xsep k b hk hkn hxb e
            · exact (hj.inv.ca b h).2.1 hxb
            · exact (hj.inv.zc b hlZ).2.2 hxb
        · have hzi : ci.Z b := by rw [hj.z]; exact hb
          obtain ⟨z1, z2, z3⟩ := hj.inv.zc b hzi
          rw [k6 b (hj.inv.cc b z1).1, hj.w]
          · exact hj.oth b hb hne
          · rintro (⟨k, hk, hkn, e⟩ | h | h)
            · exact (hj.inv.cc b z1).2.1 k hk hkn e
            · exact z2 h
            · exact hne h
        · rcases hend with ⟨rfl, rfl, h⟩ | ⟨h0, e, code, h1, rfl, h2⟩
          · exact .inl ⟨rfl, hL6, h⟩
          · exact .inr ⟨h0, e, code, h1, hL6, h2⟩
    suffices key : body.wpIn (F'.inRound l) n' G.P (roundPost G.P l fun e w' => ∃ A' C', YPost c' C1 w' A' C' ∧ (e = .returned (.bool true) ∧ J 0 (pre ++ [x]) A' C' w' ∨ e = .returned (.bool false) ∧ J 1 (pre ++ [x]) A' C' w')) a3 c4.w by
      rw [hw4] at key
      exact key
    refine hrb mr (F'.inRound l) n' c4.w (M.round c4 mr c2.E) a3.defers tm3 hp3 _ (roundPost G.P l _) c4 a3 hFr ⟨rfl, fun j e => by cases e⟩ hy4 (hro1 c4 hp3 hI4 hl4 ⟨_, hL4⟩) hk3 ?_ hS4
    intro e a5 c5 tm5 hp5 hk5 hS5
    have out : ∀ (e : Exit) (code : Code), jmp e = some code → aliveN mr hp5 = true ∧ K e tm1 hp5 → ∃ v w', (Instr.endRound l (some code)).run G.P c5.w = .ok v w' ∧ ∃ A' C', YPost c' C1 w' A' C' ∧ (Ending.returned v = .returned (.bool true) ∧ J 0 (pre ++ [x]) A' C' w' ∨ Ending.returned v = .returned (.bool false) ∧ J 1 (pre ++ [x]) A' C' w') := by
      intro e code hj1 hk
      obtain ⟨w', h1, A', C', h2, h3⟩ := fin 1 (some code) c5 hp5 hS5.inv hS5.full hk.1 (.inr ⟨by omega, e, code, hj1, rfl, hk.2⟩)
      exact ⟨_, w', h1, A', C', h2, .inr ⟨rfl, h3⟩⟩
    cases e with
    | normal =>
      obtain ⟨tm6, hp6, hwk, hI6⟩ := hk5
      obtain ⟨c6, e6, hS6⟩ := hwk c4.w (M.round c4 mr c2.E) c5 a5 _ rfl hS5
      obtain ⟨w', h1, A', C', h2, h3⟩ := fin 0 none c6 hp6 hS6.inv hS6.full (hal _ _ hI6) (.inl ⟨rfl, rfl, hI6⟩)
      rw [e6] at h1
      exact ⟨_, w', h1, A', C', h2, .inl ⟨rfl, h3⟩⟩
    | ret => exact out .ret .ret rfl hk5
    | exit id => exact out (.exit id) (.exit id) rfl hk5
    | goto t => exact out (.goto t) (.goto t) rfl hk5
    | panic _ => exact hk5.elim
    | outgrown => exact hk5.elim
  -- the function's call
  have hargs : RelT (.val (.func (.yield l) #[] #[]) :: caps) cx (.func (.yield l) #[] #[] :: lb) := by
    have hlex : c1.shut.Le (fun _ => true) cx := ⟨fun _ _ h => h.elim, fun b hb => by show c2.X b; rw [← hc2]; exact hb, fun b _ hb => by show c2.G b; rw [← hc2]; exact hb, fun b hb => hgrow.block b (hS1.inv.xlt b hb)⟩
    exact ⟨_, _, rfl, by simp [Rel], RelT.le caps (allL_true _) hlex (RelT.le caps hcl c1.le_shut hlb)⟩
  have hcall := hcon.2 l Mi cx _ rfl (fun _ h => h) hInvIt rfl hYd hargs
  obtain ⟨fnn, hf1, hf2, hf3⟩ := hcon.1
  have hf2' : ¬ fnn.name = "runtime.NumGoroutine" := by simpa using hf2
  have hf3' : ¬ fnn.body = none := fun h => by rw [h] at hf3; cases hf3
  have harr : (Value.func (.yield l) #[] #[] :: lb).toArray = #[.func (.yield l) #[] #[]] ++ lb.toArray := by apply Array.ext'; simp
  rw [harr] at hcall
  refine ⟨l, mark, W1, { target := .fn (.func g) lb.toArray, args := #[.func (.yield l) #[] #[]] }, W1, g, #[.func (.yield l) #[] #[]] ++ lb.toArray, W1, henter, ?_, fun f' _ => hF.fn f', ?_, fun h => (by rw [hF.depth] at h; cases h), ?_⟩
  · simp [resolve, hgv, Deferred.ofValue]
    rfl
  · simp [invoke, callFunc, hf1, hf2', hf3']
  refine (hF.callsIn hcall).mono fun e w' hR => ?_
  obtain ⟨v, c'', res, hp'', rfl, hE, hend⟩ := hR
  have hD0 : ∀ b, hp''[0]? = some (some b) → c''.D 0 := fun b hb => hE.full 0 b hb
  have hn0 : c''.D 0 → (c''.E 0).nil = true := fun hd => by rw [hE.inv.e0 0 Nat.one_pos hd]
  have hlast : ∃ (i : Nat) (ci : Cx) (hpi : Hp) (pe : Option Code) (s : LoopState), s ≠ .busy ∧ Inv w0 M ci hpi ∧ (∀ (k : Nat) (b : Blk), hpi[k]? = some (some b) → ci.D k) ∧ ci.w = w' ∧ ci.Z = c2.Z ∧ c2.Le (fun k => Nat.blt k mr) ci ∧ (∀ b, c2.Z b → b ≠ l → w'.heap[b]? = W1.heap[b]?) ∧
      w'.heap[l]? = some (.loop (rec s pe)) ∧ (∀ t, Rel (tmGet tm1 t) ci (a.tmps.getD t undef)) ∧ (pe = none ∧ K .normal tm1 hpi ∨ ∃ e code, jmp e = some code ∧ pe = some code ∧ K e tm1 hpi) := by
    rcases hend with hb | ⟨pre, hb⟩
    · obtain ⟨C1, _, i, ci, hpi, hj⟩ := hE.inv.gh 0 _ (hD0 _ hb) hb (hn0 (hD0 _ hb)) rfl
      rw [hE.weq] at hj
      have hil : i = its.length := by
        have := congrArg List.length hj.rows
        rw [List.length_take] at this
        have h2 := hj.ile
        simp only [gB] at this
        omega
      rcases hj.st with ⟨_, h1, h2⟩ | ⟨h0, _⟩
      · refine ⟨i, ci, hpi, none, .ready, (fun h => by cases h), hj.inv, hj.full, hj.w, hj.z, hj.le, fun b h1 h2 => by rw [hj.oth b h1 h2, hw2], h1, hj.slots htm hr2, .inl ⟨rfl, ?_⟩⟩
        subst hil
        exact hdone hpi h2
      · exact absurd rfl h0
    · obtain ⟨C1, _, i, ci, hpi, hj⟩ := hE.inv.gh 0 _ (hD0 _ hb) hb (hn0 (hD0 _ hb)) rfl
      rw [hE.weq] at hj
      rcases hj.st with ⟨h0, _⟩ | ⟨_, e, code, h1, h2, h3⟩
      · cases h0
      · exact ⟨i, ci, hpi, some code, .done, (fun h => by cases h), hj.inv, hj.full, hj.w, hj.z, hj.le, fun b h1 h2 => by rw [hj.oth b h1 h2, hw2], h2, hj.slots htm hr2, .inr ⟨e, code, h1, rfl, h3⟩⟩
  obtain ⟨i, ci, hpi, pe, s, hs, hIf, hff, hwf, hzf, hlef, hoth, hLf, hrf, hKf⟩ := hlast
  have hpend : (rec s pe).pending = pe := by rw [← hrec]
  subst hwf
  refine ⟨pe, ci.w.putObj l (.loop { rec s pe with state := .exhausted }), (run_endLoop hLf (by rw [← hrec]; exact hs)).trans (congrArg (fun q => Result.ok q (ci.w.putObj l (.loop { rec s pe with state := .exhausted }))) hpend), ?_⟩
  have hlZf : ci.Z l := by rw [hzf]; exact hZ2 l hZl
  obtain ⟨hI8, hle8⟩ := hIf.putZ (.loop { rec s pe with state := .exhausted }) hlZf hl0
  have hS8 : St w0 M { ci with w := ci.w.putObj l (.loop { rec s pe with state := .exhausted }) } tm1 hpi { a with defers := mark ++ a.defers } ds := by
    refine { inv := hI8, full := hff, rel := fun t => Rel.le _ (Sv.all_true _) hle8 (hrf t), size := hS1.size, ds := ?_ }
    have hzb : ∀ b, c2.Z b → b ≠ l → w0.heap.size ≤ b → w0.heap.size ≤ b ∧ ci.Z b ∧ ci.C b ∧ (ci.w.putObj l (.loop { rec s pe with state := .exhausted })).heap[b]? = W1.heap[b]? := fun b hb hne h0 => by
      have hz : ci.Z b := by rw [hzf]; exact hb
      exact ⟨h0, hz, (hIf.zc b hz).1, (World.putObj_heap_other hne).trans (hoth b hb hne)⟩
    obtain ⟨ml, e1, e2, e3⟩ := hS1.ds
    have hold : ∀ b ∈ ml, b < c1.w.heap.size ∧ b ≠ l := fun b hb => by
      obtain ⟨_, _, g3, _⟩ := e3 b hb
      have h1 := (hS1.inv.cc b g3).1
      exact ⟨h1, fun e => by have := (hZn l hZl).1; omega⟩
    have hml : ∀ b ∈ ml, w0.heap.size ≤ b ∧ ci.Z b ∧ ci.C b ∧ (ci.w.putObj l (.loop { rec s pe with state := .exhausted })).heap[b]? = some (.deferred (some [])) := fun b hb => by
      obtain ⟨g1, g2, g3, g4⟩ := e3 b hb
      obtain ⟨h1, h2⟩ := hold b hb
      obtain ⟨f1, f2, f3, f4⟩ := hzb b (hZ1 b g2) h2 g1
      exact ⟨f1, f2, f3, f4.trans ((hgrow.block b h1).trans g4)⟩
    rcases hmark with rfl | ⟨D, rfl, hD1, hD2, hD3⟩
    · exact ⟨ml, by simpa using e1, e2, hml⟩
    · refine ⟨D :: ml, by simp [e1], List.nodup_cons.2 ⟨fun hin => ?_, e2⟩, fun b hb => ?_⟩
      · have := (hold D hin).1
        have := (hZn D hD1).1
        omega
      · rcases List.mem_cons.1 hb with rfl | hb
        · obtain ⟨f1, f2, f3, f4⟩ := hzb b (hZ2 b hD1) hD2 (Nat.le_trans hS1.inv.size (hZn b hD1).1)
          exact ⟨f1, f2, f3, f4.trans hD3⟩
        · exact hml b hb
  rcases hKf with ⟨rfl, hk⟩ | ⟨e, code, hj1, rfl, hk⟩
  · exact hQ _ _ _ _ _ hk hS8
  · cases e with
    | ret => cases hj1; exact wpIn_ret (hQ _ _ _ _ _ hk hS8)
    | exit id => cases hj1; exact wpIn_exit (hQ _ _ _ _ _ hk hS8)
    | goto t => cases hj1; exact wpIn_goto (hQ _ _ _ _ _ hk hS8)
    | normal => cases hj1
    | panic _ => cases hj1
    | outgrown => cases hj1
end Go.Eng
