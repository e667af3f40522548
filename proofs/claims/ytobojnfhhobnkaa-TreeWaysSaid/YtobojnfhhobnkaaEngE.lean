/- The engine, part E: operations that make blocks. -/
import Derived.Test.YtobojnfhhobnkaaEngD
import Derived.Laws.MakeOwn
set_option linter.unusedSimpArgs false
set_option maxRecDepth 20000
set_option linter.unusedVariables false
namespace Go.Eng
open Go Go.RowKit

def memB (k : Nat) : List Nat → Bool
  | [] => false
  | j :: js => (k == j) || memB k js

def Sv.forget (kl : List Nat) : Sv → Sv
  | .agg cs => .agg (go kl cs)
  | .tup cs => .tup (go kl cs)
  | .clo f cs => .clo f (go kl cs)
  | .ptr k r q => match memB k kl with | true => .any | false => .ptr k r q
  | .own k n => match memB k kl with | true => .any | false => .own k n
  | .sls k l n => match memB k kl with | true => .any | false => .sls k l n
  | s => s
where go (kl : List Nat) : List Sv → List Sv
  | [] => []
  | s :: ss => s.forget kl :: go kl ss

mutual
theorem forget_all (kl : List Nat) : ∀ s : Sv, (s.forget kl).all (fun k => !memB k kl) = true
  | .val _ | .any | .ext _ _ _ | .ref _ _ => by simp [Sv.forget, Sv.all]
  | .ptr k r q => by
    simp only [Sv.forget]
    split <;> simp [Sv.all, *]
  | .own k n => by
    simp only [Sv.forget]
    split <;> simp [Sv.all, *]
  | .sls k l n => by
    simp only [Sv.forget]
    split <;> simp [Sv.all, *]
  | .agg cs => by simp [Sv.forget, Sv.all, forgetL_all kl cs]
  | .tup cs => by simp [Sv.forget, Sv.all, forgetL_all kl cs]
  | .clo _ cs => by simp [Sv.forget, Sv.all, forgetL_all kl cs]
theorem forgetL_all (kl : List Nat) : ∀ cs : List Sv, Sv.all.allL (fun k => !memB k kl) (Sv.forget.go kl cs) = true
  | [] => rfl
  | s :: ss => by simp [Sv.forget.go, Sv.all.allL, forget_all kl s, forgetL_all kl ss]
end

mutual
theorem Rel.forget (kl : List Nat) : ∀ (s : Sv) {c : Cx} {v : Value}, v.oneCell' = true ∨ True → Rel s c v → Rel (s.forget kl) c v
  | .val _, _, _, _, r | .any, _, _, _, r | .ext _ _ _, _, _, _, r | .ref _ _, _, _, _, r => r
  | .ptr k r q, _, _, _, h => by
    simp only [Sv.forget]
    split
    · simp [Rel]
    · exact h
  | .own k n, _, _, _, h => by
    simp only [Sv.forget]
    split
    · simp [Rel]
    · exact h
  | .sls k l n, _, _, _, h => by
    simp only [Sv.forget]
    split
    · simp [Rel]
    · exact h
  | .agg cs, _, _, _, h => by
    simp only [Sv.forget, Rel] at h ⊢
    obtain ⟨vs, e, hl⟩ := h
    exact ⟨vs, e, RelL.forget kl cs hl⟩
  | .tup cs, _, _, _, h => by
    simp only [Sv.forget, Rel] at h ⊢
    obtain ⟨vs, e, hl⟩ := h
    exact ⟨vs, e, RelT.forget kl cs hl⟩
  | .clo f cs, _, _, _, h => by
    simp only [Sv.forget, Rel] at h ⊢
    obtain ⟨vs, e, hl⟩ := h
    exact ⟨vs, e, RelT.forget kl cs hl⟩
theorem RelL.forget (kl : List Nat) : ∀ (cs : List Sv) {c : Cx} {vs : List Value}, RelL cs c vs → RelL (Sv.forget.go kl cs) c vs
  | [], _, _, h => by simpa [Sv.forget.go] using h
  | s :: ss, _, _, h => by
    simp only [Sv.forget.go, RelL] at h ⊢
    obtain ⟨u, us, e, h1, hs, hl⟩ := h
    exact ⟨u, us, e, h1, Rel.forget kl s (.inr trivial) hs, RelL.forget kl ss hl⟩
theorem RelT.forget (kl : List Nat) : ∀ (cs : List Sv) {c : Cx} {vs : List Value}, RelT cs c vs → RelT (Sv.forget.go kl cs) c vs
  | [], _, _, h => by simpa [Sv.forget.go] using h
  | s :: ss, _, _, h => by
    simp only [Sv.forget.go, RelT] at h ⊢
    obtain ⟨u, us, e, hs, hl⟩ := h
    exact ⟨u, us, e, Rel.forget kl s (.inr trivial) hs, RelT.forget kl ss hl⟩
theorem RelC.forget (kl : List Nat) : ∀ (cs : List Sv) {c : Cx} {b off : Nat}, RelC cs c b off → RelC (Sv.forget.go kl cs) c b off
  | [], _, _, _, h => by simpa [Sv.forget.go] using h
  | s :: ss, _, _, _, h => by
    simp only [Sv.forget.go, RelC] at h ⊢
    obtain ⟨⟨u, e, h1, hs⟩, hl⟩ := h
    exact ⟨⟨u, e, h1, Rel.forget kl s (.inr trivial) hs⟩, RelC.forget kl ss hl⟩
end
theorem forgetGo_length (kl : List Nat) : ∀ cs : List Sv, (Sv.forget.go kl cs).length = cs.length
  | [] => rfl
  | s :: ss => by simp [Sv.forget.go, forgetGo_length kl ss]
theorem RelR.forget (kl : List Nat) : ∀ (rs : List (List Sv)) {c : Cx} {wd b off : Nat}, RelR rs c wd b off → RelR (rs.map (Sv.forget.go kl)) c wd b off
  | [], _, _, _, _, h => by simpa using h
  | r :: rs, _, _, _, _, h => by
    simp only [List.map_cons, RelR] at h ⊢
    exact ⟨by rw [forgetGo_length]; exact h.1, RelC.forget kl r h.2.1, RelR.forget kl rs h.2.2⟩

/-- A heap in which nobody names the blocks of kl any more. -/
def Blk.forget (kl : List Nat) (b : Blk) : Blk :=
  match b with
  | ⟨e, wd, true, gr, rows⟩ => ⟨e, wd, true, gr, rows⟩
  | ⟨e, wd, false, gr, rows⟩ => ⟨e, wd, false, gr, rows.map (Sv.forget.go kl)⟩
theorem Blk.forget_def (kl : List Nat) (b : Blk) : b.forget kl = match b.clean with
    | true => b
    | false => { b with rows := b.rows.map (Sv.forget.go kl) } := by
  cases b with
  | mk e wd cl gr rows => cases cl <;> rfl

def killH (kl : List Nat) (i : Nat) : Hp → Hp
  | [] => []
  | b :: bs => (match memB i kl, b with
    | false, some b => some (b.forget kl)
    | _, _ => none) :: killH kl (i + 1) bs

def kill (kl : List Nat) (hp : Hp) : Hp :=
  match kl with
  | [] => hp
  | _ => killH kl 0 hp

def forgetT (kl : List Nat) (tm : List Sv) : List Sv :=
  match kl with
  | [] => tm
  | _ => Sv.forget.go kl tm

theorem killH_get (kl : List Nat) : ∀ (hp : Hp) (i k : Nat) (b : Blk), hp[k]? = some (some b) → memB (i + k) kl = false → (killH kl i hp)[k]? = some (some (b.forget kl))
  | [], _, _, _, h, _ => by simp at h
  | x :: xs, i, 0, b, h, hm => by
    simp at h hm
    subst h
    simp [killH, hm]
  | x :: xs, i, k + 1, b, h, hm => by
    simp only [killH, List.getElem?_cons_succ] at h ⊢
    exact killH_get kl xs (i + 1) k b h (by rw [show i + 1 + k = i + (k + 1) by omega]; exact hm)
theorem killH_length (kl : List Nat) : ∀ (hp : Hp) (i : Nat), (killH kl i hp).length = hp.length
  | [], _ => rfl
  | x :: xs, i => by simp [killH, killH_length kl xs]
theorem killH_some (kl : List Nat) : ∀ (hp : Hp) (i k : Nat) (b : Blk), (killH kl i hp)[k]? = some (some b) → memB (i + k) kl = false ∧ ∃ b0, hp[k]? = some (some b0) ∧ b = b0.forget kl
  | [], _, _, _, h => by simp [killH] at h
  | x :: xs, i, 0, b, h => by
    simp only [killH, List.getElem?_cons_zero, Option.some.injEq] at h
    cases hm : memB i kl <;> cases x <;> simp [hm] at h
    exact ⟨by simp [hm], _, rfl, h.symm⟩
  | x :: xs, i, k + 1, b, h => by
    simp only [killH, List.getElem?_cons_succ] at h ⊢
    have := killH_some kl xs (i + 1) k b h
    rwa [show i + 1 + k = i + (k + 1) by omega] at this

theorem BlkRel.forget {c : Cx} {k : Nat} {b : Blk} (kl : List Nat) (h : BlkRel c k b) : BlkRel c k (b.forget kl) := by
  rw [Blk.forget_def]
  cases hc : b.clean with
  | true => exact h
  | false =>
    unfold BlkRel at *
    refine ⟨h.1, fun hn => ?_, fun hn => ?_⟩
    · rcases h.2.1 hn with ⟨a, e⟩ | ⟨_, e, _⟩
      · exact .inl ⟨a, by simp [e]⟩
      · rw [hc] at e; cases e
    · obtain ⟨arr, hh, hr, hl, hg⟩ := h.2.2 hn
      refine ⟨arr, hh, ?_, by simpa using hl, by simpa using hg⟩
      simp only [Blk.cx, hc] at hr ⊢
      exact RelR.forget kl _ hr

theorem Blk.forget_all (kl : List Nat) (b : Blk) : (b.forget kl).clean = false → (b.forget kl).rows.all (Sv.all.allL (fun k => !memB k kl)) = true := by
  rw [Blk.forget_def]
  cases hc : b.clean with
  | true => intro h; simp [hc] at h
  | false =>
    intro _
    simp only [List.all_map, List.all_eq_true]
    intro r _
    exact forgetL_all kl r

theorem kill_length (kl : List Nat) (hp : Hp) : (kill kl hp).length = hp.length := by
  unfold kill
  cases kl with
  | nil => rfl
  | cons j js => exact killH_length _ _ _

/-- Blocks let go: they are known no more, and nobody names them. -/
theorem Inv.kill {w0 : World} {M : Frm} {c : Cx} {hp : Hp} (h : Inv w0 M c hp) (kl : List Nat) :
    Inv w0 M { c with D := fun k => c.D k ∧ memB k kl = false } (kill kl hp) ∧ c.Le (fun k => !memB k kl) { c with D := fun k => c.D k ∧ memB k kl = false } := by
  have hle : c.Le (fun k => !memB k kl) { c with D := fun k => c.D k ∧ memB k kl = false } := ⟨fun k hk hd => ⟨⟨hd, by simpa using hk⟩, rfl⟩, fun _ h => h, fun _ _ h => h, fun _ _ => rfl⟩
  refine ⟨?_, hle⟩
  have hg : ∀ k, c.D k ∧ memB k kl = false → ∃ blk, (Go.Eng.kill kl hp)[k]? = some (some blk) ∧ BlkRel { c with D := fun k => c.D k ∧ memB k kl = false } k blk := by
    rintro k ⟨hk, hm⟩
    obtain ⟨blk, e, r⟩ := h.dom k hk
    cases kl with
    | nil => exact ⟨blk, e, r.le hle rfl (fun _ => rfl) (fun _ => by
        have : (fun k => !memB k []) = (fun _ => true) := by funext k; simp [memB]
        rw [this]; exact allR_true _)⟩
    | cons j js => exact ⟨_, killH_get _ hp 0 k blk e (by simpa using hm), (r.forget (j :: js)).le hle rfl (fun _ => rfl) (Blk.forget_all _ _)⟩
  exact {
    dom := hg
    inj := fun k k' hk hk' => h.inj k k' hk.1 hk'.1
    xsep := fun k b hk => h.xsep k b hk.1
    xlt := h.xlt
    xY := h.xY
    bnd := h.bnd
    bndG := h.bndG
    e0 := fun k hk hd => h.e0 k hk hd.1
    mlen := by rw [kill_length]; exact h.mlen
    os := h.os
    tape := h.tape
    output := h.output
    size := h.size
    keep := h.keep
    loc := fun k hk => h.loc k hk.1
    x0 := h.x0
    zc := h.zc
    z0 := h.z0
    xk := h.xk
    ca := h.ca
    cc := fun b hb => ⟨(h.cc b hb).1, fun k hk => (h.cc b hb).2.1 k hk.1, (h.cc b hb).2.2⟩
    gh := fun k blk hk hb hn hgr => by
      obtain ⟨b0, e0, r0⟩ := h.dom k hk.1
      have hbb : blk = b0 := by
        cases kl with
        | nil =>
          rw [show Go.Eng.kill [] hp = hp from rfl, e0] at hb
          cases hb
          rfl
        | cons j js =>
          rw [show Go.Eng.kill (j :: js) hp = killH (j :: js) 0 hp from rfl, killH_get _ hp 0 k b0 e0 (by simpa using hk.2)] at hb
          cases hb
          rw [Blk.forget_def] at hgr ⊢
          rcases r0.2.1 hn with ⟨h1, _⟩ | ⟨_, h1, _⟩
          · split at hgr
            all_goals exact absurd hgr (by simp [h1])
          · simp only [h1]
      subst hbb
      exact h.gh k blk hk.1 e0 hn hgr }

theorem forgetT_all (kl : List Nat) (tm : List Sv) (t : Nat) : (tmGet (forgetT kl tm) t).all (fun k => !memB k kl) = true := by
  unfold tmGet
  rw [nth_eq]
  cases kl with
  | nil =>
    have : (fun k => !memB k []) = (fun _ => true) := by funext k; simp [memB]
    rw [this]; exact Sv.all_true _
  | cons j js =>
    simp only [forgetT]
    have : ∀ (tm : List Sv) (t : Nat), (match (Sv.forget.go (j :: js) tm)[t]? with | some s => s | none => Sv.any).all (fun k => !memB k (j :: js)) = true := by
      intro tm
      induction tm with
      | nil => intro t; simp [Sv.forget.go, Sv.all]
      | cons s ss ih =>
        intro t
        cases t with
        | zero => simp [Sv.forget.go, Go.Eng.forget_all]
        | succ t => simpa [Sv.forget.go] using ih t
    exact this tm t

theorem tmGet_forget (kl : List Nat) (tm : List Sv) (t : Nat) {c : Cx} {v : Value} (h : Rel (tmGet tm t) c v) : Rel (tmGet (forgetT kl tm) t) c v := by
  cases kl with
  | nil => exact h
  | cons j js =>
    simp only [forgetT]
    unfold tmGet at *
    rw [nth_eq] at *
    have : ∀ (tm : List Sv) (t : Nat), Rel (match tm[t]? with | some s => s | none => Sv.any) c v → Rel (match (Sv.forget.go (j :: js) tm)[t]? with | some s => s | none => Sv.any) c v := by
      intro tm
      induction tm with
      | nil => intro t _; simp [Sv.forget.go, Rel]
      | cons s ss ih =>
        intro t h
        cases t with
        | zero => simp [Sv.forget.go] at h ⊢; exact Rel.forget _ s (.inr trivial) h
        | succ t => simp [Sv.forget.go] at h ⊢; exact ih t h
    exact this tm t h

/-! ### What an operation that makes blocks leaves -/
structure EPost (w0 : World) (M : Frm) (c c' : Cx) (hp : Hp) (nb : List Blk) (kl : List Nat) : Prop where
  inv : Inv w0 M c' (kill kl hp ++ nb.map some)
  le : c.Le (fun k => !memB k kl) c'
  dom : ∀ k, c'.D k ↔ (c.D k ∧ memB k kl = false) ∨ (hp.length ≤ k ∧ k < hp.length + nb.length)
  keep : ∀ j, j < c.w.heap.size → (∀ k, c.D k → memB k kl = true → (c.E k).nil = false → (c.E k).b ≠ j) → c'.w.heap[j]? = c.w.heap[j]?
  xdom : ∀ b, c'.X b → c.X b ∨ c.w.heap.size ≤ b
  size : c.w.heap.size ≤ c'.w.heap.size
  fresh : ∀ k, hp.length ≤ k → c'.D k → (c'.E k).nil = false → c.w.heap.size ≤ (c'.E k).b ∨ ∃ k0, c.D k0 ∧ memB k0 kl = true ∧ (c.E k0).nil = false ∧ (c.E k0).b = (c'.E k).b
  cA : c'.A = c.A
  cC : c'.C = c.C
  cZ : c'.Z = c.Z
  nnil : ∀ (j : Nat) (b : Blk), nb[j]? = some b → (c'.E (hp.length + j)).nil = true → b.grow = true

/-- A fence that lets everything in. -/
structure Open (F : Fence) : Prop where
  fn : ∀ f, F.fn f
  depth : F.depth = none
  alive : F.alive = false

theorem Open.fenced {F : Fence} (hF : Open F) (P : Program) (m : Machine) : m.fenced P F :=
  fun _ _ => ⟨fun h => (by rw [hF.alive] at h; cases h), .inl (hF.fn _), fun f _ => hF.fn f, fun d hd => (by rw [hF.depth] at hd; cases hd)⟩
theorem Open.room {F : Fence} (hF : Open F) (n : Nat) : F.room n := fun d hd => by rw [hF.depth] at hd; cases hd
theorem Open.comes {F : Fence} (hF : Open F) {P : Program} {m m' : Machine} {e : Ending} (h : Comes P m m' e) : ComesIn (Machine.fenced P F) P m m' e := by
  cases e with
  | returned v => exact (StepsIn.of_steps h).mono fun m _ => hF.fenced P m
  | panicked c => exact (StepsIn.of_steps h).mono fun m _ => hF.fenced P m
  | outgrown => exact h
theorem Open.callsIn {F : Fence} (hF : Open F) {n : Nat} {P : Program} {f : FuncId} {args : Array Value} {w : World} {R : Ending → World → Prop} (h : Calls P f args w R) : CallsIn F n P f args w R :=
  ⟨hF.fn f, fun cs _ => let ⟨e, w', fr, r, s, x⟩ := h cs; ⟨e, w', fr, r, hF.comes s, x⟩⟩
theorem open_wide : Open Fence.wide := ⟨fun _ => trivial, rfl, rfl⟩

def EStep (P : Program) (o : Oper) (tm : List Sv) (hp : Hp) (s : Sv) (nb : List Blk) (kl : List Nat) : Prop :=
  ∀ (F : Fence) (n : Nat) (w0 : World) (M : Frm) (c : Cx) (a : Act) (next : Act → World → Prop) (Q : Exit → Act → World → Prop), Open F → Inv w0 M c hp → (∀ x ∈ o.op.operands, Rel (evO tm x) c (a.eval x)) →
    (∀ v c', EPost w0 M c c' hp nb kl → Rel s c' v → next (a.put o.dst v) c'.w) → o.wpIn F n P a c.w next Q

theorem Oper.wpIn_value {F : Fence} (hF : Open F) {n : Nat} {P : Program} {o : Oper} {a : Act} {w w' : World} {next : Act → World → Prop} {Q : Exit → Act → World → Prop} {v : Value}
    (hd : ∀ c, o.op ≠ .defer c) (hr : (execOp a.eval o).run P w = .ok (.value v) w') (h : next (a.put o.dst v) w') : o.wpIn F n P a w next Q := by
  refine ⟨fun f _ => hF.fn f, ?_⟩
  rw [Oper.semAt_eq _ _ _ hd, hr]
  exact h

theorem memB_nil (k : Nat) : memB k [] = false := rfl
theorem notNil : (fun k => !memB k []) = (fun _ : Nat => true) := by funext k; simp [memB]

section
variable {G : Gm} {tm : List Sv} {hp : Hp} {o : Oper}

theorem PureS.estep {P : Program} {s : Sv} (hd : ∀ c, o.op ≠ .defer c) (h : PureS P o tm hp s) : EStep P o tm hp s [] [] := by
  intro F n w0 M c a next Q hF hI ha hn
  obtain ⟨v, hr, hs⟩ := h w0 M c a hI ha
  refine Oper.wpIn_value hF hd hr (hn v c ?_ hs)
  exact {
    inv := by simpa [kill] using hI
    le := ⟨fun _ _ h => ⟨h, rfl⟩, fun _ h => h, fun _ _ h => h, fun _ _ => rfl⟩
    dom := fun k => by simp [memB]; omega
    keep := fun _ _ _ => rfl
    xdom := fun _ h => .inl h
    size := Nat.le_refl _
    fresh := fun k hk hD _ => by
      obtain ⟨blk, e, _⟩ := hI.dom k hD
      rw [List.getElem?_eq_none hk] at e
      cases e
    cA := rfl
    cC := rfl
    cZ := rfl
    nnil := fun j b h => by simp at h }

/-- An operation that makes one block. -/
theorem estep_new {P : Program} {s : Sv} {blk : Blk} (hd : ∀ c, o.op ≠ .defer c)
    (h : ∀ (w0 : World) (M : Frm) (c : Cx) (a : Act), Inv w0 M c hp → (∀ x ∈ o.op.operands, Rel (evO tm x) c (a.eval x)) →
      ∃ v l w', (execOp a.eval o).run P c.w = .ok (.value v) w' ∧ WGrow c.w w' ∧ (l.nil = false ∧ c.w.heap.size ≤ l.b) ∧ BlkRel (c.put hp.length l w') hp.length blk ∧ Rel s (c.put hp.length l w') v) :
    EStep P o tm hp s [blk] [] := by
  intro F n w0 M c a next Q hF hI ha hn
  obtain ⟨v, l, w', hr, hg, hl, hb, hs⟩ := h w0 M c a hI ha
  have hnD : ¬ c.D hp.length := fun hD => by
    obtain ⟨blk, e, _⟩ := hI.dom _ hD
    simp at e
  have hlt : ∀ k, c.D k → k < hp.length := fun k hD => by
    obtain ⟨blk, e, _⟩ := hI.dom _ hD
    exact (List.getElem?_eq_some_iff.1 e).1
  refine Oper.wpIn_value hF hd hr (hn v (c.put hp.length l w') ?_ hs)
  exact {
    inv := by
      have := hI.new (hp' := hp ++ [some blk]) hnD hI.mlen (fun k hk => List.getElem?_append_left (hlt k hk)) (by simp) hg (fun _ => hl.2) hb (fun e => by rw [hl.1] at e; cases e)
      simpa [kill] using this
    le := by rw [notNil]; exact Cx.Le.put hnD fun b hx => hg.block b (hI.xlt b hx)
    dom := fun k => by simp [memB, Cx.put]; constructor <;> (rintro (h | h) <;> first | (exact .inl h) | (right; omega))
    keep := fun j hj _ => hg.block j hj
    xdom := fun _ h => .inl h
    size := hg.size
    fresh := fun k hk hD hn => by
      have : k = hp.length := by
        rcases hD with hD | hD
        · have := hlt k hD; omega
        · exact hD
      subst this
      simp only [Cx.put, upd_same] at hn ⊢
      exact .inl hl.2
    cA := rfl
    cC := rfl
    cZ := rfl
    nnil := fun j b h hn => by
      cases j with
      | zero => simp only [Cx.put, Nat.add_zero, upd_same] at hn; rw [hl.1] at hn; cases hn
      | succ j => simp at h }

theorem putE {c : Cx} {n : Nat} {l : Loc} {w : World} : (c.put n l w).E n = l := upd_same _ _ _

theorem Inv.notD {w0 : World} {M : Frm} {c : Cx} {hp : Hp} (hI : Inv w0 M c hp) : ¬ c.D hp.length := fun hD => by
  obtain ⟨blk, e, _⟩ := hI.dom _ hD
  simp at e

theorem Inv.put_le {w0 : World} {M : Frm} {c : Cx} {hp : Hp} (hI : Inv w0 M c hp) {l : Loc} {w : World} (hg : WGrow c.w w) : c.Le (fun _ => true) (c.put hp.length l w) :=
  Cx.Le.put hI.notD fun b hx => hg.block b (hI.xlt b hx)

theorem cell_new (w : World) (vs : List Value) (e j : Nat) (u : Value) (h : vs[j]? = some u) : (w.alloc (.cells vs.toArray e)).cell? ⟨w.heap.size, 0 + j, none⟩ = some u := by
  rw [World.cell?_alloc_new]
  simpa using h

/-- The relation of a block that has just been laid. -/
theorem BlkRel.new {w0 : World} {M : Frm} {c : Cx} {hp : Hp} (hI : Inv w0 M c hp) {e wd : Nat} {clean grow : Bool} {rows : List (List Sv)} {vs : List Value} {cap : Nat}
    (hw : ∀ r ∈ rows, r.length = wd) (hl : RelL rows.flatten (if clean then c.shut else c) (vs.take (rows.length * wd))) (hn : rows.length * wd ≤ vs.length) (hgrow : grow = true → cap * wd ≤ vs.length ∧ rows.length ≤ cap ∧ cap ≤ maxLen) :
    BlkRel (c.put hp.length ⟨c.w.heap.size, cap, false, wd⟩ (c.w.alloc (.cells vs.toArray e))) hp.length ⟨e, wd, clean, grow, rows⟩ := by
  have hg := WGrow.alloc c.w (.cells vs.toArray e)
  have hle := hI.put_le (l := ⟨c.w.heap.size, cap, false, wd⟩) hg
  unfold BlkRel
  rw [putE]
  refine ⟨rfl, (fun h => by cases h), fun _ => ⟨vs.toArray, heap_alloc_new _ _, ?_, by simpa using hn, fun h => by simpa using hgrow h⟩⟩
  refine RelR_of_vals rows (vs := vs.take (rows.length * wd)) hw ?_ fun j u hj => ?_
  · unfold Blk.cx
    cases clean with
    | true => exact RelL.le _ (allL_true _) hle.shut hl
    | false => exact RelL.le _ (allL_true _) hle hl
  · rw [Blk.cx_w]
    refine cell_new _ _ _ _ _ ?_
    rw [List.getElem?_take] at hj
    split at hj
    · exact hj
    · cases hj

/-! ### A variable, a parameter in memory -/
def allocV (G : Gm) (hp : Hp) (e : Nat) (K : Sv → Blk → Prop) : Prop :=
  Get (G.tab e) fun i => Need (i.zero.all Value.oneCell' = true) <| K (.ptr hp.length 0 0) ⟨e, i.zero.length, true, false, [i.zero.map .val]⟩

theorem allocV_sound {e : Nat} {K : Sv → Blk → Prop} (ho : o.op = .alloc e) (h : allocV G hp e K) : ∃ s b, K s b ∧ EStep G.P o tm hp s [b] [] := by
  obtain ⟨i, hi, hone, h⟩ := h
  refine ⟨_, _, h, estep_new (by rw [ho]; simp) fun w0 M c a hI ha => ?_⟩
  obtain ⟨z, hz, hzc⟩ := (G.ok e i hi).run_zero c.w
  rw [List.all_eq_true] at hone
  refine ⟨.pointer (some ⟨c.w.heap.size, 0, none⟩), ⟨c.w.heap.size, 0, false, i.zero.length⟩, c.w.alloc (.cells i.zero.toArray e), ?_, WGrow.alloc _ _, ⟨rfl, Nat.le_refl _⟩, ?_, ?_⟩
  · simp [execOp, ho, Instr.alloc, hz, newVar, newRow, hzc]
  · refine BlkRel.new hI (by simp) ?_ (by simp) (by simp)
    simpa using RelL_vals c.shut i.zero hone
  · simp only [Rel, putE]
    exact ⟨.inr rfl, trivial, by simp⟩

def boxV (hp : Hp) (e : Nat) (x : Sv) (K : Sv → Blk → Prop) : Prop :=
  Get x.parts fun cs => K (.ptr hp.length 0 0) ⟨e, cs.length, false, false, [cs]⟩

theorem boxV_sound {e : Nat} {x : Operand} {K : Sv → Blk → Prop} (ho : o.op = .box e x) (h : boxV hp e (evO tm x) K) : ∃ s b, K s b ∧ EStep G.P o tm hp s [b] [] := by
  obtain ⟨cs, hcs, h⟩ := h
  refine ⟨_, _, h, estep_new (by rw [ho]; simp) fun w0 M c a hI ha => ?_⟩
  have r := ha x (by rw [ho]; simp [Op.operands])
  obtain ⟨vs, hv, hl⟩ := r.parts hcs
  have hlen := RelL_len _ hl
  refine ⟨.pointer (some ⟨c.w.heap.size, 0, none⟩), ⟨c.w.heap.size, 0, false, cs.length⟩, c.w.alloc (.cells vs.toArray e), ?_, WGrow.alloc _ _, ⟨rfl, Nat.le_refl _⟩, ?_, ?_⟩
  · simp [execOp, ho, Instr.box, newVar, newRow, hv]
  · refine BlkRel.new hI (by simp) ?_ (by simp [hlen]) (by simp)
    simp [← hlen, List.take_length]
    exact hl
  · simp only [Rel, putE]
    exact ⟨.inr rfl, trivial, by simp⟩

theorem Cx.le_shut (c : Cx) : c.Le (fun _ => false) c.shut := ⟨fun _ h => (by cases h), fun _ h => h, fun _ _ h => h, fun _ _ => rfl⟩
theorem RelL.closed {cs : List Sv} {c : Cx} {vs : List Value} (r : RelL cs c vs) (h : Sv.all.allL (fun _ => false) cs = true) : RelL cs c.shut vs := RelL.le cs h c.le_shut r
theorem allL_append (p : Nat → Bool) : ∀ (a b : List Sv), Sv.all.allL p (a ++ b) = (Sv.all.allL p a && Sv.all.allL p b)
  | [], b => by simp [Sv.all.allL]
  | s :: ss, b => by simp [Sv.all.allL, allL_append p ss b, Bool.and_assoc]
theorem allR_flatten {p : Nat → Bool} : ∀ (rs : List (List Sv)), rs.all (Sv.all.allL p) = true → Sv.all.allL p rs.flatten = true
  | [], _ => rfl
  | r :: rs, h => by
    simp only [List.all_cons, Bool.and_eq_true] at h
    simp [allL_append, h.1, allR_flatten rs h.2]

/-! ### A slice written out -/
def fillR (size : Nat) : List (List Sv) → List (Nat × Sv) → (List (List Sv) → Prop) → Prop
  | rows, [], K => K rows
  | rows, (i, x) :: rest, K => Get x.parts fun xs => Need (xs.length = size ∧ i < rows.length) (fillR size (rows.set i xs) rest K)

theorem flatten_set {size : Nat} : ∀ (rows : List (List Sv)) (i : Nat) (xs : List Sv), (∀ r ∈ rows, r.length = size) → xs.length = size → i < rows.length →
    (rows.set i xs).flatten = putL rows.flatten (i * size) xs
  | [], _, _, _, _, h => by simp at h
  | r :: rs, 0, xs, hw, hx, _ => by
    have := hw r (by simp)
    simp [putL, hx, ← this]
  | r :: rs, i + 1, xs, hw, hx, hi => by
    have hr := hw r (by simp)
    have ih := flatten_set rs i xs (fun q hq => hw q (by simp [hq])) hx (by simpa using hi)
    simp only [List.set_cons_succ, List.flatten_cons, ih, putL]
    rw [show (i + 1) * size = r.length + i * size by rw [hr, Nat.add_mul]; omega]
    have h1 : (r ++ rs.flatten).take (r.length + i * size) = r ++ rs.flatten.take (i * size) := by
      rw [List.take_append, List.take_of_length_le (by omega)]
      congr 2
      omega
    have h2 : (r ++ rs.flatten).drop (r.length + i * size + xs.length) = rs.flatten.drop (i * size + xs.length) := by
      rw [Nat.add_assoc, List.drop_append]
      simp
    rw [h1, h2]
    simp

theorem fillR_sound {size : Nat} : ∀ (parts : List (Nat × Sv)) (rows : List (List Sv)) (K : List (List Sv) → Prop), fillR size rows parts K → (∀ r ∈ rows, r.length = size) → ∃ rs, K rs ∧ rs.length = rows.length ∧ (∀ r ∈ rs, r.length = size) ∧
      ∀ (c : Cx) (vs : List Value) (vparts : List (Nat × Value)), RelL rows.flatten c vs → vparts.map (·.1) = parts.map (·.1) → (∀ (i n : Nat) (s : Sv) (u : Value), parts[i]? = some (n, s) → vparts[i]? = some (n, u) → Rel s c u) →
      ∃ us : List Value, Instr.fill (fun i => some (i * size, size)) vs.toArray vparts = some us.toArray ∧ RelL rs.flatten c us
  | [], rows, K, h, hw => ⟨rows, h, rfl, hw, fun c vs vparts hv hm _ => by
      have : vparts = [] := by simpa using hm
      subst this
      exact ⟨vs, rfl, hv⟩⟩
  | (i, x) :: rest, rows, K, h, hw => by
    obtain ⟨xs, hx, ⟨hl, hb⟩, h⟩ := h
    have hw' : ∀ r ∈ rows.set i xs, r.length = size := fun r hr => by
      rcases List.mem_or_eq_of_mem_set hr with h | rfl
      · exact hw r h
      · exact hl
    obtain ⟨rs, hK, hrl, hrw, ih⟩ := fillR_sound rest _ K h hw'
    refine ⟨rs, hK, by simpa using hrl, hrw, fun c vs vparts hv hm hr => ?_⟩
    cases vparts with
    | nil => simp at hm
    | cons q vrest =>
      obtain ⟨n, u⟩ := q
      simp only [List.map_cons, List.cons.injEq] at hm
      obtain ⟨rfl, hm⟩ := hm
      have hu := hr 0 n x u rfl rfl
      obtain ⟨us, hus, hul⟩ := hu.parts hx
      have hlu := RelL_len _ hul
      have hlv := RelL_len _ hv
      have hfl : rows.flatten.length = rows.length * size := by
        have : ∀ (rows : List (List Sv)), (∀ r ∈ rows, r.length = size) → rows.flatten.length = rows.length * size := by
          intro rows
          induction rows with
          | nil => simp
          | cons r rs ih => intro h; simp [ih (fun q hq => h q (by simp [hq])), h r (by simp), Nat.add_mul]; omega
        exact this rows hw
      have hbd : n * size + us.length ≤ vs.length := by
        rw [hlv, hfl, hlu, hl]
        have := Nat.mul_le_mul_right size (show n + 1 ≤ rows.length from hb)
        rw [Nat.add_mul] at this
        omega
      obtain ⟨ws, hw2, hwl⟩ := ih c (putL vs (n * size) us) vrest (by rw [flatten_set rows n xs hw hl hb]; exact RelL_put hv hul _) hm (fun i n s u h1 h2 => hr (i + 1) n s u h1 h2)
      refine ⟨ws, ?_, hwl⟩
      simp only [Instr.fill, hus]
      rw [if_neg (by simp; omega)]
      have := fold_set us (n * size) 0 vs.toArray (by simpa using hbd)
      rw [← hw2]
      congr 1
      apply Array.ext'
      simpa using this

def litV (G : Gm) (tm : List Sv) (hp : Hp) (t len : Nat) (parts : Array (Nat × Operand)) (K : Sv → Blk → Prop) : Prop :=
  Get (G.tab t) fun i => match i.kind with
    | .slice e => Get (G.tab e) fun j => Need (j.size ≠ 0 ∧ len * j.size ≤ 2 ^ 24 ∧ j.zero.length = j.size ∧ j.zero.all Value.oneCell' = true) <|
        fillR j.size (List.replicate len (j.zero.map .val)) (parts.toList.map fun p => (p.1, evO tm p.2)) fun rows => K (.own hp.length len) ⟨e, j.size, rows.all (Sv.all.allL (fun _ => false)), true, rows⟩
    | _ => False

theorem zeros_eq (zero : List Value) (len : Nat) (h : zero.length ≠ 0) : ((Array.range (len * zero.length)).map (fun i => zero.toArray[i % zero.length]!)).toList = (List.replicate len zero).flatten := by
  rw [Array.toList_map, Array.toList_range]
  induction len with
  | zero => simp
  | succ n ih =>
    rw [Nat.add_mul, Nat.one_mul, Nat.add_comm (n * zero.length) zero.length, List.range_add, List.map_append, List.map_map, List.replicate_succ, List.flatten_cons]
    congr 1
    · apply List.ext_getElem (by simp)
      intro i h1 h2
      simp at h1
      simp [Nat.mod_eq_of_lt h1, List.getElem?_eq_getElem h1]
    · rw [← ih]
      apply List.map_congr_left
      intro i _
      simp [Nat.add_mod_left]

theorem litV_sound {t len : Nat} {parts : Array (Nat × Operand)} {K : Sv → Blk → Prop} (ho : o.op = .buildSlice t len parts) (h : litV G tm hp t len parts K) : ∃ s b, K s b ∧ EStep G.P o tm hp s [b] [] := by
  obtain ⟨i, hi, h⟩ := h
  have ht := G.ok t i hi
  split at h
  case h_2 => exact h.elim
  rename_i e hk
  obtain ⟨j, hj, ⟨h0, h24, hz0, hone⟩, h⟩ := h
  have hje := G.ok e j hj
  rw [List.all_eq_true] at hone
  have hrep : ∀ r ∈ List.replicate len (j.zero.map Sv.val), r.length = j.size := fun r hr => by rw [List.eq_of_mem_replicate hr]; simpa using hz0
  obtain ⟨rs, hK, hrl, hrw, hf⟩ := fillR_sound _ _ _ h hrep
  refine ⟨_, _, hK, estep_new (by rw [ho]; simp) fun w0 M c a hI ha => ?_⟩
  obtain ⟨d, hd, hft⟩ := ht.desc
  rw [hk] at hft
  simp only [TK.fits] at hft
  subst hft
  obtain ⟨z, hz, hzc⟩ := hje.run_zero c.w
  have hrel : RelL (List.replicate len (j.zero.map Sv.val)).flatten c (List.replicate len j.zero).flatten := by
    have : ∀ n, RelL (List.replicate n (j.zero.map Sv.val)).flatten c (List.replicate n j.zero).flatten := by
      intro n
      induction n with
      | zero => simp [RelL]
      | succ n ih => simp only [List.replicate_succ, List.flatten_cons]; exact RelL_append _ (RelL_vals c _ hone) ih
    exact this len
  obtain ⟨us, hus, hul⟩ := hf c _ ((parts.map fun p => (p.1, a.eval p.2)).toList) hrel (by simp) (fun m n s u h1 h2 => by
    simp only [List.getElem?_map, Array.toList_map, Option.map_eq_some_iff] at h1 h2
    obtain ⟨q, hq1, hq2⟩ := h1
    obtain ⟨q', hq1', hq2'⟩ := h2
    rw [hq1] at hq1'
    cases hq1'
    cases hq2
    cases hq2'
    exact ha _ (by rw [ho]; simp only [Op.operands]; simp; exact ⟨q.1, by have := List.mem_of_getElem? hq1; simpa using this⟩))
  have hfl : rs.flatten.length = rs.length * j.size := by
    have : ∀ (rows : List (List Sv)), (∀ r ∈ rows, r.length = j.size) → rows.flatten.length = rows.length * j.size := by
      intro rows
      induction rows with
      | nil => simp
      | cons r rs ih => intro h; simp [ih (fun q hq => h q (by simp [hq])), h r (by simp), Nat.add_mul]; omega
    exact this rs hrw
  have hlen : us.length = rs.length * j.size := by rw [RelL_len _ hul, hfl]
  rw [List.length_replicate] at hrl
  have hzero : ((Array.range (len * j.size)).map (fun i => j.zero.toArray[i % j.zero.toArray.size]!)) = (List.replicate len j.zero).flatten.toArray := by
    apply Array.ext'
    have := zeros_eq j.zero len (by omega)
    rw [hz0] at this
    simpa [hz0] using this
  refine ⟨.slice (some ⟨c.w.heap.size, 0, none⟩) len len, ⟨c.w.heap.size, len, false, j.size⟩, c.w.alloc (.cells us.toArray e), ?_, WGrow.alloc _ _, ⟨rfl, Nat.le_refl _⟩, ?_, ?_⟩
  · simp only [Array.toList_map] at hus
    have hle : ¬ (len * j.size > 2 ^ 24) := by omega
    by_cases hl0 : len * j.size = 0
    · have hln : len = 0 := by rcases Nat.mul_eq_zero.1 hl0 with h | h; exact h; exact absurd h h0
      subst hln
      simp only [List.replicate_zero, List.flatten_nil] at hus
      have hrg : Array.range 0 = #[] := rfl
      simp [execOp, ho, Instr.buildSlice, run_underlying hd, hje.run_sizeOf, newRow, hus, hrg]
    · simp only [execOp, ho, Instr.buildSlice, Sem.run_bind, run_underlying hd, hje.run_sizeOf, Result.andThen_ok, if_neg hle, if_neg hl0, hz, Sem.run_pure, hzc, hzero, Array.toList_map]
      rw [hus]
      simp [newRow]
  · refine BlkRel.new hI hrw ?_ (by omega) (fun _ => ⟨by rw [hlen, hrl]; exact Nat.le_refl _, by omega, ?_⟩)
    · have hul' : RelL rs.flatten (if rs.all (Sv.all.allL (fun _ => false)) then c.shut else c) us := by
        split
        · rename_i hcl
          exact hul.closed (allR_flatten rs hcl)
        · exact hul
      simpa [← hlen] using hul'
    · have : len * 1 ≤ len * j.size := Nat.mul_le_mul_left _ (by omega)
      unfold maxLen
      omega
  · simp only [Rel, putE]
    exact ⟨.inr rfl, .inr ⟨trivial, trivial, Nat.le_refl _⟩⟩
end
end Go.Eng
