/- The engine, second part. -/
import Derived.Test.YtiklbnianbejdaaEng1
import Derived.Laws.MakeOwn
set_option linter.unusedSimpArgs false
set_option maxRecDepth 20000
set_option linter.unusedVariables false
/- The engine, part E: operations that make blocks. -/
namespace Go.Eng
open Go Go.RowKit

def memB (k : Nat) : List Nat → Bool
  | [] => false
  | j :: js => (k == j) || memB k js

def Sv.forget (kl : List Nat) : Sv → Sv
  | .agg cs => .agg (go kl cs)
  | .tup cs => .tup (go kl cs)
  | .clo f cs => .clo f (go kl cs)
  | .ptr k r q => match memB k kl with | true => .any | false => .ptr k r q
  | .own k n => match memB k kl with | true => .any | false => .own k n
  | .sls k l n => match memB k kl with | true => .any | false => .sls k l n
  | s => s
where go (kl : List Nat) : List Sv → List Sv
  | [] => []
  | s :: ss => s.forget kl :: go kl ss

mutual
theorem forget_all (kl : List Nat) : ∀ s : Sv, (s.forget kl).all (fun k => !memB k kl) = true
  | .val _ | .any | .ext _ _ _ | .ref _ _ => by simp [Sv.forget, Sv.all]
  | .ptr k r q => by
    simp only [Sv.forget]
    split <;> simp [Sv.all, *]
  | .own k n => by
    simp only [Sv.forget]
    split <;> simp [Sv.all, *]
  | .sls k l n => by
    simp only [Sv.forget]
    split <;> simp [Sv.all, *]
  | .agg cs => by simp [Sv.forget, Sv.all, forgetL_all kl cs]
  | .tup cs => by simp [Sv.forget, Sv.all, forgetL_all kl cs]
  | .clo _ cs => by simp [Sv.forget, Sv.all, forgetL_all kl cs]
theorem forgetL_all (kl : List Nat) : ∀ cs : List Sv, Sv.all.allL (fun k => !memB k kl) (Sv.forget.go kl cs) = true
  | [] => rfl
  | s :: ss => by simp [Sv.forget.go, Sv.all.allL, forget_all kl s, forgetL_all kl ss]
end

mutual
theorem Rel.forget (kl : List Nat) : ∀ (s : Sv) {c : Cx} {v : Value}, v.oneCell' = true ∨ True → Rel s c v → Rel (s.forget kl) c v
  | .val _, _, _, _, r | .any, _, _, _, r | .ext _ _ _, _, _, _, r | .ref _ _, _, _, _, r => r
  | .ptr k r q, _, _, _, h => by
    simp only [Sv.forget]
    split
    · simp [Rel]
    · exact h
  | .own k n, _, _, _, h => by
    simp only [Sv.forget]
    split
    · simp [Rel]
    · exact h
  | .sls k l n, _, _, _, h => by
    simp only [Sv.forget]
    split
    · simp [Rel]
    · exact h
  | .agg cs, _, _, _, h => by
    simp only [Sv.forget, Rel] at h ⊢
    obtain ⟨vs, e, hl⟩ := h
    exact ⟨vs, e, RelL.forget kl cs hl⟩
  | .tup cs, _, _, _, h => by
    simp only [Sv.forget, Rel] at h ⊢
    obtain ⟨vs, e, hl⟩ := h
    exact ⟨vs, e, RelT.forget kl cs hl⟩
  | .clo f cs, _, _, _, h => by
    simp only [Sv.forget, Rel] at h ⊢
    obtain ⟨vs, e, hl⟩ := h
    exact ⟨vs, e, RelT.forget kl cs hl⟩
theorem RelL.forget (kl : List Nat) : ∀ (cs : List Sv) {c : Cx} {vs : List Value}, RelL cs c vs → RelL (Sv.forget.go kl cs) c vs
  | [], _, _, h => by simpa [Sv.forget.go] using h
  | s :: ss, _, _, h => by
    simp only [Sv.forget.go, RelL] at h ⊢
    obtain ⟨u, us, e, h1, hs, hl⟩ := h
    exact ⟨u, us, e, h1, Rel.forget kl s (.inr trivial) hs, RelL.forget kl ss hl⟩
theorem RelT.forget (kl : List Nat) : ∀ (cs : List Sv) {c : Cx} {vs : List Value}, RelT cs c vs → RelT (Sv.forget.go kl cs) c vs
  | [], _, _, h => by simpa [Sv.forget.go] using h
  | s :: ss, _, _, h => by
    simp only [Sv.forget.go, RelT] at h ⊢
    obtain ⟨u, us, e, hs, hl⟩ := h
    exact ⟨u, us, e, Rel.forget kl s (.inr trivial) hs, RelT.forget kl ss hl⟩
theorem RelC.forget (kl : List Nat) : ∀ (cs : List Sv) {c : Cx} {b off : Nat}, RelC cs c b off → RelC (Sv.forget.go kl cs) c b off
  | [], _, _, _, h => by simpa [Sv.forget.go] using h
  | s :: ss, _, _, _, h => by
    simp only [Sv.forget.go, RelC] at h ⊢
    obtain ⟨⟨u, e, h1, hs⟩, hl⟩ := h
    exact ⟨⟨u, e, h1, Rel.forget kl s (.inr trivial) hs⟩, RelC.forget kl ss hl⟩
end
theorem forgetGo_length (kl : List Nat) : ∀ cs : List Sv, (Sv.forget.go kl cs).length = cs.length
  | [] => rfl
  | s :: ss => by simp [Sv.forget.go, forgetGo_length kl ss]
theorem RelR.forget (kl : List Nat) : ∀ (rs : List (List Sv)) {c : Cx} {wd b off : Nat}, RelR rs c wd b off → RelR (rs.map (Sv.forget.go kl)) c wd b off
  | [], _, _, _, _, h => by simpa using h
  | r :: rs, _, _, _, _, h => by
    simp only [List.map_cons, RelR] at h ⊢
    exact ⟨by rw [forgetGo_length]; exact h.1, RelC.forget kl r h.2.1, RelR.forget kl rs h.2.2⟩

/-- A heap in which nobody names the blocks of kl any more. -/
def Blk.forget (kl : List Nat) (b : Blk) : Blk :=
  match b with
  | ⟨e, wd, true, gr, rows⟩ => ⟨e, wd, true, gr, rows⟩
  | ⟨e, wd, false, gr, rows⟩ => ⟨e, wd, false, gr, rows.map (Sv.forget.go kl)⟩
theorem Blk.forget_def (kl : List Nat) (b : Blk) : b.forget kl = match b.clean with
    | true => b
    | false => { b with rows := b.rows.map (Sv.forget.go kl) } := by
  cases b with
  | mk e wd cl gr rows => cases cl <;> rfl

def killH (kl : List Nat) (i : Nat) : Hp → Hp
  | [] => []
  | b :: bs => (match memB i kl, b with
    | false, some b => some (b.forget kl)
    | _, _ => none) :: killH kl (i + 1) bs

def kill (kl : List Nat) (hp : Hp) : Hp :=
  match kl with
  | [] => hp
  | _ => killH kl 0 hp

def forgetT (kl : List Nat) (tm : List Sv) : List Sv :=
  match kl with
  | [] => tm
  | _ => Sv.forget.go kl tm

theorem killH_get (kl : List Nat) : ∀ (hp : Hp) (i k : Nat) (b : Blk), hp[k]? = some (some b) → memB (i + k) kl = false → (killH kl i hp)[k]? = some (some (b.forget kl))
  | [], _, _, _, h, _ => by simp at h
  | x :: xs, i, 0, b, h, hm => by
    simp at h hm
    subst h
    simp [killH, hm]
  | x :: xs, i, k + 1, b, h, hm => by
    simp only [killH, List.getElem?_cons_succ] at h ⊢
    exact killH_get kl xs (i + 1) k b h (by rw [show i + 1 + k = i + (k + 1) by omega]; exact hm)
theorem killH_length (kl : List Nat) : ∀ (hp : Hp) (i : Nat), (killH kl i hp).length = hp.length
  | [], _ => rfl
  | x :: xs, i => by simp [killH, killH_length kl xs]
theorem killH_some (kl : List Nat) : ∀ (hp : Hp) (i k : Nat) (b : Blk), (killH kl i hp)[k]? = some (some b) → memB (i + k) kl = false ∧ ∃ b0, hp[k]? = some (some b0) ∧ b = b0.forget kl
  | [], _, _, _, h => by simp [killH] at h
  | x :: xs, i, 0, b, h => by
    simp only [killH, List.getElem?_cons_zero, Option.some.injEq] at h
    cases hm : memB i kl <;> cases x <;> simp [hm] at h
    exact ⟨by simp [hm], _, rfl, h.symm⟩
  | x :: xs, i, k + 1, b, h => by
    simp only [killH, List.getElem?_cons_succ] at h ⊢
    have := killH_some kl xs (i + 1) k b h
    rwa [show i + 1 + k = i + (k + 1) by omega] at this

theorem BlkRel.forget {c : Cx} {k : Nat} {b : Blk} (kl : List Nat) (h : BlkRel c k b) : BlkRel c k (b.forget kl) := by
  rw [Blk.forget_def]
  cases hc : b.clean with
  | true => exact h
  | false =>
    unfold BlkRel at *
    refine ⟨h.1, fun hn => ?_, fun hn => ?_⟩
    · rcases h.2.1 hn with ⟨a, e⟩ | ⟨_, e, _⟩
      · exact .inl ⟨a, by simp [e]⟩
      · rw [hc] at e; cases e
    · obtain ⟨arr, hh, hr, hl, hg⟩ := h.2.2 hn
      refine ⟨arr, hh, ?_, by simpa using hl, by simpa using hg⟩
      simp only [Blk.cx, hc] at hr ⊢
      exact RelR.forget kl _ hr

theorem Blk.forget_all (kl : List Nat) (b : Blk) : (b.forget kl).clean = false → (b.forget kl).rows.all (Sv.all.allL (fun k => !memB k kl)) = true := by
  rw [Blk.forget_def]
  cases hc : b.clean with
  | true => intro h; simp [hc] at h
  | false =>
    intro _
    simp only [List.all_map, List.all_eq_true]
    intro r _
    exact forgetL_all kl r

theorem kill_length (kl : List Nat) (hp : Hp) : (kill kl hp).length = hp.length := by
  unfold kill
  cases kl with
  | nil => rfl
  | cons j js => exact killH_length _ _ _

/-- Blocks let go: they are known no more, and nobody names them. -/
theorem Inv.kill {w0 : World} {M : Frm} {c : Cx} {hp : Hp} (h : Inv w0 M c hp) (kl : List Nat) :
    Inv w0 M { c with D := fun k => c.D k ∧ memB k kl = false } (kill kl hp) ∧ c.Le (fun k => !memB k kl) { c with D := fun k => c.D k ∧ memB k kl = false } := by
  have hle : c.Le (fun k => !memB k kl) { c with D := fun k => c.D k ∧ memB k kl = false } := ⟨fun k hk hd => ⟨⟨hd, by simpa using hk⟩, rfl⟩, fun _ h => h, fun _ _ h => h, fun _ _ => rfl⟩
  refine ⟨?_, hle⟩
  have hg : ∀ k, c.D k ∧ memB k kl = false → ∃ blk, (Go.Eng.kill kl hp)[k]? = some (some blk) ∧ BlkRel { c with D := fun k => c.D k ∧ memB k kl = false } k blk := by
    rintro k ⟨hk, hm⟩
    obtain ⟨blk, e, r⟩ := h.dom k hk
    cases kl with
    | nil => exact ⟨blk, e, r.le hle rfl (fun _ => rfl) (fun _ => by
        have : (fun k => !memB k []) = (fun _ => true) := by funext k; simp [memB]
        rw [this]; exact allR_true _)⟩
    | cons j js => exact ⟨_, killH_get _ hp 0 k blk e (by simpa using hm), (r.forget (j :: js)).le hle rfl (fun _ => rfl) (Blk.forget_all _ _)⟩
  exact {
    dom := hg
    inj := fun k k' hk hk' => h.inj k k' hk.1 hk'.1
    xsep := fun k b hk => h.xsep k b hk.1
    xlt := h.xlt
    xY := h.xY
    bnd := h.bnd
    bndG := h.bndG
    e0 := fun k hk hd => h.e0 k hk hd.1
    mlen := by rw [kill_length]; exact h.mlen
    os := h.os
    tape := h.tape
    output := h.output
    size := h.size
    keep := h.keep
    loc := fun k hk => h.loc k hk.1
    x0 := h.x0
    zc := h.zc
    z0 := h.z0
    xk := h.xk
    ca := h.ca
    cc := fun b hb => ⟨(h.cc b hb).1, fun k hk => (h.cc b hb).2.1 k hk.1, (h.cc b hb).2.2⟩
    gh := fun k blk hk hb hn hgr => by
      obtain ⟨b0, e0, r0⟩ := h.dom k hk.1
      have hbb : blk = b0 := by
        cases kl with
        | nil =>
          rw [show Go.Eng.kill [] hp = hp from rfl, e0] at hb
          cases hb
          rfl
        | cons j js =>
          rw [show Go.Eng.kill (j :: js) hp = killH (j :: js) 0 hp from rfl, killH_get _ hp 0 k b0 e0 (by simpa using hk.2)] at hb
          cases hb
          rw [Blk.forget_def] at hgr ⊢
          rcases r0.2.1 hn with ⟨h1, _⟩ | ⟨_, h1, _⟩
          · split at hgr
            all_goals exact absurd hgr (by simp [h1])
          · simp only [h1]
      subst hbb
      exact h.gh k blk hk.1 e0 hn hgr }

theorem forgetT_all (kl : List Nat) (tm : List Sv) (t : Nat) : (tmGet (forgetT kl tm) t).all (fun k => !memB k kl) = true := by
  unfold tmGet
  rw [nth_eq]
  cases kl with
  | nil =>
    have : (fun k => !memB k []) = (fun _ => true) := by funext k; simp [memB]
    rw [this]; exact Sv.all_true _
  | cons j js =>
    simp only [forgetT]
    have : ∀ (tm : List Sv) (t : Nat), (match (Sv.forget.go (j :: js) tm)[t]? with | some s => s | none => Sv.any).all (fun k => !memB k (j :: js)) = true := by
      intro tm
      induction tm with
      | nil => intro t; simp [Sv.forget.go, Sv.all]
      | cons s ss ih =>
        intro t
        cases t with
        | zero => simp [Sv.forget.go, Go.Eng.forget_all]
        | succ t => simpa [Sv.forget.go] using ih t
    exact this tm t

theorem tmGet_forget (kl : List Nat) (tm : List Sv) (t : Nat) {c : Cx} {v : Value} (h : Rel (tmGet tm t) c v) : Rel (tmGet (forgetT kl tm) t) c v := by
  cases kl with
  | nil => exact h
  | cons j js =>
    simp only [forgetT]
    unfold tmGet at *
    rw [nth_eq] at *
    have : ∀ (tm : List Sv) (t : Nat), Rel (match tm[t]? with | some s => s | none => Sv.any) c v → Rel (match (Sv.forget.go (j :: js) tm)[t]? with | some s => s | none => Sv.any) c v := by
      intro tm
      induction tm with
      | nil => intro t _; simp [Sv.forget.go, Rel]
      | cons s ss ih =>
        intro t h
        cases t with
        | zero => simp [Sv.forget.go] at h ⊢; exact Rel.forget _ s (.inr trivial) h
        | succ t => simp [Sv.forget.go] at h ⊢; exact ih t h
    exact this tm t h

/-! ### What an operation that makes blocks leaves -/
structure EPost (w0 : World) (M : Frm) (c c' : Cx) (hp : Hp) (nb : List Blk) (kl : List Nat) : Prop where
  inv : Inv w0 M c' (kill kl hp ++ nb.map some)
  le : c.Le (fun k => !memB k kl) c'
  dom : ∀ k, c'.D k ↔ (c.D k ∧ memB k kl = false) ∨ (hp.length ≤ k ∧ k < hp.length + nb.length)
  keep : ∀ j, j < c.w.heap.size → (∀ k, c.D k → memB k kl = true → (c.E k).nil = false → (c.E k).b ≠ j) → c'.w.heap[j]? = c.w.heap[j]?
  xdom : ∀ b, c'.X b → c.X b ∨ c.w.heap.size ≤ b
  size : c.w.heap.size ≤ c'.w.heap.size
  fresh : ∀ k, hp.length ≤ k → c'.D k → (c'.E k).nil = false → c.w.heap.size ≤ (c'.E k).b ∨ ∃ k0, c.D k0 ∧ memB k0 kl = true ∧ (c.E k0).nil = false ∧ (c.E k0).b = (c'.E k).b
  cA : c'.A = c.A
  cC : c'.C = c.C
  cZ : c'.Z = c.Z
  nnil : ∀ (j : Nat) (b : Blk), nb[j]? = some b → (c'.E (hp.length + j)).nil = true → b.grow = true

/-- A fence that lets everything in. -/
structure Open (F : Fence) : Prop where
  fn : ∀ f, F.fn f
  depth : F.depth = none
  alive : F.alive = false

theorem Open.fenced {F : Fence} (hF : Open F) (P : Program) (m : Machine) : m.fenced P F :=
  fun _ _ => ⟨fun h => (by rw [hF.alive] at h; cases h), .inl (hF.fn _), fun f _ => hF.fn f, fun d hd => (by rw [hF.depth] at hd; cases hd)⟩
theorem Open.room {F : Fence} (hF : Open F) (n : Nat) : F.room n := fun d hd => by rw [hF.depth] at hd; cases hd
theorem Open.comes {F : Fence} (hF : Open F) {P : Program} {m m' : Machine} {e : Ending} (h : Comes P m m' e) : ComesIn (Machine.fenced P F) P m m' e := by
  cases e with
  | returned v => exact (StepsIn.of_steps h).mono fun m _ => hF.fenced P m
  | panicked c => exact (StepsIn.of_steps h).mono fun m _ => hF.fenced P m
  | outgrown => exact h
theorem Open.callsIn {F : Fence} (hF : Open F) {n : Nat} {P : Program} {f : FuncId} {args : Array Value} {w : World} {R : Ending → World → Prop} (h : Calls P f args w R) : CallsIn F n P f args w R :=
  ⟨hF.fn f, fun cs _ => let ⟨e, w', fr, r, s, x⟩ := h cs; ⟨e, w', fr, r, hF.comes s, x⟩⟩
theorem open_wide : Open Fence.wide := ⟨fun _ => trivial, rfl, rfl⟩

def EStep (P : Program) (o : Oper) (tm : List Sv) (hp : Hp) (s : Sv) (nb : List Blk) (kl : List Nat) : Prop :=
  ∀ (F : Fence) (n : Nat) (w0 : World) (M : Frm) (c : Cx) (a : Act) (next : Act → World → Prop) (Q : Exit → Act → World → Prop), Open F → Inv w0 M c hp → (∀ x ∈ o.op.operands, Rel (evO tm x) c (a.eval x)) →
    (∀ v c', EPost w0 M c c' hp nb kl → Rel s c' v → next (a.put o.dst v) c'.w) → o.wpIn F n P a c.w next Q

theorem Oper.wpIn_value {F : Fence} (hF : Open F) {n : Nat} {P : Program} {o : Oper} {a : Act} {w w' : World} {next : Act → World → Prop} {Q : Exit → Act → World → Prop} {v : Value}
    (hd : ∀ c, o.op ≠ .defer c) (hr : (execOp a.eval o).run P w = .ok (.value v) w') (h : next (a.put o.dst v) w') : o.wpIn F n P a w next Q := by
  refine ⟨fun f _ => hF.fn f, ?_⟩
  rw [Oper.semAt_eq _ _ _ hd, hr]
  exact h

theorem memB_nil (k : Nat) : memB k [] = false := rfl
theorem notNil : (fun k => !memB k []) = (fun _ : Nat => true) := by funext k; simp [memB]

section
variable {G : Gm} {tm : List Sv} {hp : Hp} {o : Oper}

theorem PureS.estep {P : Program} {s : Sv} (hd : ∀ c, o.op ≠ .defer c) (h : PureS P o tm hp s) : EStep P o tm hp s [] [] := by
  intro F n w0 M c a next Q hF hI ha hn
  obtain ⟨v, hr, hs⟩ := h w0 M c a hI ha
  refine Oper.wpIn_value hF hd hr (hn v c ?_ hs)
  exact {
    inv := by simpa [kill] using hI
    le := ⟨fun _ _ h => ⟨h, rfl⟩, fun _ h => h, fun _ _ h => h, fun _ _ => rfl⟩
    dom := fun k => by simp [memB]; omega
    keep := fun _ _ _ => rfl
    xdom := fun _ h => .inl h
    size := Nat.le_refl _
    fresh := fun k hk hD _ => by
      obtain ⟨blk, e, _⟩ := hI.dom k hD
      rw [List.getElem?_eq_none hk] at e
      cases e
    cA := rfl
    cC := rfl
    cZ := rfl
    nnil := fun j b h => by simp at h }

/-- An operation that makes one block. -/
theorem estep_new {P : Program} {s : Sv} {blk : Blk} (hd : ∀ c, o.op ≠ .defer c)
    (h : ∀ (w0 : World) (M : Frm) (c : Cx) (a : Act), Inv w0 M c hp → (∀ x ∈ o.op.operands, Rel (evO tm x) c (a.eval x)) →
      ∃ v l w', (execOp a.eval o).run P c.w = .ok (.value v) w' ∧ WGrow c.w w' ∧ (l.nil = false ∧ c.w.heap.size ≤ l.b) ∧ BlkRel (c.put hp.length l w') hp.length blk ∧ Rel s (c.put hp.length l w') v) :
    EStep P o tm hp s [blk] [] := by
  intro F n w0 M c a next Q hF hI ha hn
  obtain ⟨v, l, w', hr, hg, hl, hb, hs⟩ := h w0 M c a hI ha
  have hnD : ¬ c.D hp.length := fun hD => by
    obtain ⟨blk, e, _⟩ := hI.dom _ hD
    simp at e
  have hlt : ∀ k, c.D k → k < hp.length := fun k hD => by
    obtain ⟨blk, e, _⟩ := hI.dom _ hD
    exact (List.getElem?_eq_some_iff.1 e).1
  refine Oper.wpIn_value hF hd hr (hn v (c.put hp.length l w') ?_ hs)
  exact {
    inv := by
      have := hI.new (hp' := hp ++ [some blk]) hnD hI.mlen (fun k hk => List.getElem?_append_left (hlt k hk)) (by simp) hg (fun _ => hl.2) hb (fun e => by rw [hl.1] at e; cases e)
      simpa [kill] using this
    le := by rw [notNil]; exact Cx.Le.put hnD fun b hx => hg.block b (hI.xlt b hx)
    dom := fun k => by simp [memB, Cx.put]; constructor <;> (rintro (h | h) <;> first | (exact .inl h) | (right; omega))
    keep := fun j hj _ => hg.block j hj
    xdom := fun _ h => .inl h
    size := hg.size
    fresh := fun k hk hD hn => by
      have : k = hp.length := by
        rcases hD with hD | hD
        · have := hlt k hD; omega
        · exact hD
      subst this
      simp only [Cx.put, upd_same] at hn ⊢
      exact .inl hl.2
    cA := rfl
    cC := rfl
    cZ := rfl
    nnil := fun j b h hn => by
      cases j with
      | zero => simp only [Cx.put, Nat.add_zero, upd_same] at hn; rw [hl.1] at hn; cases hn
      | succ j => simp at h }

theorem putE {c : Cx} {n : Nat} {l : Loc} {w : World} : (c.put n l w).E n = l := upd_same _ _ _

theorem Inv.notD {w0 : World} {M : Frm} {c : Cx} {hp : Hp} (hI : Inv w0 M c hp) : ¬ c.D hp.length := fun hD => by
  obtain ⟨blk, e, _⟩ := hI.dom _ hD
  simp at e

theorem Inv.put_le {w0 : World} {M : Frm} {c : Cx} {hp : Hp} (hI : Inv w0 M c hp) {l : Loc} {w : World} (hg : WGrow c.w w) : c.Le (fun _ => true) (c.put hp.length l w) :=
  Cx.Le.put hI.notD fun b hx => hg.block b (hI.xlt b hx)

theorem cell_new (w : World) (vs : List Value) (e j : Nat) (u : Value) (h : vs[j]? = some u) : (w.alloc (.cells vs.toArray e)).cell? ⟨w.heap.size, 0 + j, none⟩ = some u := by
  rw [World.cell?_alloc_new]
  simpa using h

/-- The relation of a block that has just been laid. -/
theorem BlkRel.new {w0 : World} {M : Frm} {c : Cx} {hp : Hp} (hI : Inv w0 M c hp) {e wd : Nat} {clean grow : Bool} {rows : List (List Sv)} {vs : List Value} {cap : Nat}
    (hw : ∀ r ∈ rows, r.length = wd) (hl : RelL rows.flatten (if clean then c.shut else c) (vs.take (rows.length * wd))) (hn : rows.length * wd ≤ vs.length) (hgrow : grow = true → cap * wd ≤ vs.length ∧ rows.length ≤ cap ∧ cap ≤ maxLen) :
    BlkRel (c.put hp.length ⟨c.w.heap.size, cap, false, wd⟩ (c.w.alloc (.cells vs.toArray e))) hp.length ⟨e, wd, clean, grow, rows⟩ := by
  have hg := WGrow.alloc c.w (.cells vs.toArray e)
  have hle := hI.put_le (l := ⟨c.w.heap.size, cap, false, wd⟩) hg
  unfold BlkRel
  rw [putE]
  refine ⟨rfl, (fun h => by cases h), fun _ => ⟨vs.toArray, heap_alloc_new _ _, ?_, by simpa using hn, fun h => by simpa using hgrow h⟩⟩
  refine RelR_of_vals rows (vs := vs.take (rows.length * wd)) hw ?_ fun j u hj => ?_
  · unfold Blk.cx
    cases clean with
    | true => exact RelL.le _ (allL_true _) hle.shut hl
    | false => exact RelL.le _ (allL_true _) hle hl
  · rw [Blk.cx_w]
    refine cell_new _ _ _ _ _ ?_
    rw [List.getElem?_take] at hj
    split at hj
    · exact hj
    · cases hj

/-! ### A variable, a parameter in memory -/
def allocV (G : Gm) (hp : Hp) (e : Nat) (K : Sv → Blk → Prop) : Prop :=
  Get (G.tab e) fun i => Need (i.zero.all Value.oneCell' = true) <| K (.ptr hp.length 0 0) ⟨e, i.zero.length, true, false, [i.zero.map .val]⟩

theorem allocV_sound {e : Nat} {K : Sv → Blk → Prop} (ho : o.op = .alloc e) (h : allocV G hp e K) : ∃ s b, K s b ∧ EStep G.P o tm hp s [b] [] := by
  obtain ⟨i, hi, hone, h⟩ := h
  refine ⟨_, _, h, estep_new (by rw [ho]; simp) fun w0 M c a hI ha => ?_⟩
  obtain ⟨z, hz, hzc⟩ := (G.ok e i hi).run_zero c.w
  rw [List.all_eq_true] at hone
  refine ⟨.pointer (some ⟨c.w.heap.size, 0, none⟩), ⟨c.w.heap.size, 0, false, i.zero.length⟩, c.w.alloc (.cells i.zero.toArray e), ?_, WGrow.alloc _ _, ⟨rfl, Nat.le_refl _⟩, ?_, ?_⟩
  · simp [execOp, ho, Instr.alloc, hz, newVar, newRow, hzc]
  · refine BlkRel.new hI (by simp) ?_ (by simp) (by simp)
    simpa using RelL_vals c.shut i.zero hone
  · simp only [Rel, putE]
    exact ⟨.inr rfl, trivial, by simp⟩

def boxV (hp : Hp) (e : Nat) (x : Sv) (K : Sv → Blk → Prop) : Prop :=
  Get x.parts fun cs => K (.ptr hp.length 0 0) ⟨e, cs.length, false, false, [cs]⟩

theorem boxV_sound {e : Nat} {x : Operand} {K : Sv → Blk → Prop} (ho : o.op = .box e x) (h : boxV hp e (evO tm x) K) : ∃ s b, K s b ∧ EStep G.P o tm hp s [b] [] := by
  obtain ⟨cs, hcs, h⟩ := h
  refine ⟨_, _, h, estep_new (by rw [ho]; simp) fun w0 M c a hI ha => ?_⟩
  have r := ha x (by rw [ho]; simp [Op.operands])
  obtain ⟨vs, hv, hl⟩ := r.parts hcs
  have hlen := RelL_len _ hl
  refine ⟨.pointer (some ⟨c.w.heap.size, 0, none⟩), ⟨c.w.heap.size, 0, false, cs.length⟩, c.w.alloc (.cells vs.toArray e), ?_, WGrow.alloc _ _, ⟨rfl, Nat.le_refl _⟩, ?_, ?_⟩
  · simp [execOp, ho, Instr.box, newVar, newRow, hv]
  · refine BlkRel.new hI (by simp) ?_ (by simp [hlen]) (by simp)
    simp [← hlen, List.take_length]
    exact hl
  · simp only [Rel, putE]
    exact ⟨.inr rfl, trivial, by simp⟩

theorem Cx.le_shut (c : Cx) : c.Le (fun _ => false) c.shut := ⟨fun _ h => (by cases h), fun _ h => h, fun _ _ h => h, fun _ _ => rfl⟩
theorem RelL.closed {cs : List Sv} {c : Cx} {vs : List Value} (r : RelL cs c vs) (h : Sv.all.allL (fun _ => false) cs = true) : RelL cs c.shut vs := RelL.le cs h c.le_shut r
theorem allL_append (p : Nat → Bool) : ∀ (a b : List Sv), Sv.all.allL p (a ++ b) = (Sv.all.allL p a && Sv.all.allL p b)
  | [], b => by simp [Sv.all.allL]
  | s :: ss, b => by simp [Sv.all.allL, allL_append p ss b, Bool.and_assoc]
theorem allR_flatten {p : Nat → Bool} : ∀ (rs : List (List Sv)), rs.all (Sv.all.allL p) = true → Sv.all.allL p rs.flatten = true
  | [], _ => rfl
  | r :: rs, h => by
    simp only [List.all_cons, Bool.and_eq_true] at h
    simp [allL_append, h.1, allR_flatten rs h.2]

/-! ### A slice written out -/
def fillR (size : Nat) : List (List Sv) → List (Nat × Sv) → (List (List Sv) → Prop) → Prop
  | rows, [], K => K rows
  | rows, (i, x) :: rest, K => Get x.parts fun xs => Need (xs.length = size ∧ i < rows.length) (fillR size (rows.set i xs) rest K)

theorem flatten_set {size : Nat} : ∀ (rows : List (List Sv)) (i : Nat) (xs : List Sv), (∀ r ∈ rows, r.length = size) → xs.length = size → i < rows.length →
    (rows.set i xs).flatten = putL rows.flatten (i * size) xs
  | [], _, _, _, _, h => by simp at h
  | r :: rs, 0, xs, hw, hx, _ => by
    have := hw r (by simp)
    simp [putL, hx, ← this]
  | r :: rs, i + 1, xs, hw, hx, hi => by
    have hr := hw r (by simp)
    have ih := flatten_set rs i xs (fun q hq => hw q (by simp [hq])) hx (by simpa using hi)
    simp only [List.set_cons_succ, List.flatten_cons, ih, putL]
    rw [show (i + 1) * size = r.length + i * size by rw [hr, Nat.add_mul]; omega]
    have h1 : (r ++ rs.flatten).take (r.length + i * size) = r ++ rs.flatten.take (i * size) := by
      rw [List.take_append, List.take_of_length_le (by omega)]
      congr 2
      omega
    have h2 : (r ++ rs.flatten).drop (r.length + i * size + xs.length) = rs.flatten.drop (i * size + xs.length) := by
      rw [Nat.add_assoc, List.drop_append]
      simp
    rw [h1, h2]
    simp

theorem fillR_sound {size : Nat} : ∀ (parts : List (Nat × Sv)) (rows : List (List Sv)) (K : List (List Sv) → Prop), fillR size rows parts K → (∀ r ∈ rows, r.length = size) → ∃ rs, K rs ∧ rs.length = rows.length ∧ (∀ r ∈ rs, r.length = size) ∧
      ∀ (c : Cx) (vs : List Value) (vparts : List (Nat × Value)), RelL rows.flatten c vs → vparts.map (·.1) = parts.map (·.1) → (∀ (i n : Nat) (s : Sv) (u : Value), parts[i]? = some (n, s) → vparts[i]? = some (n, u) → Rel s c u) →
      ∃ us : List Value, Instr.fill (fun i => some (i * size, size)) vs.toArray vparts = some us.toArray ∧ RelL rs.flatten c us
  | [], rows, K, h, hw => ⟨rows, h, rfl, hw, fun c vs vparts hv hm _ => by
      have : vparts = [] := by simpa using hm
      subst this
      exact ⟨vs, rfl, hv⟩⟩
  | (i, x) :: rest, rows, K, h, hw => by
    obtain ⟨xs, hx, ⟨hl, hb⟩, h⟩ := h
    have hw' : ∀ r ∈ rows.set i xs, r.length = size := fun r hr => by
      rcases List.mem_or_eq_of_mem_set hr with h | rfl
      · exact hw r h
      · exact hl
    obtain ⟨rs, hK, hrl, hrw, ih⟩ := fillR_sound rest _ K h hw'
    refine ⟨rs, hK, by simpa using hrl, hrw, fun c vs vparts hv hm hr => ?_⟩
    cases vparts with
    | nil => simp at hm
    | cons q vrest =>
      obtain ⟨n, u⟩ := q
      simp only [List.map_cons, List.cons.injEq] at hm
      obtain ⟨rfl, hm⟩ := hm
      have hu := hr 0 n x u rfl rfl
      obtain ⟨us, hus, hul⟩ := hu.parts hx
      have hlu := RelL_len _ hul
      have hlv := RelL_len _ hv
      have hfl : rows.flatten.length = rows.length * size := by
        have : ∀ (rows : List (List Sv)), (∀ r ∈ rows, r.length = size) → rows.flatten.length = rows.length * size := by
          intro rows
          induction rows with
          | nil => simp
          | cons r rs ih => intro h; simp [ih (fun q hq => h q (by simp [hq])), h r (by simp), Nat.add_mul]; omega
        exact this rows hw
      have hbd : n * size + us.length ≤ vs.length := by
        rw [hlv, hfl, hlu, hl]
        have := Nat.mul_le_mul_right size (show n + 1 ≤ rows.length from hb)
        rw [Nat.add_mul] at this
        omega
      obtain ⟨ws, hw2, hwl⟩ := ih c (putL vs (n * size) us) vrest (by rw [flatten_set rows n xs hw hl hb]; exact RelL_put hv hul _) hm (fun i n s u h1 h2 => hr (i + 1) n s u h1 h2)
      refine ⟨ws, ?_, hwl⟩
      simp only [Instr.fill, hus]
      rw [if_neg (by simp; omega)]
      have := fold_set us (n * size) 0 vs.toArray (by simpa using hbd)
      rw [← hw2]
      congr 1
      apply Array.ext'
      simpa using this

def litV (G : Gm) (tm : List Sv) (hp : Hp) (t len : Nat) (parts : Array (Nat × Operand)) (K : Sv → Blk → Prop) : Prop :=
  Get (G.tab t) fun i => match i.kind with
    | .slice e => Get (G.tab e) fun j => Need (j.size ≠ 0 ∧ len * j.size ≤ 2 ^ 24 ∧ j.zero.length = j.size ∧ j.zero.all Value.oneCell' = true) <|
        fillR j.size (List.replicate len (j.zero.map .val)) (parts.toList.map fun p => (p.1, evO tm p.2)) fun rows => K (.own hp.length len) ⟨e, j.size, rows.all (Sv.all.allL (fun _ => false)), true, rows⟩
    | _ => False

theorem zeros_eq (zero : List Value) (len : Nat) (h : zero.length ≠ 0) : ((Array.range (len * zero.length)).map (fun i => zero.toArray[i % zero.length]!)).toList = (List.replicate len zero).flatten := by
  rw [Array.toList_map, Array.toList_range]
  induction len with
  | zero => simp
  | succ n ih =>
    rw [Nat.add_mul, Nat.one_mul, Nat.add_comm (n * zero.length) zero.length, List.range_add, List.map_append, List.map_map, List.replicate_succ, List.flatten_cons]
    congr 1
    · apply List.ext_getElem (by simp)
      intro i h1 h2
      simp at h1
      simp [Nat.mod_eq_of_lt h1, List.getElem?_eq_getElem h1]
    · rw [← ih]
      apply List.map_congr_left
      intro i _
      simp [Nat.add_mod_left]

theorem litV_sound {t len : Nat} {parts : Array (Nat × Operand)} {K : Sv → Blk → Prop} (ho : o.op = .buildSlice t len parts) (h : litV G tm hp t len parts K) : ∃ s b, K s b ∧ EStep G.P o tm hp s [b] [] := by
  obtain ⟨i, hi, h⟩ := h
  have ht := G.ok t i hi
  split at h
  case h_2 => exact h.elim
  rename_i e hk
  obtain ⟨j, hj, ⟨h0, h24, hz0, hone⟩, h⟩ := h
  have hje := G.ok e j hj
  rw [List.all_eq_true] at hone
  have hrep : ∀ r ∈ List.replicate len (j.zero.map Sv.val), r.length = j.size := fun r hr => by rw [List.eq_of_mem_replicate hr]; simpa using hz0
  obtain ⟨rs, hK, hrl, hrw, hf⟩ := fillR_sound _ _ _ h hrep
  refine ⟨_, _, hK, estep_new (by rw [ho]; simp) fun w0 M c a hI ha => ?_⟩
  obtain ⟨d, hd, hft⟩ := ht.desc
  rw [hk] at hft
  simp only [TK.fits] at hft
  subst hft
  obtain ⟨z, hz, hzc⟩ := hje.run_zero c.w
  have hrel : RelL (List.replicate len (j.zero.map Sv.val)).flatten c (List.replicate len j.zero).flatten := by
    have : ∀ n, RelL (List.replicate n (j.zero.map Sv.val)).flatten c (List.replicate n j.zero).flatten := by
      intro n
      induction n with
      | zero => simp [RelL]
      | succ n ih => simp only [List.replicate_succ, List.flatten_cons]; exact RelL_append _ (RelL_vals c _ hone) ih
    exact this len
  obtain ⟨us, hus, hul⟩ := hf c _ ((parts.map fun p => (p.1, a.eval p.2)).toList) hrel (by simp) (fun m n s u h1 h2 => by
    simp only [List.getElem?_map, Array.toList_map, Option.map_eq_some_iff] at h1 h2
    obtain ⟨q, hq1, hq2⟩ := h1
    obtain ⟨q', hq1', hq2'⟩ := h2
    rw [hq1] at hq1'
    cases hq1'
    cases hq2
    cases hq2'
    exact ha _ (by rw [ho]; simp only [Op.operands]; simp; exact ⟨q.1, by have := List.mem_of_getElem? hq1; simpa using this⟩))
  have hfl : rs.flatten.length = rs.length * j.size := by
    have : ∀ (rows : List (List Sv)), (∀ r ∈ rows, r.length = j.size) → rows.flatten.length = rows.length * j.size := by
      intro rows
      induction rows with
      | nil => simp
      | cons r rs ih => intro h; simp [ih (fun q hq => h q (by simp [hq])), h r (by simp), Nat.add_mul]; omega
    exact this rs hrw
  have hlen : us.length = rs.length * j.size := by rw [RelL_len _ hul, hfl]
  rw [List.length_replicate] at hrl
  have hzero : ((Array.range (len * j.size)).map (fun i => j.zero.toArray[i % j.zero.toArray.size]!)) = (List.replicate len j.zero).flatten.toArray := by
    apply Array.ext'
    have := zeros_eq j.zero len (by omega)
    rw [hz0] at this
    simpa [hz0] using this
  refine ⟨.slice (some ⟨c.w.heap.size, 0, none⟩) len len, ⟨c.w.heap.size, len, false, j.size⟩, c.w.alloc (.cells us.toArray e), ?_, WGrow.alloc _ _, ⟨rfl, Nat.le_refl _⟩, ?_, ?_⟩
  · simp only [Array.toList_map] at hus
    have hle : ¬ (len * j.size > 2 ^ 24) := by omega
    by_cases hl0 : len * j.size = 0
    · have hln : len = 0 := by rcases Nat.mul_eq_zero.1 hl0 with h | h; exact h; exact absurd h h0
      subst hln
      simp only [List.replicate_zero, List.flatten_nil] at hus
      have hrg : Array.range 0 = #[] := rfl
      simp [execOp, ho, Instr.buildSlice, run_underlying hd, hje.run_sizeOf, newRow, hus, hrg]
    · simp only [execOp, ho, Instr.buildSlice, Sem.run_bind, run_underlying hd, hje.run_sizeOf, Result.andThen_ok, if_neg hle, if_neg hl0, hz, Sem.run_pure, hzc, hzero, Array.toList_map]
      rw [hus]
      simp [newRow]
  · refine BlkRel.new hI hrw ?_ (by omega) (fun _ => ⟨by rw [hlen, hrl]; exact Nat.le_refl _, by omega, ?_⟩)
    · have hul' : RelL rs.flatten (if rs.all (Sv.all.allL (fun _ => false)) then c.shut else c) us := by
        split
        · rename_i hcl
          exact hul.closed (allR_flatten rs hcl)
        · exact hul
      simpa [← hlen] using hul'
    · have : len * 1 ≤ len * j.size := Nat.mul_le_mul_left _ (by omega)
      unfold maxLen
      omega
  · simp only [Rel, putE]
    exact ⟨.inr rfl, .inr ⟨trivial, trivial, Nat.le_refl _⟩⟩
end
end Go.Eng

/- The engine, part F: append. -/
namespace Go.Eng
open Go Go.RowKit

/-- What append comes to: a slice that is nil or owns the first cells of its block; whatever source. -/
theorem run_app {P : Program} (w : World) (t ty e : Nat) (i : TypeInfo) (z : Value) (size bytes : Nat) (ht : P.underlying t = some (.slice e)) (hi : P.info? e = some i) (hz : i.zero = some z)
    (hsize : i.size = size) (hby : i.bytes = bytes) (hzs : z.cells.size = size)
    (v : Value) (n : Nat) (olds : List Value) (ho : olds.length = n * size)
    (hv : (v = .slice none 0 0 ∧ n = 0) ∨ ∃ g cap cur, v = .slice (some ⟨g, 0, none⟩) n cap ∧ w.heap[g]? = some (.cells cur e (0, 0)) ∧ n ≤ cap ∧ cap ≤ maxLen ∧ cap * size ≤ cur.size ∧ cur.toList.take (n * size) = olds)
    (A : Option Addr) (m c : Nat) (news : List Value) (hl : news.length = m * size) (hnews : m = 0 ∨ ∃ b off, A = some ⟨b, off, none⟩ ∧ ∀ j u, news[j]? = some u → w.cell? ⟨b, off + j, none⟩ = some u) (h1 : ∀ u ∈ news, u.oneCell' = true)
    (h63 : n + m ≤ maxLen) (hbytes : (n + m) * bytes ≤ 140737488355328) :
    ∃ v' w', (Builtin.append_ #[t, t] ty #[v, .slice A m c]).run P w = .ok v' w' ∧
      ((v = .slice none 0 0 ∧ m = 0 ∧ v' = .slice none 0 0 ∧ w' = w) ∨
       (∃ g cap cur, v = .slice (some ⟨g, 0, none⟩) n cap ∧ w.heap[g]? = some (.cells cur e (0, 0)) ∧ n + m ≤ cap ∧ v' = .slice (some ⟨g, 0, none⟩) (n + m) cap ∧
          ∃ arr : Array Value, w' = w.setRow g arr ∧ arr.size = cur.size ∧ arr.toList.take ((n + m) * size) = olds ++ news) ∨
       (∃ cap, n + m ≤ cap ∧ cap ≤ maxLen ∧ v' = .slice (some ⟨w.heap.size, 0, none⟩) (n + m) cap ∧ ∃ arr : Array Value, w' = w.drew.alloc (.cells arr e) ∧ arr.size = cap * size ∧ arr.toList.take ((n + m) * size) = olds ++ news)) := by
  subst hsize
  subst hby
  have hsmall : n + m ≤ 9223372036854775807 := by simp only [maxLen] at h63; omega
  have hlen : (olds ++ news).length = (n + m) * i.size := by rw [List.length_append, ho, hl, Nat.add_mul]
  have grown : ∀ (old : Nat), old < n + m → n + m ≤ grownCap w (n + m) old e ∧ grownCap w (n + m) old e ≤ maxLen ∧
      (olds.toArray ++ news.toArray ++ Builtin.zeroCells z.cells (grownCap w (n + m) old e - (n + m))).size = grownCap w (n + m) old e * i.size ∧
      (olds.toArray ++ news.toArray ++ Builtin.zeroCells z.cells (grownCap w (n + m) old e - (n + m))).toList.take ((n + m) * i.size) = olds ++ news := by
    intro old _
    have hge := grownCap_ge w (n + m) old e
    have hcm : grownCap w (n + m) old e ≤ maxLen := grownCap_le_maxLen w (n + m) old e h63
    refine ⟨hge, hcm, ?_, ?_⟩
    · simp only [Array.size_append, List.size_toArray, size_zeroCells, hzs, ho, hl, ← Nat.add_mul]
      congr 1
      omega
    · simp only [Array.toList_append, List.append_assoc]
      rw [← List.append_assoc, ← hlen]
      exact List.take_left
  by_cases hm : m = 0
  · -- nothing is put behind
    subst hm
    have hn : news = [] := List.eq_nil_of_length_eq_zero (by simpa using hl)
    subst hn
    have hf : ∀ w, (Builtin.firstCells i.size 0 (.slice A 0 c)).run P w = .ok #[] w := by
      intro w
      cases A <;> simp [Builtin.firstCells, loadCells, loadCellsFrom]
    rcases hv with ⟨rfl, rfl⟩ | ⟨g, cap, cur, rfl, hg, hnc, hcm, hcs, htake⟩
    · refine ⟨.slice none 0 0, w, ?_, .inl ⟨rfl, rfl, rfl, rfl⟩⟩
      simp [Builtin.append_, run_underlying ht, sizeOf, typeInfo, hi, Builtin.lenOf, hf]
    · refine ⟨.slice (some ⟨g, 0, none⟩) n cap, w, ?_, .inr (.inl ⟨g, cap, cur, rfl, hg, by omega, by simp, cur, (setRow_self w g cur e (0, 0) hg).symm, rfl, by simpa using htake⟩)⟩
      simp [Builtin.append_, run_underlying ht, sizeOf, typeInfo, hi, Builtin.lenOf, hnc, hf, storeCells]
  · rcases hnews with h0 | ⟨b, off, rfl, hcells⟩
    · exact absurd h0 hm
    have hnews : ∀ j u, news[j]? = some u → w.cell? ((⟨b, off, none⟩ : Addr).add j) = some u := fun j u hj => by rw [Addr.add_lit]; exact hcells j u hj
    rcases hv with ⟨rfl, rfl⟩ | ⟨g, cap, cur, rfl, hg, hnc, hcm, hcs, htake⟩
    · have hx : olds = [] := List.eq_nil_of_length_eq_zero (by simpa using ho)
      subst hx
      have hr := run_append_nil (P := P) w t ty e i z ht hi hz ⟨b, off, none⟩ m c news hl hnews (by omega) (by omega) (by have hb := hbytes; simp only [Nat.zero_add] at hb; omega)
      obtain ⟨g1, g2, g3, g4⟩ := grown 0 (by omega)
      simp only [Nat.zero_add, List.nil_append, Array.empty_append] at g1 g2 g3 g4 ⊢
      exact ⟨_, _, hr, .inr (.inr ⟨_, g1, g2, rfl, _, rfl, g3, g4⟩)⟩
    · by_cases hroom : n + m ≤ cap
      · have hfit : n * i.size + news.length ≤ cur.size := by
          rw [hl, ← Nat.add_mul]
          exact Nat.le_trans (Nat.mul_le_mul_right _ hroom) hcs
        have hr := run_append_room (P := P) w t ty e i ht hi g n cap cur hg ⟨b, off, none⟩ m c news hl hnews h1 hroom hfit
        refine ⟨_, _, hr, .inr (.inl ⟨g, cap, cur, rfl, hg, hroom, rfl, _, rfl, ?_, ?_⟩)⟩
        · simp only [List.size_toArray, List.length_append, List.length_take, List.length_drop, Array.length_toList]
          omega
        · rw [htake, ← hlen]
          exact List.take_left
      · have holds : ∀ j u, olds[j]? = some u → w.cell? ((⟨g, 0, none⟩ : Addr).add j) = some u := fun j u hj => by
          rw [Addr.add_lit, cell_of_row w g _ cur e (0, 0) hg]
          rw [← htake, List.getElem?_take] at hj
          split at hj
          · simpa using hj
          · cases hj
        have hr := run_append_grow (P := P) w t ty e i z ht hi hz ⟨g, 0, none⟩ n cap olds ho holds ⟨b, off, none⟩ m c news hl hnews (by omega) (by omega) (growslice_fits (by omega) hbytes)
        obtain ⟨g1, g2, g3, g4⟩ := grown cap (by omega)
        exact ⟨_, _, hr, .inr (.inr ⟨_, g1, g2, rfl, _, rfl, g3, g4⟩)⟩

/-- A block's rows. -/
def rowsOf (b : Blk) (K : List (List Sv) → Prop) : Prop :=
  match b with
  | ⟨_, _, _, _, rows⟩ => K rows
theorem rowsOf_eq (b : Blk) (K : List (List Sv) → Prop) : rowsOf b K = K b.rows := rfl

/-- The rows of a slice, and whether none of them names a local block. -/
def srcV (hp : Hp) (y : Sv) (wd : Nat) (K : List (List Sv) → Bool → Prop) : Prop :=
  match y with
  | .own k n => Get (hpGet hp k) fun b => Need (b.wd = wd ∧ n ≤ b.rows.length) (rowsOf b fun rows => EqK (rows.take n) fun rows => K rows b.clean)
  | .sls k lo n => Get (hpGet hp k) fun b => Need (b.wd = wd ∧ lo + n ≤ b.rows.length) (rowsOf b fun rows => K ((rows.drop lo).take n) b.clean)
  | .ext _ w rows => Need (w = wd) (K rows true)
  | .val (.slice none 0 0) => K [] true
  | _ => False

/-- What is known of such a slice in the machine. -/
def SrcRel (c : Cx) (wd : Nat) (rows : List (List Sv)) (cl : Bool) (v : Value) : Prop :=
  ∃ A cap, v = .slice A rows.length cap ∧ rows.length ≤ cap ∧ (rows = [] ∨ ∃ b off, A = some ⟨b, off, none⟩ ∧ RelR rows (if cl then c.shut else c) wd b off)

theorem srcV_sound {hp : Hp} {y : Sv} {wd : Nat} {K : List (List Sv) → Bool → Prop} (h : srcV hp y wd K) : ∃ rows cl, K rows cl ∧ ∀ (w0 : World) (M : Frm) (c : Cx) (v : Value), Inv w0 M c hp → Rel y c v → SrcRel c wd rows cl v := by
  unfold srcV at h
  split at h
  · rename_i k n
    obtain ⟨b, hb, ⟨hw, hn⟩, h⟩ := h
    rw [rowsOf_eq] at h
    refine ⟨_, _, h.go, fun w0 M c v hI r => ?_⟩
    simp only [Rel] at r
    obtain ⟨hD, hv⟩ := r
    obtain ⟨b', hb', hwd, hrel⟩ := hI.dom k hD
    rw [hpGet_eq] at hb
    rw [hb] at hb'
    cases hb'
    have hlen : (b.rows.take n).length = n := by rw [List.length_take]; omega
    rcases hv with ⟨hnil, rfl, h0⟩ | ⟨hnil, rfl, hc⟩
    · have : b.rows.take n = [] := by rw [h0]; rfl
      exact ⟨none, 0, by simp [this], by simp [this], .inl this⟩
    · obtain ⟨arr, _, hr, _⟩ := hrel.2 hnil
      refine ⟨_, _, by rw [hlen], by omega, .inr ⟨_, _, rfl, ?_⟩⟩
      rw [← hw]
      exact RelR_take hr n
  · rename_i k lo n
    obtain ⟨b, hb, ⟨hw, hn⟩, h⟩ := h
    refine ⟨_, _, h, fun w0 M c v hI r => ?_⟩
    simp only [Rel] at r
    obtain ⟨hD, A, cap, rfl, hc, hA⟩ := r
    obtain ⟨b', hb', hwd, hrel⟩ := hI.dom k hD
    rw [hpGet_eq] at hb
    rw [hb] at hb'
    cases hb'
    have hlen : ((b.rows.drop lo).take n).length = n := by rw [List.length_take, List.length_drop]; omega
    refine ⟨A, cap, by rw [hlen], by rw [hlen]; exact hc, ?_⟩
    rcases hA with rfl | ⟨hnil, rfl⟩
    · exact .inl (by simp)
    · obtain ⟨arr, _, hr, _⟩ := hrel.2 hnil
      right
      refine ⟨_, _, rfl, ?_⟩
      have := RelR_take (RelR_drop hr lo) n
      rw [hwd, ← hw]
      simpa [Blk.cx] using this
  · rename_i fr q rows
    obtain ⟨rfl, h⟩ := h
    refine ⟨_, _, h, fun w0 M c v hI r => ?_⟩
    simp only [Rel] at r
    obtain ⟨A, cap, rfl, hc, hA⟩ := r
    refine ⟨A, cap, rfl, hc, hA.imp id ?_⟩
    rintro ⟨b, off, e, _, _, hr⟩
    exact ⟨b, off, e, hr⟩
  · refine ⟨_, _, h, fun w0 M c v hI r => ?_⟩
    simp only [Rel] at r
    subst r
    exact ⟨none, 0, rfl, by simp, .inl rfl⟩
  · exact h.elim

def appV (G : Gm) (hp : Hp) (t : Nat) (x y : Sv) (K : Sv → Blk → List Nat → Prop) : Prop :=
  Get (G.tab t) fun i => match i.kind with
    | .slice e => Get (G.tab e) fun j => Need (j.zero.length = j.size) <| srcV hp y j.size fun news cl =>
      match x with
      | .own k n => Get (hpGet hp k) fun b => Need (b.wd = j.size ∧ b.elem = e ∧ b.grow = true ∧ n = b.rows.length ∧ b.clean = true ∧ cl = true) <| Need ((n + news.length) * j.bytes ≤ 140737488355328 ∧ n + news.length ≤ maxLen) <|
          EqK (n + news.length) fun n' => rowsOf b fun rows => EqK (rows ++ news) fun rows' => K (.own hp.length n') ⟨e, j.size, true, true, rows'⟩ [k]
      | .val (.slice none 0 0) => Need (news.length * j.bytes ≤ 140737488355328 ∧ news.length ≤ maxLen ∧ cl = true) <| EqK news.length fun n' => K (.own hp.length n') ⟨e, j.size, true, true, news⟩ []
      | _ => False
    | _ => False
/-- A world in which one block that nobody names has turned. -/
theorem Inv.turn {w0 : World} {M : Frm} {c : Cx} {hp : Hp} (h : Inv w0 M c hp) {w : World} {row : Option Nat} (g : c.w.grownBy w row)
    (hr : ∀ b, row = some b → (∀ k, c.D k → (c.E k).nil = false → (c.E k).b ≠ b) ∧ (∀ x, c.X x → x ≠ b) ∧ (M.M b ∨ w0.heap.size ≤ b) ∧ ¬ c.C b) : Inv w0 M { c with w := w } hp ∧ c.Le (fun _ => true) { c with w := w } := by
  have hx : ∀ b, c.X b → w.heap[b]? = c.w.heap[b]? := fun b hb => g.block b (h.xlt b hb) (fun e => (hr b e.symm).2.1 b hb rfl)
  have hle : c.Le (fun _ => true) { c with w := w } := ⟨fun _ _ hk => ⟨hk, rfl⟩, fun _ h => h, fun _ _ h => h, hx⟩
  refine ⟨?_, hle⟩
  exact {
    dom := fun k hk => let ⟨blk, e, r⟩ := h.dom k hk; ⟨blk, e, r.le hle rfl (fun hn => g.block _ (r.lt hn) (fun e => (hr _ e.symm).1 k hk hn rfl)) (fun _ => allR_true _)⟩
    inj := h.inj
    xsep := h.xsep
    xlt := fun b hb => Nat.lt_of_lt_of_le (h.xlt b hb) g.size
    xY := h.xY
    bnd := h.bnd
    bndG := h.bndG
    e0 := h.e0
    mlen := h.mlen
    os := g.os.trans h.os
    tape := g.tape.trans h.tape
    output := g.output.trans h.output
    size := Nat.le_trans h.size g.size
    keep := fun j hj hm hy => (g.block j (Nat.lt_of_lt_of_le hj h.size) (fun e => by
      rcases (hr j e.symm).2.2.1 with h1 | h1
      · exact hm h1
      · omega)).trans (h.keep j hj hm hy)
    loc := h.loc
    x0 := h.x0
    zc := h.zc
    z0 := h.z0
    xk := h.xk
    ca := h.ca
    cc := fun b hb => ⟨Nat.lt_of_lt_of_le (h.cc b hb).1 g.size, (h.cc b hb).2⟩
    gh := fun k blk hD hb hn hg => h.ghs ⟨g.os, g.tape, g.output, g.size, fun b hb => g.block b (h.cc b hb).1 (fun e => (hr b e.symm).2.2.2 hb)⟩ hD hb hn hg }

/-- A new block, wherever it lies apart from all that is known. -/
theorem Inv.new2 {w0 : World} {M : Frm} {c : Cx} {hp hp' : Hp} (h : Inv w0 M c hp) {n : Nat} (hn : ¬ c.D n) (hm : M.m ≤ n) (hold : ∀ k, c.D k → hp'[k]? = hp[k]?)
    {blk : Blk} (hnew : hp'[n]? = some (some blk)) {l : Loc} (hs : l.nil = false → (∀ k, c.D k → (c.E k).nil = false → (c.E k).b ≠ l.b) ∧ (∀ x, c.X x → l.b ≠ x) ∧ (M.M l.b ∨ w0.heap.size ≤ l.b) ∧ ¬ c.C l.b) (hr : BlkRel (c.put n l c.w) n blk) (hgr : l.nil = true → blk.grow = true) : Inv w0 M (c.put n l c.w) hp' := by
  have hle : c.Le (fun _ => true) (c.put n l c.w) := ⟨fun k _ hk => ⟨.inl hk, upd_other (fun e => hn (e ▸ hk))⟩, fun _ h => h, fun _ _ h => h, fun _ _ => rfl⟩
  have hEo : ∀ k, c.D k → (c.put n l c.w).E k = c.E k := fun k hk => upd_other (fun e => hn (e ▸ hk))
  have hEn : (c.put n l c.w).E n = l := upd_same _ _ _
  refine { dom := ?_, inj := ?_, xsep := ?_, xlt := h.xlt, xY := h.xY, bnd := h.bnd, bndG := h.bndG, e0 := ?_, mlen := Nat.le_of_lt (Nat.lt_of_le_of_lt hm (List.getElem?_eq_some_iff.1 hnew).1), os := h.os, tape := h.tape, output := h.output, size := h.size, keep := h.keep, loc := ?_, x0 := h.x0, zc := h.zc, z0 := h.z0, xk := h.xk, ca := h.ca, cc := fun b hb => ⟨(h.cc b hb).1, ?_, (h.cc b hb).2.2⟩, gh := ?_ }
  · rintro k (hk | rfl)
    · obtain ⟨b, e, r⟩ := h.dom k hk
      exact ⟨b, (hold k hk).trans e, r.le hle (hEo k hk) (fun _ => rfl) (fun _ => allR_true _)⟩
    · exact ⟨blk, hnew, hr⟩
  · rintro k k' (hk | rfl) (hk' | rfl) hne h1 h2
    · rw [hEo k hk] at h1 ⊢; rw [hEo k' hk'] at h2 ⊢; exact h.inj k k' hk hk' hne h1 h2
    · rw [hEo k hk] at h1 ⊢; rw [hEn] at h2 ⊢
      exact (hs h2).1 k hk h1
    · rw [hEo k' hk'] at h2 ⊢; rw [hEn] at h1 ⊢
      exact fun e => (hs h1).1 k' hk' h2 e.symm
    · exact absurd rfl hne
  · rintro k b (hk | rfl) h1 hx
    · rw [hEo k hk] at h1 ⊢; exact h.xsep k b hk h1 hx
    · rw [hEn] at h1 ⊢; exact (hs h1).2.1 b hx
  · rintro k hlt (hk | rfl)
    · rw [hEo k hk]; exact h.e0 k hlt hk
    · omega
  · rintro k (hk | rfl) h1
    · rw [hEo k hk] at h1 ⊢; exact h.loc k hk h1
    · rw [hEn] at h1 ⊢; exact (hs h1).2.2.1
  · rintro k (hk | rfl) h1
    · rw [hEo k hk] at h1 ⊢; exact (h.cc b hb).2.1 k hk h1
    · rw [hEn] at h1 ⊢; exact fun e => (hs h1).2.2.2 (e ▸ hb)
  · rintro k b (hk | rfl) hb h1 h2
    · rw [hEo k hk] at h1
      rw [hold k hk] at hb
      exact h.gh k b hk hb h1 h2
    · rw [hEn] at h1
      rw [hnew] at hb
      cases hb
      rw [hgr h1] at h2
      cases h2

section
variable {G : Gm} {tm : List Sv} {hp : Hp} {o : Oper}

/-- From an append's run to what it leaves. -/
theorem app_post {w0 : World} {M : Frm} {c : Cx} (hI : Inv w0 M c hp) {kl : List Nat} {blk : Blk} {l : Loc} {w' : World} {row : Option Nat} (g : c.w.grownBy w' row)
    (hrow : ∀ b, row = some b → ∃ k0, c.D k0 ∧ memB k0 kl = true ∧ (c.E k0).nil = false ∧ (c.E k0).b = b)
    (hl : l.nil = false → c.w.heap.size ≤ l.b ∨ ∃ k0, c.D k0 ∧ memB k0 kl = true ∧ (c.E k0).nil = false ∧ (c.E k0).b = l.b)
    (hb : BlkRel ({ c with D := fun k => c.D k ∧ memB k kl = false, w := w' }.put hp.length l w') hp.length blk) (hgr : blk.grow = true) :
    EPost w0 M c ({ c with D := fun k => c.D k ∧ memB k kl = false, w := w' }.put hp.length l w') hp [blk] kl := by
  obtain ⟨hI1, hle1⟩ := hI.kill kl
  have hapart : ∀ b, (∃ k0, c.D k0 ∧ memB k0 kl = true ∧ (c.E k0).nil = false ∧ (c.E k0).b = b) → (∀ k, (c.D k ∧ memB k kl = false) → (c.E k).nil = false → (c.E k).b ≠ b) ∧ (∀ x, c.X x → x ≠ b) ∧ (M.M b ∨ w0.heap.size ≤ b) ∧ ¬ c.C b := by
    rintro b ⟨k0, hD, hm, hn, rfl⟩
    refine ⟨fun k hk hkn => hI.inj k k0 hk.1 hD (fun e => by subst e; rw [hm] at hk; cases hk.2) hkn hn, fun x hx e => hI.xsep k0 x hD hn hx e.symm, hI.loc k0 hD hn, fun hc => (hI.cc _ hc).2.1 k0 hD hn rfl⟩
  obtain ⟨hI2, hle2⟩ := hI1.turn (w := w') g (fun b hb => hapart b (hrow b hb))
  have hnD : ¬ c.D hp.length := hI.notD
  have hlt : ∀ k, c.D k → k < hp.length := fun k hD => by
    obtain ⟨blk, e, _⟩ := hI.dom _ hD
    exact (List.getElem?_eq_some_iff.1 e).1
  have hI3 := hI2.new2 (hp' := kill kl hp ++ [some blk]) (n := hp.length) (fun h => hnD h.1) hI.mlen (fun k hk => List.getElem?_append_left (by rw [kill_length]; exact hlt k hk.1))
    (blk := blk) (by rw [List.getElem?_append_right (by rw [kill_length]; exact Nat.le_refl _), kill_length]; simp) (l := l) (fun hn => by
      rcases hl hn with h1 | h1
      · refine ⟨fun k hk hkn => ?_, fun x hx => ?_, .inr (Nat.le_trans hI.size h1), fun hc => by have := (hI.cc _ hc).1; omega⟩
        · obtain ⟨b, _, r⟩ := hI.dom k hk.1
          have := r.lt hkn
          show (c.E k).b ≠ l.b
          omega
        · have := hI.xlt x hx
          omega
      · obtain ⟨a1, a2, a3⟩ := hapart _ h1
        exact ⟨a1, fun x hx e => a2 x hx e.symm, a3⟩) hb (fun _ => hgr)
  exact {
    inv := by simpa using hI3
    le := ⟨fun k hk hD => by
        have hm : memB k kl = false := by simpa using hk
        exact ⟨.inl ⟨hD, hm⟩, upd_other (fun e => hnD (e ▸ hD))⟩, fun _ h => h, fun _ _ h => h, fun b hx => g.block b (hI.xlt b hx) (fun e => (hapart b (hrow b e.symm)).2.1 b hx rfl)⟩
    dom := fun k => by simp [Cx.put]; constructor <;> (rintro (h | h) <;> first | (exact .inl h) | (right; omega))
    keep := fun j hj hk => g.block j hj (fun e => by
      obtain ⟨k0, hD, hm, hn, hb⟩ := hrow j e.symm
      exact hk k0 hD hm hn hb)
    xdom := fun _ h => .inl h
    size := g.size
    fresh := fun k hk hD hn => by
      have : k = hp.length := by
        rcases hD with hD | hD
        · have := hlt k hD.1; omega
        · exact hD
      subst this
      simp only [Cx.put, upd_same] at hn ⊢
      exact hl hn
    cA := rfl
    cC := rfl
    cZ := rfl
    nnil := fun j b h _ => by
      cases j with
      | zero => simp at h; rw [← h]; exact hgr
      | succ j => simp at h }

theorem SrcRel.vals {c : Cx} {wd : Nat} {rows : List (List Sv)} {cl : Bool} {v : Value} (h : SrcRel c wd rows cl v) (hwd : rows = [] ∨ True) :
    ∃ A cap news, v = .slice A rows.length cap ∧ news.length = rows.length * wd ∧ RelL rows.flatten (if cl then c.shut else c) news ∧ (∀ r ∈ rows, r.length = wd) ∧ (rows.length = 0 ∨ ∃ b off, A = some ⟨b, off, none⟩ ∧ ∀ j u, news[j]? = some u → c.w.cell? ⟨b, off + j, none⟩ = some u) := by
  obtain ⟨A, cap, rfl, hc, hr⟩ := h
  rcases hr with rfl | ⟨b, off, rfl, hr⟩
  · exact ⟨A, cap, [], rfl, by simp, by simp [RelL], by simp, .inl rfl⟩
  · obtain ⟨news, hn, hl, hcell⟩ := RelR_vals rows hr
    refine ⟨_, cap, news, rfl, hn, hl, ?_, .inr ⟨b, off, rfl, ?_⟩⟩
    · intro r hr'
      obtain ⟨i, hi⟩ := List.mem_iff_getElem?.1 hr'
      exact (RelR_get rows hr i r hi).1
    · intro j u hj
      have := hcell j u hj
      cases cl <;> exact this

theorem appV_sound {t : Nat} {x y : Operand} {K : Sv → Blk → List Nat → Prop} (ho : o.op = .call { callee := .builtin .append, args := #[x, y], argTypes := #[t, t] }) (h : appV G hp t (evO tm x) (evO tm y) K) : ∃ s b kl, K s b kl ∧ EStep G.P o tm hp s [b] kl := by
  obtain ⟨i, hi, h⟩ := h
  have ht := G.ok t i hi
  split at h
  case h_2 => exact h.elim
  rename_i e hk
  obtain ⟨j, hj, hz0, h⟩ := h
  have hje := G.ok e j hj
  obtain ⟨d, hd, hft⟩ := ht.desc
  rw [hk] at hft
  simp only [TK.fits] at hft
  subst hft
  obtain ⟨I, hI, hIs, hIb, z, hz, hzc⟩ := hje.info
  obtain ⟨news, cl, h, hsrc⟩ := srcV_sound h
  have hzs : z.cells.size = j.size := by rw [hzc]; simpa using hz0
  have hx0 : x ∈ o.op.operands := by rw [ho]; simp [Op.operands, Call.operands]
  have hy0 : y ∈ o.op.operands := by rw [ho]; simp [Op.operands, Call.operands]
  have hexec : ∀ (a : Act), execOp a.eval o = (do pure (.value (← Builtin.append_ #[t, t] o.type #[a.eval x, a.eval y]))) := fun a => by
    simp [execOp, ho, resolve, invoke, builtin]
  split at h
  · -- a row of the call's own
    rename_i k n hx
    obtain ⟨b, hb, ⟨hbw, hbe, hbg, hn, hbc, rfl⟩, ⟨hby, h63⟩, h⟩ := h
    have h := h.go
    rw [rowsOf_eq] at h
    have h := h.go
    refine ⟨_, _, _, h, ?_⟩
    intro F n' w0 M c a next Q hF hInv ha hnext
    have rx := opnd_rel ha hx0 hx
    simp only [Rel] at rx
    obtain ⟨hD, hv⟩ := rx
    obtain ⟨b', hb', hwd, hrel⟩ := hInv.dom k hD
    rw [hpGet_eq] at hb
    rw [hb] at hb'
    cases hb'
    obtain ⟨A, cy, vs, ey, hvl, hvr, hvw, hcell⟩ := (hsrc w0 M c _ hInv (ha y hy0)).vals (.inr trivial)
    -- what the row holds
    have key : ∃ olds : List Value, olds.length = n * j.size ∧ RelL b.rows.flatten (b.cx c) olds ∧ (∀ r ∈ b.rows, r.length = j.size) ∧ ((a.eval x = .slice none 0 0 ∧ n = 0) ∨ ∃ g cap cur, a.eval x = .slice (some ⟨g, 0, none⟩) n cap ∧ c.w.heap[g]? = some (.cells cur e (0, 0)) ∧ n ≤ cap ∧ cap ≤ maxLen ∧ cap * j.size ≤ cur.size ∧ cur.toList.take (n * j.size) = olds) ∧
        (∀ A n1 c1, a.eval x = .slice (some A) n1 c1 → (c.E k).nil = false ∧ (c.E k).b = A.block ∧ (c.E k).cap = c1) := by
      rcases hv with ⟨hnil, e1, h0⟩ | ⟨hnil, e1, hc⟩
      · have hrows : b.rows = [] := List.eq_nil_of_length_eq_zero (by omega)
        refine ⟨[], by simp [h0], by simp [hrows, RelL], by simp [hrows], .inl ⟨e1, h0⟩, fun A n1 c1 e2 => by rw [e1] at e2; cases e2⟩
      · obtain ⟨arr, hh, hr, hle, hg⟩ := hrel.2 hnil
        · obtain ⟨olds, hol, hor, hoc⟩ := RelR_vals _ hr
          obtain ⟨g1, g2, g3⟩ := hg hbg
          rw [hbw] at hol g1 hle
          refine ⟨olds, by rw [hol, hn], hor, fun r hr' => ?_, .inr ⟨_, _, arr, e1, by rw [← hbe]; exact hh, hc, g3, g1, ?_⟩, fun A n1 c1 e2 => by rw [e1] at e2; cases e2; exact ⟨hnil, rfl, rfl⟩⟩
          · obtain ⟨q, hq⟩ := List.mem_iff_getElem?.1 hr'
            rw [← hbw]; exact (RelR_get _ hr q r hq).1
          · apply List.ext_getElem?
            intro q
            rw [List.getElem?_take]
            by_cases hq : q < n * j.size
            · rw [if_pos hq]
              have hq2 : q < olds.length := by rw [hol, ← hn]; exact hq
              have := hoc q olds[q] (List.getElem?_eq_getElem hq2)
              rw [Blk.cx_w, cell_of_row c.w _ _ arr b.elem (0, 0) hh] at this
              rw [List.getElem?_eq_getElem hq2]
              simpa using this
            · rw [if_neg hq, List.getElem?_eq_none (by rw [hol, ← hn]; omega)]
    obtain ⟨olds, hol, hor, hbrw, hvx, hEk⟩ := key
    obtain ⟨v', w', hrun, hres⟩ := run_app (P := G.P) c.w t o.type e I z j.size j.bytes hd hI hz hIs hIb hzs (a.eval x) n olds hol hvx A news.length cy vs hvl hcell (fun u hu => RelL_one _ hvr u hu) h63 hby
    -- the cells of both
    have hrows : ∀ (c' : Cx) (bb off : Nat), c.Le (fun _ => false) c' → (∀ q u, (olds ++ vs)[q]? = some u → c'.w.cell? ⟨bb, off + q, none⟩ = some u) → RelR (b.rows ++ news) c'.shut j.size bb off := by
      intro c' bb off hle hc
      refine RelR_of_vals _ (vs := olds ++ vs) (fun r hr => ?_) ?_ hc
      · rcases List.mem_append.1 hr with h | h
        · exact hbrw r h
        · exact hvw r h
      · rw [List.flatten_append]
        refine RelL_append _ (RelL.le _ (allL_true _) hle.shut ?_) (RelL.le _ (allL_true _) hle.shut ?_)
        · simpa [Blk.cx, hbc] using hor
        · simpa using hvr
    have hcells : ∀ (w : World) (g : Nat) (arr : Array Value), w.heap[g]? = some (.cells arr e (0, 0)) → arr.toList.take ((n + news.length) * j.size) = olds ++ vs → ∀ q u, (olds ++ vs)[q]? = some u → w.cell? ⟨g, 0 + q, none⟩ = some u := by
      intro w g arr hg htk q u hq
      rw [cell_of_row w g _ arr e (0, 0) hg]
      rw [← htk, List.getElem?_take] at hq
      split at hq
      · simpa using hq
      · cases hq
    have hlen2 : (b.rows ++ news).length = n + news.length := by rw [List.length_append, ← hn]
    have hmk : memB k [k] = true := by simp [memB]
    have fin : ∀ (l : Loc) (row : Option Nat), c.w.grownBy w' row → (∀ q, row = some q → (c.E k).nil = false ∧ (c.E k).b = q) → (l.nil = false → c.w.heap.size ≤ l.b ∨ (c.E k).nil = false ∧ (c.E k).b = l.b) → l.wd = j.size →
        (l.nil = true ∧ b.rows ++ news = [] ∨ l.nil = false ∧ ∃ arr : Array Value, w'.heap[l.b]? = some (.cells arr e (0, 0)) ∧ arr.toList.take ((n + news.length) * j.size) = olds ++ vs ∧ (n + news.length) * j.size ≤ arr.size ∧ l.cap * j.size ≤ arr.size ∧ n + news.length ≤ l.cap ∧ l.cap ≤ maxLen) →
        (l.nil = true ∧ v' = .slice none 0 0 ∧ n + news.length = 0 ∨ l.nil = false ∧ v' = .slice (some ⟨l.b, 0, none⟩) (n + news.length) l.cap ∧ n + news.length ≤ l.cap) → o.wpIn F n' G.P a c.w next Q := by
      intro l row hgrow hrow hlf hlw hblk hvl'
      have hb0 : BlkRel ({ c with D := fun q => c.D q ∧ memB q [k] = false, w := w' }.put hp.length l w') hp.length ⟨e, j.size, true, true, b.rows ++ news⟩ := by
        unfold BlkRel
        rw [putE]
        refine ⟨hlw, ?_⟩
        rcases hblk with ⟨h1, h2⟩ | ⟨h1, arr, h2, h3, h4, h5, h6, h7⟩
        · exact ⟨fun _ => .inl ⟨rfl, h2⟩, fun h => by rw [h1] at h; cases h⟩
        · refine ⟨(fun h => by rw [h1] at h; cases h), fun _ => ⟨arr, h2, ?_, by rw [hlen2]; exact h4, fun _ => ⟨h5, by rw [hlen2]; exact h6, h7⟩⟩⟩
          refine hrows _ _ _ ?_ ?_
          · exact ⟨fun _ hp => (by cases hp), fun _ h => h, fun _ _ h => h, fun x hx => hgrow.block x (hInv.xlt x hx) (fun eq => by
              obtain ⟨g1, g2⟩ := hrow x eq.symm
              exact hInv.xsep k x hD g1 hx g2)⟩
          · exact hcells w' l.b arr h2 h3
      have post := app_post hInv hgrow (fun q hq => ⟨k, hD, hmk, hrow q hq⟩) (fun h1 => (hlf h1).imp id (fun h2 => ⟨k, hD, hmk, h2⟩)) hb0 rfl
      refine Oper.wpIn_value hF (by rw [ho]; simp) (v := v') (w' := w') ?_ (hnext v' _ post ?_)
      · rw [hexec a, ey]; simp [hrun]
      · simp only [Rel, putE]
        exact ⟨.inr rfl, hvl'⟩
    rcases hres with ⟨e1, hm0, rfl, rfl⟩ | ⟨g, cap, cur, e1, hg, hroom, rfl, arr, rfl, has, hat⟩ | ⟨cap, hcap, hcm, rfl, arr, rfl, has, hat⟩
    · have hn0 : n = 0 := by
        rcases hv with ⟨_, _, h0⟩ | ⟨_, e2, _⟩
        · exact h0
        · rw [e1] at e2; cases e2
      have hbr : b.rows = [] := List.eq_nil_of_length_eq_zero (by omega)
      have hnr : news = [] := List.eq_nil_of_length_eq_zero hm0
      exact fin ⟨0, 0, true, j.size⟩ none ⟨rfl, rfl, rfl, Nat.le_refl _, fun _ _ _ => rfl⟩ (by simp) (by simp) rfl (.inl ⟨rfl, by simp [hbr, hnr]⟩) (.inl ⟨rfl, rfl, by omega⟩)
    · obtain ⟨g1, g2, g3⟩ := hEk ⟨g, 0, none⟩ n cap e1
      have hcs : cap * j.size ≤ cur.size ∧ cap ≤ maxLen := by
        rcases hvx with ⟨e2, _⟩ | ⟨g', cap', cur', e2, hg', _, hc', hs', _⟩
        · rw [e1] at e2; cases e2
        · rw [e1] at e2
          cases e2
          rw [hg] at hg'
          cases hg'
          exact ⟨hs', hc'⟩
      have hle2 : (n + news.length) * j.size ≤ cap * j.size := Nat.mul_le_mul_right _ hroom
      exact fin ⟨g, cap, false, j.size⟩ (some g) ⟨rfl, rfl, rfl, by simp [World.setRow], fun q _ hq => setRow_other c.w g q arr (fun e => hq (by rw [e]))⟩ (fun q hq => by cases hq; exact ⟨g1, g2⟩) (fun _ => .inr ⟨g1, g2⟩) rfl
        (.inr ⟨rfl, arr, setRow_heap c.w g cur arr e _ hg, hat, by omega, (by show cap * j.size ≤ arr.size; omega), hroom, hcs.2⟩) (.inr ⟨rfl, rfl, hroom⟩)
    · have hle2 : (n + news.length) * j.size ≤ cap * j.size := Nat.mul_le_mul_right _ hcap
      exact fin ⟨c.w.heap.size, cap, false, j.size⟩ none ⟨rfl, rfl, rfl, by simp, fun q hq _ => (WGrow.alloc c.w.drew (.cells arr e)).block q hq⟩ (by simp) (fun _ => .inl (Nat.le_refl _)) rfl
        (.inr ⟨rfl, arr, heap_alloc_new c.w.drew _, hat, by omega, (by show cap * j.size ≤ arr.size; omega), hcap, hcm⟩) (.inr ⟨rfl, rfl, hcap⟩)
  · -- nil
    rename_i hx
    obtain ⟨⟨hby, h63, rfl⟩, h⟩ := h
    have h := h.go
    refine ⟨_, _, _, h, ?_⟩
    intro F n' w0 M c a next Q hF hInv ha hnext
    have rx := opnd_rel ha hx0 hx
    simp only [Rel] at rx
    obtain ⟨A, cy, vs, ey, hvl, hvr, hvw, hcell⟩ := (hsrc w0 M c _ hInv (ha y hy0)).vals (.inr trivial)
    obtain ⟨v', w', hrun, hres⟩ := run_app (P := G.P) c.w t o.type e I z j.size j.bytes hd hI hz hIs hIb hzs (a.eval x) 0 [] (by simp) (.inl ⟨rx, rfl⟩) A news.length cy vs hvl hcell (fun u hu => RelL_one _ hvr u hu) (by omega) (by simpa using hby)
    simp only [Nat.zero_add, List.nil_append] at hres
    have fin : ∀ (l : Loc), c.w.grownBy w' none → (l.nil = false → c.w.heap.size ≤ l.b) → l.wd = j.size →
        (l.nil = true ∧ news = [] ∨ l.nil = false ∧ ∃ arr : Array Value, w'.heap[l.b]? = some (.cells arr e (0, 0)) ∧ arr.toList.take (news.length * j.size) = vs ∧ news.length * j.size ≤ arr.size ∧ l.cap * j.size ≤ arr.size ∧ news.length ≤ l.cap ∧ l.cap ≤ maxLen) →
        (l.nil = true ∧ v' = .slice none 0 0 ∧ news.length = 0 ∨ l.nil = false ∧ v' = .slice (some ⟨l.b, 0, none⟩) news.length l.cap ∧ news.length ≤ l.cap) → o.wpIn F n' G.P a c.w next Q := by
      intro l hgrow hlf hlw hblk hvl'
      have hb0 : BlkRel ({ c with D := fun q => c.D q ∧ memB q [] = false, w := w' }.put hp.length l w') hp.length ⟨e, j.size, true, true, news⟩ := by
        unfold BlkRel
        rw [putE]
        refine ⟨hlw, ?_⟩
        rcases hblk with ⟨h1, h2⟩ | ⟨h1, arr, h2, h3, h4, h5, h6, h7⟩
        · exact ⟨fun _ => .inl ⟨rfl, h2⟩, fun h => by rw [h1] at h; cases h⟩
        · refine ⟨(fun h => by rw [h1] at h; cases h), fun _ => ⟨arr, h2, ?_, h4, fun _ => ⟨h5, h6, h7⟩⟩⟩
          refine RelR_of_vals _ (vs := vs) hvw ?_ fun q u hq => ?_
          · have hle : c.Le (fun _ => false) ({ c with D := fun q => c.D q ∧ memB q [] = false, w := w' }.put hp.length l w') := ⟨fun _ hp => (by cases hp), fun _ h => h, fun _ _ h => h, fun x hx => hgrow.block x (hInv.xlt x hx) (by simp)⟩
            exact RelL.le _ (allL_true _) hle.shut (by simpa using hvr)
          · show w'.cell? _ = _
            rw [cell_of_row w' l.b _ arr e (0, 0) h2]
            rw [← h3, List.getElem?_take] at hq
            split at hq
            · simpa using hq
            · cases hq
      have post := app_post hInv (kl := []) hgrow (fun q hq => by cases hq) (fun h1 => .inl (hlf h1)) hb0 rfl
      refine Oper.wpIn_value hF (by rw [ho]; simp) (v := v') (w' := w') ?_ (hnext v' _ post ?_)
      · rw [hexec a, ey]; simp [hrun]
      · simp only [Rel, putE]
        exact ⟨.inr rfl, hvl'⟩
    rcases hres with ⟨e1, hm0, rfl, rfl⟩ | ⟨g, cap, cur, e1, _⟩ | ⟨cap, hcap, hcm, rfl, arr, rfl, has, hat⟩
    · have hnr : news = [] := List.eq_nil_of_length_eq_zero hm0
      exact fin ⟨0, 0, true, j.size⟩ ⟨rfl, rfl, rfl, Nat.le_refl _, fun _ _ _ => rfl⟩ (by simp) rfl (.inl ⟨rfl, hnr⟩) (.inl ⟨rfl, rfl, hm0⟩)
    · rw [rx] at e1; cases e1
    · have hle2 : news.length * j.size ≤ cap * j.size := Nat.mul_le_mul_right _ hcap
      exact fin ⟨c.w.heap.size, cap, false, j.size⟩ ⟨rfl, rfl, rfl, by simp, fun q hq _ => (WGrow.alloc c.w.drew (.cells arr e)).block q hq⟩ (fun _ => Nat.le_refl _) rfl
        (.inr ⟨rfl, arr, heap_alloc_new c.w.drew _, hat, by omega, (by show cap * j.size ≤ arr.size; omega), hcap, hcm⟩) (.inr ⟨rfl, rfl, hcap⟩)
  · exact h.elim

/-- The first rows of a block, cut off from what lies behind: the block under another name. -/
def cut3V (G : Gm) (tm : List Sv) (hp : Hp) (t k : Nat) (hi mx : Operand) (K : Sv → Blk → List Nat → Prop) : Prop :=
  Get (G.tab t) fun i => match i.kind with
    | .slice e => Get (G.tab e) fun j => Get (hpGet hp k) fun b => Need (b.wd = j.size ∧ b.elem = e ∧ b.grow = true ∧ b.clean = true) <| bd tm (some hi) 0 fun h => bd tm (some mx) 0 fun m => Need (0 ≤ h ∧ h ≤ m ∧ m ≤ (b.rows.length : Int)) <|
        EqK h.toNat fun h' => rowsOf b fun rows => EqK (rows.take h') fun rows' => K (.own hp.length h') ⟨e, j.size, true, true, rows'⟩ [k]
    | _ => False
theorem cut3V_sound {t k n : Nat} {x hi mx : Operand} {K : Sv → Blk → List Nat → Prop} (ho : o.op = .slice t x none (some hi) (some mx)) (hx : evO tm x = .own k n) (h : cut3V G tm hp t k hi mx K) : ∃ s b kl, K s b kl ∧ EStep G.P o tm hp s [b] kl := by
  obtain ⟨i, hi', h⟩ := h
  have ht := G.ok t i hi'
  split at h
  case h_2 => exact h.elim
  rename_i e hk
  obtain ⟨j, hj, b, hb, ⟨hw, hel, hgr, hcl⟩, h⟩ := h
  have hje := G.ok e j hj
  obtain ⟨q, h, hq⟩ := bd_spec h
  obtain ⟨m, h, hm⟩ := bd_spec h
  obtain ⟨⟨h0, h1, h2⟩, h⟩ := h
  have h := h.go
  rw [rowsOf_eq] at h
  have h := h.go
  refine ⟨_, _, _, h, ?_⟩
  intro F n' w0 M c a next Q hF hInv ha hnext
  have rx := opnd_rel ha (x := x) (by rw [ho]; simp [Op.operands]) hx
  simp only [Rel] at rx
  obtain ⟨hD, hv⟩ := rx
  obtain ⟨b', hb', hwd, hrel⟩ := hInv.dom k hD
  rw [hpGet_eq] at hb
  rw [hb] at hb'
  cases hb'
  have val : ∀ (y : Operand) (z : Int), y ∈ o.op.operands → (some y = none ∧ z = 0 ∨ ∃ w k, some y = some w ∧ evO tm w = .val (.int k z)) → ∃ k, a.eval y = .int k z := by
    rintro y z hy (⟨h, _⟩ | ⟨w, kk, h, hw⟩)
    · cases h
    · cases h
      have := opnd_rel ha hy hw
      simp only [Rel] at this
      exact ⟨kk, this⟩
  obtain ⟨kh, eh⟩ := val hi q (by rw [ho]; simp [Op.operands]) hq
  obtain ⟨km, em⟩ := val mx m (by rw [ho]; simp [Op.operands]) hm
  have hlen : (b.rows.take q.toNat).length = q.toNat := by rw [List.length_take]; omega
  have hmk : memB k [k] = true := by simp [memB]
  have fin : ∀ (l : Loc) (v' : Value), (execOp a.eval o).run G.P c.w = .ok (.value v') c.w → (l.nil = false → (c.E k).nil = false ∧ (c.E k).b = l.b) → l.wd = j.size →
      (l.nil = true ∧ b.rows.take q.toNat = [] ∨ l.nil = false ∧ l.cap = m.toNat) →
      (l.nil = true ∧ v' = .slice none 0 0 ∧ q.toNat = 0 ∨ l.nil = false ∧ v' = .slice (some ⟨l.b, 0, none⟩) q.toNat l.cap) → o.wpIn F n' G.P a c.w next Q := by
    intro l v' hrun hlf hlw hblk hvl
    have hle0 : c.shut.Le (fun _ => true) (Cx.put { c with D := fun q => c.D q ∧ memB q [k] = false, w := c.w } hp.length l c.w).shut := ⟨fun _ _ h => h.elim, fun _ h => h, fun _ _ h => h, fun _ _ => rfl⟩
    have hb0 : BlkRel ({ c with D := fun q => c.D q ∧ memB q [k] = false, w := c.w }.put hp.length l c.w) hp.length ⟨e, j.size, true, true, b.rows.take q.toNat⟩ := by
      unfold BlkRel
      rw [putE]
      refine ⟨hlw, ?_⟩
      rcases hblk with ⟨e1, e2⟩ | ⟨e1, e2⟩
      · exact ⟨fun _ => .inl ⟨rfl, e2⟩, fun h => by rw [e1] at h; cases h⟩
      · refine ⟨(fun h => by rw [e1] at h; cases h), fun _ => ?_⟩
        obtain ⟨g1, g2⟩ := hlf e1
        obtain ⟨arr, hh, hr, hle, hg⟩ := hrel.2 g1
        obtain ⟨f1, f2, f3⟩ := hg hgr
        refine ⟨arr, by rw [← g2, ← hel]; exact hh, ?_, ?_, fun _ => ⟨?_, ?_, ?_⟩⟩
        · have hr' := RelR_take hr q.toNat
          simp only [Blk.cx, hcl, if_true] at hr' ⊢
          rw [← g2, ← hw]
          exact RelR.le _ (allR_true _) hle0 rfl hr'
        · rw [hlen, ← hw]
          exact Nat.le_trans (Nat.mul_le_mul_right _ (by omega)) hle
        · rw [e2, ← hw]
          exact Nat.le_trans (Nat.mul_le_mul_right _ (by omega)) f1
        · rw [hlen, e2]; omega
        · rw [e2]; omega
    have post := app_post (w' := c.w) (row := none) hInv ⟨rfl, rfl, rfl, Nat.le_refl _, fun _ _ _ => rfl⟩ (fun q hq => by cases hq) (fun e1 => .inr ⟨k, hD, hmk, hlf e1⟩) hb0 rfl
    refine Oper.wpIn_value hF (by rw [ho]; simp) hrun (hnext v' (Cx.put { c with D := fun q => c.D q ∧ memB q [k] = false, w := c.w } hp.length l c.w) post ?_)
    simp only [Rel, putE]
    refine ⟨.inr rfl, ?_⟩
    rcases hvl with ⟨e1, e2, e3⟩ | ⟨e1, e2⟩
    · exact .inl ⟨e1, e2, e3⟩
    · refine .inr ⟨e1, e2, ?_⟩
      rcases hblk with ⟨g, _⟩ | ⟨_, g⟩
      · rw [e1] at g; cases g
      · rw [g]; omega
  have hrunv : ∀ (A : Option Addr) (cap : Nat), a.eval x = .slice A n cap → n ≤ cap → m ≤ (cap : Int) → (A = none ∨ ∃ g, A = some ⟨g, 0, none⟩) → (execOp a.eval o).run G.P c.w = .ok (.value (.slice A q.toNat m.toNat)) c.w := by
    intro A cap hv hnc hmc hA
    obtain ⟨d, hd, hf⟩ := ht.desc
    rw [hk] at hf
    simp only [TK.fits] at hf
    subst hf
    have hA' : A.map (·.add 0) = A := by rcases hA with rfl | ⟨g, rfl⟩ <;> simp [Addr.add_lit]
    have e1 : (Instr.sliceBounds true n cap none (some (.int kh q)) (some (.int km m))).run G.P c.w = .ok (0, q.toNat, m.toNat) c.w := by
      simp [Instr.sliceBounds, run_sliceBound km m cap _ (by omega) (by omega), run_sliceBound kh q m.toNat _ (by omega) (by omega)]
    simp [execOp, ho, hv, eh, em, Instr.sliceAt, Instr.slice, run_underlying hd, e1, hje.run_sizeOf, hA']
  rcases hv with ⟨hnil, ev, hn0⟩ | ⟨hnil, ev, hnc⟩
  · have hrows : b.rows = [] := by
      rcases hrel.1 hnil with ⟨_, g⟩ | ⟨g, _⟩
      · exact g
      · rw [hgr] at g; cases g
    rw [hrows] at h2
    simp only [List.length_nil] at h2
    have hq0 : q.toNat = 0 := by omega
    have hm0 : m.toNat = 0 := by omega
    have := hrunv none 0 (by rw [ev, hn0]) (by omega) (by omega) (.inl rfl)
    rw [hq0, hm0] at this
    exact fin ⟨0, 0, true, j.size⟩ _ this (fun h => by cases h) rfl (.inl ⟨rfl, by rw [hrows]; simp⟩) (.inl ⟨rfl, rfl, hq0⟩)
  · obtain ⟨arr, hh, hr, hle, hg⟩ := hrel.2 hnil
    have hcap := (hg hgr).2.1
    have := hrunv (some ⟨(c.E k).b, 0, none⟩) (c.E k).cap ev hnc (by omega) (.inr ⟨_, rfl⟩)
    exact fin ⟨(c.E k).b, m.toNat, false, j.size⟩ _ this (fun _ => ⟨hnil, rfl⟩) rfl (.inr ⟨rfl, rfl⟩) (.inr ⟨rfl, rfl⟩)
end
end Go.Eng

/- The engine, part G: the state of a walk; stores; contracts and calls. -/
namespace Go.Eng
open Go Go.RowKit

theorem putL_length {α : Type} (l xs : List α) (i : Nat) (h : i + xs.length ≤ l.length) : (putL l i xs).length = l.length := by
  unfold putL
  simp
  omega

theorem putL_get {α : Type} (l xs : List α) (i : Nat) (h : i + xs.length ≤ l.length) (q : Nat) : (putL l i xs)[q]? = if q < i then l[q]? else if q < i + xs.length then xs[q - i]? else l[q]? := by
  unfold putL
  by_cases h1 : q < i
  · rw [if_pos h1, List.getElem?_append_left (by simp; omega), List.getElem?_take, if_pos h1]
  · rw [if_neg h1, List.getElem?_append_right (by simp; omega)]
    have : (l.take i).length = i := by simp; omega
    rw [this]
    by_cases h2 : q < i + xs.length
    · rw [if_pos h2, List.getElem?_append_left (by omega)]
    · rw [if_neg h2, List.getElem?_append_right (by omega), List.getElem?_drop]
      congr 1
      omega

/-! ### The state of a walk -/
/-- What stands in C stands as it stood. -/
structure Cx.Cq (c c' : Cx) : Prop where
  cA : c'.A = c.A
  cC : c'.C = c.C
  cZ : c'.Z = c.Z
  hb : ∀ b, c.C b → c'.w.heap[b]? = c.w.heap[b]?
theorem EPost.cq {w0 : World} {M : Frm} {c c' : Cx} {hp : Hp} {nb : List Blk} {kl : List Nat} (hI : Inv w0 M c hp) (h : EPost w0 M c c' hp nb kl) : c.Cq c' :=
  ⟨h.cA, h.cC, h.cZ, fun b hb => h.keep b (hI.cc b hb).1 (fun k hD _ hn => (hI.cc b hb).2.1 k hD hn)⟩
/-- The marks of the loops over functions that have ended, each with its block, in which nothing stands. -/
def mkD (b : Nat) : Deferred := { target := .collected b, args := #[] }
def Marks (w0 : World) (c : Cx) (ds ds0 : List Deferred) : Prop :=
  ∃ ml : List Nat, ds = ml.map mkD ++ ds0 ∧ ml.Nodup ∧ ∀ b ∈ ml, w0.heap.size ≤ b ∧ c.Z b ∧ c.C b ∧ c.w.heap[b]? = some (.deferred (some []))
theorem Marks.cq {w0 : World} {c c' : Cx} {ds ds0 : List Deferred} (h : Marks w0 c ds ds0) (hq : c.Cq c') : Marks w0 c' ds ds0 := by
  obtain ⟨ml, h1, h2, h3⟩ := h
  refine ⟨ml, h1, h2, fun b hb => ?_⟩
  obtain ⟨g0, g1, g2, g3⟩ := h3 b hb
  exact ⟨g0, by rw [hq.cZ]; exact g1, by rw [hq.cC]; exact g2, (hq.hb b g2).trans g3⟩
theorem Marks.none {w0 : World} {c : Cx} {ds : List Deferred} : Marks w0 c ds ds := ⟨[], rfl, List.nodup_nil, fun b hb => by cases hb⟩
structure St (w0 : World) (M : Frm) (c : Cx) (tm : List Sv) (hp : Hp) (a : Act) (ds : List Deferred) : Prop where
  inv : Inv w0 M c hp
  full : ∀ (k : Nat) (b : Blk), hp[k]? = some (some b) → c.D k
  rel : ∀ t, Rel (tmGet tm t) c (a.tmps.getD t undef)
  size : a.tmps.size = tm.length
  ds : Marks w0 c a.defers ds

def setT (tm : List Sv) (d : Option Nat) (s : Sv) : List Sv :=
  match d with
  | none => tm
  | some t => tm.set t s

theorem tmGet_set (tm : List Sv) (d t : Nat) (s : Sv) : tmGet (tm.set d s) t = if d = t ∧ t < tm.length then s else tmGet tm t := by
  unfold tmGet
  simp only [nth_eq, List.getElem?_set]
  by_cases h : d = t
  · subst h
    by_cases h2 : d < tm.length
    · simp [h2]
    · simp [h2]
  · simp [h]

theorem St.opnd {w0 : World} {M : Frm} {c : Cx} {tm : List Sv} {hp : Hp} {a : Act} {ds : List Deferred} (h : St w0 M c tm hp a ds) (x : Operand) : Rel (evO tm x) c (a.eval x) := by
  cases x with
  | tmp t => exact h.rel t
  | const v => simp [evO, Act.eval, Rel]
  | global g => simp [evO, Act.eval, Rel]
  | func f => simp only [evO, Act.eval, Rel]; exact ⟨[], rfl, by simp [RelT]⟩

/-- The state behind a temporary's new value. -/
theorem St.put {w0 : World} {M : Frm} {c : Cx} {tm : List Sv} {hp : Hp} {a : Act} {ds : List Deferred} (h : St w0 M c tm hp a ds) (d : Option Nat) {s : Sv} {v : Value} (r : Rel s c v) :
    St w0 M c (setT tm d s) hp (a.put d v) ds := by
  cases d with
  | none => exact h
  | some t =>
    refine { inv := h.inv, full := h.full, rel := fun u => ?_, size := by simp [Act.put, setT, h.size], ds := h.ds }
    simp only [setT, Act.put, tmGet_set]
    by_cases hu : t = u
    · subst hu
      by_cases hl : t < tm.length
      · simp [hl, h.size, Array.getD]
        exact r
      · simp only [hl, and_false, if_false]
        unfold tmGet
        rw [nth_eq, List.getElem?_eq_none (by omega)]
        simp [Rel]
    · simp only [hu, false_and, if_false]
      have := h.rel u
      rw [Array.getD_eq_getD_getElem?] at this ⊢
      rw [Array.getElem?_setIfInBounds_ne hu]
      exact this

/-- A state carried over to another context. -/
theorem St.le {w0 : World} {M : Frm} {c c' : Cx} {tm : List Sv} {hp hp' : Hp} {a : Act} {ds : List Deferred} {kl : List Nat} (h : St w0 M c tm hp a ds) (hle : c.Le (fun k => !memB k kl) c') (hI : Inv w0 M c' hp') (hq : c.Cq c') (hf : ∀ (k : Nat) (b : Blk), hp'[k]? = some (some b) → c'.D k) :
    St w0 M c' (forgetT kl tm) hp' a ds := by
  refine { inv := hI, full := hf, rel := fun t => Rel.le _ (forgetT_all kl tm t) hle (tmGet_forget kl tm t (h.rel t)), size := ?_, ds := h.ds.cq hq }
  rw [h.size]
  cases kl with
  | nil => rfl
  | cons j js => simp [forgetT, forgetGo_length]

theorem kill_some {kl : List Nat} {hp : Hp} {k : Nat} {b : Blk} (h : (kill kl hp)[k]? = some (some b)) : memB k kl = false ∧ ∃ b0, hp[k]? = some (some b0) := by
  cases kl with
  | nil => exact ⟨rfl, b, h⟩
  | cons j js =>
    have := killH_some (j :: js) hp 0 k b h
    exact ⟨by simpa using this.1, let ⟨b0, h0, _⟩ := this.2; ⟨b0, h0⟩⟩

/-- What one operation in its place leaves: the next state. -/
def SStep (P : Program) (o : Oper) (tm : List Sv) (hp : Hp) (tm' : List Sv) (hp' : Hp) : Prop :=
  ∀ (F : Fence) (n : Nat) (w0 : World) (M : Frm) (c : Cx) (a : Act) (ds : List Deferred) (next : Act → World → Prop) (Q : Exit → Act → World → Prop), Open F → St w0 M c tm hp a ds →
    (∀ a' c', St w0 M c' tm' hp' a' ds → next a' c'.w) → o.wpIn F n P a c.w next Q

theorem EStep.sstep {P : Program} {o : Oper} {tm : List Sv} {hp : Hp} {s : Sv} {nb : List Blk} {kl : List Nat} (h : EStep P o tm hp s nb kl) : SStep P o tm hp (setT (forgetT kl tm) o.dst s) (kill kl hp ++ nb.map some) := by
  intro F n w0 M c a ds next Q hF hS hn
  refine h F n w0 M c a next Q hF hS.inv (fun x _ => hS.opnd x) fun v c' hp' hr => hn _ c' ?_
  refine (hS.le hp'.le hp'.inv (hp'.cq hS.inv) fun k b hk => (hp'.dom k).2 ?_).put o.dst hr
  by_cases hlt : k < (kill kl hp).length
  · rw [List.getElem?_append_left hlt] at hk
    obtain ⟨h1, b0, h0⟩ := kill_some hk
    exact .inl ⟨hS.full k b0 h0, h1⟩
  · rw [List.getElem?_append_right (by omega)] at hk
    have hl := (List.getElem?_eq_some_iff.1 hk).1
    rw [kill_length] at hl hlt
    simp at hl
    right
    omega

/-! ### A store -/
/-- The list, its spine laid bare. -/
def spineK {α : Type} : List α → (List α → Prop) → Prop
  | [], K => K []
  | x :: l, K => spineK l fun l' => K (x :: l')
theorem spineK_eq {α : Type} : ∀ (l : List α) (K : List α → Prop), spineK l K = K l
  | [], _ => rfl
  | x :: l, K => by rw [spineK, spineK_eq l]
/-- A small number as a literal. -/
def litG (n : Nat) (K : Nat → Prop) : List Nat → Prop
  | [] => K n
  | m :: ms => match Nat.beq n m with
    | true => K m
    | false => litG n K ms
def litK (n : Nat) (K : Nat → Prop) : Prop := litG n K [0, 1, 2, 3, 4, 5, 6, 7, 8, 9, 10, 11, 12, 13, 14, 15, 16, 17, 18, 19, 20, 21, 22, 23, 24, 25, 26, 27, 28, 29, 30, 31, 32, 33, 34, 35, 36, 37, 38, 39, 40, 41, 42, 43, 44, 45, 46, 47, 48, 49, 50, 51, 52, 53, 54, 55, 56, 57, 58, 59, 60]
theorem litG_eq (n : Nat) (K : Nat → Prop) : ∀ l, litG n K l = K n
  | [] => rfl
  | m :: ms => by
    simp only [litG]
    cases h : Nat.beq n m with
    | true => rw [Nat.eq_of_beq_eq_true h]
    | false => exact litG_eq n K ms
theorem litK_eq (n : Nat) (K : Nat → Prop) : litK n K = K n := litG_eq n K _
def boolK (b : Bool) (K : Bool → Prop) : Prop :=
  match b with
  | true => K true
  | false => K false
theorem boolK_eq (b : Bool) (K : Bool → Prop) : boolK b K = K b := by cases b <;> rfl
/-- A value, its head laid bare. -/
def headK : Sv → (Sv → Prop) → Prop
  | .val v, K => K (.val v)
  | .any, K => K .any
  | .agg cs, K => K (.agg cs)
  | .tup cs, K => K (.tup cs)
  | .ptr k r q, K => litK k fun k => litK q fun q => K (.ptr k r q)
  | .own k n, K => litK k fun k => K (.own k n)
  | .sls k l n, K => litK k fun k => K (.sls k l n)
  | .ext a b c, K => K (.ext a b c)
  | .ref fr cs, K => K (.ref fr cs)
  | .clo f cs, K => K (.clo f cs)
theorem headK_eq (s : Sv) (K : Sv → Prop) : headK s K = K s := by cases s <;> simp only [headK, litK_eq]
/-- A row, laid bare. -/
def rowK : List Sv → (List Sv → Prop) → Prop
  | [], K => K []
  | x :: l, K => headK x fun x' => rowK l fun l' => K (x' :: l')
theorem rowK_eq : ∀ (l : List Sv) (K : List Sv → Prop), rowK l K = K l
  | [], _ => rfl
  | x :: l, K => by rw [rowK, headK_eq, rowK_eq l]
/-- A value, laid bare. -/
def svK : Sv → (Sv → Prop) → Prop
  | .agg cs, K => rowK cs fun cs => K (.agg cs)
  | .tup cs, K => rowK cs fun cs => K (.tup cs)
  | .clo f cs, K => rowK cs fun cs => K (.clo f cs)
  | s, K => headK s K
theorem svK_eq (s : Sv) (K : Sv → Prop) : svK s K = K s := by cases s <;> simp only [svK, rowK_eq, headK_eq]
def setK : List Sv → Nat → Sv → (List Sv → Prop) → Prop
  | [], _, _, K => K []
  | _ :: l, 0, s, K => K (s :: l)
  | x :: l, n + 1, s, K => setK l n s fun l' => K (x :: l')
theorem setK_eq : ∀ (l : List Sv) (n : Nat) (s : Sv) (K : List Sv → Prop), setK l n s K = K (l.set n s)
  | [], _, _, _ => rfl
  | _ :: l, 0, s, K => rfl
  | x :: l, n + 1, s, K => by rw [setK, setK_eq l]; rfl
def setTK (tm : List Sv) (d : Option Nat) (s : Sv) (K : List Sv → Prop) : Prop :=
  match d with
  | none => K tm
  | some t => svK s fun s => setK tm t s K
theorem setTK_eq (tm : List Sv) (d : Option Nat) (s : Sv) (K : List Sv → Prop) : setTK tm d s K = K (setT tm d s) := by
  cases d with
  | none => rfl
  | some t => simp only [setTK, svK_eq, setK_eq, setT]
/-- A block, laid bare; its rows are left. -/
def blkH (b : Blk) (K : Blk → Prop) : Prop :=
  match b with
  | ⟨e, wd, cl, gr, rows⟩ => litK wd fun wd => boolK cl fun cl => K ⟨e, wd, cl, gr, rows⟩
theorem blkH_eq (b : Blk) (K : Blk → Prop) : blkH b K = K b := by cases b; simp only [blkH, litK_eq, boolK_eq]
def rowsK : List (List Sv) → (List (List Sv) → Prop) → Prop
  | [], K => K []
  | r :: rs, K => rowK r fun r => rowsK rs fun rs => K (r :: rs)
theorem rowsK_eq : ∀ (l : List (List Sv)) (K : List (List Sv) → Prop), rowsK l K = K l
  | [], _ => rfl
  | r :: rs, K => by simp only [rowsK, rowK_eq, rowsK_eq rs]
/-- A block, laid bare with its rows. -/
def blkR (b : Blk) (K : Blk → Prop) : Prop :=
  match b with
  | ⟨e, wd, cl, gr, rows⟩ => litK wd fun wd => boolK cl fun cl => rowsK rows fun rows => K ⟨e, wd, cl, gr, rows⟩
theorem blkR_eq (b : Blk) (K : Blk → Prop) : blkR b K = K b := by cases b; simp only [blkR, litK_eq, boolK_eq, rowsK_eq]
def deepK : List Sv → (List Sv → Prop) → Prop
  | [], K => K []
  | x :: l, K => svK x fun x' => deepK l fun l' => K (x' :: l')
theorem deepK_eq : ∀ (l : List Sv) (K : List Sv → Prop), deepK l K = K l
  | [], _ => rfl
  | x :: l, K => by rw [deepK, svK_eq, deepK_eq l]
/-- A block, laid bare; its rows, where they may name blocks. -/
def blkN (b : Blk) (K : Blk → Prop) : Prop :=
  match b with
  | ⟨e, wd, true, gr, rows⟩ => K ⟨e, wd, true, gr, rows⟩
  | ⟨e, wd, false, gr, rows⟩ => rowsK rows fun rows => K ⟨e, wd, false, gr, rows⟩
theorem blkN_eq (b : Blk) (K : Blk → Prop) : blkN b K = K b := by
  cases b with
  | mk e wd cl gr rows => cases cl <;> simp only [blkN, rowsK_eq]
def hpK : Hp → (Hp → Prop) → Prop
  | [], K => K []
  | none :: bs, K => hpK bs fun bs => K (none :: bs)
  | some b :: bs, K => blkN b fun b => hpK bs fun bs => K (some b :: bs)
theorem hpK_eq : ∀ (l : Hp) (K : Hp → Prop), hpK l K = K l
  | [], _ => rfl
  | none :: bs, K => by simp only [hpK, hpK_eq bs]
  | some b :: bs, K => by simp only [hpK, blkN_eq, hpK_eq bs]
def blksH : List Blk → (List Blk → Prop) → Prop
  | [], K => K []
  | b :: bs, K => blkH b fun b => blksH bs fun bs => K (b :: bs)
theorem blksH_eq : ∀ (l : List Blk) (K : List Blk → Prop), blksH l K = K l
  | [], _ => rfl
  | b :: bs, K => by simp only [blksH, blkH_eq, blksH_eq bs]

def blkK (b : Blk) (r' : List Sv) (row : Nat) (cl' : Bool) (K : Blk → Prop) : Prop :=
  match b with
  | ⟨e, wd, cl, gr, rows⟩ => boolK (cl && cl') fun cl => K ⟨e, wd, cl, gr, rows.set row r'⟩
theorem blkK_eq (b : Blk) (r' : List Sv) (row : Nat) (cl' : Bool) (K : Blk → Prop) : blkK b r' row cl' K = K { b with clean := b.clean && cl', rows := b.rows.set row r' } := by cases b; simp only [blkK, boolK_eq]

def storeV (G : Gm) (hp : Hp) (t : Nat) (x y : Sv) (K : Hp → Prop) : Prop :=
  Get (G.tab t) fun i =>
    match x with
    | .ptr k row col => Get (hpGet hp k) fun b => Get (nth b.rows row) fun r => Get y.parts fun xs =>
        Need (xs.length = i.size ∧ col + xs.length ≤ r.length) <| rowK (putL r col xs) fun r' => blkK b r' row (Sv.all.allL (fun _ => false) xs) fun b' => spineK (hp.set k (some b')) K
    | _ => False

theorem flatten_len {wd : Nat} : ∀ (rows : List (List Sv)), (∀ r ∈ rows, r.length = wd) → rows.flatten.length = rows.length * wd
  | [], _ => by simp
  | r :: rs, h => by simp [flatten_len rs (fun q hq => h q (by simp [hq])), h r (by simp), Nat.add_mul]; omega

/-- A store into a row of a block: the world and what is known behind it. -/
theorem Inv.store {w0 : World} {M : Frm} {c : Cx} {hp : Hp} (hI : Inv w0 M c hp) {k row col : Nat} {b : Blk} {r xs : List Sv} {vs : List Value} (hD : c.D k) (hn : (c.E k).nil = false) (hb : hp[k]? = some (some b))
    (hr : b.rows[row]? = some r) (hxs : RelL xs c vs) (hcol : col + xs.length ≤ r.length) (P : Program) :
    ∃ w', (storeCells ⟨(c.E k).b, row * (c.E k).wd + col, none⟩ vs).run P c.w = .ok () w' ∧ Inv w0 M { c with w := w' } (hp.set k (some { b with clean := b.clean && Sv.all.allL (fun _ => false) xs, rows := b.rows.set row (putL r col xs) })) ∧ c.Le (fun _ => true) { c with w := w' } ∧ ∀ z, c.C z → w'.heap[z]? = c.w.heap[z]? := by
  obtain ⟨b', hb', hwd, hrel⟩ := hI.dom k hD
  rw [hb] at hb'
  cases hb'
  obtain ⟨arr, hh, hrr, hlen, hgrow⟩ := hrel.2 hn
  have hvl := RelL_len _ hxs
  have hrlt : row < b.rows.length := (List.getElem?_eq_some_iff.1 hr).1
  have hrw := (RelR_get _ hrr row r hr).1
  have hbd : (row + 1) * b.wd ≤ b.rows.length * b.wd := Nat.mul_le_mul_right _ hrlt
  rw [Nat.add_mul, Nat.one_mul] at hbd
  have hfit : row * b.wd + col + 0 + vs.length ≤ arr.size := by omega
  have hst := run_storeCells_at P (c.E k).b (row * b.wd + col) b.elem vs 0 arr c.w hh hfit (RelL_one _ hxs)
  rw [hwd]
  refine ⟨_, hst, ?_⟩
  generalize hA : (arr.toList.take (row * b.wd + col + 0) ++ vs ++ arr.toList.drop (row * b.wd + col + 0 + vs.length)).toArray = arr'
  have hsz : arr'.size = arr.size := by
    rw [← hA]
    simp
    omega
  have harr : ∀ q : Nat, arr'[q]? = (putL arr.toList (row * b.wd + col) vs)[q]? := by
    intro q
    rw [← hA]
    unfold putL
    simp [List.append_assoc]
  have hg : c.w.grownBy (c.w.setRow (c.E k).b arr') (some (c.E k).b) := ⟨rfl, rfl, rfl, by simp [World.setRow], fun q _ hq => setRow_other c.w (c.E k).b q arr' (fun e => hq (by rw [e]))⟩
  have hhead : (c.w.setRow (c.E k).b arr').heap[(c.E k).b]? = some (.cells arr' b.elem (0, 0)) := setRow_heap c.w (c.E k).b arr arr' b.elem _ hh
  have hx : ∀ q, c.X q → (c.w.setRow (c.E k).b arr').heap[q]? = c.w.heap[q]? := fun q hq => hg.block q (hI.xlt q hq) (fun e => by cases e; exact hI.xsep k _ hD hn hq rfl)
  have hle : c.Le (fun _ => true) { c with w := c.w.setRow (c.E k).b arr' } := ⟨fun _ _ h => ⟨h, rfl⟩, fun _ h => h, fun _ _ h => h, hx⟩
  refine ⟨?_, hle, fun z hz => hg.block z (hI.cc z hz).1 (fun e => by cases e; exact (hI.cc _ hz).2.1 k hD hn rfl)⟩
  -- the block itself
  have hself : BlkRel { c with w := c.w.setRow (c.E k).b arr' } k { b with clean := b.clean && Sv.all.allL (fun _ => false) xs, rows := b.rows.set row (putL r col xs) } := by
    unfold BlkRel
    refine ⟨hwd, (fun h => by rw [show (c.E k).nil = true from h] at hn; cases hn), fun _ => ⟨arr', hhead, ?_, by simp only [List.length_set]; rw [hsz]; exact hlen, fun h => by simp only [List.length_set]; rw [hsz]; exact hgrow h⟩⟩
    -- the values of all rows, the new ones among them
    obtain ⟨olds, hol, hor, hoc⟩ := RelR_vals _ hrr
    have hrws : ∀ q ∈ b.rows, q.length = b.wd := fun q hq => by
      obtain ⟨i, hi⟩ := List.mem_iff_getElem?.1 hq
      exact (RelR_get _ hrr i q hi).1
    have hput : (putL r col xs).length = b.wd := by rw [putL_length r xs col hcol]; exact hrw
    have hcx : ∃ cx : Cx, cx.w = c.w ∧ RelL b.rows.flatten cx olds ∧ RelL xs cx vs ∧ cx.Le (fun _ => true) (Blk.cx { b with clean := b.clean && Sv.all.allL (fun _ => false) xs, rows := b.rows.set row (putL r col xs) } { c with w := c.w.setRow (c.E k).b arr' }) := by
      unfold Blk.cx
      cases hcl : b.clean with
      | false =>
        simp only [Blk.cx, hcl] at hor
        exact ⟨c, rfl, hor, hxs, by simpa using hle⟩
      | true =>
        simp only [Blk.cx, hcl] at hor
        by_cases hal : Sv.all.allL (fun _ => false) xs = true
        · exact ⟨c.shut, rfl, hor, hxs.closed hal, by simp only [hal, Bool.and_self, if_true]; exact hle.shut⟩
        · simp only [hal, Bool.and_false]
          exact ⟨c, rfl, RelL.le _ (allL_true _) c.shut_le hor, hxs, by simpa using hle⟩
    obtain ⟨cx, hcw, hor', hxs', hcle⟩ := hcx
    have hrow : RelL r cx ((olds.drop (row * b.wd)).take b.wd) := by
      have h1 := RelL_take b.wd _ (RelL_drop (row * b.wd) _ hor')
      have : (b.rows.flatten.drop (row * b.wd)).take b.wd = r := by
        have : ∀ (rows : List (List Sv)) (row : Nat), (∀ q ∈ rows, q.length = b.wd) → rows[row]? = some r → (rows.flatten.drop (row * b.wd)).take b.wd = r := by
          intro rows
          induction rows with
          | nil => intro row _ h; simp at h
          | cons q qs ih =>
            intro row hq h
            have hql := hq q (by simp)
            cases row with
            | zero => simp at h; subst h; simp [← hql]
            | succ row =>
              rw [List.flatten_cons, show (row + 1) * b.wd = q.length + row * b.wd by rw [hql, Nat.add_mul]; omega, List.drop_append]
              rw [List.drop_eq_nil_of_le (by omega), List.nil_append, Nat.add_sub_cancel_left]
              exact ih row (fun p hp => hq p (by simp [hp])) (by simpa using h)
        exact this b.rows row hrws hr
      rwa [this] at h1
    have hrowl : ((olds.drop (row * b.wd)).take b.wd).length = b.wd := by rw [RelL_len _ hrow, hrw]
    have hfl : RelL (b.rows.set row (putL r col xs)).flatten cx (putL olds (row * b.wd) (putL ((olds.drop (row * b.wd)).take b.wd) col vs)) := by
      rw [flatten_set b.rows row _ hrws hput hrlt]
      exact RelL_put hor' (RelL_put hrow hxs' col) _
    refine RelR_of_vals _ (fun q hq => ?_) (RelL.le _ (allL_true _) hcle hfl) fun j u hj => ?_
    · rcases List.mem_or_eq_of_mem_set hq with h | rfl
      · exact hrws q h
      · exact hput
    · rw [Blk.cx_w]
      show (c.w.setRow (c.E k).b arr').cell? ⟨(c.E k).b, 0 + j, none⟩ = some u
      rw [cell_of_row _ _ _ arr' b.elem (0, 0) hhead, harr]
      have hcell : ∀ q u, olds[q]? = some u → arr.toList[q]? = some u := fun q u hq => by
        have := hoc q u hq
        rw [Blk.cx_w, cell_of_row c.w _ _ arr b.elem (0, 0) hh] at this
        rw [Array.getElem?_toList]
        simpa using this
      have hinner : (putL ((olds.drop (row * b.wd)).take b.wd) col vs).length = b.wd := by rw [putL_length _ _ _ (by rw [hrowl, hvl]; omega), hrowl]
      rw [putL_get _ _ _ (by rw [hinner, hol]; omega)] at hj
      rw [hinner] at hj
      rw [Nat.zero_add, putL_get _ _ _ (by simp; omega)]
      by_cases h1 : j < row * b.wd
      · rw [if_pos h1] at hj
        rw [if_pos (by omega)]
        exact hcell j u hj
      · rw [if_neg h1] at hj
        by_cases h2 : j < row * b.wd + b.wd
        · rw [if_pos h2, putL_get _ _ _ (by rw [hrowl, hvl]; omega)] at hj
          by_cases h3 : j - row * b.wd < col
          · rw [if_pos h3, List.getElem?_take, if_pos (by omega), List.getElem?_drop] at hj
            rw [if_pos (by omega)]
            rw [show row * b.wd + (j - row * b.wd) = j by omega] at hj
            exact hcell j u hj
          · rw [if_neg h3] at hj
            by_cases h4 : j - row * b.wd < col + vs.length
            · rw [if_pos h4] at hj
              rw [if_neg (by omega), if_pos (by omega), show j - (row * b.wd + col) = j - row * b.wd - col by omega]
              exact hj
            · rw [if_neg h4, List.getElem?_take, if_pos (by omega), List.getElem?_drop] at hj
              rw [if_neg (by omega), if_neg (by omega)]
              rw [show row * b.wd + (j - row * b.wd) = j by omega] at hj
              exact hcell j u hj
        · rw [if_neg h2] at hj
          rw [if_neg (by omega), if_neg (by omega)]
          exact hcell j u hj
  exact {
    dom := fun q hq => by
      by_cases hqk : q = k
      · subst hqk
        exact ⟨_, by rw [List.getElem?_set_self (List.getElem?_eq_some_iff.1 hb).1], hself⟩
      · obtain ⟨bq, eq, rq⟩ := hI.dom q hq
        refine ⟨bq, by rw [List.getElem?_set_ne (fun e => hqk e.symm)]; exact eq, rq.le hle rfl (fun hnq => hg.block _ (rq.lt hnq) (fun e => ?_)) (fun _ => allR_true _)⟩
        injection e with e
        exact hI.inj q k hq hD hqk hnq hn e
    inj := hI.inj
    xsep := hI.xsep
    xlt := fun q hq => by simpa [World.setRow] using hI.xlt q hq
    xY := hI.xY
    bnd := hI.bnd
    bndG := hI.bndG
    e0 := hI.e0
    mlen := by rw [List.length_set]; exact hI.mlen
    os := hI.os
    tape := hI.tape
    output := hI.output
    size := by simpa [World.setRow] using hI.size
    keep := fun j hj hm hy => by
      have hjn : j ≠ (c.E k).b := fun e => by
        rcases hI.loc k hD hn with h1 | h1
        · exact hm (e ▸ h1)
        · omega
      exact (setRow_other c.w (c.E k).b j arr' hjn).trans (hI.keep j hj hm hy)
    loc := hI.loc
    x0 := hI.x0
    zc := hI.zc
    z0 := hI.z0
    xk := hI.xk
    ca := hI.ca
    cc := fun q hq => ⟨Nat.lt_of_lt_of_le (hI.cc q hq).1 hg.size, (hI.cc q hq).2⟩
    gh := fun q blk hq hbq hnq hgr => by
      have hqk : q ≠ k := fun e => by subst e; rw [show (c.E q).nil = true from hnq] at hn; cases hn
      rw [List.getElem?_set_ne (fun e => hqk e.symm)] at hbq
      exact hI.ghs ⟨hg.os, hg.tape, hg.output, hg.size, fun z hz => hg.block z (hI.cc z hz).1 (fun e => by cases e; exact (hI.cc _ hz).2.1 k hD hn rfl)⟩ hq hbq hnq hgr }

section
variable {G : Gm} {tm : List Sv} {hp : Hp} {o : Oper}

theorem storeV_sound {t : Nat} {x y : Operand} {K : Hp → Prop} (ho : o.op = .store t x y) (hd : o.dst = none) (h : storeV G hp t (evO tm x) (evO tm y) K) : ∃ hp', K hp' ∧ SStep G.P o tm hp tm hp' := by
  obtain ⟨i, hi, h⟩ := h
  have ht := G.ok t i hi
  split at h
  case h_2 => exact h.elim
  rename_i k row col hx
  obtain ⟨b, hb, r, hr, xs, hxs, ⟨hsz, hcol⟩, h⟩ := h
  rw [rowK_eq, blkK_eq, spineK_eq] at h
  refine ⟨_, h, fun F n w0 M c a ds next Q hF hS hn => ?_⟩
  have rx := hS.opnd x
  have ry := hS.opnd y
  rw [hx] at rx
  simp only [Rel] at rx
  obtain ⟨hD, hnil, hv⟩ := rx
  obtain ⟨vs, hvs, hl⟩ := ry.parts hxs
  rw [hpGet_eq] at hb
  rw [nth_eq] at hr
  obtain ⟨w', hrun, hI', hle, hcs⟩ := hS.inv.store hD hnil hb hr hl hcol G.P
  have hlen := RelL_len _ hl
  have hst : (execOp a.eval o).run G.P c.w = .ok .skip w' := by
    simp [execOp, ho, hv, Instr.storeAt, Instr.sureAddr, storeVar, ht.run_sizeOf, hvs, hlen, hsz, hrun]
  have hnext := hn a { c with w := w' } (by
    have := (hS.le (kl := []) (c' := { c with w := w' }) (by rw [notNil]; exact hle) hI' ⟨rfl, rfl, rfl, fun b hb => hcs b hb⟩ fun q bq hq => by
      by_cases hqk : q = k
      · subst hqk; exact hD
      · rw [List.getElem?_set_ne (fun e => hqk e.symm)] at hq
        exact hS.full q bq hq)
    exact this)
  refine ⟨fun f _ => hF.fn f, ?_⟩
  rw [Oper.semAt_eq _ _ _ (by rw [ho]; simp), hst]
  simp only [Oper.uponIn, hd, Act.put]
  exact hnext
end
end Go.Eng

/- The engine, part X: rows written in place: append into what is there, clear, copy. -/
namespace Go.Eng
open Go Go.RowKit

theorem putL_flatten {wd : Nat} : ∀ (rows : List (List Sv)) (lo : Nat) (news : List (List Sv)), (∀ r ∈ rows, r.length = wd) → (∀ r ∈ news, r.length = wd) → lo + news.length ≤ rows.length →
    (putL rows lo news).flatten = putL rows.flatten (lo * wd) news.flatten := by
  intro rows lo news hr hn hl
  have ht : ∀ (rows : List (List Sv)) (n : Nat), (∀ r ∈ rows, r.length = wd) → (rows.take n).flatten = rows.flatten.take (n * wd) ∧ (rows.drop n).flatten = rows.flatten.drop (n * wd) := by
    intro rows
    induction rows with
    | nil => intro n _; simp
    | cons q qs ih =>
      intro n h
      have hq := h q (by simp)
      cases n with
      | zero => simp
      | succ n =>
        obtain ⟨i1, i2⟩ := ih n (fun r hr => h r (by simp [hr]))
        have e : (n + 1) * wd = q.length + n * wd := by rw [hq, Nat.add_mul]; omega
        simp only [List.take_succ_cons, List.drop_succ_cons, List.flatten_cons]
        rw [i1, i2, e, List.take_append, List.drop_append, List.take_of_length_le (show q.length ≤ q.length + n * wd by omega), List.drop_eq_nil_of_le (show q.length ≤ q.length + n * wd by omega), Nat.add_sub_cancel_left]
        exact ⟨rfl, by simp⟩
  have hnl := flatten_len news hn
  unfold putL
  rw [List.flatten_append, List.flatten_append, (ht rows lo hr).1, (ht rows _ hr).2, hnl, Nat.add_mul]

/-- Whole rows of a block, written anew: the world and what is known behind it. -/
theorem Inv.storeRows {w0 : World} {M : Frm} {c : Cx} {hp : Hp} (hI : Inv w0 M c hp) {k lo : Nat} {b : Blk} {news : List (List Sv)} {vs : List Value} (hD : c.D k) (hn : (c.E k).nil = false) (hb : hp[k]? = some (some b))
    (hcl : b.clean = true) (hw : ∀ r ∈ news, r.length = b.wd) (hxs : RelL news.flatten c.shut vs) (hfit : lo + news.length ≤ b.rows.length) (P : Program) :
    ∃ arr arr' : Array Value, c.w.heap[(c.E k).b]? = some (.cells arr b.elem (0, 0)) ∧ (arr.toList.take (lo * b.wd) ++ vs ++ arr.toList.drop (lo * b.wd + vs.length)).toArray = arr' ∧ (storeCells ⟨(c.E k).b, lo * (c.E k).wd, none⟩ vs).run P c.w = .ok () (c.w.setRow (c.E k).b arr') ∧
      Inv w0 M { c with w := c.w.setRow (c.E k).b arr' } (hp.set k (some { b with rows := putL b.rows lo news })) ∧ c.Le (fun _ => true) { c with w := c.w.setRow (c.E k).b arr' } := by
  obtain ⟨b', hb', hwd, hrel⟩ := hI.dom k hD
  rw [hb] at hb'
  cases hb'
  obtain ⟨arr, hh, hrr, hlen, hgrow⟩ := hrel.2 hn
  have hvl := RelL_len _ hxs
  rw [flatten_len news hw] at hvl
  have hbd : (lo + news.length) * b.wd ≤ b.rows.length * b.wd := Nat.mul_le_mul_right _ hfit
  rw [Nat.add_mul] at hbd
  have hfit2 : lo * b.wd + 0 + vs.length ≤ arr.size := by omega
  have hst := run_storeCells_at P (c.E k).b (lo * b.wd) b.elem vs 0 arr c.w hh hfit2 (RelL_one _ hxs)
  rw [hwd]
  simp only [Nat.add_zero] at hst
  refine ⟨arr, _, hh, rfl, hst, ?_⟩
  generalize hA : (arr.toList.take (lo * b.wd) ++ vs ++ arr.toList.drop (lo * b.wd + vs.length)).toArray = arr'
  have hsz : arr'.size = arr.size := by
    rw [← hA]
    simp
    omega
  have harr : ∀ q : Nat, arr'[q]? = (putL arr.toList (lo * b.wd) vs)[q]? := by
    intro q
    rw [← hA]
    unfold putL
    simp [List.append_assoc]
  have hg : c.w.grownBy (c.w.setRow (c.E k).b arr') (some (c.E k).b) := ⟨rfl, rfl, rfl, by simp [World.setRow], fun q _ hq => setRow_other c.w (c.E k).b q arr' (fun e => hq (by rw [e]))⟩
  have hhead : (c.w.setRow (c.E k).b arr').heap[(c.E k).b]? = some (.cells arr' b.elem (0, 0)) := setRow_heap c.w (c.E k).b arr arr' b.elem _ hh
  have hx : ∀ q, c.X q → (c.w.setRow (c.E k).b arr').heap[q]? = c.w.heap[q]? := fun q hq => hg.block q (hI.xlt q hq) (fun e => by cases e; exact hI.xsep k _ hD hn hq rfl)
  have hle : c.Le (fun _ => true) { c with w := c.w.setRow (c.E k).b arr' } := ⟨fun _ _ h => ⟨h, rfl⟩, fun _ h => h, fun _ _ h => h, hx⟩
  refine ⟨?_, hle⟩
  have hputl : (putL b.rows lo news).length = b.rows.length := putL_length _ _ _ hfit
  have hself : BlkRel { c with w := c.w.setRow (c.E k).b arr' } k { b with rows := putL b.rows lo news } := by
    unfold BlkRel
    refine ⟨hwd, (fun h => by rw [show (c.E k).nil = true from h] at hn; cases hn), fun _ => ⟨arr', hhead, ?_, by simp only [hputl]; rw [hsz]; exact hlen, fun h => by simp only [hputl]; rw [hsz]; exact hgrow h⟩⟩
    obtain ⟨olds, hol, hor, hoc⟩ := RelR_vals _ hrr
    have hrws : ∀ q ∈ b.rows, q.length = b.wd := fun q hq => by
      obtain ⟨i, hi⟩ := List.mem_iff_getElem?.1 hq
      exact (RelR_get _ hrr i q hi).1
    simp only [Blk.cx, hcl, if_true] at hor hoc ⊢
    refine RelR_of_vals _ (vs := putL olds (lo * b.wd) vs) (fun r hr => ?_) ?_ fun j u hj => ?_
    · unfold putL at hr
      rcases List.mem_append.1 hr with h | h
      · exact hrws r (List.mem_of_mem_take h)
      · rcases List.mem_append.1 h with h | h
        · exact hw r h
        · exact hrws r (List.mem_of_mem_drop h)
    · rw [putL_flatten b.rows lo news hrws hw hfit]
      exact RelL.le _ (allL_true _) hle.shut (RelL_put hor hxs _)
    · show (c.w.setRow (c.E k).b arr').cell? ⟨(c.E k).b, 0 + j, none⟩ = some u
      rw [cell_of_row _ _ _ arr' b.elem (0, 0) hhead, harr]
      have hcell : ∀ q u, olds[q]? = some u → arr.toList[q]? = some u := fun q u hq => by
        have := hoc q u hq
        rw [show c.shut.w = c.w from rfl, cell_of_row c.w _ _ arr b.elem (0, 0) hh] at this
        rw [Array.getElem?_toList]
        simpa using this
      rw [putL_get _ _ _ (by rw [hol, hvl]; omega)] at hj
      rw [Nat.zero_add, putL_get _ _ _ (by simp; omega)]
      split at hj
      · rename_i h; rw [if_pos h]; exact hcell j u hj
      · rename_i h
        rw [if_neg h]
        split at hj
        · rename_i h2; rw [if_pos h2]; exact hj
        · rename_i h2; rw [if_neg h2]; exact hcell j u hj
  exact {
    dom := fun q hq => by
      by_cases hqk : q = k
      · subst hqk
        exact ⟨_, by rw [List.getElem?_set_self (List.getElem?_eq_some_iff.1 hb).1], hself⟩
      · obtain ⟨bq, eq, rq⟩ := hI.dom q hq
        refine ⟨bq, by rw [List.getElem?_set_ne (fun e => hqk e.symm)]; exact eq, rq.le hle rfl (fun hnq => hg.block _ (rq.lt hnq) (fun e => ?_)) (fun _ => allR_true _)⟩
        injection e with e
        exact hI.inj q k hq hD hqk hnq hn e
    inj := hI.inj
    xsep := hI.xsep
    xlt := fun q hq => by simpa [World.setRow] using hI.xlt q hq
    xY := hI.xY
    bnd := hI.bnd
    bndG := hI.bndG
    e0 := hI.e0
    mlen := by rw [List.length_set]; exact hI.mlen
    os := hI.os
    tape := hI.tape
    output := hI.output
    size := by simpa [World.setRow] using hI.size
    keep := fun j hj hm hy => by
      have hjn : j ≠ (c.E k).b := fun e => by
        rcases hI.loc k hD hn with h1 | h1
        · exact hm (e ▸ h1)
        · omega
      exact (setRow_other c.w (c.E k).b j arr' hjn).trans (hI.keep j hj hm hy)
    loc := hI.loc
    x0 := hI.x0
    zc := hI.zc
    z0 := hI.z0
    xk := hI.xk
    ca := hI.ca
    cc := fun q hq => ⟨Nat.lt_of_lt_of_le (hI.cc q hq).1 hg.size, (hI.cc q hq).2⟩
    gh := fun q blk hq hbq hnq hgr => by
      have hqk : q ≠ k := fun e => by subst e; rw [show (c.E q).nil = true from hnq] at hn; cases hn
      rw [List.getElem?_set_ne (fun e => hqk e.symm)] at hbq
      exact hI.ghs ⟨hg.os, hg.tape, hg.output, hg.size, fun z hz => hg.block z (hI.cc z hz).1 (fun e => by cases e; exact (hI.cc _ hz).2.1 k hD hn rfl)⟩ hq hbq hnq hgr }

/-- Where rows are written: block, first row, how many. -/
def dstV (hp : Hp) (x : Sv) (wd : Nat) (K : Nat → Blk → Nat → Nat → Prop) : Prop :=
  match x with
  | .own k n => Get (hpGet hp k) fun b => Need (b.wd = wd ∧ n ≤ b.rows.length ∧ b.clean = true) (K k b 0 n)
  | .sls k lo n => Get (hpGet hp k) fun b => Need (b.wd = wd ∧ lo + n ≤ b.rows.length ∧ b.clean = true) (K k b lo n)
  | _ => False
/-- The block with other rows. -/
def setB (hp : Hp) (k : Nat) (b : Blk) (rows' : List (List Sv)) (K : Hp → Prop) : Prop :=
  match b with
  | ⟨e, wd, cl, gr, _⟩ => spineK (hp.set k (some ⟨e, wd, cl, gr, rows'⟩)) K
theorem setB_eq (hp : Hp) (k : Nat) (b : Blk) (rows' : List (List Sv)) (K : Hp → Prop) : setB hp k b rows' K = K (hp.set k (some { b with rows := rows' })) := by cases b; simp only [setB, spineK_eq]
def clearV (G : Gm) (hp : Hp) (t : Nat) (x : Sv) (K : Sv → Hp → Prop) : Prop :=
  Get (G.tab t) fun i => match i.kind with
    | .slice e => Get (G.tab e) fun j => Need (j.zero.length = j.size ∧ j.size ≠ 0 ∧ j.zero.all Value.oneCell' = true) <| dstV hp x j.size fun k b lo n =>
        rowsOf b fun rows => EqK (putL rows lo (List.replicate n (j.zero.map .val))) fun rows' => setB hp k b rows' fun hp' => K (.tup []) hp'
    | _ => False
def copyV (G : Gm) (hp : Hp) (t : Nat) (x y : Sv) (K : Sv → Hp → Prop) : Prop :=
  Get (G.tab t) fun i => match i.kind with
    | .slice e => Get (G.tab e) fun j => srcV hp y j.size fun news cl => Need (cl = true) <| dstV hp x j.size fun k b lo n => EqK (min news.length n) fun m =>
        rowsOf b fun rows => EqK (putL rows lo (news.take m)) fun rows' => setB hp k b rows' fun hp' => K (.val (.int .i64 (m : Int))) hp'
    | _ => False
def appPV (G : Gm) (hp : Hp) (t : Nat) (x y : Sv) (K : Sv → Hp → Prop) : Prop :=
  Get (G.tab t) fun i => match i.kind with
    | .slice e => Get (G.tab e) fun j => srcV hp y j.size fun news cl => match x with
      | .own k n => Get (hpGet hp k) fun b => Need (b.wd = j.size ∧ b.elem = e ∧ b.grow = true ∧ n + news.length ≤ b.rows.length ∧ b.clean = true ∧ cl = true) <| EqK (n + news.length) fun n' =>
          rowsOf b fun rows => EqK (putL rows n news) fun rows' => setB hp k b rows' fun hp' => K (.own k n') hp'
      | _ => False
    | _ => False

section
variable {G : Gm} {tm : List Sv} {hp : Hp} {o : Oper}

/-- An operation that writes rows of a block. -/
theorem sstep_rows {s : Sv} {k lo : Nat} {b : Blk} {news : List (List Sv)} (hb : hpGet hp k = some b) (hnd : ∀ c, o.op ≠ .defer c)
    (h : ∀ (w0 : World) (M : Frm) (c : Cx) (a : Act), Inv w0 M c hp → c.D k → (∀ x ∈ o.op.operands, Rel (evO tm x) c (a.eval x)) → ∃ v, (∀ c', c.Le (fun _ => true) c' → Rel s c' v) ∧
      ((execOp a.eval o).run G.P c.w = .ok (.value v) c.w ∧ putL b.rows lo news = b.rows ∨
       b.clean = true ∧ (c.E k).nil = false ∧ ∃ vs, (∀ r ∈ news, r.length = b.wd) ∧ RelL news.flatten c.shut vs ∧ lo + news.length ≤ b.rows.length ∧
         ∀ arr arr' : Array Value, c.w.heap[(c.E k).b]? = some (.cells arr b.elem (0, 0)) → (arr.toList.take (lo * b.wd) ++ vs ++ arr.toList.drop (lo * b.wd + vs.length)).toArray = arr' → (storeCells ⟨(c.E k).b, lo * (c.E k).wd, none⟩ vs).run G.P c.w = .ok () (c.w.setRow (c.E k).b arr') →
           (execOp a.eval o).run G.P c.w = .ok (.value v) (c.w.setRow (c.E k).b arr'))) :
    SStep G.P o tm hp (setT tm o.dst s) (hp.set k (some { b with rows := putL b.rows lo news })) := by
  intro F n w0 M c a ds next Q hF hS hn
  have hb' := hpGet_eq.1 hb
  have hD := hS.full k b hb'
  obtain ⟨v, hrel, hr⟩ := h w0 M c a hS.inv hD (fun x _ => hS.opnd x)
  have fin : ∀ w' : World, (execOp a.eval o).run G.P c.w = .ok (.value v) w' → Inv w0 M { c with w := w' } (hp.set k (some { b with rows := putL b.rows lo news })) → c.Le (fun _ => true) { c with w := w' } → (∀ z, c.C z → w'.heap[z]? = c.w.heap[z]?) → o.wpIn F n G.P a c.w next Q := by
    intro w' hrun hI' hle hcs
    refine Oper.wpIn_value hF hnd hrun ?_
    have := (hS.le (kl := []) (c' := { c with w := w' }) (by rw [notNil]; exact hle) hI' ⟨rfl, rfl, rfl, hcs⟩ fun q bq hq => by
      by_cases hqk : q = k
      · subst hqk; exact hD
      · rw [List.getElem?_set_ne (fun e => hqk e.symm)] at hq
        exact hS.full q bq hq)
    exact hn _ { c with w := w' } (this.put o.dst (hrel _ hle))
  rcases hr with ⟨hrun, hsame⟩ | ⟨hcl, hnil, vs, hw, hvs, hfit, hrun⟩
  · have e : hp.set k (some { b with rows := putL b.rows lo news }) = hp := by
      rw [hsame]
      apply List.ext_getElem?
      intro q
      by_cases hqk : q = k
      · subst hqk
        rw [List.getElem?_set_self (List.getElem?_eq_some_iff.1 hb').1, hb']
      · rw [List.getElem?_set_ne (fun e => hqk e.symm)]
    rw [e] at fin
    exact fin c.w hrun hS.inv ⟨fun _ _ h => ⟨h, rfl⟩, fun _ h => h, fun _ _ h => h, fun _ _ => rfl⟩ (fun _ _ => rfl)
  · obtain ⟨arr, arr', h1, h2, h3, h4, h5⟩ := hS.inv.storeRows hD hnil hb' hcl hw hvs hfit G.P
    exact fin _ (hrun arr arr' h1 h2 h3) h4 h5 (fun z hz => setRow_other c.w (c.E k).b z arr' (fun e => by subst e; exact (hS.inv.cc _ hz).2.1 k hD hnil rfl))

theorem putL_nil {α : Type} (l : List α) (i : Nat) : putL l i [] = l := by simp [putL]

/-- What is known of the place that is written. -/
theorem dstV_sound {x : Sv} {wd : Nat} {K : Nat → Blk → Nat → Nat → Prop} (h : dstV hp x wd K) : ∃ k b lo n, K k b lo n ∧ hpGet hp k = some b ∧ b.wd = wd ∧ lo + n ≤ b.rows.length ∧ b.clean = true ∧
    ∀ (w0 : World) (M : Frm) (c : Cx) (v : Value), Inv w0 M c hp → Rel x c v → ∃ A cap, v = .slice A n cap ∧ c.D k ∧ (c.E k).wd = wd ∧ (n = 0 ∨ (c.E k).nil = false ∧ A = some ⟨(c.E k).b, lo * (c.E k).wd, none⟩) := by
  unfold dstV at h
  split at h
  · rename_i k n
    obtain ⟨b, hb, ⟨hw, hn, hc⟩, h⟩ := h
    refine ⟨k, b, 0, n, h, hb, hw, by omega, hc, fun w0 M c v hI r => ?_⟩
    simp only [Rel] at r
    obtain ⟨hD, hv⟩ := r
    obtain ⟨b', hb', hwd, _⟩ := hI.dom k hD
    rw [hpGet_eq.1 hb] at hb'
    cases hb'
    rcases hv with ⟨hnil, rfl, h0⟩ | ⟨hnil, rfl, _⟩
    · exact ⟨none, 0, by rw [h0], hD, hwd.trans hw, .inl h0⟩
    · exact ⟨_, _, rfl, hD, hwd.trans hw, .inr ⟨hnil, by simp⟩⟩
  · rename_i k lo n
    obtain ⟨b, hb, ⟨hw, hn, hc⟩, h⟩ := h
    refine ⟨k, b, lo, n, h, hb, hw, hn, hc, fun w0 M c v hI r => ?_⟩
    simp only [Rel] at r
    obtain ⟨hD, A, cap, rfl, _, hA⟩ := r
    obtain ⟨b', hb', hwd, _⟩ := hI.dom k hD
    rw [hpGet_eq.1 hb] at hb'
    cases hb'
    exact ⟨A, cap, rfl, hD, hwd.trans hw, hA⟩
  · exact h.elim

theorem zeroCells_list (zero : List Value) (n : Nat) (h : zero.length ≠ 0) : (Builtin.zeroCells zero.toArray n).toList = (List.replicate n zero).flatten := by
  have := zeros_eq zero n h
  simpa [Builtin.zeroCells] using this

theorem clearV_sound {t : Nat} {x : Operand} {K : Sv → Hp → Prop} (ho : o.op = .call { callee := .builtin .clear, args := #[x], argTypes := #[t] }) (h : clearV G hp t (evO tm x) K) : ∃ s hp', K s hp' ∧ SStep G.P o tm hp (setT tm o.dst s) hp' := by
  obtain ⟨i, hi, h⟩ := h
  have ht := G.ok t i hi
  split at h
  case h_2 => exact h.elim
  rename_i e hk
  obtain ⟨j, hj, ⟨hz, hz0, hz1⟩, h⟩ := h
  have hje := G.ok e j hj
  obtain ⟨d, hd, hft⟩ := ht.desc
  rw [hk] at hft
  simp only [TK.fits] at hft
  subst hft
  obtain ⟨k, b, lo, n, h, hb, hw, hfit, hcl, hx⟩ := dstV_sound h
  rw [rowsOf_eq] at h
  have h := h.go
  rw [setB_eq] at h
  refine ⟨_, _, h, sstep_rows hb (by rw [ho]; simp) fun w0 M c a hI hD ha => ?_⟩
  obtain ⟨A, cap, hv, _, hwd, hA⟩ := hx w0 M c _ hI (opnd_rel ha (x := x) (by rw [ho]; simp [Op.operands, Call.operands]) rfl)
  obtain ⟨z, hzr, hzc⟩ := hje.run_zero c.w
  refine ⟨.tuple #[], fun _ _ => by simp only [Rel]; exact ⟨[], rfl, by simp [RelT]⟩, ?_⟩
  rcases hA with h0 | ⟨hnil, rfl⟩
  · left
    subst h0
    refine ⟨?_, by simp [putL_nil]⟩
    cases A <;> simp [execOp, ho, resolve, invoke, builtin, hv, Builtin.clear_, run_underlying hd]
  · by_cases h0 : n = 0
    · left
      subst h0
      refine ⟨?_, by simp [putL_nil]⟩
      simp [execOp, ho, resolve, invoke, builtin, hv, Builtin.clear_, run_underlying hd]
    · right
      have hrow : (j.zero.map Sv.val).length = b.wd := by rw [List.length_map, hz, hw]
      refine ⟨hcl, hnil, (List.replicate n j.zero).flatten, fun r hr => by rw [List.eq_of_mem_replicate hr]; exact hrow, ?_, by rw [List.length_replicate]; exact hfit, fun arr arr' _ _ hst => ?_⟩
      · have : (List.replicate n (j.zero.map Sv.val)).flatten = (List.replicate n j.zero).flatten.map Sv.val := by simp [List.map_flatten]
        rw [this]
        refine RelL_vals _ _ fun v hv => ?_
        obtain ⟨l, hl, hvl⟩ := List.mem_flatten.1 hv
        rw [List.eq_of_mem_replicate hl] at hvl
        exact List.all_eq_true.1 hz1 v hvl
      · have hzz : (Builtin.zeroCells z.cells n).toList = (List.replicate n j.zero).flatten := by rw [hzc]; exact zeroCells_list _ _ (by rw [hz]; exact hz0)
        obtain ⟨m, rfl⟩ : ∃ m, n = m + 1 := ⟨n - 1, by omega⟩
        simp [execOp, ho, resolve, invoke, builtin, hv, Builtin.clear_, run_underlying hd, hzr, hzz, hst]

theorem copyV_sound {t t' : Nat} {x y : Operand} {K : Sv → Hp → Prop} (ho : o.op = .call { callee := .builtin .copy, args := #[x, y], argTypes := #[t, t'] }) (h : copyV G hp t (evO tm x) (evO tm y) K) : ∃ s hp', K s hp' ∧ SStep G.P o tm hp (setT tm o.dst s) hp' := by
  obtain ⟨i, hi, h⟩ := h
  have ht := G.ok t i hi
  split at h
  case h_2 => exact h.elim
  rename_i e hk
  obtain ⟨j, hj, h⟩ := h
  have hje := G.ok e j hj
  obtain ⟨d, hd, hft⟩ := ht.desc
  rw [hk] at hft
  simp only [TK.fits] at hft
  subst hft
  obtain ⟨I, hI', hIs, hIb, z, hz, hzc⟩ := hje.info
  obtain ⟨news, cl, h, hsrc⟩ := srcV_sound h
  obtain ⟨rfl, h⟩ := h
  obtain ⟨k, b, lo, n, h, hb, hw, hfit, hcl, hx⟩ := dstV_sound h
  have h := h.go
  rw [rowsOf_eq] at h
  have h := h.go
  rw [setB_eq] at h
  refine ⟨_, _, h, sstep_rows hb (by rw [ho]; simp) fun w0 M c a hI hD ha => ?_⟩
  have hx0 : x ∈ o.op.operands := by rw [ho]; simp [Op.operands, Call.operands]
  have hy0 : y ∈ o.op.operands := by rw [ho]; simp [Op.operands, Call.operands]
  obtain ⟨A, cap, hv, _, hwd, hA⟩ := hx w0 M c _ hI (opnd_rel ha hx0 rfl)
  obtain ⟨B, cy, vs, ey, hvl, hvr, hvw, hcell⟩ := (hsrc w0 M c _ hI (opnd_rel ha hy0 rfl)).vals (.inr trivial)
  refine ⟨.int .i64 ((min news.length n : Nat) : Int), fun _ _ => by simp [Rel], ?_⟩
  -- the cells that are read
  have hrd : ∀ m, m ≤ news.length → (m = 0 ∨ ∃ cs : List Value, cs = vs.take (m * j.size) ∧ (Builtin.firstCells j.size m (.slice B news.length cy)).run G.P c.w = .ok cs.toArray c.w) := by
    intro m hm
    rcases hcell with h0 | ⟨bb, off, rfl, hc⟩
    · left; omega
    · right
      refine ⟨_, rfl, ?_⟩
      have h1 : (vs.take (m * j.size)).length = m * j.size := by
        rw [List.length_take, hvl]
        exact Nat.min_eq_left (Nat.mul_le_mul_right _ hm)
      have := run_loadCells_list (P := G.P) c.w ⟨bb, off, none⟩ (vs.take (m * j.size)) (fun q u hq => by
        rw [Addr.add_lit]
        rw [List.getElem?_take] at hq
        split at hq
        · exact hc q u hq
        · cases hq)
      rw [h1] at this
      simp [Builtin.firstCells, this]
  have hf0 : (Builtin.firstCells j.size 0 (.slice B news.length cy)).run G.P c.w = .ok #[] c.w := by
    cases B <;> simp [Builtin.firstCells, loadCells, loadCellsFrom]
  have hsz : (sizeOf e).run G.P c.w = .ok j.size c.w := hje.run_sizeOf c.w
  by_cases h0 : min news.length n = 0
  · left
    refine ⟨?_, by rw [h0]; simp [putL_nil]⟩
    have h0' : Nat.min news.length n = 0 := h0
    cases A <;> simp [execOp, ho, resolve, invoke, builtin, hv, ey, Builtin.copy_, run_underlying hd, Builtin.lenOf, hsz, h0', hf0, storeCells, goInt, h0]
  · right
    rcases hA with h1 | ⟨hnil, rfl⟩
    · omega
    · rcases hrd (min news.length n) (Nat.min_le_left _ _) with h2 | ⟨cs, rfl, hf⟩
      · exact absurd h2 h0
      · refine ⟨hcl, hnil, vs.take (min news.length n * j.size), fun r hr => by rw [hw]; exact hvw r (List.mem_of_mem_take hr), ?_, by rw [List.length_take]; omega, fun arr arr' _ _ hst => ?_⟩
        · have hfl : (news.take (min news.length n)).flatten = news.flatten.take (min news.length n * j.size) := by
            have : ∀ (rows : List (List Sv)) (m : Nat), (∀ r ∈ rows, r.length = j.size) → (rows.take m).flatten = rows.flatten.take (m * j.size) := by
              intro rows
              induction rows with
              | nil => intro m _; simp
              | cons q qs ih =>
                intro m hq
                have hql := hq q (by simp)
                cases m with
                | zero => simp
                | succ m =>
                  rw [List.take_succ_cons, List.flatten_cons, List.flatten_cons, ih m (fun r hr => hq r (by simp [hr])), show (m + 1) * j.size = q.length + m * j.size by rw [hql, Nat.add_mul]; omega, List.take_append, List.take_of_length_le (show q.length ≤ q.length + m * j.size by omega), Nat.add_sub_cancel_left]
            exact this news _ hvw
          rw [hfl]
          exact RelL_take _ _ (by simpa using hvr)
        · have hf' : (Builtin.firstCells j.size (Nat.min news.length n) (.slice B news.length cy)).run G.P c.w = .ok (vs.take (min news.length n * j.size)).toArray c.w := hf
          simp [execOp, ho, resolve, invoke, builtin, hv, ey, Builtin.copy_, run_underlying hd, Builtin.lenOf, hsz, hf', hst, goInt]

theorem appPV_sound {t : Nat} {x y : Operand} {K : Sv → Hp → Prop} (ho : o.op = .call { callee := .builtin .append, args := #[x, y], argTypes := #[t, t] }) (h : appPV G hp t (evO tm x) (evO tm y) K) : ∃ s hp', K s hp' ∧ SStep G.P o tm hp (setT tm o.dst s) hp' := by
  obtain ⟨i, hi, h⟩ := h
  have ht := G.ok t i hi
  split at h
  case h_2 => exact h.elim
  rename_i e hk
  obtain ⟨j, hj, h⟩ := h
  have hje := G.ok e j hj
  obtain ⟨d, hd, hft⟩ := ht.desc
  rw [hk] at hft
  simp only [TK.fits] at hft
  subst hft
  obtain ⟨I, hI', hIs, hIb, z, hz, hzc⟩ := hje.info
  obtain ⟨news, cl, h, hsrc⟩ := srcV_sound h
  split at h
  case h_2 => exact h.elim
  rename_i k n hx
  obtain ⟨b, hb, ⟨hw, hel, hgr, hfit, hcl, rfl⟩, h⟩ := h
  have h := h.go
  rw [rowsOf_eq] at h
  have h := h.go
  rw [setB_eq] at h
  refine ⟨_, _, h, sstep_rows hb (by rw [ho]; simp) fun w0 M c a hI hD ha => ?_⟩
  have hx0 : x ∈ o.op.operands := by rw [ho]; simp [Op.operands, Call.operands]
  have hy0 : y ∈ o.op.operands := by rw [ho]; simp [Op.operands, Call.operands]
  have rx := opnd_rel ha hx0 hx
  simp only [Rel] at rx
  obtain ⟨_, hv⟩ := rx
  obtain ⟨b', hb', hwd, hrel⟩ := hI.dom k hD
  rw [hpGet_eq.1 hb] at hb'
  cases hb'
  obtain ⟨B, cy, vs, ey, hvl, hvr, hvw, hcell⟩ := (hsrc w0 M c _ hI (opnd_rel ha hy0 rfl)).vals (.inr trivial)
  have hexec : execOp a.eval o = (do pure (.value (← Builtin.append_ #[t, t] o.type #[a.eval x, a.eval y]))) := by simp [execOp, ho, resolve, invoke, builtin]
  have hf0 : ∀ w, (Builtin.firstCells I.size 0 (.slice B 0 cy)).run G.P w = .ok #[] w := by
    intro w
    cases B <;> simp [Builtin.firstCells, loadCells, loadCellsFrom]
  refine ⟨.slice (if (c.E k).nil then none else some ⟨(c.E k).b, 0, none⟩) (n + news.length) (if (c.E k).nil then 0 else (c.E k).cap), fun c' hle => ?_, ?_⟩
  · simp only [Rel]
    obtain ⟨hD', hE⟩ := hle.ed k rfl hD
    rw [hE]
    refine ⟨hD', ?_⟩
    rcases hv with ⟨hnil, _, h0⟩ | ⟨hnil, _, _⟩
    · left
      rcases hrel.1 hnil with ⟨_, h1⟩ | ⟨h1, _⟩
      · rw [h1] at hfit
        simp only [List.length_nil] at hfit
        have e : n + news.length = 0 := by omega
        simp [hnil, e]
      · rw [hgr] at h1; cases h1
    · right
      obtain ⟨arr, hh, hr, hle, hg⟩ := hrel.2 hnil
      exact ⟨hnil, by simp [hnil], by have := (hg hgr).2.1; omega⟩
  · rcases hv with ⟨hnil, ex, h0⟩ | ⟨hnil, ex, hnc⟩
    · left
      rcases hrel.1 hnil with ⟨_, h1⟩ | ⟨h1, _⟩
      · rw [h1] at hfit
        simp only [List.length_nil] at hfit
        have e0 : news = [] := List.eq_nil_of_length_eq_zero (by omega)
        subst e0
        subst h0
        refine ⟨?_, by rw [putL_nil]⟩
        rw [hexec, ex, ey]
        simp [Builtin.append_, run_underlying hd, sizeOf, typeInfo, hI', Builtin.lenOf, hf0, hnil]
      · rw [hgr] at h1; cases h1
    · obtain ⟨arr, hh, hr, hle, hg⟩ := hrel.2 hnil
      · obtain ⟨hg1, hg2, hg3⟩ := hg hgr
        by_cases h0 : news.length = 0
        · left
          have e0 : news = [] := List.eq_nil_of_length_eq_zero h0
          subst e0
          refine ⟨?_, by rw [putL_nil]⟩
          rw [hexec, ex, ey]
          simp [Builtin.append_, run_underlying hd, sizeOf, typeInfo, hI', Builtin.lenOf, hf0, hnil, hnc, storeCells]
        · right
          rcases hcell with h1 | ⟨bb, off, rfl, hc⟩
          · exact absurd h1 h0
          refine ⟨hcl, hnil, vs, fun r hr => by rw [hw]; exact hvw r hr, by simpa using hvr, hfit, fun arr2 arr' hh2 ha2 _ => ?_⟩
          rw [hh] at hh2
          cases hh2
          have hsz : n * I.size + vs.length ≤ arr.size := by
            rw [hvl, hIs, ← Nat.add_mul]
            refine Nat.le_trans (Nat.mul_le_mul_right _ (Nat.le_trans hfit hg2)) ?_
            rw [← hw]; exact hg1
          have := run_append_room (P := G.P) (w := c.w) t o.type e I hd hI' (c.E k).b n (c.E k).cap arr (by rw [← hel]; exact hh) ⟨bb, off, none⟩ news.length cy vs (by rw [hvl, hIs]) (fun q u hq => by rw [Addr.add_lit]; exact hc q u hq) (RelL_one _ hvr) (by omega) hsz
          rw [hexec, ex, ey]
          rw [hIs, ← hw, ha2] at this
          simp [this, hnil]
end
/-- Append: where it is not known whether there is room, and where there is. -/
inductive AppC (c g p : Prop) : Prop
  | grow : c → g → AppC c g p
  | place : p → AppC c g p
end Go.Eng
