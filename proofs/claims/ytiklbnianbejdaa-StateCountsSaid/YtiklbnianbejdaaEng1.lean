/- The engine, first part. -/
import Derived.Below
import Derived.CallsIn
import Derived.Laws.AppendOwn
import Derived.Laws.Append
import Derived.Laws.CopyRow
import Derived.Laws.Rows
import Derived.Deep.Draws
import Derived.Laws.Entries
import Derived.Laws.Cells
import Derived.AtR
import Derived.Lib.SliceRun
import Derived.WalkSpells
set_option linter.unusedSimpArgs false
set_option maxRecDepth 20000
set_option linter.unusedVariables false
/- The engine, part A: symbolic values, and what it means that a value of the machine is one of them. -/
namespace Go.Eng
open Go Go.RowKit

/-- A symbolic value. 'ptr', 'own', 'sls' name blocks of the local heap by their numbers; 'ext' is a slice by its content, 'ref' a pointer by what lies behind it. -/
inductive Sv where
  | val (x : Value)
  | any
  | agg (cs : List Sv)
  | tup (cs : List Sv)
  | ptr (k row col : Nat)
  | own (k n : Nat)
  | sls (k lo n : Nat)
  | ext (fr : Bool) (wd : Nat) (rows : List (List Sv))
  | ref (fr : Bool) (cs : List Sv)
  | clo (f : Nat) (caps : List Sv)

/-- Where a local block lies. -/
structure Loc where
  b : Nat
  cap : Nat
  nil : Bool
  wd : Nat

/-- What a relation hangs on: where the local blocks lie, which of them are known, in which blocks outside a content may lie, which blocks are new or for good, the world; A: blocks that whoever is called back may turn; C: those, and all others that have to stay as they are; Z: those of C in which the machine notes a loop's deferred calls. -/
structure Cx where
  E : Nat → Loc
  D : Nat → Prop
  X : Nat → Prop
  G : Nat → Prop
  w : World
  A : Nat → Prop := fun _ => False
  C : Nat → Prop := fun _ => False
  Z : Nat → Prop := fun _ => False

/-- What a walk hangs on from its start: which blocks of the world it may turn, which are new or for good, which are the machine's own, how many blocks were handed in to be turned, and where they lie. -/
structure Frm where
  M : Nat → Prop
  G : Nat → Prop
  Y : Nat → Prop
  m : Nat
  E0 : Nat → Loc
  J : Nat → List (List Sv) → (Nat → Prop) → (Nat → Prop) → World → Prop := fun _ _ _ _ _ => False
  C0 : Nat → Prop := fun _ => False
  X0 : Nat → Prop := fun _ => True
  Z0 : Nat → Prop := fun _ => False
  Xk : Nat → Prop := fun _ => False

/-- A world in which all that lies in blocks of C is as it was. -/
structure WSame (C : Nat → Prop) (w w' : World) : Prop where
  os : w'.os = w.os
  tape : w'.tape = w.tape
  output : w'.output = w.output
  size : w.heap.size ≤ w'.heap.size
  block : ∀ b, C b → w'.heap[b]? = w.heap[b]?

structure Frm.Fit (M : Frm) (w0 : World) : Prop where
  g : ∀ b, w0.heap.size ≤ b ∨ M.M b → M.G b
  y : ∀ b, M.Y b → b < w0.heap.size ∧ ¬ M.M b
  js : ∀ st r A C w w', M.J st r A C w → WSame C w w' → M.J st r A C w'

def Cx.shut (c : Cx) : Cx := { c with D := fun _ => False }

mutual
def Rel : Sv → Cx → Value → Prop
  | .val x, _, v => v = x
  | .any, _, _ => True
  | .agg cs, c, v => ∃ vs : List Value, v = .agg vs.toArray ∧ RelL cs c vs
  | .tup cs, c, v => ∃ vs : List Value, v = .tuple vs.toArray ∧ RelT cs c vs
  | .ptr k row col, c, v => c.D k ∧ (c.E k).nil = false ∧ v = .pointer (some ⟨(c.E k).b, row * (c.E k).wd + col, none⟩)
  | .own k n, c, v => c.D k ∧ ((c.E k).nil = true ∧ v = .slice none 0 0 ∧ n = 0 ∨ (c.E k).nil = false ∧ v = .slice (some ⟨(c.E k).b, 0, none⟩) n (c.E k).cap ∧ n ≤ (c.E k).cap)
  | .sls k lo n, c, v => c.D k ∧ ∃ a cap, v = .slice a n cap ∧ n ≤ cap ∧ (n = 0 ∨ (c.E k).nil = false ∧ a = some ⟨(c.E k).b, lo * (c.E k).wd, none⟩)
  | .ext fr wd rows, c, v => ∃ a cap, v = .slice a rows.length cap ∧ rows.length ≤ cap ∧ (rows = [] ∨ ∃ b off, a = some ⟨b, off, none⟩ ∧ c.X b ∧ (fr = true → c.G b) ∧ RelR rows c.shut wd b off)
  | .ref fr cs, c, v => ∃ b off, v = .pointer (some ⟨b, off, none⟩) ∧ c.X b ∧ (fr = true → c.G b) ∧ RelC cs c.shut b off
  | .clo f cs, c, v => ∃ vs : List Value, v = .func (.func f) #[] vs.toArray ∧ RelT cs c vs
def RelL : List Sv → Cx → List Value → Prop
  | [], _, vs => vs = []
  | s :: ss, c, vs => ∃ u us, vs = u :: us ∧ u.oneCell' = true ∧ Rel s c u ∧ RelL ss c us
def RelT : List Sv → Cx → List Value → Prop
  | [], _, vs => vs = []
  | s :: ss, c, vs => ∃ u us, vs = u :: us ∧ Rel s c u ∧ RelT ss c us
def RelC : List Sv → Cx → Nat → Nat → Prop
  | [], _, _, _ => True
  | s :: ss, c, b, off => (∃ u, c.w.cell? ⟨b, off, none⟩ = some u ∧ u.oneCell' = true ∧ Rel s c u) ∧ RelC ss c b (off + 1)
def RelR : List (List Sv) → Cx → Nat → Nat → Nat → Prop
  | [], _, _, _, _ => True
  | r :: rs, c, wd, b, off => r.length = wd ∧ RelC r c b off ∧ RelR rs c wd b (off + wd)
end

/-- Which local blocks a symbolic value names. -/
def Sv.all (p : Nat → Bool) : Sv → Bool
  | .agg cs => allL p cs
  | .tup cs => allL p cs
  | .clo _ cs => allL p cs
  | .ptr k _ _ => p k
  | .own k _ => p k
  | .sls k _ _ => p k
  | _ => true
where allL (p : Nat → Bool) : List Sv → Bool
  | [] => true
  | s :: ss => s.all p && allL p ss

mutual
theorem Sv.all_true : ∀ s : Sv, s.all (fun _ => true) = true
  | .val _ | .any | .ptr _ _ _ | .own _ _ | .sls _ _ _ | .ext _ _ _ | .ref _ _ => by simp [Sv.all]
  | .agg cs => by simp [Sv.all, allL_true cs]
  | .tup cs => by simp [Sv.all, allL_true cs]
  | .clo _ cs => by simp [Sv.all, allL_true cs]
theorem allL_true : ∀ cs : List Sv, Sv.all.allL (fun _ => true) cs = true
  | [] => rfl
  | s :: ss => by simp [Sv.all.allL, Sv.all_true s, allL_true ss]
end
theorem allR_true (rs : List (List Sv)) : rs.all (Sv.all.allL (fun _ => true)) = true := by
  rw [List.all_eq_true]
  exact fun r _ => allL_true r

/-- What has to hold between two contexts so that each relation that names blocks of p alone is kept. -/
structure Cx.Le (p : Nat → Bool) (c c' : Cx) : Prop where
  ed : ∀ k, p k = true → c.D k → c'.D k ∧ c'.E k = c.E k
  x : ∀ b, c.X b → c'.X b
  b : ∀ b, c.X b → c.G b → c'.G b
  heap : ∀ b, c.X b → c'.w.heap[b]? = c.w.heap[b]?

theorem Cx.Le.shut {p : Nat → Bool} {c c' : Cx} (h : c.Le p c') : c.shut.Le (fun _ => true) c'.shut := ⟨fun _ _ hk => hk.elim, h.x, h.b, h.heap⟩

theorem Cx.Le.cell {p : Nat → Bool} {c c' : Cx} (h : c.Le p c') {b off : Nat} (hb : c.X b) : c'.w.cell? ⟨b, off, none⟩ = c.w.cell? ⟨b, off, none⟩ :=
  World.cell?_of_block (h.heap b hb)

/-- In a shut context every value names no block that is known. -/
def Cx.Le1 (c c' : Cx) : Prop := c.shut.Le (fun _ => true) c'.shut

mutual
theorem Rel.le {p : Nat → Bool} : ∀ (s : Sv) {c c' : Cx} {v : Value}, s.all p = true → c.Le p c' → Rel s c v → Rel s c' v
  | .val x, _, _, _, _, _, r => by simpa [Rel] using r
  | .any, _, _, _, _, _, _ => by simp [Rel]
  | .agg cs, _, _, _, ha, h, r => by
    simp only [Rel] at r ⊢
    obtain ⟨vs, e, hl⟩ := r
    exact ⟨vs, e, RelL.le cs (by simpa [Sv.all] using ha) h hl⟩
  | .tup cs, _, _, _, ha, h, r => by
    simp only [Rel] at r ⊢
    obtain ⟨vs, e, hl⟩ := r
    exact ⟨vs, e, RelT.le cs (by simpa [Sv.all] using ha) h hl⟩
  | .ptr k row col, _, _, _, ha, h, r => by
    simp only [Rel] at r ⊢
    have hp : p k = true := by simpa [Sv.all] using ha
    rw [(h.ed k hp r.1).2]
    exact ⟨(h.ed k hp r.1).1, r.2⟩
  | .own k n, _, _, _, ha, h, r => by
    simp only [Rel] at r ⊢
    have hp : p k = true := by simpa [Sv.all] using ha
    rw [(h.ed k hp r.1).2]
    exact ⟨(h.ed k hp r.1).1, r.2⟩
  | .sls k lo n, _, _, _, ha, h, r => by
    simp only [Rel] at r ⊢
    have hp : p k = true := by simpa [Sv.all] using ha
    rw [(h.ed k hp r.1).2]
    exact ⟨(h.ed k hp r.1).1, r.2⟩
  | .ext fr wd rows, _, _, _, _, h, r => by
    simp only [Rel] at r ⊢
    obtain ⟨a, cap, e, hc, hr⟩ := r
    refine ⟨a, cap, e, hc, hr.imp id ?_⟩
    rintro ⟨b, off, ea, hx, hf, hr⟩
    exact ⟨b, off, ea, h.x b hx, fun e => h.b b hx (hf e), RelR.le rows (allR_true rows) h.shut (h.heap b hx) hr⟩
  | .ref fr cs, _, _, _, _, h, r => by
    simp only [Rel] at r ⊢
    obtain ⟨b, off, e, hx, hf, hr⟩ := r
    exact ⟨b, off, e, h.x b hx, fun e => h.b b hx (hf e), RelC.le cs (allL_true cs) h.shut (h.heap b hx) hr⟩
  | .clo f cs, _, _, _, ha, h, r => by
    simp only [Rel] at r ⊢
    obtain ⟨vs, e, hl⟩ := r
    exact ⟨vs, e, RelT.le cs (by simpa [Sv.all] using ha) h hl⟩
theorem RelL.le {p : Nat → Bool} : ∀ (ss : List Sv) {c c' : Cx} {vs : List Value}, Sv.all.allL p ss = true → c.Le p c' → RelL ss c vs → RelL ss c' vs
  | [], _, _, _, _, _, r => by simpa [RelL] using r
  | s :: ss, _, _, _, ha, h, r => by
    simp only [RelL] at r ⊢
    simp only [Sv.all.allL, Bool.and_eq_true] at ha
    obtain ⟨u, us, e, h1, hs, hl⟩ := r
    exact ⟨u, us, e, h1, Rel.le s ha.1 h hs, RelL.le ss ha.2 h hl⟩
theorem RelT.le {p : Nat → Bool} : ∀ (ss : List Sv) {c c' : Cx} {vs : List Value}, Sv.all.allL p ss = true → c.Le p c' → RelT ss c vs → RelT ss c' vs
  | [], _, _, _, _, _, r => by simpa [RelT] using r
  | s :: ss, _, _, _, ha, h, r => by
    simp only [RelT] at r ⊢
    simp only [Sv.all.allL, Bool.and_eq_true] at ha
    obtain ⟨u, us, e, hs, hl⟩ := r
    exact ⟨u, us, e, Rel.le s ha.1 h hs, RelT.le ss ha.2 h hl⟩
theorem RelC.le {p : Nat → Bool} : ∀ (ss : List Sv) {c c' : Cx} {b off : Nat}, Sv.all.allL p ss = true → c.Le p c' → c'.w.heap[b]? = c.w.heap[b]? → RelC ss c b off → RelC ss c' b off
  | [], _, _, _, _, _, _, _, _ => by simp [RelC]
  | s :: ss, _, _, b, off, ha, h, hx, r => by
    simp only [RelC] at r ⊢
    simp only [Sv.all.allL, Bool.and_eq_true] at ha
    obtain ⟨⟨u, e, h1, hs⟩, hl⟩ := r
    exact ⟨⟨u, (World.cell?_of_block (a := ⟨b, off, none⟩) hx).trans e, h1, Rel.le s ha.1 h hs⟩, RelC.le ss ha.2 h hx hl⟩
theorem RelR.le {p : Nat → Bool} : ∀ (rs : List (List Sv)) {c c' : Cx} {wd b off : Nat}, rs.all (Sv.all.allL p) = true → c.Le p c' → c'.w.heap[b]? = c.w.heap[b]? → RelR rs c wd b off → RelR rs c' wd b off
  | [], _, _, _, _, _, _, _, _, _ => by simp [RelR]
  | r :: rs, _, _, wd, b, off, ha, h, hx, q => by
    simp only [RelR] at q ⊢
    simp only [List.all_cons, Bool.and_eq_true] at ha
    obtain ⟨hw, hr, hl⟩ := q
    exact ⟨hw, RelC.le r ha.1 h hx hr, RelR.le rs ha.2 h hx hl⟩
end
end Go.Eng

/- The engine, part B: the local heap; reading, storing, making blocks. -/
namespace Go.Eng
open Go Go.RowKit

theorem RelL_len : ∀ (ss : List Sv) {c : Cx} {vs : List Value}, RelL ss c vs → vs.length = ss.length
  | [], _, _, r => by simp only [RelL] at r; simp [r]
  | s :: ss, _, _, r => by
    simp only [RelL] at r
    obtain ⟨u, us, e, _, _, hl⟩ := r
    subst e
    simp [RelL_len ss hl]

theorem RelL_one : ∀ (ss : List Sv) {c : Cx} {vs : List Value}, RelL ss c vs → ∀ u ∈ vs, u.oneCell' = true
  | [], _, _, r => by simp only [RelL] at r; simp [r]
  | s :: ss, _, _, r => by
    simp only [RelL] at r
    obtain ⟨u, us, e, h1, _, hl⟩ := r
    subst e
    intro x hx
    rcases List.mem_cons.1 hx with rfl | hx
    · exact h1
    · exact RelL_one ss hl x hx

theorem RelL_get : ∀ (ss : List Sv) {c : Cx} {vs : List Value}, RelL ss c vs → ∀ (i : Nat) (s : Sv) (v : Value), ss[i]? = some s → vs[i]? = some v → Rel s c v
  | [], _, _, _, _, _, _, h, _ => by simp at h
  | t :: ss, _, _, r, i, s, v, h, hv => by
    simp only [RelL] at r
    obtain ⟨u, us, e, _, hs, hl⟩ := r
    subst e
    cases i with
    | zero => simp at h hv; subst h; subst hv; exact hs
    | succ i => exact RelL_get ss hl i s v (by simpa using h) (by simpa using hv)

theorem RelL_append : ∀ (ss : List Sv) {ts : List Sv} {c : Cx} {vs ws : List Value}, RelL ss c vs → RelL ts c ws → RelL (ss ++ ts) c (vs ++ ws)
  | [], _, _, _, _, r, q => by simp only [RelL] at r; subst r; simpa using q
  | s :: ss, _, _, _, _, r, q => by
    simp only [RelL] at r
    obtain ⟨u, us, e, h1, hs, hl⟩ := r
    subst e
    simp only [List.cons_append, RelL]
    exact ⟨u, _, rfl, h1, hs, RelL_append ss hl q⟩

theorem RelL_drop : ∀ (i : Nat) (ss : List Sv) {c : Cx} {vs : List Value}, RelL ss c vs → RelL (ss.drop i) c (vs.drop i)
  | 0, _, _, _, r => by simpa using r
  | i + 1, [], _, _, r => by simp only [RelL] at r; simp [r, RelL]
  | i + 1, s :: ss, _, _, r => by
    simp only [RelL] at r
    obtain ⟨u, us, e, _, _, hl⟩ := r
    subst e
    simpa using RelL_drop i ss hl

theorem RelL_take : ∀ (i : Nat) (ss : List Sv) {c : Cx} {vs : List Value}, RelL ss c vs → RelL (ss.take i) c (vs.take i)
  | 0, _, _, _, _ => by simp [RelL]
  | i + 1, [], _, _, r => by simp only [RelL] at r; simp [r, RelL]
  | i + 1, s :: ss, _, _, r => by
    simp only [RelL] at r
    obtain ⟨u, us, e, h1, hs, hl⟩ := r
    subst e
    simp only [List.take_succ_cons, RelL]
    exact ⟨u, _, rfl, h1, hs, RelL_take i ss hl⟩

/-- The values behind a row of cells. -/
theorem RelC_vals : ∀ (ss : List Sv) {c : Cx} {b off : Nat}, RelC ss c b off → ∃ vs, RelL ss c vs ∧ ∀ j u, vs[j]? = some u → c.w.cell? ⟨b, off + j, none⟩ = some u
  | [], _, _, _, _ => ⟨[], by simp [RelL], by simp⟩
  | s :: ss, c, b, off, r => by
    simp only [RelC] at r
    obtain ⟨⟨u, e, h1, hs⟩, hl⟩ := r
    obtain ⟨vs, hv, hc⟩ := RelC_vals ss hl
    refine ⟨u :: vs, by simp only [RelL]; exact ⟨u, vs, rfl, h1, hs, hv⟩, fun j x hx => ?_⟩
    cases j with
    | zero => simp at hx; subst hx; simpa using e
    | succ j => rw [show off + (j + 1) = off + 1 + j by omega]; exact hc j x (by simpa using hx)

theorem RelC_of_vals : ∀ (ss : List Sv) {c : Cx} {b off : Nat} {vs : List Value}, RelL ss c vs → (∀ j u, vs[j]? = some u → c.w.cell? ⟨b, off + j, none⟩ = some u) → RelC ss c b off
  | [], _, _, _, _, _, _ => by simp [RelC]
  | s :: ss, c, b, off, vs, r, hc => by
    simp only [RelL] at r
    obtain ⟨u, us, e, h1, hs, hl⟩ := r
    subst e
    simp only [RelC]
    refine ⟨⟨u, by simpa using hc 0 u (by simp), h1, hs⟩, RelC_of_vals ss hl fun j x hx => ?_⟩
    have := hc (j + 1) x (by simpa using hx)
    rwa [show off + (j + 1) = off + 1 + j by omega] at this

theorem RelC_get : ∀ (ss : List Sv) {c : Cx} {b off : Nat}, RelC ss c b off → ∀ (i : Nat) (s : Sv), ss[i]? = some s → ∃ u, c.w.cell? ⟨b, off + i, none⟩ = some u ∧ u.oneCell' = true ∧ Rel s c u
  | [], _, _, _, _, _, _, h => by simp at h
  | t :: ss, _, _, off, r, i, s, h => by
    simp only [RelC] at r
    obtain ⟨hu, hl⟩ := r
    cases i with
    | zero => simp at h; subst h; exact hu
    | succ i =>
      have := RelC_get ss hl i s (by simpa using h)
      rwa [show off + 1 + i = off + (i + 1) by omega] at this

theorem RelC_drop : ∀ (i : Nat) (ss : List Sv) {c : Cx} {b off : Nat}, RelC ss c b off → RelC (ss.drop i) c b (off + i)
  | 0, _, _, _, _, r => by simpa using r
  | i + 1, [], _, _, _, _ => by simp [RelC]
  | i + 1, s :: ss, _, _, off, r => by
    simp only [RelC] at r
    have := RelC_drop i ss r.2
    rw [show off + 1 + i = off + (i + 1) by omega] at this
    simpa using this

theorem RelC_take : ∀ (i : Nat) (ss : List Sv) {c : Cx} {b off : Nat}, RelC ss c b off → RelC (ss.take i) c b off
  | 0, _, _, _, _, _ => by simp [RelC]
  | i + 1, [], _, _, _, _ => by simp [RelC]
  | i + 1, s :: ss, _, _, off, r => by
    simp only [RelC] at r
    simp only [List.take_succ_cons, RelC]
    exact ⟨r.1, RelC_take i ss r.2⟩

theorem RelR_get : ∀ (rs : List (List Sv)) {c : Cx} {wd b off : Nat}, RelR rs c wd b off → ∀ (i : Nat) (r : List Sv), rs[i]? = some r → r.length = wd ∧ RelC r c b (off + i * wd)
  | [], _, _, _, _, _, _, _, h => by simp at h
  | q :: rs, _, wd, _, off, h, i, r, hr => by
    simp only [RelR] at h
    obtain ⟨hw, hc, hl⟩ := h
    cases i with
    | zero => simp at hr; subst hr; exact ⟨hw, by simpa using hc⟩
    | succ i =>
      have := RelR_get rs hl i r (by simpa using hr)
      rwa [show off + wd + i * wd = off + (i + 1) * wd by rw [Nat.add_mul]; omega] at this

theorem RelR_of : ∀ (rs : List (List Sv)) {c : Cx} {wd b off : Nat}, (∀ (i : Nat) (r : List Sv), rs[i]? = some r → r.length = wd ∧ RelC r c b (off + i * wd)) → RelR rs c wd b off
  | [], _, _, _, _, _ => by simp [RelR]
  | q :: rs, c, wd, b, off, h => by
    simp only [RelR]
    have h0 := h 0 q (by simp)
    refine ⟨h0.1, by simpa using h0.2, RelR_of rs fun i r hr => ?_⟩
    have := h (i + 1) r (by simpa using hr)
    rwa [show off + (i + 1) * wd = off + wd + i * wd by rw [Nat.add_mul]; omega] at this

theorem RelR_iff {rs : List (List Sv)} {c : Cx} {wd b off : Nat} : RelR rs c wd b off ↔ ∀ (i : Nat) (r : List Sv), rs[i]? = some r → r.length = wd ∧ RelC r c b (off + i * wd) :=
  ⟨RelR_get rs, RelR_of rs⟩

theorem RelR_drop {rs : List (List Sv)} {c : Cx} {wd b off : Nat} (h : RelR rs c wd b off) (k : Nat) : RelR (rs.drop k) c wd b (off + k * wd) := by
  rw [RelR_iff] at h ⊢
  intro i r hr
  have := h (k + i) r (by rw [← hr, List.getElem?_drop])
  rwa [show off + (k + i) * wd = off + k * wd + i * wd by rw [Nat.add_mul]; omega] at this

theorem RelR_take {rs : List (List Sv)} {c : Cx} {wd b off : Nat} (h : RelR rs c wd b off) (k : Nat) : RelR (rs.take k) c wd b off := by
  rw [RelR_iff] at h ⊢
  intro i r hr
  rw [List.getElem?_take] at hr
  split at hr
  · exact h i r hr
  · cases hr

theorem RelR_append {rs qs : List (List Sv)} {c : Cx} {wd b off : Nat} (h : RelR rs c wd b off) (g : RelR qs c wd b (off + rs.length * wd)) : RelR (rs ++ qs) c wd b off := by
  rw [RelR_iff] at h g ⊢
  intro i r hr
  by_cases hi : i < rs.length
  · rw [List.getElem?_append_left hi] at hr
    exact h i r hr
  · rw [List.getElem?_append_right (by omega)] at hr
    have := g (i - rs.length) r hr
    rwa [show off + rs.length * wd + (i - rs.length) * wd = off + i * wd by
      have : i = rs.length + (i - rs.length) := by omega
      conv => rhs; rw [this, Nat.add_mul]
      omega] at this

/-- All cells of rows, one behind the other, as values. -/
theorem RelR_vals : ∀ (rs : List (List Sv)) {c : Cx} {wd b off : Nat}, RelR rs c wd b off → ∃ vs : List Value, vs.length = rs.length * wd ∧ RelL rs.flatten c vs ∧ ∀ j u, vs[j]? = some u → c.w.cell? ⟨b, off + j, none⟩ = some u
  | [], _, _, _, _, _ => ⟨[], by simp, by simp [RelL], by simp⟩
  | r :: rs, c, wd, b, off, h => by
    simp only [RelR] at h
    obtain ⟨hw, hc, hl⟩ := h
    obtain ⟨us, hu, hcu⟩ := RelC_vals r hc
    obtain ⟨vs, hn, hv, hcv⟩ := RelR_vals rs hl
    have hlu := RelL_len r hu
    refine ⟨us ++ vs, by simp [hn, hlu, hw, Nat.add_mul]; omega, by simpa using RelL_append r hu hv, fun j u hj => ?_⟩
    by_cases hjl : j < us.length
    · rw [List.getElem?_append_left hjl] at hj
      exact hcu j u hj
    · rw [List.getElem?_append_right (by omega)] at hj
      have := hcv (j - us.length) u hj
      rwa [show off + wd + (j - us.length) = off + j by omega] at this

theorem RelR_of_vals : ∀ (rs : List (List Sv)) {c : Cx} {wd b off : Nat} {vs : List Value}, (∀ r ∈ rs, r.length = wd) → RelL rs.flatten c vs → (∀ j u, vs[j]? = some u → c.w.cell? ⟨b, off + j, none⟩ = some u) → RelR rs c wd b off
  | [], _, _, _, _, _, _, _, _ => by simp [RelR]
  | r :: rs, c, wd, b, off, vs, hw, h, hc => by
    simp only [RelR]
    have h1 := RelL_take r.length _ h
    have h2 := RelL_drop r.length _ h
    simp only [List.flatten_cons, List.take_left', List.drop_left'] at h1 h2
    have hr := hw r (by simp)
    refine ⟨hr, RelC_of_vals r h1 fun j u hj => ?_, RelR_of_vals rs (fun q hq => hw q (by simp [hq])) h2 fun j u hj => ?_⟩
    · rw [List.getElem?_take] at hj
      split at hj
      · exact hc j u hj
      · cases hj
    · rw [List.getElem?_drop] at hj
      have := hc _ u hj
      rwa [show off + (r.length + j) = off + wd + j by omega] at this

/-! ### The local heap -/
/-- A local block: its elements' type, how many cells one has, whether its cells name no local block, whether it is a slice's (it may be nil, and may be appended to), the rows. One that is nil and no slice's is no block: it tells in its rows what a loop's body has been handed so far, and in its type whether it wants no more. -/
structure Blk where
  elem : Nat
  wd : Nat
  clean : Bool
  grow : Bool
  rows : List (List Sv)

/-- A block, and no telling of rounds. -/
def Blk.ng (b : Blk) : Prop :=
  match b with
  | ⟨_, 0, true, false, _⟩ => False
  | _ => True
theorem Blk.ng_not {b : Blk} (h : b.ng) : ¬ (b.grow = false ∧ b.clean = true ∧ b.wd = 0) := by
  rintro ⟨h1, h2, h3⟩
  cases b
  simp only at h1 h2 h3
  subst h1 h2 h3
  exact h
def Blk.cx (k : Blk) (c : Cx) : Cx := if k.clean then c.shut else c

def BlkRel (c : Cx) (k : Nat) (blk : Blk) : Prop :=
  (c.E k).wd = blk.wd ∧
  ((c.E k).nil = true → blk.grow = true ∧ blk.rows = [] ∨ blk.grow = false ∧ blk.clean = true ∧ blk.wd = 0) ∧
  ((c.E k).nil = false → ∃ arr, c.w.heap[(c.E k).b]? = some (.cells arr blk.elem (0, 0)) ∧ RelR blk.rows (blk.cx c) blk.wd (c.E k).b 0 ∧ blk.rows.length * blk.wd ≤ arr.size ∧
     (blk.grow = true → (c.E k).cap * blk.wd ≤ arr.size ∧ blk.rows.length ≤ (c.E k).cap ∧ (c.E k).cap ≤ maxLen))

abbrev Hp := List (Option Blk)

/-- What holds of the world of a walk: against the world w0 in which it began, of whose blocks only those of M may have turned. -/
structure Inv (w0 : World) (M : Frm) (c : Cx) (hp : Hp) : Prop where
  dom : ∀ k, c.D k → ∃ blk, hp[k]? = some (some blk) ∧ BlkRel c k blk
  inj : ∀ k k', c.D k → c.D k' → k ≠ k' → (c.E k).nil = false → (c.E k').nil = false → (c.E k).b ≠ (c.E k').b
  xsep : ∀ k b, c.D k → (c.E k).nil = false → c.X b → (c.E k).b ≠ b
  xlt : ∀ b, c.X b → b < c.w.heap.size
  xY : ∀ b, c.X b → ¬ M.Y b
  bnd : c.G = M.G
  bndG : M.Fit w0
  e0 : ∀ k, k < M.m → c.D k → c.E k = M.E0 k
  mlen : M.m ≤ hp.length
  os : c.w.os = w0.os
  tape : c.w.tape = w0.tape
  output : c.w.output = w0.output
  size : w0.heap.size ≤ c.w.heap.size
  keep : ∀ j, j < w0.heap.size → ¬ M.M j → ¬ M.Y j → c.w.heap[j]? = w0.heap[j]?
  loc : ∀ k, c.D k → (c.E k).nil = false → M.M (c.E k).b ∨ w0.heap.size ≤ (c.E k).b
  x0 : ∀ b, c.X b → w0.heap.size ≤ b ∨ M.M b ∨ M.X0 b
  ca : ∀ b, c.A b → c.C b ∧ ¬ c.X b ∧ (w0.heap.size ≤ b ∨ M.Y b)
  cc : ∀ b, c.C b → b < c.w.heap.size ∧ (∀ k, c.D k → (c.E k).nil = false → (c.E k).b ≠ b) ∧ (w0.heap.size ≤ b ∨ M.C0 b ∨ M.M b ∨ M.X0 b)
  gh : ∀ k blk, c.D k → hp[k]? = some (some blk) → (c.E k).nil = true → blk.grow = false → ∃ C1, (∀ b, C1 b → c.C b ∧ ¬ c.Z b) ∧ M.J blk.elem blk.rows c.A C1 c.w
  zc : ∀ b, c.Z b → c.C b ∧ ¬ c.A b ∧ ¬ c.X b
  z0 : ∀ b, M.Z0 b → c.Z b
  xk : ∀ b, M.Xk b → c.X b

theorem WSame.mono {C C' : Nat → Prop} {w w' : World} (h : WSame C w w') (hc : ∀ b, C' b → C b) : WSame C' w w' := ⟨h.os, h.tape, h.output, h.size, fun b hb => h.block b (hc b hb)⟩
/-- What is told of the rounds so far stands, as long as the blocks of C do. -/
theorem Inv.ghs {w0 : World} {M : Frm} {c : Cx} {hp : Hp} (h : Inv w0 M c hp) {w' : World} (hw : WSame c.C c.w w') {k : Nat} {blk : Blk} (hD : c.D k) (hb : hp[k]? = some (some blk)) (hn : (c.E k).nil = true) (hg : blk.grow = false) :
    ∃ C1, (∀ b, C1 b → c.C b ∧ ¬ c.Z b) ∧ M.J blk.elem blk.rows c.A C1 w' := by
  obtain ⟨C1, h1, h2⟩ := h.gh k blk hD hb hn hg
  exact ⟨C1, h1, h.bndG.js _ _ _ _ _ _ h2 (hw.mono fun b hb => (h1 b hb).1)⟩

theorem BlkRel.le {p : Nat → Bool} {c c' : Cx} {k : Nat} {blk : Blk} (h : c.Le p c') (hE : c'.E k = c.E k) (hb : (c.E k).nil = false → c'.w.heap[(c.E k).b]? = c.w.heap[(c.E k).b]?)
    (ha : blk.clean = false → blk.rows.all (Sv.all.allL p) = true) (r : BlkRel c k blk) : BlkRel c' k blk := by
  unfold BlkRel at *
  rw [hE]
  refine ⟨r.1, r.2.1, fun hn => ?_⟩
  obtain ⟨arr, hh, hr, hl, hg⟩ := r.2.2 hn
  refine ⟨arr, (hb hn).trans hh, ?_, hl, hg⟩
  unfold Blk.cx at *
  cases hc : blk.clean with
  | true =>
    rw [hc] at hr
    exact RelR.le _ (allR_true _) h.shut (hb hn) hr
  | false =>
    rw [hc] at hr
    exact RelR.le _ (ha hc) h (hb hn) hr

theorem BlkRel.lt {c : Cx} {k : Nat} {blk : Blk} (r : BlkRel c k blk) (hn : (c.E k).nil = false) : (c.E k).b < c.w.heap.size := by
  obtain ⟨arr, hh, _⟩ := r.2.2 hn
  exact (Array.getElem?_eq_some_iff.1 hh).1

def upd (E : Nat → Loc) (n : Nat) (l : Loc) : Nat → Loc := fun k => if k = n then l else E k
@[simp] theorem upd_same (E : Nat → Loc) (n : Nat) (l : Loc) : upd E n l n = l := by simp [upd]
theorem upd_other {E : Nat → Loc} {n k : Nat} {l : Loc} (h : k ≠ n) : upd E n l k = E k := by simp [upd, h]

/-- The context behind a new block, number n of the local heap. -/
def Cx.put (c : Cx) (n : Nat) (l : Loc) (w : World) : Cx := { c with E := upd c.E n l, D := fun k => c.D k ∨ k = n, w := w }

theorem Cx.Le.put {c : Cx} {n : Nat} {l : Loc} {w : World} (hn : ¬ c.D n) (hx : ∀ b, c.X b → w.heap[b]? = c.w.heap[b]?) : c.Le (fun _ => true) (c.put n l w) :=
  ⟨fun k _ hk => ⟨.inl hk, upd_other (fun e => hn (e ▸ hk))⟩, fun _ h => h, fun _ _ h => h, hx⟩

/-- A world that differs from another in new blocks alone. -/
structure WGrow (w w' : World) : Prop where
  os : w'.os = w.os
  tape : w'.tape = w.tape
  output : w'.output = w.output
  size : w.heap.size ≤ w'.heap.size
  block : ∀ j, j < w.heap.size → w'.heap[j]? = w.heap[j]?

theorem WGrow.refl (w : World) : WGrow w w := ⟨rfl, rfl, rfl, Nat.le_refl _, fun _ _ => rfl⟩
theorem WGrow.trans {a b c : World} (h : WGrow a b) (k : WGrow b c) : WGrow a c :=
  ⟨k.os.trans h.os, k.tape.trans h.tape, k.output.trans h.output, Nat.le_trans h.size k.size, fun j hj => (k.block j (Nat.lt_of_lt_of_le hj h.size)).trans (h.block j hj)⟩
theorem WGrow.drew {a b : World} (h : WGrow a b) : WGrow a b.drew := ⟨h.os, h.tape, h.output, h.size, h.block⟩
theorem WGrow.alloc (w : World) (o : Obj) : WGrow w (w.alloc o) := ⟨rfl, rfl, rfl, by simp, fun j hj => by first | exact heap_alloc_old w o j hj | exact heap_alloc_old w o hj⟩

/-- The same context in a world that has grown. -/
theorem Inv.grow {w0 : World} {M : Frm} {c : Cx} {hp : Hp} (h : Inv w0 M c hp) {w : World} (g : WGrow c.w w) : Inv w0 M { c with w := w } hp := by
  have hb : ∀ k blk, BlkRel c k blk → (c.E k).nil = false → w.heap[(c.E k).b]? = c.w.heap[(c.E k).b]? := fun k blk r hn => g.block _ (r.lt hn)
  have hle : c.Le (fun _ => true) { c with w := w } := ⟨fun _ _ hk => ⟨hk, rfl⟩, fun _ h => h, fun _ _ h => h, fun b hx => g.block b (h.xlt b hx)⟩
  exact {
    dom := fun k hk => let ⟨blk, e, r⟩ := h.dom k hk; ⟨blk, e, r.le hle rfl (hb k blk r) (fun _ => allR_true _)⟩
    inj := h.inj
    xsep := h.xsep
    xlt := fun b hb => Nat.lt_of_lt_of_le (h.xlt b hb) g.size
    xY := h.xY
    bnd := h.bnd
    bndG := h.bndG
    e0 := h.e0
    mlen := h.mlen
    os := g.os.trans h.os
    tape := g.tape.trans h.tape
    output := g.output.trans h.output
    size := Nat.le_trans h.size g.size
    keep := fun j hj hm hy => (g.block j (Nat.lt_of_lt_of_le hj h.size)).trans (h.keep j hj hm hy)
    loc := h.loc
    x0 := h.x0
    zc := h.zc
    z0 := h.z0
    xk := h.xk
    ca := h.ca
    cc := fun b hb => ⟨Nat.lt_of_lt_of_le (h.cc b hb).1 g.size, (h.cc b hb).2⟩
    gh := fun k blk hD hb hn hg => h.ghs ⟨g.os, g.tape, g.output, g.size, fun b hb => g.block b (h.cc b hb).1⟩ hD hb hn hg }

theorem Inv.le_grow {w0 : World} {M : Frm} {c : Cx} {hp : Hp} (h : Inv w0 M c hp) {w : World} (g : WGrow c.w w) : c.Le (fun _ => true) { c with w := w } :=
  ⟨fun _ _ hk => ⟨hk, rfl⟩, fun _ h => h, fun _ _ h => h, fun b hx => g.block b (h.xlt b hx)⟩

/-- A new block. -/
theorem Inv.new {w0 : World} {M : Frm} {c : Cx} {hp hp' : Hp} (h : Inv w0 M c hp) {n : Nat} (hn : ¬ c.D n) (hm : M.m ≤ n) (hold : ∀ k, c.D k → hp'[k]? = hp[k]?)
    {blk : Blk} (hnew : hp'[n]? = some (some blk)) {l : Loc} {w : World} (g : WGrow c.w w) (hl : l.nil = false → c.w.heap.size ≤ l.b) (hr : BlkRel (c.put n l w) n blk) (hgr : l.nil = true → blk.grow = true) : Inv w0 M (c.put n l w) hp' := by
  have hg := h.grow g
  have hle : Cx.Le (fun _ => true) { c with w := w } (c.put n l w) := ⟨fun k _ hk => ⟨.inl hk, upd_other (fun e => hn (e ▸ hk))⟩, fun _ h => h, fun _ _ h => h, fun _ _ => rfl⟩
  have hEo : ∀ k, c.D k → (c.put n l w).E k = c.E k := fun k hk => upd_other (fun e => hn (e ▸ hk))
  have hEn : (c.put n l w).E n = l := upd_same _ _ _
  have hlt : ∀ k, c.D k → (c.E k).nil = false → (c.E k).b < c.w.heap.size := fun k hk hnil => let ⟨blk, _, r⟩ := h.dom k hk; r.lt hnil
  refine { dom := ?_, inj := ?_, xsep := ?_, xlt := hg.xlt, xY := hg.xY, bnd := hg.bnd, bndG := hg.bndG, e0 := ?_, mlen := Nat.le_of_lt (Nat.lt_of_le_of_lt hm (List.getElem?_eq_some_iff.1 hnew).1), os := hg.os, tape := hg.tape, output := hg.output, size := hg.size, keep := hg.keep, loc := ?_, x0 := hg.x0, zc := hg.zc, z0 := hg.z0, xk := hg.xk, ca := hg.ca, cc := fun b hb => ⟨(hg.cc b hb).1, ?_, (hg.cc b hb).2.2⟩, gh := ?_ }
  · rintro k (hk | rfl)
    · obtain ⟨b, e, r⟩ := hg.dom k hk
      exact ⟨b, (hold k hk).trans e, r.le hle (hEo k hk) (fun _ => rfl) (fun _ => allR_true _)⟩
    · exact ⟨blk, hnew, hr⟩
  · rintro k k' (hk | rfl) (hk' | rfl) hne h1 h2
    · rw [hEo k hk] at h1 ⊢; rw [hEo k' hk'] at h2 ⊢; exact h.inj k k' hk hk' hne h1 h2
    · rw [hEo k hk] at h1 ⊢; rw [hEn] at h2 ⊢
      have := hlt k hk h1; have := hl h2; omega
    · rw [hEo k' hk'] at h2 ⊢; rw [hEn] at h1 ⊢
      have := hlt k' hk' h2; have := hl h1; omega
    · exact absurd rfl hne
  · rintro k b (hk | rfl) h1 hx
    · rw [hEo k hk] at h1 ⊢; exact h.xsep k b hk h1 hx
    · rw [hEn] at h1 ⊢; have := hl h1; have := h.xlt b hx; omega
  · rintro k hlt (hk | rfl)
    · rw [hEo k hk]; exact h.e0 k hlt hk
    · omega
  · rintro k (hk | rfl) h1
    · rw [hEo k hk] at h1 ⊢; exact h.loc k hk h1
    · rw [hEn] at h1 ⊢; have := hl h1; have := h.size; exact .inr (by omega)
  · rintro k (hk | rfl) h1
    · rw [hEo k hk] at h1 ⊢; exact (hg.cc b hb).2.1 k hk h1
    · rw [hEn] at h1 ⊢; have := hl h1; have := (h.cc b hb).1; omega
  · rintro k b (hk | rfl) hb h1 h2
    · rw [hEo k hk] at h1
      rw [hold k hk] at hb
      exact hg.gh k b hk hb h1 h2
    · rw [hEn] at h1
      rw [hnew] at hb
      cases hb
      rw [hgr h1] at h2
      cases h2
end Go.Eng

/- The engine, part C: the types' table; operations that only compute or read. -/
namespace Go.Eng
open Go Go.RowKit

inductive TK where
  | other
  | bool
  | int (k : IntKind)
  | str
  | func
  | struct (fs : List (Nat × Nat))
  | slice (e : Nat)
  | ptr (e : Nat)
  | arr (n e : Nat)

structure TI where
  kind : TK
  size : Nat
  bytes : Nat
  zero : List Value

def TK.agg : TK → Bool
  | .struct _ => true
  | .arr _ _ => true
  | _ => false

def TK.fits : TK → TypeDesc → Prop
  | .other, d => match d with | .struct _ | .array _ _ => False | _ => True
  | .bool, d => d = .bool
  | .int k, d => d = .int k
  | .str, d => d = .string
  | .func, d => ∃ a b v, d = .func a b v
  | .struct fs, d => ∃ F : Array Field, d = .struct F ∧ F.toList.map (fun f => (f.offset, f.type)) = fs
  | .slice e, d => d = .slice e
  | .ptr e, d => d = .pointer e
  | .arr n e, d => d = .array n e

structure TIok (P : Program) (t : Nat) (i : TI) : Prop where
  info : ∃ I, P.info? t = some I ∧ I.size = i.size ∧ I.bytes = i.bytes ∧ ∃ z, I.zero = some z ∧ z.cells = i.zero.toArray
  desc : ∃ d, P.underlying t = some d ∧ i.kind.fits d

/-- A program, and what is known of its types. -/
structure Gm where
  P : Program
  tab : Nat → Option TI
  ok : ∀ t i, tab t = some i → TIok P t i
  mix : P.follows .mixedOrders = true
  m : Nat := 0
  l : Nat := 0
  its : List (List Sv) := []
  J : Option (World → Nat → List (List Sv) → (Nat → Prop) → (Nat → Prop) → World → Prop) := none

/-- The same program, in a function that is handed m blocks to turn. -/
def Gm.at (G : Gm) (m : Nat) : Gm := { G with m := m, J := none }
/-- The same program, in a function that the loop l ranges over, which hands its body its. -/
def Gm.it (G : Gm) (l : Nat) (its : List (List Sv)) : Gm := { G with m := 1, l := l, its := its, J := none }
/-- The same program, with a tale of blocks that no local block is. -/
def Gm.tale (G : Gm) (J : World → Nat → List (List Sv) → (Nat → Prop) → (Nat → Prop) → World → Prop) : Gm := { G with J := some J }

inductive Need (p k : Prop) : Prop
  | mk : p → k → Need p k
/-- The same, told another way. -/
inductive EqK {α : Type} (a : α) (K : α → Prop) : Prop
  | mk (b : α) : a = b → K b → EqK a K
theorem EqK.go {α : Type} {a : α} {K : α → Prop} (h : EqK a K) : K a := by
  obtain ⟨b, rfl, h⟩ := h
  exact h
inductive Get {α : Type} (o : Option α) (k : α → Prop) : Prop
  | mk (a : α) : o = some a → k a → Get o k
inductive Br (b : Bool) (t e : Prop) : Prop
  | mk : (b = true → t) → (b = false → e) → Br b t e
theorem Br.t {t e : Prop} (h : t) : Br true t e := ⟨fun _ => h, fun h => by cases h⟩
theorem Br.f {t e : Prop} (h : e) : Br false t e := ⟨fun h => (by cases h), fun _ => h⟩

def nth {α : Type} : List α → Nat → Option α
  | [], _ => none
  | x :: _, 0 => some x
  | _ :: xs, n + 1 => nth xs n
theorem nth_eq {α : Type} : ∀ (l : List α) (n : Nat), nth l n = l[n]?
  | [], _ => by simp [nth]
  | _ :: _, 0 => by simp [nth]
  | _ :: xs, n + 1 => by simp [nth, nth_eq xs n]

def hpGet (hp : Hp) (k : Nat) : Option Blk :=
  match nth hp k with
  | some b => b
  | none => none
theorem hpGet_eq {hp : Hp} {k : Nat} {b : Blk} : hpGet hp k = some b ↔ hp[k]? = some (some b) := by
  unfold hpGet
  rw [nth_eq]
  cases hp[k]? with
  | none => simp
  | some x => simp

def tmGet (tm : List Sv) (t : Nat) : Sv :=
  match nth tm t with
  | some s => s
  | none => .any

def evO (tm : List Sv) : Operand → Sv
  | .tmp t => tmGet tm t
  | .const v => .val v
  | .global g => .val (.pointer (some ⟨g, 0, none⟩))
  | .func f => .clo f []

/-- One cell, for certain. -/
def Sv.one : Sv → Bool
  | .val x => x.oneCell'
  | .ptr _ _ _ => true
  | .own _ _ => true
  | .sls _ _ _ => true
  | .ext _ _ _ => true
  | .ref _ _ => true
  | .clo _ _ => true
  | _ => false

theorem Rel.one {s : Sv} {c : Cx} {v : Value} (h : s.one = true) (r : Rel s c v) : v.oneCell' = true := by
  cases s <;> simp only [Sv.one, Rel] at h r <;> try (cases h; done)
  case val x => subst r; exact h
  case ptr k row col => obtain ⟨_, _, rfl⟩ := r; rfl
  case own k n => obtain ⟨_, ⟨_, rfl, _⟩ | ⟨_, rfl, _⟩⟩ := r <;> rfl
  case sls k lo n => obtain ⟨_, a, cap, rfl, _⟩ := r; rfl
  case ext fr wd rows => obtain ⟨a, cap, rfl, _⟩ := r; rfl
  case ref cs => obtain ⟨b, off, rfl, _⟩ := r; rfl
  case clo f cs => obtain ⟨vs, rfl, _⟩ := r; rfl

theorem Cx.shut_le (c : Cx) : c.shut.Le (fun _ => true) c := ⟨fun _ _ h => h.elim, fun _ h => h, fun _ _ h => h, fun _ _ => rfl⟩
theorem Blk.cx_le (k : Blk) (c : Cx) : (k.cx c).Le (fun _ => true) c := by
  unfold Blk.cx
  split
  · exact c.shut_le
  · exact ⟨fun _ _ h => ⟨h, rfl⟩, fun _ h => h, fun _ _ h => h, fun _ _ => rfl⟩
theorem Blk.cx_w (k : Blk) (c : Cx) : (k.cx c).w = c.w := by unfold Blk.cx; split <;> rfl

/-- What an operation that only computes or reads leaves: the value s. -/
def PureS (P : Program) (o : Oper) (tm : List Sv) (hp : Hp) (s : Sv) : Prop :=
  ∀ (w0 : World) (M : Frm) (c : Cx) (a : Act), Inv w0 M c hp → (∀ x ∈ o.op.operands, Rel (evO tm x) c (a.eval x)) →
    ∃ v, (execOp a.eval o).run P c.w = .ok (.value v) c.w ∧ Rel s c v

section
variable {G : Gm} {tm : List Sv} {hp : Hp} {o : Oper}

theorem TIok.run_sizeOf {P : Program} {t : Nat} {i : TI} (h : TIok P t i) (w : World) : (sizeOf t).run P w = .ok i.size w := by
  obtain ⟨I, hI, hs, _⟩ := h.info
  simp [sizeOf, typeInfo, hI, hs]

theorem TIok.run_isAgg {P : Program} {t : Nat} {i : TI} (h : TIok P t i) (w : World) : (isAgg t).run P w = .ok i.kind.agg w := by
  obtain ⟨d, hd, hf⟩ := h.desc
  unfold isAgg
  simp only [Sem.run_bind, run_underlying hd, Result.andThen_ok]
  cases hk : i.kind <;> rw [hk] at hf <;> simp only [TK.fits] at hf <;> simp only [TK.agg]
  case other => cases d <;> simp_all
  case struct fs => obtain ⟨F, rfl, _⟩ := hf; simp
  case func => obtain ⟨x, y, z, rfl⟩ := hf; simp
  all_goals (subst hf; simp)

/-! ### Reading -/
/-- What a row of cells gives at a type: one value, or an aggregate. -/
def cellsV (i : TI) (cs : List Sv) (K : Sv → Prop) : Prop :=
  match i.kind.agg with
  | true => Need (i.size ≤ cs.length) (K (.agg (cs.take i.size)))
  | false => Get (nth cs 0) K

theorem cellsV_sound {i : TI} {cs : List Sv} {K : Sv → Prop} (h : cellsV i cs K) : ∃ s, K s ∧ ∀ {P : Program} {t : Nat} {c c' : Cx} {b off : Nat}, TIok P t i → RelC cs c b off → c.w = c'.w → c.Le (fun _ => true) c' →
    ∃ v, (loadVar t ⟨b, off, none⟩).run P c'.w = .ok v c'.w ∧ Rel s c' v := by
  unfold cellsV at h
  cases ha : i.kind.agg with
  | true =>
    rw [ha] at h
    obtain ⟨hl, hk⟩ := h
    refine ⟨_, hk, fun {P t c c' b off} ht hr hw hle => ?_⟩
    obtain ⟨vs, hv, hc⟩ := RelC_vals _ (RelC_take i.size cs hr)
    have hlen := RelL_len _ hv
    rw [List.length_take, Nat.min_eq_left hl] at hlen
    refine ⟨.agg vs.toArray, ?_, ?_⟩
    · have := run_loadCells_list (P := P) c'.w ⟨b, off, none⟩ vs (fun j v hj => by rw [Addr.add_lit, ← hw]; exact hc j v hj)
      rw [hlen] at this
      simp [loadVar, ht.run_isAgg, ha, ht.run_sizeOf, this]
    · have := RelL.le _ (allL_true _) hle hv
      simp only [Rel]
      exact ⟨vs, rfl, this⟩
  | false =>
    rw [ha] at h
    obtain ⟨s, hs, hk⟩ := h
    refine ⟨s, hk, fun {P t c c' b off} ht hr hw hle => ?_⟩
    rw [nth_eq] at hs
    obtain ⟨u, hu, _, hrel⟩ := RelC_get cs hr 0 s hs
    refine ⟨u, ?_, Rel.le _ (Sv.all_true _) hle hrel⟩
    rw [hw] at hu
    simp only [Nat.add_zero] at hu
    simp [loadVar, ht.run_isAgg, ha, hu]

def loadV (G : Gm) (t : Nat) (hp : Hp) (x : Sv) (K : Sv → Prop) : Prop :=
  Get (G.tab t) fun i =>
    match x with
    | .ptr k row col => Get (hpGet hp k) fun b => Get (nth b.rows row) fun r => cellsV i (r.drop col) K
    | .ref _ cs => cellsV i cs K
    | _ => False

theorem loadV_sound {t : Nat} {x : Operand} {K : Sv → Prop} (ho : o.op = .load t x) (h : loadV G t hp (evO tm x) K) : ∃ s, K s ∧ PureS G.P o tm hp s := by
  obtain ⟨i, hi, h⟩ := h
  have ht := G.ok t i hi
  split at h
  · rename_i k row col hx
    obtain ⟨b, hb, r, hr, h⟩ := h
    obtain ⟨s, hk, hs⟩ := cellsV_sound h
    refine ⟨s, hk, fun w0 M c a hI ha => ?_⟩
    have hra := ha x (by rw [ho]; simp [Op.operands])
    rw [hx] at hra
    simp only [Rel] at hra
    obtain ⟨hD, hn, hv⟩ := hra
    obtain ⟨b', hb', hrel⟩ := hI.dom k hD
    rw [hpGet_eq] at hb
    rw [hb] at hb'
    cases hb'
    obtain ⟨hwd, _, hreal⟩ := hrel
    obtain ⟨arr, hh, hrr, _⟩ := hreal hn
    · rw [nth_eq] at hr
      obtain ⟨_, hc⟩ := RelR_get _ hrr row r hr
      obtain ⟨v, hrun, hrel⟩ := hs ht (RelC_drop col r hc) (b.cx_w c) (b.cx_le c)
      refine ⟨v, ?_, hrel⟩
      rw [hwd] at hv
      rw [show 0 + row * b.wd + col = row * b.wd + col by omega] at hrun
      simp [execOp, ho, hv, Instr.loadAt, Instr.sureAddr, hrun]
  · rename_i fr cs hx
    obtain ⟨s, hk, hs⟩ := cellsV_sound h
    refine ⟨s, hk, fun w0 M c a hI ha => ?_⟩
    have hra := ha x (by rw [ho]; simp [Op.operands])
    rw [hx] at hra
    simp only [Rel] at hra
    obtain ⟨b, off, hv, _, _, hc⟩ := hra
    obtain ⟨v, hrun, hrel⟩ := hs (c' := c) ht hc rfl c.shut_le
    refine ⟨v, ?_, hrel⟩
    simp [execOp, ho, hv, Instr.loadAt, Instr.sureAddr, hrun]
  · exact h.elim

/-! ### Addresses -/
def fieldV (G : Gm) (t f : Nat) (x : Sv) (K : Sv → Prop) : Prop :=
  Get (G.tab t) fun i =>
    match i.kind with
    | .struct fs => Get (nth fs f) fun p => Get (G.tab p.2) fun j => Need (j.size ≠ 0) <|
      match x with
      | .ptr k row col => K (.ptr k row (col + p.1))
      | .ref fr cs => K (.ref fr (cs.drop p.1))
      | _ => False
    | _ => False

theorem run_fieldAt {P : Program} {t f : Nat} {i j : TI} {fs : List (Nat × Nat)} {p : Nat × Nat} (ht : TIok P t i) (hk : i.kind = .struct fs) (hp : nth fs f = some p) (hj : TIok P p.2 j) (h0 : j.size ≠ 0) (b off : Nat) (w : World) :
    (Instr.fieldAt t (.pointer (some ⟨b, off, none⟩)) f).run P w = .ok (.pointer (some ⟨b, off + p.1, none⟩)) w := by
  obtain ⟨d, hd, hf⟩ := ht.desc
  rw [hk] at hf
  obtain ⟨F, rfl, hF⟩ := hf
  rw [nth_eq, ← hF, List.getElem?_map] at hp
  have hq : ∃ fd, F[f]? = some fd ∧ (fd.offset, fd.type) = p := by
    rw [← Array.getElem?_toList]
    cases hx : F.toList[f]? with
    | none => rw [hx] at hp; cases hp
    | some fd => rw [hx] at hp; exact ⟨fd, rfl, by simpa using hp⟩
  obtain ⟨fd, hfd, rfl⟩ := hq
  simp [Instr.fieldAt, run_underlying hd, hfd, Instr.sureAddr, fieldPlace, hj.run_sizeOf, h0, Addr.add_lit]

theorem fieldV_sound {t f : Nat} {x : Operand} {K : Sv → Prop} (ho : o.op = .fieldAddr t x f) (h : fieldV G t f (evO tm x) K) : ∃ s, K s ∧ PureS G.P o tm hp s := by
  obtain ⟨i, hi, h⟩ := h
  split at h
  · rename_i fs hk
    obtain ⟨p, hp', j, hj, h0, h⟩ := h
    split at h
    · rename_i k row col hx
      refine ⟨_, h, fun w0 M c a hI ha => ?_⟩
      have hra := ha x (by rw [ho]; simp [Op.operands])
      rw [hx] at hra
      simp only [Rel] at hra
      obtain ⟨hD, hn, hv⟩ := hra
      have := run_fieldAt (G.ok t i hi) hk hp' (G.ok _ j hj) h0 (c.E k).b (row * (c.E k).wd + col) c.w
      refine ⟨_, by simp [execOp, ho, hv, this]; rfl, ?_⟩
      simp only [Rel]
      exact ⟨hD, hn, by rw [Nat.add_assoc]⟩
    · rename_i fr cs hx
      refine ⟨_, h, fun w0 M c a hI ha => ?_⟩
      have hra := ha x (by rw [ho]; simp [Op.operands])
      rw [hx] at hra
      simp only [Rel] at hra
      obtain ⟨b, off, hv, hX, hf, hc⟩ := hra
      have := run_fieldAt (G.ok t i hi) hk hp' (G.ok _ j hj) h0 b off c.w
      refine ⟨_, by simp [execOp, ho, hv, this]; rfl, ?_⟩
      simp only [Rel]
      exact ⟨b, off + p.1, rfl, hX, hf, RelC_drop _ _ hc⟩
    · exact h.elim
  · exact h.elim

def indexV (G : Gm) (t : Nat) (hp : Hp) (x ix : Sv) (K : Sv → Prop) : Prop :=
  Get (G.tab t) fun i =>
    match i.kind, ix with
    | .slice e, .val (.int _ n) => Get (G.tab e) fun j =>
      match x with
      | .own k m => Get (hpGet hp k) fun b => Need (b.wd = j.size) <| Need (0 ≤ n ∧ n < (m : Int)) (K (.ptr k n.toNat 0))
      | .sls k lo m => Get (hpGet hp k) fun b => Need (b.wd = j.size) <| Need (0 ≤ n ∧ n < (m : Int)) (K (.ptr k (lo + n.toNat) 0))
      | .ext fr wd rows => Need (wd = j.size) <| Need (0 ≤ n) <| Get (nth rows n.toNat) fun r => K (.ref fr r)
      | _ => False
    | .arr m e, .val (.int _ n) => Get (G.tab e) fun j => Need (0 ≤ n ∧ n < (m : Int)) <|
      match x with
      | .ptr k row col => K (.ptr k row (col + n.toNat * j.size))
      | .ref fr cs => K (.ref fr (cs.drop (n.toNat * j.size)))
      | _ => False
    | _, _ => False

theorem run_indexArr {P : Program} {t m e : Nat} {i j : TI} (ht : TIok P t i) (hk : i.kind = .arr m e) (hj : TIok P e j) (ki : IntKind) (n : Int) (b off : Nat) (h0 : 0 ≤ n) (h1 : n < (m : Int)) (w : World) :
    (Instr.indexAt t (.pointer (some ⟨b, off, none⟩)) (.int ki n)).run P w = .ok (.pointer (some ⟨b, off + n.toNat * j.size, none⟩)) w := by
  obtain ⟨d, hd, hf⟩ := ht.desc
  rw [hk] at hf
  simp only [TK.fits] at hf
  subst hf
  simp [Instr.indexAt, asIntOf, run_underlying hd, h0, h1, hj.run_sizeOf, Addr.add_lit, Instr.sureAddr]

theorem run_indexAt {P : Program} {t e : Nat} {i j : TI} (ht : TIok P t i) (hk : i.kind = .slice e) (hj : TIok P e j) (ki : IntKind) (n : Int) (b off len cap : Nat) (h0 : 0 ≤ n) (h1 : n < (len : Int)) (w : World) :
    (Instr.indexAt t (.slice (some ⟨b, off, none⟩) len cap) (.int ki n)).run P w = .ok (.pointer (some ⟨b, off + n.toNat * j.size, none⟩)) w := by
  obtain ⟨d, hd, hf⟩ := ht.desc
  rw [hk] at hf
  simp only [TK.fits] at hf
  subst hf
  simp [Instr.indexAt, asIntOf, run_underlying hd, h0, h1, hj.run_sizeOf, Addr.add_lit]

theorem indexV_sound {t : Nat} {x ix : Operand} {K : Sv → Prop} (ho : o.op = .indexAddr t x ix) (h : indexV G t hp (evO tm x) (evO tm ix) K) : ∃ s, K s ∧ PureS G.P o tm hp s := by
  obtain ⟨i, hi, h⟩ := h
  split at h
  · rename_i e ki n hk hix
    obtain ⟨j, hj, h⟩ := h
    have run := run_indexAt (G.ok t i hi) hk (G.ok e j hj)
    split at h
    · rename_i k m hx
      obtain ⟨b, hb, hw, ⟨h0, h1⟩, h⟩ := h
      refine ⟨_, h, fun w0 M c a hI ha => ?_⟩
      have hra := ha x (by rw [ho]; simp [Op.operands])
      have hri := ha ix (by rw [ho]; simp [Op.operands])
      rw [hx] at hra
      rw [hix] at hri
      simp only [Rel] at hra hri
      obtain ⟨hD, ⟨_, _, hm⟩ | ⟨hn, hv, _⟩⟩ := hra
      · omega
      · obtain ⟨b', hb', hwd, _⟩ := hI.dom k hD
        rw [hpGet_eq] at hb
        rw [hb] at hb'
        cases hb'
        refine ⟨_, by simp [execOp, ho, hv, hri, run ki n _ _ _ _ h0 h1]; rfl, ?_⟩
        simp only [Rel]
        exact ⟨hD, hn, by rw [hwd, hw]; simp⟩
    · rename_i k lo m hx
      obtain ⟨b, hb, hw, ⟨h0, h1⟩, h⟩ := h
      refine ⟨_, h, fun w0 M c a hI ha => ?_⟩
      have hra := ha x (by rw [ho]; simp [Op.operands])
      have hri := ha ix (by rw [ho]; simp [Op.operands])
      rw [hx] at hra
      rw [hix] at hri
      simp only [Rel] at hra hri
      obtain ⟨hD, A, cap, hv, _, hm | ⟨hn, hA⟩⟩ := hra
      · omega
      · obtain ⟨b', hb', hwd, _⟩ := hI.dom k hD
        rw [hpGet_eq] at hb
        rw [hb] at hb'
        cases hb'
        refine ⟨_, by simp [execOp, ho, hv, hA, hri, run ki n _ _ _ _ h0 h1]; rfl, ?_⟩
        simp only [Rel]
        exact ⟨hD, hn, by rw [hwd, hw, Nat.add_mul]; simp⟩
    · rename_i fr wd rows hx
      obtain ⟨hw, h0, r, hr, h⟩ := h
      refine ⟨_, h, fun w0 M c a hI ha => ?_⟩
      have hra := ha x (by rw [ho]; simp [Op.operands])
      have hri := ha ix (by rw [ho]; simp [Op.operands])
      rw [hx] at hra
      rw [hix] at hri
      simp only [Rel] at hra hri
      obtain ⟨A, cap, hv, _, hA⟩ := hra
      rw [nth_eq] at hr
      have hlt : n.toNat < rows.length := (List.getElem?_eq_some_iff.1 hr).1
      rcases hA with rfl | ⟨b, off, hA, hX, hfr, hR⟩
      · simp at hlt
      · obtain ⟨_, hc⟩ := RelR_get _ hR n.toNat r hr
        refine ⟨_, by simp [execOp, ho, hv, hA, hri, run ki n _ _ _ _ h0 (show n < (rows.length : Int) by omega)]; rfl, ?_⟩
        simp only [Rel]
        exact ⟨b, _, rfl, hX, hfr, by rw [← hw]; exact hc⟩
    · exact h.elim
  · rename_i m e ki n hk hix
    obtain ⟨j, hj, ⟨h0, h1⟩, h⟩ := h
    have run := run_indexArr (G.ok t i hi) hk (G.ok e j hj) ki n
    split at h
    · rename_i k row col hx
      refine ⟨_, h, fun w0 M c a hI ha => ?_⟩
      have hra := ha x (by rw [ho]; simp [Op.operands])
      have hri := ha ix (by rw [ho]; simp [Op.operands])
      rw [hx] at hra
      rw [hix] at hri
      simp only [Rel] at hra hri
      obtain ⟨hD, hn, hv⟩ := hra
      refine ⟨_, by simp [execOp, ho, hv, hri, run _ _ h0 h1]; rfl, ?_⟩
      simp only [Rel]
      exact ⟨hD, hn, by rw [Nat.add_assoc]⟩
    · rename_i fr cs hx
      refine ⟨_, h, fun w0 M c a hI ha => ?_⟩
      have hra := ha x (by rw [ho]; simp [Op.operands])
      have hri := ha ix (by rw [ho]; simp [Op.operands])
      rw [hx] at hra
      rw [hix] at hri
      simp only [Rel] at hra hri
      obtain ⟨b, off, hv, hX, hf, hc⟩ := hra
      refine ⟨_, by simp [execOp, ho, hv, hri, run _ _ h0 h1]; rfl, ?_⟩
      simp only [Rel]
      exact ⟨b, _, rfl, hX, hf, RelC_drop _ _ hc⟩
    · exact h.elim
  · exact h.elim

/-! ### Values -/
theorem moveV_sound {x : Operand} {K : Sv → Prop} (ho : o.op = .move x ∨ o.op = .assign x) (h : K (evO tm x)) : ∃ s, K s ∧ PureS G.P o tm hp s := by
  refine ⟨_, h, fun w0 M c a hI ha => ⟨a.eval x, ?_, ?_⟩⟩
  · rcases ho with ho | ho <;> simp [execOp, ho]
  · exact ha x (by rcases ho with ho | ho <;> rw [ho] <;> simp [Op.operands])

def pickV (tm : List Sv) (b x y : Operand) (K : Sv → Prop) : Prop :=
  match evO tm b with
  | .val (.bool t) => Br t (K (evO tm x)) (K (evO tm y))
  | _ => False

theorem pickV_sound {b x y : Operand} {K : Sv → Prop} (ho : o.op = .pick b x y) (h : pickV tm b x y K) : ∃ s, K s ∧ PureS G.P o tm hp s := by
  unfold pickV at h
  split at h
  · rename_i t hb
    obtain ⟨h1, h2⟩ := h
    cases t with
    | true =>
      refine ⟨_, h1 rfl, fun w0 M c a hI ha => ⟨a.eval x, ?_, ha x (by rw [ho]; simp [Op.operands])⟩⟩
      have := ha b (by rw [ho]; simp [Op.operands])
      rw [hb] at this
      simp only [Rel] at this
      simp [execOp, ho, this, asBool]
    | false =>
      refine ⟨_, h2 rfl, fun w0 M c a hI ha => ⟨a.eval y, ?_, ha y (by rw [ho]; simp [Op.operands])⟩⟩
      have := ha b (by rw [ho]; simp [Op.operands])
      rw [hb] at this
      simp only [Rel] at this
      simp [execOp, ho, this, asBool]
  · exact h.elim

/-- Arithmetic and comparisons of whole numbers. -/
def binI (op : BinOp) (k : IntKind) (a b : Int) : Option Value :=
  match op with
  | .add => some (.int k (k.wrap (a + b)))
  | .sub => some (.int k (k.wrap (a - b)))
  | .mul => some (.int k (k.wrap (a * b)))
  | .eql => some (.bool (a == b))
  | .neq => some (.bool (a != b))
  | .lss => some (.bool (decide (a < b)))
  | .leq => some (.bool (decide (a ≤ b)))
  | .gtr => some (.bool (decide (a > b)))
  | .geq => some (.bool (decide (a ≥ b)))
  | _ => none

def binK (op : BinOp) (k : IntKind) (a b : Int) (K : Value → Prop) (els : Prop) : Prop :=
  match op with
  | .add => EqK (k.wrap (a + b)) fun n => K (.int k n)
  | .sub => EqK (k.wrap (a - b)) fun n => K (.int k n)
  | .mul => EqK (k.wrap (a * b)) fun n => K (.int k n)
  | op => match binI op k a b with
    | some v => K v
    | none => els
theorem binK_sound {op : BinOp} {k : IntKind} {a b : Int} {K : Value → Prop} {els : Prop} (h : binK op k a b K els) : (∃ v, binI op k a b = some v ∧ K v) ∨ els := by
  unfold binK at h
  split at h
  · exact .inl ⟨_, rfl, h.go⟩
  · exact .inl ⟨_, rfl, h.go⟩
  · exact .inl ⟨_, rfl, h.go⟩
  · split at h
    · rename_i v hv
      exact .inl ⟨v, hv, h⟩
    · exact .inr h

/-- Any operation whose value is told by a run that leaves each world as it is. -/
inductive Scal (P : Program) (m : Sem Value) (K : Sv → Prop) : Prop
  | mk (v : Value) : (∀ w, m.run P w = .ok v w) → K (.val v) → Scal P m K

def binV (G : Gm) (op : BinOp) (t : Nat) (x y : Sv) (K : Sv → Prop) : Prop :=
  match x, y with
  | .val (.int k a), .val (.int k' b) => Need (k = k') <| binK op k a b (fun v => K (.val v)) (Scal G.P (binOp op t (.int k a) (.int k' b)) K)
  | .val (.bool a), .val (.bool b) =>
    Get (G.tab t) fun i => match i.kind, op with
      | .bool, .eql => K (.val (.bool (a == b)))
      | .bool, .neq => K (.val (.bool (!(a == b))))
      | _, _ => False
  | .val a, .val b => Scal G.P (binOp op t a b) fun s => match a, b with | .nilIface, _ => False | .agg _, _ => False | _, _ => K s
  | _, _ => False

theorem run_equal_bool {P : Program} {t : Nat} (hd : P.underlying t = some .bool) (a b : Bool) (w : World) : (Op.equal t (.bool a) (.bool b)).run P w = .ok (a == b) w := by
  have h : ∀ d : Nat, (Op.equalIn (d + 1) t (.bool a) (.bool b)).run P w = .ok (a == b) w := fun d => by
    simp [Op.equalIn, run_underlying hd]
  exact h 9999

theorem binV_sound {op : BinOp} {t yt : Nat} {x y : Operand} {K : Sv → Prop} (ho : o.op = .binOp op t x y yt) (h : binV G op t (evO tm x) (evO tm y) K) : ∃ s, K s ∧ PureS G.P o tm hp s := by
  have opnd : ∀ {c : Cx} {a : Act} {u v : Value}, (∀ x ∈ o.op.operands, Rel (evO tm x) c (a.eval x)) → evO tm x = .val u → evO tm y = .val v → a.eval x = u ∧ a.eval y = v := by
    intro c a u v ha hx hy
    have h1 := ha x (by rw [ho]; simp [Op.operands])
    have h2 := ha y (by rw [ho]; simp [Op.operands])
    rw [hx] at h1
    rw [hy] at h2
    simp only [Rel] at h1 h2
    exact ⟨h1, h2⟩
  unfold binV at h
  split at h
  · rename_i k a k' b hx hy
    obtain ⟨rfl, h⟩ := h
    have hg : ∀ w, (eqGuard op t x y (.int k a) (.int k b)).run G.P w = .ok () w := fun w => by
      unfold eqGuard; cases op <;> rfl
    rcases binK_sound h with ⟨v, hv, h⟩ | h
    · refine ⟨_, h, fun w0 M c A hI ha => ⟨v, ?_, by simp [Rel]⟩⟩
      obtain ⟨e1, e2⟩ := opnd ha hx hy
      have hrun : (binOp op t (.int k a) (.int k b)).run G.P c.w = .ok v c.w := by
        cases op <;> simp [binI] at hv <;> subst hv <;> simp [binOp, Op.intArith, Op.intCmp]
      simp [execOp, ho, e1, e2, hg, hrun]
    · obtain ⟨v, hv, h⟩ := h
      refine ⟨_, h, fun w0 M c A hI ha => ⟨v, ?_, by simp [Rel]⟩⟩
      obtain ⟨e1, e2⟩ := opnd ha hx hy
      simp [execOp, ho, e1, e2, hg, hv]
  · rename_i a b hx hy
    obtain ⟨i, hi, h⟩ := h
    obtain ⟨d, hd, hf⟩ := (G.ok t i hi).desc
    have hg : ∀ w, (eqGuard op t x y (.bool a) (.bool b)).run G.P w = .ok () w := fun w => by
      unfold eqGuard; cases op <;> rfl
    split at h
    · rename_i hk
      rw [hk] at hf
      simp only [TK.fits] at hf
      subst hf
      refine ⟨_, h, fun w0 M c A hI ha => ⟨.bool _, ?_, by simp only [Rel]; rfl⟩⟩
      obtain ⟨e1, e2⟩ := opnd ha hx hy
      have hrun : (binOp .eql t (.bool a) (.bool b)).run G.P c.w = .ok (.bool (a == b)) c.w := by simp [binOp, run_equal_bool hd]
      simp [execOp, ho, e1, e2, hg, hrun]
    · rename_i hk
      rw [hk] at hf
      simp only [TK.fits] at hf
      subst hf
      refine ⟨_, h, fun w0 M c A hI ha => ⟨.bool _, ?_, by simp only [Rel]; rfl⟩⟩
      obtain ⟨e1, e2⟩ := opnd ha hx hy
      have hrun : (binOp .neq t (.bool a) (.bool b)).run G.P c.w = .ok (.bool (!(a == b))) c.w := by simp [binOp, run_equal_bool hd]
      simp [execOp, ho, e1, e2, hg, hrun]
    · exact h.elim
  · rename_i a b _ _ hx hy
    obtain ⟨v, hv, h⟩ := h
    split at h
    · exact h.elim
    · exact h.elim
    · rename_i h1 h2
      refine ⟨_, h, fun w0 M c A hI ha => ⟨v, ?_, by simp [Rel]⟩⟩
      obtain ⟨e1, e2⟩ := opnd ha hx hy
      have hg : (eqGuard op t x y a b).run G.P c.w = .ok () c.w := by
        unfold eqGuard
        cases op <;> first | rfl | (cases a <;> first | (exact absurd rfl (h2 _)) | (exact absurd rfl h1) | (cases b <;> rfl))
      simp [execOp, ho, e1, e2, hg, hv]
  · exact h.elim
end
end Go.Eng

/- The engine, part D: further operations that only compute or read; all of them under one name. -/
namespace Go.Eng
open Go Go.RowKit
section
variable {G : Gm} {tm : List Sv} {hp : Hp} {o : Oper}

theorem opnd_rel {c : Cx} {a : Act} {x : Operand} {s : Sv} (ha : ∀ x ∈ o.op.operands, Rel (evO tm x) c (a.eval x)) (hx : x ∈ o.op.operands) (e : evO tm x = s) : Rel s c (a.eval x) := e ▸ ha x hx

/-! ### One operand -/
def unV (op : UnOp) (x : Sv) (K : Sv → Prop) : Prop :=
  match op, x with
  | .not, .val (.bool b) => K (.val (.bool (!b)))
  | .neg, .val (.int k n) => EqK (k.wrap (0 - n)) fun m => K (.val (.int k m))
  | _, _ => False

theorem unV_sound {op : UnOp} {t : Nat} {x : Operand} {K : Sv → Prop} (ho : o.op = .unOp op t x) (h : unV op (evO tm x) K) : ∃ s, K s ∧ PureS G.P o tm hp s := by
  unfold unV at h
  split at h
  · rename_i b hx
    refine ⟨_, h, fun w0 M c a hI ha => ⟨.bool (!b), ?_, by simp only [Rel]⟩⟩
    have := opnd_rel ha (by rw [ho]; simp [Op.operands]) hx
    simp only [Rel] at this
    simp [execOp, ho, this, Op.unary]
  · rename_i k n hx
    refine ⟨_, h.go, fun w0 M c a hI ha => ⟨.int k (k.wrap (0 - n)), ?_, by simp only [Rel]⟩⟩
    have := opnd_rel ha (by rw [ho]; simp [Op.operands]) hx
    simp only [Rel] at this
    simp [execOp, ho, this, Op.unary, Op.intArith]
  · exact h.elim

def convV (G : Gm) (src dst : Nat) (x : Sv) (K : Sv → Prop) : Prop :=
  Get (G.tab src) fun _ => Get (G.tab dst) fun j =>
    match j.kind, x with
    | .int k, .val (.int _ n) => EqK (k.wrap n) fun m => K (.val (.int k m))
    | _, _ => False

theorem convV_sound {src dst : Nat} {x : Operand} {K : Sv → Prop} (ho : o.op = .convert src dst x) (h : convV G src dst (evO tm x) K) : ∃ s, K s ∧ PureS G.P o tm hp s := by
  obtain ⟨i, hi, j, hj, h⟩ := h
  split at h
  · rename_i k q n hk hx
    obtain ⟨d, hd, _⟩ := (G.ok src i hi).desc
    obtain ⟨d', hd', hf⟩ := (G.ok dst j hj).desc
    rw [hk] at hf
    simp only [TK.fits] at hf
    subst hf
    refine ⟨_, h.go, fun w0 M c a hI ha => ⟨.int k (k.wrap n), ?_, by simp only [Rel]⟩⟩
    have := opnd_rel ha (by rw [ho]; simp [Op.operands]) hx
    simp only [Rel] at this
    simp [execOp, ho, this, convert, run_underlying hd, run_underlying hd', Conv.intToInt]
  · exact h.elim

def lenV (G : Gm) (t : Nat) (x : Sv) (K : Sv → Prop) : Prop :=
  Get (G.tab t) fun i =>
    match i.kind, x with
    | .slice _, .own _ n => K (.val (.int .i64 (n : Int)))
    | .slice _, .sls _ _ n => K (.val (.int .i64 (n : Int)))
    | .slice _, .ext _ _ rows => EqK rows.length fun n => K (.val (.int .i64 (n : Int)))
    | .slice _, .val (.slice _ n _) => K (.val (.int .i64 (n : Int)))
    | .str, .val (.string s) => K (.val (.int .i64 (s.size : Int)))
    | _, _ => False

theorem run_len_slice {P : Program} {t e : Nat} (h : P.underlying t = some (.slice e)) (a : Option Addr) (n cap : Nat) (w : World) (ty : Nat) :
    (Builtin.len_ #[t] ty #[.slice a n cap]).run P w = .ok (.int .i64 (n : Int)) w := by
  simp [Builtin.len_, run_underlying h, goInt]

theorem lenV_sound {t : Nat} {x : Operand} {K : Sv → Prop} (ho : o.op = .call { callee := .builtin .len, args := #[x], argTypes := #[t] }) (h : lenV G t (evO tm x) K) : ∃ s, K s ∧ PureS G.P o tm hp s := by
  obtain ⟨i, hi, h⟩ := h
  have fin : ∀ {e n : Nat}, i.kind = .slice e → K (.val (.int .i64 (n : Int))) → (∀ (c : Cx) (v : Value), Rel (evO tm x) c v → ∃ a cap, v = .slice a n cap) → ∃ s, K s ∧ PureS G.P o tm hp s := by
    intro e n hk hK hv
    refine ⟨_, hK, fun w0 M c a hI ha => ⟨.int .i64 (n : Int), ?_, by simp only [Rel]⟩⟩
    obtain ⟨d, hd, hf⟩ := (G.ok t i hi).desc
    rw [hk] at hf
    simp only [TK.fits] at hf
    subst hf
    obtain ⟨A, cap, hv⟩ := hv c _ (ha x (by rw [ho]; simp [Op.operands, Call.operands]))
    simp [execOp, ho, resolve, invoke, builtin, hv, run_len_slice hd]
  split at h
  · rename_i e k n hk hx
    refine fin hk h fun c v r => ?_
    rw [hx] at r
    simp only [Rel] at r
    obtain ⟨_, ⟨_, rfl, rfl⟩ | ⟨_, rfl, _⟩⟩ := r
    · exact ⟨_, _, rfl⟩
    · exact ⟨_, _, rfl⟩
  · rename_i e k lo n hk hx
    refine fin hk h fun c v r => ?_
    rw [hx] at r
    simp only [Rel] at r
    obtain ⟨_, A, cap, rfl, _⟩ := r
    exact ⟨_, _, rfl⟩
  · rename_i e fr wd rows hk hx
    refine fin hk h.go fun c v r => ?_
    rw [hx] at r
    simp only [Rel] at r
    obtain ⟨A, cap, rfl, _⟩ := r
    exact ⟨_, _, rfl⟩
  · rename_i e A n cap hk hx
    refine fin hk h fun c v r => ?_
    rw [hx] at r
    simp only [Rel] at r
    exact ⟨_, _, r⟩
  · rename_i s hk hx
    refine ⟨_, h, fun w0 M c a hI ha => ⟨.int .i64 (s.size : Int), ?_, by simp only [Rel]⟩⟩
    obtain ⟨d, hd, hf⟩ := (G.ok t i hi).desc
    rw [hk] at hf
    simp only [TK.fits] at hf
    subst hf
    have := opnd_rel ha (by rw [ho]; simp [Op.operands, Call.operands]) hx
    simp only [Rel] at this
    simp [execOp, ho, resolve, invoke, builtin, this, Builtin.len_, run_underlying hd, goInt]
  · exact h.elim

def extractV (x : Sv) (i : Nat) (K : Sv → Prop) : Prop :=
  match x with
  | .tup cs => Get (nth cs i) K
  | _ => False

theorem RelT_get : ∀ (ss : List Sv) {c : Cx} {vs : List Value}, RelT ss c vs → ∀ (i : Nat) (s : Sv), ss[i]? = some s → ∃ v, vs[i]? = some v ∧ Rel s c v
  | [], _, _, _, _, _, h => by simp at h
  | t :: ss, _, _, r, i, s, h => by
    simp only [RelT] at r
    obtain ⟨u, us, e, hs, hl⟩ := r
    subst e
    cases i with
    | zero => simp at h; subst h; exact ⟨u, rfl, hs⟩
    | succ i => exact RelT_get ss hl i s (by simpa using h)

theorem RelT_map {tm : List Sv} {c : Cx} {a : Act} : ∀ (xs : List Operand), (∀ x ∈ xs, Rel (evO tm x) c (a.eval x)) → RelT (xs.map (evO tm)) c (xs.map a.eval)
  | [], _ => by simp [RelT]
  | x :: xs, h => by
    simp only [List.map_cons, RelT]
    exact ⟨_, _, rfl, h x (by simp), RelT_map xs fun y hy => h y (by simp [hy])⟩

theorem extractV_sound {x : Operand} {i : Nat} {K : Sv → Prop} (ho : o.op = .extract x i) (h : extractV (evO tm x) i K) : ∃ s, K s ∧ PureS G.P o tm hp s := by
  unfold extractV at h
  split at h
  · rename_i cs hx
    obtain ⟨s, hs, h⟩ := h
    refine ⟨s, h, fun w0 M c a hI ha => ?_⟩
    have r := opnd_rel ha (by rw [ho]; simp [Op.operands]) hx
    simp only [Rel] at r
    obtain ⟨vs, hv, hl⟩ := r
    rw [nth_eq] at hs
    obtain ⟨v, hg, hr⟩ := RelT_get cs hl i s hs
    exact ⟨v, by simp [execOp, ho, hv, Instr.extract, hg], hr⟩
  · exact h.elim

theorem funcV_sound {f : Nat} {cap : Array Operand} {K : Sv → Prop} (ho : o.op = .makeFunc (.func f) #[] cap) (h : K (.clo f (cap.toList.map (evO tm)))) : ∃ s, K s ∧ PureS G.P o tm hp s := by
  refine ⟨_, h, fun w0 M c a hI ha => ⟨.func (.func f) #[] (cap.map a.eval), ?_, ?_⟩⟩
  · simp [execOp, ho, Instr.makeFunc]
  · simp only [Rel]
    refine ⟨cap.toList.map a.eval, ?_, RelT_map _ fun x hx => ha x (by rw [ho]; simp [Op.operands]; simpa using hx)⟩
    congr 1
    apply Array.ext'
    simp

def nilCheckV (x : Sv) (K : Sv → Prop) : Prop :=
  match x with
  | .ptr k r c => K (.ptr k r c)
  | .ref fr cs => K (.ref fr cs)
  | .clo f cs => K (.clo f cs)
  | _ => False

theorem nilCheckV_sound {x : Operand} {K : Sv → Prop} (ho : o.op = .nilCheck x) (h : nilCheckV (evO tm x) K) : ∃ s, K s ∧ PureS G.P o tm hp s := by
  unfold nilCheckV at h
  split at h
  · rename_i k r q hx
    refine ⟨_, h, fun w0 M c a hI ha => ⟨a.eval x, ?_, opnd_rel ha (by rw [ho]; simp [Op.operands]) hx⟩⟩
    have r := opnd_rel ha (by rw [ho]; simp [Op.operands]) hx
    simp only [Rel] at r
    simp [execOp, ho, r.2.2]
  · rename_i cs hx
    refine ⟨_, h, fun w0 M c a hI ha => ⟨a.eval x, ?_, opnd_rel ha (by rw [ho]; simp [Op.operands]) hx⟩⟩
    have r := opnd_rel ha (by rw [ho]; simp [Op.operands]) hx
    simp only [Rel] at r
    obtain ⟨b, off, hv, _⟩ := r
    simp [execOp, ho, hv]
  · rename_i f cs hx
    refine ⟨_, h, fun w0 M c a hI ha => ⟨a.eval x, ?_, opnd_rel ha (by rw [ho]; simp [Op.operands]) hx⟩⟩
    have r := opnd_rel ha (by rw [ho]; simp [Op.operands]) hx
    simp only [Rel] at r
    obtain ⟨vs, hv, _⟩ := r
    simp [execOp, ho, hv]
  · exact h.elim

/-! ### A part of a slice -/
def bd (tm : List Sv) (x : Option Operand) (d : Int) (K : Int → Prop) : Prop :=
  match x with
  | none => K d
  | some y => match evO tm y with
    | .val (.int _ n) => K n
    | _ => False

def cutV (G : Gm) (tm : List Sv) (hp : Hp) (t : Nat) (x : Operand) (lo hi mx : Option Operand) (K : Sv → Prop) : Prop :=
  Get (G.tab t) fun i => match i.kind with
    | .slice e => Get (G.tab e) fun j =>
      match evO tm x with
      | .own k n => Get (hpGet hp k) fun b => Need (b.wd = j.size) <| match lo, mx with
        | none, none => bd tm hi n fun h => Need (0 ≤ h ∧ (h ≤ (n : Int) ∨ b.grow = true ∧ h ≤ (b.rows.length : Int))) (EqK h.toNat fun m' => K (.own k m'))
        | _, _ => bd tm lo 0 fun l => bd tm hi n fun h => bd tm mx h fun m => Need (0 ≤ l ∧ l ≤ h ∧ h ≤ m ∧ (m ≤ (n : Int) ∨ b.grow = true ∧ m ≤ (b.rows.length : Int))) (EqK l.toNat fun l' => EqK (h.toNat - l.toNat) fun m' => K (.sls k l' m'))
      | .sls k q n => Get (hpGet hp k) fun b => Need (b.wd = j.size) <| bd tm lo 0 fun l => bd tm hi n fun h => bd tm mx n fun m => Need (0 ≤ l ∧ l ≤ h ∧ h ≤ m ∧ m ≤ (n : Int)) (EqK (q + l.toNat) fun l' => EqK (h.toNat - l.toNat) fun m' => K (.sls k l' m'))
      | .ext fr wd rows => Need (wd = j.size) <| bd tm lo 0 fun l => EqK rows.length fun n' => bd tm hi n' fun h => bd tm mx n' fun m => Need (0 ≤ l ∧ l ≤ h ∧ h ≤ m ∧ m ≤ (n' : Int)) (EqK ((rows.take h.toNat).drop l.toNat) fun r => K (.ext fr wd r))
      | _ => False
    | _ => False

theorem bd_spec {x : Option Operand} {d : Int} {K : Int → Prop} (h : bd tm x d K) : ∃ n, K n ∧ (x = none ∧ n = d ∨ ∃ y k, x = some y ∧ evO tm y = .val (.int k n)) := by
  unfold bd at h
  split at h
  · exact ⟨d, h, .inl ⟨rfl, rfl⟩⟩
  · rename_i y
    split at h
    · rename_i k n hy
      exact ⟨n, h, .inr ⟨y, k, rfl, hy⟩⟩
    · exact h.elim

theorem run_sliceBound {P : Program} (k : IntKind) (n : Int) (y : Nat) (code : BoundsCode) (h0 : 0 ≤ n) (h1 : n ≤ (y : Int)) (w : World) : (Instr.sliceBound (.int k n) y code).run P w = .ok n.toNat w := by
  simp [Instr.sliceBound, asIntOf, h0, h1]

/-- What a cut of a slice comes to. -/
theorem run_cut {P : Program} {t e : Nat} {i j : TI} (ht : TIok P t i) (hk : i.kind = .slice e) (hj : TIok P e j) (A : Option Addr) (n cap : Nat) (hcap : n ≤ cap) (lo hi mx : Option Value) (l h m : Int)
    (hl : lo = none ∧ l = 0 ∨ ∃ k, lo = some (.int k l)) (hh : hi = none ∧ h = n ∧ mx = none ∨ ∃ k, hi = some (.int k h)) (hm : mx = none ∨ ∃ k, mx = some (.int k m)) (b : 0 ≤ l ∧ l ≤ h ∧ h ≤ m ∧ m ≤ (cap : Int)) (w : World) :
    ∃ A' cap', (Instr.sliceAt t (.slice A n cap) lo hi mx).run P w = .ok (.slice A' (h.toNat - l.toNat) cap') w ∧ h.toNat - l.toNat ≤ cap' ∧ (h.toNat - l.toNat = 0 ∨ A' = A.map (·.add (l.toNat * j.size))) ∧ (mx = none → l = 0 → (A' = A ∨ A' = A.map (·.add 0)) ∧ cap' = cap) := by
  obtain ⟨d, hd, hf⟩ := ht.desc
  rw [hk] at hf
  simp only [TK.fits] at hf
  subst hf
  have key : ∃ m', (Instr.sliceBounds true n cap lo hi mx).run P w = .ok (l.toNat, h.toNat, m') w ∧ h.toNat ≤ m' ∧ (mx = none → m' = cap) := by
    rcases hm with rfl | ⟨km, rfl⟩
    · rcases hh with ⟨rfl, rfl, _⟩ | ⟨kh, rfl⟩
      · rcases hl with ⟨rfl, rfl⟩ | ⟨kl, rfl⟩
        · exact ⟨cap, by simp [Instr.sliceBounds], by omega, fun _ => rfl⟩
        · exact ⟨cap, by simp [Instr.sliceBounds, run_sliceBound kl l n _ b.1 (by omega)], by omega, fun _ => rfl⟩
      · rcases hl with ⟨rfl, rfl⟩ | ⟨kl, rfl⟩
        · exact ⟨cap, by simp [Instr.sliceBounds, run_sliceBound kh h cap _ (by omega) (by omega)], by omega, fun _ => rfl⟩
        · exact ⟨cap, by simp [Instr.sliceBounds, run_sliceBound kh h cap _ (by omega) (by omega), run_sliceBound kl l h.toNat _ b.1 (by omega)], by omega, fun _ => rfl⟩
    · rcases hh with ⟨_, _, h0⟩ | ⟨kh, rfl⟩
      · cases h0
      · rcases hl with ⟨rfl, rfl⟩ | ⟨kl, rfl⟩
        · exact ⟨m.toNat, by simp [Instr.sliceBounds, run_sliceBound km m cap _ (by omega) (by omega), run_sliceBound kh h m.toNat _ (by omega) (by omega)], by omega, fun h => by cases h⟩
        · exact ⟨m.toNat, by simp [Instr.sliceBounds, run_sliceBound km m cap _ (by omega) (by omega), run_sliceBound kh h m.toNat _ (by omega) (by omega), run_sliceBound kl l h.toNat _ b.1 (by omega)], by omega, fun h => by cases h⟩
  obtain ⟨m', hrun, hle, hmc⟩ := key
  refine ⟨if m' = l.toNat then A else A.map (·.add (l.toNat * j.size)), m' - l.toNat, ?_, by omega, ?_, ?_⟩
  · simp [Instr.sliceAt, Instr.slice, run_underlying hd, hrun, hj.run_sizeOf]
  · by_cases e : m' = l.toNat
    · left; omega
    · right; rw [if_neg e]
  · intro h1 h2
    subst h2
    refine ⟨?_, by rw [hmc h1]; simp⟩
    split
    · exact .inl rfl
    · right; simp

theorem cutV_sound {t : Nat} {x : Operand} {lo hi mx : Option Operand} {K : Sv → Prop} (hhm : hi = none → mx = none) (ho : o.op = .slice t x lo hi mx) (h : cutV G tm hp t x lo hi mx K) : ∃ s, K s ∧ PureS G.P o tm hp s := by
  obtain ⟨i, hi', h⟩ := h
  have ht := G.ok t i hi'
  split at h
  case h_2 => exact h.elim
  rename_i e hk
  obtain ⟨j, hj', h⟩ := h
  have hj := G.ok e j hj'
  -- the bounds' values
  have bnd : ∀ {c : Cx} {a : Act} {y : Option Operand} {n d : Int}, (∀ x ∈ o.op.operands, Rel (evO tm x) c (a.eval x)) → (∀ z, y = some z → z ∈ o.op.operands) → (y = none ∧ n = d ∨ ∃ z k, y = some z ∧ evO tm z = .val (.int k n)) → (y.map a.eval = none ∧ n = d ∨ ∃ k, y.map a.eval = some (.int k n)) := by
    intro c a y n d ha hy hn
    rcases hn with ⟨rfl, rfl⟩ | ⟨z, k, rfl, hz⟩
    · exact .inl ⟨rfl, rfl⟩
    · have := opnd_rel ha (hy z rfl) hz
      simp only [Rel] at this
      exact .inr ⟨k, by simp [this]⟩
  have hlo : ∀ z, lo = some z → z ∈ o.op.operands := by rintro z rfl; rw [ho]; simp [Op.operands]
  have hhi : ∀ z, hi = some z → z ∈ o.op.operands := by rintro z rfl; rw [ho]; simp [Op.operands]
  have hmx : ∀ z, mx = some z → z ∈ o.op.operands := by rintro z rfl; rw [ho]; simp [Op.operands]
  have hx0 : x ∈ o.op.operands := by rw [ho]; simp [Op.operands]
  have hh3 : ∀ {a : Act} {q n : Int}, (hi.map a.eval = none ∧ q = n ∨ ∃ k, hi.map a.eval = some (.int k q)) → (hi.map a.eval = none ∧ q = n ∧ mx.map a.eval = none ∨ ∃ k, hi.map a.eval = some (.int k q)) := by
    intro a q n h
    rcases h with ⟨h1, h2⟩ | h
    · refine .inl ⟨h1, h2, ?_⟩
      cases hi with
      | none => rw [hhm rfl]; rfl
      | some z => cases h1
    · exact .inr h
  have hmn : ∀ {a : Act} {q n : Int}, (mx.map a.eval = none ∧ q = n ∨ ∃ k, mx.map a.eval = some (.int k q)) → (mx.map a.eval = none ∨ ∃ k, mx.map a.eval = some (.int k q)) := fun h => h.imp And.left id
  split at h
  · rename_i k n hx
    obtain ⟨b, hb, hw, h⟩ := h
    split at h
    · -- no low bound: the same block's first rows
      obtain ⟨q, h, hq⟩ := bd_spec h
      obtain ⟨⟨hq0, hbd⟩, h⟩ := h
      refine ⟨_, h.go, fun w0 M c a hI ha => ?_⟩
      have r := opnd_rel ha hx0 hx
      simp only [Rel] at r
      obtain ⟨hD, hv⟩ := r
      obtain ⟨b', hb', hwd, hrel⟩ := hI.dom k hD
      rw [hpGet_eq] at hb
      rw [hb] at hb'
      cases hb'
      rcases hv with ⟨hnil, e, h0⟩ | ⟨hnil, e, hc⟩
      · have hq1 : q = 0 := by
          rcases hrel.1 hnil with ⟨_, h1⟩ | ⟨h1, _⟩
          · rw [h1] at hbd; simp only [List.length_nil] at hbd; omega
          · rcases hbd with h | ⟨h, _⟩
            · omega
            · rw [h1] at h; cases h
        subst hq1
        obtain ⟨A', cap', hrun, hc', hA', hA2⟩ := run_cut ht hk hj none 0 0 (Nat.le_refl _) none (hi.map a.eval) none 0 0 0 (.inl ⟨rfl, rfl⟩) (by have := hh3 (bnd ha hhi hq); rw [h0] at this; exact this) (.inl rfl) ⟨by omega, by omega, by omega, by simp⟩ c.w
        obtain ⟨hA3, rfl⟩ := hA2 rfl rfl
        have hA4 : A' = none := by rcases hA3 with h | h <;> simpa using h
        subst hA4
        refine ⟨_, by simp [execOp, ho, e, hrun]; rfl, ?_⟩
        simp only [Rel]
        exact ⟨hD, .inl ⟨hnil, by simp, rfl⟩⟩
      · have hqc : q ≤ ((c.E k).cap : Int) := by
          rcases hbd with h1 | ⟨hg, h1⟩
          · omega
          · obtain ⟨arr, _, _, _, hgr⟩ := hrel.2 hnil
            have := (hgr hg).2.1; omega
        obtain ⟨A', cap', hrun, hc', hA', hA2⟩ := run_cut ht hk hj (some ⟨(c.E k).b, 0, none⟩) n (c.E k).cap hc none (hi.map a.eval) none 0 q q (.inl ⟨rfl, rfl⟩) (hh3 (bnd ha hhi hq)) (.inl rfl) ⟨by omega, hq0, by omega, hqc⟩ c.w
        obtain ⟨hA3, rfl⟩ := hA2 rfl rfl
        have hA4 : A' = some ⟨(c.E k).b, 0, none⟩ := by rcases hA3 with h | h <;> simpa [Addr.add_lit] using h
        subst hA4
        refine ⟨_, by simp [execOp, ho, e, hrun]; rfl, ?_⟩
        simp only [Rel]
        exact ⟨hD, .inr ⟨hnil, by simp, by simpa using hc'⟩⟩
    · obtain ⟨l, h, hl⟩ := bd_spec h
      obtain ⟨q, h, hq⟩ := bd_spec h
      obtain ⟨m, h, hm⟩ := bd_spec h
      obtain ⟨hbd, h⟩ := h
      refine ⟨_, h.go.go, fun w0 M c a hI ha => ?_⟩
      have r := opnd_rel ha hx0 hx
      simp only [Rel] at r
      obtain ⟨hD, hv⟩ := r
      obtain ⟨b', hb', hwd, hrel⟩ := hI.dom k hD
      rw [hpGet_eq] at hb
      rw [hb] at hb'
      cases hb'
      have hv' : ∃ A cap, a.eval x = .slice A n cap ∧ n ≤ cap ∧ m ≤ (cap : Int) ∧ (q.toNat - l.toNat = 0 ∨ (c.E k).nil = false ∧ A = some ⟨(c.E k).b, 0, none⟩) := by
        rcases hv with ⟨hnil, e, h0⟩ | ⟨hn, e, hc⟩
        · have hm0 : m ≤ 0 := by
            rcases hbd.2.2.2 with h1 | ⟨hg, h1⟩
            · omega
            · rcases hrel.1 hnil with ⟨_, h2⟩ | ⟨h2, _⟩
              · rw [h2] at h1; simpa using h1
              · rw [h2] at hg; cases hg
          exact ⟨_, _, by rw [e, h0], by omega, by omega, .inl (by omega)⟩
        · refine ⟨_, _, e, hc, ?_, .inr ⟨hn, rfl⟩⟩
          rcases hbd.2.2.2 with h1 | ⟨hg, h1⟩
          · omega
          · obtain ⟨arr, _, _, _, hgr⟩ := hrel.2 hn
            have := (hgr hg).2.1; omega
      obtain ⟨A, cap, hv, hc, hmc, hA⟩ := hv'
      obtain ⟨A', cap', hrun, hc', hA', _⟩ := run_cut ht hk hj A n cap hc (lo.map a.eval) (hi.map a.eval) (mx.map a.eval) l q m (bnd ha hlo hl) (hh3 (bnd ha hhi hq)) (hmn (bnd ha hmx hm)) ⟨hbd.1, hbd.2.1, hbd.2.2.1, hmc⟩ c.w
      refine ⟨_, by simp [execOp, ho, hv, hrun]; rfl, ?_⟩
      simp only [Rel]
      refine ⟨hD, A', cap', rfl, hc', ?_⟩
      rcases hA' with h0 | rfl
      · exact .inl h0
      · rcases hA with h0 | ⟨hn, rfl⟩
        · exact .inl h0
        · exact .inr ⟨hn, by simp [Addr.add_lit, hwd, hw]⟩
  · rename_i k p n hx
    obtain ⟨b, hb, hw, h⟩ := h
    obtain ⟨l, h, hl⟩ := bd_spec h
    obtain ⟨q, h, hq⟩ := bd_spec h
    obtain ⟨m, h, hm⟩ := bd_spec h
    obtain ⟨hbd, h⟩ := h
    refine ⟨_, h.go.go, fun w0 M c a hI ha => ?_⟩
    have r := opnd_rel ha hx0 hx
    simp only [Rel] at r
    obtain ⟨hD, A, cap, hv, hc, hA⟩ := r
    obtain ⟨A', cap', hrun, hc', hA', _⟩ := run_cut ht hk hj A n cap hc (lo.map a.eval) (hi.map a.eval) (mx.map a.eval) l q m (bnd ha hlo hl) (hh3 (bnd ha hhi hq)) (hmn (bnd ha hmx hm)) ⟨hbd.1, hbd.2.1, hbd.2.2.1, by omega⟩ c.w
    refine ⟨_, by simp [execOp, ho, hv, hrun]; rfl, ?_⟩
    simp only [Rel]
    refine ⟨hD, A', cap', rfl, hc', ?_⟩
    rcases hA' with h0 | rfl
    · exact .inl h0
    · rcases hA with rfl | ⟨hn, rfl⟩
      · left; omega
      · right
        obtain ⟨b', hb', hwd, _⟩ := hI.dom k hD
        rw [hpGet_eq] at hb
        rw [hb] at hb'
        cases hb'
        exact ⟨hn, by simp [Addr.add_lit, hwd, hw, Nat.add_mul]⟩
  · rename_i fr wd rows hx
    obtain ⟨hw, h⟩ := h
    obtain ⟨l, h, hl⟩ := bd_spec h
    have h := h.go
    obtain ⟨q, h, hq⟩ := bd_spec h
    obtain ⟨m, h, hm⟩ := bd_spec h
    obtain ⟨hbd, h⟩ := h
    refine ⟨_, h.go, fun w0 M c a hI ha => ?_⟩
    have r := opnd_rel ha hx0 hx
    simp only [Rel] at r
    obtain ⟨A, cap, hv, hc, hA⟩ := r
    obtain ⟨A', cap', hrun, hc', hA', _⟩ := run_cut ht hk hj A rows.length cap hc (lo.map a.eval) (hi.map a.eval) (mx.map a.eval) l q m (bnd ha hlo hl) (hh3 (bnd ha hhi hq)) (hmn (bnd ha hmx hm)) ⟨hbd.1, hbd.2.1, hbd.2.2.1, by omega⟩ c.w
    have hlen : ((rows.take q.toNat).drop l.toNat).length = q.toNat - l.toNat := by
      rw [List.length_drop, List.length_take]
      omega
    refine ⟨_, by simp [execOp, ho, hv, hrun]; rfl, ?_⟩
    simp only [Rel]
    refine ⟨A', cap', by rw [hlen], by rw [hlen]; exact hc', ?_⟩
    rcases hA' with h0 | rfl
    · exact .inl (List.eq_nil_of_length_eq_zero (by omega))
    · rcases hA with rfl | ⟨b, off, rfl, hX, hfr, hR⟩
      · left; simp
      · right
        refine ⟨b, off + l.toNat * wd, by simp [Addr.add_lit, hw], hX, hfr, RelR_drop (RelR_take hR _) _⟩
  · exact h.elim

/-! ### A struct put together -/
def putL {α : Type} (l : List α) (i : Nat) (xs : List α) : List α := l.take i ++ (xs ++ l.drop (i + xs.length))

def Sv.parts : Sv → Option (List Sv)
  | .agg cs => some cs
  | .any => none
  | .tup _ => none
  | s => match s.one with
    | true => some [s]
    | false => none

theorem Rel.parts {s : Sv} {cs : List Sv} {c : Cx} {v : Value} (h : s.parts = some cs) (r : Rel s c v) : ∃ vs : List Value, v.cells = vs.toArray ∧ RelL cs c vs := by
  by_cases ha : ∃ ds, s = .agg ds
  · obtain ⟨ds, rfl⟩ := ha
    simp only [Sv.parts, Option.some.injEq] at h
    subst h
    simp only [Rel] at r
    obtain ⟨vs, rfl, hl⟩ := r
    exact ⟨vs, rfl, hl⟩
  · have hs : s.one = true ∧ cs = [s] := by
      cases s <;> simp only [Sv.parts] at h <;> first
        | (exact absurd ⟨_, rfl⟩ ha)
        | (cases h; done)
        | (split at h <;> first | (cases h; done) | (rename_i h1; exact ⟨h1, by simpa using h.symm⟩))
    obtain ⟨h1, rfl⟩ := hs
    have ho := r.one h1
    refine ⟨[v], ?_, by simp only [RelL]; exact ⟨v, [], rfl, ho, r, rfl⟩⟩
    cases v <;> first | rfl | (simp [Value.oneCell'] at ho)

def fillS (G : Gm) (fs : List (Nat × Nat)) : List Sv → List (Nat × Sv) → (List Sv → Prop) → Prop
  | cells, [], K => K cells
  | cells, (i, x) :: rest, K => Get (nth fs i) fun p => Get (G.tab p.2) fun j => Get x.parts fun xs => Need (xs.length = j.size ∧ p.1 + xs.length ≤ cells.length) (fillS G fs (putL cells p.1 xs) rest K)

theorem RelL_put {cells xs : List Sv} {c : Cx} {vs us : List Value} (h : RelL cells c vs) (hx : RelL xs c us) (i : Nat) : RelL (putL cells i xs) c (putL vs i us) := by
  unfold putL
  rw [← RelL_len xs hx]
  exact RelL_append _ (RelL_take i _ h) (RelL_append _ hx (RelL_drop _ _ h))

theorem fold_set : ∀ (us : List Value) (off i : Nat) (cells : Array Value), off + i + us.length ≤ cells.size →
    ((us.zipIdx i).foldl (fun (cs : Array Value) (x : Value × Nat) => cs.setIfInBounds (off + x.2) x.1) cells).toList = putL cells.toList (off + i) us
  | [], off, i, cells, _ => by simp [putL]
  | u :: us, off, i, cells, h => by
    have hlen : off + (i + 1) + us.length ≤ (cells.setIfInBounds (off + i) u).size := by simp at h ⊢; omega
    have ih := fold_set us off (i + 1) (cells.setIfInBounds (off + i) u) hlen
    simp only [List.zipIdx_cons, List.foldl_cons]
    rw [ih]
    unfold putL
    simp only [Array.toList_setIfInBounds]
    have hi : off + i < cells.toList.length := by simp at h ⊢; omega
    rw [show off + (i + 1) = off + i + 1 by omega]
    have h1 : (cells.toList.set (off + i) u).take (off + i + 1) = cells.toList.take (off + i) ++ [u] := by
      rw [List.take_succ_eq_append_getElem (by simpa using hi)]
      simp [List.take_set_of_le]
    have h2 : (cells.toList.set (off + i) u).drop (off + i + 1 + us.length) = cells.toList.drop (off + i + (us.length + 1)) := by
      rw [List.drop_set_of_lt (by omega)]
      congr 1
      omega
    rw [h1, h2]
    simp

theorem fill_sound {G : Gm} {fs : List (Nat × Nat)} :
    ∀ (parts : List (Nat × Sv)) (cells : List Sv) (K : List Sv → Prop), fillS G fs cells parts K → ∃ cs, K cs ∧ ∀ (place : Nat → Option (Nat × Nat)),
      (∀ i p j, nth fs i = some p → G.tab p.2 = some j → place i = some (p.1, j.size)) → ∀ (c : Cx) (vs : List Value) (vparts : List (Nat × Value)), RelL cells c vs →
      vparts.map (·.1) = parts.map (·.1) → (∀ (i n : Nat) (s : Sv) (u : Value), parts[i]? = some (n, s) → vparts[i]? = some (n, u) → Rel s c u) →
      ∃ us : List Value, Instr.fill place vs.toArray vparts = some us.toArray ∧ RelL cs c us
  | [], cells, K, h => ⟨cells, h, fun place _ c vs vparts hv hm _ => by
      have : vparts = [] := by simpa using hm
      subst this
      exact ⟨vs, rfl, hv⟩⟩
  | (i, x) :: rest, cells, K, h => by
    obtain ⟨p, hp, j, hj, xs, hx, ⟨hl, hb⟩, h⟩ := h
    obtain ⟨cs, hK, ih⟩ := fill_sound rest _ K h
    refine ⟨cs, hK, fun place hpl c vs vparts hv hm hr => ?_⟩
    cases vparts with
    | nil => simp at hm
    | cons q vrest =>
      obtain ⟨n, u⟩ := q
      simp only [List.map_cons, List.cons.injEq] at hm
      obtain ⟨rfl, hm⟩ := hm
      have hu := hr 0 n x u rfl rfl
      obtain ⟨us, hus, hul⟩ := hu.parts hx
      have hlu := RelL_len _ hul
      have hlv := RelL_len _ hv
      obtain ⟨ws, hw, hwl⟩ := ih place hpl c (putL vs p.1 us) vrest (RelL_put hv hul p.1) hm (fun i n s u h1 h2 => hr (i + 1) n s u h1 h2)
      refine ⟨ws, ?_, hwl⟩
      have hpp := hpl n p j hp hj
      simp only [Instr.fill, hpp, hus]
      rw [if_neg (by simp; omega)]
      have := fold_set us p.1 0 vs.toArray (by simp; omega)
      rw [← hw]
      congr 1
      apply Array.ext'
      simpa using this

/-- An array's items as a struct's fields. -/
def arrFs (n z e : Nat) : List (Nat × Nat) := (List.range n).map fun i => (i * z, e)
theorem arrFs_nth {n z e i : Nat} {p : Nat × Nat} (h : nth (arrFs n z e) i = some p) : p = (i * z, e) ∧ i < n := by
  rw [nth_eq, arrFs, List.getElem?_map] at h
  cases hr : (List.range n)[i]? with
  | none => rw [hr] at h; cases h
  | some k =>
    rw [hr] at h
    obtain ⟨hk, e⟩ := List.getElem?_eq_some_iff.1 hr
    simp only [List.getElem_range] at e
    simp only [List.length_range] at hk
    subst e
    exact ⟨by simpa using h.symm, hk⟩
def buildV (G : Gm) (tm : List Sv) (t : Nat) (parts : Array (Nat × Operand)) (K : Sv → Prop) : Prop :=
  Get (G.tab t) fun i => match i.kind with
    | .struct fs => Need (fs.all (fun p => (G.tab p.2).isSome) = true) <| Need (i.zero.all Value.oneCell' = true) <|
        fillS G fs (i.zero.map .val) (parts.toList.map fun p => (p.1, evO tm p.2)) fun cs => K (.agg cs)
    | .arr n e => Get (G.tab e) fun j => Need (i.zero.all Value.oneCell' = true) <|
        fillS G (arrFs n j.size e) (i.zero.map .val) (parts.toList.map fun p => (p.1, evO tm p.2)) fun cs => K (.agg cs)
    | _ => False

theorem RelL_vals (c : Cx) : ∀ (vs : List Value), (∀ v ∈ vs, v.oneCell' = true) → RelL (vs.map .val) c vs
  | [], _ => by simp [RelL]
  | v :: vs, h => by
    simp only [List.map_cons, RelL]
    exact ⟨v, vs, rfl, h v (by simp), by simp [Rel], RelL_vals c vs fun u hu => h u (by simp [hu])⟩

theorem TIok.run_zero {P : Program} {t : Nat} {i : TI} (h : TIok P t i) (w : World) : ∃ z : Value, (zeroValue t).run P w = .ok z w ∧ z.cells = i.zero.toArray := by
  obtain ⟨I, hI, _, _, z, hz, hc⟩ := h.info
  exact ⟨z, by simp [zeroValue, typeInfo, hI, hz], hc⟩

theorem run_places {G : Gm} (w : World) : ∀ (F : List Field), (∀ f ∈ F, (G.tab f.type).isSome = true) →
    ∃ ps : List (Nat × Nat), (F.mapM (fun f => (do pure (f.offset, ← sizeOf f.type) : Sem (Nat × Nat)))).run G.P w = .ok ps w ∧ ∀ i p j, nth (F.map (fun f => (f.offset, f.type))) i = some p → G.tab p.2 = some j → ps[i]? = some (p.1, j.size)
  | [], _ => ⟨[], by simp, fun i p j h => by simp [nth] at h⟩
  | f :: F, h => by
    obtain ⟨ps, hr, hp⟩ := run_places w F fun g hg => h g (by simp [hg])
    obtain ⟨j, hj⟩ := Option.isSome_iff_exists.1 (h f (by simp))
    refine ⟨(f.offset, j.size) :: ps, ?_, fun i p j' hi hj' => ?_⟩
    · simp only [List.mapM_cons, Sem.run_bind, (G.ok f.type j hj).run_sizeOf, Result.andThen_ok, Sem.run_pure]
      rw [hr]
      simp
    · cases i with
      | zero => simp [nth] at hi; subst hi; simp only at hj'; rw [hj] at hj'; cases hj'; rfl
      | succ i => exact hp i p j' (by simpa [nth] using hi) hj'

theorem buildV_sound {t : Nat} {parts : Array (Nat × Operand)} {K : Sv → Prop} (ho : o.op = .build t parts) (h : buildV G tm t parts K) : ∃ s, K s ∧ PureS G.P o tm hp s := by
  obtain ⟨i, hi, h⟩ := h
  have ht := G.ok t i hi
  split at h
  · rename_i fs hk
    obtain ⟨hall, hone, h⟩ := h
    obtain ⟨d, hd, hf⟩ := ht.desc
    rw [hk] at hf
    obtain ⟨F, rfl, hF⟩ := hf
    have hsome : ∀ f ∈ F.toList, (G.tab f.type).isSome = true := by
      intro f hf
      rw [List.all_eq_true] at hall
      exact hall (f.offset, f.type) (by rw [← hF]; exact List.mem_map.2 ⟨f, hf, rfl⟩)
    have hps' : ∀ w : World, ∃ qs : List (Nat × Nat), (F.mapM (fun f => (do pure (f.offset, ← sizeOf f.type) : Sem (Nat × Nat)))).run G.P w = .ok qs.toArray w ∧ ∀ i p j, nth fs i = some p → G.tab p.2 = some j → qs.toArray[i]? = some (p.1, j.size) := by
      intro w
      obtain ⟨qs, hq, hql⟩ := run_places (G := G) w F.toList hsome
      refine ⟨qs, ?_, fun i p j h1 h2 => by simpa using hql i p j (by rw [hF]; exact h1) h2⟩
      rw [Array.mapM_eq_mapM_toList]
      simp only [Sem.run_map, hq, Result.andThen_ok]
    obtain ⟨cs, hK, hfill⟩ := fill_sound _ _ _ h
    refine ⟨_, hK, fun w0 M c a hI ha => ?_⟩
    obtain ⟨qs, hq, hql⟩ := hps' c.w
    obtain ⟨z, hz, hzc⟩ := ht.run_zero c.w
    rw [List.all_eq_true] at hone
    obtain ⟨us, hus, hul⟩ := hfill (fun i => qs.toArray[i]?) hql c i.zero ((parts.map fun p => (p.1, a.eval p.2)).toList) (RelL_vals c _ hone) (by simp) (fun m n s u h1 h2 => by
      simp only [List.getElem?_map, Array.toList_map, Option.map_eq_some_iff] at h1 h2
      obtain ⟨q, hq1, hq2⟩ := h1
      obtain ⟨q', hq1', hq2'⟩ := h2
      rw [hq1] at hq1'
      cases hq1'
      cases hq2
      cases hq2'
      exact ha _ (by rw [ho]; simp only [Op.operands]; simp; exact ⟨q.1, by have := List.mem_of_getElem? hq1; simpa using this⟩))
    refine ⟨.agg us.toArray, ?_, by simp only [Rel]; exact ⟨us, rfl, hul⟩⟩
    simp only [Array.toList_map, List.getElem?_toArray] at hus
    have hq' : (F.mapM (fun f => Prod.mk f.offset <$> sizeOf f.type)).run G.P c.w = .ok qs.toArray c.w := by simpa using hq
    simp [execOp, ho, Instr.build, hz, run_underlying hd, hq', hzc, hus]
  · rename_i n e hk
    obtain ⟨j, hj, hone, h⟩ := h
    obtain ⟨d, hd, hf⟩ := ht.desc
    rw [hk] at hf
    simp only [TK.fits] at hf
    subst hf
    obtain ⟨cs, hK, hfill⟩ := fill_sound _ _ _ h
    refine ⟨_, hK, fun w0 M c a hI ha => ?_⟩
    obtain ⟨z, hz, hzc⟩ := ht.run_zero c.w
    rw [List.all_eq_true] at hone
    obtain ⟨us, hus, hul⟩ := hfill (fun i => some (i * j.size, j.size)) (fun i p j' h1 h2 => by
      obtain ⟨rfl, _⟩ := arrFs_nth h1
      rw [hj] at h2
      cases h2
      rfl) c i.zero ((parts.map fun p => (p.1, a.eval p.2)).toList) (RelL_vals c _ hone) (by simp) (fun m n s u h1 h2 => by
      simp only [List.getElem?_map, Array.toList_map, Option.map_eq_some_iff] at h1 h2
      obtain ⟨q, hq1, hq2⟩ := h1
      obtain ⟨q', hq1', hq2'⟩ := h2
      rw [hq1] at hq1'
      cases hq1'
      cases hq2
      cases hq2'
      exact ha _ (by rw [ho]; simp only [Op.operands]; simp; exact ⟨q.1, by have := List.mem_of_getElem? hq1; simpa using this⟩))
    refine ⟨.agg us.toArray, ?_, by simp only [Rel]; exact ⟨us, rfl, hul⟩⟩
    simp only [Array.toList_map] at hus
    simp [execOp, ho, Instr.build, hz, run_underlying hd, (G.ok e j hj).run_sizeOf, hzc, hus]
  · exact h.elim

/-! ### The lesser and the greater one -/
def mmV (mx : Bool) (x y : Sv) (K : Sv → Prop) : Prop :=
  match x, y with
  | .val (.int k a), .val (.int _ b) => match mx with
    | true => EqK (if b > a then b else a) fun n => K (.val (.int k n))
    | false => EqK (if b < a then b else a) fun n => K (.val (.int k n))
  | _, _ => False
theorem mmV_sound {mx : Bool} {x y : Operand} {tys : Array TypeId} {K : Sv → Prop} (ho : o.op = .call { callee := .builtin (if mx then .max else .min), args := #[x, y], argTypes := tys }) (h : mmV mx (evO tm x) (evO tm y) K) : ∃ s, K s ∧ PureS G.P o tm hp s := by
  unfold mmV at h
  split at h
  · rename_i k a k' b hx hy
    have hx0 : x ∈ o.op.operands := by rw [ho]; simp [Op.operands, Call.operands]
    have hy0 : y ∈ o.op.operands := by rw [ho]; simp [Op.operands, Call.operands]
    cases mx with
    | true =>
      refine ⟨_, h.go, fun w0 M c ac hI ha => ⟨_, ?_, rfl⟩⟩
      have r1 := opnd_rel ha hx0 hx
      have r2 := opnd_rel ha hy0 hy
      simp only [Rel] at r1 r2
      simp [execOp, ho, resolve, invoke, builtin, r1, r2, Builtin.max_, Builtin.max2]
    | false =>
      refine ⟨_, h.go, fun w0 M c ac hI ha => ⟨_, ?_, rfl⟩⟩
      have r1 := opnd_rel ha hx0 hx
      have r2 := opnd_rel ha hy0 hy
      simp only [Rel] at r1 r2
      simp [execOp, ho, resolve, invoke, builtin, r1, r2, Builtin.min_, Builtin.min2]
  · exact h.elim
end
end Go.Eng
