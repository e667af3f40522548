/- The engine, part A: symbolic values, and what it means that a value of the machine is one of them. -/
import Derived.Below
import Derived.CallsIn
import Derived.Laws.AppendOwn
set_option linter.unusedSimpArgs false
set_option maxRecDepth 20000
set_option linter.unusedVariables false
namespace Go.Eng
open Go Go.RowKit

/-- A symbolic value. 'ptr', 'own', 'sls' name blocks of the local heap by their numbers; 'ext' is a slice by its content, 'ref' a pointer by what lies behind it. -/
inductive Sv where
  | val (x : Value)
  | any
  | agg (cs : List Sv)
  | tup (cs : List Sv)
  | ptr (k row col : Nat)
  | own (k n : Nat)
  | sls (k lo n : Nat)
  | ext (fr : Bool) (wd : Nat) (rows : List (List Sv))
  | ref (fr : Bool) (cs : List Sv)
  | clo (f : Nat) (caps : List Sv)

/-- Where a local block lies. -/
structure Loc where
  b : Nat
  cap : Nat
  nil : Bool
  wd : Nat

/-- What a relation hangs on: where the local blocks lie, which of them are known, in which blocks outside a content may lie, which blocks are new or for good, the world; A: blocks that whoever is called back may turn; C: those, and all others that have to stay as they are; Z: those of C in which the machine notes a loop's deferred calls. -/
structure Cx where
  E : Nat → Loc
  D : Nat → Prop
  X : Nat → Prop
  G : Nat → Prop
  w : World
  A : Nat → Prop := fun _ => False
  C : Nat → Prop := fun _ => False
  Z : Nat → Prop := fun _ => False

/-- What a walk hangs on from its start: which blocks of the world it may turn, which are new or for good, which are the machine's own, how many blocks were handed in to be turned, and where they lie. -/
structure Frm where
  M : Nat → Prop
  G : Nat → Prop
  Y : Nat → Prop
  m : Nat
  E0 : Nat → Loc
  J : Nat → List (List Sv) → (Nat → Prop) → (Nat → Prop) → World → Prop := fun _ _ _ _ _ => False
  C0 : Nat → Prop := fun _ => False
  X0 : Nat → Prop := fun _ => True
  Z0 : Nat → Prop := fun _ => False
  Xk : Nat → Prop := fun _ => False

/-- A world in which all that lies in blocks of C is as it was. -/
structure WSame (C : Nat → Prop) (w w' : World) : Prop where
  os : w'.os = w.os
  tape : w'.tape = w.tape
  output : w'.output = w.output
  size : w.heap.size ≤ w'.heap.size
  block : ∀ b, C b → w'.heap[b]? = w.heap[b]?

structure Frm.Fit (M : Frm) (w0 : World) : Prop where
  g : ∀ b, w0.heap.size ≤ b ∨ M.M b → M.G b
  y : ∀ b, M.Y b → b < w0.heap.size ∧ ¬ M.M b
  js : ∀ st r A C w w', M.J st r A C w → WSame C w w' → M.J st r A C w'

def Cx.shut (c : Cx) : Cx := { c with D := fun _ => False }

mutual
def Rel : Sv → Cx → Value → Prop
  | .val x, _, v => v = x
  | .any, _, _ => True
  | .agg cs, c, v => ∃ vs : List Value, v = .agg vs.toArray ∧ RelL cs c vs
  | .tup cs, c, v => ∃ vs : List Value, v = .tuple vs.toArray ∧ RelT cs c vs
  | .ptr k row col, c, v => c.D k ∧ (c.E k).nil = false ∧ v = .pointer (some ⟨(c.E k).b, row * (c.E k).wd + col, none⟩)
  | .own k n, c, v => c.D k ∧ ((c.E k).nil = true ∧ v = .slice none 0 0 ∧ n = 0 ∨ (c.E k).nil = false ∧ v = .slice (some ⟨(c.E k).b, 0, none⟩) n (c.E k).cap ∧ n ≤ (c.E k).cap)
  | .sls k lo n, c, v => c.D k ∧ ∃ a cap, v = .slice a n cap ∧ n ≤ cap ∧ (n = 0 ∨ (c.E k).nil = false ∧ a = some ⟨(c.E k).b, lo * (c.E k).wd, none⟩)
  | .ext fr wd rows, c, v => ∃ a cap, v = .slice a rows.length cap ∧ rows.length ≤ cap ∧ (rows = [] ∨ ∃ b off, a = some ⟨b, off, none⟩ ∧ c.X b ∧ (fr = true → c.G b) ∧ RelR rows c.shut wd b off)
  | .ref fr cs, c, v => ∃ b off, v = .pointer (some ⟨b, off, none⟩) ∧ c.X b ∧ (fr = true → c.G b) ∧ RelC cs c.shut b off
  | .clo f cs, c, v => ∃ vs : List Value, v = .func (.func f) #[] vs.toArray ∧ RelT cs c vs
def RelL : List Sv → Cx → List Value → Prop
  | [], _, vs => vs = []
  | s :: ss, c, vs => ∃ u us, vs = u :: us ∧ u.oneCell' = true ∧ Rel s c u ∧ RelL ss c us
def RelT : List Sv → Cx → List Value → Prop
  | [], _, vs => vs = []
  | s :: ss, c, vs => ∃ u us, vs = u :: us ∧ Rel s c u ∧ RelT ss c us
def RelC : List Sv → Cx → Nat → Nat → Prop
  | [], _, _, _ => True
  | s :: ss, c, b, off => (∃ u, c.w.cell? ⟨b, off, none⟩ = some u ∧ u.oneCell' = true ∧ Rel s c u) ∧ RelC ss c b (off + 1)
def RelR : List (List Sv) → Cx → Nat → Nat → Nat → Prop
  | [], _, _, _, _ => True
  | r :: rs, c, wd, b, off => r.length = wd ∧ RelC r c b off ∧ RelR rs c wd b (off + wd)
end

/-- Which local blocks a symbolic value names. -/
def Sv.all (p : Nat → Bool) : Sv → Bool
  | .agg cs => allL p cs
  | .tup cs => allL p cs
  | .clo _ cs => allL p cs
  | .ptr k _ _ => p k
  | .own k _ => p k
  | .sls k _ _ => p k
  | _ => true
where allL (p : Nat → Bool) : List Sv → Bool
  | [] => true
  | s :: ss => s.all p && allL p ss

mutual
theorem Sv.all_true : ∀ s : Sv, s.all (fun _ => true) = true
  | .val _ | .any | .ptr _ _ _ | .own _ _ | .sls _ _ _ | .ext _ _ _ | .ref _ _ => by simp [Sv.all]
  | .agg cs => by simp [Sv.all, allL_true cs]
  | .tup cs => by simp [Sv.all, allL_true cs]
  | .clo _ cs => by simp [Sv.all, allL_true cs]
theorem allL_true : ∀ cs : List Sv, Sv.all.allL (fun _ => true) cs = true
  | [] => rfl
  | s :: ss => by simp [Sv.all.allL, Sv.all_true s, allL_true ss]
end
theorem allR_true (rs : List (List Sv)) : rs.all (Sv.all.allL (fun _ => true)) = true := by
  rw [List.all_eq_true]
  exact fun r _ => allL_true r

/-- What has to hold between two contexts so that each relation that names blocks of p alone is kept. -/
structure Cx.Le (p : Nat → Bool) (c c' : Cx) : Prop where
  ed : ∀ k, p k = true → c.D k → c'.D k ∧ c'.E k = c.E k
  x : ∀ b, c.X b → c'.X b
  b : ∀ b, c.X b → c.G b → c'.G b
  heap : ∀ b, c.X b → c'.w.heap[b]? = c.w.heap[b]?

theorem Cx.Le.shut {p : Nat → Bool} {c c' : Cx} (h : c.Le p c') : c.shut.Le (fun _ => true) c'.shut := ⟨fun _ _ hk => hk.elim, h.x, h.b, h.heap⟩

theorem Cx.Le.cell {p : Nat → Bool} {c c' : Cx} (h : c.Le p c') {b off : Nat} (hb : c.X b) : c'.w.cell? ⟨b, off, none⟩ = c.w.cell? ⟨b, off, none⟩ :=
  World.cell?_of_block (h.heap b hb)

/-- In a shut context every value names no block that is known. -/
def Cx.Le1 (c c' : Cx) : Prop := c.shut.Le (fun _ => true) c'.shut

mutual
theorem Rel.le {p : Nat → Bool} : ∀ (s : Sv) {c c' : Cx} {v : Value}, s.all p = true → c.Le p c' → Rel s c v → Rel s c' v
  | .val x, _, _, _, _, _, r => by simpa [Rel] using r
  | .any, _, _, _, _, _, _ => by simp [Rel]
  | .agg cs, _, _, _, ha, h, r => by
    simp only [Rel] at r ⊢
    obtain ⟨vs, e, hl⟩ := r
    exact ⟨vs, e, RelL.le cs (by simpa [Sv.all] using ha) h hl⟩
  | .tup cs, _, _, _, ha, h, r => by
    simp only [Rel] at r ⊢
    obtain ⟨vs, e, hl⟩ := r
    exact ⟨vs, e, RelT.le cs (by simpa [Sv.all] using ha) h hl⟩
  | .ptr k row col, _, _, _, ha, h, r => by
    simp only [Rel] at r ⊢
    have hp : p k = true := by simpa [Sv.all] using ha
    rw [(h.ed k hp r.1).2]
    exact ⟨(h.ed k hp r.1).1, r.2⟩
  | .own k n, _, _, _, ha, h, r => by
    simp only [Rel] at r ⊢
    have hp : p k = true := by simpa [Sv.all] using ha
    rw [(h.ed k hp r.1).2]
    exact ⟨(h.ed k hp r.1).1, r.2⟩
  | .sls k lo n, _, _, _, ha, h, r => by
    simp only [Rel] at r ⊢
    have hp : p k = true := by simpa [Sv.all] using ha
    rw [(h.ed k hp r.1).2]
    exact ⟨(h.ed k hp r.1).1, r.2⟩
  | .ext fr wd rows, _, _, _, _, h, r => by
    simp only [Rel] at r ⊢
    obtain ⟨a, cap, e, hc, hr⟩ := r
    refine ⟨a, cap, e, hc, hr.imp id ?_⟩
    rintro ⟨b, off, ea, hx, hf, hr⟩
    exact ⟨b, off, ea, h.x b hx, fun e => h.b b hx (hf e), RelR.le rows (allR_true rows) h.shut (h.heap b hx) hr⟩
  | .ref fr cs, _, _, _, _, h, r => by
    simp only [Rel] at r ⊢
    obtain ⟨b, off, e, hx, hf, hr⟩ := r
    exact ⟨b, off, e, h.x b hx, fun e => h.b b hx (hf e), RelC.le cs (allL_true cs) h.shut (h.heap b hx) hr⟩
  | .clo f cs, _, _, _, ha, h, r => by
    simp only [Rel] at r ⊢
    obtain ⟨vs, e, hl⟩ := r
    exact ⟨vs, e, RelT.le cs (by simpa [Sv.all] using ha) h hl⟩
theorem RelL.le {p : Nat → Bool} : ∀ (ss : List Sv) {c c' : Cx} {vs : List Value}, Sv.all.allL p ss = true → c.Le p c' → RelL ss c vs → RelL ss c' vs
  | [], _, _, _, _, _, r => by simpa [RelL] using r
  | s :: ss, _, _, _, ha, h, r => by
    simp only [RelL] at r ⊢
    simp only [Sv.all.allL, Bool.and_eq_true] at ha
    obtain ⟨u, us, e, h1, hs, hl⟩ := r
    exact ⟨u, us, e, h1, Rel.le s ha.1 h hs, RelL.le ss ha.2 h hl⟩
theorem RelT.le {p : Nat → Bool} : ∀ (ss : List Sv) {c c' : Cx} {vs : List Value}, Sv.all.allL p ss = true → c.Le p c' → RelT ss c vs → RelT ss c' vs
  | [], _, _, _, _, _, r => by simpa [RelT] using r
  | s :: ss, _, _, _, ha, h, r => by
    simp only [RelT] at r ⊢
    simp only [Sv.all.allL, Bool.and_eq_true] at ha
    obtain ⟨u, us, e, hs, hl⟩ := r
    exact ⟨u, us, e, Rel.le s ha.1 h hs, RelT.le ss ha.2 h hl⟩
theorem RelC.le {p : Nat → Bool} : ∀ (ss : List Sv) {c c' : Cx} {b off : Nat}, Sv.all.allL p ss = true → c.Le p c' → c'.w.heap[b]? = c.w.heap[b]? → RelC ss c b off → RelC ss c' b off
  | [], _, _, _, _, _, _, _, _ => by simp [RelC]
  | s :: ss, _, _, b, off, ha, h, hx, r => by
    simp only [RelC] at r ⊢
    simp only [Sv.all.allL, Bool.and_eq_true] at ha
    obtain ⟨⟨u, e, h1, hs⟩, hl⟩ := r
    exact ⟨⟨u, (World.cell?_of_block (a := ⟨b, off, none⟩) hx).trans e, h1, Rel.le s ha.1 h hs⟩, RelC.le ss ha.2 h hx hl⟩
theorem RelR.le {p : Nat → Bool} : ∀ (rs : List (List Sv)) {c c' : Cx} {wd b off : Nat}, rs.all (Sv.all.allL p) = true → c.Le p c' → c'.w.heap[b]? = c.w.heap[b]? → RelR rs c wd b off → RelR rs c' wd b off
  | [], _, _, _, _, _, _, _, _, _ => by simp [RelR]
  | r :: rs, _, _, wd, b, off, ha, h, hx, q => by
    simp only [RelR] at q ⊢
    simp only [List.all_cons, Bool.and_eq_true] at ha
    obtain ⟨hw, hr, hl⟩ := q
    exact ⟨hw, RelC.le r ha.1 h hx hr, RelR.le rs ha.2 h hx hl⟩
end
end Go.Eng
