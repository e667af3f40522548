/- The engine, part B: the local heap; reading, storing, making blocks. -/
import Derived.Test.YtobojnfhhobnkaaEngA
import Derived.Laws.Append
import Derived.Laws.CopyRow
import Derived.Laws.Rows
import Derived.Deep.Draws
set_option linter.unusedSimpArgs false
set_option maxRecDepth 20000
set_option linter.unusedVariables false
namespace Go.Eng
open Go Go.RowKit

theorem RelL_len : ∀ (ss : List Sv) {c : Cx} {vs : List Value}, RelL ss c vs → vs.length = ss.length
  | [], _, _, r => by simp only [RelL] at r; simp [r]
  | s :: ss, _, _, r => by
    simp only [RelL] at r
    obtain ⟨u, us, e, _, _, hl⟩ := r
    subst e
    simp [RelL_len ss hl]

theorem RelL_one : ∀ (ss : List Sv) {c : Cx} {vs : List Value}, RelL ss c vs → ∀ u ∈ vs, u.oneCell' = true
  | [], _, _, r => by simp only [RelL] at r; simp [r]
  | s :: ss, _, _, r => by
    simp only [RelL] at r
    obtain ⟨u, us, e, h1, _, hl⟩ := r
    subst e
    intro x hx
    rcases List.mem_cons.1 hx with rfl | hx
    · exact h1
    · exact RelL_one ss hl x hx

theorem RelL_get : ∀ (ss : List Sv) {c : Cx} {vs : List Value}, RelL ss c vs → ∀ (i : Nat) (s : Sv) (v : Value), ss[i]? = some s → vs[i]? = some v → Rel s c v
  | [], _, _, _, _, _, _, h, _ => by simp at h
  | t :: ss, _, _, r, i, s, v, h, hv => by
    simp only [RelL] at r
    obtain ⟨u, us, e, _, hs, hl⟩ := r
    subst e
    cases i with
    | zero => simp at h hv; subst h; subst hv; exact hs
    | succ i => exact RelL_get ss hl i s v (by simpa using h) (by simpa using hv)

theorem RelL_append : ∀ (ss : List Sv) {ts : List Sv} {c : Cx} {vs ws : List Value}, RelL ss c vs → RelL ts c ws → RelL (ss ++ ts) c (vs ++ ws)
  | [], _, _, _, _, r, q => by simp only [RelL] at r; subst r; simpa using q
  | s :: ss, _, _, _, _, r, q => by
    simp only [RelL] at r
    obtain ⟨u, us, e, h1, hs, hl⟩ := r
    subst e
    simp only [List.cons_append, RelL]
    exact ⟨u, _, rfl, h1, hs, RelL_append ss hl q⟩

theorem RelL_drop : ∀ (i : Nat) (ss : List Sv) {c : Cx} {vs : List Value}, RelL ss c vs → RelL (ss.drop i) c (vs.drop i)
  | 0, _, _, _, r => by simpa using r
  | i + 1, [], _, _, r => by simp only [RelL] at r; simp [r, RelL]
  | i + 1, s :: ss, _, _, r => by
    simp only [RelL] at r
    obtain ⟨u, us, e, _, _, hl⟩ := r
    subst e
    simpa using RelL_drop i ss hl

theorem RelL_take : ∀ (i : Nat) (ss : List Sv) {c : Cx} {vs : List Value}, RelL ss c vs → RelL (ss.take i) c (vs.take i)
  | 0, _, _, _, _ => by simp [RelL]
  | i + 1, [], _, _, r => by simp only [RelL] at r; simp [r, RelL]
  | i + 1, s :: ss, _, _, r => by
    simp only [RelL] at r
    obtain ⟨u, us, e, h1, hs, hl⟩ := r
    subst e
    simp only [List.take_succ_cons, RelL]
    exact ⟨u, _, rfl, h1, hs, RelL_take i ss hl⟩

/-- The values behind a row of cells. -/
theorem RelC_vals : ∀ (ss : List Sv) {c : Cx} {b off : Nat}, RelC ss c b off → ∃ vs, RelL ss c vs ∧ ∀ j u, vs[j]? = some u → c.w.cell? ⟨b, off + j, none⟩ = some u
  | [], _, _, _, _ => ⟨[], by simp [RelL], by simp⟩
  | s :: ss, c, b, off, r => by
    simp only [RelC] at r
    obtain ⟨⟨u, e, h1, hs⟩, hl⟩ := r
    obtain ⟨vs, hv, hc⟩ := RelC_vals ss hl
    refine ⟨u :: vs, by simp only [RelL]; exact ⟨u, vs, rfl, h1, hs, hv⟩, fun j x hx => ?_⟩
    cases j with
    | zero => simp at hx; subst hx; simpa using e
    | succ j => rw [show off + (j + 1) = off + 1 + j by omega]; exact hc j x (by simpa using hx)

theorem RelC_of_vals : ∀ (ss : List Sv) {c : Cx} {b off : Nat} {vs : List Value}, RelL ss c vs → (∀ j u, vs[j]? = some u → c.w.cell? ⟨b, off + j, none⟩ = some u) → RelC ss c b off
  | [], _, _, _, _, _, _ => by simp [RelC]
  | s :: ss, c, b, off, vs, r, hc => by
    simp only [RelL] at r
    obtain ⟨u, us, e, h1, hs, hl⟩ := r
    subst e
    simp only [RelC]
    refine ⟨⟨u, by simpa using hc 0 u (by simp), h1, hs⟩, RelC_of_vals ss hl fun j x hx => ?_⟩
    have := hc (j + 1) x (by simpa using hx)
    rwa [show off + (j + 1) = off + 1 + j by omega] at this

theorem RelC_get : ∀ (ss : List Sv) {c : Cx} {b off : Nat}, RelC ss c b off → ∀ (i : Nat) (s : Sv), ss[i]? = some s → ∃ u, c.w.cell? ⟨b, off + i, none⟩ = some u ∧ u.oneCell' = true ∧ Rel s c u
  | [], _, _, _, _, _, _, h => by simp at h
  | t :: ss, _, _, off, r, i, s, h => by
    simp only [RelC] at r
    obtain ⟨hu, hl⟩ := r
    cases i with
    | zero => simp at h; subst h; exact hu
    | succ i =>
      have := RelC_get ss hl i s (by simpa using h)
      rwa [show off + 1 + i = off + (i + 1) by omega] at this

theorem RelC_drop : ∀ (i : Nat) (ss : List Sv) {c : Cx} {b off : Nat}, RelC ss c b off → RelC (ss.drop i) c b (off + i)
  | 0, _, _, _, _, r => by simpa using r
  | i + 1, [], _, _, _, _ => by simp [RelC]
  | i + 1, s :: ss, _, _, off, r => by
    simp only [RelC] at r
    have := RelC_drop i ss r.2
    rw [show off + 1 + i = off + (i + 1) by omega] at this
    simpa using this

theorem RelC_take : ∀ (i : Nat) (ss : List Sv) {c : Cx} {b off : Nat}, RelC ss c b off → RelC (ss.take i) c b off
  | 0, _, _, _, _, _ => by simp [RelC]
  | i + 1, [], _, _, _, _ => by simp [RelC]
  | i + 1, s :: ss, _, _, off, r => by
    simp only [RelC] at r
    simp only [List.take_succ_cons, RelC]
    exact ⟨r.1, RelC_take i ss r.2⟩

theorem RelR_get : ∀ (rs : List (List Sv)) {c : Cx} {wd b off : Nat}, RelR rs c wd b off → ∀ (i : Nat) (r : List Sv), rs[i]? = some r → r.length = wd ∧ RelC r c b (off + i * wd)
  | [], _, _, _, _, _, _, _, h => by simp at h
  | q :: rs, _, wd, _, off, h, i, r, hr => by
    simp only [RelR] at h
    obtain ⟨hw, hc, hl⟩ := h
    cases i with
    | zero => simp at hr; subst hr; exact ⟨hw, by simpa using hc⟩
    | succ i =>
      have := RelR_get rs hl i r (by simpa using hr)
      rwa [show off + wd + i * wd = off + (i + 1) * wd by rw [Nat.add_mul]; omega] at this

theorem RelR_of : ∀ (rs : List (List Sv)) {c : Cx} {wd b off : Nat}, (∀ (i : Nat) (r : List Sv), rs[i]? = some r → r.length = wd ∧ RelC r c b (off + i * wd)) → RelR rs c wd b off
  | [], _, _, _, _, _ => by simp [RelR]
  | q :: rs, c, wd, b, off, h => by
    simp only [RelR]
    have h0 := h 0 q (by simp)
    refine ⟨h0.1, by simpa using h0.2, RelR_of rs fun i r hr => ?_⟩
    have := h (i + 1) r (by simpa using hr)
    rwa [show off + (i + 1) * wd = off + wd + i * wd by rw [Nat.add_mul]; omega] at this

theorem RelR_iff {rs : List (List Sv)} {c : Cx} {wd b off : Nat} : RelR rs c wd b off ↔ ∀ (i : Nat) (r : List Sv), rs[i]? = some r → r.length = wd ∧ RelC r c b (off + i * wd) :=
  ⟨RelR_get rs, RelR_of rs⟩

theorem RelR_drop {rs : List (List Sv)} {c : Cx} {wd b off : Nat} (h : RelR rs c wd b off) (k : Nat) : RelR (rs.drop k) c wd b (off + k * wd) := by
  rw [RelR_iff] at h ⊢
  intro i r hr
  have := h (k + i) r (by rw [← hr, List.getElem?_drop])
  rwa [show off + (k + i) * wd = off + k * wd + i * wd by rw [Nat.add_mul]; omega] at this

theorem RelR_take {rs : List (List Sv)} {c : Cx} {wd b off : Nat} (h : RelR rs c wd b off) (k : Nat) : RelR (rs.take k) c wd b off := by
  rw [RelR_iff] at h ⊢
  intro i r hr
  rw [List.getElem?_take] at hr
  split at hr
  · exact h i r hr
  · cases hr

theorem RelR_append {rs qs : List (List Sv)} {c : Cx} {wd b off : Nat} (h : RelR rs c wd b off) (g : RelR qs c wd b (off + rs.length * wd)) : RelR (rs ++ qs) c wd b off := by
  rw [RelR_iff] at h g ⊢
  intro i r hr
  by_cases hi : i < rs.length
  · rw [List.getElem?_append_left hi] at hr
    exact h i r hr
  · rw [List.getElem?_append_right (by omega)] at hr
    have := g (i - rs.length) r hr
    rwa [show off + rs.length * wd + (i - rs.length) * wd = off + i * wd by
      have : i = rs.length + (i - rs.length) := by omega
      conv => rhs; rw [this, Nat.add_mul]
      omega] at this

/-- All cells of rows, one behind the other, as values. -/
theorem RelR_vals : ∀ (rs : List (List Sv)) {c : Cx} {wd b off : Nat}, RelR rs c wd b off → ∃ vs : List Value, vs.length = rs.length * wd ∧ RelL rs.flatten c vs ∧ ∀ j u, vs[j]? = some u → c.w.cell? ⟨b, off + j, none⟩ = some u
  | [], _, _, _, _, _ => ⟨[], by simp, by simp [RelL], by simp⟩
  | r :: rs, c, wd, b, off, h => by
    simp only [RelR] at h
    obtain ⟨hw, hc, hl⟩ := h
    obtain ⟨us, hu, hcu⟩ := RelC_vals r hc
    obtain ⟨vs, hn, hv, hcv⟩ := RelR_vals rs hl
    have hlu := RelL_len r hu
    refine ⟨us ++ vs, by simp [hn, hlu, hw, Nat.add_mul]; omega, by simpa using RelL_append r hu hv, fun j u hj => ?_⟩
    by_cases hjl : j < us.length
    · rw [List.getElem?_append_left hjl] at hj
      exact hcu j u hj
    · rw [List.getElem?_append_right (by omega)] at hj
      have := hcv (j - us.length) u hj
      rwa [show off + wd + (j - us.length) = off + j by omega] at this

theorem RelR_of_vals : ∀ (rs : List (List Sv)) {c : Cx} {wd b off : Nat} {vs : List Value}, (∀ r ∈ rs, r.length = wd) → RelL rs.flatten c vs → (∀ j u, vs[j]? = some u → c.w.cell? ⟨b, off + j, none⟩ = some u) → RelR rs c wd b off
  | [], _, _, _, _, _, _, _, _ => by simp [RelR]
  | r :: rs, c, wd, b, off, vs, hw, h, hc => by
    simp only [RelR]
    have h1 := RelL_take r.length _ h
    have h2 := RelL_drop r.length _ h
    simp only [List.flatten_cons, List.take_left', List.drop_left'] at h1 h2
    have hr := hw r (by simp)
    refine ⟨hr, RelC_of_vals r h1 fun j u hj => ?_, RelR_of_vals rs (fun q hq => hw q (by simp [hq])) h2 fun j u hj => ?_⟩
    · rw [List.getElem?_take] at hj
      split at hj
      · exact hc j u hj
      · cases hj
    · rw [List.getElem?_drop] at hj
      have := hc _ u hj
      rwa [show off + (r.length + j) = off + wd + j by omega] at this

/-! ### The local heap -/
/-- A local block: its elements' type, how many cells one has, whether its cells name no local block, whether it is a slice's (it may be nil, and may be appended to), the rows. One that is nil and no slice's is no block: it tells in its rows what a loop's body has been handed so far, and in its type whether it wants no more. -/
structure Blk where
  elem : Nat
  wd : Nat
  clean : Bool
  grow : Bool
  rows : List (List Sv)

/-- A block, and no telling of rounds. -/
def Blk.ng (b : Blk) : Prop :=
  match b with
  | ⟨_, 0, true, false, _⟩ => False
  | _ => True
theorem Blk.ng_not {b : Blk} (h : b.ng) : ¬ (b.grow = false ∧ b.clean = true ∧ b.wd = 0) := by
  rintro ⟨h1, h2, h3⟩
  cases b
  simp only at h1 h2 h3
  subst h1 h2 h3
  exact h
def Blk.cx (k : Blk) (c : Cx) : Cx := if k.clean then c.shut else c

def BlkRel (c : Cx) (k : Nat) (blk : Blk) : Prop :=
  (c.E k).wd = blk.wd ∧
  ((c.E k).nil = true → blk.grow = true ∧ blk.rows = [] ∨ blk.grow = false ∧ blk.clean = true ∧ blk.wd = 0) ∧
  ((c.E k).nil = false → ∃ arr, c.w.heap[(c.E k).b]? = some (.cells arr blk.elem (0, 0)) ∧ RelR blk.rows (blk.cx c) blk.wd (c.E k).b 0 ∧ blk.rows.length * blk.wd ≤ arr.size ∧
     (blk.grow = true → (c.E k).cap * blk.wd ≤ arr.size ∧ blk.rows.length ≤ (c.E k).cap ∧ (c.E k).cap ≤ maxLen))

abbrev Hp := List (Option Blk)

/-- What holds of the world of a walk: against the world w0 in which it began, of whose blocks only those of M may have turned. -/
structure Inv (w0 : World) (M : Frm) (c : Cx) (hp : Hp) : Prop where
  dom : ∀ k, c.D k → ∃ blk, hp[k]? = some (some blk) ∧ BlkRel c k blk
  inj : ∀ k k', c.D k → c.D k' → k ≠ k' → (c.E k).nil = false → (c.E k').nil = false → (c.E k).b ≠ (c.E k').b
  xsep : ∀ k b, c.D k → (c.E k).nil = false → c.X b → (c.E k).b ≠ b
  xlt : ∀ b, c.X b → b < c.w.heap.size
  xY : ∀ b, c.X b → ¬ M.Y b
  bnd : c.G = M.G
  bndG : M.Fit w0
  e0 : ∀ k, k < M.m → c.D k → c.E k = M.E0 k
  mlen : M.m ≤ hp.length
  os : c.w.os = w0.os
  tape : c.w.tape = w0.tape
  output : c.w.output = w0.output
  size : w0.heap.size ≤ c.w.heap.size
  keep : ∀ j, j < w0.heap.size → ¬ M.M j → ¬ M.Y j → c.w.heap[j]? = w0.heap[j]?
  loc : ∀ k, c.D k → (c.E k).nil = false → M.M (c.E k).b ∨ w0.heap.size ≤ (c.E k).b
  x0 : ∀ b, c.X b → w0.heap.size ≤ b ∨ M.M b ∨ M.X0 b
  ca : ∀ b, c.A b → c.C b ∧ ¬ c.X b ∧ (w0.heap.size ≤ b ∨ M.Y b)
  cc : ∀ b, c.C b → b < c.w.heap.size ∧ (∀ k, c.D k → (c.E k).nil = false → (c.E k).b ≠ b) ∧ (w0.heap.size ≤ b ∨ M.C0 b ∨ M.M b ∨ M.X0 b)
  gh : ∀ k blk, c.D k → hp[k]? = some (some blk) → (c.E k).nil = true → blk.grow = false → ∃ C1, (∀ b, C1 b → c.C b ∧ ¬ c.Z b) ∧ M.J blk.elem blk.rows c.A C1 c.w
  zc : ∀ b, c.Z b → c.C b ∧ ¬ c.A b ∧ ¬ c.X b
  z0 : ∀ b, M.Z0 b → c.Z b
  xk : ∀ b, M.Xk b → c.X b

theorem WSame.mono {C C' : Nat → Prop} {w w' : World} (h : WSame C w w') (hc : ∀ b, C' b → C b) : WSame C' w w' := ⟨h.os, h.tape, h.output, h.size, fun b hb => h.block b (hc b hb)⟩
/-- What is told of the rounds so far stands, as long as the blocks of C do. -/
theorem Inv.ghs {w0 : World} {M : Frm} {c : Cx} {hp : Hp} (h : Inv w0 M c hp) {w' : World} (hw : WSame c.C c.w w') {k : Nat} {blk : Blk} (hD : c.D k) (hb : hp[k]? = some (some blk)) (hn : (c.E k).nil = true) (hg : blk.grow = false) :
    ∃ C1, (∀ b, C1 b → c.C b ∧ ¬ c.Z b) ∧ M.J blk.elem blk.rows c.A C1 w' := by
  obtain ⟨C1, h1, h2⟩ := h.gh k blk hD hb hn hg
  exact ⟨C1, h1, h.bndG.js _ _ _ _ _ _ h2 (hw.mono fun b hb => (h1 b hb).1)⟩

theorem BlkRel.le {p : Nat → Bool} {c c' : Cx} {k : Nat} {blk : Blk} (h : c.Le p c') (hE : c'.E k = c.E k) (hb : (c.E k).nil = false → c'.w.heap[(c.E k).b]? = c.w.heap[(c.E k).b]?)
    (ha : blk.clean = false → blk.rows.all (Sv.all.allL p) = true) (r : BlkRel c k blk) : BlkRel c' k blk := by
  unfold BlkRel at *
  rw [hE]
  refine ⟨r.1, r.2.1, fun hn => ?_⟩
  obtain ⟨arr, hh, hr, hl, hg⟩ := r.2.2 hn
  refine ⟨arr, (hb hn).trans hh, ?_, hl, hg⟩
  unfold Blk.cx at *
  cases hc : blk.clean with
  | true =>
    rw [hc] at hr
    exact RelR.le _ (allR_true _) h.shut (hb hn) hr
  | false =>
    rw [hc] at hr
    exact RelR.le _ (ha hc) h (hb hn) hr

theorem BlkRel.lt {c : Cx} {k : Nat} {blk : Blk} (r : BlkRel c k blk) (hn : (c.E k).nil = false) : (c.E k).b < c.w.heap.size := by
  obtain ⟨arr, hh, _⟩ := r.2.2 hn
  exact (Array.getElem?_eq_some_iff.1 hh).1

def upd (E : Nat → Loc) (n : Nat) (l : Loc) : Nat → Loc := fun k => if k = n then l else E k
@[simp] theorem upd_same (E : Nat → Loc) (n : Nat) (l : Loc) : upd E n l n = l := by simp [upd]
theorem upd_other {E : Nat → Loc} {n k : Nat} {l : Loc} (h : k ≠ n) : upd E n l k = E k := by simp [upd, h]

/-- The context behind a new block, number n of the local heap. -/
def Cx.put (c : Cx) (n : Nat) (l : Loc) (w : World) : Cx := { c with E := upd c.E n l, D := fun k => c.D k ∨ k = n, w := w }

theorem Cx.Le.put {c : Cx} {n : Nat} {l : Loc} {w : World} (hn : ¬ c.D n) (hx : ∀ b, c.X b → w.heap[b]? = c.w.heap[b]?) : c.Le (fun _ => true) (c.put n l w) :=
  ⟨fun k _ hk => ⟨.inl hk, upd_other (fun e => hn (e ▸ hk))⟩, fun _ h => h, fun _ _ h => h, hx⟩

/-- A world that differs from another in new blocks alone. -/
structure WGrow (w w' : World) : Prop where
  os : w'.os = w.os
  tape : w'.tape = w.tape
  output : w'.output = w.output
  size : w.heap.size ≤ w'.heap.size
  block : ∀ j, j < w.heap.size → w'.heap[j]? = w.heap[j]?

theorem WGrow.refl (w : World) : WGrow w w := ⟨rfl, rfl, rfl, Nat.le_refl _, fun _ _ => rfl⟩
theorem WGrow.trans {a b c : World} (h : WGrow a b) (k : WGrow b c) : WGrow a c :=
  ⟨k.os.trans h.os, k.tape.trans h.tape, k.output.trans h.output, Nat.le_trans h.size k.size, fun j hj => (k.block j (Nat.lt_of_lt_of_le hj h.size)).trans (h.block j hj)⟩
theorem WGrow.drew {a b : World} (h : WGrow a b) : WGrow a b.drew := ⟨h.os, h.tape, h.output, h.size, h.block⟩
theorem WGrow.alloc (w : World) (o : Obj) : WGrow w (w.alloc o) := ⟨rfl, rfl, rfl, by simp, fun j hj => heap_alloc_old w o j hj⟩

/-- The same context in a world that has grown. -/
theorem Inv.grow {w0 : World} {M : Frm} {c : Cx} {hp : Hp} (h : Inv w0 M c hp) {w : World} (g : WGrow c.w w) : Inv w0 M { c with w := w } hp := by
  have hb : ∀ k blk, BlkRel c k blk → (c.E k).nil = false → w.heap[(c.E k).b]? = c.w.heap[(c.E k).b]? := fun k blk r hn => g.block _ (r.lt hn)
  have hle : c.Le (fun _ => true) { c with w := w } := ⟨fun _ _ hk => ⟨hk, rfl⟩, fun _ h => h, fun _ _ h => h, fun b hx => g.block b (h.xlt b hx)⟩
  exact {
    dom := fun k hk => let ⟨blk, e, r⟩ := h.dom k hk; ⟨blk, e, r.le hle rfl (hb k blk r) (fun _ => allR_true _)⟩
    inj := h.inj
    xsep := h.xsep
    xlt := fun b hb => Nat.lt_of_lt_of_le (h.xlt b hb) g.size
    xY := h.xY
    bnd := h.bnd
    bndG := h.bndG
    e0 := h.e0
    mlen := h.mlen
    os := g.os.trans h.os
    tape := g.tape.trans h.tape
    output := g.output.trans h.output
    size := Nat.le_trans h.size g.size
    keep := fun j hj hm hy => (g.block j (Nat.lt_of_lt_of_le hj h.size)).trans (h.keep j hj hm hy)
    loc := h.loc
    x0 := h.x0
    zc := h.zc
    z0 := h.z0
    xk := h.xk
    ca := h.ca
    cc := fun b hb => ⟨Nat.lt_of_lt_of_le (h.cc b hb).1 g.size, (h.cc b hb).2⟩
    gh := fun k blk hD hb hn hg => h.ghs ⟨g.os, g.tape, g.output, g.size, fun b hb => g.block b (h.cc b hb).1⟩ hD hb hn hg }

theorem Inv.le_grow {w0 : World} {M : Frm} {c : Cx} {hp : Hp} (h : Inv w0 M c hp) {w : World} (g : WGrow c.w w) : c.Le (fun _ => true) { c with w := w } :=
  ⟨fun _ _ hk => ⟨hk, rfl⟩, fun _ h => h, fun _ _ h => h, fun b hx => g.block b (h.xlt b hx)⟩

/-- A new block. -/
theorem Inv.new {w0 : World} {M : Frm} {c : Cx} {hp hp' : Hp} (h : Inv w0 M c hp) {n : Nat} (hn : ¬ c.D n) (hm : M.m ≤ n) (hold : ∀ k, c.D k → hp'[k]? = hp[k]?)
    {blk : Blk} (hnew : hp'[n]? = some (some blk)) {l : Loc} {w : World} (g : WGrow c.w w) (hl : l.nil = false → c.w.heap.size ≤ l.b) (hr : BlkRel (c.put n l w) n blk) (hgr : l.nil = true → blk.grow = true) : Inv w0 M (c.put n l w) hp' := by
  have hg := h.grow g
  have hle : Cx.Le (fun _ => true) { c with w := w } (c.put n l w) := ⟨fun k _ hk => ⟨.inl hk, upd_other (fun e => hn (e ▸ hk))⟩, fun _ h => h, fun _ _ h => h, fun _ _ => rfl⟩
  have hEo : ∀ k, c.D k → (c.put n l w).E k = c.E k := fun k hk => upd_other (fun e => hn (e ▸ hk))
  have hEn : (c.put n l w).E n = l := upd_same _ _ _
  have hlt : ∀ k, c.D k → (c.E k).nil = false → (c.E k).b < c.w.heap.size := fun k hk hnil => let ⟨blk, _, r⟩ := h.dom k hk; r.lt hnil
  refine { dom := ?_, inj := ?_, xsep := ?_, xlt := hg.xlt, xY := hg.xY, bnd := hg.bnd, bndG := hg.bndG, e0 := ?_, mlen := Nat.le_of_lt (Nat.lt_of_le_of_lt hm (List.getElem?_eq_some_iff.1 hnew).1), os := hg.os, tape := hg.tape, output := hg.output, size := hg.size, keep := hg.keep, loc := ?_, x0 := hg.x0, zc := hg.zc, z0 := hg.z0, xk := hg.xk, ca := hg.ca, cc := fun b hb => ⟨(hg.cc b hb).1, ?_, (hg.cc b hb).2.2⟩, gh := ?_ }
  · rintro k (hk | rfl)
    · obtain ⟨b, e, r⟩ := hg.dom k hk
      exact ⟨b, (hold k hk).trans e, r.le hle (hEo k hk) (fun _ => rfl) (fun _ => allR_true _)⟩
    · exact ⟨blk, hnew, hr⟩
  · rintro k k' (hk | rfl) (hk' | rfl) hne h1 h2
    · rw [hEo k hk] at h1 ⊢; rw [hEo k' hk'] at h2 ⊢; exact h.inj k k' hk hk' hne h1 h2
    · rw [hEo k hk] at h1 ⊢; rw [hEn] at h2 ⊢
      have := hlt k hk h1; have := hl h2; omega
    · rw [hEo k' hk'] at h2 ⊢; rw [hEn] at h1 ⊢
      have := hlt k' hk' h2; have := hl h1; omega
    · exact absurd rfl hne
  · rintro k b (hk | rfl) h1 hx
    · rw [hEo k hk] at h1 ⊢; exact h.xsep k b hk h1 hx
    · rw [hEn] at h1 ⊢; have := hl h1; have := h.xlt b hx; omega
  · rintro k hlt (hk | rfl)
    · rw [hEo k hk]; exact h.e0 k hlt hk
    · omega
  · rintro k (hk | rfl) h1
    · rw [hEo k hk] at h1 ⊢; exact h.loc k hk h1
    · rw [hEn] at h1 ⊢; have := hl h1; have := h.size; exact .inr (by omega)
  · rintro k (hk | rfl) h1
    · rw [hEo k hk] at h1 ⊢; exact (hg.cc b hb).2.1 k hk h1
    · rw [hEn] at h1 ⊢; have := hl h1; have := (h.cc b hb).1; omega
  · rintro k b (hk | rfl) hb h1 h2
    · rw [hEo k hk] at h1
      rw [hold k hk] at hb
      exact hg.gh k b hk hb h1 h2
    · rw [hEn] at h1
      rw [hnew] at hb
      cases hb
      rw [hgr h1] at h2
      cases h2
end Go.Eng
