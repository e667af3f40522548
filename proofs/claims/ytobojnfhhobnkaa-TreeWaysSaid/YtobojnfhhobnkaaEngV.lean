/- The engine, part V: loops over functions: what a loop's rounds hang on. -/
import Derived.Test.YtobojnfhhobnkaaEngFz
import Derived.RangeFuncSeq
set_option linter.unusedSimpArgs false
set_option maxRecDepth 20000
set_option linter.unusedVariables false
namespace Go.Eng
open Go Go.RowKit

/-! ### The same state in another world, or seen from another start -/
theorem Inv.same {w0 : World} {M : Frm} {c : Cx} {hp : Hp} (h : Inv w0 M c hp) {Cs : Nat → Prop} {w' : World} (hw : WSame Cs c.w w') (h1 : ∀ k, c.D k → (c.E k).nil = false → Cs (c.E k).b) (h2 : ∀ b, c.X b → Cs b) (h3 : ∀ b, c.C b → Cs b)
    (h4 : ∀ b, b < w0.heap.size → ¬ M.M b → ¬ M.Y b → Cs b) : Inv w0 M { c with w := w' } hp ∧ c.Le (fun _ => true) { c with w := w' } := by
  have hle : c.Le (fun _ => true) { c with w := w' } := ⟨fun _ _ hk => ⟨hk, rfl⟩, fun _ h => h, fun _ _ h => h, fun b hb => hw.block b (h2 b hb)⟩
  refine ⟨?_, hle⟩
  exact {
    dom := fun k hk => let ⟨blk, e, r⟩ := h.dom k hk; ⟨blk, e, r.le hle rfl (fun hn => hw.block _ (h1 k hk hn)) (fun _ => allR_true _)⟩
    inj := h.inj
    xsep := h.xsep
    xlt := fun b hb => Nat.lt_of_lt_of_le (h.xlt b hb) hw.size
    xY := h.xY
    bnd := h.bnd
    bndG := h.bndG
    e0 := h.e0
    mlen := h.mlen
    os := hw.os.trans h.os
    tape := hw.tape.trans h.tape
    output := hw.output.trans h.output
    size := Nat.le_trans h.size hw.size
    keep := fun j hj hm hy => (hw.block j (h4 j hj hm hy)).trans (h.keep j hj hm hy)
    loc := h.loc
    x0 := h.x0
    zc := h.zc
    z0 := h.z0
    xk := h.xk
    ca := h.ca
    cc := fun b hb => ⟨Nat.lt_of_lt_of_le (h.cc b hb).1 hw.size, (h.cc b hb).2⟩
    gh := fun k blk hD hb hn hg => h.ghs (hw.mono h3) hD hb hn hg }

theorem putObj_wsame (w : World) (b : Nat) (o : Obj) : WSame (fun x => x ≠ b) w (w.putObj b o) := ⟨rfl, rfl, rfl, by simp, fun _ hx => World.putObj_heap_other hx⟩

/-- A block in which the machine keeps its own books is turned. -/
theorem Inv.putZ {w0 : World} {M : Frm} {c : Cx} {hp : Hp} (h : Inv w0 M c hp) {b : Nat} (o : Obj) (hz : c.Z b) (h0 : w0.heap.size ≤ b) : Inv w0 M { c with w := c.w.putObj b o } hp ∧ c.Le (fun _ => true) { c with w := c.w.putObj b o } := by
  obtain ⟨z1, z2, z3⟩ := h.zc b hz
  obtain ⟨g1, g2, g3⟩ := h.cc b z1
  have hw := putObj_wsame c.w b o
  have hle : c.Le (fun _ => true) { c with w := c.w.putObj b o } := ⟨fun _ _ hk => ⟨hk, rfl⟩, fun _ h => h, fun _ _ h => h, fun x hx => hw.block x (fun e => z3 (e ▸ hx))⟩
  refine ⟨?_, hle⟩
  exact {
    dom := fun k hk => let ⟨blk, e, r⟩ := h.dom k hk; ⟨blk, e, r.le hle rfl (fun hn => hw.block _ (g2 k hk hn)) (fun _ => allR_true _)⟩
    inj := h.inj
    xsep := h.xsep
    xlt := fun b hb => Nat.lt_of_lt_of_le (h.xlt b hb) hw.size
    xY := h.xY
    bnd := h.bnd
    bndG := h.bndG
    e0 := h.e0
    mlen := h.mlen
    os := hw.os.trans h.os
    tape := hw.tape.trans h.tape
    output := hw.output.trans h.output
    size := Nat.le_trans h.size hw.size
    keep := fun j hj hm hy => (hw.block j (by omega)).trans (h.keep j hj hm hy)
    loc := h.loc
    x0 := h.x0
    zc := h.zc
    z0 := h.z0
    xk := h.xk
    ca := h.ca
    cc := fun b hb => ⟨Nat.lt_of_lt_of_le (h.cc b hb).1 hw.size, (h.cc b hb).2⟩
    gh := fun k blk hD hb hn hg => by
      obtain ⟨C1, h1, h2⟩ := h.gh k blk hD hb hn hg
      exact ⟨C1, h1, h.bndG.js _ _ _ _ _ _ h2 (hw.mono fun x hx e => (h1 x hx).2 (e ▸ hz))⟩ }

/-- New blocks in which the machine keeps its own books. -/
theorem Inv.addZ {w0 : World} {M : Frm} {c : Cx} {hp : Hp} (h : Inv w0 M c hp) {w' : World} (hg : WGrow c.w w') (Zn : Nat → Prop) (hn : ∀ b, Zn b → c.w.heap.size ≤ b ∧ b < w'.heap.size) :
    Inv w0 M { c with w := w', C := fun b => c.C b ∨ Zn b, Z := fun b => c.Z b ∨ Zn b } hp := by
  have hI := h.grow hg
  have hlt : ∀ k, c.D k → (c.E k).nil = false → (c.E k).b < c.w.heap.size := fun k hk hnil => let ⟨_, _, r⟩ := h.dom k hk; r.lt hnil
  have hle : Cx.Le (fun _ => true) { c with w := w' } { c with w := w', C := fun b => c.C b ∨ Zn b, Z := fun b => c.Z b ∨ Zn b } := ⟨fun _ _ hk => ⟨hk, rfl⟩, fun _ h => h, fun _ _ h => h, fun _ _ => rfl⟩
  exact { hI with
    dom := fun k hk => let ⟨blk, e, r⟩ := hI.dom k hk; ⟨blk, e, r.le hle rfl (fun _ => rfl) (fun _ => allR_true _)⟩
    zc := fun b hb => by
      rcases hb with hb | hb
      · exact ⟨.inl (h.zc b hb).1, (h.zc b hb).2⟩
      · refine ⟨.inr hb, fun ha => ?_, fun hx => ?_⟩
        · have := (h.cc b (h.ca b ha).1).1; have := (hn b hb).1; omega
        · have := h.xlt b hx; have := (hn b hb).1; omega
    z0 := fun b hb => .inl (h.z0 b hb)
    ca := fun b hb => ⟨.inl (h.ca b hb).1, (h.ca b hb).2⟩
    cc := fun b hb => by
      rcases hb with hb | hb
      · exact hI.cc b hb
      · exact ⟨(hn b hb).2, fun k hk hnil e => by have e : (c.E k).b = b := e; have := hlt k hk hnil; have := (hn b hb).1; omega, .inl (Nat.le_trans h.size (hn b hb).1)⟩
    gh := fun k blk hD hb hnil hgr => by
      obtain ⟨C1, h1, h2⟩ := hI.gh k blk hD hb hnil hgr
      refine ⟨C1, fun b hb => ⟨.inl (h1 b hb).1, fun hz => ?_⟩, h2⟩
      rcases hz with hz | hz
      · exact (h1 b hb).2 hz
      · have := (h.cc b (h1 b hb).1).1; have := (hn b hz).1; omega }

/-- More contents. -/
theorem Inv.addX {w0 : World} {M : Frm} {c : Cx} {hp : Hp} (h : Inv w0 M c hp) (S : Nat → Prop)
    (hS : ∀ b, S b → b < c.w.heap.size ∧ (∀ k, c.D k → (c.E k).nil = false → (c.E k).b ≠ b) ∧ ¬ c.A b ∧ ¬ c.Z b ∧ ¬ M.Y b ∧ (w0.heap.size ≤ b ∨ M.M b ∨ M.X0 b)) :
    Inv w0 M { c with X := fun b => c.X b ∨ S b } hp ∧ c.Le (fun _ => true) { c with X := fun b => c.X b ∨ S b } := by
  have hle : c.Le (fun _ => true) { c with X := fun b => c.X b ∨ S b } := ⟨fun _ _ hk => ⟨hk, rfl⟩, fun _ h => .inl h, fun _ _ h => h, fun _ _ => rfl⟩
  refine ⟨?_, hle⟩
  exact { h with
    dom := fun k hk => let ⟨blk, e, r⟩ := h.dom k hk; ⟨blk, e, r.le hle rfl (fun _ => rfl) (fun _ => allR_true _)⟩
    xsep := fun k b hk hn hb => hb.elim (h.xsep k b hk hn) (fun hs => (hS b hs).2.1 k hk hn)
    xlt := fun b hb => hb.elim (h.xlt b) (fun hs => (hS b hs).1)
    xY := fun b hb => hb.elim (h.xY b) (fun hs => (hS b hs).2.2.2.2.1)
    x0 := fun b hb => hb.elim (h.x0 b) (fun hs => (hS b hs).2.2.2.2.2)
    xk := fun b hb => .inl (h.xk b hb)
    zc := fun b hb => ⟨(h.zc b hb).1, (h.zc b hb).2.1, fun hx => hx.elim (h.zc b hb).2.2 (fun hs => (hS b hs).2.2.2.1 hb)⟩
    ca := fun b hb => ⟨(h.ca b hb).1, fun hx => hx.elim (h.ca b hb).2.1 (fun hs => (hS b hs).2.2.1 hb), (h.ca b hb).2.2⟩ }

/-- A walk that starts here, within the walk. -/
def Frm.round (M : Frm) (c : Cx) (mr : Nat) (E0 : Nat → Loc) : Frm :=
  { M := fun b => ∃ k, c.D k ∧ (c.E k).nil = false ∧ (c.E k).b = b, G := M.G, Y := c.A, m := mr, E0 := E0, J := M.J, C0 := c.C, X0 := c.X, Z0 := c.Z, Xk := c.X }
theorem Inv.rebase {w0 : World} {M : Frm} {c : Cx} {hp : Hp} (h : Inv w0 M c hp) {mr : Nat} {E0 : Nat → Loc} (hE : ∀ k, k < mr → c.D k → c.E k = E0 k) (hm : mr ≤ hp.length) : Inv c.w (M.round c mr E0) c hp := by
  exact {
    dom := h.dom
    inj := h.inj
    xsep := h.xsep
    xlt := h.xlt
    xY := fun b hb ha => (h.ca b ha).2.1 hb
    bnd := h.bnd
    bndG := {
      g := fun b hb => by
        refine h.bndG.g b ?_
        rcases hb with hb | ⟨k, hk, hn, e⟩
        · exact .inl (Nat.le_trans h.size hb)
        · rw [← e]; exact (h.loc k hk hn).symm
      y := fun b hb => ⟨(h.cc b (h.ca b hb).1).1, by rintro ⟨k, hk, hn, e⟩; exact (h.cc b (h.ca b hb).1).2.1 k hk hn e⟩
      js := h.bndG.js }
    e0 := hE
    mlen := hm
    os := rfl
    tape := rfl
    output := rfl
    size := Nat.le_refl _
    keep := fun _ _ _ _ => rfl
    loc := fun k hk hn => .inl ⟨k, hk, hn, rfl⟩
    x0 := fun b hb => .inr (.inr hb)
    zc := h.zc
    z0 := fun b hb => hb
    xk := fun b hb => hb
    ca := fun b hb => ⟨(h.ca b hb).1, (h.ca b hb).2.1, .inr hb⟩
    cc := fun b hb => ⟨(h.cc b hb).1, (h.cc b hb).2.1, .inr (.inl hb)⟩
    gh := h.gh }
theorem Inv.unbase {w0 : World} {M : Frm} {c : Cx} {hp : Hp} (h : Inv w0 M c hp) {mr : Nat} {E0 : Nat → Loc} (hmr : M.m ≤ mr) (hE : ∀ k, k < M.m → E0 k = M.E0 k) {c' : Cx} {hp' : Hp} (h' : Inv c.w (M.round c mr E0) c' hp') : Inv w0 M c' hp' := by
  have hM : ∀ b, (M.round c mr E0).M b → M.M b ∨ w0.heap.size ≤ b := by rintro b ⟨k, hk, hn, e⟩; rw [← e]; exact h.loc k hk hn
  have hYM : ∀ b, M.Y b → b < w0.heap.size ∧ ¬ M.M b := h.bndG.y
  exact {
    dom := h'.dom
    inj := h'.inj
    xsep := h'.xsep
    xlt := h'.xlt
    xY := fun b hb hy => by
      obtain ⟨y1, y2⟩ := hYM b hy
      rcases h'.x0 b hb with g | g | g
      · have := h.size; omega
      · rcases hM b g with g | g
        · exact y2 g
        · omega
      · exact h.xY b g hy
    bnd := h'.bnd
    bndG := h.bndG
    e0 := fun k hk hD => (h'.e0 k (Nat.lt_of_lt_of_le hk hmr) hD).trans (hE k hk)
    mlen := Nat.le_trans hmr h'.mlen
    os := h'.os.trans h.os
    tape := h'.tape.trans h.tape
    output := h'.output.trans h.output
    size := Nat.le_trans h.size h'.size
    keep := fun j hj hm hy => (h'.keep j (Nat.lt_of_lt_of_le hj h.size) (fun g => by
      rcases hM j g with g | g
      · exact hm g
      · omega) (fun g => by
      rcases (h.ca j g).2.2 with g | g
      · omega
      · exact hy g)).trans (h.keep j hj hm hy)
    loc := fun k hk hn => by
      rcases h'.loc k hk hn with g | g
      · exact hM _ g
      · exact .inr (Nat.le_trans h.size g)
    x0 := fun b hb => by
      rcases h'.x0 b hb with g | g | g
      · exact .inl (Nat.le_trans h.size g)
      · exact (hM b g).elim (fun g => .inr (.inl g)) .inl
      · exact h.x0 b g
    zc := h'.zc
    z0 := fun b hb => h'.z0 b (h.z0 b hb)
    xk := fun b hb => h'.xk b (h.xk b hb)
    ca := fun b hb => by
      obtain ⟨g1, g2, g3⟩ := h'.ca b hb
      refine ⟨g1, g2, ?_⟩
      rcases g3 with g | g
      · exact .inl (Nat.le_trans h.size g)
      · exact (h.ca b g).2.2
    cc := fun b hb => by
      obtain ⟨g1, g2, g3⟩ := h'.cc b hb
      refine ⟨g1, g2, ?_⟩
      rcases g3 with g | g | g | g
      · exact .inl (Nat.le_trans h.size g)
      · exact (h.cc b g).2.2
      · exact (hM b g).elim (fun g => .inr (.inr (.inl g))) .inl
      · rcases h.x0 b g with g | g | g
        · exact .inl g
        · exact .inr (.inr (.inl g))
        · exact .inr (.inr (.inr g))
    gh := h'.gh }
theorem YdOk.round {P : Program} {w0 : World} {M : Frm} {l : Nat} {its : List (List Sv)} (hy : YdOk P w0 M l its) {c : Cx} {hp : Hp} (h : Inv w0 M c hp) {mr : Nat} {E0 : Nat → Loc} (hmr : M.m ≤ mr) (hE : ∀ k, k < M.m → E0 k = M.E0 k) :
    YdOk P c.w (M.round c mr E0) l its := by
  refine ⟨fun hne => ?_, fun F n pre x c' hp' vs C1 hF hpre hI hC hJ hr => hy.2 F n pre x c' hp' vs C1 hF hpre (h.unbase hmr hE hI) hC hJ hr⟩
  obtain ⟨h1, h2⟩ := hy.1 hne
  exact ⟨Nat.lt_of_lt_of_le h1 hmr, by show (E0 0).nil = true; rw [hE 0 h1]; exact h2⟩

/-! ### What is asked of a walk of code -/
/-- In a round: the loop's record lies where it lay. -/
def RdOk (F : Fence) (w0 : World) (M : Frm) : Prop := ∀ l0, F.round = some l0 → (∃ r, w0.heap[l0]? = some (.loop r)) ∧ ¬ M.M l0 ∧ ¬ M.Y l0
def Gm.fits (G : Gm) (w0 : World) (M : Frm) : Prop := M.m = G.m ∧ ∀ j, G.J = some j → M.J = j w0 ∧ ∀ b, ¬ M.M b
def RunOk (G : Gm) (code : Code) (run : List Sv → Hp → (Exit → List Sv → Hp → Prop) → Prop) : Prop :=
  ∀ (F : Fence) (n : Nat) (w0 : World) (M : Frm) (ds : List Deferred) (tm : List Sv) (hp : Hp) (K : Exit → List Sv → Hp → Prop) (Q : Exit → Act → World → Prop) (c : Cx) (a : Act), Open F → G.fits w0 M → YdOk G.P w0 M G.l G.its → RdOk F w0 M →
    run tm hp K → (∀ e a c tm hp, K e tm hp → St w0 M c tm hp a ds → Q e a c.w) → St w0 M c tm hp a ds → code.wpIn F n G.P Q a c.w

/-- A state given up for one that says less. -/
def Weak (m : Nat) (tm : List Sv) (hp : Hp) (tm' : List Sv) (hp' : Hp) : Prop :=
  ∀ (w0 : World) (M : Frm) (c : Cx) (a : Act) (ds : List Deferred), M.m = m → St w0 M c tm hp a ds → ∃ c', c'.w = c.w ∧ St w0 M c' tm' hp' a ds
theorem Weak.refl (m : Nat) (tm : List Sv) (hp : Hp) : Weak m tm hp tm hp := fun _ _ c _ _ _ h => ⟨c, rfl, h⟩
inductive Back (m : Nat) (tm : List Sv) (hp : Hp) (I : List Sv → Hp → Prop) : Prop
  | mk (tm' : List Sv) (hp' : Hp) : Weak m tm hp tm' hp' → I tm' hp' → Back m tm hp I
/-- The same, where the new state hangs on the world, and the tale is known. -/
def BackJ (J : Option (World → Nat → List (List Sv) → (Nat → Prop) → (Nat → Prop) → World → Prop)) (m : Nat) (tm : List Sv) (hp : Hp) (I : List Sv → Hp → Prop) : Prop :=
  ∀ (w0 : World) (M : Frm) (c : Cx) (a : Act) (ds : List Deferred), M.m = m → (∀ j, J = some j → M.J = j w0 ∧ ∀ b, ¬ M.M b) → St w0 M c tm hp a ds → ∃ c' tm' hp', c'.w = c.w ∧ I tm' hp' ∧ St w0 M c' tm' hp' a ds

/-! ### The contract of a function that is ranged over -/
/-- What tells of rounds: so much has been handed over; and the body wants more, or no more. -/
abbrev gB (pre : List (List Sv)) : Blk := ⟨0, 0, true, false, pre⟩
abbrev gS (pre : List (List Sv)) : Blk := ⟨1, 0, true, false, pre⟩
/-- The function f, called with a loop's body, hands it its, one behind the other, until it wants no more. -/
structure ICon (P : Program) (f : Nat) (args : Value → List Sv) (its : List (List Sv)) : Prop where
  callable : Callable P f
  run : ∀ (l : Nat) (M : Frm) (c : Cx) (vs : List Value), M.m = 1 → (∀ b, ¬ M.Xk b) → Inv c.w M c [some (gB [])] → c.D 0 → YdOk P c.w M l its → RelT (args (.func (.yield l) #[] #[])) c vs →
    Calls P f vs.toArray c.w fun e w' => ∃ v c' res hp', e = .returned v ∧ Ends c.w M c' w' v res hp' ∧ (hp'[0]? = some (some (gB its)) ∨ ∃ pre, hp'[0]? = some (some (gS pre)))

def aliveN : Nat → Hp → Bool
  | 0, _ => true
  | n + 1, some _ :: r => aliveN n r
  | _, _ => false
theorem aliveN_get : ∀ {n : Nat} {hp : Hp}, aliveN n hp = true → ∀ k, k < n → ∃ b, hp[k]? = some (some b)
  | 0, _, _, k, h => by omega
  | n + 1, some b :: r, h, k, hk => by
    cases k with
    | zero => exact ⟨b, rfl⟩
    | succ k => simpa using aliveN_get (n := n) h k (by omega)
  | n + 1, none :: r, h, _, _ => by simp [aliveN] at h
  | n + 1, [], h, _, _ => by simp [aliveN] at h
theorem aliveN_len {n : Nat} {hp : Hp} (h : aliveN n hp = true) : n ≤ hp.length := by
  cases n with
  | zero => exact Nat.zero_le _
  | succ n =>
    obtain ⟨b, hb⟩ := aliveN_get h n (Nat.lt_succ_self n)
    exact (List.getElem?_eq_some_iff.1 hb).1

def setPs : List Sv → List Nat → List Sv → List Sv
  | tm, p :: ps, x :: xs => setPs (tm.set p x) ps xs
  | tm, _, _ => tm
def setPK : List Sv → List Nat → List Sv → (List Sv → Prop) → Prop
  | tm, p :: ps, x :: xs, K => svK x fun x => setK tm p x fun tm => setPK tm ps xs K
  | tm, _, _, K => K tm
theorem setPK_eq : ∀ (ps : List Nat) (tm : List Sv) (xs : List Sv) (K : List Sv → Prop), setPK tm ps xs K = K (setPs tm ps xs)
  | [], _, _, _ => by simp [setPK, setPs]
  | _ :: _, _, [], _ => by simp [setPK, setPs]
  | p :: ps, tm, x :: xs, K => by simp only [setPK, setPs, svK_eq, setK_eq, setPK_eq ps]
theorem setPs_rel {c : Cx} : ∀ (ps : List Nat) (tm : List Sv) (xs : List Sv) (vs : List Value) (tmps : Array Value), RelT xs c vs → tmps.size = tm.length → (∀ t, Rel (tmGet tm t) c (tmps.getD t undef)) →
    ((ps.zip vs).foldl (fun (t : Array Value) (p : Nat × Value) => t.setIfInBounds p.1 p.2) tmps).size = (setPs tm ps xs).length ∧ ∀ t, Rel (tmGet (setPs tm ps xs) t) c (((ps.zip vs).foldl (fun (t : Array Value) (p : Nat × Value) => t.setIfInBounds p.1 p.2) tmps).getD t undef)
  | [], tm, xs, vs, tmps, _, hs, h => by simp [setPs]; exact ⟨hs, by simpa using h⟩
  | p :: ps, tm, [], vs, tmps, hr, hs, h => by
    simp only [RelT] at hr
    subst hr
    simp [setPs]
    exact ⟨hs, by simpa using h⟩
  | p :: ps, tm, x :: xs, vs, tmps, hr, hs, h => by
    simp only [RelT] at hr
    obtain ⟨u, us, rfl, hx, hr⟩ := hr
    simp only [List.zip_cons_cons, List.foldl_cons, setPs]
    refine setPs_rel ps (tm.set p x) xs us _ hr (by simp [hs]) fun t => ?_
    rw [tmGet_set]
    by_cases hu : p = t
    · subst hu
      by_cases hl : p < tm.length
      · rw [if_pos ⟨rfl, hl⟩]
        have : (tmps.setIfInBounds p u).getD p undef = u := by simp [Array.getD, hs, hl]
        rw [this]; exact hx
      · rw [if_neg (fun h => hl h.2)]
        unfold tmGet
        rw [nth_eq, List.getElem?_eq_none (by omega)]
        trivial
    · rw [if_neg (fun h => hu h.1)]
      have := h t
      rw [Array.getD_eq_getD_getElem?] at this ⊢
      rw [Array.getElem?_setIfInBounds_ne hu]
      exact this

/-- A jump out of a round, as the machine notes it. -/
def jmp : Exit → Option Code
  | .ret => some .ret
  | .exit id => some (.exit id)
  | .goto t => some (.goto t)
  | _ => none
def kBody (mr : Nat) (tm1 : List Sv) (I : Hp → Prop) (K : Exit → List Sv → Hp → Prop) (e : Exit) (tm : List Sv) (hp : Hp) : Prop :=
  match e with
  | .normal => Back mr tm hp fun _ hp => I hp
  | .panic _ => False
  | .outgrown => False
  | .ret => aliveN mr hp = true ∧ K .ret tm1 hp
  | .exit id => aliveN mr hp = true ∧ K (.exit id) tm1 hp
  | .goto t => aliveN mr hp = true ∧ K (.goto t) tm1 hp
def kAsg (rb : List Sv → Hp → (Exit → List Sv → Hp → Prop) → Prop) (KB : Exit → List Sv → Hp → Prop) (e : Exit) (tm : List Sv) (hp : Hp) : Prop :=
  match e with
  | .normal => rb tm hp KB
  | _ => False
/-- A loop over a function. its: what comes; mr: how many blocks keep their places; I i: what the blocks are when i have come; tm1: the slots. -/
inductive RangeV (G : Gm) (ra rb : Nat → List Sv → Hp → (Exit → List Sv → Hp → Prop) → Prop) (f : Operand) (ps : List Nat) (tm : List Sv) (hp : Hp) (K : Exit → List Sv → Hp → Prop) : Prop
  | mk (its : List (List Sv)) (mr g : Nat) (caps : List Sv) (I : Nat → Hp → Prop) (tm1 : List Sv) (hp1 : Hp) : Weak G.m tm hp tm1 hp1 → evO tm1 f = .clo g caps → Sv.all.allL (fun _ => false) caps = true → ICon G.P g (fun y => .val y :: caps) its →
      (∀ x, x ∈ its → x.length = ps.length ∧ Sv.all.allL (fun _ => false) x = true) → G.m ≤ mr → I 0 hp1 → Sv.all.allL (fun k => Nat.blt k mr) tm1 = true → (∀ i hp, I i hp → aliveN mr hp = true) →
      (∀ i x hp, its[i]? = some x → I i hp → setPK tm1 ps x fun tm => ra mr tm hp (kAsg (rb mr) (kBody mr tm1 (I (i + 1)) K))) →
      (∀ hp, I its.length hp → K .normal tm1 hp) → RangeV G ra rb f ps tm hp K
end Go.Eng
