/- Where nothing that was there may turn, all of it is for good: arguments whose contents may be answered. -/
import Derived.Test.YtiklbnianbejdaaEngW
set_option linter.unusedSimpArgs false
set_option maxRecDepth 20000
set_option linter.unusedVariables false
namespace Go.Eng
open Go Go.RowKit

mutual
/-- The same value, its contents for good. -/
def Sv.up : Sv → Sv
  | .agg cs => .agg (upL cs)
  | .tup cs => .tup (upL cs)
  | .clo f cs => .clo f (upL cs)
  | .ext _ wd rows => .ext true wd (upR rows)
  | .ref _ cs => .ref true (upL cs)
  | s => s
def upL : List Sv → List Sv
  | [] => []
  | s :: ss => s.up :: upL ss
def upR : List (List Sv) → List (List Sv)
  | [] => []
  | r :: rs => upL r :: upR rs
end
theorem upL_map : ∀ l : List Sv, upL l = l.map Sv.up
  | [] => rfl
  | s :: ss => by simp [upL, upL_map ss]
theorem upR_map : ∀ l : List (List Sv), upR l = l.map upL
  | [] => rfl
  | s :: ss => by simp [upR, upR_map ss]
theorem upL_length (l : List Sv) : (upL l).length = l.length := by rw [upL_map]; simp
theorem upR_length (l : List (List Sv)) : (upR l).length = l.length := by rw [upR_map]; simp
mutual
theorem Rel.up : ∀ (s : Sv) {c : Cx} {v : Value}, (∀ b, c.G b) → Rel s c v → Rel s.up c v
  | .val _, _, _, _, r => r
  | .any, _, _, _, r => r
  | .ptr _ _ _, _, _, _, r => r
  | .own _ _, _, _, _, r => r
  | .sls _ _ _, _, _, _, r => r
  | .agg cs, c, v, h, r => by
    simp only [Rel, Sv.up] at r ⊢
    obtain ⟨vs, e, hl⟩ := r
    exact ⟨vs, e, RelL.up cs h hl⟩
  | .tup cs, c, v, h, r => by
    simp only [Rel, Sv.up] at r ⊢
    obtain ⟨vs, e, hl⟩ := r
    exact ⟨vs, e, RelT.up cs h hl⟩
  | .clo f cs, c, v, h, r => by
    simp only [Rel, Sv.up] at r ⊢
    obtain ⟨vs, e, hl⟩ := r
    exact ⟨vs, e, RelT.up cs h hl⟩
  | .ext fr wd rows, c, v, h, r => by
    simp only [Rel, Sv.up] at r ⊢
    obtain ⟨a, cap, e, hc, hr⟩ := r
    rw [upR_length]
    refine ⟨a, cap, e, hc, ?_⟩
    rcases hr with rfl | ⟨b, off, ea, hx, hf, hr⟩
    · exact .inl rfl
    · exact .inr ⟨b, off, ea, hx, fun _ => h b, RelR.up rows h hr⟩
  | .ref fr cs, c, v, h, r => by
    simp only [Rel, Sv.up] at r ⊢
    obtain ⟨b, off, e, hx, hf, hr⟩ := r
    exact ⟨b, off, e, hx, fun _ => h b, RelC.up cs h hr⟩
theorem RelL.up : ∀ (ss : List Sv) {c : Cx} {vs : List Value}, (∀ b, c.G b) → RelL ss c vs → RelL (upL ss) c vs
  | [], _, _, _, r => r
  | s :: ss, c, vs, h, r => by
    simp only [RelL, upL] at r ⊢
    obtain ⟨u, us, e, h1, hs, hl⟩ := r
    exact ⟨u, us, e, h1, Rel.up s h hs, RelL.up ss h hl⟩
theorem RelT.up : ∀ (ss : List Sv) {c : Cx} {vs : List Value}, (∀ b, c.G b) → RelT ss c vs → RelT (upL ss) c vs
  | [], _, _, _, r => r
  | s :: ss, c, vs, h, r => by
    simp only [RelT, upL] at r ⊢
    obtain ⟨u, us, e, hs, hl⟩ := r
    exact ⟨u, us, e, Rel.up s h hs, RelT.up ss h hl⟩
theorem RelC.up : ∀ (ss : List Sv) {c : Cx} {b off : Nat}, (∀ b, c.G b) → RelC ss c b off → RelC (upL ss) c b off
  | [], _, _, _, _, r => r
  | s :: ss, c, b, off, h, r => by
    simp only [RelC, upL] at r ⊢
    obtain ⟨⟨u, h1, h2, h3⟩, hl⟩ := r
    exact ⟨⟨u, h1, h2, Rel.up s h h3⟩, RelC.up ss h hl⟩
theorem RelR.up : ∀ (rs : List (List Sv)) {c : Cx} {wd b off : Nat}, (∀ b, c.G b) → RelR rs c.shut wd b off → RelR (upR rs) c.shut wd b off
  | [], _, _, _, _, _, r => r
  | s :: ss, c, wd, b, off, h, r => by
    simp only [RelR, upR] at r ⊢
    obtain ⟨h1, h2, h3⟩ := r
    exact ⟨by rw [upL_length]; exact h1, RelC.up s (c := c.shut) h h2, RelR.up ss h h3⟩
end
/-- The context of a statement's call, in which all is for good. -/
def cxG (W : World) : Cx := { cx0 W with G := fun _ => True }
def frmG (W : World) : Frm := { frm0 W with G := fun _ => True }
mutual
theorem Rel.toG {W : World} : ∀ (s : Sv) {v : Value}, Rel s (cx0 W) v → Rel s.up (cxG W) v
  | .val _, _, r => r
  | .any, _, r => r
  | .ptr _ _ _, _, r => r.1.elim
  | .own _ _, _, r => r.1.elim
  | .sls _ _ _, _, r => r.1.elim
  | .agg cs, v, r => by
    simp only [Rel, Sv.up] at r ⊢
    obtain ⟨vs, e, hl⟩ := r
    exact ⟨vs, e, RelL.toG cs hl⟩
  | .tup cs, v, r => by
    simp only [Rel, Sv.up] at r ⊢
    obtain ⟨vs, e, hl⟩ := r
    exact ⟨vs, e, RelT.toG cs hl⟩
  | .clo f cs, v, r => by
    simp only [Rel, Sv.up] at r ⊢
    obtain ⟨vs, e, hl⟩ := r
    exact ⟨vs, e, RelT.toG cs hl⟩
  | .ext fr wd rows, v, r => by
    simp only [Rel, Sv.up] at r ⊢
    obtain ⟨a, cap, e, hc, hr⟩ := r
    rw [upR_length]
    refine ⟨a, cap, e, hc, ?_⟩
    rcases hr with rfl | ⟨b, off, ea, hx, hf, hr⟩
    · exact .inl rfl
    · exact .inr ⟨b, off, ea, hx, fun _ => trivial, RelR.toG rows hr⟩
  | .ref fr cs, v, r => by
    simp only [Rel, Sv.up] at r ⊢
    obtain ⟨b, off, e, hx, hf, hr⟩ := r
    exact ⟨b, off, e, hx, fun _ => trivial, RelC.toG cs hr⟩
theorem RelL.toG {W : World} : ∀ (ss : List Sv) {vs : List Value}, RelL ss (cx0 W) vs → RelL (upL ss) (cxG W) vs
  | [], _, r => r
  | s :: ss, vs, r => by
    simp only [RelL, upL] at r ⊢
    obtain ⟨u, us, e, h1, hs, hl⟩ := r
    exact ⟨u, us, e, h1, Rel.toG s hs, RelL.toG ss hl⟩
theorem RelT.toG {W : World} : ∀ (ss : List Sv) {vs : List Value}, RelT ss (cx0 W) vs → RelT (upL ss) (cxG W) vs
  | [], _, r => r
  | s :: ss, vs, r => by
    simp only [RelT, upL] at r ⊢
    obtain ⟨u, us, e, hs, hl⟩ := r
    exact ⟨u, us, e, Rel.toG s hs, RelT.toG ss hl⟩
theorem RelC.toG {W : World} : ∀ (ss : List Sv) {b off : Nat}, RelC ss (cx0 W).shut b off → RelC (upL ss) (cxG W).shut b off
  | [], _, _, r => r
  | s :: ss, b, off, r => by
    simp only [RelC, upL] at r ⊢
    obtain ⟨⟨u, h1, h2, h3⟩, hl⟩ := r
    exact ⟨⟨u, h1, h2, Rel.toG s h3⟩, RelC.toG ss hl⟩
theorem RelR.toG {W : World} : ∀ (rs : List (List Sv)) {wd b off : Nat}, RelR rs (cx0 W).shut wd b off → RelR (upR rs) (cxG W).shut wd b off
  | [], _, _, _, r => r
  | s :: ss, wd, b, off, r => by
    simp only [RelR, upR] at r ⊢
    obtain ⟨h1, h2, h3⟩ := r
    exact ⟨by rw [upL_length]; exact h1, RelC.toG s h2, RelR.toG ss h3⟩
end
theorem law_callsG {P : Program} {f : Nat} {args args' : List Sv} (h : PCon P f args' (.val (.bool true)) []) (ha : args' = upL args) (W : World) {vs : List Value} (hr : RelT args (cx0 W) vs) :
    Calls P f vs.toArray W fun e W' => e = .returned (.bool true) ∧ Below W.heap.size W W' := by
  subst ha
  refine (h.2 W (frmG W) (cxG W) vs rfl rfl (fun _ h => h) ?_ (fun k b hb => by simp at hb) (RelT.toG args hr)).mono ?_
  · exact { dom := fun k hk => hk.elim, inj := fun k _ hk => hk.elim, xsep := fun k _ hk => hk.elim, xlt := fun b hb => hb, xY := fun b _ hy => hy, bnd := rfl, bndG := ⟨fun _ _ => trivial, fun b hb => hb.elim, fun _ _ _ _ _ _ h => h.elim⟩, e0 := fun k hk => (by cases hk),
            mlen := Nat.le_refl _, os := rfl, tape := rfl, output := rfl, size := Nat.le_refl _, keep := fun _ _ _ _ => rfl, loc := fun k hk => hk.elim, x0 := fun b _ => .inr (.inr trivial), ca := fun _ h => h.elim, cc := fun _ h => h.elim, zc := fun _ h => h.elim, z0 := fun _ h => h.elim, xk := fun _ h => h.elim, gh := fun k _ hk => hk.elim }
  · rintro e W' ⟨v, c', res, hp', rfl, ⟨rfl, rfl⟩, hE⟩
    have hv : v = .bool true := by simpa [Rel] using hE.rel
    have hw := hE.weq
    have hi := hE.inv
    subst hw
    exact ⟨by rw [hv], hi.os, hi.tape, hi.output, hi.size, fun j hj => hi.keep j hj id id⟩
end Go.Eng
