/- The engine, part Y: a function that is ranged over calls its loop's body. -/
import Derived.Test.YtobojnfhhobnkaaEngL
import Derived.RangeFuncSeq
set_option linter.unusedSimpArgs false
set_option maxRecDepth 20000
set_option linter.unusedVariables false
namespace Go.Eng
open Go Go.RowKit

/-- All contents outside lie in new memory. -/
def Sv.Fr : Sv → Prop
  | .agg cs => go cs
  | .tup cs => go cs
  | .clo _ cs => go cs
  | .ext fr _ rows => fr = true ∧ goR rows
  | .ref fr cs => fr = true ∧ go cs
  | _ => True
where
  go : List Sv → Prop
    | [] => True
    | s :: ss => s.Fr ∧ go ss
  goR : List (List Sv) → Prop
    | [] => True
    | r :: rs => go r ∧ goR rs

abbrev FrL := Sv.Fr.go
abbrev FrR := Sv.Fr.goR

theorem FrR_map {α : Type} (f : α → List Sv) (h : ∀ x, FrL (f x)) : ∀ xs : List α, FrR (xs.map f)
  | [] => trivial
  | x :: xs => ⟨h x, FrR_map f h xs⟩
theorem FrR_append : ∀ {rs qs : List (List Sv)}, FrR rs → FrR qs → FrR (rs ++ qs)
  | [], _, _, h => h
  | _ :: _, _, h, g => ⟨h.1, FrR_append h.2 g⟩
theorem FrR_take : ∀ (n : Nat) {rs : List (List Sv)}, FrR rs → FrR (rs.take n)
  | 0, _, _ => by simp [Sv.Fr.goR]
  | n + 1, [], _ => by simp [Sv.Fr.goR]
  | n + 1, r :: rs, h => ⟨h.1, FrR_take n h.2⟩
theorem FrR_drop : ∀ (n : Nat) {rs : List (List Sv)}, FrR rs → FrR (rs.drop n)
  | 0, _, h => by simpa using h
  | n + 1, [], _ => by simp [Sv.Fr.goR]
  | n + 1, r :: rs, h => by simpa using FrR_drop n h.2

/-- Contents in new memory are kept where new memory is let in. -/
structure Fs (c c' : Cx) : Prop where
  d : ∀ k, ¬ c.D k
  x : ∀ b, c.X b → c.G b → c'.X b
  b : c'.G = c.G
  w : c'.w = c.w
theorem Fs.shut {c c' : Cx} (h : Fs c c') : Fs c.shut c'.shut := ⟨fun _ h => h, h.x, h.b, h.w⟩

mutual
theorem Rel.fresh : ∀ (s : Sv) {c c' : Cx} {v : Value}, s.Fr → Fs c c' → Rel s c v → Rel s c' v
  | .val _, _, _, _, _, _, r => by simpa [Rel] using r
  | .any, _, _, _, _, _, _ => by simp [Rel]
  | .ptr k _ _, _, _, _, _, h, r => by simp only [Rel] at r; exact (h.d k r.1).elim
  | .own k _, _, _, _, _, h, r => by simp only [Rel] at r; exact (h.d k r.1).elim
  | .sls k _ _, _, _, _, _, h, r => by simp only [Rel] at r; exact (h.d k r.1).elim
  | .agg cs, _, _, _, hf, h, r => by
    simp only [Rel, Sv.Fr] at r hf ⊢
    obtain ⟨vs, e, hl⟩ := r
    exact ⟨vs, e, RelL.fresh cs hf h hl⟩
  | .tup cs, _, _, _, hf, h, r => by
    simp only [Rel, Sv.Fr] at r hf ⊢
    obtain ⟨vs, e, hl⟩ := r
    exact ⟨vs, e, RelT.fresh cs hf h hl⟩
  | .ext fr wd rows, _, _, _, hf, h, r => by
    simp only [Rel, Sv.Fr] at r hf ⊢
    obtain ⟨a, cap, e, hc, hr⟩ := r
    refine ⟨a, cap, e, hc, hr.imp id ?_⟩
    rintro ⟨b, off, ea, hx, hb, hr⟩
    exact ⟨b, off, ea, h.x b hx (hb hf.1), fun e => by rw [h.b]; exact hb e, RelR.fresh rows hf.2 h.shut hr⟩
  | .ref fr cs, _, _, _, hf, h, r => by
    simp only [Rel, Sv.Fr] at r hf ⊢
    obtain ⟨b, off, e, hx, hb, hr⟩ := r
    exact ⟨b, off, e, h.x b hx (hb hf.1), fun e => by rw [h.b]; exact hb e, RelC.fresh cs hf.2 h.shut hr⟩
  | .clo f cs, _, _, _, hf, h, r => by
    simp only [Rel, Sv.Fr] at r hf ⊢
    obtain ⟨vs, e, hl⟩ := r
    exact ⟨vs, e, RelT.fresh cs hf h hl⟩
theorem RelL.fresh : ∀ (ss : List Sv) {c c' : Cx} {vs : List Value}, FrL ss → Fs c c' → RelL ss c vs → RelL ss c' vs
  | [], _, _, _, _, _, r => by simpa [RelL] using r
  | s :: ss, _, _, _, hf, h, r => by
    simp only [RelL, Sv.Fr.go] at r hf ⊢
    obtain ⟨u, us, e, h1, hs, hl⟩ := r
    exact ⟨u, us, e, h1, Rel.fresh s hf.1 h hs, RelL.fresh ss hf.2 h hl⟩
theorem RelT.fresh : ∀ (ss : List Sv) {c c' : Cx} {vs : List Value}, FrL ss → Fs c c' → RelT ss c vs → RelT ss c' vs
  | [], _, _, _, _, _, r => by simpa [RelT] using r
  | s :: ss, _, _, _, hf, h, r => by
    simp only [RelT, Sv.Fr.go] at r hf ⊢
    obtain ⟨u, us, e, hs, hl⟩ := r
    exact ⟨u, us, e, Rel.fresh s hf.1 h hs, RelT.fresh ss hf.2 h hl⟩
theorem RelC.fresh : ∀ (ss : List Sv) {c c' : Cx} {b off : Nat}, FrL ss → Fs c c' → RelC ss c b off → RelC ss c' b off
  | [], _, _, _, _, _, _, _ => by simp [RelC]
  | s :: ss, _, _, b, off, hf, h, r => by
    simp only [RelC, Sv.Fr.go] at r hf ⊢
    obtain ⟨⟨u, e, h1, hs⟩, hl⟩ := r
    exact ⟨⟨u, by rw [h.w]; exact e, h1, Rel.fresh s hf.1 h hs⟩, RelC.fresh ss hf.2 h hl⟩
theorem RelR.fresh : ∀ (rs : List (List Sv)) {c c' : Cx} {wd b off : Nat}, FrR rs → Fs c c' → RelR rs c wd b off → RelR rs c' wd b off
  | [], _, _, _, _, _, _, _, _ => by simp [RelR]
  | r :: rs, _, _, wd, b, off, hf, h, q => by
    simp only [RelR, Sv.Fr.goR] at q hf ⊢
    exact ⟨q.1, RelC.fresh r hf.1 h q.2.1, RelR.fresh rs hf.2 h q.2.2⟩
end


theorem FrR_all : ∀ {rs : List (List Sv)}, (∀ r ∈ rs, FrL r) → FrR rs
  | [], _ => by simp [Sv.Fr.goR]
  | r :: rs, h => by
    simp only [Sv.Fr.goR]
    exact ⟨h r (by simp), FrR_all fun q hq => h q (by simp [hq])⟩

/-- Contents for good are kept where only what is for good is let in; blocks stay. -/
def Cx.pick (c : Cx) : Cx := { c with X := fun b => c.X b ∧ c.G b }
theorem pick_shut (c : Cx) : Fs c.shut c.pick.shut := ⟨fun _ h => h, fun b hx hg => ⟨hx, hg⟩, rfl, rfl⟩
mutual
theorem Rel.pick : ∀ (s : Sv) {c : Cx} {v : Value}, s.Fr → Rel s c v → Rel s c.pick v
  | .val x, _, _, _, r => by simpa [Rel] using r
  | .any, _, _, _, _ => by simp [Rel]
  | .agg cs, _, _, hf, r => by
    simp only [Rel] at r ⊢
    obtain ⟨vs, e, hl⟩ := r
    exact ⟨vs, e, RelL.pick cs (by simpa [Sv.Fr] using hf) hl⟩
  | .tup cs, _, _, hf, r => by
    simp only [Rel] at r ⊢
    obtain ⟨vs, e, hl⟩ := r
    exact ⟨vs, e, RelT.pick cs (by simpa [Sv.Fr] using hf) hl⟩
  | .ptr _ _ _, _, _, _, r => by simp only [Rel] at r ⊢; exact r
  | .own _ _, _, _, _, r => by simp only [Rel] at r ⊢; exact r
  | .sls _ _ _, _, _, _, r => by simp only [Rel] at r ⊢; exact r
  | .ext fr wd rows, c, _, hf, r => by
    simp only [Sv.Fr] at hf
    simp only [Rel] at r ⊢
    obtain ⟨a, cap, e, hc, hr⟩ := r
    refine ⟨a, cap, e, hc, hr.imp id ?_⟩
    rintro ⟨b, off, ea, hx, hg, hr⟩
    exact ⟨b, off, ea, ⟨hx, hg hf.1⟩, hg, RelR.fresh _ hf.2 (pick_shut c) hr⟩
  | .ref fr cs, c, _, hf, r => by
    simp only [Sv.Fr] at hf
    simp only [Rel] at r ⊢
    obtain ⟨b, off, e, hx, hg, hr⟩ := r
    exact ⟨b, off, e, ⟨hx, hg hf.1⟩, hg, RelC.fresh _ hf.2 (pick_shut c) hr⟩
  | .clo f cs, _, _, hf, r => by
    simp only [Rel] at r ⊢
    obtain ⟨vs, e, hl⟩ := r
    exact ⟨vs, e, RelT.pick cs (by simpa [Sv.Fr] using hf) hl⟩
theorem RelL.pick : ∀ (ss : List Sv) {c : Cx} {vs : List Value}, FrL ss → RelL ss c vs → RelL ss c.pick vs
  | [], _, _, _, r => by simpa [RelL] using r
  | s :: ss, _, _, hf, r => by
    simp only [Sv.Fr.go] at hf
    simp only [RelL] at r ⊢
    obtain ⟨u, us, e, h1, hs, hl⟩ := r
    exact ⟨u, us, e, h1, Rel.pick s hf.1 hs, RelL.pick ss hf.2 hl⟩
theorem RelT.pick : ∀ (ss : List Sv) {c : Cx} {vs : List Value}, FrL ss → RelT ss c vs → RelT ss c.pick vs
  | [], _, _, _, r => by simpa [RelT] using r
  | s :: ss, _, _, hf, r => by
    simp only [Sv.Fr.go] at hf
    simp only [RelT] at r ⊢
    obtain ⟨u, us, e, hs, hl⟩ := r
    exact ⟨u, us, e, Rel.pick s hf.1 hs, RelT.pick ss hf.2 hl⟩
end
theorem RelC.pick : ∀ (ss : List Sv) {c : Cx} {b off : Nat}, FrL ss → RelC ss c b off → RelC ss c.pick b off
  | [], _, _, _, _, _ => by simp [RelC]
  | s :: ss, c, b, off, hf, r => by
    simp only [Sv.Fr.go] at hf
    simp only [RelC] at r ⊢
    obtain ⟨⟨u, e, h1, hs⟩, hl⟩ := r
    exact ⟨⟨u, e, h1, Rel.pick s hf.1 hs⟩, RelC.pick ss hf.2 hl⟩
theorem RelR.pick : ∀ (rs : List (List Sv)) {c : Cx} {wd b off : Nat}, FrR rs → RelR rs c wd b off → RelR rs c.pick wd b off
  | [], _, _, _, _, _, _ => by simp [RelR]
  | r :: rs, _, _, _, _, hf, q => by
    simp only [Sv.Fr.goR] at hf
    simp only [RelR] at q ⊢
    exact ⟨q.1, RelC.pick r hf.1 q.2.1, RelR.pick rs hf.2 q.2.2⟩

/-- What a round of a loop over a function leaves: c: what the function knows; A', C': what whoever has been called back may turn from now on, and what has to stay for him. -/
structure YPost (c : Cx) (C1 : Nat → Prop) (w' : World) (A' C' : Nat → Prop) : Prop where
  os : w'.os = c.w.os
  tape : w'.tape = c.w.tape
  output : w'.output = c.w.output
  size : c.w.heap.size ≤ w'.heap.size
  keep : ∀ b, b < c.w.heap.size → ¬ c.A b → w'.heap[b]? = c.w.heap[b]?
  a : ∀ b, A' b → (c.A b ∨ c.w.heap.size ≤ b) ∧ C' b
  c : ∀ b, C' b → b < w'.heap.size ∧ (C1 b ∨ c.w.heap.size ≤ b ∨ c.X b ∧ c.G b)

/-- The body of the loop l takes what its, one behind the other, hands it. -/
def YdOk (P : Program) (w0 : World) (M : Frm) (l : Nat) (its : List (List Sv)) : Prop :=
  (its ≠ [] → 0 < M.m ∧ (M.E0 0).nil = true) ∧ ∀ (F : Fence) (n : Nat) (pre : List (List Sv)) (x : List Sv) (c : Cx) (hp : Hp) (vs : List Value) (C1 : Nat → Prop), Open F → pre ++ [x] <+: its → Inv w0 M c hp → (∀ b, C1 b → c.C b ∧ ¬ c.Z b) → M.J 0 pre c.A C1 c.w →
    RelT x c.pick.shut vs → YieldAt F n P l vs.toArray c.w fun e w' => ∃ A' C', YPost c C1 w' A' C' ∧
      (e = .returned (.bool true) ∧ M.J 0 (pre ++ [x]) A' C' w' ∨ e = .returned (.bool false) ∧ M.J 1 (pre ++ [x]) A' C' w')

theorem YdOk.nil {P : Program} {w0 : World} {M : Frm} {l : Nat} : YdOk P w0 M l [] := by
  refine ⟨fun h => absurd rfl h, fun F n pre x c hp vs C1 _ h => ?_⟩
  obtain ⟨t, ht⟩ := h
  simp at ht

/-- No other block tells of rounds. -/
def oneG (gi : Nat) : Nat → Hp → Prop
  | _, [] => True
  | i, none :: r => oneG gi (i + 1) r
  | i, some b :: r => (match Nat.beq i gi with | true => True | false => b.ng) ∧ oneG gi (i + 1) r
theorem oneG_at {gi : Nat} : ∀ {hp : Hp} {i : Nat}, oneG gi i hp → ∀ (k : Nat) (b : Blk), hp[k]? = some (some b) → i + k ≠ gi → b.ng
  | [], _, _, k, b, h, _ => by simp at h
  | none :: r, i, h, k, b, hk, hne => by
    simp only [oneG] at h
    cases k with
    | zero => simp at hk
    | succ k => exact oneG_at h k b (by simpa using hk) (by omega)
  | some b0 :: r, i, h, k, b, hk, hne => by
    simp only [oneG] at h
    cases k with
    | zero =>
      simp at hk
      subst hk
      have h1 := h.1
      split at h1
      · rename_i he
        exact absurd (Nat.eq_of_beq_eq_true he) (by simpa using hne)
      · exact h1
    | succ k => exact oneG_at h.2 k b (by simpa using hk) (by omega)
/-- In the first block that was handed in it is told what has been handed over so far (pre). -/
inductive YieldV (its : List (List Sv)) (hp : Hp) (args : List Sv) (K : Sv → Hp → Prop) : Prop
  | mk (pre pre' : List (List Sv)) : hpGet hp 0 = some ⟨0, 0, true, false, pre⟩ → oneG 0 0 hp → FrL args → Sv.all.allL (fun _ => false) args = true → pre ++ [args] = pre' → pre' <+: its →
      K (.val (.bool true)) (hp.set 0 (some ⟨0, 0, true, false, pre'⟩)) → K (.val (.bool false)) (hp.set 0 (some ⟨1, 0, true, false, pre'⟩)) → YieldV its hp args K

/-- Contents for good, where only what is for good is let in. -/
theorem RelT.shutPick {ss : List Sv} {c : Cx} {vs : List Value} (hf : FrL ss) (hc : Sv.all.allL (fun _ => false) ss = true) (r : RelT ss c vs) : RelT ss c.pick.shut vs :=
  RelT.fresh ss hf (pick_shut c) (RelT.le ss hc c.le_shut r)

/-- The state behind a round. -/
theorem Inv.yield {w0 : World} {M : Frm} {c : Cx} {hp : Hp} (hI : Inv w0 M c hp) {gi : Nat} {pre pre' : List (List Sv)} {st : Nat} (hD : c.D gi) (hb : hp[gi]? = some (some ⟨0, 0, true, false, pre⟩)) (hn : (c.E gi).nil = true)
    (h1 : ∀ k blk, c.D k → hp[k]? = some (some blk) → (c.E k).nil = true → blk.grow = false → k = gi)
    {C1 : Nat → Prop} (hC1 : ∀ b, C1 b → c.C b ∧ ¬ c.Z b) {w' : World} {A' C' : Nat → Prop} (hy : YPost c C1 w' A' C') (hJ : M.J st pre' A' C' w') :
    ∃ c', c'.w = w' ∧ Inv w0 M c' (hp.set gi (some ⟨st, 0, true, false, pre'⟩)) ∧ c.Le (fun _ => true) c' ∧ c'.D = c.D ∧ c'.Z = c.Z ∧ ∀ b, c.Z b → c'.C b ∧ w'.heap[b]? = c.w.heap[b]? := by
  have hlt : ∀ k, c.D k → (c.E k).nil = false → (c.E k).b < c.w.heap.size := fun k hk hnil => let ⟨_, _, r⟩ := hI.dom k hk; r.lt hnil
  have hnA : ∀ k, c.D k → (c.E k).nil = false → ¬ c.A (c.E k).b := fun k hk hnil ha => (hI.cc _ (hI.ca _ ha).1).2.1 k hk hnil rfl
  have hx : ∀ b, c.X b → w'.heap[b]? = c.w.heap[b]? := fun b hb => hy.keep b (hI.xlt b hb) (fun ha => (hI.ca b ha).2.1 hb)
  have hZ : ∀ b, c.Z b → w'.heap[b]? = c.w.heap[b]? := fun b hb => hy.keep b (hI.cc b (hI.zc b hb).1).1 (hI.zc b hb).2.1
  let c' : Cx := { c with w := w', A := A', C := fun b => C' b ∨ c.Z b }
  have hle : c.Le (fun _ => true) c' := ⟨fun _ _ hk => ⟨hk, rfl⟩, fun _ h => h, fun _ _ h => h, hx⟩
  refine ⟨c', rfl, ?_, hle, rfl, rfl, fun b hb => ⟨.inr hb, hZ b hb⟩⟩
  have hC'D : ∀ b, C' b → ∀ k, c.D k → (c.E k).nil = false → (c.E k).b ≠ b := fun b hb k hk hnil => by
    rcases (hy.c b hb).2 with h | h | h
    · exact (hI.cc b (hC1 b h).1).2.1 k hk hnil
    · have := hlt k hk hnil; omega
    · exact hI.xsep k b hk hnil h.1
  exact {
    dom := fun k hk => by
      obtain ⟨blk, e, r⟩ := hI.dom k hk
      by_cases hkg : k = gi
      · subst hkg
        rw [hb] at e
        cases e
        refine ⟨_, List.getElem?_set_self (List.getElem?_eq_some_iff.1 hb).1, r.1, fun _ => .inr ⟨rfl, rfl, rfl⟩, fun h => by rw [show (c.E k).nil = false from h] at hn; cases hn⟩
      · exact ⟨blk, by rw [List.getElem?_set_ne (fun e => hkg e.symm)]; exact e, r.le hle rfl (fun hnil => hy.keep _ (hlt k hk hnil) (hnA k hk hnil)) (fun _ => allR_true _)⟩
    inj := hI.inj
    xsep := hI.xsep
    xlt := fun b hb => Nat.lt_of_lt_of_le (hI.xlt b hb) hy.size
    xY := hI.xY
    bnd := hI.bnd
    bndG := hI.bndG
    e0 := hI.e0
    mlen := by rw [List.length_set]; exact hI.mlen
    os := hy.os.trans hI.os
    tape := hy.tape.trans hI.tape
    output := hy.output.trans hI.output
    size := Nat.le_trans hI.size hy.size
    keep := fun j hj hm hyy => (hy.keep j (Nat.lt_of_lt_of_le hj hI.size) (fun ha => by
      rcases (hI.ca j ha).2.2 with h | h
      · omega
      · exact hyy h)).trans (hI.keep j hj hm hyy)
    loc := hI.loc
    x0 := hI.x0
    ca := fun b hb => by
      obtain ⟨h1, h2⟩ := hy.a b hb
      refine ⟨.inl h2, fun hxb => ?_, ?_⟩
      · rcases h1 with h | h
        · exact (hI.ca b h).2.1 hxb
        · have := hI.xlt b hxb; omega
      · rcases h1 with h | h
        · exact (hI.ca b h).2.2
        · exact .inl (Nat.le_trans hI.size h)
    cc := fun b hb => by
      rcases hb with hb | hb
      · refine ⟨(hy.c b hb).1, hC'D b hb, ?_⟩
        rcases (hy.c b hb).2 with h | h | h
        · exact (hI.cc b (hC1 b h).1).2.2
        · exact .inl (Nat.le_trans hI.size h)
        · rcases hI.x0 b h.1 with h | h | h
          · exact .inl h
          · exact .inr (.inr (.inl h))
          · exact .inr (.inr (.inr h))
      · obtain ⟨g1, g2, g3⟩ := hI.cc b (hI.zc b hb).1
        exact ⟨Nat.lt_of_lt_of_le g1 hy.size, g2, g3⟩
    zc := fun b hb => by
      obtain ⟨g1, g2, g3⟩ := hI.zc b hb
      refine ⟨.inr hb, fun ha => ?_, g3⟩
      rcases (hy.a b ha).1 with h | h
      · exact g2 h
      · have := (hI.cc b g1).1; omega
    z0 := hI.z0
    xk := hI.xk
    gh := fun k blk hk hbk hnk hg => by
      have hkg : k = gi := by
        by_cases hkg : k = gi
        · exact hkg
        · rw [List.getElem?_set_ne (fun e => hkg e.symm)] at hbk
          exact h1 k blk hk hbk hnk hg
      subst hkg
      rw [List.getElem?_set_self (List.getElem?_eq_some_iff.1 hb).1] at hbk
      cases hbk
      refine ⟨C', fun b hb => ⟨.inl hb, fun hz => ?_⟩, hJ⟩
      obtain ⟨g1, g2, g3⟩ := hI.zc b hz
      rcases (hy.c b hb).2 with h | h | h
      · exact (hC1 b h).2 hz
      · have := (hI.cc b g1).1; omega
      · exact g3 h.1 }
end Go.Eng
