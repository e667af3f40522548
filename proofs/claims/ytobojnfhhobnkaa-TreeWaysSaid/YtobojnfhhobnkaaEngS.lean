/- The engine, part S: contracts, and calls by them. -/
import Derived.Test.YtobojnfhhobnkaaEngH
set_option linter.unusedSimpArgs false
set_option maxRecDepth 20000
set_option linter.unusedVariables false
namespace Go.Eng
open Go Go.RowKit

/-! ### Contracts -/
def Callable (P : Program) (f : Nat) : Prop := ∃ fn, P.funcs[f]? = some fn ∧ (fn.name == "runtime.NumGoroutine") = false ∧ fn.body.isNone = false

/-- What is asked of the world and the result when a call has ended: what was there, but the blocks handed in, is as it was; the result is res, the blocks are hp'. -/
structure Ends (w : World) (M : Frm) (c' : Cx) (w' : World) (v : Value) (res : Sv) (hp' : Hp) : Prop where
  weq : c'.w = w'
  inv : Inv w M c' hp'
  full : ∀ (k : Nat) (b : Blk), hp'[k]? = some (some b) → c'.D k
  x : ∀ b, c'.X b → M.G b
  rel : Rel res c' v

/-- A contract: with arguments of these contents, and with these blocks handed in, the function returns, and its result and the blocks, new ones behind those that were handed in, are as post says; all else is as it was. -/
structure MCon (P : Program) (f : Nat) (args : List Sv) (hpin : List Blk) (post : Sv → Hp → Prop) : Prop where
  callable : Callable P f
  run : ∀ (w : World) (M : Frm) (c : Cx) (vs : List Value), c.w = w → M.m = hpin.length → (∀ b, ¬ M.Xk b) → Inv w M c (hpin.map some) → (∀ (k : Nat) (b : Blk), (hpin.map some)[k]? = some (some b) → c.D k) → RelT args c vs →
    Calls P f vs.toArray w fun e w' => ∃ v c' res hp', e = .returned v ∧ post res hp' ∧ Ends w M c' w' v res hp'

def PCon (P : Program) (f : Nat) (args : List Sv) (res : Sv) (nb : List Blk) : Prop := MCon P f args [] fun r h => r = res ∧ h = nb.map some

theorem MCon.mono {P : Program} {f : Nat} {args : List Sv} {hpin : List Blk} {p q : Sv → Hp → Prop} (h : MCon P f args hpin p) (hq : ∀ r hp, p r hp → q r hp) : MCon P f args hpin q :=
  ⟨h.1, fun w M c vs h1 h2 h2' h3 h4 h5 => (h.2 w M c vs h1 h2 h2' h3 h4 h5).mono fun _ _ ⟨v, c', r, hp', e, hp, hE⟩ => ⟨v, c', r, hp', e, hq _ _ hp, hE⟩⟩

/-! ### The heap behind a call -/
def rho (sel : List Nat) (N i : Nat) : Nat :=
  match nth sel i with
  | some k => k
  | none => N + (i - sel.length)
/-- Blocks that were handed over and are gone. -/
def okI (sel kl : List Nat) (i : Nat) : Bool :=
  match nth sel i with
  | some k => !memB k kl
  | none => true
def mrgO (sel kl : List Nat) (hp' : Hp) (ρ : Nat → Nat) : Nat → Hp → Hp
  | _, [] => []
  | k, b :: bs => (match memB k sel with
      | true => (match memB k kl with
        | true => none
        | false => match hpGet hp' (idx k sel) with
          | some b1 => some (b1.mv ρ)
          | none => none)
      | false => b) :: mrgO sel kl hp' ρ (k + 1) bs
def mvO (ρ : Nat → Nat) : Hp → Hp
  | [] => []
  | none :: bs => none :: mvO ρ bs
  | some b :: bs => some (b.mv ρ) :: mvO ρ bs
def mrgH (hp : Hp) (sel kl : List Nat) (hp' : Hp) : Hp := mrgO sel kl hp' (rho sel hp.length) 0 (kill kl hp) ++ mvO (rho sel hp.length) (hp'.drop sel.length)

theorem mrgO_length (sel kl : List Nat) (hp' : Hp) (ρ : Nat → Nat) : ∀ (i : Nat) (hp : Hp), (mrgO sel kl hp' ρ i hp).length = hp.length
  | _, [] => rfl
  | i, _ :: bs => by simp [mrgO, mrgO_length sel kl hp' ρ (i + 1) bs]
theorem mrgO_sel (sel kl : List Nat) (hp' : Hp) (ρ : Nat → Nat) : ∀ (i : Nat) (hp : Hp) (k : Nat), k < hp.length → memB (i + k) sel = true → memB (i + k) kl = false →
    (mrgO sel kl hp' ρ i hp)[k]? = some ((hpGet hp' (idx (i + k) sel)).map (Blk.mv ρ))
  | _, [], k, h, _, _ => by simp at h
  | i, b :: bs, 0, _, h1, h2 => by
    rw [Nat.add_zero] at h1 h2
    simp only [mrgO, h1, h2, List.getElem?_cons_zero, Nat.add_zero]
    cases hpGet hp' (idx i sel) <;> rfl
  | i, b :: bs, k + 1, h, h1, h2 => by
    rw [show i + (k + 1) = i + 1 + k by omega] at h1 h2 ⊢
    simp only [mrgO, List.getElem?_cons_succ]
    exact mrgO_sel sel kl hp' ρ (i + 1) bs k (by simpa using h) h1 h2
theorem mrgO_kl (sel kl : List Nat) (hp' : Hp) (ρ : Nat → Nat) : ∀ (i : Nat) (hp : Hp) (k : Nat), k < hp.length → memB (i + k) sel = true → memB (i + k) kl = true → (mrgO sel kl hp' ρ i hp)[k]? = some none
  | _, [], k, h, _, _ => by simp at h
  | i, b :: bs, 0, _, h1, h2 => by
    rw [Nat.add_zero] at h1 h2
    simp only [mrgO, h1, h2, List.getElem?_cons_zero]
  | i, b :: bs, k + 1, h, h1, h2 => by
    rw [show i + (k + 1) = i + 1 + k by omega] at h1 h2
    simp only [mrgO, List.getElem?_cons_succ]
    exact mrgO_kl sel kl hp' ρ (i + 1) bs k (by simpa using h) h1 h2
theorem mrgO_not (sel kl : List Nat) (hp' : Hp) (ρ : Nat → Nat) : ∀ (i : Nat) (hp : Hp) (k : Nat), memB (i + k) sel = false → (mrgO sel kl hp' ρ i hp)[k]? = hp[k]?
  | _, [], k, _ => by simp [mrgO]
  | i, b :: bs, 0, h1 => by
    rw [Nat.add_zero] at h1
    simp only [mrgO, h1, List.getElem?_cons_zero]
  | i, b :: bs, k + 1, h1 => by
    rw [show i + (k + 1) = i + 1 + k by omega] at h1
    simp only [mrgO, List.getElem?_cons_succ]
    exact mrgO_not sel kl hp' ρ (i + 1) bs k h1
theorem mvO_get (ρ : Nat → Nat) : ∀ (hp : Hp) (k : Nat), (mvO ρ hp)[k]? = (hp[k]?).map (Option.map (Blk.mv ρ))
  | [], k => by simp [mvO]
  | none :: bs, 0 => by simp [mvO]
  | some b :: bs, 0 => by simp [mvO]
  | none :: bs, k + 1 => by simp [mvO, mvO_get ρ bs k]
  | some b :: bs, k + 1 => by simp [mvO, mvO_get ρ bs k]

def mrgC (c c' : Cx) (N : Nat) (sel kl : List Nat) : Cx :=
  { E := fun k => if k < N then c.E k else c'.E (k - N + sel.length)
    D := fun k => if k < N then (if memB k sel = true then memB k kl = false ∧ c'.D (idx k sel) else c.D k) else c'.D (k - N + sel.length)
    X := fun b => c.X b ∨ ((c.w.heap.size ≤ b ∨ ∃ k ∈ sel, (c.E k).nil = false ∧ (c.E k).b = b) ∧ c'.X b)
    G := c.G
    w := c'.w
    A := c.A
    C := c.C
    Z := c.Z }

theorem nth_lt {α : Type} {l : List α} {i : Nat} {x : α} (h : nth l i = some x) : i < l.length := by
  rw [nth_eq] at h
  exact (List.getElem?_eq_some_iff.1 h).1
theorem nth_none {α : Type} {l : List α} {i : Nat} (h : nth l i = none) : l.length ≤ i := by
  rw [nth_eq] at h
  simpa using h

theorem call_post {w0 : World} {M : Frm} {c c' : Cx} {hp hp' : Hp} {sel kl : List Nat} {w' : World} {v : Value} {res : Sv} (hI : Inv w0 M c hp) (hnd : sel.Nodup)
    (hkl : ∀ k, memB k kl = true → memB k sel = true) (hs : ∀ k ∈ sel, c.D k) (hal : ∀ i k, nth sel i = some k → memB k kl = false → ∃ b, hp'[i]? = some (some b))
    (hE : Ends c.w (handM c sel) c' w' v res hp') (hres : res.all (okI sel kl) = true) (hblk : ∀ (i : Nat) (b : Blk), hp'[i]? = some (some b) → okI sel kl i = true → b.clean = false → b.rows.all (Sv.all.allL (okI sel kl)) = true) :
    Inv w0 M (mrgC c c' hp.length sel kl) (mrgH hp sel kl hp') ∧ ((∀ (k : Nat) (b : Blk), hp[k]? = some (some b) → c.D k) → ∀ (k : Nat) (b : Blk), (mrgH hp sel kl hp')[k]? = some (some b) → (mrgC c c' hp.length sel kl).D k) ∧
      c.Le (fun k => !memB k kl) (mrgC c c' hp.length sel kl) ∧ Rel (res.mv (rho sel hp.length)) (mrgC c c' hp.length sel kl) v := by
  have hN : ∀ k, c.D k → k < hp.length := fun k hD => by
    obtain ⟨blk, e, _⟩ := hI.dom _ hD
    exact (List.getElem?_eq_some_iff.1 e).1
  have hE1 : ∀ k, k < hp.length → (mrgC c c' hp.length sel kl).E k = c.E k := fun k hk => by simp [mrgC, hk]
  have hE2 : ∀ k, hp.length ≤ k → (mrgC c c' hp.length sel kl).E k = c'.E (k - hp.length + sel.length) := fun k hk => by simp only [mrgC]; rw [if_neg (by omega)]
  have hselD : ∀ k, memB k sel = true → c.D k := fun k hk => hs k (memB_iff.1 hk)
  have e0 : ∀ i k, nth sel i = some k → c'.D i → c'.E i = c.E k := fun i k hk hD => by
    have := hE.inv.e0 i (nth_lt hk) hD
    rw [this]
    show c.E (sel.getD i 0) = _
    rw [(nth_getD hk).2]
  have hidx : ∀ i k, nth sel i = some k → idx k sel = i := fun i k hk => idx_at hnd (by rw [← nth_eq]; exact hk)
  have hmem : ∀ i k, nth sel i = some k → memB k sel = true := fun i k hk => memB_iff.2 (List.mem_of_getElem? (by rw [← nth_eq]; exact hk))
  have hnthi : ∀ k, memB k sel = true → nth sel (idx k sel) = some k := fun k hk => by rw [nth_eq]; exact (idx_lt hk).2
  have hMv : Mv (okI sel kl) (rho sel hp.length) c' (mrgC c c' hp.length sel kl) := by
    refine ⟨fun i hi hD => ?_, fun b hb => ?_, fun b hb hg => ?_, rfl⟩
    · unfold okI at hi
      unfold rho
      cases hk : nth sel i with
      | some k =>
        rw [hk] at hi
        have hkN := hN k (hselD k (hmem i k hk))
        refine ⟨?_, ?_⟩
        · simp only [mrgC]
          rw [if_pos hkN, if_pos (hmem i k hk), hidx i k hk]
          exact ⟨by simpa using hi, hD⟩
        · rw [hE1 k hkN]
          exact (e0 i k hk hD).symm
      | none =>
        have hm := nth_none hk
        dsimp only
        refine ⟨?_, ?_⟩
        · simp only [mrgC]
          rw [if_neg (by omega), show hp.length + (i - sel.length) - hp.length + sel.length = i by omega]
          exact hD
        · rw [hE2 _ (by omega), show hp.length + (i - sel.length) - hp.length + sel.length = i by omega]
    · rcases hE.x b hb with h | h
      · exact .inl h.2
      · exact .inr ⟨h, hb⟩
    · rcases hE.x b hb with h | h
      · exact h.1
      · show c.G b
        rw [hI.bnd]
        refine hI.bndG.g b ?_
        rcases h with h | ⟨k, hk, hn, e⟩
        · exact .inl (Nat.le_trans hI.size h)
        · rw [← e]
          exact (hI.loc k (hs k hk) hn).symm
  have hnotM : ∀ b, c.X b → ¬ (handM c sel).M b := fun b hb => by
    rintro ⟨k, hk, hn, e⟩
    exact hI.xsep k b (hs k hk) hn hb e
  have hX : ∀ b, c.X b → c'.w.heap[b]? = c.w.heap[b]? := fun b hb => hE.inv.keep b (hI.xlt b hb) (hnotM b hb) (fun h => h)
  have hle : c.Le (fun k => !memB k kl) (mrgC c c' hp.length sel kl) := by
    refine ⟨fun k hk hD => ?_, fun b h => .inl h, fun _ _ h => h, hX⟩
    have hkN := hN k hD
    refine ⟨?_, hE1 k hkN⟩
    simp only [mrgC]
    rw [if_pos hkN]
    have hk' : memB k kl = false := by simpa using hk
    cases hm : memB k sel with
    | true =>
      rw [if_pos rfl]
      obtain ⟨b, hb⟩ := hal _ k (hnthi k hm) hk'
      exact ⟨hk', hE.full _ b hb⟩
    | false =>
      rw [if_neg (by simp)]
      exact hD
  refine ⟨?_, ?_, hle, Rel.mv res hres hMv hE.rel⟩
  · -- where the blocks come from
    have hA : ∀ k, c.D k → memB k sel = false → (c.E k).nil = false → ¬ (handM c sel).M (c.E k).b := fun k hD hk hn => by
      rintro ⟨j, hj, hjn, e⟩
      refine hI.inj j k (hs j hj) hD (fun e => ?_) hjn hn e
      subst e
      rw [memB_iff.2 hj] at hk
      cases hk
    have hltA : ∀ k, c.D k → (c.E k).nil = false → (c.E k).b < c.w.heap.size := fun k hD hn => by
      obtain ⟨blk, _, r⟩ := hI.dom k hD
      exact r.lt hn
    have hsrc : ∀ k, (mrgC c c' hp.length sel kl).D k → (k < hp.length ∧ memB k sel = false ∧ c.D k) ∨ ∃ i, c'.D i ∧ okI sel kl i = true ∧ rho sel hp.length i = k ∧ (mrgC c c' hp.length sel kl).E k = c'.E i := by
      intro k hD
      simp only [mrgC] at hD
      by_cases hk : k < hp.length
      · rw [if_pos hk] at hD
        cases hm : memB k sel with
        | true =>
          rw [hm, if_pos rfl] at hD
          refine .inr ⟨idx k sel, hD.2, by unfold okI; rw [hnthi k hm]; simp [hD.1], by unfold rho; rw [hnthi k hm], ?_⟩
          rw [hE1 k hk]
          exact (e0 _ k (hnthi k hm) hD.2).symm
        | false =>
          rw [hm, if_neg (by simp)] at hD
          exact .inl ⟨hk, rfl, hD⟩
      · rw [if_neg hk] at hD
        have hno : nth sel (k - hp.length + sel.length) = none := by rw [nth_eq]; simp
        exact .inr ⟨k - hp.length + sel.length, hD, by unfold okI; rw [hno], by unfold rho; rw [hno]; simp only; omega, hE2 k (by omega)⟩
    have hB : ∀ i, c'.D i → (c'.E i).nil = false → (∃ j ∈ sel, (c.E j).nil = false ∧ (c.E j).b = (c'.E i).b) ∨ c.w.heap.size ≤ (c'.E i).b := fun i hD hn => hE.inv.loc i hD hn
    have hAB : ∀ k i, c.D k → memB k sel = false → (c.E k).nil = false → c'.D i → (c'.E i).nil = false → (c.E k).b ≠ (c'.E i).b := by
      intro k i hD hk hn hi hin e
      rcases hB i hi hin with ⟨j, hj, hjn, ej⟩ | h
      · exact hA k hD hk hn ⟨j, hj, hjn, ej.trans e.symm⟩
      · have := hltA k hD hn; omega
    obtain ⟨hIk, _⟩ := hI.kill kl
    have hlek : Cx.Le (fun _ => true) { c with D := fun k => c.D k ∧ memB k kl = false } (mrgC c c' hp.length sel kl) :=
      ⟨fun k _ hD => hle.ed k (by simp [hD.2]) hD.1, hle.x, hle.b, hle.heap⟩
    have hkeepA : ∀ k, c.D k → memB k sel = false → (c.E k).nil = false → c'.w.heap[(c.E k).b]? = c.w.heap[(c.E k).b]? := fun k hD hk hn => hE.inv.keep _ (hltA k hD hn) (hA k hD hk hn) (fun h => h)
    refine { dom := ?_, inj := ?_, xsep := ?_, xlt := ?_, xY := ?_, bnd := hI.bnd, bndG := hI.bndG, e0 := ?_, mlen := ?_, os := hE.inv.os.trans hI.os, tape := hE.inv.tape.trans hI.tape, output := hE.inv.output.trans hI.output, size := Nat.le_trans hI.size hE.inv.size, keep := ?_, loc := ?_, x0 := ?_, ca := ?_, cc := ?_, gh := ?_, zc := ?_, z0 := hI.z0, xk := fun b hb => .inl (hI.xk b hb) }
    · intro k hD
      rcases hsrc k hD with ⟨hk, hm, hcD⟩ | ⟨i, hi, hok, hρ, hEk⟩
      · have hnk : memB k kl = false := by
          cases h : memB k kl with
          | false => rfl
          | true => rw [hkl k h] at hm; cases hm
        obtain ⟨blk, e, r⟩ := hIk.dom k ⟨hcD, hnk⟩
        refine ⟨blk, ?_, r.le hlek (hE1 k hk) (fun hn => hkeepA k hcD hm hn) (fun _ => allR_true _)⟩
        unfold mrgH
        rw [List.getElem?_append_left (by rw [mrgO_length, kill_length]; exact hk), mrgO_not _ _ _ _ 0 _ k (by simpa using hm)]
        exact e
      · obtain ⟨blk, e, r⟩ := hE.inv.dom i hi
        subst hρ
        refine ⟨blk.mv (rho sel hp.length), ?_, BlkRel.mv hMv hEk (hblk i blk e hok) r⟩
        unfold mrgH
        cases hk : nth sel i with
        | some k =>
          have hρ : rho sel hp.length i = k := by unfold rho; rw [hk]
          have hkN := hN k (hselD k (hmem i k hk))
          rw [hρ, List.getElem?_append_left (by rw [mrgO_length, kill_length]; exact hkN)]
          rw [mrgO_sel _ _ _ _ 0 _ k (by rw [kill_length]; exact hkN) (by simpa using hmem i k hk) (by unfold okI at hok; rw [hk] at hok; simpa using hok)]
          rw [Nat.zero_add, hidx i k hk, hpGet_eq.2 e]
          rfl
        | none =>
          have hm := nth_none hk
          have hρ : rho sel hp.length i = hp.length + (i - sel.length) := by unfold rho; rw [hk]
          rw [hρ, List.getElem?_append_right (by rw [mrgO_length, kill_length]; omega), mrgO_length, kill_length, mvO_get, List.getElem?_drop]
          rw [show sel.length + (hp.length + (i - sel.length) - hp.length) = i by omega, e]
          rfl
    · intro k k' hD hD' hne h1 h2
      rcases hsrc k hD with ⟨hk, hm, hcD⟩ | ⟨i, hi, hok, hρ, hEk⟩ <;> rcases hsrc k' hD' with ⟨hk', hm', hcD'⟩ | ⟨i', hi', hok', hρ', hEk'⟩
      · rw [hE1 k hk] at h1 ⊢; rw [hE1 k' hk'] at h2 ⊢; exact hI.inj k k' hcD hcD' hne h1 h2
      · rw [hE1 k hk] at h1 ⊢; rw [hEk'] at h2 ⊢; exact hAB k i' hcD hm h1 hi' h2
      · rw [hE1 k' hk'] at h2 ⊢; rw [hEk] at h1 ⊢; exact fun e => hAB k' i hcD' hm' h2 hi h1 e.symm
      · rw [hEk] at h1 ⊢; rw [hEk'] at h2 ⊢; exact hE.inv.inj i i' hi hi' (fun e => hne (by rw [← hρ, ← hρ', e])) h1 h2
    · intro k b hD h1 hb
      rcases hsrc k hD with ⟨hk, hm, hcD⟩ | ⟨i, hi, hok, hρ, hEk⟩
      · rw [hE1 k hk] at h1 ⊢
        rcases hb with hb | hb
        · exact hI.xsep k b hcD h1 hb
        · rcases hb.1 with h | ⟨j, hj, hjn, e⟩
          · have := hltA k hcD h1; omega
          · exact fun e' => hA k hcD hm h1 ⟨j, hj, hjn, e.trans e'.symm⟩
      · rw [hEk] at h1 ⊢
        rcases hb with hb | hb
        · rcases hB i hi h1 with ⟨j, hj, hjn, ej⟩ | h
          · rw [← ej]; exact hI.xsep j b (hs j hj) hjn hb
          · have := hI.xlt b hb; omega
        · exact hE.inv.xsep i b hi h1 hb.2
    · rintro b (hb | hb)
      · exact Nat.lt_of_lt_of_le (hI.xlt b hb) hE.inv.size
      · exact hE.inv.xlt b hb.2
    · rintro b (hb | hb)
      · exact hI.xY b hb
      · intro hy
        obtain ⟨h1, h2⟩ := hI.bndG.y b hy
        rcases hb.1 with h | ⟨j, hj, hjn, e⟩
        · have := hI.size; omega
        · rcases hI.loc j (hs j hj) hjn with h | h
          · exact h2 (e ▸ h)
          · omega
    · intro k hk hD
      have hkN : k < hp.length := Nat.lt_of_lt_of_le hk hI.mlen
      rw [hE1 k hkN]
      refine hI.e0 k hk ?_
      simp only [mrgC] at hD
      rw [if_pos hkN] at hD
      cases hm : memB k sel with
      | true => exact hselD k hm
      | false => rw [hm, if_neg (by simp)] at hD; exact hD
    · unfold mrgH
      rw [List.length_append, mrgO_length, kill_length]
      have := hI.mlen
      omega
    · intro j hj hm hy
      refine (hE.inv.keep j (Nat.lt_of_lt_of_le hj hI.size) ?_ (fun h => h)).trans (hI.keep j hj hm hy)
      rintro ⟨k, hk, hn, e⟩
      rcases hI.loc k (hs k hk) hn with h | h
      · exact hm (e ▸ h)
      · omega
    · intro k hD h1
      rcases hsrc k hD with ⟨hk, hm, hcD⟩ | ⟨i, hi, hok, hρ, hEk⟩
      · rw [hE1 k hk] at h1 ⊢; exact hI.loc k hcD h1
      · rw [hEk] at h1 ⊢
        rcases hB i hi h1 with ⟨j, hj, hjn, ej⟩ | h
        · rw [← ej]; exact hI.loc j (hs j hj) hjn
        · exact .inr (Nat.le_trans hI.size h)
    · rintro b (hb | hb)
      · exact hI.x0 b hb
      · rcases hb.1 with h | ⟨j, hj, hjn, e⟩
        · exact .inl (Nat.le_trans hI.size h)
        · rcases hI.loc j (hs j hj) hjn with h | h
          · exact .inr (.inl (e ▸ h))
          · exact .inl (e ▸ h)
    · intro b hb
      obtain ⟨h1, h2, h3⟩ := hI.ca b hb
      refine ⟨h1, ?_, h3⟩
      rintro (h | h)
      · exact h2 h
      · obtain ⟨g1, g2, _⟩ := hI.cc b h1
        rcases h.1 with h | ⟨j, hj, hjn, e⟩
        · omega
        · exact g2 j (hs j hj) hjn e
    · intro b hb
      obtain ⟨g1, g2, g3⟩ := hI.cc b hb
      refine ⟨Nat.lt_of_lt_of_le g1 hE.inv.size, fun k hD h1 => ?_, g3⟩
      rcases hsrc k hD with ⟨hk, hm, hcD⟩ | ⟨i, hi, hok, hρ, hEk⟩
      · rw [hE1 k hk] at h1 ⊢; exact g2 k hcD h1
      · rw [hEk] at h1 ⊢
        rcases hB i hi h1 with ⟨j, hj, hjn, ej⟩ | h
        · rw [← ej]; exact g2 j (hs j hj) hjn
        · omega
    · intro k blk hD hb h1 h2
      rcases hsrc k hD with ⟨hk, hm, hcD⟩ | ⟨i, hi, hok, hρ, hEk⟩
      · have hnk : memB k kl = false := by
          cases h : memB k kl with
          | false => rfl
          | true => rw [hkl k h] at hm; cases hm
        rw [hE1 k hk] at h1
        unfold mrgH at hb
        rw [List.getElem?_append_left (by rw [mrgO_length, kill_length]; exact hk), mrgO_not _ _ _ _ 0 _ k (by simpa using hm)] at hb
        refine hIk.ghs (k := k) (w' := c'.w) ⟨hE.inv.os, hE.inv.tape, hE.inv.output, hE.inv.size, fun b hb => ?_⟩ ⟨hcD, hnk⟩ hb h1 h2
        obtain ⟨g1, g2, _⟩ := hI.cc b hb
        exact hE.inv.keep b g1 (by rintro ⟨j, hj, hjn, e⟩; exact g2 j (hs j hj) hjn e) (fun h => h)
      · rw [hEk] at h1
        obtain ⟨b0, e0', r0⟩ := hE.inv.dom i hi
        have hb2 : blk = b0.mv (rho sel hp.length) := by
          subst hρ
          unfold mrgH at hb
          cases hk : nth sel i with
          | some k =>
            have hρ : rho sel hp.length i = k := by unfold rho; rw [hk]
            have hkN := hN k (hselD k (hmem i k hk))
            rw [hρ, List.getElem?_append_left (by rw [mrgO_length, kill_length]; exact hkN)] at hb
            rw [mrgO_sel _ _ _ _ 0 _ k (by rw [kill_length]; exact hkN) (by simpa using hmem i k hk) (by unfold okI at hok; rw [hk] at hok; simpa using hok)] at hb
            rw [Nat.zero_add, hidx i k hk, hpGet_eq.2 e0'] at hb
            simpa using hb.symm
          | none =>
            have hm := nth_none hk
            have hρ : rho sel hp.length i = hp.length + (i - sel.length) := by unfold rho; rw [hk]
            rw [hρ, List.getElem?_append_right (by rw [mrgO_length, kill_length]; omega), mrgO_length, kill_length, mvO_get, List.getElem?_drop] at hb
            rw [show sel.length + (hp.length + (i - sel.length) - hp.length) = i by omega, e0'] at hb
            simpa using hb.symm
        have hg0 : b0.grow = false := by
          rw [hb2, Blk.mv_def] at h2
          split at h2
          · exact h2
          · exact h2
        obtain ⟨_, _, h⟩ := hE.inv.gh i b0 hi e0' h1 hg0
        exact h.elim
    · intro b hb
      obtain ⟨h1, h2, h3⟩ := hI.zc b hb
      refine ⟨h1, h2, ?_⟩
      rintro (h | h)
      · exact h3 h
      · obtain ⟨g1, g2, _⟩ := hI.cc b h1
        rcases h.1 with h | ⟨j, hj, hjn, e⟩
        · omega
        · exact g2 j (hs j hj) hjn e
  · intro hf k b hk
    unfold mrgH at hk
    simp only [mrgC]
    by_cases hkN : k < hp.length
    · rw [if_pos hkN]
      rw [List.getElem?_append_left (by rw [mrgO_length, kill_length]; exact hkN)] at hk
      cases hm : memB k sel with
      | true =>
        rw [if_pos rfl]
        cases hq : memB k kl with
        | true =>
          rw [mrgO_kl _ _ _ _ 0 _ k (by rw [kill_length]; exact hkN) (by simpa using hm) (by simpa using hq)] at hk
          cases hk
        | false =>
          rw [mrgO_sel _ _ _ _ 0 _ k (by rw [kill_length]; exact hkN) (by simpa using hm) (by simpa using hq), Nat.zero_add] at hk
          cases hg : hpGet hp' (idx k sel) with
          | none => rw [hg] at hk; cases hk
          | some b1 => exact ⟨rfl, hE.full _ b1 (hpGet_eq.1 hg)⟩
      | false =>
        rw [if_neg (by simp)]
        rw [mrgO_not _ _ _ _ 0 _ k (by simpa using hm)] at hk
        cases kl with
        | nil => exact hf k b hk
        | cons j js =>
          obtain ⟨_, b0, h0, _⟩ := killH_some (j :: js) hp 0 k b hk
          exact hf k b0 h0
    · rw [if_neg hkN]
      rw [List.getElem?_append_right (by rw [mrgO_length, kill_length]; omega), mrgO_length, kill_length, mvO_get, List.getElem?_drop] at hk
      rw [show k - hp.length + sel.length = sel.length + (k - hp.length) by omega]
      cases hq : hp'[sel.length + (k - hp.length)]? with
      | none => rw [hq] at hk; cases hk
      | some o =>
        rw [hq] at hk
        cases o with
        | none => cases hk
        | some b1 => exact hE.full _ b1 hq
end Go.Eng
