/- The engine, part H: contracts, and calls by them. -/
import Derived.Test.YtobojnfhhobnkaaEngX
set_option linter.unusedSimpArgs false
set_option maxRecDepth 20000
set_option linter.unusedVariables false
namespace Go.Eng
open Go Go.RowKit

/-! ### Numbers, moved -/
def idx (k : Nat) : List Nat → Nat
  | [] => 0
  | j :: js => match Nat.beq k j with | true => 0 | false => idx k js + 1

theorem idx_lt : ∀ {k : Nat} {sel : List Nat}, memB k sel = true → idx k sel < sel.length ∧ sel[idx k sel]? = some k
  | k, [], h => by simp [memB] at h
  | k, j :: js, h => by
    simp only [memB, Bool.or_eq_true] at h
    unfold idx
    cases hb : Nat.beq k j with
    | true =>
      have := Nat.eq_of_beq_eq_true hb
      subst this
      exact ⟨by simp, by simp⟩
    | false =>
      have hne : k ≠ j := fun e => by rw [e, Nat.beq_refl] at hb; cases hb
      have := idx_lt (h.resolve_left (by simpa using hne))
      exact ⟨by simp [this.1], by simpa using this.2⟩

theorem memB_iff {k : Nat} : ∀ {l : List Nat}, memB k l = true ↔ k ∈ l
  | [] => by simp [memB]
  | j :: js => by simp [memB, memB_iff (l := js)]

theorem nodup_at {α : Type} : ∀ {l : List α}, l.Nodup → ∀ {i j : Nat} {k : α}, l[i]? = some k → l[j]? = some k → i = j
  | [], _, i, j, k, h, _ => by simp at h
  | x :: l, hn, i, j, k, h1, h2 => by
    have hn' := List.nodup_cons.1 hn
    cases i with
    | zero => cases j with
      | zero => rfl
      | succ j => simp at h1 h2; subst h1; exact absurd (List.mem_of_getElem? h2) hn'.1
    | succ i => cases j with
      | zero => simp at h1 h2; subst h2; exact absurd (List.mem_of_getElem? h1) hn'.1
      | succ j => simp at h1 h2; rw [nodup_at hn'.2 h1 h2]
/-- In a list without repeats each stands where it stands. -/
theorem idx_at {k i : Nat} {sel : List Nat} (hn : sel.Nodup) (h : sel[i]? = some k) : idx k sel = i := by
  have hm : memB k sel = true := memB_iff.2 (List.mem_of_getElem? h)
  have h1 := idx_lt hm
  exact nodup_at hn h1.2 h

def Sv.mv (ρ : Nat → Nat) : Sv → Sv
  | .agg cs => .agg (go ρ cs)
  | .tup cs => .tup (go ρ cs)
  | .clo f cs => .clo f (go ρ cs)
  | .ptr k r q => .ptr (ρ k) r q
  | .own k m => .own (ρ k) m
  | .sls k l m => .sls (ρ k) l m
  | s => s
where go (ρ : Nat → Nat) : List Sv → List Sv
  | [] => []
  | s :: ss => s.mv ρ :: go ρ ss

def Blk.mv (ρ : Nat → Nat) (b : Blk) : Blk :=
  match b with
  | ⟨e, wd, true, gr, rows⟩ => ⟨e, wd, true, gr, rows⟩
  | ⟨e, wd, false, gr, rows⟩ => ⟨e, wd, false, gr, rows.map (Sv.mv.go ρ)⟩
theorem Blk.mv_def (ρ : Nat → Nat) (b : Blk) : b.mv ρ = match b.clean with
    | true => b
    | false => { b with rows := b.rows.map (Sv.mv.go ρ) } := by
  obtain ⟨e, wd, cl, gr, rows⟩ := b
  cases cl <;> rfl

/-- The same, its blocks under other numbers. -/
structure Mv (p : Nat → Bool) (ρ : Nat → Nat) (c c' : Cx) : Prop where
  ed : ∀ k, p k = true → c.D k → c'.D (ρ k) ∧ c'.E (ρ k) = c.E k
  x : ∀ b, c.X b → c'.X b
  g : ∀ b, c.X b → c.G b → c'.G b
  w : c'.w = c.w

theorem Mv.shut {p : Nat → Bool} {ρ : Nat → Nat} {c c' : Cx} (h : Mv p ρ c c') : c.shut.Le (fun _ => true) c'.shut := ⟨fun _ _ h => h.elim, h.x, h.g, fun _ _ => by rw [show c'.shut.w = c.shut.w from h.w]⟩

mutual
theorem Rel.mv {p : Nat → Bool} {ρ : Nat → Nat} : ∀ (s : Sv) {c c' : Cx} {v : Value}, s.all p = true → Mv p ρ c c' → Rel s c v → Rel (s.mv ρ) c' v
  | .val x, _, _, _, _, _, r => by simpa [Rel, Sv.mv] using r
  | .any, _, _, _, _, _, _ => by simp [Rel, Sv.mv]
  | .agg cs, _, _, _, ha, h, r => by
    simp only [Rel, Sv.mv] at r ⊢
    obtain ⟨vs, e, hl⟩ := r
    exact ⟨vs, e, RelL.mv cs (by simpa [Sv.all] using ha) h hl⟩
  | .tup cs, _, _, _, ha, h, r => by
    simp only [Rel, Sv.mv] at r ⊢
    obtain ⟨vs, e, hl⟩ := r
    exact ⟨vs, e, RelT.mv cs (by simpa [Sv.all] using ha) h hl⟩
  | .ptr k row col, _, _, _, ha, h, r => by
    simp only [Rel, Sv.mv] at r ⊢
    have hp : p k = true := by simpa [Sv.all] using ha
    rw [(h.ed k hp r.1).2]
    exact ⟨(h.ed k hp r.1).1, r.2⟩
  | .own k n, _, _, _, ha, h, r => by
    simp only [Rel, Sv.mv] at r ⊢
    have hp : p k = true := by simpa [Sv.all] using ha
    rw [(h.ed k hp r.1).2]
    exact ⟨(h.ed k hp r.1).1, r.2⟩
  | .sls k lo n, _, _, _, ha, h, r => by
    simp only [Rel, Sv.mv] at r ⊢
    have hp : p k = true := by simpa [Sv.all] using ha
    rw [(h.ed k hp r.1).2]
    exact ⟨(h.ed k hp r.1).1, r.2⟩
  | .ext fr wd rows, c, _, _, _, h, r => by
    simp only [Rel, Sv.mv] at r ⊢
    obtain ⟨a, cap, e, hc, hr⟩ := r
    refine ⟨a, cap, e, hc, hr.imp id ?_⟩
    rintro ⟨b, off, ea, hx, hf, hr⟩
    exact ⟨b, off, ea, h.x b hx, fun e => h.g b hx (hf e), RelR.le rows (allR_true rows) h.shut (by rw [show c.shut.w = c.w from rfl, ← h.w]; rfl) hr⟩
  | .ref fr cs, c, _, _, _, h, r => by
    simp only [Rel, Sv.mv] at r ⊢
    obtain ⟨b, off, e, hx, hf, hr⟩ := r
    exact ⟨b, off, e, h.x b hx, fun e => h.g b hx (hf e), RelC.le cs (allL_true cs) h.shut (by rw [show c.shut.w = c.w from rfl, ← h.w]; rfl) hr⟩
  | .clo f cs, _, _, _, ha, h, r => by
    simp only [Rel, Sv.mv] at r ⊢
    obtain ⟨vs, e, hl⟩ := r
    exact ⟨vs, e, RelT.mv cs (by simpa [Sv.all] using ha) h hl⟩
theorem RelL.mv {p : Nat → Bool} {ρ : Nat → Nat} : ∀ (ss : List Sv) {c c' : Cx} {vs : List Value}, Sv.all.allL p ss = true → Mv p ρ c c' → RelL ss c vs → RelL (Sv.mv.go ρ ss) c' vs
  | [], _, _, _, _, _, r => by simpa [RelL, Sv.mv.go] using r
  | s :: ss, _, _, _, ha, h, r => by
    simp only [RelL, Sv.mv.go] at r ⊢
    simp only [Sv.all.allL, Bool.and_eq_true] at ha
    obtain ⟨u, us, e, h1, hs, hl⟩ := r
    exact ⟨u, us, e, h1, Rel.mv s ha.1 h hs, RelL.mv ss ha.2 h hl⟩
theorem RelT.mv {p : Nat → Bool} {ρ : Nat → Nat} : ∀ (ss : List Sv) {c c' : Cx} {vs : List Value}, Sv.all.allL p ss = true → Mv p ρ c c' → RelT ss c vs → RelT (Sv.mv.go ρ ss) c' vs
  | [], _, _, _, _, _, r => by simpa [RelT, Sv.mv.go] using r
  | s :: ss, _, _, _, ha, h, r => by
    simp only [RelT, Sv.mv.go] at r ⊢
    simp only [Sv.all.allL, Bool.and_eq_true] at ha
    obtain ⟨u, us, e, hs, hl⟩ := r
    exact ⟨u, us, e, Rel.mv s ha.1 h hs, RelT.mv ss ha.2 h hl⟩
end
theorem RelC.mv {p : Nat → Bool} {ρ : Nat → Nat} : ∀ (ss : List Sv) {c c' : Cx} {b off : Nat}, Sv.all.allL p ss = true → Mv p ρ c c' → RelC ss c b off → RelC (Sv.mv.go ρ ss) c' b off
  | [], _, _, _, _, _, _, _ => by simp [RelC, Sv.mv.go]
  | s :: ss, _, _, b, off, ha, h, r => by
    simp only [RelC, Sv.mv.go] at r ⊢
    simp only [Sv.all.allL, Bool.and_eq_true] at ha
    obtain ⟨⟨u, e, h1, hs⟩, hl⟩ := r
    exact ⟨⟨u, by rw [h.w]; exact e, h1, Rel.mv s ha.1 h hs⟩, RelC.mv ss ha.2 h hl⟩
theorem mvGo_length (ρ : Nat → Nat) : ∀ cs : List Sv, (Sv.mv.go ρ cs).length = cs.length
  | [] => rfl
  | _ :: cs => by simp [Sv.mv.go, mvGo_length ρ cs]
theorem RelR.mv {p : Nat → Bool} {ρ : Nat → Nat} : ∀ (rs : List (List Sv)) {c c' : Cx} {wd b off : Nat}, rs.all (Sv.all.allL p) = true → Mv p ρ c c' → RelR rs c wd b off → RelR (rs.map (Sv.mv.go ρ)) c' wd b off
  | [], _, _, _, _, _, _, _, _ => by simp [RelR]
  | r :: rs, _, _, wd, b, off, ha, h, q => by
    simp only [RelR, List.map_cons] at q ⊢
    simp only [List.all_cons, Bool.and_eq_true] at ha
    exact ⟨by rw [mvGo_length]; exact q.1, RelC.mv r ha.1 h q.2.1, RelR.mv rs ha.2 h q.2.2⟩
theorem BlkRel.mv {p : Nat → Bool} {ρ : Nat → Nat} {c c' : Cx} {k : Nat} {b : Blk} (h : Mv p ρ c c') (hE : c'.E (ρ k) = c.E k) (ha : b.clean = false → b.rows.all (Sv.all.allL p) = true) (r : BlkRel c k b) : BlkRel c' (ρ k) (b.mv ρ) := by
  unfold BlkRel at *
  rw [hE, Blk.mv_def]
  cases hc : b.clean with
  | true =>
    refine ⟨r.1, fun hn => (r.2.1 hn).imp id (fun h => ⟨h.1, hc, h.2.2⟩), fun hn => ?_⟩
    obtain ⟨arr, hh, hr, hl, hg⟩ := r.2.2 hn
    refine ⟨arr, by rw [h.w]; exact hh, ?_, hl, hg⟩
    simp only [Blk.cx, hc] at hr ⊢
    exact RelR.le _ (allR_true _) h.shut (by rw [show c.shut.w = c.w from rfl, ← h.w]; rfl) hr
  | false =>
    simp only
    refine ⟨r.1, fun hn => ?_, fun hn => ?_⟩
    · rcases r.2.1 hn with ⟨h1, h2⟩ | ⟨_, h2, _⟩
      · exact .inl ⟨h1, by simp [h2]⟩
      · rw [hc] at h2; cases h2
    obtain ⟨arr, hh, hr, hl, hg⟩ := r.2.2 hn
    refine ⟨arr, by rw [h.w]; exact hh, ?_, by simpa using hl, by simpa using hg⟩
    simp only [Blk.cx, hc] at hr ⊢
    exact RelR.mv _ (ha hc) h hr

/-! ### What is handed over -/
mutual
/-- The value s, seen by whom it is handed to as s1: blocks of sel under their places in sel; what lies in other blocks by content. -/
def Cl (hp : Hp) (sel : List Nat) (s : Sv) : Sv → Prop
  | .any => True
  | .val x => s = .val x
  | .agg cs1 => match s with
    | .agg cs => ClL hp sel cs cs1
    | _ => False
  | .tup _ => False
  | .ptr i r q => match s with
    | .ptr k r' q' => nth sel i = some k ∧ r' = r ∧ q' = q
    | _ => False
  | .own i n => match s with
    | .own k n' => nth sel i = some k ∧ n' = n
    | _ => False
  | .sls i lo n => match s with
    | .sls k lo' n' => nth sel i = some k ∧ lo' = lo ∧ n' = n
    | _ => False
  | .ext fr1 wd1 rows1 => match s with
    | .ext fr wd rows => (fr1 = true → fr = true) ∧ wd = wd1 ∧ rows = rows1
    | .own k m => fr1 = false ∧ memB k sel = false ∧ ∃ b, hpGet hp k = some b ∧ (m = b.rows.length ∧ b.wd = wd1 ∧ (b.clean = true ∧ b.rows = rows1 ∨ ClR hp sel b.rows rows1 ∧ rows1.all (Sv.all.allL fun _ => false) = true) ∨ m ≤ b.rows.length ∧ b.wd = wd1 ∧ b.clean = true ∧ b.rows.take m = rows1)
    | .sls k lo m => fr1 = false ∧ memB k sel = false ∧ ∃ b, hpGet hp k = some b ∧ lo + m ≤ b.rows.length ∧ b.wd = wd1 ∧ (b.clean = true ∧ (b.rows.drop lo).take m = rows1 ∨ ClR hp sel ((b.rows.drop lo).take m) rows1 ∧ rows1.all (Sv.all.allL fun _ => false) = true)
    | .val (.slice none 0 0) => rows1 = []
    | _ => False
  | .ref fr1 cs1 => match s with
    | .ref fr cs => (fr1 = true → fr = true) ∧ cs = cs1
    | .ptr k r q => fr1 = false ∧ memB k sel = false ∧ ∃ b row, hpGet hp k = some b ∧ nth b.rows r = some row ∧ (b.clean = true ∧ row.drop q = cs1 ∨ ClL hp sel (row.drop q) cs1 ∧ Sv.all.allL (fun _ => false) cs1 = true)
    | _ => False
  | .clo f cs1 => match s with
    | .clo g cs => g = f ∧ ClL hp sel cs cs1
    | _ => False
def ClL (hp : Hp) (sel : List Nat) (ss : List Sv) : List Sv → Prop
  | [] => ss = []
  | s1 :: ss1 => match ss with
    | s :: ss => Cl hp sel s s1 ∧ ClL hp sel ss ss1
    | [] => False
def ClR (hp : Hp) (sel : List Nat) (rs : List (List Sv)) : List (List Sv) → Prop
  | [] => rs = []
  | r1 :: rs1 => match rs with
    | r :: rs => ClL hp sel r r1 ∧ ClR hp sel rs rs1
    | [] => False
end

/-- The context of a call. -/
def Cx.hand (c : Cx) (sel : List Nat) : Cx :=
  { E := fun i => c.E (sel.getD i 0), D := fun i => i < sel.length, X := fun b => b < c.w.heap.size ∧ ∀ k ∈ sel, (c.E k).nil = false → (c.E k).b ≠ b, G := fun b => (c.G b ∧ c.X b) ∨ c.w.heap.size ≤ b ∨ ∃ k ∈ sel, (c.E k).nil = false ∧ (c.E k).b = b, w := c.w }
def handM (c : Cx) (sel : List Nat) : Frm := { M := fun b => ∃ k ∈ sel, (c.E k).nil = false ∧ (c.E k).b = b, G := (c.hand sel).G, Y := fun _ => False, m := sel.length, E0 := (c.hand sel).E, X0 := (c.hand sel).X }

/-- What lies behind a known local block, as content. -/
theorem Inv.block {w0 : World} {M : Frm} {c : Cx} {hp : Hp} (hI : Inv w0 M c hp) {k : Nat} {b : Blk} (hD : c.D k) (hb : hpGet hp k = some b) :
    (c.E k).wd = b.wd ∧ (True ∧ (c.E k).nil = true ∨ (c.E k).nil = false ∧ (c.E k).b < c.w.heap.size ∧ RelR b.rows (b.cx c) b.wd (c.E k).b 0) := by
  obtain ⟨b', hb', hwd, hrel⟩ := hI.dom k hD
  rw [hpGet_eq] at hb
  rw [hb] at hb'
  cases hb'
  refine ⟨hwd, ?_⟩
  cases hn : (c.E k).nil with
  | true => exact .inl ⟨trivial, rfl⟩
  | false =>
    obtain ⟨arr, hh, hr, _⟩ := hrel.2 hn
    exact .inr ⟨rfl, (Array.getElem?_eq_some_iff.1 hh).1, hr⟩


theorem nth_getD {sel : List Nat} {i k : Nat} (h : nth sel i = some k) : i < sel.length ∧ sel.getD i 0 = k := by
  rw [nth_eq] at h
  exact ⟨(List.getElem?_eq_some_iff.1 h).1, by simp [List.getD_eq_getElem?_getD, h]⟩

section
variable {hp : Hp} {sel : List Nat} {w0 : World} {M : Frm} {c : Cx}

theorem hand_shut (hI : Inv w0 M c hp) (hs : ∀ k ∈ sel, c.D k) : c.shut.Le (fun _ => true) (c.hand sel).shut :=
  ⟨fun _ _ h => h.elim, fun b hb => ⟨hI.xlt b hb, fun k hk hn => hI.xsep k b (hs k hk) hn hb⟩, fun b hb hg => .inl ⟨hg, hb⟩, fun _ _ => rfl⟩

theorem hand_x (hI : Inv w0 M c hp) (hs : ∀ k ∈ sel, c.D k) {k : Nat} (hD : c.D k) (hk : memB k sel = false) (hn : (c.E k).nil = false) : (c.hand sel).X (c.E k).b := by
  obtain ⟨blk, _, r⟩ := hI.dom k hD
  refine ⟨r.lt hn, fun j hj hjn e => hI.inj j k (hs j hj) hD (fun e => ?_) hjn hn e⟩
  subst e
  rw [memB_iff.2 hj] at hk
  cases hk

mutual
theorem Cl.rel : ∀ (s1 : Sv) {s : Sv}, Cl hp sel s s1 → Inv w0 M c hp → (∀ k ∈ sel, c.D k) → ∀ {v : Value}, Rel s c v → Rel s1 (c.hand sel) v
  | .any, _, _, _, _, _, _ => by simp [Rel]
  | .val x, s, h, _, _, v, r => by
    simp only [Cl] at h
    subst h
    simpa [Rel] using r
  | .agg cs1, s, h, hI, hs, v, r => by
    simp only [Cl] at h
    split at h
    · simp only [Rel] at r ⊢
      obtain ⟨vs, e, hv⟩ := r
      exact ⟨vs, e, (ClL.rel cs1 h hI hs).1 vs hv⟩
    · exact h.elim
  | .tup _, _, h, _, _, _, _ => by simp only [Cl] at h
  | .ptr i r0 q, s, h, hI, hs, v, r => by
    simp only [Cl] at h
    split at h
    · obtain ⟨hk, rfl, rfl⟩ := h
      obtain ⟨hlt, hg⟩ := nth_getD hk
      simp only [Rel] at r ⊢
      rw [show (c.hand sel).E i = c.E (sel.getD i 0) from rfl, hg]
      exact ⟨hlt, r.2⟩
    · exact h.elim
  | .own i n, s, h, hI, hs, v, r => by
    simp only [Cl] at h
    split at h
    · obtain ⟨hk, rfl⟩ := h
      obtain ⟨hlt, hg⟩ := nth_getD hk
      simp only [Rel] at r ⊢
      rw [show (c.hand sel).E i = c.E (sel.getD i 0) from rfl, hg]
      exact ⟨hlt, r.2⟩
    · exact h.elim
  | .sls i lo n, s, h, hI, hs, v, r => by
    simp only [Cl] at h
    split at h
    · obtain ⟨hk, rfl, rfl⟩ := h
      obtain ⟨hlt, hg⟩ := nth_getD hk
      simp only [Rel] at r ⊢
      rw [show (c.hand sel).E i = c.E (sel.getD i 0) from rfl, hg]
      exact ⟨hlt, r.2⟩
    · exact h.elim
  | .ext fr1 wd1 rows1, s, h, hI, hs, v, r => by
    simp only [Cl] at h
    split at h
    · obtain ⟨hf, rfl, rfl⟩ := h
      simp only [Rel] at r ⊢
      obtain ⟨a, cap, e, hc, hr⟩ := r
      refine ⟨a, cap, e, hc, hr.imp id ?_⟩
      rintro ⟨b, off, ea, hx, hf', hr⟩
      have hl := hand_shut hI hs
      exact ⟨b, off, ea, hl.x b hx, fun e => hl.b b hx (hf' (hf e)), RelR.le _ (allR_true _) hl rfl hr⟩
    · rename_i k m
      obtain ⟨rfl, hk, b, hb, ⟨hm, rfl, hrr⟩ | ⟨hm, rfl, hcl, rfl⟩⟩ := h
      case inr =>
        simp only [Rel] at r ⊢
        obtain ⟨hD, hv⟩ := r
        obtain ⟨_, hbl⟩ := hI.block hD hb
        have hlen : (b.rows.take m).length = m := by rw [List.length_take]; omega
        rcases hv with ⟨hnil, rfl, h0⟩ | ⟨hnil, rfl, hc⟩
        · exact ⟨none, 0, by rw [hlen, h0], by rw [hlen, h0]; exact Nat.le_refl _, .inl (List.eq_nil_of_length_eq_zero (by omega))⟩
        · rcases hbl with ⟨_, h1⟩ | ⟨_, hlt, hr⟩
          · rw [hnil] at h1; cases h1
          · refine ⟨_, _, by rw [hlen], by rw [hlen]; exact hc, .inr ⟨_, _, rfl, hand_x hI hs hD hk hnil, by simp, ?_⟩⟩
            simp only [Blk.cx, hcl] at hr
            exact RelR.le _ (allR_true _) (hand_shut hI hs) rfl (RelR_take hr m)
      simp only [Rel] at r ⊢
      obtain ⟨hD, hv⟩ := r
      obtain ⟨_, hbl⟩ := hI.block hD hb
      have hlen : rows1.length = b.rows.length := by
        rcases hrr with ⟨_, rfl⟩ | ⟨h, _⟩
        · rfl
        · exact (ClR.rel rows1 h hI hs).1
      rcases hv with ⟨hnil, rfl, h0⟩ | ⟨hnil, rfl, hc⟩
      · exact ⟨none, 0, by rw [hlen, ← hm, h0], by rw [hlen, ← hm, h0]; exact Nat.le_refl _, .inl (List.eq_nil_of_length_eq_zero (by omega))⟩
      · rcases hbl with ⟨_, h1⟩ | ⟨_, hlt, hr⟩
        · rw [hnil] at h1; cases h1
        · refine ⟨_, _, by rw [hlen, ← hm], by rw [hlen, ← hm]; exact hc, .inr ⟨_, _, rfl, hand_x hI hs hD hk hnil, by simp, ?_⟩⟩
          rcases hrr with ⟨hcl, rfl⟩ | ⟨h, hall⟩
          · simp only [Blk.cx, hcl] at hr
            exact RelR.le _ (allR_true _) (hand_shut hI hs) rfl hr
          · have h2 := (ClR.rel rows1 h hI hs).2 b.wd (c.E k).b 0 (RelR.le _ (allR_true _) (b.cx_le c) (by rw [b.cx_w c]) hr)
            exact RelR.le _ hall (c.hand sel).le_shut rfl h2
    · rename_i k lo m
      obtain ⟨rfl, hk, b, hb, hm, rfl, hrr⟩ := h
      have hlen' : ((b.rows.drop lo).take m).length = m := by rw [List.length_take, List.length_drop]; omega
      have hlen : rows1.length = m := by
        rcases hrr with ⟨_, rfl⟩ | ⟨h, _⟩
        · exact hlen'
        · exact ((ClR.rel rows1 h hI hs).1).trans hlen'
      simp only [Rel] at r ⊢
      obtain ⟨hD, a, cap, rfl, hc, hA⟩ := r
      obtain ⟨hwd, hbl⟩ := hI.block hD hb
      refine ⟨a, cap, by rw [hlen], by rw [hlen]; exact hc, ?_⟩
      rcases hA with rfl | ⟨hnil, rfl⟩
      · exact .inl (List.eq_nil_of_length_eq_zero hlen)
      · rcases hbl with ⟨_, h1⟩ | ⟨_, hlt, hr⟩
        · rw [hnil] at h1; cases h1
        · have hr' := RelR_take (RelR_drop hr lo) m
          rw [Nat.zero_add] at hr'
          refine .inr ⟨_, _, rfl, hand_x hI hs hD hk hnil, by simp, ?_⟩
          rw [hwd]
          rcases hrr with ⟨hcl, rfl⟩ | ⟨h, hall⟩
          · simp only [Blk.cx, hcl] at hr'
            exact RelR.le _ (allR_true _) (hand_shut hI hs) rfl hr'
          · have h2 := (ClR.rel rows1 h hI hs).2 b.wd (c.E k).b _ (RelR.le _ (allR_true _) (b.cx_le c) (by rw [b.cx_w c]) hr')
            exact RelR.le _ hall (c.hand sel).le_shut rfl h2
    · subst h
      simp only [Rel] at r ⊢
      exact ⟨none, 0, r, Nat.le_refl _, by simp⟩
    · exact h.elim
  | .ref fr1 cs1, s, h, hI, hs, v, r => by
    simp only [Cl] at h
    split at h
    · obtain ⟨hf, rfl⟩ := h
      simp only [Rel] at r ⊢
      obtain ⟨b, off, e, hx, hg, hr⟩ := r
      have hl := hand_shut hI hs
      exact ⟨b, off, e, hl.x b hx, fun e => hl.b b hx (hg (hf e)), RelC.le _ (allL_true _) hl rfl hr⟩
    · rename_i k r0 q
      obtain ⟨rfl, hk, b, row, hb, hrow, hrr⟩ := h
      simp only [Rel] at r ⊢
      obtain ⟨hD, hnil, rfl⟩ := r
      obtain ⟨hwd, hbl⟩ := hI.block hD hb
      rw [nth_eq] at hrow
      rcases hbl with ⟨_, h1⟩ | ⟨_, hlt, hrb⟩
      · rw [hnil] at h1; cases h1
      · refine ⟨_, _, rfl, hand_x hI hs hD hk hnil, by simp, ?_⟩
        have hr' := RelC_drop q _ (RelR_get _ hrb r0 row hrow).2
        rw [Nat.zero_add] at hr'
        rw [hwd]
        rcases hrr with ⟨hcl, rfl⟩ | ⟨h, hall⟩
        · simp only [Blk.cx, hcl] at hr'
          exact RelC.le _ (allL_true _) (hand_shut hI hs) rfl hr'
        · have h2 := (ClL.rel cs1 h hI hs).2.2.1 (c.E k).b _ (RelC.le _ (allL_true _) (b.cx_le c) (by rw [b.cx_w c]) hr')
          exact RelC.le _ hall (c.hand sel).le_shut rfl h2
    · exact h.elim
  | .clo f cs1, s, h, hI, hs, v, r => by
    simp only [Cl] at h
    split at h
    · obtain ⟨rfl, h⟩ := h
      simp only [Rel] at r ⊢
      obtain ⟨vs, e, hv⟩ := r
      exact ⟨vs, e, (ClL.rel cs1 h hI hs).2.1 vs hv⟩
    · exact h.elim
theorem ClL.rel : ∀ (ss1 : List Sv) {ss : List Sv}, ClL hp sel ss ss1 → Inv w0 M c hp → (∀ k ∈ sel, c.D k) →
    (∀ vs, RelL ss c vs → RelL ss1 (c.hand sel) vs) ∧ (∀ vs, RelT ss c vs → RelT ss1 (c.hand sel) vs) ∧ (∀ b off, RelC ss c b off → RelC ss1 (c.hand sel) b off) ∧ ss1.length = ss.length
  | [], ss, h, _, _ => by
    simp only [ClL] at h
    subst h
    exact ⟨fun vs r => by simpa [RelL] using r, fun vs r => by simpa [RelT] using r, fun b off _ => by simp [RelC], rfl⟩
  | s1 :: ss1, ss, h, hI, hs => by
    simp only [ClL] at h
    split at h
    · obtain ⟨h1, h2⟩ := h
      have i1 := @Cl.rel s1 _ h1 hI hs
      obtain ⟨a, b, d, e⟩ := ClL.rel ss1 h2 hI hs
      refine ⟨fun vs r => ?_, fun vs r => ?_, fun bb off r => ?_, by simp [e]⟩
      · simp only [RelL] at r ⊢
        obtain ⟨u, us, eq, h1, h2, h3⟩ := r
        exact ⟨u, us, eq, h1, i1 h2, a us h3⟩
      · simp only [RelT] at r ⊢
        obtain ⟨u, us, eq, h2, h3⟩ := r
        exact ⟨u, us, eq, i1 h2, b us h3⟩
      · simp only [RelC] at r ⊢
        obtain ⟨⟨u, eq, h1, h2⟩, h3⟩ := r
        exact ⟨⟨u, eq, h1, i1 h2⟩, d bb _ h3⟩
    · exact h.elim
theorem ClR.rel : ∀ (rs1 : List (List Sv)) {rs : List (List Sv)}, ClR hp sel rs rs1 → Inv w0 M c hp → (∀ k ∈ sel, c.D k) →
    rs1.length = rs.length ∧ ∀ wd b off, RelR rs c wd b off → RelR rs1 (c.hand sel) wd b off
  | [], rs, h, _, _ => by
    simp only [ClR] at h
    subst h
    exact ⟨rfl, fun _ _ _ _ => by simp [RelR]⟩
  | r1 :: rs1, rs, h, hI, hs => by
    simp only [ClR] at h
    split at h
    · obtain ⟨h1, h2⟩ := h
      obtain ⟨_, _, d, e⟩ := ClL.rel r1 h1 hI hs
      obtain ⟨a, b⟩ := ClR.rel rs1 h2 hI hs
      refine ⟨by simp [a], fun wd bb off q => ?_⟩
      simp only [RelR] at q ⊢
      exact ⟨by rw [e]; exact q.1, d bb off q.2.1, b wd bb _ q.2.2⟩
    · exact h.elim
end

/-- A block that is handed over. -/
def ClB (hp : Hp) (sel : List Nat) (b b1 : Blk) : Prop :=
  b1.elem = b.elem ∧ b1.wd = b.wd ∧ b1.grow = b.grow ∧ (b.clean = true ∧ b1.clean = true ∧ b.rows = b1.rows ∨ ClR hp sel b.rows b1.rows ∧ (b1.clean = false ∨ b1.rows.all (Sv.all.allL fun _ => false) = true))
def selIn (hp : Hp) (sel : List Nat) : List Nat → List Blk → Prop
  | [], bs => bs = []
  | k :: ks, bs => match bs with
    | b1 :: bs => (∃ b, hpGet hp k = some b ∧ b.ng ∧ ClB hp sel b b1) ∧ selIn hp sel ks bs
    | [] => False

theorem selIn_get : ∀ {ks : List Nat} {bs : List Blk}, selIn hp sel ks bs → bs.length = ks.length ∧ (∀ k ∈ ks, ∃ b, hpGet hp k = some b) ∧ ∀ (i k : Nat) (b1 : Blk), ks[i]? = some k → bs[i]? = some b1 → ∃ b, hpGet hp k = some b ∧ b.ng ∧ ClB hp sel b b1
  | [], bs, h => by simp only [selIn] at h; subst h; simp
  | k :: ks, bs, h => by
    simp only [selIn] at h
    split at h
    · obtain ⟨⟨b, hb, hc⟩, h⟩ := h
      obtain ⟨h1, h2, h3⟩ := selIn_get h
      refine ⟨by simp [h1], ?_, ?_⟩
      · intro j hj
        rcases List.mem_cons.1 hj with rfl | hj
        · exact ⟨b, hb⟩
        · exact h2 j hj
      · intro i j b1 hi hb1
        cases i with
        | zero => simp at hi hb1; subst hi hb1; exact ⟨b, hb, hc⟩
        | succ i => exact h3 i j b1 (by simpa using hi) (by simpa using hb1)
    · exact h.elim

theorem hand_blk (hI : Inv w0 M c hp) (hs : ∀ k ∈ sel, c.D k) {i k : Nat} {b b1 : Blk} (hk : sel[i]? = some k) (hb : hpGet hp k = some b) (hng : b.ng) (hc : ClB hp sel b b1) : BlkRel (c.hand sel) i b1 := by
  have hE : (c.hand sel).E i = c.E k := by
    show c.E (sel.getD i 0) = _
    simp [List.getD_eq_getElem?_getD, hk]
  obtain ⟨b', hb', r⟩ := hI.dom k (hs k (List.mem_of_getElem? hk))
  rw [hpGet_eq] at hb
  rw [hb] at hb'
  cases hb'
  obtain ⟨h1, h2, h3, h4⟩ := hc
  have hlen : b1.rows.length = b.rows.length := by
    rcases h4 with ⟨_, _, h⟩ | ⟨h, _⟩
    · rw [h]
    · exact (ClR.rel b1.rows h hI hs).1
  unfold BlkRel at *
  rw [hE, h2, h3]
  refine ⟨r.1, fun hn => ?_, fun hn => ?_⟩
  · rcases r.2.1 hn with ⟨g1, g2⟩ | g
    · exact .inl ⟨g1, List.eq_nil_of_length_eq_zero (by rw [hlen, g2]; rfl)⟩
    · exact absurd g (Blk.ng_not hng)
  obtain ⟨arr, hh, hr, hl, hg⟩ := r.2.2 hn
  refine ⟨arr, by rw [h1]; exact hh, ?_, by rw [hlen]; exact hl, by rw [hlen]; exact hg⟩
  rcases h4 with ⟨hc, hc1, h⟩ | ⟨h, hq⟩
  · unfold Blk.cx at *
    rw [hc] at hr
    rw [hc1, ← h]
    exact RelR.le _ (allR_true _) (hand_shut hI hs) rfl hr
  · have h5 := (ClR.rel b1.rows h hI hs).2 b.wd (c.E k).b 0 (RelR.le _ (allR_true _) (b.cx_le c) (by rw [b.cx_w c]) hr)
    unfold Blk.cx
    cases hc1 : b1.clean with
    | false => exact h5
    | true =>
      rcases hq with hq | hq
      · rw [hc1] at hq; cases hq
      · exact RelR.le _ hq (c.hand sel).le_shut rfl h5

theorem hand_invD {hpin : List Blk} (hI : Inv w0 M c hp) (hs : ∀ k ∈ sel, c.D k) (hnd : sel.Nodup) (hin : selIn hp sel sel hpin) :
    (∀ k ∈ sel, c.D k) ∧ Inv c.w (handM c sel) (c.hand sel) (hpin.map some) ∧ hpin.length = sel.length := by
  obtain ⟨hlen, hall, hget⟩ := selIn_get hin
  have hEi : ∀ i (hi : i < sel.length), (c.hand sel).E i = c.E sel[i] := fun i hi => by
    show c.E (sel.getD i 0) = _
    simp [List.getD_eq_getElem?_getD, hi]
  refine ⟨hs, ?_, hlen⟩
  refine { dom := ?_, inj := ?_, xsep := ?_, xlt := fun b h => h.1, xY := fun _ _ h => h, bnd := rfl, bndG := ⟨fun b h => .inr (h.imp id id), fun _ h => h.elim, fun _ _ _ _ _ _ h => h.elim⟩, e0 := fun _ _ _ => rfl, mlen := by simp [handM, hlen], os := rfl, tape := rfl, output := rfl, size := Nat.le_refl _, keep := fun _ _ _ _ => rfl, loc := ?_, x0 := fun b h => .inr (.inr h), ca := fun _ h => h.elim, cc := fun _ h => h.elim, zc := fun _ h => h.elim, z0 := fun _ h => h.elim, xk := fun _ h => h.elim, gh := ?_ }
  · intro i hi
    have hi' : i < sel.length := hi
    have hb1 : hpin[i]? = some hpin[i] := List.getElem?_eq_getElem (by omega)
    obtain ⟨b, hb, hng, hc⟩ := hget i sel[i] hpin[i] (List.getElem?_eq_getElem hi') hb1
    exact ⟨hpin[i], by rw [List.getElem?_map, hb1]; rfl, hand_blk hI hs (List.getElem?_eq_getElem hi') hb hng hc⟩
  · intro i j hi hj hne h1 h2
    rw [hEi i hi] at h1 ⊢
    rw [hEi j hj] at h2 ⊢
    refine hI.inj _ _ (hs _ (List.getElem_mem _)) (hs _ (List.getElem_mem _)) (fun e => hne ?_) h1 h2
    exact nodup_at hnd (List.getElem?_eq_getElem hi) (by rw [List.getElem?_eq_getElem hj, e])
  · intro i b hi h1 hx
    rw [hEi i hi] at h1 ⊢
    exact hx.2 _ (List.getElem_mem _) h1
  · intro i hi h1
    rw [hEi i hi] at h1 ⊢
    exact .inl ⟨_, List.getElem_mem _, h1, rfl⟩
  · intro i b1 hi hb1 h1 h2
    have hi' : i < sel.length := hi
    rw [List.getElem?_map] at hb1
    have hb1 : hpin[i]? = some b1 := by
      cases hq : hpin[i]? with
      | none => rw [hq] at hb1; cases hb1
      | some q => rw [hq] at hb1; simpa using hb1
    obtain ⟨b, hb, hng, hc⟩ := hget i sel[i] b1 (List.getElem?_eq_getElem hi') hb1
    obtain ⟨b', hb', r⟩ := hI.dom _ (hs _ (List.getElem_mem hi'))
    rw [hpGet_eq.1 hb] at hb'
    cases hb'
    rw [hEi i hi'] at h1
    rw [hc.2.2.1] at h2
    rcases r.2.1 h1 with ⟨g1, _⟩ | g
    · rw [g1] at h2; cases h2
    · exact absurd g (Blk.ng_not hng)
theorem hand_inv {hpin : List Blk} (hI : Inv w0 M c hp) (hf : ∀ (k : Nat) (b : Blk), hp[k]? = some (some b) → c.D k) (hnd : sel.Nodup) (hin : selIn hp sel sel hpin) :
    (∀ k ∈ sel, c.D k) ∧ Inv c.w (handM c sel) (c.hand sel) (hpin.map some) ∧ hpin.length = sel.length := by
  refine hand_invD hI (fun k hk => ?_) hnd hin
  obtain ⟨b, hb⟩ := (selIn_get hin).2.1 k hk
  rw [hpGet_eq] at hb
  exact hf k b hb
end
end Go.Eng
