/- The engine, third part. -/
import Derived.Test.YtiklbnianbejdaaEng2
import Derived.Laws.StructEq
import Derived.ChangeKeysEq
import Derived.RangeFuncSeq
import Derived.Laws.MakeOwn
set_option linter.unusedSimpArgs false
set_option maxRecDepth 20000
set_option linter.unusedVariables false
/- The engine, part H: contracts, and calls by them. -/
namespace Go.Eng
open Go Go.RowKit

/-! ### Numbers, moved -/
def idx (k : Nat) : List Nat → Nat
  | [] => 0
  | j :: js => match Nat.beq k j with | true => 0 | false => idx k js + 1

theorem idx_lt : ∀ {k : Nat} {sel : List Nat}, memB k sel = true → idx k sel < sel.length ∧ sel[idx k sel]? = some k
  | k, [], h => by simp [memB] at h
  | k, j :: js, h => by
    simp only [memB, Bool.or_eq_true] at h
    unfold idx
    cases hb : Nat.beq k j with
    | true =>
      have := Nat.eq_of_beq_eq_true hb
      subst this
      exact ⟨by simp, by simp⟩
    | false =>
      have hne : k ≠ j := fun e => by rw [e, Nat.beq_refl] at hb; cases hb
      have := idx_lt (h.resolve_left (by simpa using hne))
      exact ⟨by simp [this.1], by simpa using this.2⟩

theorem memB_iff {k : Nat} : ∀ {l : List Nat}, memB k l = true ↔ k ∈ l
  | [] => by simp [memB]
  | j :: js => by simp [memB, memB_iff (l := js)]

theorem nodup_at {α : Type} : ∀ {l : List α}, l.Nodup → ∀ {i j : Nat} {k : α}, l[i]? = some k → l[j]? = some k → i = j
  | [], _, i, j, k, h, _ => by simp at h
  | x :: l, hn, i, j, k, h1, h2 => by
    have hn' := List.nodup_cons.1 hn
    cases i with
    | zero => cases j with
      | zero => rfl
      | succ j => simp at h1 h2; subst h1; exact absurd (List.mem_of_getElem? h2) hn'.1
    | succ i => cases j with
      | zero => simp at h1 h2; subst h2; exact absurd (List.mem_of_getElem? h1) hn'.1
      | succ j => simp at h1 h2; rw [nodup_at hn'.2 h1 h2]
/-- In a list without repeats each stands where it stands. -/
theorem idx_at {k i : Nat} {sel : List Nat} (hn : sel.Nodup) (h : sel[i]? = some k) : idx k sel = i := by
  have hm : memB k sel = true := memB_iff.2 (List.mem_of_getElem? h)
  have h1 := idx_lt hm
  exact nodup_at hn h1.2 h

def Sv.mv (ρ : Nat → Nat) : Sv → Sv
  | .agg cs => .agg (go ρ cs)
  | .tup cs => .tup (go ρ cs)
  | .clo f cs => .clo f (go ρ cs)
  | .ptr k r q => .ptr (ρ k) r q
  | .own k m => .own (ρ k) m
  | .sls k l m => .sls (ρ k) l m
  | s => s
where go (ρ : Nat → Nat) : List Sv → List Sv
  | [] => []
  | s :: ss => s.mv ρ :: go ρ ss

def Blk.mv (ρ : Nat → Nat) (b : Blk) : Blk :=
  match b with
  | ⟨e, wd, true, gr, rows⟩ => ⟨e, wd, true, gr, rows⟩
  | ⟨e, wd, false, gr, rows⟩ => ⟨e, wd, false, gr, rows.map (Sv.mv.go ρ)⟩
theorem Blk.mv_def (ρ : Nat → Nat) (b : Blk) : b.mv ρ = match b.clean with
    | true => b
    | false => { b with rows := b.rows.map (Sv.mv.go ρ) } := by
  obtain ⟨e, wd, cl, gr, rows⟩ := b
  cases cl <;> rfl

/-- The same, its blocks under other numbers. -/
structure Mv (p : Nat → Bool) (ρ : Nat → Nat) (c c' : Cx) : Prop where
  ed : ∀ k, p k = true → c.D k → c'.D (ρ k) ∧ c'.E (ρ k) = c.E k
  x : ∀ b, c.X b → c'.X b
  g : ∀ b, c.X b → c.G b → c'.G b
  w : c'.w = c.w

theorem Mv.shut {p : Nat → Bool} {ρ : Nat → Nat} {c c' : Cx} (h : Mv p ρ c c') : c.shut.Le (fun _ => true) c'.shut := ⟨fun _ _ h => h.elim, h.x, h.g, fun _ _ => by rw [show c'.shut.w = c.shut.w from h.w]⟩

mutual
theorem Rel.mv {p : Nat → Bool} {ρ : Nat → Nat} : ∀ (s : Sv) {c c' : Cx} {v : Value}, s.all p = true → Mv p ρ c c' → Rel s c v → Rel (s.mv ρ) c' v
  | .val x, _, _, _, _, _, r => by simpa [Rel, Sv.mv] using r
  | .any, _, _, _, _, _, _ => by simp [Rel, Sv.mv]
  | .agg cs, _, _, _, ha, h, r => by
    simp only [Rel, Sv.mv] at r ⊢
    obtain ⟨vs, e, hl⟩ := r
    exact ⟨vs, e, RelL.mv cs (by simpa [Sv.all] using ha) h hl⟩
  | .tup cs, _, _, _, ha, h, r => by
    simp only [Rel, Sv.mv] at r ⊢
    obtain ⟨vs, e, hl⟩ := r
    exact ⟨vs, e, RelT.mv cs (by simpa [Sv.all] using ha) h hl⟩
  | .ptr k row col, _, _, _, ha, h, r => by
    simp only [Rel, Sv.mv] at r ⊢
    have hp : p k = true := by simpa [Sv.all] using ha
    rw [(h.ed k hp r.1).2]
    exact ⟨(h.ed k hp r.1).1, r.2⟩
  | .own k n, _, _, _, ha, h, r => by
    simp only [Rel, Sv.mv] at r ⊢
    have hp : p k = true := by simpa [Sv.all] using ha
    rw [(h.ed k hp r.1).2]
    exact ⟨(h.ed k hp r.1).1, r.2⟩
  | .sls k lo n, _, _, _, ha, h, r => by
    simp only [Rel, Sv.mv] at r ⊢
    have hp : p k = true := by simpa [Sv.all] using ha
    rw [(h.ed k hp r.1).2]
    exact ⟨(h.ed k hp r.1).1, r.2⟩
  | .ext fr wd rows, c, _, _, _, h, r => by
    simp only [Rel, Sv.mv] at r ⊢
    obtain ⟨a, cap, e, hc, hr⟩ := r
    refine ⟨a, cap, e, hc, hr.imp id ?_⟩
    rintro ⟨b, off, ea, hx, hf, hr⟩
    exact ⟨b, off, ea, h.x b hx, fun e => h.g b hx (hf e), RelR.le rows (allR_true rows) h.shut (by rw [show c.shut.w = c.w from rfl, ← h.w]; rfl) hr⟩
  | .ref fr cs, c, _, _, _, h, r => by
    simp only [Rel, Sv.mv] at r ⊢
    obtain ⟨b, off, e, hx, hf, hr⟩ := r
    exact ⟨b, off, e, h.x b hx, fun e => h.g b hx (hf e), RelC.le cs (allL_true cs) h.shut (by rw [show c.shut.w = c.w from rfl, ← h.w]; rfl) hr⟩
  | .clo f cs, _, _, _, ha, h, r => by
    simp only [Rel, Sv.mv] at r ⊢
    obtain ⟨vs, e, hl⟩ := r
    exact ⟨vs, e, RelT.mv cs (by simpa [Sv.all] using ha) h hl⟩
theorem RelL.mv {p : Nat → Bool} {ρ : Nat → Nat} : ∀ (ss : List Sv) {c c' : Cx} {vs : List Value}, Sv.all.allL p ss = true → Mv p ρ c c' → RelL ss c vs → RelL (Sv.mv.go ρ ss) c' vs
  | [], _, _, _, _, _, r => by simpa [RelL, Sv.mv.go] using r
  | s :: ss, _, _, _, ha, h, r => by
    simp only [RelL, Sv.mv.go] at r ⊢
    simp only [Sv.all.allL, Bool.and_eq_true] at ha
    obtain ⟨u, us, e, h1, hs, hl⟩ := r
    exact ⟨u, us, e, h1, Rel.mv s ha.1 h hs, RelL.mv ss ha.2 h hl⟩
theorem RelT.mv {p : Nat → Bool} {ρ : Nat → Nat} : ∀ (ss : List Sv) {c c' : Cx} {vs : List Value}, Sv.all.allL p ss = true → Mv p ρ c c' → RelT ss c vs → RelT (Sv.mv.go ρ ss) c' vs
  | [], _, _, _, _, _, r => by simpa [RelT, Sv.mv.go] using r
  | s :: ss, _, _, _, ha, h, r => by
    simp only [RelT, Sv.mv.go] at r ⊢
    simp only [Sv.all.allL, Bool.and_eq_true] at ha
    obtain ⟨u, us, e, hs, hl⟩ := r
    exact ⟨u, us, e, Rel.mv s ha.1 h hs, RelT.mv ss ha.2 h hl⟩
end
theorem RelC.mv {p : Nat → Bool} {ρ : Nat → Nat} : ∀ (ss : List Sv) {c c' : Cx} {b off : Nat}, Sv.all.allL p ss = true → Mv p ρ c c' → RelC ss c b off → RelC (Sv.mv.go ρ ss) c' b off
  | [], _, _, _, _, _, _, _ => by simp [RelC, Sv.mv.go]
  | s :: ss, _, _, b, off, ha, h, r => by
    simp only [RelC, Sv.mv.go] at r ⊢
    simp only [Sv.all.allL, Bool.and_eq_true] at ha
    obtain ⟨⟨u, e, h1, hs⟩, hl⟩ := r
    exact ⟨⟨u, by rw [h.w]; exact e, h1, Rel.mv s ha.1 h hs⟩, RelC.mv ss ha.2 h hl⟩
theorem mvGo_length (ρ : Nat → Nat) : ∀ cs : List Sv, (Sv.mv.go ρ cs).length = cs.length
  | [] => rfl
  | _ :: cs => by simp [Sv.mv.go, mvGo_length ρ cs]
theorem RelR.mv {p : Nat → Bool} {ρ : Nat → Nat} : ∀ (rs : List (List Sv)) {c c' : Cx} {wd b off : Nat}, rs.all (Sv.all.allL p) = true → Mv p ρ c c' → RelR rs c wd b off → RelR (rs.map (Sv.mv.go ρ)) c' wd b off
  | [], _, _, _, _, _, _, _, _ => by simp [RelR]
  | r :: rs, _, _, wd, b, off, ha, h, q => by
    simp only [RelR, List.map_cons] at q ⊢
    simp only [List.all_cons, Bool.and_eq_true] at ha
    exact ⟨by rw [mvGo_length]; exact q.1, RelC.mv r ha.1 h q.2.1, RelR.mv rs ha.2 h q.2.2⟩
theorem BlkRel.mv {p : Nat → Bool} {ρ : Nat → Nat} {c c' : Cx} {k : Nat} {b : Blk} (h : Mv p ρ c c') (hE : c'.E (ρ k) = c.E k) (ha : b.clean = false → b.rows.all (Sv.all.allL p) = true) (r : BlkRel c k b) : BlkRel c' (ρ k) (b.mv ρ) := by
  unfold BlkRel at *
  rw [hE, Blk.mv_def]
  cases hc : b.clean with
  | true =>
    refine ⟨r.1, fun hn => (r.2.1 hn).imp id (fun h => ⟨h.1, hc, h.2.2⟩), fun hn => ?_⟩
    obtain ⟨arr, hh, hr, hl, hg⟩ := r.2.2 hn
    refine ⟨arr, by rw [h.w]; exact hh, ?_, hl, hg⟩
    simp only [Blk.cx, hc] at hr ⊢
    exact RelR.le _ (allR_true _) h.shut (by rw [show c.shut.w = c.w from rfl, ← h.w]; rfl) hr
  | false =>
    simp only
    refine ⟨r.1, fun hn => ?_, fun hn => ?_⟩
    · rcases r.2.1 hn with ⟨h1, h2⟩ | ⟨_, h2, _⟩
      · exact .inl ⟨h1, by simp [h2]⟩
      · rw [hc] at h2; cases h2
    obtain ⟨arr, hh, hr, hl, hg⟩ := r.2.2 hn
    refine ⟨arr, by rw [h.w]; exact hh, ?_, by simpa using hl, by simpa using hg⟩
    simp only [Blk.cx, hc] at hr ⊢
    exact RelR.mv _ (ha hc) h hr

/-! ### What is handed over -/
mutual
/-- The value s, seen by whom it is handed to as s1: blocks of sel under their places in sel; what lies in other blocks by content. -/
def Cl (hp : Hp) (sel : List Nat) (s : Sv) : Sv → Prop
  | .any => True
  | .val x => s = .val x
  | .agg cs1 => match s with
    | .agg cs => ClL hp sel cs cs1
    | _ => False
  | .tup _ => False
  | .ptr i r q => match s with
    | .ptr k r' q' => nth sel i = some k ∧ r' = r ∧ q' = q
    | _ => False
  | .own i n => match s with
    | .own k n' => nth sel i = some k ∧ n' = n
    | _ => False
  | .sls i lo n => match s with
    | .sls k lo' n' => nth sel i = some k ∧ lo' = lo ∧ n' = n
    | _ => False
  | .ext fr1 wd1 rows1 => match s with
    | .ext fr wd rows => (fr1 = true → fr = true) ∧ wd = wd1 ∧ rows = rows1
    | .own k m => fr1 = false ∧ memB k sel = false ∧ ∃ b, hpGet hp k = some b ∧ (m = b.rows.length ∧ b.wd = wd1 ∧ (b.clean = true ∧ b.rows = rows1 ∨ ClR hp sel b.rows rows1 ∧ rows1.all (Sv.all.allL fun _ => false) = true) ∨ m ≤ b.rows.length ∧ b.wd = wd1 ∧ b.clean = true ∧ b.rows.take m = rows1)
    | .sls k lo m => fr1 = false ∧ memB k sel = false ∧ ∃ b, hpGet hp k = some b ∧ lo + m ≤ b.rows.length ∧ b.wd = wd1 ∧ (b.clean = true ∧ (b.rows.drop lo).take m = rows1 ∨ ClR hp sel ((b.rows.drop lo).take m) rows1 ∧ rows1.all (Sv.all.allL fun _ => false) = true)
    | .val (.slice none 0 0) => rows1 = []
    | _ => False
  | .ref fr1 cs1 => match s with
    | .ref fr cs => (fr1 = true → fr = true) ∧ cs = cs1
    | .ptr k r q => fr1 = false ∧ memB k sel = false ∧ ∃ b row, hpGet hp k = some b ∧ nth b.rows r = some row ∧ (b.clean = true ∧ row.drop q = cs1 ∨ ClL hp sel (row.drop q) cs1 ∧ Sv.all.allL (fun _ => false) cs1 = true)
    | _ => False
  | .clo f cs1 => match s with
    | .clo g cs => g = f ∧ ClL hp sel cs cs1
    | _ => False
def ClL (hp : Hp) (sel : List Nat) (ss : List Sv) : List Sv → Prop
  | [] => ss = []
  | s1 :: ss1 => match ss with
    | s :: ss => Cl hp sel s s1 ∧ ClL hp sel ss ss1
    | [] => False
def ClR (hp : Hp) (sel : List Nat) (rs : List (List Sv)) : List (List Sv) → Prop
  | [] => rs = []
  | r1 :: rs1 => match rs with
    | r :: rs => ClL hp sel r r1 ∧ ClR hp sel rs rs1
    | [] => False
end

/-- The context of a call. -/
def Cx.hand (c : Cx) (sel : List Nat) : Cx :=
  { E := fun i => c.E (sel.getD i 0), D := fun i => i < sel.length, X := fun b => b < c.w.heap.size ∧ ∀ k ∈ sel, (c.E k).nil = false → (c.E k).b ≠ b, G := fun b => (c.G b ∧ c.X b) ∨ c.w.heap.size ≤ b ∨ ∃ k ∈ sel, (c.E k).nil = false ∧ (c.E k).b = b, w := c.w }
def handM (c : Cx) (sel : List Nat) : Frm := { M := fun b => ∃ k ∈ sel, (c.E k).nil = false ∧ (c.E k).b = b, G := (c.hand sel).G, Y := fun _ => False, m := sel.length, E0 := (c.hand sel).E, X0 := (c.hand sel).X }

/-- What lies behind a known local block, as content. -/
theorem Inv.block {w0 : World} {M : Frm} {c : Cx} {hp : Hp} (hI : Inv w0 M c hp) {k : Nat} {b : Blk} (hD : c.D k) (hb : hpGet hp k = some b) :
    (c.E k).wd = b.wd ∧ (True ∧ (c.E k).nil = true ∨ (c.E k).nil = false ∧ (c.E k).b < c.w.heap.size ∧ RelR b.rows (b.cx c) b.wd (c.E k).b 0) := by
  obtain ⟨b', hb', hwd, hrel⟩ := hI.dom k hD
  rw [hpGet_eq] at hb
  rw [hb] at hb'
  cases hb'
  refine ⟨hwd, ?_⟩
  cases hn : (c.E k).nil with
  | true => exact .inl ⟨trivial, rfl⟩
  | false =>
    obtain ⟨arr, hh, hr, _⟩ := hrel.2 hn
    exact .inr ⟨rfl, (Array.getElem?_eq_some_iff.1 hh).1, hr⟩


theorem nth_getD {sel : List Nat} {i k : Nat} (h : nth sel i = some k) : i < sel.length ∧ sel.getD i 0 = k := by
  rw [nth_eq] at h
  exact ⟨(List.getElem?_eq_some_iff.1 h).1, by simp [List.getD_eq_getElem?_getD, h]⟩

section
variable {hp : Hp} {sel : List Nat} {w0 : World} {M : Frm} {c : Cx}

theorem hand_shut (hI : Inv w0 M c hp) (hs : ∀ k ∈ sel, c.D k) : c.shut.Le (fun _ => true) (c.hand sel).shut :=
  ⟨fun _ _ h => h.elim, fun b hb => ⟨hI.xlt b hb, fun k hk hn => hI.xsep k b (hs k hk) hn hb⟩, fun b hb hg => .inl ⟨hg, hb⟩, fun _ _ => rfl⟩

theorem hand_x (hI : Inv w0 M c hp) (hs : ∀ k ∈ sel, c.D k) {k : Nat} (hD : c.D k) (hk : memB k sel = false) (hn : (c.E k).nil = false) : (c.hand sel).X (c.E k).b := by
  obtain ⟨blk, _, r⟩ := hI.dom k hD
  refine ⟨r.lt hn, fun j hj hjn e => hI.inj j k (hs j hj) hD (fun e => ?_) hjn hn e⟩
  subst e
  rw [memB_iff.2 hj] at hk
  cases hk

mutual
theorem Cl.rel : ∀ (s1 : Sv) {s : Sv}, Cl hp sel s s1 → Inv w0 M c hp → (∀ k ∈ sel, c.D k) → ∀ {v : Value}, Rel s c v → Rel s1 (c.hand sel) v
  | .any, _, _, _, _, _, _ => by simp [Rel]
  | .val x, s, h, _, _, v, r => by
    simp only [Cl] at h
    subst h
    simpa [Rel] using r
  | .agg cs1, s, h, hI, hs, v, r => by
    simp only [Cl] at h
    split at h
    · simp only [Rel] at r ⊢
      obtain ⟨vs, e, hv⟩ := r
      exact ⟨vs, e, (ClL.rel cs1 h hI hs).1 vs hv⟩
    · exact h.elim
  | .tup _, _, h, _, _, _, _ => by simp only [Cl] at h
  | .ptr i r0 q, s, h, hI, hs, v, r => by
    simp only [Cl] at h
    split at h
    · obtain ⟨hk, rfl, rfl⟩ := h
      obtain ⟨hlt, hg⟩ := nth_getD hk
      simp only [Rel] at r ⊢
      rw [show (c.hand sel).E i = c.E (sel.getD i 0) from rfl, hg]
      exact ⟨hlt, r.2⟩
    · exact h.elim
  | .own i n, s, h, hI, hs, v, r => by
    simp only [Cl] at h
    split at h
    · obtain ⟨hk, rfl⟩ := h
      obtain ⟨hlt, hg⟩ := nth_getD hk
      simp only [Rel] at r ⊢
      rw [show (c.hand sel).E i = c.E (sel.getD i 0) from rfl, hg]
      exact ⟨hlt, r.2⟩
    · exact h.elim
  | .sls i lo n, s, h, hI, hs, v, r => by
    simp only [Cl] at h
    split at h
    · obtain ⟨hk, rfl, rfl⟩ := h
      obtain ⟨hlt, hg⟩ := nth_getD hk
      simp only [Rel] at r ⊢
      rw [show (c.hand sel).E i = c.E (sel.getD i 0) from rfl, hg]
      exact ⟨hlt, r.2⟩
    · exact h.elim
  | .ext fr1 wd1 rows1, s, h, hI, hs, v, r => by
    simp only [Cl] at h
    split at h
    · obtain ⟨hf, rfl, rfl⟩ := h
      simp only [Rel] at r ⊢
      obtain ⟨a, cap, e, hc, hr⟩ := r
      refine ⟨a, cap, e, hc, hr.imp id ?_⟩
      rintro ⟨b, off, ea, hx, hf', hr⟩
      have hl := hand_shut hI hs
      exact ⟨b, off, ea, hl.x b hx, fun e => hl.b b hx (hf' (hf e)), RelR.le _ (allR_true _) hl rfl hr⟩
    · rename_i k m
      obtain ⟨rfl, hk, b, hb, ⟨hm, rfl, hrr⟩ | ⟨hm, rfl, hcl, rfl⟩⟩ := h
      case inr =>
        simp only [Rel] at r ⊢
        obtain ⟨hD, hv⟩ := r
        obtain ⟨_, hbl⟩ := hI.block hD hb
        have hlen : (b.rows.take m).length = m := by rw [List.length_take]; omega
        rcases hv with ⟨hnil, rfl, h0⟩ | ⟨hnil, rfl, hc⟩
        · exact ⟨none, 0, by rw [hlen, h0], by rw [hlen, h0]; exact Nat.le_refl _, .inl (List.eq_nil_of_length_eq_zero (by omega))⟩
        · rcases hbl with ⟨_, h1⟩ | ⟨_, hlt, hr⟩
          · rw [hnil] at h1; cases h1
          · refine ⟨_, _, by rw [hlen], by rw [hlen]; exact hc, .inr ⟨_, _, rfl, hand_x hI hs hD hk hnil, by simp, ?_⟩⟩
            simp only [Blk.cx, hcl] at hr
            exact RelR.le _ (allR_true _) (hand_shut hI hs) rfl (RelR_take hr m)
      simp only [Rel] at r ⊢
      obtain ⟨hD, hv⟩ := r
      obtain ⟨_, hbl⟩ := hI.block hD hb
      have hlen : rows1.length = b.rows.length := by
        rcases hrr with ⟨_, rfl⟩ | ⟨h, _⟩
        · rfl
        · exact (ClR.rel rows1 h hI hs).1
      rcases hv with ⟨hnil, rfl, h0⟩ | ⟨hnil, rfl, hc⟩
      · exact ⟨none, 0, by rw [hlen, ← hm, h0], by rw [hlen, ← hm, h0]; exact Nat.le_refl _, .inl (List.eq_nil_of_length_eq_zero (by omega))⟩
      · rcases hbl with ⟨_, h1⟩ | ⟨_, hlt, hr⟩
        · rw [hnil] at h1; cases h1
        · refine ⟨_, _, by rw [hlen, ← hm], by rw [hlen, ← hm]; exact hc, .inr ⟨_, _, rfl, hand_x hI hs hD hk hnil, by simp, ?_⟩⟩
          rcases hrr with ⟨hcl, rfl⟩ | ⟨h, hall⟩
          · simp only [Blk.cx, hcl] at hr
            exact RelR.le _ (allR_true _) (hand_shut hI hs) rfl hr
          · have h2 := (ClR.rel rows1 h hI hs).2 b.wd (c.E k).b 0 (RelR.le _ (allR_true _) (b.cx_le c) (by rw [b.cx_w c]) hr)
            exact RelR.le _ hall (c.hand sel).le_shut rfl h2
    · rename_i k lo m
      obtain ⟨rfl, hk, b, hb, hm, rfl, hrr⟩ := h
      have hlen' : ((b.rows.drop lo).take m).length = m := by rw [List.length_take, List.length_drop]; omega
      have hlen : rows1.length = m := by
        rcases hrr with ⟨_, rfl⟩ | ⟨h, _⟩
        · exact hlen'
        · exact ((ClR.rel rows1 h hI hs).1).trans hlen'
      simp only [Rel] at r ⊢
      obtain ⟨hD, a, cap, rfl, hc, hA⟩ := r
      obtain ⟨hwd, hbl⟩ := hI.block hD hb
      refine ⟨a, cap, by rw [hlen], by rw [hlen]; exact hc, ?_⟩
      rcases hA with rfl | ⟨hnil, rfl⟩
      · exact .inl (List.eq_nil_of_length_eq_zero hlen)
      · rcases hbl with ⟨_, h1⟩ | ⟨_, hlt, hr⟩
        · rw [hnil] at h1; cases h1
        · have hr' := RelR_take (RelR_drop hr lo) m
          rw [Nat.zero_add] at hr'
          refine .inr ⟨_, _, rfl, hand_x hI hs hD hk hnil, by simp, ?_⟩
          rw [hwd]
          rcases hrr with ⟨hcl, rfl⟩ | ⟨h, hall⟩
          · simp only [Blk.cx, hcl] at hr'
            exact RelR.le _ (allR_true _) (hand_shut hI hs) rfl hr'
          · have h2 := (ClR.rel rows1 h hI hs).2 b.wd (c.E k).b _ (RelR.le _ (allR_true _) (b.cx_le c) (by rw [b.cx_w c]) hr')
            exact RelR.le _ hall (c.hand sel).le_shut rfl h2
    · subst h
      simp only [Rel] at r ⊢
      exact ⟨none, 0, r, Nat.le_refl _, by simp⟩
    · exact h.elim
  | .ref fr1 cs1, s, h, hI, hs, v, r => by
    simp only [Cl] at h
    split at h
    · obtain ⟨hf, rfl⟩ := h
      simp only [Rel] at r ⊢
      obtain ⟨b, off, e, hx, hg, hr⟩ := r
      have hl := hand_shut hI hs
      exact ⟨b, off, e, hl.x b hx, fun e => hl.b b hx (hg (hf e)), RelC.le _ (allL_true _) hl rfl hr⟩
    · rename_i k r0 q
      obtain ⟨rfl, hk, b, row, hb, hrow, hrr⟩ := h
      simp only [Rel] at r ⊢
      obtain ⟨hD, hnil, rfl⟩ := r
      obtain ⟨hwd, hbl⟩ := hI.block hD hb
      rw [nth_eq] at hrow
      rcases hbl with ⟨_, h1⟩ | ⟨_, hlt, hrb⟩
      · rw [hnil] at h1; cases h1
      · refine ⟨_, _, rfl, hand_x hI hs hD hk hnil, by simp, ?_⟩
        have hr' := RelC_drop q _ (RelR_get _ hrb r0 row hrow).2
        rw [Nat.zero_add] at hr'
        rw [hwd]
        rcases hrr with ⟨hcl, rfl⟩ | ⟨h, hall⟩
        · simp only [Blk.cx, hcl] at hr'
          exact RelC.le _ (allL_true _) (hand_shut hI hs) rfl hr'
        · have h2 := (ClL.rel cs1 h hI hs).2.2.1 (c.E k).b _ (RelC.le _ (allL_true _) (b.cx_le c) (by rw [b.cx_w c]) hr')
          exact RelC.le _ hall (c.hand sel).le_shut rfl h2
    · exact h.elim
  | .clo f cs1, s, h, hI, hs, v, r => by
    simp only [Cl] at h
    split at h
    · obtain ⟨rfl, h⟩ := h
      simp only [Rel] at r ⊢
      obtain ⟨vs, e, hv⟩ := r
      exact ⟨vs, e, (ClL.rel cs1 h hI hs).2.1 vs hv⟩
    · exact h.elim
theorem ClL.rel : ∀ (ss1 : List Sv) {ss : List Sv}, ClL hp sel ss ss1 → Inv w0 M c hp → (∀ k ∈ sel, c.D k) →
    (∀ vs, RelL ss c vs → RelL ss1 (c.hand sel) vs) ∧ (∀ vs, RelT ss c vs → RelT ss1 (c.hand sel) vs) ∧ (∀ b off, RelC ss c b off → RelC ss1 (c.hand sel) b off) ∧ ss1.length = ss.length
  | [], ss, h, _, _ => by
    simp only [ClL] at h
    subst h
    exact ⟨fun vs r => by simpa [RelL] using r, fun vs r => by simpa [RelT] using r, fun b off _ => by simp [RelC], rfl⟩
  | s1 :: ss1, ss, h, hI, hs => by
    simp only [ClL] at h
    split at h
    · obtain ⟨h1, h2⟩ := h
      have i1 := @Cl.rel s1 _ h1 hI hs
      obtain ⟨a, b, d, e⟩ := ClL.rel ss1 h2 hI hs
      refine ⟨fun vs r => ?_, fun vs r => ?_, fun bb off r => ?_, by simp [e]⟩
      · simp only [RelL] at r ⊢
        obtain ⟨u, us, eq, h1, h2, h3⟩ := r
        exact ⟨u, us, eq, h1, i1 h2, a us h3⟩
      · simp only [RelT] at r ⊢
        obtain ⟨u, us, eq, h2, h3⟩ := r
        exact ⟨u, us, eq, i1 h2, b us h3⟩
      · simp only [RelC] at r ⊢
        obtain ⟨⟨u, eq, h1, h2⟩, h3⟩ := r
        exact ⟨⟨u, eq, h1, i1 h2⟩, d bb _ h3⟩
    · exact h.elim
theorem ClR.rel : ∀ (rs1 : List (List Sv)) {rs : List (List Sv)}, ClR hp sel rs rs1 → Inv w0 M c hp → (∀ k ∈ sel, c.D k) →
    rs1.length = rs.length ∧ ∀ wd b off, RelR rs c wd b off → RelR rs1 (c.hand sel) wd b off
  | [], rs, h, _, _ => by
    simp only [ClR] at h
    subst h
    exact ⟨rfl, fun _ _ _ _ => by simp [RelR]⟩
  | r1 :: rs1, rs, h, hI, hs => by
    simp only [ClR] at h
    split at h
    · obtain ⟨h1, h2⟩ := h
      obtain ⟨_, _, d, e⟩ := ClL.rel r1 h1 hI hs
      obtain ⟨a, b⟩ := ClR.rel rs1 h2 hI hs
      refine ⟨by simp [a], fun wd bb off q => ?_⟩
      simp only [RelR] at q ⊢
      exact ⟨by rw [e]; exact q.1, d bb off q.2.1, b wd bb _ q.2.2⟩
    · exact h.elim
end

/-- A block that is handed over. -/
def ClB (hp : Hp) (sel : List Nat) (b b1 : Blk) : Prop :=
  b1.elem = b.elem ∧ b1.wd = b.wd ∧ b1.grow = b.grow ∧ (b.clean = true ∧ b1.clean = true ∧ b.rows = b1.rows ∨ ClR hp sel b.rows b1.rows ∧ (b1.clean = false ∨ b1.rows.all (Sv.all.allL fun _ => false) = true))
def selIn (hp : Hp) (sel : List Nat) : List Nat → List Blk → Prop
  | [], bs => bs = []
  | k :: ks, bs => match bs with
    | b1 :: bs => (∃ b, hpGet hp k = some b ∧ b.ng ∧ ClB hp sel b b1) ∧ selIn hp sel ks bs
    | [] => False

theorem selIn_get : ∀ {ks : List Nat} {bs : List Blk}, selIn hp sel ks bs → bs.length = ks.length ∧ (∀ k ∈ ks, ∃ b, hpGet hp k = some b) ∧ ∀ (i k : Nat) (b1 : Blk), ks[i]? = some k → bs[i]? = some b1 → ∃ b, hpGet hp k = some b ∧ b.ng ∧ ClB hp sel b b1
  | [], bs, h => by simp only [selIn] at h; subst h; simp
  | k :: ks, bs, h => by
    simp only [selIn] at h
    split at h
    · obtain ⟨⟨b, hb, hc⟩, h⟩ := h
      obtain ⟨h1, h2, h3⟩ := selIn_get h
      refine ⟨by simp [h1], ?_, ?_⟩
      · intro j hj
        rcases List.mem_cons.1 hj with rfl | hj
        · exact ⟨b, hb⟩
        · exact h2 j hj
      · intro i j b1 hi hb1
        cases i with
        | zero => simp at hi hb1; subst hi hb1; exact ⟨b, hb, hc⟩
        | succ i => exact h3 i j b1 (by simpa using hi) (by simpa using hb1)
    · exact h.elim

theorem hand_blk (hI : Inv w0 M c hp) (hs : ∀ k ∈ sel, c.D k) {i k : Nat} {b b1 : Blk} (hk : sel[i]? = some k) (hb : hpGet hp k = some b) (hng : b.ng) (hc : ClB hp sel b b1) : BlkRel (c.hand sel) i b1 := by
  have hE : (c.hand sel).E i = c.E k := by
    show c.E (sel.getD i 0) = _
    simp [List.getD_eq_getElem?_getD, hk]
  obtain ⟨b', hb', r⟩ := hI.dom k (hs k (List.mem_of_getElem? hk))
  rw [hpGet_eq] at hb
  rw [hb] at hb'
  cases hb'
  obtain ⟨h1, h2, h3, h4⟩ := hc
  have hlen : b1.rows.length = b.rows.length := by
    rcases h4 with ⟨_, _, h⟩ | ⟨h, _⟩
    · rw [h]
    · exact (ClR.rel b1.rows h hI hs).1
  unfold BlkRel at *
  rw [hE, h2, h3]
  refine ⟨r.1, fun hn => ?_, fun hn => ?_⟩
  · rcases r.2.1 hn with ⟨g1, g2⟩ | g
    · exact .inl ⟨g1, List.eq_nil_of_length_eq_zero (by rw [hlen, g2]; rfl)⟩
    · exact absurd g (Blk.ng_not hng)
  obtain ⟨arr, hh, hr, hl, hg⟩ := r.2.2 hn
  refine ⟨arr, by rw [h1]; exact hh, ?_, by rw [hlen]; exact hl, by rw [hlen]; exact hg⟩
  rcases h4 with ⟨hc, hc1, h⟩ | ⟨h, hq⟩
  · unfold Blk.cx at *
    rw [hc] at hr
    rw [hc1, ← h]
    exact RelR.le _ (allR_true _) (hand_shut hI hs) rfl hr
  · have h5 := (ClR.rel b1.rows h hI hs).2 b.wd (c.E k).b 0 (RelR.le _ (allR_true _) (b.cx_le c) (by rw [b.cx_w c]) hr)
    unfold Blk.cx
    cases hc1 : b1.clean with
    | false => exact h5
    | true =>
      rcases hq with hq | hq
      · rw [hc1] at hq; cases hq
      · exact RelR.le _ hq (c.hand sel).le_shut rfl h5

theorem hand_invD {hpin : List Blk} (hI : Inv w0 M c hp) (hs : ∀ k ∈ sel, c.D k) (hnd : sel.Nodup) (hin : selIn hp sel sel hpin) :
    (∀ k ∈ sel, c.D k) ∧ Inv c.w (handM c sel) (c.hand sel) (hpin.map some) ∧ hpin.length = sel.length := by
  obtain ⟨hlen, hall, hget⟩ := selIn_get hin
  have hEi : ∀ i (hi : i < sel.length), (c.hand sel).E i = c.E sel[i] := fun i hi => by
    show c.E (sel.getD i 0) = _
    simp [List.getD_eq_getElem?_getD, hi]
  refine ⟨hs, ?_, hlen⟩
  refine { dom := ?_, inj := ?_, xsep := ?_, xlt := fun b h => h.1, xY := fun _ _ h => h, bnd := rfl, bndG := ⟨fun b h => .inr (h.imp id id), fun _ h => h.elim, fun _ _ _ _ _ _ h => h.elim⟩, e0 := fun _ _ _ => rfl, mlen := by simp [handM, hlen], os := rfl, tape := rfl, output := rfl, size := Nat.le_refl _, keep := fun _ _ _ _ => rfl, loc := ?_, x0 := fun b h => .inr (.inr h), ca := fun _ h => h.elim, cc := fun _ h => h.elim, zc := fun _ h => h.elim, z0 := fun _ h => h.elim, xk := fun _ h => h.elim, gh := ?_ }
  · intro i hi
    have hi' : i < sel.length := hi
    have hb1 : hpin[i]? = some hpin[i] := List.getElem?_eq_getElem (by omega)
    obtain ⟨b, hb, hng, hc⟩ := hget i sel[i] hpin[i] (List.getElem?_eq_getElem hi') hb1
    exact ⟨hpin[i], by rw [List.getElem?_map, hb1]; rfl, hand_blk hI hs (List.getElem?_eq_getElem hi') hb hng hc⟩
  · intro i j hi hj hne h1 h2
    rw [hEi i hi] at h1 ⊢
    rw [hEi j hj] at h2 ⊢
    refine hI.inj _ _ (hs _ (List.getElem_mem _)) (hs _ (List.getElem_mem _)) (fun e => hne ?_) h1 h2
    exact nodup_at hnd (List.getElem?_eq_getElem hi) (by rw [List.getElem?_eq_getElem hj, e])
  · intro i b hi h1 hx
    rw [hEi i hi] at h1 ⊢
    exact hx.2 _ (List.getElem_mem _) h1
  · intro i hi h1
    rw [hEi i hi] at h1 ⊢
    exact .inl ⟨_, List.getElem_mem _, h1, rfl⟩
  · intro i b1 hi hb1 h1 h2
    have hi' : i < sel.length := hi
    rw [List.getElem?_map] at hb1
    have hb1 : hpin[i]? = some b1 := by
      cases hq : hpin[i]? with
      | none => rw [hq] at hb1; cases hb1
      | some q => rw [hq] at hb1; simpa using hb1
    obtain ⟨b, hb, hng, hc⟩ := hget i sel[i] b1 (List.getElem?_eq_getElem hi') hb1
    obtain ⟨b', hb', r⟩ := hI.dom _ (hs _ (List.getElem_mem hi'))
    rw [hpGet_eq.1 hb] at hb'
    cases hb'
    rw [hEi i hi'] at h1
    rw [hc.2.2.1] at h2
    rcases r.2.1 h1 with ⟨g1, _⟩ | g
    · rw [g1] at h2; cases h2
    · exact absurd g (Blk.ng_not hng)
theorem hand_inv {hpin : List Blk} (hI : Inv w0 M c hp) (hf : ∀ (k : Nat) (b : Blk), hp[k]? = some (some b) → c.D k) (hnd : sel.Nodup) (hin : selIn hp sel sel hpin) :
    (∀ k ∈ sel, c.D k) ∧ Inv c.w (handM c sel) (c.hand sel) (hpin.map some) ∧ hpin.length = sel.length := by
  refine hand_invD hI (fun k hk => ?_) hnd hin
  obtain ⟨b, hb⟩ := (selIn_get hin).2.1 k hk
  rw [hpGet_eq] at hb
  exact hf k b hb
end
end Go.Eng

/- The engine, part S: contracts, and calls by them. -/
namespace Go.Eng
open Go Go.RowKit

/-! ### Contracts -/
def Callable (P : Program) (f : Nat) : Prop := ∃ fn, P.funcs[f]? = some fn ∧ (fn.name == "runtime.NumGoroutine") = false ∧ fn.body.isNone = false

/-- What is asked of the world and the result when a call has ended: what was there, but the blocks handed in, is as it was; the result is res, the blocks are hp'. -/
structure Ends (w : World) (M : Frm) (c' : Cx) (w' : World) (v : Value) (res : Sv) (hp' : Hp) : Prop where
  weq : c'.w = w'
  inv : Inv w M c' hp'
  full : ∀ (k : Nat) (b : Blk), hp'[k]? = some (some b) → c'.D k
  x : ∀ b, c'.X b → M.G b
  rel : Rel res c' v

/-- A contract: with arguments of these contents, and with these blocks handed in, the function returns, and its result and the blocks, new ones behind those that were handed in, are as post says; all else is as it was. -/
structure MCon (P : Program) (f : Nat) (args : List Sv) (hpin : List Blk) (post : Sv → Hp → Prop) : Prop where
  callable : Callable P f
  run : ∀ (w : World) (M : Frm) (c : Cx) (vs : List Value), c.w = w → M.m = hpin.length → (∀ b, ¬ M.Xk b) → Inv w M c (hpin.map some) → (∀ (k : Nat) (b : Blk), (hpin.map some)[k]? = some (some b) → c.D k) → RelT args c vs →
    Calls P f vs.toArray w fun e w' => ∃ v c' res hp', e = .returned v ∧ post res hp' ∧ Ends w M c' w' v res hp'

def PCon (P : Program) (f : Nat) (args : List Sv) (res : Sv) (nb : List Blk) : Prop := MCon P f args [] fun r h => r = res ∧ h = nb.map some

theorem MCon.mono {P : Program} {f : Nat} {args : List Sv} {hpin : List Blk} {p q : Sv → Hp → Prop} (h : MCon P f args hpin p) (hq : ∀ r hp, p r hp → q r hp) : MCon P f args hpin q :=
  ⟨h.1, fun w M c vs h1 h2 h2' h3 h4 h5 => (h.2 w M c vs h1 h2 h2' h3 h4 h5).mono fun _ _ ⟨v, c', r, hp', e, hp, hE⟩ => ⟨v, c', r, hp', e, hq _ _ hp, hE⟩⟩

/-! ### The heap behind a call -/
def rho (sel : List Nat) (N i : Nat) : Nat :=
  match nth sel i with
  | some k => k
  | none => N + (i - sel.length)
/-- Blocks that were handed over and are gone. -/
def okI (sel kl : List Nat) (i : Nat) : Bool :=
  match nth sel i with
  | some k => !memB k kl
  | none => true
def mrgO (sel kl : List Nat) (hp' : Hp) (ρ : Nat → Nat) : Nat → Hp → Hp
  | _, [] => []
  | k, b :: bs => (match memB k sel with
      | true => (match memB k kl with
        | true => none
        | false => match hpGet hp' (idx k sel) with
          | some b1 => some (b1.mv ρ)
          | none => none)
      | false => b) :: mrgO sel kl hp' ρ (k + 1) bs
def mvO (ρ : Nat → Nat) : Hp → Hp
  | [] => []
  | none :: bs => none :: mvO ρ bs
  | some b :: bs => some (b.mv ρ) :: mvO ρ bs
def mrgH (hp : Hp) (sel kl : List Nat) (hp' : Hp) : Hp := mrgO sel kl hp' (rho sel hp.length) 0 (kill kl hp) ++ mvO (rho sel hp.length) (hp'.drop sel.length)

theorem mrgO_length (sel kl : List Nat) (hp' : Hp) (ρ : Nat → Nat) : ∀ (i : Nat) (hp : Hp), (mrgO sel kl hp' ρ i hp).length = hp.length
  | _, [] => rfl
  | i, _ :: bs => by simp [mrgO, mrgO_length sel kl hp' ρ (i + 1) bs]
theorem mrgO_sel (sel kl : List Nat) (hp' : Hp) (ρ : Nat → Nat) : ∀ (i : Nat) (hp : Hp) (k : Nat), k < hp.length → memB (i + k) sel = true → memB (i + k) kl = false →
    (mrgO sel kl hp' ρ i hp)[k]? = some ((hpGet hp' (idx (i + k) sel)).map (Blk.mv ρ))
  | _, [], k, h, _, _ => by simp at h
  | i, b :: bs, 0, _, h1, h2 => by
    rw [Nat.add_zero] at h1 h2
    simp only [mrgO, h1, h2, List.getElem?_cons_zero, Nat.add_zero]
    cases hpGet hp' (idx i sel) <;> rfl
  | i, b :: bs, k + 1, h, h1, h2 => by
    rw [show i + (k + 1) = i + 1 + k by omega] at h1 h2 ⊢
    simp only [mrgO, List.getElem?_cons_succ]
    exact mrgO_sel sel kl hp' ρ (i + 1) bs k (by simpa using h) h1 h2
theorem mrgO_kl (sel kl : List Nat) (hp' : Hp) (ρ : Nat → Nat) : ∀ (i : Nat) (hp : Hp) (k : Nat), k < hp.length → memB (i + k) sel = true → memB (i + k) kl = true → (mrgO sel kl hp' ρ i hp)[k]? = some none
  | _, [], k, h, _, _ => by simp at h
  | i, b :: bs, 0, _, h1, h2 => by
    rw [Nat.add_zero] at h1 h2
    simp only [mrgO, h1, h2, List.getElem?_cons_zero]
  | i, b :: bs, k + 1, h, h1, h2 => by
    rw [show i + (k + 1) = i + 1 + k by omega] at h1 h2
    simp only [mrgO, List.getElem?_cons_succ]
    exact mrgO_kl sel kl hp' ρ (i + 1) bs k (by simpa using h) h1 h2
theorem mrgO_not (sel kl : List Nat) (hp' : Hp) (ρ : Nat → Nat) : ∀ (i : Nat) (hp : Hp) (k : Nat), memB (i + k) sel = false → (mrgO sel kl hp' ρ i hp)[k]? = hp[k]?
  | _, [], k, _ => by simp [mrgO]
  | i, b :: bs, 0, h1 => by
    rw [Nat.add_zero] at h1
    simp only [mrgO, h1, List.getElem?_cons_zero]
  | i, b :: bs, k + 1, h1 => by
    rw [show i + (k + 1) = i + 1 + k by omega] at h1
    simp only [mrgO, List.getElem?_cons_succ]
    exact mrgO_not sel kl hp' ρ (i + 1) bs k h1
theorem mvO_get (ρ : Nat → Nat) : ∀ (hp : Hp) (k : Nat), (mvO ρ hp)[k]? = (hp[k]?).map (Option.map (Blk.mv ρ))
  | [], k => by simp [mvO]
  | none :: bs, 0 => by simp [mvO]
  | some b :: bs, 0 => by simp [mvO]
  | none :: bs, k + 1 => by simp [mvO, mvO_get ρ bs k]
  | some b :: bs, k + 1 => by simp [mvO, mvO_get ρ bs k]

def mrgC (c c' : Cx) (N : Nat) (sel kl : List Nat) : Cx :=
  { E := fun k => if k < N then c.E k else c'.E (k - N + sel.length)
    D := fun k => if k < N then (if memB k sel = true then memB k kl = false ∧ c'.D (idx k sel) else c.D k) else c'.D (k - N + sel.length)
    X := fun b => c.X b ∨ ((c.w.heap.size ≤ b ∨ ∃ k ∈ sel, (c.E k).nil = false ∧ (c.E k).b = b) ∧ c'.X b)
    G := c.G
    w := c'.w
    A := c.A
    C := c.C
    Z := c.Z }

theorem nth_lt {α : Type} {l : List α} {i : Nat} {x : α} (h : nth l i = some x) : i < l.length := by
  rw [nth_eq] at h
  exact (List.getElem?_eq_some_iff.1 h).1
theorem nth_none {α : Type} {l : List α} {i : Nat} (h : nth l i = none) : l.length ≤ i := by
  rw [nth_eq] at h
  simpa using h

theorem call_post {w0 : World} {M : Frm} {c c' : Cx} {hp hp' : Hp} {sel kl : List Nat} {w' : World} {v : Value} {res : Sv} (hI : Inv w0 M c hp) (hnd : sel.Nodup)
    (hkl : ∀ k, memB k kl = true → memB k sel = true) (hs : ∀ k ∈ sel, c.D k) (hal : ∀ i k, nth sel i = some k → memB k kl = false → ∃ b, hp'[i]? = some (some b))
    (hE : Ends c.w (handM c sel) c' w' v res hp') (hres : res.all (okI sel kl) = true) (hblk : ∀ (i : Nat) (b : Blk), hp'[i]? = some (some b) → okI sel kl i = true → b.clean = false → b.rows.all (Sv.all.allL (okI sel kl)) = true) :
    Inv w0 M (mrgC c c' hp.length sel kl) (mrgH hp sel kl hp') ∧ ((∀ (k : Nat) (b : Blk), hp[k]? = some (some b) → c.D k) → ∀ (k : Nat) (b : Blk), (mrgH hp sel kl hp')[k]? = some (some b) → (mrgC c c' hp.length sel kl).D k) ∧
      c.Le (fun k => !memB k kl) (mrgC c c' hp.length sel kl) ∧ Rel (res.mv (rho sel hp.length)) (mrgC c c' hp.length sel kl) v := by
  have hN : ∀ k, c.D k → k < hp.length := fun k hD => by
    obtain ⟨blk, e, _⟩ := hI.dom _ hD
    exact (List.getElem?_eq_some_iff.1 e).1
  have hE1 : ∀ k, k < hp.length → (mrgC c c' hp.length sel kl).E k = c.E k := fun k hk => by simp [mrgC, hk]
  have hE2 : ∀ k, hp.length ≤ k → (mrgC c c' hp.length sel kl).E k = c'.E (k - hp.length + sel.length) := fun k hk => by simp only [mrgC]; rw [if_neg (by omega)]
  have hselD : ∀ k, memB k sel = true → c.D k := fun k hk => hs k (memB_iff.1 hk)
  have e0 : ∀ i k, nth sel i = some k → c'.D i → c'.E i = c.E k := fun i k hk hD => by
    have := hE.inv.e0 i (nth_lt hk) hD
    rw [this]
    show c.E (sel.getD i 0) = _
    rw [(nth_getD hk).2]
  have hidx : ∀ i k, nth sel i = some k → idx k sel = i := fun i k hk => idx_at hnd (by rw [← nth_eq]; exact hk)
  have hmem : ∀ i k, nth sel i = some k → memB k sel = true := fun i k hk => memB_iff.2 (List.mem_of_getElem? (by rw [← nth_eq]; exact hk))
  have hnthi : ∀ k, memB k sel = true → nth sel (idx k sel) = some k := fun k hk => by rw [nth_eq]; exact (idx_lt hk).2
  have hMv : Mv (okI sel kl) (rho sel hp.length) c' (mrgC c c' hp.length sel kl) := by
    refine ⟨fun i hi hD => ?_, fun b hb => ?_, fun b hb hg => ?_, rfl⟩
    · unfold okI at hi
      unfold rho
      cases hk : nth sel i with
      | some k =>
        rw [hk] at hi
        have hkN := hN k (hselD k (hmem i k hk))
        refine ⟨?_, ?_⟩
        · simp only [mrgC]
          rw [if_pos hkN, if_pos (hmem i k hk), hidx i k hk]
          exact ⟨by simpa using hi, hD⟩
        · rw [hE1 k hkN]
          exact (e0 i k hk hD).symm
      | none =>
        have hm := nth_none hk
        dsimp only
        refine ⟨?_, ?_⟩
        · simp only [mrgC]
          rw [if_neg (by omega), show hp.length + (i - sel.length) - hp.length + sel.length = i by omega]
          exact hD
        · rw [hE2 _ (by omega), show hp.length + (i - sel.length) - hp.length + sel.length = i by omega]
    · rcases hE.x b hb with h | h
      · exact .inl h.2
      · exact .inr ⟨h, hb⟩
    · rcases hE.x b hb with h | h
      · exact h.1
      · show c.G b
        rw [hI.bnd]
        refine hI.bndG.g b ?_
        rcases h with h | ⟨k, hk, hn, e⟩
        · exact .inl (Nat.le_trans hI.size h)
        · rw [← e]
          exact (hI.loc k (hs k hk) hn).symm
  have hnotM : ∀ b, c.X b → ¬ (handM c sel).M b := fun b hb => by
    rintro ⟨k, hk, hn, e⟩
    exact hI.xsep k b (hs k hk) hn hb e
  have hX : ∀ b, c.X b → c'.w.heap[b]? = c.w.heap[b]? := fun b hb => hE.inv.keep b (hI.xlt b hb) (hnotM b hb) (fun h => h)
  have hle : c.Le (fun k => !memB k kl) (mrgC c c' hp.length sel kl) := by
    refine ⟨fun k hk hD => ?_, fun b h => .inl h, fun _ _ h => h, hX⟩
    have hkN := hN k hD
    refine ⟨?_, hE1 k hkN⟩
    simp only [mrgC]
    rw [if_pos hkN]
    have hk' : memB k kl = false := by simpa using hk
    cases hm : memB k sel with
    | true =>
      rw [if_pos rfl]
      obtain ⟨b, hb⟩ := hal _ k (hnthi k hm) hk'
      exact ⟨hk', hE.full _ b hb⟩
    | false =>
      rw [if_neg (by simp)]
      exact hD
  refine ⟨?_, ?_, hle, Rel.mv res hres hMv hE.rel⟩
  · -- where the blocks come from
    have hA : ∀ k, c.D k → memB k sel = false → (c.E k).nil = false → ¬ (handM c sel).M (c.E k).b := fun k hD hk hn => by
      rintro ⟨j, hj, hjn, e⟩
      refine hI.inj j k (hs j hj) hD (fun e => ?_) hjn hn e
      subst e
      rw [memB_iff.2 hj] at hk
      cases hk
    have hltA : ∀ k, c.D k → (c.E k).nil = false → (c.E k).b < c.w.heap.size := fun k hD hn => by
      obtain ⟨blk, _, r⟩ := hI.dom k hD
      exact r.lt hn
    have hsrc : ∀ k, (mrgC c c' hp.length sel kl).D k → (k < hp.length ∧ memB k sel = false ∧ c.D k) ∨ ∃ i, c'.D i ∧ okI sel kl i = true ∧ rho sel hp.length i = k ∧ (mrgC c c' hp.length sel kl).E k = c'.E i := by
      intro k hD
      simp only [mrgC] at hD
      by_cases hk : k < hp.length
      · rw [if_pos hk] at hD
        cases hm : memB k sel with
        | true =>
          rw [hm, if_pos rfl] at hD
          refine .inr ⟨idx k sel, hD.2, by unfold okI; rw [hnthi k hm]; simp [hD.1], by unfold rho; rw [hnthi k hm], ?_⟩
          rw [hE1 k hk]
          exact (e0 _ k (hnthi k hm) hD.2).symm
        | false =>
          rw [hm, if_neg (by simp)] at hD
          exact .inl ⟨hk, rfl, hD⟩
      · rw [if_neg hk] at hD
        have hno : nth sel (k - hp.length + sel.length) = none := by rw [nth_eq]; simp
        exact .inr ⟨k - hp.length + sel.length, hD, by unfold okI; rw [hno], by unfold rho; rw [hno]; simp only; omega, hE2 k (by omega)⟩
    have hB : ∀ i, c'.D i → (c'.E i).nil = false → (∃ j ∈ sel, (c.E j).nil = false ∧ (c.E j).b = (c'.E i).b) ∨ c.w.heap.size ≤ (c'.E i).b := fun i hD hn => hE.inv.loc i hD hn
    have hAB : ∀ k i, c.D k → memB k sel = false → (c.E k).nil = false → c'.D i → (c'.E i).nil = false → (c.E k).b ≠ (c'.E i).b := by
      intro k i hD hk hn hi hin e
      rcases hB i hi hin with ⟨j, hj, hjn, ej⟩ | h
      · exact hA k hD hk hn ⟨j, hj, hjn, ej.trans e.symm⟩
      · have := hltA k hD hn; omega
    obtain ⟨hIk, _⟩ := hI.kill kl
    have hlek : Cx.Le (fun _ => true) { c with D := fun k => c.D k ∧ memB k kl = false } (mrgC c c' hp.length sel kl) :=
      ⟨fun k _ hD => hle.ed k (by simp [hD.2]) hD.1, hle.x, hle.b, hle.heap⟩
    have hkeepA : ∀ k, c.D k → memB k sel = false → (c.E k).nil = false → c'.w.heap[(c.E k).b]? = c.w.heap[(c.E k).b]? := fun k hD hk hn => hE.inv.keep _ (hltA k hD hn) (hA k hD hk hn) (fun h => h)
    refine { dom := ?_, inj := ?_, xsep := ?_, xlt := ?_, xY := ?_, bnd := hI.bnd, bndG := hI.bndG, e0 := ?_, mlen := ?_, os := hE.inv.os.trans hI.os, tape := hE.inv.tape.trans hI.tape, output := hE.inv.output.trans hI.output, size := Nat.le_trans hI.size hE.inv.size, keep := ?_, loc := ?_, x0 := ?_, ca := ?_, cc := ?_, gh := ?_, zc := ?_, z0 := hI.z0, xk := fun b hb => .inl (hI.xk b hb) }
    · intro k hD
      rcases hsrc k hD with ⟨hk, hm, hcD⟩ | ⟨i, hi, hok, hρ, hEk⟩
      · have hnk : memB k kl = false := by
          cases h : memB k kl with
          | false => rfl
          | true => rw [hkl k h] at hm; cases hm
        obtain ⟨blk, e, r⟩ := hIk.dom k ⟨hcD, hnk⟩
        refine ⟨blk, ?_, r.le hlek (hE1 k hk) (fun hn => hkeepA k hcD hm hn) (fun _ => allR_true _)⟩
        unfold mrgH
        rw [List.getElem?_append_left (by rw [mrgO_length, kill_length]; exact hk), mrgO_not _ _ _ _ 0 _ k (by simpa using hm)]
        exact e
      · obtain ⟨blk, e, r⟩ := hE.inv.dom i hi
        subst hρ
        refine ⟨blk.mv (rho sel hp.length), ?_, BlkRel.mv hMv hEk (hblk i blk e hok) r⟩
        unfold mrgH
        cases hk : nth sel i with
        | some k =>
          have hρ : rho sel hp.length i = k := by unfold rho; rw [hk]
          have hkN := hN k (hselD k (hmem i k hk))
          rw [hρ, List.getElem?_append_left (by rw [mrgO_length, kill_length]; exact hkN)]
          rw [mrgO_sel _ _ _ _ 0 _ k (by rw [kill_length]; exact hkN) (by simpa using hmem i k hk) (by unfold okI at hok; rw [hk] at hok; simpa using hok)]
          rw [Nat.zero_add, hidx i k hk, hpGet_eq.2 e]
          rfl
        | none =>
          have hm := nth_none hk
          have hρ : rho sel hp.length i = hp.length + (i - sel.length) := by unfold rho; rw [hk]
          rw [hρ, List.getElem?_append_right (by rw [mrgO_length, kill_length]; omega), mrgO_length, kill_length, mvO_get, List.getElem?_drop]
          rw [show sel.length + (hp.length + (i - sel.length) - hp.length) = i by omega, e]
          rfl
    · intro k k' hD hD' hne h1 h2
      rcases hsrc k hD with ⟨hk, hm, hcD⟩ | ⟨i, hi, hok, hρ, hEk⟩ <;> rcases hsrc k' hD' with ⟨hk', hm', hcD'⟩ | ⟨i', hi', hok', hρ', hEk'⟩
      · rw [hE1 k hk] at h1 ⊢; rw [hE1 k' hk'] at h2 ⊢; exact hI.inj k k' hcD hcD' hne h1 h2
      · rw [hE1 k hk] at h1 ⊢; rw [hEk'] at h2 ⊢; exact hAB k i' hcD hm h1 hi' h2
      · rw [hE1 k' hk'] at h2 ⊢; rw [hEk] at h1 ⊢; exact fun e => hAB k' i hcD' hm' h2 hi h1 e.symm
      · rw [hEk] at h1 ⊢; rw [hEk'] at h2 ⊢; exact hE.inv.inj i i' hi hi' (fun e => hne (by rw [← hρ, ← hρ', e])) h1 h2
    · intro k b hD h1 hb
      rcases hsrc k hD with ⟨hk, hm, hcD⟩ | ⟨i, hi, hok, hρ, hEk⟩
      · rw [hE1 k hk] at h1 ⊢
        rcases hb with hb | hb
        · exact hI.xsep k b hcD h1 hb
        · rcases hb.1 with h | ⟨j, hj, hjn, e⟩
          · have := hltA k hcD h1; omega
          · exact fun e' => hA k hcD hm h1 ⟨j, hj, hjn, e.trans e'.symm⟩
      · rw [hEk] at h1 ⊢
        rcases hb with hb | hb
        · rcases hB i hi h1 with ⟨j, hj, hjn, ej⟩ | h
          · rw [← ej]; exact hI.xsep j b (hs j hj) hjn hb
          · have := hI.xlt b hb; omega
        · exact hE.inv.xsep i b hi h1 hb.2
    · rintro b (hb | hb)
      · exact Nat.lt_of_lt_of_le (hI.xlt b hb) hE.inv.size
      · exact hE.inv.xlt b hb.2
    · rintro b (hb | hb)
      · exact hI.xY b hb
      · intro hy
        obtain ⟨h1, h2⟩ := hI.bndG.y b hy
        rcases hb.1 with h | ⟨j, hj, hjn, e⟩
        · have := hI.size; omega
        · rcases hI.loc j (hs j hj) hjn with h | h
          · exact h2 (e ▸ h)
          · omega
    · intro k hk hD
      have hkN : k < hp.length := Nat.lt_of_lt_of_le hk hI.mlen
      rw [hE1 k hkN]
      refine hI.e0 k hk ?_
      simp only [mrgC] at hD
      rw [if_pos hkN] at hD
      cases hm : memB k sel with
      | true => exact hselD k hm
      | false => rw [hm, if_neg (by simp)] at hD; exact hD
    · unfold mrgH
      rw [List.length_append, mrgO_length, kill_length]
      have := hI.mlen
      omega
    · intro j hj hm hy
      refine (hE.inv.keep j (Nat.lt_of_lt_of_le hj hI.size) ?_ (fun h => h)).trans (hI.keep j hj hm hy)
      rintro ⟨k, hk, hn, e⟩
      rcases hI.loc k (hs k hk) hn with h | h
      · exact hm (e ▸ h)
      · omega
    · intro k hD h1
      rcases hsrc k hD with ⟨hk, hm, hcD⟩ | ⟨i, hi, hok, hρ, hEk⟩
      · rw [hE1 k hk] at h1 ⊢; exact hI.loc k hcD h1
      · rw [hEk] at h1 ⊢
        rcases hB i hi h1 with ⟨j, hj, hjn, ej⟩ | h
        · rw [← ej]; exact hI.loc j (hs j hj) hjn
        · exact .inr (Nat.le_trans hI.size h)
    · rintro b (hb | hb)
      · exact hI.x0 b hb
      · rcases hb.1 with h | ⟨j, hj, hjn, e⟩
        · exact .inl (Nat.le_trans hI.size h)
        · rcases hI.loc j (hs j hj) hjn with h | h
          · exact .inr (.inl (e ▸ h))
          · exact .inl (e ▸ h)
    · intro b hb
      obtain ⟨h1, h2, h3⟩ := hI.ca b hb
      refine ⟨h1, ?_, h3⟩
      rintro (h | h)
      · exact h2 h
      · obtain ⟨g1, g2, _⟩ := hI.cc b h1
        rcases h.1 with h | ⟨j, hj, hjn, e⟩
        · omega
        · exact g2 j (hs j hj) hjn e
    · intro b hb
      obtain ⟨g1, g2, g3⟩ := hI.cc b hb
      refine ⟨Nat.lt_of_lt_of_le g1 hE.inv.size, fun k hD h1 => ?_, g3⟩
      rcases hsrc k hD with ⟨hk, hm, hcD⟩ | ⟨i, hi, hok, hρ, hEk⟩
      · rw [hE1 k hk] at h1 ⊢; exact g2 k hcD h1
      · rw [hEk] at h1 ⊢
        rcases hB i hi h1 with ⟨j, hj, hjn, ej⟩ | h
        · rw [← ej]; exact g2 j (hs j hj) hjn
        · omega
    · intro k blk hD hb h1 h2
      rcases hsrc k hD with ⟨hk, hm, hcD⟩ | ⟨i, hi, hok, hρ, hEk⟩
      · have hnk : memB k kl = false := by
          cases h : memB k kl with
          | false => rfl
          | true => rw [hkl k h] at hm; cases hm
        rw [hE1 k hk] at h1
        unfold mrgH at hb
        rw [List.getElem?_append_left (by rw [mrgO_length, kill_length]; exact hk), mrgO_not _ _ _ _ 0 _ k (by simpa using hm)] at hb
        refine hIk.ghs (k := k) (w' := c'.w) ⟨hE.inv.os, hE.inv.tape, hE.inv.output, hE.inv.size, fun b hb => ?_⟩ ⟨hcD, hnk⟩ hb h1 h2
        obtain ⟨g1, g2, _⟩ := hI.cc b hb
        exact hE.inv.keep b g1 (by rintro ⟨j, hj, hjn, e⟩; exact g2 j (hs j hj) hjn e) (fun h => h)
      · rw [hEk] at h1
        obtain ⟨b0, e0', r0⟩ := hE.inv.dom i hi
        have hb2 : blk = b0.mv (rho sel hp.length) := by
          subst hρ
          unfold mrgH at hb
          cases hk : nth sel i with
          | some k =>
            have hρ : rho sel hp.length i = k := by unfold rho; rw [hk]
            have hkN := hN k (hselD k (hmem i k hk))
            rw [hρ, List.getElem?_append_left (by rw [mrgO_length, kill_length]; exact hkN)] at hb
            rw [mrgO_sel _ _ _ _ 0 _ k (by rw [kill_length]; exact hkN) (by simpa using hmem i k hk) (by unfold okI at hok; rw [hk] at hok; simpa using hok)] at hb
            rw [Nat.zero_add, hidx i k hk, hpGet_eq.2 e0'] at hb
            simpa using hb.symm
          | none =>
            have hm := nth_none hk
            have hρ : rho sel hp.length i = hp.length + (i - sel.length) := by unfold rho; rw [hk]
            rw [hρ, List.getElem?_append_right (by rw [mrgO_length, kill_length]; omega), mrgO_length, kill_length, mvO_get, List.getElem?_drop] at hb
            rw [show sel.length + (hp.length + (i - sel.length) - hp.length) = i by omega, e0'] at hb
            simpa using hb.symm
        have hg0 : b0.grow = false := by
          rw [hb2, Blk.mv_def] at h2
          split at h2
          · exact h2
          · exact h2
        obtain ⟨_, _, h⟩ := hE.inv.gh i b0 hi e0' h1 hg0
        exact h.elim
    · intro b hb
      obtain ⟨h1, h2, h3⟩ := hI.zc b hb
      refine ⟨h1, h2, ?_⟩
      rintro (h | h)
      · exact h3 h
      · obtain ⟨g1, g2, _⟩ := hI.cc b h1
        rcases h.1 with h | ⟨j, hj, hjn, e⟩
        · omega
        · exact g2 j (hs j hj) hjn e
  · intro hf k b hk
    unfold mrgH at hk
    simp only [mrgC]
    by_cases hkN : k < hp.length
    · rw [if_pos hkN]
      rw [List.getElem?_append_left (by rw [mrgO_length, kill_length]; exact hkN)] at hk
      cases hm : memB k sel with
      | true =>
        rw [if_pos rfl]
        cases hq : memB k kl with
        | true =>
          rw [mrgO_kl _ _ _ _ 0 _ k (by rw [kill_length]; exact hkN) (by simpa using hm) (by simpa using hq)] at hk
          cases hk
        | false =>
          rw [mrgO_sel _ _ _ _ 0 _ k (by rw [kill_length]; exact hkN) (by simpa using hm) (by simpa using hq), Nat.zero_add] at hk
          cases hg : hpGet hp' (idx k sel) with
          | none => rw [hg] at hk; cases hk
          | some b1 => exact ⟨rfl, hE.full _ b1 (hpGet_eq.1 hg)⟩
      | false =>
        rw [if_neg (by simp)]
        rw [mrgO_not _ _ _ _ 0 _ k (by simpa using hm)] at hk
        cases kl with
        | nil => exact hf k b hk
        | cons j js =>
          obtain ⟨_, b0, h0, _⟩ := killH_some (j :: js) hp 0 k b hk
          exact hf k b0 h0
    · rw [if_neg hkN]
      rw [List.getElem?_append_right (by rw [mrgO_length, kill_length]; omega), mrgO_length, kill_length, mvO_get, List.getElem?_drop] at hk
      rw [show k - hp.length + sel.length = sel.length + (k - hp.length) by omega]
      cases hq : hp'[sel.length + (k - hp.length)]? with
      | none => rw [hq] at hk; cases hk
      | some o =>
        rw [hq] at hk
        cases o with
        | none => cases hk
        | some b1 => exact hE.full _ b1 hq
end Go.Eng

/- The engine, part U: a call as an operation. -/
namespace Go.Eng
open Go Go.RowKit

inductive CallV (P : Program) (hp : Hp) (f : Nat) (args : List Sv) (K : Sv → List Blk → List Nat → Prop) : Prop
  | mk (args' : List Sv) (res : Sv) (nb : List Blk) : ClL hp [] args args' → PCon P f args' res nb → K (res.mv (rho [] hp.length)) (nb.map (Blk.mv (rho [] hp.length))) [] → CallV P hp f args K
  /-- The first argument's block is handed over; what comes back is that block, under a new name. -/
  | take (k n : Nat) (rest args' : List Sv) (b b1 : Blk) (n' : Nat) : args = .own k n :: rest → selIn hp [k] [k] [b] → ClL hp [k] args args' → MCon P f args' [b] (fun r hp' => r = .own 0 n' ∧ hp' = [some b1]) → b1.clean = true → b1.grow = true → K (.own hp.length n') [b1] [k] → CallV P hp f args K

theorem okI_nil : okI [] [] = fun _ => true := by funext i; simp [okI, nth]
theorem mrgO_nil (hp' : Hp) (ρ : Nat → Nat) : ∀ (i : Nat) (hp : Hp), mrgO [] [] hp' ρ i hp = hp
  | _, [] => rfl
  | i, b :: bs => by simp [mrgO, memB, mrgO_nil hp' ρ (i + 1) bs]
theorem mvO_some (ρ : Nat → Nat) : ∀ nb : List Blk, mvO ρ (nb.map some) = (nb.map (Blk.mv ρ)).map some
  | [] => rfl
  | b :: nb => by simp [mvO, mvO_some ρ nb]

section
variable {G : Gm} {tm : List Sv} {hp : Hp} {o : Oper}

theorem resolve_value {P : Program} {ρ : Operand → Value} {g : Operand} {args : Array Operand} {tys : Array TypeId} {ty : Nat} {f : Nat} {caps : Array Value} (h : ρ g = .func (.func f) #[] caps) (hf : Callable P f) (w : World) :
    (do let d ← resolve ρ { callee := .value g, args := args, argTypes := tys } ty; invoke d.target d.args : Sem Next).run P w = .ok (.enter f (args.map ρ ++ caps)) w := by
  obtain ⟨fn, h1, h2, h3⟩ := hf
  have h2' : ¬ fn.name = "runtime.NumGoroutine" := by simpa using h2
  have h3' : ¬ fn.body = none := fun h => by rw [h] at h3; cases h3
  simp [resolve, h, Deferred.ofValue, invoke, callFunc, h1, h2', h3']


theorem RelT_append {c : Cx} : ∀ {l1 l2 : List Sv} {v1 v2 : List Value}, RelT l1 c v1 → RelT l2 c v2 → RelT (l1 ++ l2) c (v1 ++ v2)
  | [], _, _, _, h1, h2 => by simp only [RelT] at h1; subst h1; simpa using h2
  | s :: ss, _, _, _, h1, h2 => by
    simp only [RelT] at h1
    obtain ⟨u, us, e, hs, hl⟩ := h1
    subst e
    simp only [List.cons_append, RelT]
    exact ⟨u, _, rfl, hs, RelT_append hl h2⟩

/-- The walk of a call, up to the call itself. -/
theorem call_walk {g : Operand} {xs : Array Operand} {tys : Array TypeId} {f : Nat} {caps : List Sv} (ho : o.op = .call { callee := .value g, args := xs, argTypes := tys }) (hg : evO tm g = .clo f caps)
    {P : Program} (hcall : Callable P f) {F : Fence} (hF : Open F) {n : Nat} {c : Cx} {a : Act} {next : Act → World → Prop} {Q : Exit → Act → World → Prop} (ha : ∀ x ∈ o.op.operands, Rel (evO tm x) c (a.eval x))
    (h : ∀ vs : List Value, RelT (xs.toList.map (evO tm) ++ caps) c vs → Calls P f vs.toArray c.w fun e w' => ∃ v, e = .returned v ∧ next (a.put o.dst v) w') : o.wpIn F n P a c.w next Q := by
  have hgr := opnd_rel ha (by rw [ho]; simp [Op.operands, Call.operands]) hg
  simp only [Rel] at hgr
  obtain ⟨cv, hgv, hcv⟩ := hgr
  have hargs : RelT (xs.toList.map (evO tm)) c (xs.toList.map a.eval) := RelT_map _ fun x hx => ha x (by rw [ho]; simp [Op.operands, Call.operands]; right; simpa using hx)
  have hc := h _ (RelT_append hargs hcv)
  have hrun : (execOp a.eval o).run P c.w = .ok (.enter f (xs.map a.eval ++ cv.toArray)) c.w := by
    simp only [execOp, ho]
    exact resolve_value hgv hcall c.w
  have hvs : (xs.toList.map a.eval ++ cv).toArray = xs.map a.eval ++ cv.toArray := by
    apply Array.ext'
    simp
  rw [hvs] at hc
  refine ⟨fun f _ => hF.fn f, ?_⟩
  rw [Oper.semAt_eq _ _ _ (by rw [ho]; simp), hrun]
  refine ⟨fun h => (by rw [hF.depth] at h; cases h), ?_⟩
  have hin : CallsIn F (n - 1) P f (xs.map a.eval ++ cv.toArray) c.w (fun e w' => ∃ v, e = .returned v ∧ next (a.put o.dst v) w') := hF.callsIn hc
  refine hin.mono fun e w' hR => ?_
  obtain ⟨v, rfl, hE⟩ := hR
  exact hE

theorem killH_congr (kl : List Nat) : ∀ (hp hp2 : Hp) (i : Nat), hp.length = hp2.length → (∀ j, memB (i + j) kl = false → hp[j]? = hp2[j]?) → killH kl i hp = killH kl i hp2
  | [], hp2, i, hl, _ => by
    have : hp2 = [] := List.length_eq_zero_iff.1 hl.symm
    subst this
    rfl
  | x :: xs, [], i, hl, _ => by simp at hl
  | x :: xs, y :: ys, i, hl, h => by
    simp only [killH]
    rw [killH_congr kl xs ys (i + 1) (by simpa using hl) (fun j hj => by simpa using h (j + 1) (by rw [show i + (j + 1) = i + 1 + j by omega]; exact hj))]
    cases hm : memB i kl with
    | true => rfl
    | false =>
      have := h 0 (by simpa using hm)
      simp only [List.getElem?_cons_zero, Option.some.injEq] at this
      rw [this]
theorem callT_sound {g : Operand} {xs : Array Operand} {tys : Array TypeId} {f : Nat} {caps : List Sv} {K : Sv → List Blk → List Nat → Prop} (ho : o.op = .call { callee := .value g, args := xs, argTypes := tys }) (hg : evO tm g = .clo f caps)
    {k n n' : Nat} {rest args' : List Sv} {b b1 : Blk} (hargs : xs.toList.map (evO tm) ++ caps = .own k n :: rest) (hin : selIn hp [k] [k] [b]) (hcl : ClL hp [k] (xs.toList.map (evO tm) ++ caps) args')
    (hcon : MCon G.P f args' [b] (fun r hp' => r = .own 0 n' ∧ hp' = [some b1])) (hb1c : b1.clean = true) (hb1g : b1.grow = true) (hK : K (.own hp.length n') [b1] [k]) : ∃ s nb kl, K s nb kl ∧ EStep G.P o tm hp s nb kl := by
  refine ⟨_, _, _, hK, ?_⟩
  intro F nn w0 M c a next Q hF hI ha hn
  refine call_walk ho hg hcon.1 hF ha fun vs hvs => ?_
  have hDk : c.D k := by
    have hvs' := hvs
    rw [hargs] at hvs'
    simp only [RelT] at hvs'
    obtain ⟨u, us, _, hs, _⟩ := hvs'
    simp only [Rel] at hs
    exact hs.1
  have hsD : ∀ j ∈ [k], c.D j := fun j hj => by
    simp only [List.mem_cons, List.not_mem_nil, or_false] at hj
    subst hj
    exact hDk
  have hnd : [k].Nodup := by simp
  have hmk : memB k [k] = true := by simp [memB]
  have hmn : ∀ j, j ≠ k → memB j [k] = false := fun j hj => by simp [memB, hj]
  obtain ⟨_, hI1, hlen⟩ := hand_invD hI hsD hnd hin
  have hc := hcon.2 c.w (handM c [k]) (c.hand [k]) vs rfl hlen.symm (fun _ h => h) hI1 (fun j b h => by
    have := (List.getElem?_eq_some_iff.1 h).1
    show j < [k].length
    simpa using this) ((ClL.rel args' hcl hI hsD).2.1 vs hvs)
  refine hc.mono fun e w' hR => ?_
  obtain ⟨v, c', r, hp', rfl, ⟨rfl, rfl⟩, hE⟩ := hR
  refine ⟨v, rfl, ?_⟩
  obtain ⟨h1, _, h3, h4⟩ := call_post (kl := []) hI hnd (fun k h => by simp [memB] at h) hsD (fun i j h _ => by
      cases i with
      | zero => exact ⟨b1, rfl⟩
      | succ i => simp [nth] at h) hE (by simp [Sv.all, okI, nth, memB]) (fun i b2 hb _ hc2 => by
      cases i with
      | zero =>
        simp only [List.getElem?_cons_zero, Option.some.injEq] at hb
        subst hb
        rw [hb1c] at hc2; cases hc2
      | succ i => simp at hb)
  have hN : ∀ k, c.D k → k < hp.length := fun k hD => by
    obtain ⟨blk, e, _⟩ := hI.dom _ hD
    exact (List.getElem?_eq_some_iff.1 e).1
  have hkl := hN k hDk
  have hD0 : c'.D 0 := hE.full 0 b1 rfl
  have hE0 : c'.E 0 = c.E k := by
    rw [hE.inv.e0 0 (by show 0 < 1; omega) hD0]
    rfl
  generalize hc1 : mrgC c c' hp.length [k] [] = c1 at h1 h3 h4
  have hE1 : ∀ j, j < hp.length → c1.E j = c.E j := fun j hj => by subst hc1; simp [mrgC, hj]
  have hw1 : c1.w = c'.w := by subst hc1; rfl
  have hD1 : ∀ j, c1.D j ↔ c.D j := fun j => by
    subst hc1
    simp only [mrgC]
    by_cases hj : j < hp.length
    · rw [if_pos hj]
      by_cases hjk : j = k
      · subst hjk
        rw [if_pos hmk]
        simp [memB, idx, hD0, hDk]
      · rw [if_neg (by rw [hmn j hjk]; simp)]
    · rw [if_neg hj]
      constructor
      · intro h
        obtain ⟨blk, e, _⟩ := hE.inv.dom _ h
        have := (List.getElem?_eq_some_iff.1 e).1
        simp at this
      · intro h
        exact absurd (hN j h) hj
  have hH : mrgH hp [k] [] [some b1] = mrgO [k] [] [some b1] (rho [k] hp.length) 0 hp := by
    unfold mrgH
    simp [mvO, kill]
  have hHl : (mrgH hp [k] [] [some b1]).length = hp.length := by rw [hH, mrgO_length]
  have hKill : kill [k] (mrgH hp [k] [] [some b1]) = kill [k] hp := by
    rw [hH]
    unfold kill
    simp only
    refine killH_congr [k] _ _ 0 (mrgO_length _ _ _ _ _ _) fun j hj => ?_
    exact mrgO_not _ _ _ _ 0 hp j (by rw [Nat.zero_add] at hj ⊢; exact hj)
  have hHk : (mrgH hp [k] [] [some b1])[k]? = some (some b1) := by
    rw [hH, mrgO_sel _ _ _ _ 0 hp k hkl (by rw [Nat.zero_add]; exact hmk) (by simp [memB])]
    have hidx : idx (0 + k) [k] = 0 := by simp [idx]
    rw [hidx]
    show some (some (b1.mv _)) = _
    rw [Blk.mv_def]
    simp only [hb1c]
  obtain ⟨b2, hb2, hrel⟩ := h1.dom k ((hD1 k).2 hDk)
  rw [hHk] at hb2
  simp only [Option.some.injEq] at hb2
  subst hb2
  have hb0 : BlkRel ({ c1 with D := fun q => c1.D q ∧ memB q [k] = false, w := c1.w }.put (mrgH hp [k] [] [some b1]).length (c1.E k) c1.w) (mrgH hp [k] [] [some b1]).length b1 := by
    unfold BlkRel at hrel ⊢
    rw [putE]
    refine ⟨hrel.1, fun hn => ?_, fun hn => ?_⟩
    · exact hrel.2.1 hn
    · obtain ⟨arr, g1, g2, g3, g4⟩ := hrel.2.2 hn
      refine ⟨arr, g1, ?_, g3, g4⟩
      simp only [Blk.cx, hb1c, if_true] at g2 ⊢
      have hle0 : c1.shut.Le (fun _ => true) (Cx.put { c1 with D := fun q => c1.D q ∧ memB q [k] = false, w := c1.w } (mrgH hp [k] [] [some b1]).length (c1.E k) c1.w).shut := ⟨fun _ _ h => h.elim, fun _ h => h, fun _ _ h => h, fun _ _ => rfl⟩
      exact RelR.le _ (allR_true _) hle0 rfl g2
  have post := app_post (w' := c1.w) (row := none) (kl := [k]) h1 ⟨rfl, rfl, rfl, Nat.le_refl _, fun _ _ _ => rfl⟩ (fun q hq => by cases hq) (fun e1 => .inr ⟨k, (hD1 k).2 hDk, hmk, e1, rfl⟩) hb0 hb1g
  rw [hHl] at post
  have hfin := hn v (Cx.put { c1 with D := fun q => c1.D q ∧ memB q [k] = false, w := c1.w } hp.length (c1.E k) c1.w) {
      inv := by have := post.inv; rwa [hKill] at this
      le := ⟨fun j hj hD => by
          have hjk : memB j [k] = false := by simpa using hj
          obtain ⟨g1, g2⟩ := h3.ed j (by simp [memB]) hD
          obtain ⟨g3, g4⟩ := post.le.ed j (by simpa using hjk) g1
          exact ⟨g3, g4.trans g2⟩, fun b h => post.le.x b (h3.x b h), fun b h hg => post.le.b b (h3.x b h) (h3.b b h hg), fun b h => (post.le.heap b (h3.x b h)).trans (h3.heap b h)⟩
      dom := fun j => by
        have := post.dom j
        rw [hHl] at this
        rw [this, hD1]
      keep := fun j hj hjn => by
        show c1.w.heap[j]? = _
        rw [hw1]
        exact hE.inv.keep j hj (by
          rintro ⟨i, hi, hnl, e⟩
          simp only [List.mem_cons, List.not_mem_nil, or_false] at hi
          subst hi
          exact hjn i hDk hmk hnl e) (fun h => h)
      xdom := fun x hx => by
        have hx1 : c1.X x := hx
        rw [← hc1] at hx1
        rcases hx1 with h | ⟨h | ⟨i, hi, hnl, e⟩, hx'⟩
        · exact .inl h
        · exact .inr h
        · simp only [List.mem_cons, List.not_mem_nil, or_false] at hi
          subst hi
          exact absurd hx' (by
            intro hx'
            exact hE.inv.xsep 0 x hD0 (by rw [hE0]; exact hnl) hx' (by rw [hE0]; exact e))
      size := by
        show c.w.heap.size ≤ c1.w.heap.size
        rw [hw1]
        exact hE.inv.size
      fresh := fun j hj hD hnn => by
        rcases (post.dom j).1 hD with ⟨g, _⟩ | ⟨g1, g2⟩
        · have := hN j ((hD1 j).1 g); omega
        · have hjh : j = hp.length := by simp only [hHl, List.length_cons, List.length_nil] at g1 g2; omega
          subst hjh
          rw [putE] at hnn ⊢
          exact .inr ⟨k, hDk, hmk, by rw [← hE1 k hkl]; exact hnn, by rw [← hE1 k hkl]⟩
      cA := by subst hc1; rfl
      cC := by subst hc1; rfl
      cZ := by subst hc1; rfl
      nnil := fun j b3 hb3 _ => by
        cases j with
        | zero =>
          simp only [List.getElem?_cons_zero, Option.some.injEq] at hb3
          subst hb3
          exact hb1g
        | succ j => simp at hb3 } ?_
  · have : (Cx.put { c1 with D := fun q => c1.D q ∧ memB q [k] = false, w := c1.w } hp.length (c1.E k) c1.w).w = w' := hw1.trans hE.weq
    rwa [this] at hfin
  · have h4' : Rel (.own k n') c1 v := h4
    simp only [Rel] at h4' ⊢
    rw [putE]
    exact ⟨.inr rfl, h4'.2⟩
theorem callV_sound {g : Operand} {xs : Array Operand} {tys : Array TypeId} {f : Nat} {caps : List Sv} {K : Sv → List Blk → List Nat → Prop} (ho : o.op = .call { callee := .value g, args := xs, argTypes := tys }) (hg : evO tm g = .clo f caps)
    (h : CallV G.P hp f (xs.toList.map (evO tm) ++ caps) K) : ∃ s nb kl, K s nb kl ∧ EStep G.P o tm hp s nb kl := by
  rcases h with ⟨args', res, nb, hcl, hcon, hK⟩ | ⟨k, n, rest, args', b, b1, n', hargs, hin, hcl, hcon, hb1c, hb1g, hK⟩
  case take => exact callT_sound ho hg hargs hin hcl hcon hb1c hb1g hK
  refine ⟨_, _, _, hK, ?_⟩
  intro F n w0 M c a next Q hF hI ha hn
  refine call_walk ho hg hcon.1 hF ha fun vs hvs => ?_
  -- blocks of which nothing is known are none
  have hInil : Inv c.w (handM c []) (c.hand []) (([] : List Blk).map some) :=
    { dom := fun i hi => (by cases hi), inj := fun i _ hi _ => (by cases hi), xsep := fun i _ hi => (by cases hi), xlt := fun b h => h.1, xY := fun _ _ h => h, bnd := rfl, bndG := ⟨fun b h => .inr (h.imp id id), fun _ h => h.elim, fun _ _ _ _ _ _ h => h.elim⟩, e0 := fun _ _ _ => rfl, mlen := Nat.le_refl _, os := rfl, tape := rfl, output := rfl, size := Nat.le_refl _, keep := fun _ _ _ _ => rfl, loc := fun i hi => (by cases hi), x0 := fun b h => .inr (.inr h), ca := fun _ h => h.elim, cc := fun _ h => h.elim, zc := fun _ h => h.elim, z0 := fun _ h => h.elim, xk := fun _ h => h.elim, gh := fun i _ hi => (by cases hi) }
  have hc := hcon.2 c.w (handM c []) (c.hand []) vs rfl rfl (fun _ h => h) hInil (fun k b h => by simp at h) ((ClL.rel args' hcl hI (fun k hk => by cases hk)).2.1 vs hvs)
  refine hc.mono fun e w' hR => ?_
  obtain ⟨v, c', r, hp', rfl, ⟨rfl, rfl⟩, hE⟩ := hR
  refine ⟨v, rfl, ?_⟩
  obtain ⟨h1, _, h3, h4⟩ := call_post (kl := []) hI List.nodup_nil (fun k h => by simp [memB] at h) (fun k h => by cases h) (fun i k h => by simp [nth] at h) hE (by rw [okI_nil]; exact Sv.all_true _) (fun i b _ _ _ => by rw [okI_nil]; exact allR_true _)
  have hH : mrgH hp [] [] (nb.map some) = kill [] hp ++ (nb.map (Blk.mv (rho [] hp.length))).map some := by
    unfold mrgH
    rw [mrgO_nil, ← mvO_some]
    rfl
  rw [hH] at h1
  have hN : ∀ k, c.D k → k < hp.length := fun k hD => by
    obtain ⟨blk, e, _⟩ := hI.dom _ hD
    exact (List.getElem?_eq_some_iff.1 e).1
  have hnoM : ∀ j, ¬ (handM c []).M j := fun j => by rintro ⟨k, hk, _⟩; cases hk
  have hD2 : ∀ k, (mrgC c c' hp.length [] []).D k ↔ (k < hp.length ∧ c.D k) ∨ (hp.length ≤ k ∧ c'.D (k - hp.length)) := fun k => by
    simp only [mrgC, memB_nil, List.length_nil, Nat.add_zero]
    by_cases hk : k < hp.length
    · rw [if_pos hk, if_neg (by simp)]
      constructor
      · exact fun h => .inl ⟨hk, h⟩
      · rintro (h | h)
        · exact h.2
        · omega
    · rw [if_neg hk]
      constructor
      · exact fun h => .inr ⟨by omega, h⟩
      · rintro (h | h)
        · omega
        · exact h.2
  have := hn v (mrgC c c' hp.length [] []) {
      inv := h1
      le := h3
      dom := fun k => by
        rw [hD2]
        simp only [memB_nil, and_true, List.length_map]
        constructor
        · rintro (⟨_, h⟩ | ⟨h, hD⟩)
          · exact .inl h
          · obtain ⟨blk, e, _⟩ := hE.inv.dom _ hD
            have := (List.getElem?_eq_some_iff.1 e).1
            simp at this
            exact .inr ⟨h, by omega⟩
        · rintro (h | ⟨h, hl⟩)
          · exact .inl ⟨hN k h, h⟩
          · refine .inr ⟨h, hE.full _ (nb[k - hp.length]'(by omega)) ?_⟩
            rw [List.getElem?_map, List.getElem?_eq_getElem (by omega)]
            rfl
      keep := fun j hj _ => hE.inv.keep j hj (hnoM j) (fun h => h)
      xdom := fun b hb => hb.imp id (fun h => by
        rcases h.1 with h | ⟨k, hk, _⟩
        · exact h
        · cases hk)
      size := hE.inv.size
      fresh := fun k hk hD hn => by
        rcases (hD2 k).1 hD with ⟨h, _⟩ | ⟨h, hD'⟩
        · omega
        · have e : (mrgC c c' hp.length [] []).E k = c'.E (k - hp.length) := by simp only [mrgC]; rw [if_neg (by omega)]; rfl
          rw [e] at hn ⊢
          rcases hE.inv.loc _ hD' hn with h | h
          · exact absurd h (hnoM _)
          · exact .inl h
      cA := rfl
      cC := rfl
      cZ := rfl
      nnil := fun j b hb hn => by
        have e : (mrgC c c' hp.length [] []).E (hp.length + j) = c'.E j := by simp only [mrgC]; rw [if_neg (by omega)]; congr 1; simp
        rw [e] at hn
        rw [List.getElem?_map] at hb
        cases hq : nb[j]? with
        | none => rw [hq] at hb; cases hb
        | some q =>
          rw [hq] at hb
          simp only [Option.map_some, Option.some.injEq] at hb
          have hq' : (nb.map some)[j]? = some (some q) := by rw [List.getElem?_map, hq]; rfl
          have hD' := hE.full j q hq'
          obtain ⟨b0, e0, r0⟩ := hE.inv.dom j hD'
          rw [hq'] at e0
          cases e0
          have hbg : b.grow = q.grow := by rw [← hb, Blk.mv_def]; split <;> rfl
          rw [hbg]
          cases hg : q.grow with
          | true => rfl
          | false =>
            obtain ⟨_, _, h⟩ := hE.inv.gh j q hD' hq' hn hg
            exact h.elim } h4
  rwa [show (mrgC c c' hp.length [] []).w = w' from hE.weq] at this
end
end Go.Eng

/- The engine, part L: slices against nil; pointers and functions against nil; structs against structs. -/
namespace Go.Eng
open Go Go.RowKit

/-! ### Slices against nil -/
inductive NilB (n : Nat) (k : Bool → Prop) : Prop
  | mk : (∀ b, (n ≠ 0 → b = false) → k b) → NilB n k

def nilK (op : BinOp) (n : Nat) (K : Sv → Prop) : Prop :=
  match op with
  | .eql => NilB n fun b => K (.val (.bool b))
  | .neq => NilB n fun b => K (.val (.bool (!b)))
  | _ => False

def nilV (G : Gm) (op : BinOp) (t : Nat) (x : Sv) (K : Sv → Prop) : Prop :=
  Get (G.tab t) fun i => match i.kind with
    | .slice _ => match x with
      | .own _ n => nilK op n K
      | .sls _ _ n => nilK op n K
      | .ext _ _ rows => nilK op rows.length K
      | .val (.slice none 0 0) => match op with
        | .eql => K (.val (.bool true))
        | .neq => K (.val (.bool false))
        | _ => False
      | _ => False
    | .func => match x with
      | .clo _ _ => match op with
        | .eql => K (.val (.bool false))
        | .neq => K (.val (.bool true))
        | _ => False
      | .val .nilFunc => match op with
        | .eql => K (.val (.bool true))
        | .neq => K (.val (.bool false))
        | _ => False
      | _ => False
    | .ptr _ => match x with
      | .ptr _ _ _ => match op with
        | .eql => K (.val (.bool false))
        | .neq => K (.val (.bool true))
        | _ => False
      | .ref _ _ => match op with
        | .eql => K (.val (.bool false))
        | .neq => K (.val (.bool true))
        | _ => False
      | .val (.pointer none) => match op with
        | .eql => K (.val (.bool true))
        | .neq => K (.val (.bool false))
        | _ => False
      | _ => False
    | _ => False

/-- Is this the literal nil? -/
def isNil : Sv → Bool
  | .val (.slice none 0 0) => true
  | .val .nilFunc => true
  | .val (.pointer none) => true
  | _ => false

def nilFit (k : TK) (s : Sv) : Bool :=
  match k, s with
  | .slice _, .val (.slice none 0 0) => true
  | .func, .val .nilFunc => true
  | .ptr _, .val (.pointer none) => true
  | _, _ => false

section
variable {G : Gm} {tm : List Sv} {hp : Hp} {o : Oper}

/-- What an operation leaves that only looks: some value of which K is known. -/
def PureK (P : Program) (o : Oper) (tm : List Sv) (hp : Hp) (K : Sv → Prop) : Prop :=
  ∀ (w0 : World) (M : Frm) (c : Cx) (a : Act), Inv w0 M c hp → (∀ x ∈ o.op.operands, Rel (evO tm x) c (a.eval x)) →
    ∃ s v, K s ∧ (execOp a.eval o).run P c.w = .ok (.value v) c.w ∧ Rel s c v

theorem run_eq_slice {P : Program} {t e : Nat} (hd : P.underlying t = some (.slice e)) (a : Option Addr) (n m : Nat) (w : World) : (Op.equal t (.slice a n m) (.slice none 0 0)).run P w = .ok a.isNone w := by
  have h : ∀ d : Nat, (Op.equalIn (d + 1) t (.slice a n m) (.slice none 0 0)).run P w = .ok a.isNone w := fun d => by
    cases a <;> simp [Op.equalIn, run_underlying hd]
  exact h 9999
theorem run_eq_ptr {P : Program} {t e : Nat} (hd : P.underlying t = some (.pointer e)) (a : Option Addr) (w : World) : (Op.equal t (.pointer a) (.pointer none)).run P w = .ok a.isNone w := by
  have h : ∀ d : Nat, (Op.equalIn (d + 1) t (.pointer a) (.pointer none)).run P w = .ok a.isNone w := fun d => by
    cases a <;> simp [Op.equalIn, run_underlying hd]
  exact h 9999
theorem run_eq_func {P : Program} {t : Nat} {p q : Array Nat} {v : Bool} (hd : P.underlying t = some (.func p q v)) (f : Fn) (xs ys : Array Value) (w : World) : (Op.equal t (.func f xs ys) .nilFunc).run P w = .ok false w := by
  have h : ∀ d : Nat, (Op.equalIn (d + 1) t (.func f xs ys) .nilFunc).run P w = .ok false w := fun d => by
    simp [Op.equalIn, run_underlying hd]
  exact h 9999
theorem run_eq_nilFunc {P : Program} {t : Nat} {p q : Array Nat} {v : Bool} (hd : P.underlying t = some (.func p q v)) (w : World) : (Op.equal t .nilFunc .nilFunc).run P w = .ok true w := by
  have h : ∀ d : Nat, (Op.equalIn (d + 1) t .nilFunc .nilFunc).run P w = .ok true w := fun d => by
    simp [Op.equalIn, run_underlying hd]
  exact h 9999

theorem nilK_sound {op : BinOp} {n : Nat} {K : Sv → Prop} (h : nilK op n K) (b : Bool) (hb : n ≠ 0 → b = false) : (op = .eql ∧ K (.val (.bool b))) ∨ (op = .neq ∧ K (.val (.bool (!b)))) := by
  unfold nilK at h
  split at h
  · obtain ⟨h⟩ := h; exact .inl ⟨rfl, h b hb⟩
  · obtain ⟨h⟩ := h; exact .inr ⟨rfl, h b hb⟩
  · exact h.elim

theorem det_sound {op : BinOp} {b : Bool} {K : Sv → Prop} (h : match op with | .eql => K (.val (.bool b)) | .neq => K (.val (.bool (!b))) | _ => False) : (op = .eql ∧ K (.val (.bool b))) ∨ (op = .neq ∧ K (.val (.bool (!b)))) := by
  split at h
  · exact .inl ⟨rfl, h⟩
  · exact .inr ⟨rfl, h⟩
  · exact h.elim

theorem nilV_sound {op : BinOp} {t yt : Nat} {x y : Operand} {K : Sv → Prop} (ho : o.op = .binOp op t x y yt) (hy : isNil (evO tm y) = true) (h : nilV G op t (evO tm x) K)
    (hk : ∀ i, G.tab t = some i → match i.kind with | .slice _ => evO tm y = .val (.slice none 0 0) | .func => evO tm y = .val .nilFunc | .ptr _ => evO tm y = .val (.pointer none) | _ => True) : PureK G.P o tm hp K := by
  obtain ⟨i, hi, h⟩ := h
  obtain ⟨d, hd, hf⟩ := (G.ok t i hi).desc
  have hk := hk i hi
  intro w0 M c A hI ha
  have h1 := ha x (by rw [ho]; simp [Op.operands])
  have h2 := ha y (by rw [ho]; simp [Op.operands])
  have fin : ∀ (u v : Value) (b : Bool), A.eval x = u → A.eval y = v → (∀ w, (eqGuard op t x y u v).run G.P w = .ok () w) → (Op.equal t u v).run G.P c.w = .ok b c.w → (∀ cp, (∀ k n, u ≠ .int k n) ∧ (∀ s, u ≠ .string s) ∧ (∀ k n, u ≠ .float k n) ∧ (∀ k n m, u ≠ .complex k n m) ∨ cp = false) →
      ((op = .eql ∧ K (.val (.bool b))) ∨ (op = .neq ∧ K (.val (.bool (!b))))) → ∃ s v, K s ∧ (execOp A.eval o).run G.P c.w = .ok (.value v) c.w ∧ Rel s c v := by
    intro u v b e1 e2 hg he hne hh
    have hne := (hne true).resolve_right (by simp)
    obtain ⟨n1, n2, n3, n4⟩ := hne
    rcases hh with ⟨rfl, hK⟩ | ⟨rfl, hK⟩
    · refine ⟨_, .bool b, hK, ?_, by simp [Rel]⟩
      have hrun : (binOp .eql t u v).run G.P c.w = .ok (.bool b) c.w := by
        cases u <;> first | (exact absurd rfl (n1 _ _)) | (exact absurd rfl (n2 _)) | (exact absurd rfl (n3 _ _)) | (exact absurd rfl (n4 _ _ _)) | simp [binOp, he]
      simp [execOp, ho, e1, e2, hg, hrun]
    · refine ⟨_, .bool (!b), hK, ?_, by simp [Rel]⟩
      have hrun : (binOp .neq t u v).run G.P c.w = .ok (.bool (!b)) c.w := by
        cases u <;> first | (exact absurd rfl (n1 _ _)) | (exact absurd rfl (n2 _)) | (exact absurd rfl (n3 _ _)) | (exact absurd rfl (n4 _ _ _)) | simp [binOp, he]
      simp [execOp, ho, e1, e2, hg, hrun]
  have gs : ∀ a n m w, (eqGuard op t x y (.slice a n m) (.slice none 0 0)).run G.P w = .ok () w := fun a n m w => by unfold eqGuard; cases op <;> rfl
  have gp : ∀ a w, (eqGuard op t x y (.pointer a) (.pointer none)).run G.P w = .ok () w := fun a w => by unfold eqGuard; cases op <;> rfl
  have gf : ∀ f a b w, (eqGuard op t x y (.func f a b) .nilFunc).run G.P w = .ok () w := fun f a b w => by unfold eqGuard; cases op <;> rfl
  have gn : ∀ w, (eqGuard op t x y .nilFunc .nilFunc).run G.P w = .ok () w := fun w => by unfold eqGuard; cases op <;> rfl
  split at h
  · rename_i e hkd
    rw [hkd] at hf hk
    simp only [TK.fits] at hf hk
    subst hf
    rw [hk] at h2
    simp only [Rel] at h2
    split at h
    · rename_i k n hx
      rw [hx] at h1
      simp only [Rel] at h1
      obtain ⟨_, ⟨_, hv, hn⟩ | ⟨_, hv, _⟩⟩ := h1
      · exact fin _ _ _ hv h2 (gs _ _ _) (run_eq_slice hd _ _ _ _) (fun _ => .inl (by simp)) (nilK_sound h _ (fun hne => absurd hn hne))
      · exact fin _ _ _ hv h2 (gs _ _ _) (run_eq_slice hd _ _ _ _) (fun _ => .inl (by simp)) (nilK_sound h _ (fun _ => rfl))
    · rename_i k lo n hx
      rw [hx] at h1
      simp only [Rel] at h1
      obtain ⟨_, a, cap, hv, _, h3⟩ := h1
      exact fin _ _ _ hv h2 (gs _ _ _) (run_eq_slice hd _ _ _ _) (fun _ => .inl (by simp)) (nilK_sound h _ (fun hne => by rcases h3 with h3 | ⟨_, rfl⟩; exact absurd h3 hne; rfl))
    · rename_i fr wd rows hx
      rw [hx] at h1
      simp only [Rel] at h1
      obtain ⟨a, cap, hv, _, h3⟩ := h1
      exact fin _ _ _ hv h2 (gs _ _ _) (run_eq_slice hd _ _ _ _) (fun _ => .inl (by simp)) (nilK_sound h _ (fun hne => by rcases h3 with h3 | ⟨_, _, rfl, _⟩; (rw [h3] at hne; exact absurd rfl hne); rfl))
    · rename_i hx
      rw [hx] at h1
      simp only [Rel] at h1
      exact fin _ _ true h1 h2 (gs _ _ _) (run_eq_slice hd _ _ _ _) (fun _ => .inl (by simp)) (det_sound (b := true) h)
    · exact h.elim
  · rename_i hkd
    rw [hkd] at hf hk
    simp only [TK.fits] at hf hk
    obtain ⟨p, q, v, rfl⟩ := hf
    rw [hk] at h2
    simp only [Rel] at h2
    split at h
    · rename_i f caps hx
      rw [hx] at h1
      simp only [Rel] at h1
      obtain ⟨vs, hv, _⟩ := h1
      exact fin _ _ false hv h2 (gf _ _ _) (run_eq_func hd _ _ _ _) (fun _ => .inl (by simp)) (det_sound (b := false) h)
    · rename_i hx
      rw [hx] at h1
      simp only [Rel] at h1
      exact fin _ _ true h1 h2 gn (run_eq_nilFunc hd _) (fun _ => .inl (by simp)) (det_sound (b := true) h)
    · exact h.elim
  · rename_i e hkd
    rw [hkd] at hf hk
    simp only [TK.fits] at hf hk
    subst hf
    rw [hk] at h2
    simp only [Rel] at h2
    split at h
    · rename_i k r q hx
      rw [hx] at h1
      simp only [Rel] at h1
      obtain ⟨_, _, hv⟩ := h1
      exact fin _ _ false hv h2 (gp _) (run_eq_ptr hd _ _) (fun _ => .inl (by simp)) (det_sound (b := false) h)
    · rename_i cs hx
      rw [hx] at h1
      simp only [Rel] at h1
      obtain ⟨b, off, hv, _⟩ := h1
      exact fin _ _ false hv h2 (gp _) (run_eq_ptr hd _ _) (fun _ => .inl (by simp)) (det_sound (b := false) h)
    · rename_i hx
      rw [hx] at h1
      simp only [Rel] at h1
      exact fin _ _ true h1 h2 (gp _) (run_eq_ptr hd _ _) (fun _ => .inl (by simp)) (det_sound (b := true) h)
    · exact h.elim
  · exact h.elim

/-! ### Structs against structs -/
/-- What the machine looks at besides the fields. -/
def eqOk (P : Program) (t : Nat) : Bool :=
  P.eqGuardType P.depth t == false && P.stoodInHeld t == false && match P.underlying t with | some (.struct F) => F.toList.all (fun f => !(f.name == "_")) | _ => false

def eqOkA (P : Program) (t : Nat) : Bool := P.eqGuardType P.depth t == false

def valB (k : TK) (x y : Sv) (K : Bool → Prop) : Prop :=
  match k, x, y with
  | .int k, .val (.int k1 a), .val (.int k2 b) => Need (k1 = k ∧ k2 = k) (K (a == b))
  | .bool, .val (.bool a), .val (.bool b) => K (a == b)
  | _, _, _ => False

def eqFs (G : Gm) (cs ds : List Sv) : List (Nat × Nat) → (Bool → Prop) → Prop
  | [], K => K true
  | (off, t) :: fs, K => Get (G.tab t) fun i => Get (nth cs off) fun x => Get (nth ds off) fun y => valB i.kind x y fun b => match fs with
      | [] => K b
      | f :: fs => eqFs G cs ds (f :: fs) fun r => K (b && r)

def eqV (G : Gm) (op : BinOp) (t : Nat) (cs ds : List Sv) (K : Sv → Prop) : Prop :=
  Get (G.tab t) fun i => match i.kind with
    | .struct fs => Need (eqOk G.P t = true) <| eqFs G cs ds fs fun b => match op with
      | .eql => K (.val (.bool b))
      | .neq => K (.val (.bool (!b)))
      | _ => False
    | .arr n e => Get (G.tab e) fun j => Need (eqOkA G.P t = true) <| eqFs G cs ds (arrFs n j.size e) fun b => match op with
      | .eql => K (.val (.bool b))
      | .neq => K (.val (.bool (!b)))
      | _ => False
    | _ => False

theorem run_equal_int {P : Program} {t : Nat} {k : IntKind} (hd : P.underlying t = some (.int k)) (d : Nat) (a b : Int) (w : World) : (Op.equalIn (d + 1) t (.int k a) (.int k b)).run P w = .ok (a == b) w := by
  simp [Op.equalIn, run_underlying hd]
theorem run_equal_boolIn {P : Program} {t : Nat} (hd : P.underlying t = some .bool) (d : Nat) (a b : Bool) (w : World) : (Op.equalIn (d + 1) t (.bool a) (.bool b)).run P w = .ok (a == b) w := by
  simp [Op.equalIn, run_underlying hd]

/-- A part's own comparison. -/
theorem valB_sound {cs ds : List Sv} {t off : Nat} {i : TI} {x y : Sv} (ht : TIok G.P t i) (hx : cs[off]? = some x) (hy : ds[off]? = some y) {K' : Bool → Prop} (hv : valB i.kind x y K') : ∃ b, K' b ∧ ∀ (c : Cx) (us vs : List Value), RelL cs c us → RelL ds c vs → ∀ d,
    ∃ a a', (part t us.toArray off).run G.P c.w = .ok a c.w ∧ (part t vs.toArray off).run G.P c.w = .ok a' c.w ∧ (Op.equalIn (d + 1) t a a').run G.P c.w = .ok b c.w := by
  have getp : ∀ {zs : List Sv} {z : Sv} {c : Cx} {us : List Value} {v : Value}, i.kind.agg = false → zs[off]? = some z → RelL zs c us → z = .val v → (part t us.toArray off).run G.P c.w = .ok v c.w := by
    intro zs z c us v hagg hz hr hzv
    have hlt := (List.getElem?_eq_some_iff.1 hz).1
    have hlen := RelL_len _ hr
    have := RelL_get _ hr off z us[off] hz (List.getElem?_eq_getElem (by omega))
    rw [hzv] at this
    simp only [Rel] at this
    unfold part
    simp only [Sem.run_bind, ht.run_isAgg, hagg, Result.andThen_ok]
    simp [this, show off < us.length by omega]
  unfold valB at hv
  split at hv
  · rename_i k k1 a k2 b hk
    obtain ⟨⟨rfl, rfl⟩, hv⟩ := hv
    obtain ⟨D, hD, hf⟩ := ht.desc
    rw [hk] at hf
    simp only [TK.fits] at hf
    subst hf
    exact ⟨_, hv, fun c us vs hu hv d => ⟨_, _, getp (by rw [hk]; rfl) hx hu rfl, getp (by rw [hk]; rfl) hy hv rfl, run_equal_int hD d a b c.w⟩⟩
  · rename_i a b hk
    obtain ⟨D, hD, hf⟩ := ht.desc
    rw [hk] at hf
    simp only [TK.fits] at hf
    subst hf
    exact ⟨_, hv, fun c us vs hu hv d => ⟨_, _, getp (by rw [hk]; rfl) hx hu rfl, getp (by rw [hk]; rfl) hy hv rfl, run_equal_boolIn hD d a b c.w⟩⟩
  · exact hv.elim
theorem eqFs_sound {cs ds : List Sv} : ∀ (fs : List Field) (K : Bool → Prop), fs.all (fun f => !(f.name == "_")) = true → eqFs G cs ds (fs.map fun f => (f.offset, f.type)) K →
    ∃ b, K b ∧ ∀ (c : Cx) (us vs : List Value), RelL cs c us → RelL ds c vs → ∀ d, (Op.eqFields (d + 1) us.toArray vs.toArray fs).run G.P c.w = .ok b c.w
  | [], K, _, h => ⟨true, h, fun c us vs _ _ d => by simp [Op.eqFields]⟩
  | f :: fs, K, hn, h => by
    simp only [List.all_cons, Bool.and_eq_true] at hn
    obtain ⟨hn1, hn2⟩ := hn
    have hn' : f.name ≠ "_" := by simpa using hn1
    simp only [List.map_cons] at h
    unfold eqFs at h
    obtain ⟨i, hi, x, hx, y, hy, h⟩ := h
    have ht := G.ok _ _ hi
    rw [nth_eq] at hx hy
    obtain ⟨b, h, hb⟩ := valB_sound ht hx hy h
    cases hfs : fs with
    | nil =>
      subst hfs
      refine ⟨b, h, fun c us vs hu hv d => ?_⟩
      obtain ⟨a, a', h1, h2, h3⟩ := hb c us vs hu hv d
      simp only [Op.eqFields, if_pos hn', Sem.run_bind, h1, h2, h3, Result.andThen_ok]
      cases b <;> simp
    | cons g gs =>
      subst hfs
      simp only [List.map_cons] at h
      obtain ⟨r, hK, hr⟩ := eqFs_sound (g :: gs) _ hn2 h
      refine ⟨b && r, hK, fun c us vs hu hv d => ?_⟩
      obtain ⟨a, a', h1, h2, h3⟩ := hb c us vs hu hv d
      rw [Op.eqFields]
      simp only [if_pos hn', Sem.run_bind, h1, h2, h3, Result.andThen_ok]
      cases b
      · simp
      · simpa using hr c us vs hu hv d
theorem eqIs_sound {cs ds : List Sv} {e z : Nat} : ∀ (is : List Nat) (K : Bool → Prop), eqFs G cs ds (is.map fun i => (i * z, e)) K →
    ∃ b, K b ∧ ∀ (c : Cx) (us vs : List Value), RelL cs c us → RelL ds c vs → ∀ d, (Op.eqItems (d + 1) e z us.toArray vs.toArray is).run G.P c.w = .ok b c.w
  | [], K, h => ⟨true, h, fun c us vs _ _ d => by simp [Op.eqItems]⟩
  | k :: is, K, h => by
    simp only [List.map_cons] at h
    unfold eqFs at h
    obtain ⟨i, hi, x, hx, y, hy, h⟩ := h
    have ht := G.ok _ _ hi
    rw [nth_eq] at hx hy
    obtain ⟨b, h, hb⟩ := valB_sound ht hx hy h
    cases his : is with
    | nil =>
      subst his
      refine ⟨b, h, fun c us vs hu hv d => ?_⟩
      obtain ⟨a, a', h1, h2, h3⟩ := hb c us vs hu hv d
      simp only [Op.eqItems, Sem.run_bind, h1, h2, h3, Result.andThen_ok]
      cases b <;> simp
    | cons g gs =>
      subst his
      simp only [List.map_cons] at h
      obtain ⟨r, hK, hr⟩ := eqIs_sound (g :: gs) _ h
      refine ⟨b && r, hK, fun c us vs hu hv d => ?_⟩
      obtain ⟨a, a', h1, h2, h3⟩ := hb c us vs hu hv d
      rw [Op.eqItems]
      simp only [Sem.run_bind, h1, h2, h3, Result.andThen_ok]
      cases b
      · simp
      · simpa using hr c us vs hu hv d

theorem eqV_sound {op : BinOp} {t yt : Nat} {x y : Operand} {cs ds : List Sv} {K : Sv → Prop} (ho : o.op = .binOp op t x y yt) (hx : evO tm x = .agg cs) (hy : evO tm y = .agg ds) (h : eqV G op t cs ds K) : ∃ s, K s ∧ PureS G.P o tm hp s := by
  obtain ⟨i, hi, h⟩ := h
  obtain ⟨d, hd, hf⟩ := (G.ok t i hi).desc
  split at h
  · rename_i fs hkd
    rw [hkd] at hf
    obtain ⟨F, rfl, hF⟩ := hf
    obtain ⟨hok, h⟩ := h
    unfold eqOk at hok
    rw [hd] at hok
    simp only [Bool.and_eq_true, beq_iff_eq] at hok
    obtain ⟨⟨hg1, hst⟩, hnm⟩ := hok
    rw [← hF] at h
    obtain ⟨b, h, hb⟩ := eqFs_sound F.toList _ hnm h
    have hfld : G.P.fieldsOf t = F := by simp [Program.fieldsOf, hd]
    have he : ∀ (c : Cx) (us vs : List Value), RelL cs c us → RelL ds c vs → (Op.equal t (.agg us.toArray) (.agg vs.toArray)).run G.P c.w = .ok b c.w := by
      intro c us vs hu hv
      have := run_equalIn_struct (P := G.P) (w := c.w) 9999 t us.toArray vs.toArray (by rw [hfld]; exact hd) hst
      rw [hfld, hb c us vs hu hv 9998] at this
      exact this
    have hg : ∀ (us vs : Array Value) w, (eqGuard op t x y (.agg us) (.agg vs)).run G.P w = .ok () w := by
      intro us vs w
      unfold eqGuard
      cases op <;> first | rfl | simp [run_program, hg1]
    split at h
    · refine ⟨_, h, fun w0 M c A hI ha => ⟨.bool b, ?_, by simp [Rel]⟩⟩
      have h1 := ha x (by rw [ho]; simp [Op.operands])
      have h2 := ha y (by rw [ho]; simp [Op.operands])
      rw [hx] at h1
      rw [hy] at h2
      simp only [Rel] at h1 h2
      obtain ⟨us, e1, hu⟩ := h1
      obtain ⟨vs, e2, hv⟩ := h2
      simp [execOp, ho, e1, e2, hg, binOp, he c us vs hu hv]
    · refine ⟨_, h, fun w0 M c A hI ha => ⟨.bool (!b), ?_, by simp [Rel]⟩⟩
      have h1 := ha x (by rw [ho]; simp [Op.operands])
      have h2 := ha y (by rw [ho]; simp [Op.operands])
      rw [hx] at h1
      rw [hy] at h2
      simp only [Rel] at h1 h2
      obtain ⟨us, e1, hu⟩ := h1
      obtain ⟨vs, e2, hv⟩ := h2
      simp [execOp, ho, e1, e2, hg, binOp, he c us vs hu hv]
    · exact h.elim
  · rename_i n e hkd
    rw [hkd] at hf
    simp only [TK.fits] at hf
    subst hf
    obtain ⟨j, hj, hok, h⟩ := h
    unfold eqOkA at hok
    simp only [beq_iff_eq] at hok
    have hg1 := hok
    obtain ⟨b, h, hb⟩ := eqIs_sound (List.range n) _ h
    obtain ⟨I, hI, hsz, _⟩ := (G.ok e j hj).info
    have he : ∀ (c : Cx) (us vs : List Value), RelL cs c us → RelL ds c vs → (Op.equal t (.agg us.toArray) (.agg vs.toArray)).run G.P c.w = .ok b c.w := by
      intro c us vs hu hv
      have h1 := run_equalIn_array (P := G.P) (w := c.w) 9999 (t := t) us.toArray vs.toArray hd hI
      have h2 := run_sizeOf (P := G.P) c.w hI
      rw [(G.ok e j hj).run_sizeOf] at h2
      rw [← (Result.ok.inj h2).1, hb c us vs hu hv 9998] at h1
      exact h1
    have hg : ∀ (us vs : Array Value) w, (eqGuard op t x y (.agg us) (.agg vs)).run G.P w = .ok () w := by
      intro us vs w
      unfold eqGuard
      cases op <;> first | rfl | simp [run_program, hg1]
    split at h
    · refine ⟨_, h, fun w0 M c A hI ha => ⟨.bool b, ?_, by simp [Rel]⟩⟩
      have h1 := ha x (by rw [ho]; simp [Op.operands])
      have h2 := ha y (by rw [ho]; simp [Op.operands])
      rw [hx] at h1
      rw [hy] at h2
      simp only [Rel] at h1 h2
      obtain ⟨us, e1, hu⟩ := h1
      obtain ⟨vs, e2, hv⟩ := h2
      simp [execOp, ho, e1, e2, hg, binOp, he c us vs hu hv]
    · refine ⟨_, h, fun w0 M c A hI ha => ⟨.bool (!b), ?_, by simp [Rel]⟩⟩
      have h1 := ha x (by rw [ho]; simp [Op.operands])
      have h2 := ha y (by rw [ho]; simp [Op.operands])
      rw [hx] at h1
      rw [hy] at h2
      simp only [Rel] at h1 h2
      obtain ⟨us, e1, hu⟩ := h1
      obtain ⟨vs, e2, hv⟩ := h2
      simp [execOp, ho, e1, e2, hg, binOp, he c us vs hu hv]
    · exact h.elim
  · exact h.elim
end
theorem EPost.same {w0 : World} {M : Frm} {c : Cx} {hp : Hp} (hI : Inv w0 M c hp) : EPost w0 M c c hp [] [] :=
  { inv := by simpa [kill] using hI
    le := ⟨fun _ _ h => ⟨h, rfl⟩, fun _ h => h, fun _ _ h => h, fun _ _ => rfl⟩
    dom := fun k => by simp [memB]; omega
    keep := fun _ _ _ => rfl
    xdom := fun _ h => .inl h
    size := Nat.le_refl _
    fresh := fun k hk hD _ => by
      obtain ⟨blk, e, _⟩ := hI.dom k hD
      have := (List.getElem?_eq_some_iff.1 e).1
      omega
    cA := rfl
    cC := rfl
    cZ := rfl
    nnil := fun j b h => by simp at h }
end Go.Eng

/- The engine, part Y: a function that is ranged over calls its loop's body. -/
namespace Go.Eng
open Go Go.RowKit

/-- All contents outside lie in new memory. -/
def Sv.Fr : Sv → Prop
  | .agg cs => go cs
  | .tup cs => go cs
  | .clo _ cs => go cs
  | .ext fr _ rows => fr = true ∧ goR rows
  | .ref fr cs => fr = true ∧ go cs
  | _ => True
where
  go : List Sv → Prop
    | [] => True
    | s :: ss => s.Fr ∧ go ss
  goR : List (List Sv) → Prop
    | [] => True
    | r :: rs => go r ∧ goR rs

abbrev FrL := Sv.Fr.go
abbrev FrR := Sv.Fr.goR

theorem FrR_map {α : Type} (f : α → List Sv) (h : ∀ x, FrL (f x)) : ∀ xs : List α, FrR (xs.map f)
  | [] => trivial
  | x :: xs => ⟨h x, FrR_map f h xs⟩
theorem FrR_append : ∀ {rs qs : List (List Sv)}, FrR rs → FrR qs → FrR (rs ++ qs)
  | [], _, _, h => h
  | _ :: _, _, h, g => ⟨h.1, FrR_append h.2 g⟩
theorem FrR_take : ∀ (n : Nat) {rs : List (List Sv)}, FrR rs → FrR (rs.take n)
  | 0, _, _ => by simp [Sv.Fr.goR]
  | n + 1, [], _ => by simp [Sv.Fr.goR]
  | n + 1, r :: rs, h => ⟨h.1, FrR_take n h.2⟩
theorem FrR_drop : ∀ (n : Nat) {rs : List (List Sv)}, FrR rs → FrR (rs.drop n)
  | 0, _, h => by simpa using h
  | n + 1, [], _ => by simp [Sv.Fr.goR]
  | n + 1, r :: rs, h => by simpa using FrR_drop n h.2

/-- Contents in new memory are kept where new memory is let in. -/
structure Fs (c c' : Cx) : Prop where
  d : ∀ k, ¬ c.D k
  x : ∀ b, c.X b → c.G b → c'.X b
  b : c'.G = c.G
  w : c'.w = c.w
theorem Fs.shut {c c' : Cx} (h : Fs c c') : Fs c.shut c'.shut := ⟨fun _ h => h, h.x, h.b, h.w⟩

mutual
theorem Rel.fresh : ∀ (s : Sv) {c c' : Cx} {v : Value}, s.Fr → Fs c c' → Rel s c v → Rel s c' v
  | .val _, _, _, _, _, _, r => by simpa [Rel] using r
  | .any, _, _, _, _, _, _ => by simp [Rel]
  | .ptr k _ _, _, _, _, _, h, r => by simp only [Rel] at r; exact (h.d k r.1).elim
  | .own k _, _, _, _, _, h, r => by simp only [Rel] at r; exact (h.d k r.1).elim
  | .sls k _ _, _, _, _, _, h, r => by simp only [Rel] at r; exact (h.d k r.1).elim
  | .agg cs, _, _, _, hf, h, r => by
    simp only [Rel, Sv.Fr] at r hf ⊢
    obtain ⟨vs, e, hl⟩ := r
    exact ⟨vs, e, RelL.fresh cs hf h hl⟩
  | .tup cs, _, _, _, hf, h, r => by
    simp only [Rel, Sv.Fr] at r hf ⊢
    obtain ⟨vs, e, hl⟩ := r
    exact ⟨vs, e, RelT.fresh cs hf h hl⟩
  | .ext fr wd rows, _, _, _, hf, h, r => by
    simp only [Rel, Sv.Fr] at r hf ⊢
    obtain ⟨a, cap, e, hc, hr⟩ := r
    refine ⟨a, cap, e, hc, hr.imp id ?_⟩
    rintro ⟨b, off, ea, hx, hb, hr⟩
    exact ⟨b, off, ea, h.x b hx (hb hf.1), fun e => by rw [h.b]; exact hb e, RelR.fresh rows hf.2 h.shut hr⟩
  | .ref fr cs, _, _, _, hf, h, r => by
    simp only [Rel, Sv.Fr] at r hf ⊢
    obtain ⟨b, off, e, hx, hb, hr⟩ := r
    exact ⟨b, off, e, h.x b hx (hb hf.1), fun e => by rw [h.b]; exact hb e, RelC.fresh cs hf.2 h.shut hr⟩
  | .clo f cs, _, _, _, hf, h, r => by
    simp only [Rel, Sv.Fr] at r hf ⊢
    obtain ⟨vs, e, hl⟩ := r
    exact ⟨vs, e, RelT.fresh cs hf h hl⟩
theorem RelL.fresh : ∀ (ss : List Sv) {c c' : Cx} {vs : List Value}, FrL ss → Fs c c' → RelL ss c vs → RelL ss c' vs
  | [], _, _, _, _, _, r => by simpa [RelL] using r
  | s :: ss, _, _, _, hf, h, r => by
    simp only [RelL, Sv.Fr.go] at r hf ⊢
    obtain ⟨u, us, e, h1, hs, hl⟩ := r
    exact ⟨u, us, e, h1, Rel.fresh s hf.1 h hs, RelL.fresh ss hf.2 h hl⟩
theorem RelT.fresh : ∀ (ss : List Sv) {c c' : Cx} {vs : List Value}, FrL ss → Fs c c' → RelT ss c vs → RelT ss c' vs
  | [], _, _, _, _, _, r => by simpa [RelT] using r
  | s :: ss, _, _, _, hf, h, r => by
    simp only [RelT, Sv.Fr.go] at r hf ⊢
    obtain ⟨u, us, e, hs, hl⟩ := r
    exact ⟨u, us, e, Rel.fresh s hf.1 h hs, RelT.fresh ss hf.2 h hl⟩
theorem RelC.fresh : ∀ (ss : List Sv) {c c' : Cx} {b off : Nat}, FrL ss → Fs c c' → RelC ss c b off → RelC ss c' b off
  | [], _, _, _, _, _, _, _ => by simp [RelC]
  | s :: ss, _, _, b, off, hf, h, r => by
    simp only [RelC, Sv.Fr.go] at r hf ⊢
    obtain ⟨⟨u, e, h1, hs⟩, hl⟩ := r
    exact ⟨⟨u, by rw [h.w]; exact e, h1, Rel.fresh s hf.1 h hs⟩, RelC.fresh ss hf.2 h hl⟩
theorem RelR.fresh : ∀ (rs : List (List Sv)) {c c' : Cx} {wd b off : Nat}, FrR rs → Fs c c' → RelR rs c wd b off → RelR rs c' wd b off
  | [], _, _, _, _, _, _, _, _ => by simp [RelR]
  | r :: rs, _, _, wd, b, off, hf, h, q => by
    simp only [RelR, Sv.Fr.goR] at q hf ⊢
    exact ⟨q.1, RelC.fresh r hf.1 h q.2.1, RelR.fresh rs hf.2 h q.2.2⟩
end


theorem FrR_all : ∀ {rs : List (List Sv)}, (∀ r ∈ rs, FrL r) → FrR rs
  | [], _ => by simp [Sv.Fr.goR]
  | r :: rs, h => by
    simp only [Sv.Fr.goR]
    exact ⟨h r (by simp), FrR_all fun q hq => h q (by simp [hq])⟩

/-- Contents for good are kept where only what is for good is let in; blocks stay. -/
def Cx.pick (c : Cx) : Cx := { c with X := fun b => c.X b ∧ c.G b }
theorem pick_shut (c : Cx) : Fs c.shut c.pick.shut := ⟨fun _ h => h, fun b hx hg => ⟨hx, hg⟩, rfl, rfl⟩
mutual
theorem Rel.pick : ∀ (s : Sv) {c : Cx} {v : Value}, s.Fr → Rel s c v → Rel s c.pick v
  | .val x, _, _, _, r => by simpa [Rel] using r
  | .any, _, _, _, _ => by simp [Rel]
  | .agg cs, _, _, hf, r => by
    simp only [Rel] at r ⊢
    obtain ⟨vs, e, hl⟩ := r
    exact ⟨vs, e, RelL.pick cs (by simpa [Sv.Fr] using hf) hl⟩
  | .tup cs, _, _, hf, r => by
    simp only [Rel] at r ⊢
    obtain ⟨vs, e, hl⟩ := r
    exact ⟨vs, e, RelT.pick cs (by simpa [Sv.Fr] using hf) hl⟩
  | .ptr _ _ _, _, _, _, r => by simp only [Rel] at r ⊢; exact r
  | .own _ _, _, _, _, r => by simp only [Rel] at r ⊢; exact r
  | .sls _ _ _, _, _, _, r => by simp only [Rel] at r ⊢; exact r
  | .ext fr wd rows, c, _, hf, r => by
    simp only [Sv.Fr] at hf
    simp only [Rel] at r ⊢
    obtain ⟨a, cap, e, hc, hr⟩ := r
    refine ⟨a, cap, e, hc, hr.imp id ?_⟩
    rintro ⟨b, off, ea, hx, hg, hr⟩
    exact ⟨b, off, ea, ⟨hx, hg hf.1⟩, hg, RelR.fresh _ hf.2 (pick_shut c) hr⟩
  | .ref fr cs, c, _, hf, r => by
    simp only [Sv.Fr] at hf
    simp only [Rel] at r ⊢
    obtain ⟨b, off, e, hx, hg, hr⟩ := r
    exact ⟨b, off, e, ⟨hx, hg hf.1⟩, hg, RelC.fresh _ hf.2 (pick_shut c) hr⟩
  | .clo f cs, _, _, hf, r => by
    simp only [Rel] at r ⊢
    obtain ⟨vs, e, hl⟩ := r
    exact ⟨vs, e, RelT.pick cs (by simpa [Sv.Fr] using hf) hl⟩
theorem RelL.pick : ∀ (ss : List Sv) {c : Cx} {vs : List Value}, FrL ss → RelL ss c vs → RelL ss c.pick vs
  | [], _, _, _, r => by simpa [RelL] using r
  | s :: ss, _, _, hf, r => by
    simp only [Sv.Fr.go] at hf
    simp only [RelL] at r ⊢
    obtain ⟨u, us, e, h1, hs, hl⟩ := r
    exact ⟨u, us, e, h1, Rel.pick s hf.1 hs, RelL.pick ss hf.2 hl⟩
theorem RelT.pick : ∀ (ss : List Sv) {c : Cx} {vs : List Value}, FrL ss → RelT ss c vs → RelT ss c.pick vs
  | [], _, _, _, r => by simpa [RelT] using r
  | s :: ss, _, _, hf, r => by
    simp only [Sv.Fr.go] at hf
    simp only [RelT] at r ⊢
    obtain ⟨u, us, e, hs, hl⟩ := r
    exact ⟨u, us, e, Rel.pick s hf.1 hs, RelT.pick ss hf.2 hl⟩
end
theorem RelC.pick : ∀ (ss : List Sv) {c : Cx} {b off : Nat}, FrL ss → RelC ss c b off → RelC ss c.pick b off
  | [], _, _, _, _, _ => by simp [RelC]
  | s :: ss, c, b, off, hf, r => by
    simp only [Sv.Fr.go] at hf
    simp only [RelC] at r ⊢
    obtain ⟨⟨u, e, h1, hs⟩, hl⟩ := r
    exact ⟨⟨u, e, h1, Rel.pick s hf.1 hs⟩, RelC.pick ss hf.2 hl⟩
theorem RelR.pick : ∀ (rs : List (List Sv)) {c : Cx} {wd b off : Nat}, FrR rs → RelR rs c wd b off → RelR rs c.pick wd b off
  | [], _, _, _, _, _, _ => by simp [RelR]
  | r :: rs, _, _, _, _, hf, q => by
    simp only [Sv.Fr.goR] at hf
    simp only [RelR] at q ⊢
    exact ⟨q.1, RelC.pick r hf.1 q.2.1, RelR.pick rs hf.2 q.2.2⟩

/-- What a round of a loop over a function leaves: c: what the function knows; A', C': what whoever has been called back may turn from now on, and what has to stay for him. -/
structure YPost (c : Cx) (C1 : Nat → Prop) (w' : World) (A' C' : Nat → Prop) : Prop where
  os : w'.os = c.w.os
  tape : w'.tape = c.w.tape
  output : w'.output = c.w.output
  size : c.w.heap.size ≤ w'.heap.size
  keep : ∀ b, b < c.w.heap.size → ¬ c.A b → w'.heap[b]? = c.w.heap[b]?
  a : ∀ b, A' b → (c.A b ∨ c.w.heap.size ≤ b) ∧ C' b
  c : ∀ b, C' b → b < w'.heap.size ∧ (C1 b ∨ c.w.heap.size ≤ b ∨ c.X b ∧ c.G b)

/-- The body of the loop l takes what its, one behind the other, hands it. -/
def YdOk (P : Program) (w0 : World) (M : Frm) (l : Nat) (its : List (List Sv)) : Prop :=
  (its ≠ [] → 0 < M.m ∧ (M.E0 0).nil = true) ∧ ∀ (F : Fence) (n : Nat) (pre : List (List Sv)) (x : List Sv) (c : Cx) (hp : Hp) (vs : List Value) (C1 : Nat → Prop), Open F → pre ++ [x] <+: its → Inv w0 M c hp → (∀ b, C1 b → c.C b ∧ ¬ c.Z b) → M.J 0 pre c.A C1 c.w →
    RelT x c.pick.shut vs → YieldAt F n P l vs.toArray c.w fun e w' => ∃ A' C', YPost c C1 w' A' C' ∧
      (e = .returned (.bool true) ∧ M.J 0 (pre ++ [x]) A' C' w' ∨ e = .returned (.bool false) ∧ M.J 1 (pre ++ [x]) A' C' w')

theorem YdOk.nil {P : Program} {w0 : World} {M : Frm} {l : Nat} : YdOk P w0 M l [] := by
  refine ⟨fun h => absurd rfl h, fun F n pre x c hp vs C1 _ h => ?_⟩
  obtain ⟨t, ht⟩ := h
  simp at ht

/-- No other block tells of rounds. -/
def oneG (gi : Nat) : Nat → Hp → Prop
  | _, [] => True
  | i, none :: r => oneG gi (i + 1) r
  | i, some b :: r => (match Nat.beq i gi with | true => True | false => b.ng) ∧ oneG gi (i + 1) r
theorem oneG_at {gi : Nat} : ∀ {hp : Hp} {i : Nat}, oneG gi i hp → ∀ (k : Nat) (b : Blk), hp[k]? = some (some b) → i + k ≠ gi → b.ng
  | [], _, _, k, b, h, _ => by simp at h
  | none :: r, i, h, k, b, hk, hne => by
    simp only [oneG] at h
    cases k with
    | zero => simp at hk
    | succ k => exact oneG_at h k b (by simpa using hk) (by omega)
  | some b0 :: r, i, h, k, b, hk, hne => by
    simp only [oneG] at h
    cases k with
    | zero =>
      simp at hk
      subst hk
      have h1 := h.1
      split at h1
      · rename_i he
        exact absurd (Nat.eq_of_beq_eq_true he) (by simpa using hne)
      · exact h1
    | succ k => exact oneG_at h.2 k b (by simpa using hk) (by omega)
/-- In the first block that was handed in it is told what has been handed over so far (pre). -/
inductive YieldV (its : List (List Sv)) (hp : Hp) (args : List Sv) (K : Sv → Hp → Prop) : Prop
  | mk (pre pre' : List (List Sv)) : hpGet hp 0 = some ⟨0, 0, true, false, pre⟩ → oneG 0 0 hp → FrL args → Sv.all.allL (fun _ => false) args = true → pre ++ [args] = pre' → pre' <+: its →
      K (.val (.bool true)) (hp.set 0 (some ⟨0, 0, true, false, pre'⟩)) → K (.val (.bool false)) (hp.set 0 (some ⟨1, 0, true, false, pre'⟩)) → YieldV its hp args K

/-- Contents for good, where only what is for good is let in. -/
theorem RelT.shutPick {ss : List Sv} {c : Cx} {vs : List Value} (hf : FrL ss) (hc : Sv.all.allL (fun _ => false) ss = true) (r : RelT ss c vs) : RelT ss c.pick.shut vs :=
  RelT.fresh ss hf (pick_shut c) (RelT.le ss hc c.le_shut r)

/-- The state behind a round. -/
theorem Inv.yield {w0 : World} {M : Frm} {c : Cx} {hp : Hp} (hI : Inv w0 M c hp) {gi : Nat} {pre pre' : List (List Sv)} {st : Nat} (hD : c.D gi) (hb : hp[gi]? = some (some ⟨0, 0, true, false, pre⟩)) (hn : (c.E gi).nil = true)
    (h1 : ∀ k blk, c.D k → hp[k]? = some (some blk) → (c.E k).nil = true → blk.grow = false → k = gi)
    {C1 : Nat → Prop} (hC1 : ∀ b, C1 b → c.C b ∧ ¬ c.Z b) {w' : World} {A' C' : Nat → Prop} (hy : YPost c C1 w' A' C') (hJ : M.J st pre' A' C' w') :
    ∃ c', c'.w = w' ∧ Inv w0 M c' (hp.set gi (some ⟨st, 0, true, false, pre'⟩)) ∧ c.Le (fun _ => true) c' ∧ c'.D = c.D ∧ c'.Z = c.Z ∧ ∀ b, c.Z b → c'.C b ∧ w'.heap[b]? = c.w.heap[b]? := by
  have hlt : ∀ k, c.D k → (c.E k).nil = false → (c.E k).b < c.w.heap.size := fun k hk hnil => let ⟨_, _, r⟩ := hI.dom k hk; r.lt hnil
  have hnA : ∀ k, c.D k → (c.E k).nil = false → ¬ c.A (c.E k).b := fun k hk hnil ha => (hI.cc _ (hI.ca _ ha).1).2.1 k hk hnil rfl
  have hx : ∀ b, c.X b → w'.heap[b]? = c.w.heap[b]? := fun b hb => hy.keep b (hI.xlt b hb) (fun ha => (hI.ca b ha).2.1 hb)
  have hZ : ∀ b, c.Z b → w'.heap[b]? = c.w.heap[b]? := fun b hb => hy.keep b (hI.cc b (hI.zc b hb).1).1 (hI.zc b hb).2.1
  let c' : Cx := { c with w := w', A := A', C := fun b => C' b ∨ c.Z b }
  have hle : c.Le (fun _ => true) c' := ⟨fun _ _ hk => ⟨hk, rfl⟩, fun _ h => h, fun _ _ h => h, hx⟩
  refine ⟨c', rfl, ?_, hle, rfl, rfl, fun b hb => ⟨.inr hb, hZ b hb⟩⟩
  have hC'D : ∀ b, C' b → ∀ k, c.D k → (c.E k).nil = false → (c.E k).b ≠ b := fun b hb k hk hnil => by
    rcases (hy.c b hb).2 with h | h | h
    · exact (hI.cc b (hC1 b h).1).2.1 k hk hnil
    · have := hlt k hk hnil; omega
    · exact hI.xsep k b hk hnil h.1
  exact {
    dom := fun k hk => by
      obtain ⟨blk, e, r⟩ := hI.dom k hk
      by_cases hkg : k = gi
      · subst hkg
        rw [hb] at e
        cases e
        refine ⟨_, List.getElem?_set_self (List.getElem?_eq_some_iff.1 hb).1, r.1, fun _ => .inr ⟨rfl, rfl, rfl⟩, fun h => by rw [show (c.E k).nil = false from h] at hn; cases hn⟩
      · exact ⟨blk, by rw [List.getElem?_set_ne (fun e => hkg e.symm)]; exact e, r.le hle rfl (fun hnil => hy.keep _ (hlt k hk hnil) (hnA k hk hnil)) (fun _ => allR_true _)⟩
    inj := hI.inj
    xsep := hI.xsep
    xlt := fun b hb => Nat.lt_of_lt_of_le (hI.xlt b hb) hy.size
    xY := hI.xY
    bnd := hI.bnd
    bndG := hI.bndG
    e0 := hI.e0
    mlen := by rw [List.length_set]; exact hI.mlen
    os := hy.os.trans hI.os
    tape := hy.tape.trans hI.tape
    output := hy.output.trans hI.output
    size := Nat.le_trans hI.size hy.size
    keep := fun j hj hm hyy => (hy.keep j (Nat.lt_of_lt_of_le hj hI.size) (fun ha => by
      rcases (hI.ca j ha).2.2 with h | h
      · omega
      · exact hyy h)).trans (hI.keep j hj hm hyy)
    loc := hI.loc
    x0 := hI.x0
    ca := fun b hb => by
      obtain ⟨h1, h2⟩ := hy.a b hb
      refine ⟨.inl h2, fun hxb => ?_, ?_⟩
      · rcases h1 with h | h
        · exact (hI.ca b h).2.1 hxb
        · have := hI.xlt b hxb; omega
      · rcases h1 with h | h
        · exact (hI.ca b h).2.2
        · exact .inl (Nat.le_trans hI.size h)
    cc := fun b hb => by
      rcases hb with hb | hb
      · refine ⟨(hy.c b hb).1, hC'D b hb, ?_⟩
        rcases (hy.c b hb).2 with h | h | h
        · exact (hI.cc b (hC1 b h).1).2.2
        · exact .inl (Nat.le_trans hI.size h)
        · rcases hI.x0 b h.1 with h | h | h
          · exact .inl h
          · exact .inr (.inr (.inl h))
          · exact .inr (.inr (.inr h))
      · obtain ⟨g1, g2, g3⟩ := hI.cc b (hI.zc b hb).1
        exact ⟨Nat.lt_of_lt_of_le g1 hy.size, g2, g3⟩
    zc := fun b hb => by
      obtain ⟨g1, g2, g3⟩ := hI.zc b hb
      refine ⟨.inr hb, fun ha => ?_, g3⟩
      rcases (hy.a b ha).1 with h | h
      · exact g2 h
      · have := (hI.cc b g1).1; omega
    z0 := hI.z0
    xk := hI.xk
    gh := fun k blk hk hbk hnk hg => by
      have hkg : k = gi := by
        by_cases hkg : k = gi
        · exact hkg
        · rw [List.getElem?_set_ne (fun e => hkg e.symm)] at hbk
          exact h1 k blk hk hbk hnk hg
      subst hkg
      rw [List.getElem?_set_self (List.getElem?_eq_some_iff.1 hb).1] at hbk
      cases hbk
      refine ⟨C', fun b hb => ⟨.inl hb, fun hz => ?_⟩, hJ⟩
      obtain ⟨g1, g2, g3⟩ := hI.zc b hz
      rcases (hy.c b hb).2 with h | h | h
      · exact (hC1 b h).2 hz
      · have := (hI.cc b g1).1; omega
      · exact g3 h.1 }
/-- What is known of the world behind a call that has handed things over itself. -/
structure WPost (c : Cx) (C1 : Nat → Prop) (w' : World) (A' C' : Nat → Prop) : Prop where
  os : w'.os = c.w.os
  tape : w'.tape = c.w.tape
  output : w'.output = c.w.output
  size : c.w.heap.size ≤ w'.heap.size
  keep : ∀ b, b < c.w.heap.size → ¬ c.A b → w'.heap[b]? = c.w.heap[b]?
  a : ∀ b, A' b → (c.A b ∨ c.w.heap.size ≤ b) ∧ b < w'.heap.size
  c : ∀ b, C' b → b < w'.heap.size ∧ (C1 b ∨ c.A b ∨ c.w.heap.size ≤ b ∨ c.X b ∧ c.G b)
/-- The function f, called with a loop's body among its arguments, hands it its, one behind the other (behind pre), and answers true; or answers false as soon as the body wants no more. -/
structure WCon (P : Program) (f : Nat) (args : Value → List Sv) (its : List (List Sv)) : Prop where
  callable : Callable P f
  run : ∀ (l : Nat) (w0 : World) (M : Frm) (c : Cx) (hp : Hp) (vs : List Value) (pre all : List (List Sv)) (C1 : Nat → Prop), FrR pre → YdOk P w0 M l all → pre ++ its <+: all → Inv w0 M c hp → (∀ b, C1 b → c.C b ∧ ¬ c.Z b) → M.J 0 pre c.A C1 c.w →
    RelT (args (.func (.yield l) #[] #[])) c.pick.shut vs →
    Calls P f vs.toArray c.w fun e w' => ∃ A' C', WPost c C1 w' A' C' ∧ (e = .returned (.bool true) ∧ M.J 0 (pre ++ its) A' C' w' ∨ ∃ q, FrR q ∧ e = .returned (.bool false) ∧ M.J 1 q A' C' w')
theorem Inv.yieldW {w0 : World} {M : Frm} {c : Cx} {hp : Hp} (hI : Inv w0 M c hp) {gi : Nat} {pre pre' : List (List Sv)} {st : Nat} (hD : c.D gi) (hb : hp[gi]? = some (some ⟨0, 0, true, false, pre⟩)) (hn : (c.E gi).nil = true)
    (h1 : ∀ k blk, c.D k → hp[k]? = some (some blk) → (c.E k).nil = true → blk.grow = false → k = gi)
    {C1 : Nat → Prop} (hC1 : ∀ b, C1 b → c.C b ∧ ¬ c.Z b) {w' : World} {A' C' : Nat → Prop} (hy : WPost c C1 w' A' C') (hJ : M.J st pre' A' C' w') :
    ∃ c', c'.w = w' ∧ Inv w0 M c' (hp.set gi (some ⟨st, 0, true, false, pre'⟩)) ∧ c.Le (fun _ => true) c' ∧ c'.D = c.D ∧ c'.Z = c.Z ∧ ∀ b, c.Z b → c'.C b ∧ w'.heap[b]? = c.w.heap[b]? := by
  have hlt : ∀ k, c.D k → (c.E k).nil = false → (c.E k).b < c.w.heap.size := fun k hk hnil => let ⟨_, _, r⟩ := hI.dom k hk; r.lt hnil
  have hnA : ∀ k, c.D k → (c.E k).nil = false → ¬ c.A (c.E k).b := fun k hk hnil ha => (hI.cc _ (hI.ca _ ha).1).2.1 k hk hnil rfl
  have hx : ∀ b, c.X b → w'.heap[b]? = c.w.heap[b]? := fun b hb => hy.keep b (hI.xlt b hb) (fun ha => (hI.ca b ha).2.1 hb)
  have hZ : ∀ b, c.Z b → w'.heap[b]? = c.w.heap[b]? := fun b hb => hy.keep b (hI.cc b (hI.zc b hb).1).1 (hI.zc b hb).2.1
  let c' : Cx := { c with w := w', A := A', C := fun b => C' b ∨ A' b ∨ c.Z b }
  have hle : c.Le (fun _ => true) c' := ⟨fun _ _ hk => ⟨hk, rfl⟩, fun _ h => h, fun _ _ h => h, hx⟩
  refine ⟨c', rfl, ?_, hle, rfl, rfl, fun b hb => ⟨.inr (.inr hb), hZ b hb⟩⟩
  have hC'D : ∀ b, C' b → ∀ k, c.D k → (c.E k).nil = false → (c.E k).b ≠ b := fun b hb k hk hnil => by
    rcases (hy.c b hb).2 with h | h | h | h
    · exact (hI.cc b (hC1 b h).1).2.1 k hk hnil
    · exact (hI.cc b (hI.ca b h).1).2.1 k hk hnil
    · have := hlt k hk hnil; omega
    · exact hI.xsep k b hk hnil h.1
  exact {
    dom := fun k hk => by
      obtain ⟨blk, e, r⟩ := hI.dom k hk
      by_cases hkg : k = gi
      · subst hkg
        rw [hb] at e
        cases e
        refine ⟨_, List.getElem?_set_self (List.getElem?_eq_some_iff.1 hb).1, r.1, fun _ => .inr ⟨rfl, rfl, rfl⟩, fun h => by rw [show (c.E k).nil = false from h] at hn; cases hn⟩
      · exact ⟨blk, by rw [List.getElem?_set_ne (fun e => hkg e.symm)]; exact e, r.le hle rfl (fun hnil => hy.keep _ (hlt k hk hnil) (hnA k hk hnil)) (fun _ => allR_true _)⟩
    inj := hI.inj
    xsep := hI.xsep
    xlt := fun b hb => Nat.lt_of_lt_of_le (hI.xlt b hb) hy.size
    xY := hI.xY
    bnd := hI.bnd
    bndG := hI.bndG
    e0 := hI.e0
    mlen := by rw [List.length_set]; exact hI.mlen
    os := hy.os.trans hI.os
    tape := hy.tape.trans hI.tape
    output := hy.output.trans hI.output
    size := Nat.le_trans hI.size hy.size
    keep := fun j hj hm hyy => (hy.keep j (Nat.lt_of_lt_of_le hj hI.size) (fun ha => by
      rcases (hI.ca j ha).2.2 with h | h
      · omega
      · exact hyy h)).trans (hI.keep j hj hm hyy)
    loc := hI.loc
    x0 := hI.x0
    ca := fun b hb => by
      obtain ⟨h1, h2⟩ := hy.a b hb
      refine ⟨.inr (.inl hb), fun hxb => ?_, ?_⟩
      · rcases h1 with h | h
        · exact (hI.ca b h).2.1 hxb
        · have := hI.xlt b hxb; omega
      · rcases h1 with h | h
        · exact (hI.ca b h).2.2
        · exact .inl (Nat.le_trans hI.size h)
    cc := fun b hb => by
      rcases hb with hb | hb | hb
      · refine ⟨(hy.c b hb).1, hC'D b hb, ?_⟩
        rcases (hy.c b hb).2 with h | h | h | h
        · exact (hI.cc b (hC1 b h).1).2.2
        · exact (hI.cc b (hI.ca b h).1).2.2
        · exact .inl (Nat.le_trans hI.size h)
        · rcases hI.x0 b h.1 with h | h | h
          · exact .inl h
          · exact .inr (.inr (.inl h))
          · exact .inr (.inr (.inr h))
      · obtain ⟨h1, h2⟩ := hy.a b hb
        refine ⟨h2, fun k hk hnil => ?_, ?_⟩
        · show (c.E k).b ≠ b
          rcases h1 with h | h
          · exact (hI.cc b (hI.ca b h).1).2.1 k hk hnil
          · have := hlt k hk hnil; omega
        · rcases h1 with h | h
          · exact (hI.cc b (hI.ca b h).1).2.2
          · exact .inl (Nat.le_trans hI.size h)
      · obtain ⟨g1, g2, g3⟩ := hI.cc b (hI.zc b hb).1
        exact ⟨Nat.lt_of_lt_of_le g1 hy.size, g2, g3⟩
    zc := fun b hb => by
      obtain ⟨g1, g2, g3⟩ := hI.zc b hb
      refine ⟨.inr (.inr hb), fun ha => ?_, g3⟩
      rcases (hy.a b ha).1 with h | h
      · exact g2 h
      · have := (hI.cc b g1).1; omega
    z0 := hI.z0
    xk := hI.xk
    gh := fun k blk hk hbk hnk hg => by
      have hkg : k = gi := by
        by_cases hkg : k = gi
        · exact hkg
        · rw [List.getElem?_set_ne (fun e => hkg e.symm)] at hbk
          exact h1 k blk hk hbk hnk hg
      subst hkg
      rw [List.getElem?_set_self (List.getElem?_eq_some_iff.1 hb).1] at hbk
      cases hbk
      refine ⟨C', fun b hb => ⟨.inl hb, fun hz => ?_⟩, hJ⟩
      obtain ⟨g1, g2, g3⟩ := hI.zc b hz
      rcases (hy.c b hb).2 with h | h | h | h
      · exact (hC1 b h).2 hz
      · exact g2 h
      · have := (hI.cc b g1).1; omega
      · exact g3 h.1 }
end Go.Eng

/- The engine, part Mk: make of a slice. -/
namespace Go.Eng
open Go Go.RowKit
section
variable {G : Gm} {tm : List Sv} {hp : Hp} {o : Oper}
def makeV (G : Gm) (hp : Hp) (t : Nat) (l m : Sv) (K : Sv → Blk → Prop) : Prop :=
  Get (G.tab t) fun i => match i.kind, l, m with
  | .slice e, .val (.int _ l), .val (.int _ m) => Get (G.tab e) fun j => Need (j.size ≠ 0 ∧ j.zero.length = j.size ∧ j.zero.all Value.oneCell' = true) <|
      Need (0 ≤ l ∧ l = m ∧ (j.bytes : Int) * m ≤ 281474976710656 ∧ m ≤ 9223372036854775807) <| EqK l.toNat fun n => K (.own hp.length n) ⟨e, j.size, true, true, List.replicate n (j.zero.map Sv.val)⟩
  | _, _, _ => False
theorem makeV_sound {t : Nat} {l m : Operand} {K : Sv → Blk → Prop} (ho : o.op = .makeSlice t l m) (h : makeV G hp t (evO tm l) (evO tm m) K) : ∃ s b, K s b ∧ EStep G.P o tm hp s [b] [] := by
  obtain ⟨i, hi, h⟩ := h
  have ht := G.ok t i hi
  split at h
  case h_2 => exact h.elim
  rename_i e kl li km mi hk hl hm
  obtain ⟨j, hj, ⟨h0, hz0, hone⟩, ⟨p1, p2, p3, p4⟩, n, hn, h⟩ := h
  have hje := G.ok e j hj
  refine ⟨_, _, h, estep_new (by rw [ho]; simp) fun w0 M c a hI ha => ?_⟩
  obtain ⟨d, hd, hft⟩ := ht.desc
  rw [hk] at hft
  simp only [TK.fits] at hft
  subst hft
  obtain ⟨I, hJ, hIs, hIb, z, hIz, hzc⟩ := hje.info
  have hvl : a.eval l = .int kl li := by
    have := ha l (by rw [ho]; simp [Op.operands])
    rw [hl] at this
    simpa [Rel] using this
  have hvm : a.eval m = .int km mi := by
    have := ha m (by rw [ho]; simp [Op.operands])
    rw [hm] at this
    simpa [Rel] using this
  subst p2
  have hr := run_make c.w t e I z hd hJ hIz kl km li li p1 (Int.le_refl _) (by rw [hIb]; exact p3) p4
  rw [List.all_eq_true] at hone
  have hcells : madeCells z.cells (li.toNat * I.size) = (List.replicate n j.zero).flatten.toArray := by
    apply Array.ext'
    have := zeros_eq j.zero n (by omega)
    unfold madeCells
    rw [hzc, hIs, hn, ← this, hz0]
    simp [hz0]
  rw [hcells, hn] at hr
  have hrel : ∀ k, RelL (List.replicate k (j.zero.map Sv.val)).flatten c.shut (List.replicate k j.zero).flatten := by
    intro k
    induction k with
    | zero => simp [RelL]
    | succ k ih => simp only [List.replicate_succ, List.flatten_cons]; exact RelL_append _ (RelL_vals c.shut _ hone) ih
  have hfl : (List.replicate n j.zero).flatten.length = n * j.size := by simp [hz0]
  refine ⟨.slice (some ⟨c.w.heap.size, 0, none⟩) n n, ⟨c.w.heap.size, n, false, j.size⟩, c.w.alloc (.cells (List.replicate n j.zero).flatten.toArray e), ?_, WGrow.alloc _ _, ⟨rfl, Nat.le_refl _⟩, ?_, ?_⟩
  · simp [execOp, ho, hvl, hvm, hr]
  · refine BlkRel.new hI (fun r hr => by rw [List.eq_of_mem_replicate hr]; simpa using hz0) ?_ (by rw [hfl]; simp) (fun _ => ⟨by rw [hfl]; exact Nat.le_refl _, by simp, by unfold maxLen; omega⟩)
    rw [List.take_of_length_le (by rw [hfl]; simp)]
    exact hrel n
  · simp only [Rel, putE]
    exact ⟨.inr rfl, .inr ⟨trivial, trivial, Nat.le_refl _⟩⟩
end
end Go.Eng

/- The engine, part I: regions in the order of the text, code, loops; a function's contract out of its body. -/
namespace Go.Eng
open Go Go.RowKit

/-! ### One operation -/
def opV (G : Gm) (tm : List Sv) (hp : Hp) (o : Oper) (K : Sv → List Blk → List Nat → Prop) : Prop :=
  match o.op with
  | .move x => K (evO tm x) [] []
  | .assign x => K (evO tm x) [] []
  | .pick b x y => pickV tm b x y fun s => K s [] []
  | .load t x => loadV G t hp (evO tm x) fun s => K s [] []
  | .fieldAddr t x f => fieldV G t f (evO tm x) fun s => K s [] []
  | .indexAddr t x i => indexV G t hp (evO tm x) (evO tm i) fun s => K s [] []
  | .binOp op t x y _ => match evO tm x, evO tm y with
    | .agg cs, .agg ds => eqV G op t cs ds fun s => K s [] []
    | sx, sy => binV G op t sx sy fun s => K s [] []
  | .unOp op _ x => unV op (evO tm x) fun s => K s [] []
  | .convert s d x => convV G s d (evO tm x) fun s => K s [] []
  | .slice t x lo hi mx => match hi, mx with
    | none, some _ => False
    | some h, some m => match lo, evO tm x with
      | none, .own k _ => cut3V G tm hp t k h m fun s b kl => K s [b] kl
      | _, _ => cutV G tm hp t x lo (some h) (some m) fun s => K s [] []
    | hi, none => cutV G tm hp t x lo hi none fun s => K s [] []
  | .extract x i => extractV (evO tm x) i fun s => K s [] []
  | .makeFunc fn first cap => match fn, first.toList with
    | .func f, [] => K (.clo f (cap.toList.map (evO tm))) [] []
    | _, _ => False
  | .nilCheck x => nilCheckV (evO tm x) fun s => K s [] []
  | .build t ps => buildV G tm t ps fun s => K s [] []
  | .alloc e => allocV G hp e fun s b => blkR b fun b => K s [b] []
  | .box e x => boxV hp e (evO tm x) fun s b => blkR b fun b => K s [b] []
  | .buildSlice t n ps => litV G tm hp t n ps fun s b => blkR b fun b => K s [b] []
  | .makeSlice t l m => makeV G hp t (evO tm l) (evO tm m) fun s b => K s [b] []
  | .call c => match c.callee with
    | .builtin .len => match c.args.toList, c.argTypes.toList with
      | [x], [t] => lenV G t (evO tm x) fun s => K s [] []
      | _, _ => False
    | .builtin .min => match c.args.toList with
      | [x, y] => mmV false (evO tm x) (evO tm y) fun s => K s [] []
      | _ => False
    | .builtin .max => match c.args.toList with
      | [x, y] => mmV true (evO tm x) (evO tm y) fun s => K s [] []
      | _ => False
    | .builtin .append => match c.args.toList, c.argTypes.toList with
      | [x, y], [t, t'] => Need (t = t') <| appV G hp t (evO tm x) (evO tm y) fun s b kl => K s [b] kl
      | _, _ => False
    | .value g => match evO tm g with
      | .clo f caps => deepK (c.args.toList.map (evO tm) ++ caps) fun args => CallV G.P hp f args K
      | _ => False
    | _ => False
  | _ => False

theorem arr1 {α : Type} {a : Array α} {x : α} (h : a.toList = [x]) : a = #[x] := by apply Array.ext'; simpa using h
theorem arr0 {α : Type} {a : Array α} (h : a.toList = []) : a = #[] := by apply Array.ext'; simpa using h
theorem arr2 {α : Type} {a : Array α} {x y : α} (h : a.toList = [x, y]) : a = #[x, y] := by apply Array.ext'; simpa using h

section
variable {G : Gm} {tm : List Sv} {hp : Hp} {o : Oper}

theorem of_pure {K : Sv → List Blk → List Nat → Prop} (hd : ∀ c, o.op ≠ .defer c) (h : ∃ s, K s [] [] ∧ PureS G.P o tm hp s) : ∃ s nb kl, K s nb kl ∧ EStep G.P o tm hp s nb kl :=
  let ⟨s, h1, h2⟩ := h; ⟨s, [], [], h1, h2.estep hd⟩

theorem opV_sound {K : Sv → List Blk → List Nat → Prop} (h : opV G tm hp o K) : ∃ s nb kl, K s nb kl ∧ EStep G.P o tm hp s nb kl := by
  unfold opV at h
  split at h
  · rename_i x ho; exact of_pure (by rw [ho]; simp) (moveV_sound (.inl ho) h)
  · rename_i x ho; exact of_pure (by rw [ho]; simp) (moveV_sound (.inr ho) h)
  · rename_i b x y ho; exact of_pure (by rw [ho]; simp) (pickV_sound ho h)
  · rename_i t x ho; exact of_pure (by rw [ho]; simp) (loadV_sound ho h)
  · rename_i t x f ho; exact of_pure (by rw [ho]; simp) (fieldV_sound ho h)
  · rename_i t x i ho; exact of_pure (by rw [ho]; simp) (indexV_sound ho h)
  · rename_i op t x y yt ho
    split at h
    · rename_i cs ds hx hy
      exact of_pure (by rw [ho]; simp) (eqV_sound ho hx hy h)
    · exact of_pure (by rw [ho]; simp) (binV_sound ho h)
  · rename_i op t x ho; exact of_pure (by rw [ho]; simp) (unV_sound ho h)
  · rename_i s d x ho; exact of_pure (by rw [ho]; simp) (convV_sound ho h)
  · rename_i t x lo hi mx ho
    split at h
    · exact h.elim
    · split at h
      · rename_i k n hx
        obtain ⟨s, b, kl, h1, h2⟩ := cut3V_sound ho hx h
        exact ⟨s, [b], kl, h1, h2⟩
      · exact of_pure (by rw [ho]; simp) (cutV_sound (fun h => by cases h) ho h)
    · exact of_pure (by rw [ho]; simp) (cutV_sound (fun _ => rfl) ho h)
  · rename_i x i ho; exact of_pure (by rw [ho]; simp) (extractV_sound ho h)
  · rename_i fn first cap ho
    split at h
    · rename_i f hf
      rw [arr0 hf] at ho
      exact of_pure (by rw [ho]; simp) (funcV_sound ho h)
    · exact h.elim
  · rename_i x ho; exact of_pure (by rw [ho]; simp) (nilCheckV_sound ho h)
  · rename_i t ps ho; exact of_pure (by rw [ho]; simp) (buildV_sound ho h)
  · rename_i e ho
    obtain ⟨s, b, h1, h2⟩ := allocV_sound ho h
    rw [blkR_eq] at h1
    exact ⟨s, [b], [], h1, h2⟩
  · rename_i e x ho
    obtain ⟨s, b, h1, h2⟩ := boxV_sound ho h
    rw [blkR_eq] at h1
    exact ⟨s, [b], [], h1, h2⟩
  · rename_i t n ps ho
    obtain ⟨s, b, h1, h2⟩ := litV_sound ho h
    rw [blkR_eq] at h1
    exact ⟨s, [b], [], h1, h2⟩
  · rename_i t l m ho
    obtain ⟨s, b, h1, h2⟩ := makeV_sound ho h
    exact ⟨s, [b], [], h1, h2⟩
  · rename_i c ho
    obtain ⟨callee, args, tys⟩ := c
    simp only at h
    split at h
    · split at h
      · rename_i x t hx ht
        rw [arr1 hx, arr1 ht] at ho
        exact of_pure (by rw [ho]; simp) (lenV_sound ho h)
      · exact h.elim
    · split at h
      · rename_i x y hx
        rw [arr2 hx] at ho
        exact of_pure (by rw [ho]; simp) (mmV_sound (mx := false) ho h)
      · exact h.elim
    · split at h
      · rename_i x y hx
        rw [arr2 hx] at ho
        exact of_pure (by rw [ho]; simp) (mmV_sound (mx := true) ho h)
      · exact h.elim
    · split at h
      · rename_i x y t t' hx ht
        obtain ⟨rfl, h⟩ := h
        rw [arr2 hx, arr2 ht] at ho
        obtain ⟨s, b, kl, h1, h2⟩ := appV_sound ho h
        exact ⟨s, [b], kl, h1, h2⟩
      · exact h.elim
    · split at h
      · rename_i g f caps hg
        rw [deepK_eq] at h
        exact callV_sound ho hg h
      · exact h.elim
    · exact h.elim
  · exact h.elim

def addK (kl : List Nat) (hp : Hp) (nb : List Blk) (K : Hp → Prop) : Prop :=
  match kl, nb with
  | [], [] => K hp
  | [], b :: bs => blksH (b :: bs) fun nb => spineK (hp ++ nb.map some) K
  | _, _ => blksH nb fun nb => hpK (kill kl hp ++ nb.map some) K
theorem addK_eq (kl : List Nat) (hp : Hp) (nb : List Blk) (K : Hp → Prop) : addK kl hp nb K = K (kill kl hp ++ nb.map some) := by
  unfold addK
  split
  · simp [kill]
  · rw [blksH_eq, spineK_eq]; rfl
  · rw [blksH_eq, hpK_eq]
def forgetK (kl : List Nat) (tm : List Sv) (K : List Sv → Prop) : Prop :=
  match kl with
  | [] => K tm
  | k :: ks => deepK (forgetT (k :: ks) tm) K
theorem forgetK_eq (kl : List Nat) (tm : List Sv) (K : List Sv → Prop) : forgetK kl tm K = K (forgetT kl tm) := by
  cases kl with
  | nil => rfl
  | cons k ks => rw [forgetK, deepK_eq]

/-- One operation that is no store. -/
def opE (G : Gm) (tm : List Sv) (hp : Hp) (o : Oper) (K : Sv → List Blk → List Nat → Prop) : Prop :=
  match o.op with
  | .binOp op t x y yt => match isNil (evO tm y) with
    | true => Get (G.tab t) fun i => Need (nilFit i.kind (evO tm y) = true) <| nilV G op t (evO tm x) fun s => K s [] []
    | false => opV G tm hp o K
  | _ => opV G tm hp o K

def EStepK (P : Program) (o : Oper) (tm : List Sv) (hp : Hp) (K : Sv → List Blk → List Nat → Prop) : Prop :=
  ∀ (F : Fence) (n : Nat) (w0 : World) (M : Frm) (c : Cx) (a : Act) (next : Act → World → Prop) (Q : Exit → Act → World → Prop), Open F → Inv w0 M c hp → (∀ x ∈ o.op.operands, Rel (evO tm x) c (a.eval x)) →
    (∀ s nb kl v c', K s nb kl → EPost w0 M c c' hp nb kl → Rel s c' v → next (a.put o.dst v) c'.w) → o.wpIn F n P a c.w next Q

theorem EStepK.of {P : Program} {K : Sv → List Blk → List Nat → Prop} (h : ∃ s nb kl, K s nb kl ∧ EStep P o tm hp s nb kl) : EStepK P o tm hp K := by
  obtain ⟨s, nb, kl, hK, hs⟩ := h
  intro F n w0 M c a next Q hF hI ha hn
  exact hs F n w0 M c a next Q hF hI ha fun v c' hp' hr => hn s nb kl v c' hK hp' hr

theorem opE_sound {K : Sv → List Blk → List Nat → Prop} (h : opE G tm hp o K) : EStepK G.P o tm hp K := by
  unfold opE at h
  split at h
  · rename_i op t x y yt ho
    split at h
    · rename_i hy
      obtain ⟨i, hi, hfit, h⟩ := h
      have hp := nilV_sound (K := fun s => K s [] []) (tm := tm) (hp := hp) ho hy h (fun j hj => by
        rw [hi] at hj
        cases hj
        revert hfit
        unfold nilFit
        split <;> split <;> intro hfit <;> first | trivial | assumption | (cases hfit; done) | simp_all)
      intro F n w0 M c a next Q hF hI ha hn
      obtain ⟨s, v, hK, hrun, hr⟩ := hp w0 M c a hI ha
      refine Oper.wpIn_value hF (by rw [ho]; simp) hrun (hn s [] [] v c hK ?_ hr)
      exact EPost.same hI
    · exact .of (opV_sound h)
  · exact .of (opV_sound h)

/-! ### A call that may turn blocks -/
def aliveB (kl : List Nat) (hp' : Hp) : Nat → List Nat → Bool
  | _, [] => true
  | i, k :: ks => (match memB k kl with | true => true | false => match hpGet hp' i with | some _ => true | none => false) && aliveB kl hp' (i + 1) ks
def okBs (p : Nat → Bool) : Nat → Hp → Bool
  | _, [] => true
  | i, none :: bs => okBs p (i + 1) bs
  | i, some b :: bs => (match p i with | false => true | true => match b.clean with | true => true | false => b.rows.all (Sv.all.allL p)) && okBs p (i + 1) bs
/-- sel: the blocks that are handed over to be turned; kl: those of them that are gone behind the call. -/
inductive CallS (P : Program) (tm : List Sv) (hp : Hp) (dst : Option Nat) (f : Nat) (args : List Sv) (K : List Sv → Hp → Prop) : Prop
  | mk (sel kl : List Nat) (args' : List Sv) (hpin : List Blk) (post : Sv → Hp → Prop) : sel.Nodup → kl.all (fun k => memB k sel) = true → selIn hp sel sel hpin → ClL hp sel args args' → MCon P f args' hpin post →
      (∀ res hp', post res hp' → aliveB kl hp' 0 sel = true ∧ res.all (okI sel kl) = true ∧ okBs (okI sel kl) 0 hp' = true ∧
        forgetK kl tm fun tm => svK (res.mv (rho sel hp.length)) fun res => setTK tm dst res fun tm => hpK (mrgH hp sel kl hp') fun hp => K tm hp) → CallS P tm hp dst f args K
theorem CallS.pure {P : Program} {tm : List Sv} {hp : Hp} {dst : Option Nat} {f : Nat} {args : List Sv} {K : List Sv → Hp → Prop} (args' : List Sv) (res : Sv) (nb : List Blk) (h1 : ClL hp [] args args') (h2 : PCon P f args' res nb)
    (h : setTK tm dst (res.mv (rho [] hp.length)) fun tm => addK [] hp (nb.map (Blk.mv (rho [] hp.length))) fun hp => K tm hp) : CallS P tm hp dst f args K := by
  refine .mk [] [] args' [] _ List.nodup_nil rfl rfl h1 h2 ?_
  rintro r hp' ⟨rfl, rfl⟩
  refine ⟨rfl, by rw [okI_nil]; exact Sv.all_true _, ?_, ?_⟩
  · have : ∀ (nb : List Blk) (i : Nat), okBs (okI [] []) i (nb.map some) = true := by
      intro nb
      induction nb with
      | nil => intro i; rfl
      | cons b nb ih =>
        intro i
        have hi := ih (i + 1)
        rw [okI_nil] at hi ⊢
        simp only [List.map_cons, okBs, hi, Bool.and_true]
        cases b.clean with
        | true => rfl
        | false => exact allR_true _
    exact this nb 0
  · rw [setTK_eq, addK_eq] at h
    rw [forgetK_eq, svK_eq, setTK_eq, hpK_eq]
    have hH : mrgH hp [] [] (nb.map some) = kill [] hp ++ (nb.map (Blk.mv (rho [] hp.length))).map some := by
      unfold mrgH
      rw [mrgO_nil, ← mvO_some]
      rfl
    rw [hH]
    exact h
theorem aliveB_get {kl : List Nat} {hp' : Hp} : ∀ {ks : List Nat} {i : Nat}, aliveB kl hp' i ks = true → ∀ j k, ks[j]? = some k → memB k kl = false → ∃ b, hp'[i + j]? = some (some b)
  | [], _, _, j, k, h, _ => by simp at h
  | q :: ks, i, h, j, k, hj, hk => by
    simp only [aliveB, Bool.and_eq_true] at h
    cases j with
    | zero =>
      simp at hj
      subst hj
      rw [hk] at h
      cases hg : hpGet hp' i with
      | none => rw [hg] at h; cases h.1
      | some b => exact ⟨b, hpGet_eq.1 hg⟩
    | succ j =>
      rw [show i + (j + 1) = i + 1 + j by omega]
      exact aliveB_get h.2 j k (by simpa using hj) hk
theorem okBs_get {p : Nat → Bool} : ∀ {hp' : Hp} {i : Nat}, okBs p i hp' = true → ∀ (j : Nat) (b : Blk), hp'[j]? = some (some b) → p (i + j) = true → b.clean = false → b.rows.all (Sv.all.allL p) = true
  | [], _, _, j, b, h, _, _ => by simp at h
  | none :: bs, i, h, j, b, hj, hp, hc => by
    cases j with
    | zero => simp at hj
    | succ j => exact okBs_get (i := i + 1) (by simpa [okBs] using h) j b (by simpa using hj) (by rw [show i + 1 + j = i + (j + 1) by omega]; exact hp) hc
  | some q :: bs, i, h, j, b, hj, hp, hc => by
    simp only [okBs, Bool.and_eq_true] at h
    cases j with
    | zero =>
      simp at hj
      subst hj
      rw [Nat.add_zero] at hp
      rw [hp, hc] at h
      exact h.1
    | succ j => exact okBs_get (i := i + 1) h.2 j b (by simpa using hj) (by rw [show i + 1 + j = i + (j + 1) by omega]; exact hp) hc

/-- A call; or one to which the loop's body is handed on: the first block is lent with it. -/
inductive CallL (P : Program) (l : Nat) (its : List (List Sv)) (tm : List Sv) (hp : Hp) (dst : Option Nat) (f : Nat) (args : List Sv) (K : List Sv → Hp → Prop) : Prop
  | s : CallS P tm hp dst f args K → CallL P l its tm hp dst f args K
  | lend (pre its1 : List (List Sv)) (wargs : Value → List Sv) : hpGet hp 0 = some ⟨0, 0, true, false, pre⟩ → oneG 0 0 hp → args = wargs (.func (.yield l) #[] #[]) → FrL args → Sv.all.allL (fun _ => false) args = true → its1 ≠ [] → FrR pre → pre ++ its1 <+: its → WCon P f wargs its1 →
      (setTK tm dst (.val (.bool true)) fun tm => spineK (hp.set 0 (some ⟨0, 0, true, false, pre ++ its1⟩)) fun hp => K tm hp) →
      (∀ q, FrR q → setTK tm dst (.val (.bool false)) fun tm => spineK (hp.set 0 (some ⟨1, 0, true, false, q⟩)) fun hp => K tm hp) → CallL P l its tm hp dst f args K

def opS (G : Gm) (tm : List Sv) (hp : Hp) (o : Oper) (K : List Sv → Hp → Prop) : Prop :=
  match o.op with
  | .call cl => match cl.callee with
    | .value g => match evO tm g with
      | .clo f caps => deepK (cl.args.toList.map (evO tm) ++ caps) fun args => CallL G.P G.l G.its tm hp o.dst f args K
      | .val (.func (.yield l) first cap) => match first.toList, cap.toList with
        | [], [] => Need (l = G.l) <| deepK (cl.args.toList.map (evO tm)) fun args => YieldV G.its hp args fun s hp => setTK tm o.dst s fun tm => spineK hp fun hp => K tm hp
        | _, _ => False
      | _ => False
    | .builtin .append => match cl.args.toList, cl.argTypes.toList with
      | [x, y], [t, t'] => match evO tm x with
        | .own k n => Get (hpGet hp k) fun b => AppC (n = b.rows.length) (opE G tm hp o fun s nb kl => forgetK kl tm fun tm => setTK tm o.dst s fun tm => addK kl hp nb fun hp => K tm hp)
            (Need (t = t') <| appPV G hp t (.own k n) (evO tm y) fun s hp => setTK tm o.dst s fun tm => K tm hp)
        | _ => opE G tm hp o fun s nb kl => forgetK kl tm fun tm => setTK tm o.dst s fun tm => addK kl hp nb fun hp => K tm hp
      | _, _ => False
    | .builtin .clear => match cl.args.toList, cl.argTypes.toList with
      | [x], [t] => clearV G hp t (evO tm x) fun s hp => setTK tm o.dst s fun tm => K tm hp
      | _, _ => False
    | .builtin .copy => match cl.args.toList, cl.argTypes.toList with
      | [x, y], [t, _] => copyV G hp t (evO tm x) (evO tm y) fun s hp => setTK tm o.dst s fun tm => K tm hp
      | _, _ => False
    | _ => opE G tm hp o fun s nb kl => forgetK kl tm fun tm => setTK tm o.dst s fun tm => addK kl hp nb fun hp => K tm hp
  | .store t x y => match o.dst with
    | none => storeV G hp t (evO tm x) (evO tm y) fun hp' => K tm hp'
    | some _ => False
  | .assign x => setTK tm o.dst (evO tm x) fun tm => K tm hp
  | _ => opE G tm hp o fun s nb kl => forgetK kl tm fun tm => setTK tm o.dst s fun tm => addK kl hp nb fun hp => K tm hp

/-- What an operation does to a state, whatever follows. -/
def SStepK (G : Gm) (o : Oper) (tm : List Sv) (hp : Hp) (K : List Sv → Hp → Prop) : Prop :=
  ∀ (F : Fence) (n : Nat) (w0 : World) (M : Frm) (c : Cx) (a : Act) (ds : List Deferred) (next : Act → World → Prop) (Q : Exit → Act → World → Prop), Open F → YdOk G.P w0 M G.l G.its → St w0 M c tm hp a ds →
    (∀ tm' hp' a' c', K tm' hp' → St w0 M c' tm' hp' a' ds → next a' c'.w) → o.wpIn F n G.P a c.w next Q

theorem SStepK.of {K : List Sv → Hp → Prop} (h : ∃ tm' hp', K tm' hp' ∧ SStep G.P o tm hp tm' hp') : SStepK G o tm hp K := by
  obtain ⟨tm', hp', hK, hs⟩ := h
  intro F n w0 M c a ds next Q hF _ hS hn
  exact hs F n w0 M c a ds next Q hF hS fun a' c' hS' => hn tm' hp' a' c' hK hS'

theorem EStepK.sstep {K : List Sv → Hp → Prop} (h : EStepK G.P o tm hp fun s nb kl => K (setT (forgetT kl tm) o.dst s) (kill kl hp ++ nb.map some)) : SStepK G o tm hp K := by
  intro F n w0 M c a ds next Q hF _ hS hn
  refine h F n w0 M c a next Q hF hS.inv (fun x _ => hS.opnd x) fun s nb kl v c' hK hp' hr => hn _ _ _ c' hK ?_
  refine (hS.le hp'.le hp'.inv (hp'.cq hS.inv) fun k b hk => (hp'.dom k).2 ?_).put o.dst hr
  by_cases hlt : k < (kill kl hp).length
  · rw [List.getElem?_append_left hlt] at hk
    obtain ⟨h1, b0, h0⟩ := kill_some hk
    exact .inl ⟨hS.full k b0 h0, h1⟩
  · rw [List.getElem?_append_right (by omega)] at hk
    have hl := (List.getElem?_eq_some_iff.1 hk).1
    rw [kill_length] at hl hlt
    simp at hl
    right
    omega

theorem callS_sound {g : Operand} {xs : Array Operand} {tys : Array TypeId} {f : Nat} {caps : List Sv} {K : List Sv → Hp → Prop} (ho : o.op = .call { callee := .value g, args := xs, argTypes := tys }) (hg : evO tm g = .clo f caps)
    (h : CallS G.P tm hp o.dst f (xs.toList.map (evO tm) ++ caps) K) : SStepK G o tm hp K := by
  obtain ⟨sel, kl, args', hpin, post, hnd, hkl, hin, hcl, hcon, hK⟩ := h
  intro F n w0 M c a ds next Q hF _ hS hn
  refine call_walk ho hg hcon.1 hF (fun x _ => hS.opnd x) fun vs hvs => ?_
  obtain ⟨hs, hI1, hlen⟩ := hand_inv hS.inv hS.full hnd hin
  have hc := hcon.2 c.w (handM c sel) (c.hand sel) vs rfl hlen.symm (fun _ h => h) hI1 (fun k b h => by
    have := (List.getElem?_eq_some_iff.1 h).1
    show k < sel.length
    simp at this
    omega) ((ClL.rel args' hcl hS.inv hs).2.1 vs hvs)
  refine hc.mono fun e w' hR => ?_
  obtain ⟨v, c', r, hp', rfl, hpost, hE⟩ := hR
  refine ⟨v, rfl, ?_⟩
  obtain ⟨k1, k2, k3, k4⟩ := hK r hp' hpost
  rw [forgetK_eq, svK_eq, setTK_eq, hpK_eq] at k4
  have hkl' : ∀ k, memB k kl = true → memB k sel = true := fun k hk => by
    rw [List.all_eq_true] at hkl
    exact hkl k (memB_iff.1 hk)
  obtain ⟨h1, h2, h3, h4⟩ := call_post (kl := kl) hS.inv hnd hkl' hs (fun i k hk hkk => by
    have := aliveB_get k1 i k (by rw [← nth_eq]; exact hk) hkk
    rwa [Nat.zero_add] at this) hE k2 (fun i b hb hi hc => okBs_get k3 i b hb (by rw [Nat.zero_add]; exact hi) hc)
  have := hn _ _ _ _ k4 ((hS.le h3 h1 ⟨rfl, rfl, rfl, fun b hb => hE.inv.keep b (hS.inv.cc b hb).1 (by rintro ⟨j, hj, hjn, e⟩; exact (hS.inv.cc b hb).2.1 j (hs j hj) hjn e) (fun h => h)⟩ (h2 hS.full)).put o.dst h4)
  rwa [show (mrgC c c' hp.length sel kl).w = w' from hE.weq] at this

theorem yieldV_sound {g : Operand} {xs : Array Operand} {tys : Array TypeId} {K : List Sv → Hp → Prop} (ho : o.op = .call { callee := .value g, args := xs, argTypes := tys }) (hg : evO tm g = .val (.func (.yield G.l) #[] #[]))
    (h : YieldV G.its hp (xs.toList.map (evO tm)) fun s hp => setTK tm o.dst s fun tm => spineK hp fun hp => K tm hp) : SStepK G o tm hp K := by
  obtain ⟨pre, pre', hb, hone, hfr, hcl, hpre, hits, hT, hF'⟩ := h
  rw [setTK_eq, spineK_eq] at hT hF'
  intro F n w0 M c a ds next Q hF hy hS hn
  have hb' := hpGet_eq.1 hb
  have hD := hS.full 0 _ hb'
  have rg := hS.opnd g
  rw [hg] at rg
  simp only [Rel] at rg
  obtain ⟨hm, hnil0⟩ := hy.1 (fun e => by rw [e] at hits; obtain ⟨t, ht⟩ := hits; rw [← hpre] at ht; simp at ht)
  have hnil : (c.E 0).nil = true := by rw [hS.inv.e0 0 hm hD]; exact hnil0
  obtain ⟨C1, hC1, hJ⟩ := hS.inv.gh 0 _ hD hb' hnil rfl
  have hargs : RelT (xs.toList.map (evO tm)) c (xs.toList.map a.eval) := RelT_map _ fun x _ => hS.opnd x
  obtain ⟨fn, tmps, assign, body, hrun, hround⟩ := hy.2 F (n - 1) pre _ c hp _ C1 hF (by rw [hpre]; exact hits) hS.inv hC1 hJ (hargs.shutPick hfr hcl)
  have hxs : (xs.toList.map a.eval).toArray = xs.map a.eval := by apply Array.ext'; simp
  rw [hxs] at hrun
  refine ⟨fun f _ => hF.fn f, ?_⟩
  have hex : (execOp a.eval o).run G.P c.w = .ok (.round G.l fn tmps assign body) c.w := by
    simp [execOp, ho, resolve, rg, Deferred.ofValue, invoke, hrun]
  rw [Oper.semAt_eq _ _ _ (by rw [ho]; simp), hex, Oper.uponIn_round]
  refine ⟨fun h => (by rw [hF.depth] at h; cases h), hround.mono fun e w' hR => ?_⟩
  obtain ⟨A', C', hpost, hend⟩ := hR
  have h1 : ∀ k blk, c.D k → hp[k]? = some (some blk) → (c.E k).nil = true → blk.grow = false → k = 0 := fun k blk hk hbk hnk hgk => by
    by_cases h0 : k = 0
    · exact h0
    · obtain ⟨blk', e', r⟩ := hS.inv.dom k hk
      rw [hbk] at e'
      cases e'
      rcases r.2.1 hnk with ⟨g1, _⟩ | g
      · rw [hgk] at g1; cases g1
      · exact absurd g (Blk.ng_not (oneG_at hone k blk hbk (by omega)))
  have go : ∀ (st : Nat) (b : Bool), M.J st pre' A' C' w' → K (setT tm o.dst (.val (.bool b))) (hp.set 0 (some ⟨st, 0, true, false, pre'⟩)) → next (a.put o.dst (.bool b)) w' := by
    intro st b hJ' hK
    obtain ⟨c', e1, hI', hle, hDD, hZZ, hZ⟩ := hS.inv.yield hD hb' hnil h1 hC1 hpost hJ'
    rw [← e1]
    refine hn _ _ _ c' hK ?_
    have hS' : St w0 M c' tm (hp.set 0 (some ⟨st, 0, true, false, pre'⟩)) a ds := by
      refine { inv := hI', full := fun k bk hk => ?_, rel := fun t => Rel.le _ (Sv.all_true _) hle (hS.rel t), size := hS.size, ds := ?_ }
      · rw [hDD]
        by_cases h0 : k = 0
        · subst h0; exact hD
        · rw [List.getElem?_set_ne (fun e => h0 e.symm)] at hk
          exact hS.full k bk hk
      · obtain ⟨ml, g1, g2, g3⟩ := hS.ds
        refine ⟨ml, g1, g2, fun b hb => ?_⟩
        obtain ⟨f1, f2, f3, f4⟩ := g3 b hb
        obtain ⟨z1, z2⟩ := hZ b f2
        exact ⟨f1, by rw [hZZ]; exact f2, z1, by rw [e1, z2]; exact f4⟩
    exact hS'.put o.dst (by simp [Rel])
  rcases hend with ⟨rfl, hJ'⟩ | ⟨rfl, hJ'⟩
  · rw [hpre] at hJ'; exact go 0 true hJ' hT
  · rw [hpre] at hJ'; exact go 1 false hJ' hF'
theorem callL_sound {g : Operand} {xs : Array Operand} {tys : Array TypeId} {f : Nat} {caps : List Sv} {K : List Sv → Hp → Prop} (ho : o.op = .call { callee := .value g, args := xs, argTypes := tys }) (hg : evO tm g = .clo f caps)
    (h : CallL G.P G.l G.its tm hp o.dst f (xs.toList.map (evO tm) ++ caps) K) : SStepK G o tm hp K := by
  rcases h with h | ⟨pre, its1, wargs, hb, hone, hargs, hfr, hcl, hne, hfp, hpre, hcon, hT, hF'⟩
  · exact callS_sound ho hg h
  rw [setTK_eq, spineK_eq] at hT
  intro F n w0 M c a ds next Q hF hy hS hn
  have hb' := hpGet_eq.1 hb
  have hD := hS.full 0 _ hb'
  obtain ⟨hm, hnil0⟩ := hy.1 (fun e => by
    rw [e] at hpre
    obtain ⟨t, ht⟩ := hpre
    simp at ht
    exact hne ht.2.1)
  have hnil : (c.E 0).nil = true := by rw [hS.inv.e0 0 hm hD]; exact hnil0
  obtain ⟨C1, hC1, hJ⟩ := hS.inv.gh 0 _ hD hb' hnil rfl
  refine call_walk ho hg hcon.1 hF (fun x _ => hS.opnd x) fun vs hvs => ?_
  have hvs2 := hvs.shutPick hfr hcl
  rw [hargs] at hvs2
  refine (hcon.2 G.l w0 M c hp vs pre G.its C1 hfp hy hpre hS.inv hC1 hJ hvs2).mono fun e w' hR => ?_
  obtain ⟨A', C', hpost, hend⟩ := hR
  have h1 : ∀ k blk, c.D k → hp[k]? = some (some blk) → (c.E k).nil = true → blk.grow = false → k = 0 := fun k blk hk hbk hnk hgk => by
    by_cases h0 : k = 0
    · exact h0
    · obtain ⟨blk', e', r⟩ := hS.inv.dom k hk
      rw [hbk] at e'
      cases e'
      rcases r.2.1 hnk with ⟨g1, _⟩ | g
      · rw [hgk] at g1; cases g1
      · exact absurd g (Blk.ng_not (oneG_at hone k blk hbk (by omega)))
  have go : ∀ (st : Nat) (b : Bool) (q : List (List Sv)), M.J st q A' C' w' → K (setT tm o.dst (.val (.bool b))) (hp.set 0 (some ⟨st, 0, true, false, q⟩)) → next (a.put o.dst (.bool b)) w' := by
    intro st b q hJ' hK
    obtain ⟨c', e1, hI', hle, hDD, hZZ, hZ⟩ := hS.inv.yieldW hD hb' hnil h1 hC1 hpost hJ'
    rw [← e1]
    refine hn _ _ _ c' hK ?_
    have hS' : St w0 M c' tm (hp.set 0 (some ⟨st, 0, true, false, q⟩)) a ds := by
      refine { inv := hI', full := fun k bk hk => ?_, rel := fun t => Rel.le _ (Sv.all_true _) hle (hS.rel t), size := hS.size, ds := ?_ }
      · rw [hDD]
        by_cases h0 : k = 0
        · subst h0; exact hD
        · rw [List.getElem?_set_ne (fun e => h0 e.symm)] at hk
          exact hS.full k bk hk
      · obtain ⟨ml, g1, g2, g3⟩ := hS.ds
        refine ⟨ml, g1, g2, fun b hb => ?_⟩
        obtain ⟨f1, f2, f3, f4⟩ := g3 b hb
        obtain ⟨z1, z2⟩ := hZ b f2
        exact ⟨f1, by rw [hZZ]; exact f2, z1, by rw [e1, z2]; exact f4⟩
    exact hS'.put o.dst (by simp [Rel])
  rcases hend with ⟨rfl, hJ'⟩ | ⟨q, hq, rfl, hJ'⟩
  · exact ⟨_, rfl, go 0 true _ hJ' hT⟩
  · have := hF' q hq
    rw [setTK_eq, spineK_eq] at this
    exact ⟨_, rfl, go 1 false q hJ' this⟩
theorem opS_sound {K : List Sv → Hp → Prop} (h : opS G tm hp o K) : SStepK G o tm hp K := by
  have hgen : (opE G tm hp o fun s nb kl => forgetK kl tm fun tm => setTK tm o.dst s fun tm => addK kl hp nb fun hp => K tm hp) → SStepK G o tm hp K := by
    intro h
    refine EStepK.sstep ?_
    have : ∀ s nb kl, (forgetK kl tm fun tm => setTK tm o.dst s fun tm => addK kl hp nb fun hp => K tm hp) = K (setT (forgetT kl tm) o.dst s) (kill kl hp ++ nb.map some) := fun s nb kl => by rw [forgetK_eq, setTK_eq, addK_eq]
    simp only [this] at h
    exact opE_sound h
  unfold opS at h
  split at h
  · rename_i cl ho
    obtain ⟨callee, xs, tys⟩ := cl
    simp only at h
    split at h
    · split at h
      · rename_i hg
        rw [deepK_eq] at h
        exact callL_sound ho hg h
      · rename_i g l first cap hg
        split at h
        · rename_i e1 e2
          have e1 := arr0 e1
          have e2 := arr0 e2
          subst e1 e2
          obtain ⟨rfl, h⟩ := h
          rw [deepK_eq] at h
          exact yieldV_sound ho hg h
        · exact h.elim
      · exact h.elim
    · split at h
      · rename_i x y t t' hxs hty
        have e1 := arr2 hxs
        have e2 := arr2 hty
        subst e1 e2
        split at h
        · rename_i k n hx
          obtain ⟨b, hb, h⟩ := h
          rcases h with ⟨_, h⟩ | h
          · exact hgen h
          · obtain ⟨rfl, h⟩ := h
            rw [← hx] at h
            obtain ⟨s, hp', h1, h2⟩ := appPV_sound ho h
            rw [setTK_eq] at h1
            exact .of ⟨_, _, h1, h2⟩
        · exact hgen h
      · exact h.elim
    · split at h
      · rename_i x t hxs hty
        have e1 := arr1 hxs
        have e2 := arr1 hty
        subst e1 e2
        obtain ⟨s, hp', h1, h2⟩ := clearV_sound ho h
        rw [setTK_eq] at h1
        exact .of ⟨_, _, h1, h2⟩
      · exact h.elim
    · split at h
      · rename_i x y t t' hxs hty
        have e1 := arr2 hxs
        have e2 := arr2 hty
        subst e1 e2
        obtain ⟨s, hp', h1, h2⟩ := copyV_sound ho h
        rw [setTK_eq] at h1
        exact .of ⟨_, _, h1, h2⟩
      · exact h.elim
    · exact hgen h
  · rename_i t x y ho
    split at h
    · rename_i hd
      obtain ⟨hp', h1, h2⟩ := storeV_sound ho hd h
      exact .of ⟨_, _, h1, h2⟩
    · exact h.elim
  · rename_i x ho
    rw [setTK_eq] at h
    obtain ⟨s, h1, h2⟩ := moveV_sound (G := G) (hp := hp) (K := fun s => K (setT tm o.dst s) hp) (.inr ho) h
    refine .of ⟨_, _, h1, ?_⟩
    have := (h2.estep (by rw [ho]; simp)).sstep
    simpa [kill, forgetT] using this
  · exact hgen h
end

/-! ### Regions in the order of the text -/
def runR (G : Gm) (all : List Oper) : List Oper → List Sv → Hp → (List Sv → Hp → Prop) → Prop
  | [], tm, hp, K => K tm hp
  | o :: rest, tm, hp, K =>
    match o.guard with
    | none => opS G tm hp o fun tm hp => runR G all rest tm hp K
    | some (j, want) => match nth all j with
      | some oj => match oj.dst with
        | some d => match tmGet tm d with
          | .val (.bool b) => Br b
              (match want with
                | true => setK tm d (.val (.bool true)) fun tm => opS G tm hp o fun tm hp => runR G all rest tm hp K
                | false => setK tm d (.val (.bool true)) fun tm => setTK tm o.dst .any fun tm => runR G all rest tm hp K)
              (match want with
                | false => setK tm d (.val (.bool false)) fun tm => opS G tm hp o fun tm hp => runR G all rest tm hp K
                | true => setK tm d (.val (.bool false)) fun tm => setTK tm o.dst .any fun tm => runR G all rest tm hp K)
          | _ => False
        | none => False
      | none => False

/-- A temporary that is known is known. -/
theorem St.know {w0 : World} {M : Frm} {c : Cx} {tm : List Sv} {hp : Hp} {a : Act} {ds : List Deferred} (h : St w0 M c tm hp a ds) {d : Nat} {v : Value} (hv : a.tmps[d]? = some v) : St w0 M c (tm.set d (.val v)) hp a ds := by
  refine { inv := h.inv, full := h.full, rel := fun t => ?_, size := by simp [h.size], ds := h.ds }
  rw [tmGet_set]
  by_cases ht : d = t ∧ t < tm.length
  · rw [if_pos ht]
    obtain ⟨rfl, _⟩ := ht
    simp [Rel, Array.getD_eq_getD_getElem?, hv]
  · rw [if_neg ht]
    exact h.rel t

theorem runR_sound {G : Gm} {ops : Array Oper} {F : Fence} (hF : Open F) {n : Nat} {Q : Exit → Act → World → Prop} {w0 : World} {M : Frm} {ds : List Deferred} {K : List Sv → Hp → Prop} (hyd : YdOk G.P w0 M G.l G.its)
    (hQ : ∀ a c tm hp, K tm hp → St w0 M c tm hp a ds → Q .normal a c.w) :
    ∀ (l : List Oper) (i : Nat) (tm : List Sv) (hp : Hp) (c : Cx) (a : Act), ops.toList.drop i = l → runR G ops.toList l tm hp K → St w0 M c tm hp a ds → wpOpsIn F n G.P ops Q (List.range' i l.length) a c.w
  | [], _, tm, hp, c, a, _, h, hS => hQ a c tm hp h hS
  | o :: rest, i, tm, hp, c, a, hdrop, h, hS => by
    have hi : ops[i]? = some o := by
      have : (ops.toList.drop i)[0]? = some o := by rw [hdrop]; rfl
      rw [List.getElem?_drop] at this
      simpa using this
    have hrest : ops.toList.drop (i + 1) = rest := by
      rw [← List.drop_drop, hdrop]
      rfl
    simp only [List.length_cons, List.range'_succ, wpOpsIn, hi]
    unfold runR at h
    split at h
    · rename_i hg
      have hw : Region.wanted o (yielded ops a.tmps) = true := by simp [Region.wanted, hg]
      rw [if_pos hw]
      exact opS_sound h F n w0 M c a ds _ Q hF hyd hS fun tm' hp' a' c' hK hS' => runR_sound hF hyd hQ rest (i + 1) tm' hp' c' a' hrest hK hS'
    · rename_i j want hg
      split at h
      case h_2 => exact h.elim
      rename_i oj hoj
      split at h
      case h_2 => exact h.elim
      rename_i d hd
      split at h
      case h_2 => exact h.elim
      rename_i b hb
      rw [nth_eq, Array.getElem?_toList] at hoj
      -- the temporary that the guard looks at
      have hv : a.tmps[d]? = some (.bool b) := by
        have hr := hS.rel d
        rw [hb] at hr
        simp only [Rel] at hr
        have hlt : d < tm.length := by
          unfold tmGet at hb
          rw [nth_eq] at hb
          cases hx : tm[d]? with
          | none => rw [hx] at hb; cases hb
          | some s => exact (List.getElem?_eq_some_iff.1 hx).1
        rw [Array.getD_eq_getD_getElem?, Array.getElem?_eq_getElem (by rw [hS.size]; exact hlt)] at hr
        rw [Array.getElem?_eq_getElem (by rw [hS.size]; exact hlt)]
        simpa using hr
      have hy : yielded ops a.tmps j = some b := by simp [yielded, hoj, hd, hv]
      have hwd : Region.wanted o (yielded ops a.tmps) = (b == want) := by
        simp [Region.wanted, hg, hy]
      have hS1 := hS.know hv
      obtain ⟨h1, h2⟩ := h
      have run : opS G (tm.set d (.val (.bool b))) hp o (fun tm hp => runR G ops.toList rest tm hp K) → (b == want) = true → (if Region.wanted o (yielded ops a.tmps) = true then Oper.wpIn F n G.P o a c.w (wpOpsIn F n G.P ops Q (List.range' (i + 1) rest.length)) Q else ((∀ f, o.about G.P c.w a.eval = some f → F.fn f) ∧ wpOpsIn F n G.P ops Q (List.range' (i + 1) rest.length) (a.put o.dst undef) c.w)) := fun hh hbw => by
        have hw : Region.wanted o (yielded ops a.tmps) = true := by rw [hwd]; exact hbw
        rw [if_pos hw]
        exact opS_sound hh F n w0 M c a ds _ Q hF hyd hS1 fun tm' hp' a' c' hK hS' => runR_sound hF hyd hQ rest (i + 1) tm' hp' c' a' hrest hK hS'
      have skip : runR G ops.toList rest (setT (tm.set d (.val (.bool b))) o.dst .any) hp K → (b == want) = false → (if Region.wanted o (yielded ops a.tmps) = true then Oper.wpIn F n G.P o a c.w (wpOpsIn F n G.P ops Q (List.range' (i + 1) rest.length)) Q else ((∀ f, o.about G.P c.w a.eval = some f → F.fn f) ∧ wpOpsIn F n G.P ops Q (List.range' (i + 1) rest.length) (a.put o.dst undef) c.w)) := fun hh hbw => by
        have hw : ¬ Region.wanted o (yielded ops a.tmps) = true := by rw [hwd, hbw]; simp
        rw [if_neg hw]
        exact ⟨fun f _ => hF.fn f, runR_sound hF hyd hQ rest (i + 1) _ hp c _ hrest hh (hS1.put o.dst (s := .any) (by simp [Rel]))⟩
      cases b with
      | true =>
        have h1 := h1 rfl
        cases want with
        | true => simp only [setK_eq] at h1; exact run h1 rfl
        | false => simp only [setK_eq, setTK_eq] at h1; exact skip h1 rfl
      | false =>
        have h2 := h2 rfl
        cases want with
        | true => simp only [setK_eq, setTK_eq] at h2; exact skip h2 rfl
        | false => simp only [setK_eq] at h2; exact run h2 rfl

end Go.Eng
