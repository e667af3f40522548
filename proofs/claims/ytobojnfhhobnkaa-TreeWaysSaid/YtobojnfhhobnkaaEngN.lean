/- The engine, part N: regions that draw the order of their operations: operations that only read or make memory, in any order; behind them stores and assignments, in theirs. -/
import Derived.Test.YtobojnfhhobnkaaEngI
import Derived.OrdersIn
set_option linter.unusedSimpArgs false
set_option maxRecDepth 20000
set_option linter.unusedVariables false
namespace Go.Eng
open Go Go.RowKit

/-! ### A value of which only the blocks of p are still known -/
def Sv.only (p : Nat → Bool) : Sv → Sv
  | .agg cs => .agg (go p cs)
  | .tup cs => .tup (go p cs)
  | .clo f cs => .clo f (go p cs)
  | .ptr k r q => match p k with | true => .ptr k r q | false => .any
  | .own k n => match p k with | true => .own k n | false => .any
  | .sls k l n => match p k with | true => .sls k l n | false => .any
  | s => s
where go (p : Nat → Bool) : List Sv → List Sv
  | [] => []
  | s :: ss => s.only p :: go p ss

mutual
theorem only_all (p : Nat → Bool) : ∀ s : Sv, (s.only p).all p = true
  | .val _ | .any | .ext _ _ _ | .ref _ _ => by simp [Sv.only, Sv.all]
  | .ptr k r q => by
    simp only [Sv.only]
    split <;> simp [Sv.all, *]
  | .own k n => by
    simp only [Sv.only]
    split <;> simp [Sv.all, *]
  | .sls k l n => by
    simp only [Sv.only]
    split <;> simp [Sv.all, *]
  | .agg cs => by simp [Sv.only, Sv.all, onlyL_all p cs]
  | .tup cs => by simp [Sv.only, Sv.all, onlyL_all p cs]
  | .clo _ cs => by simp [Sv.only, Sv.all, onlyL_all p cs]
theorem onlyL_all (p : Nat → Bool) : ∀ cs : List Sv, Sv.all.allL p (Sv.only.go p cs) = true
  | [] => rfl
  | s :: ss => by simp [Sv.only.go, Sv.all.allL, only_all p s, onlyL_all p ss]
end

mutual
theorem all_mono {p q : Nat → Bool} (h : ∀ k, p k = true → q k = true) : ∀ s : Sv, s.all p = true → s.all q = true
  | .val _, _ | .any, _ | .ext _ _ _, _ | .ref _ _, _ => by simp [Sv.all]
  | .ptr k _ _, hp | .own k _, hp | .sls k _ _, hp => by simp only [Sv.all] at hp ⊢; exact h k hp
  | .agg cs, hp | .tup cs, hp | .clo _ cs, hp => by simp only [Sv.all] at hp ⊢; exact allL_mono h cs hp
theorem allL_mono {p q : Nat → Bool} (h : ∀ k, p k = true → q k = true) : ∀ cs : List Sv, Sv.all.allL p cs = true → Sv.all.allL q cs = true
  | [], _ => rfl
  | s :: ss, hp => by
    simp only [Sv.all.allL, Bool.and_eq_true] at hp ⊢
    exact ⟨all_mono h s hp.1, allL_mono h ss hp.2⟩
end
theorem allR_mono {p q : Nat → Bool} (h : ∀ k, p k = true → q k = true) (rs : List (List Sv)) (hp : rs.all (Sv.all.allL p) = true) : rs.all (Sv.all.allL q) = true := by
  rw [List.all_eq_true] at hp ⊢
  exact fun r hr => allL_mono h r (hp r hr)

mutual
theorem only_only {p q r : Nat → Bool} (h : ∀ k, r k = true → p k = true → q k = true) : ∀ s : Sv, s.all r = true → (s.only q).only p = s.only p
  | .val _, _ | .any, _ | .ext _ _ _, _ | .ref _ _, _ => by simp [Sv.only]
  | .ptr k _ _, hr => by
    simp only [Sv.all] at hr
    cases hq : q k with
    | true => simp [Sv.only, hq]
    | false =>
      have hp : p k = false := by
        cases hp : p k with
        | true => rw [h k hr hp] at hq; cases hq
        | false => rfl
      simp [Sv.only, hq, hp]
  | .own k _, hr => by
    simp only [Sv.all] at hr
    cases hq : q k with
    | true => simp [Sv.only, hq]
    | false =>
      have hp : p k = false := by
        cases hp : p k with
        | true => rw [h k hr hp] at hq; cases hq
        | false => rfl
      simp [Sv.only, hq, hp]
  | .sls k _ _, hr => by
    simp only [Sv.all] at hr
    cases hq : q k with
    | true => simp [Sv.only, hq]
    | false =>
      have hp : p k = false := by
        cases hp : p k with
        | true => rw [h k hr hp] at hq; cases hq
        | false => rfl
      simp [Sv.only, hq, hp]
  | .agg cs, hr => by simp only [Sv.only, only_onlyL h cs (by simpa [Sv.all] using hr)]
  | .tup cs, hr => by simp only [Sv.only, only_onlyL h cs (by simpa [Sv.all] using hr)]
  | .clo _ cs, hr => by simp only [Sv.only, only_onlyL h cs (by simpa [Sv.all] using hr)]
theorem only_onlyL {p q r : Nat → Bool} (h : ∀ k, r k = true → p k = true → q k = true) : ∀ cs : List Sv, Sv.all.allL r cs = true → Sv.only.go p (Sv.only.go q cs) = Sv.only.go p cs
  | [], _ => rfl
  | s :: ss, hr => by
    simp only [Sv.all.allL, Bool.and_eq_true] at hr
    simp only [Sv.only.go, only_only h s hr.1, only_onlyL h ss hr.2]
end

/-! What is known names only blocks that are known. -/
mutual
theorem Rel.ids {p : Nat → Bool} : ∀ (s : Sv) {c : Cx} {v : Value}, (∀ k, c.D k → p k = true) → Rel s c v → s.all p = true
  | .val _, _, _, _, _ | .any, _, _, _, _ | .ext _ _ _, _, _, _, _ | .ref _ _, _, _, _, _ => by simp [Sv.all]
  | .ptr k _ _, _, _, h, r => by simp only [Rel] at r; simpa [Sv.all] using h k r.1
  | .own k _, _, _, h, r => by simp only [Rel] at r; simpa [Sv.all] using h k r.1
  | .sls k _ _, _, _, h, r => by simp only [Rel] at r; simpa [Sv.all] using h k r.1
  | .agg cs, _, _, h, r => by
    simp only [Rel] at r
    obtain ⟨vs, _, hl⟩ := r
    simpa [Sv.all] using RelL.ids cs h hl
  | .tup cs, _, _, h, r => by
    simp only [Rel] at r
    obtain ⟨vs, _, hl⟩ := r
    simpa [Sv.all] using RelT.ids cs h hl
  | .clo _ cs, _, _, h, r => by
    simp only [Rel] at r
    obtain ⟨vs, _, hl⟩ := r
    simpa [Sv.all] using RelT.ids cs h hl
theorem RelL.ids {p : Nat → Bool} : ∀ (ss : List Sv) {c : Cx} {vs : List Value}, (∀ k, c.D k → p k = true) → RelL ss c vs → Sv.all.allL p ss = true
  | [], _, _, _, _ => rfl
  | s :: ss, _, _, h, r => by
    simp only [RelL] at r
    obtain ⟨u, us, _, _, hs, hl⟩ := r
    simp [Sv.all.allL, Rel.ids s h hs, RelL.ids ss h hl]
theorem RelT.ids {p : Nat → Bool} : ∀ (ss : List Sv) {c : Cx} {vs : List Value}, (∀ k, c.D k → p k = true) → RelT ss c vs → Sv.all.allL p ss = true
  | [], _, _, _, _ => rfl
  | s :: ss, _, _, h, r => by
    simp only [RelT] at r
    obtain ⟨u, us, _, hs, hl⟩ := r
    simp [Sv.all.allL, Rel.ids s h hs, RelT.ids ss h hl]
theorem RelC.ids {p : Nat → Bool} : ∀ (ss : List Sv) {c : Cx} {b off : Nat}, (∀ k, c.D k → p k = true) → RelC ss c b off → Sv.all.allL p ss = true
  | [], _, _, _, _, _ => rfl
  | s :: ss, _, _, _, h, r => by
    simp only [RelC] at r
    obtain ⟨⟨u, _, _, hs⟩, hl⟩ := r
    simp [Sv.all.allL, Rel.ids s h hs, RelC.ids ss h hl]
end
theorem RelR.ids {p : Nat → Bool} : ∀ (rs : List (List Sv)) {c : Cx} {wd b off : Nat}, (∀ k, c.D k → p k = true) → RelR rs c wd b off → rs.all (Sv.all.allL p) = true
  | [], _, _, _, _, _, _ => rfl
  | r :: rs, _, _, _, _, h, q => by
    simp only [RelR] at q
    simp [List.all_cons, RelC.ids r h q.2.1]
    simpa using RelR.ids rs h q.2.2

theorem BlkRel.ids {p : Nat → Bool} {c : Cx} {k : Nat} {b : Blk} (h : ∀ k, c.D k → p k = true) (r : BlkRel c k b) (hc : b.clean = false) : b.rows.all (Sv.all.allL p) = true := by
  cases hn : (c.E k).nil with
  | true =>
    rcases r.2.1 hn with ⟨_, h3⟩ | ⟨_, h3, _⟩
    · rw [h3]; rfl
    · rw [hc] at h3; cases h3
  | false =>
    obtain ⟨arr, _, hr, _⟩ := r.2.2 hn
    unfold Blk.cx at hr
    rw [hc] at hr
    exact RelR.ids _ h hr

mutual
theorem Rel.only (p : Nat → Bool) : ∀ (s : Sv) {c : Cx} {v : Value}, Rel s c v → Rel (s.only p) c v
  | .val _, _, _, r | .any, _, _, r | .ext _ _ _, _, _, r | .ref _ _, _, _, r => r
  | .ptr k r q, _, _, h => by
    simp only [Sv.only]
    split
    · exact h
    · simp [Rel]
  | .own k n, _, _, h => by
    simp only [Sv.only]
    split
    · exact h
    · simp [Rel]
  | .sls k l n, _, _, h => by
    simp only [Sv.only]
    split
    · exact h
    · simp [Rel]
  | .agg cs, _, _, h => by
    simp only [Sv.only, Rel] at h ⊢
    obtain ⟨vs, e, hl⟩ := h
    exact ⟨vs, e, RelL.only p cs hl⟩
  | .tup cs, _, _, h => by
    simp only [Sv.only, Rel] at h ⊢
    obtain ⟨vs, e, hl⟩ := h
    exact ⟨vs, e, RelT.only p cs hl⟩
  | .clo f cs, _, _, h => by
    simp only [Sv.only, Rel] at h ⊢
    obtain ⟨vs, e, hl⟩ := h
    exact ⟨vs, e, RelT.only p cs hl⟩
theorem RelL.only (p : Nat → Bool) : ∀ (cs : List Sv) {c : Cx} {vs : List Value}, RelL cs c vs → RelL (Sv.only.go p cs) c vs
  | [], _, _, h => by simpa [Sv.only.go] using h
  | s :: ss, _, _, h => by
    simp only [Sv.only.go, RelL] at h ⊢
    obtain ⟨u, us, e, h1, hs, hl⟩ := h
    exact ⟨u, us, e, h1, Rel.only p s hs, RelL.only p ss hl⟩
theorem RelT.only (p : Nat → Bool) : ∀ (cs : List Sv) {c : Cx} {vs : List Value}, RelT cs c vs → RelT (Sv.only.go p cs) c vs
  | [], _, _, h => by simpa [Sv.only.go] using h
  | s :: ss, _, _, h => by
    simp only [Sv.only.go, RelT] at h ⊢
    obtain ⟨u, us, e, hs, hl⟩ := h
    exact ⟨u, us, e, Rel.only p s hs, RelT.only p ss hl⟩
theorem RelC.only (p : Nat → Bool) : ∀ (cs : List Sv) {c : Cx} {b off : Nat}, RelC cs c b off → RelC (Sv.only.go p cs) c b off
  | [], _, _, _, h => by simpa [Sv.only.go] using h
  | s :: ss, _, _, _, h => by
    simp only [Sv.only.go, RelC] at h ⊢
    obtain ⟨⟨u, e, h1, hs⟩, hl⟩ := h
    exact ⟨⟨u, e, h1, Rel.only p s hs⟩, RelC.only p ss hl⟩
end
theorem onlyGo_length (p : Nat → Bool) : ∀ cs : List Sv, (Sv.only.go p cs).length = cs.length
  | [] => rfl
  | s :: ss => by simp [Sv.only.go, onlyGo_length p ss]
theorem RelR.only (p : Nat → Bool) : ∀ (rs : List (List Sv)) {c : Cx} {wd b off : Nat}, RelR rs c wd b off → RelR (rs.map (Sv.only.go p)) c wd b off
  | [], _, _, _, _, h => by simpa using h
  | r :: rs, _, _, _, _, h => by
    simp only [List.map_cons, RelR] at h ⊢
    exact ⟨by rw [onlyGo_length]; exact h.1, RelC.only p r h.2.1, RelR.only p rs h.2.2⟩

def Blk.only (p : Nat → Bool) (b : Blk) : Blk :=
  match b with
  | ⟨e, wd, true, gr, rows⟩ => ⟨e, wd, true, gr, rows⟩
  | ⟨e, wd, false, gr, rows⟩ => ⟨e, wd, false, gr, rows.map (Sv.only.go p)⟩
theorem Blk.only_def (p : Nat → Bool) (b : Blk) : b.only p = match b.clean with
    | true => b
    | false => { b with rows := b.rows.map (Sv.only.go p) } := by
  cases b with
  | mk e wd cl gr rows => cases cl <;> rfl

theorem Blk.only_only {p q r : Nat → Bool} (h : ∀ k, r k = true → p k = true → q k = true) (b : Blk) (hr : b.clean = false → b.rows.all (Sv.all.allL r) = true) : (b.only q).only p = b.only p := by
  cases hc : b.clean with
  | true => simp [Blk.only_def, hc]
  | false =>
    simp only [Blk.only_def, hc, List.map_map]
    congr 1
    apply List.map_congr_left
    intro x hx
    have := hr hc
    rw [List.all_eq_true] at this
    exact only_onlyL h x (this x hx)

theorem BlkRel.only {c : Cx} {k : Nat} {b : Blk} (p : Nat → Bool) (r : BlkRel c k b) : BlkRel c k (b.only p) := by
  cases hc : b.clean with
  | true => simpa [Blk.only_def, hc] using r
  | false =>
    simp only [Blk.only_def, hc]
    unfold BlkRel at *
    refine ⟨r.1, fun hn => ?_, fun hn => ?_⟩
    · rcases r.2.1 hn with ⟨h1, h2⟩ | ⟨_, h2, _⟩
      · exact .inl ⟨h1, by simp [h2]⟩
      · rw [hc] at h2; cases h2
    obtain ⟨arr, hh, hr, hl, hg⟩ := r.2.2 hn
    refine ⟨arr, hh, ?_, by simpa using hl, by simpa using hg⟩
    unfold Blk.cx at *
    rw [hc] at hr
    exact RelR.only p _ hr

theorem Blk.only_grow (p : Nat → Bool) (b : Blk) : (b.only p).grow = b.grow := by rw [Blk.only_def]; split <;> rfl
theorem Blk.only_clean (p : Nat → Bool) (b : Blk) : (b.only p).clean = b.clean := by
  rw [Blk.only_def]
  split
  · rfl
  · rfl
/-- What tells of rounds names no block. -/
theorem BlkRel.only_ghost {c : Cx} {k : Nat} {b : Blk} {p : Nat → Bool} (r : BlkRel c k (b.only p)) (hn : (c.E k).nil = true) (hg : b.grow = false) (q : Nat → Bool) : b.only q = b := by
  rcases r.2.1 hn with ⟨h1, _⟩ | ⟨_, h1, _⟩
  · rw [Blk.only_grow, hg] at h1; cases h1
  · rw [Blk.only_clean] at h1
    rw [Blk.only_def, h1]

theorem Blk.only_rows (p : Nat → Bool) (b : Blk) (h : (b.only p).clean = false) : (b.only p).rows.all (Sv.all.allL p) = true := by
  cases hc : b.clean with
  | true => simp [Blk.only_def, hc] at h
  | false =>
    simp only [Blk.only_def, hc]
    rw [List.all_eq_true]
    intro r hr
    obtain ⟨r0, _, rfl⟩ := List.mem_map.1 hr
    exact onlyL_all p r0

/-! ### What the operations leave, and the states between -/
structure Ent where
  dst : Option Nat
  s : Sv
  nb : List Blk
  kl : List Nat

/-- The blocks that the operations of p have made. -/
def extH (p : Nat → Bool) : List Ent → Nat → Hp
  | [], _ => []
  | e :: T, m => e.nb.map (fun b => match p m with | true => some b | false => none) ++ extH p T (m + 1)

theorem extH_length (p q : Nat → Bool) : ∀ (T : List Ent) (m : Nat), (extH p T m).length = (extH q T m).length
  | [], _ => rfl
  | e :: T, m => by simp [extH, extH_length p q T]

theorem extH_append (p : Nat → Bool) : ∀ (T T' : List Ent) (m : Nat), extH p (T ++ T') m = extH p T m ++ extH p T' (m + T.length)
  | [], T', m => by simp [extH]
  | e :: T, T', m => by
    simp only [List.cons_append, extH, extH_append p T T', List.append_assoc, List.length_cons]
    rw [show m + 1 + T.length = m + (T.length + 1) by omega]

theorem extH_mono {p q : Nat → Bool} (h : ∀ m, p m = true → q m = true) : ∀ (T : List Ent) (m k : Nat) (b : Blk), (extH p T m)[k]? = some (some b) → (extH q T m)[k]? = some (some b)
  | [], _, _, _, hk => by simp [extH] at hk
  | e :: T, m, k, b, hk => by
    simp only [extH] at hk ⊢
    by_cases hlt : k < e.nb.length
    · rw [List.getElem?_append_left (by simpa using hlt)] at hk ⊢
      simp only [List.getElem?_map, List.getElem?_eq_getElem hlt, Option.map_some] at hk ⊢
      cases hp : p m with
      | true => rw [hp] at hk; rw [h m hp]; exact hk
      | false => rw [hp] at hk; cases hk
    · rw [List.getElem?_append_right (by simp; omega)] at hk ⊢
      simp only [List.length_map] at hk ⊢
      exact extH_mono h T (m + 1) _ b hk

/-- The heap with the blocks that p's operations have made. -/
def rawH (p : Nat → Bool) (T : List Ent) (hp : Hp) : Hp := hp ++ extH p T 0

theorem rawH_take {p q : Nat → Bool} (h : ∀ m, p m = true → q m = true) {T : List Ent} {hp : Hp} {i k : Nat} {b : Blk} (hk : (rawH p (T.take i) hp)[k]? = some (some b)) : (rawH q T hp)[k]? = some (some b) := by
  unfold rawH at *
  rw [show extH q T 0 = extH q (T.take i) 0 ++ extH q (T.drop i) (0 + (T.take i).length) by rw [← extH_append, List.take_append_drop]]
  rw [← List.append_assoc]
  have hlen := (List.getElem?_eq_some_iff.1 hk).1
  have hl2 : (hp ++ extH p (T.take i) 0).length = (hp ++ extH q (T.take i) 0).length := by simp [extH_length p q]
  rw [List.getElem?_append_left (by omega)]
  by_cases hlt : k < hp.length
  · rw [List.getElem?_append_left hlt] at hk ⊢
    exact hk
  · rw [List.getElem?_append_right (by omega)] at hk ⊢
    exact extH_mono h _ _ _ _ hk

/-- Which blocks are there: made, and not killed. -/
def avG (kk : Nat → Bool) : Nat → Hp → List Bool
  | _, [] => []
  | i, some _ :: r => (!kk i) :: avG kk (i + 1) r
  | i, none :: r => false :: avG kk (i + 1) r
def bAt (l : List Bool) (k : Nat) : Bool :=
  match nth l k with
  | some b => b
  | none => false
theorem avG_iff (kk : Nat → Bool) : ∀ (i : Nat) (hp : Hp) (k : Nat), bAt (avG kk i hp) k = true ↔ (∃ b, hp[k]? = some (some b)) ∧ kk (i + k) = false
  | i, [], k => by simp [avG, bAt, nth]
  | i, some b :: r, 0 => by simp [avG, bAt, nth]
  | i, none :: r, 0 => by simp [avG, bAt, nth]
  | i, some b :: r, k + 1 => by
    have := avG_iff kk (i + 1) r k
    simp only [avG, bAt, nth] at this ⊢
    rw [show i + (k + 1) = i + 1 + k by omega]
    simpa using this
  | i, none :: r, k + 1 => by
    have := avG_iff kk (i + 1) r k
    simp only [avG, bAt, nth] at this ⊢
    rw [show i + (k + 1) = i + 1 + k by omega]
    simpa using this

def onlyH (av : Nat → Bool) : Nat → Hp → Hp
  | _, [] => []
  | i, some b :: r => (match av i with | true => some (b.only av) | false => none) :: onlyH av (i + 1) r
  | i, none :: r => none :: onlyH av (i + 1) r
theorem onlyH_length (av : Nat → Bool) : ∀ (i : Nat) (hp : Hp), (onlyH av i hp).length = hp.length
  | _, [] => rfl
  | i, some b :: r => by simp [onlyH, onlyH_length av (i + 1) r]
  | i, none :: r => by simp [onlyH, onlyH_length av (i + 1) r]
theorem onlyH_get (av : Nat → Bool) : ∀ (i : Nat) (hp : Hp) (k : Nat) (b' : Blk), (onlyH av i hp)[k]? = some (some b') ↔ ∃ b, hp[k]? = some (some b) ∧ av (i + k) = true ∧ b' = b.only av
  | _, [], _, _ => by simp [onlyH]
  | i, some b :: r, 0, b' => by
    simp only [onlyH]
    cases h : av i with
    | true => simp [h, eq_comm]
    | false => simp [h]
  | i, none :: r, 0, b' => by simp [onlyH]
  | i, some b :: r, k + 1, b' => by
    rw [show i + (k + 1) = i + 1 + k by omega]
    simpa [onlyH] using onlyH_get av (i + 1) r k b'
  | i, none :: r, k + 1, b' => by
    rw [show i + (k + 1) = i + 1 + k by omega]
    simpa [onlyH] using onlyH_get av (i + 1) r k b'

/-- Who writes this slot. -/
def slotE : List Ent → Nat → Nat → Option (Nat × Sv)
  | [], _, _ => none
  | e :: T, m, t => match e.dst with
    | some d => match Nat.beq d t with
      | true => some (m, e.s)
      | false => slotE T (m + 1) t
    | none => slotE T (m + 1) t
theorem slotE_some : ∀ {T : List Ent} {m t j : Nat} {s : Sv}, slotE T m t = some (j, s) → ∃ i e, j = m + i ∧ T[i]? = some e ∧ e.dst = some t ∧ e.s = s
  | [], _, _, _, _, h => by simp [slotE] at h
  | e :: T, m, t, j, s, h => by
    simp only [slotE] at h
    split at h
    · rename_i d hd
      split at h
      · rename_i hb
        cases h
        have := Nat.eq_of_beq_eq_true hb
        subst this
        exact ⟨0, e, rfl, rfl, hd, rfl⟩
      · obtain ⟨i, e', h1, h2⟩ := slotE_some h
        exact ⟨i + 1, e', by omega, by simpa using h2⟩
    · obtain ⟨i, e', h1, h2⟩ := slotE_some h
      exact ⟨i + 1, e', by omega, by simpa using h2⟩
theorem slotE_none : ∀ {T : List Ent} {m t : Nat}, slotE T m t = none → ∀ e ∈ T, e.dst ≠ some t
  | [], _, _, _, e, he => by simp at he
  | e :: T, m, t, h, e', he => by
    simp only [slotE] at h
    split at h
    · rename_i d hd
      split at h
      · cases h
      · rename_i hb
        rcases List.mem_cons.1 he with rfl | he
        · rw [hd]
          intro hx
          injection hx with hx
          subst hx
          rw [Nat.beq_refl] at hb
          cases hb
        · exact slotE_none h e' he
    · rename_i hd
      rcases List.mem_cons.1 he with rfl | he
      · rw [hd]; simp
      · exact slotE_none h e' he
theorem slotE_take : ∀ {T : List Ent} {i m t : Nat} {r : Nat × Sv}, slotE (T.take i) m t = some r → slotE T m t = some r
  | [], _, _, _, _, h => by simpa using h
  | e :: T, 0, _, _, _, h => by simp [slotE] at h
  | e :: T, i + 1, m, t, r, h => by
    simp only [List.take_succ_cons, slotE] at h ⊢
    cases hd : e.dst with
    | none =>
      rw [hd] at h
      exact slotE_take h
    | some d =>
      rw [hd] at h
      simp only at h ⊢
      cases hb : Nat.beq d t with
      | true => rw [hb] at h; exact h
      | false => rw [hb] at h; exact slotE_take h
/-- With each slot written once, the writer is who it is. -/
theorem slotE_at {T : List Ent} {i t : Nat} {e : Ent} (hu : ∀ (a b : Nat) (x y : Ent) (d : Nat), T[a]? = some x → T[b]? = some y → x.dst = some d → y.dst = some d → a = b) (he : T[i]? = some e) (hd : e.dst = some t) : slotE T 0 t = some (i, e.s) := by
  cases h : slotE T 0 t with
  | none => exact absurd hd (slotE_none h e (List.mem_of_getElem? he))
  | some r =>
    obtain ⟨j, s⟩ := r
    obtain ⟨k, e', rfl, h2, h3, rfl⟩ := slotE_some h
    have := hu i k e e' t he h2 hd h3
    subst this
    rw [he] at h2
    cases h2
    simp

/-- What a slot holds when p's operations have run. -/
def sAt (T : List Ent) (p av : Nat → Bool) (ds : List Nat) (t : Nat) (s : Sv) : Sv :=
  match slotE T 0 t with
  | some (j, s') => match p j with
    | true => s'.only av
    | false => .any
  | none => match memB t ds with
    | true => .any
    | false => s.only av
def rawT (T : List Ent) (p av nd : Nat → Bool) (ds : List Nat) : Nat → List Sv → List Sv
  | _, [] => []
  | t, s :: r => (match nd t with
    | true => sAt T p av ds t s
    | false => .any) :: rawT T p av nd ds (t + 1) r
theorem rawT_length (T : List Ent) (p av nd : Nat → Bool) (ds : List Nat) : ∀ (t : Nat) (tm : List Sv), (rawT T p av nd ds t tm).length = tm.length
  | _, [] => rfl
  | t, s :: r => by simp [rawT, rawT_length T p av nd ds (t + 1) r]
theorem tmGet_rawT (T : List Ent) (p av nd : Nat → Bool) (ds : List Nat) : ∀ (i : Nat) (tm : List Sv) (t : Nat), tmGet (rawT T p av nd ds i tm) t = .any ∨ (nd (i + t) = true ∧ tmGet (rawT T p av nd ds i tm) t = sAt T p av ds (i + t) (tmGet tm t))
  | _, [], t => by simp [rawT, tmGet, nth]
  | i, s :: r, 0 => by
    simp only [rawT, tmGet, nth]
    split
    · rename_i h; exact .inr ⟨h, rfl⟩
    · exact .inl rfl
  | i, s :: r, t + 1 => by
    rw [show i + (t + 1) = i + 1 + t by omega]
    simpa [rawT, tmGet, nth] using tmGet_rawT T p av nd ds (i + 1) r t

/-- Which blocks X's operations have killed. -/
def killX (X : Nat → Bool) : List Ent → Nat → Nat → Bool
  | [], _, _ => false
  | e :: T, m, k => (X m && memB k e.kl) || killX X T (m + 1) k
theorem killX_iff (X : Nat → Bool) : ∀ (T : List Ent) (m k : Nat), killX X T m k = true ↔ ∃ (i : Nat) (e : Ent), T[i]? = some e ∧ X (m + i) = true ∧ memB k e.kl = true
  | [], _, _ => by simp [killX]
  | e :: T, m, k => by
    simp only [killX, Bool.or_eq_true, Bool.and_eq_true, killX_iff X T]
    constructor
    · rintro (⟨h1, h2⟩ | ⟨i, e', h1, h2, h3⟩)
      · exact ⟨0, e, rfl, h1, h2⟩
      · exact ⟨i + 1, e', by simpa using h1, by rw [show m + (i + 1) = m + 1 + i by omega]; exact h2, h3⟩
    · rintro ⟨i, e', h1, h2, h3⟩
      cases i with
      | zero => simp at h1; subst h1; exact .inl ⟨h2, h3⟩
      | succ i => exact .inr ⟨i, e', by simpa using h1, by rw [show m + 1 + i = m + (i + 1) by omega]; exact h2, h3⟩

/-! ### The state between -/
def avX (T : List Ent) (hp0 : Hp) (X : Nat → Bool) : Nat → Bool := bAt (avG (killX X T 0) 0 (rawH X T hp0))
theorem avX_iff {T : List Ent} {hp0 : Hp} {X : Nat → Bool} {k : Nat} : avX T hp0 X k = true ↔ (∃ b, (rawH X T hp0)[k]? = some (some b)) ∧ killX X T 0 k = false := by
  unfold avX
  rw [avG_iff, Nat.zero_add]

/-- The blocks that there were at first, and those that X has made. -/
def crX (T : List Ent) (hp0 : Hp) (X : Nat → Bool) (k : Nat) : Bool :=
  decide (k < hp0.length) || match (rawH X T hp0)[k]? with
    | some (some _) => true
    | _ => false
theorem crX_iff {T : List Ent} {hp0 : Hp} {X : Nat → Bool} {k : Nat} : crX T hp0 X k = true ↔ k < hp0.length ∨ ∃ b, (rawH X T hp0)[k]? = some (some b) := by
  unfold crX
  rw [Bool.or_eq_true, decide_eq_true_iff]
  constructor
  · rintro (h | h)
    · exact .inl h
    · split at h
      · rename_i b hb; exact .inr ⟨b, hb⟩
      · cases h
  · rintro (h | ⟨b, hb⟩)
    · exact .inl h
    · rw [hb]; exact .inr rfl

structure Mid (w0 : World) (M : Frm) (T : List Ent) (hp0 : Hp) (tm0 : List Sv) (ds : List Nat) (X : Nat → Bool) (c : Cx) (a : Act) (dfs : List Deferred) : Prop where
  inv : Inv w0 M c (onlyH (avX T hp0 X) 0 (rawH X T hp0))
  mm : M.m ≤ hp0.length
  dom : ∀ k, c.D k ↔ avX T hp0 X k = true
  rel : ∀ t, Rel (sAt T X (avX T hp0 X) ds t (tmGet tm0 t)) c (a.tmps.getD t undef)
  size : a.tmps.size = tm0.length
  dfs : Marks w0 c a.defers dfs
  idT : ∀ t, (tmGet tm0 t).all (crX T hp0 X) = true
  idH : ∀ (k : Nat) (b : Blk), (rawH X T hp0)[k]? = some (some b) → b.clean = false → b.rows.all (Sv.all.allL (crX T hp0 X)) = true
  idE : ∀ (j : Nat) (e : Ent), T[j]? = some e → X j = true → e.s.all (crX T hp0 X) = true

theorem rawH_nil {T : List Ent} {hp0 : Hp} {k : Nat} {b : Blk} (hb : (rawH (fun _ => false) T hp0)[k]? = some (some b)) : hp0[k]? = some (some b) := by
  have h2 : ∀ (T : List Ent) (m k : Nat) (b : Blk), (extH (fun _ => false) T m)[k]? ≠ some (some b) := by
    intro T
    induction T with
    | nil => intro m k b h; simp [extH] at h
    | cons e T ih =>
      intro m k b h
      simp only [extH] at h
      by_cases hlt : k < e.nb.length
      · rw [List.getElem?_append_left (by simpa using hlt)] at h
        simp only [List.getElem?_map, List.getElem?_eq_getElem hlt, Option.map_some] at h
        cases h
      · rw [List.getElem?_append_right (by simp; omega)] at h
        exact ih _ _ _ h
  unfold rawH at hb
  by_cases hlt : k < hp0.length
  · rw [List.getElem?_append_left hlt] at hb
    exact hb
  · rw [List.getElem?_append_right (by omega)] at hb
    exact absurd hb (h2 _ _ _ _)

theorem avX_nil {T : List Ent} {hp0 : Hp} {k : Nat} : avX T hp0 (fun _ => false) k = true ↔ ∃ b, hp0[k]? = some (some b) := by
  rw [avX_iff]
  have h1 : killX (fun _ => false) T 0 k = false := by
    cases h : killX (fun _ => false) T 0 k with
    | true => obtain ⟨_, _, _, h2, _⟩ := (killX_iff _ _ _ _).1 h; cases h2
    | false => rfl
  rw [h1]
  constructor
  · rintro ⟨⟨b, hb⟩, _⟩
    exact ⟨b, rawH_nil hb⟩
  · rintro ⟨b, hb⟩
    refine ⟨⟨b, ?_⟩, rfl⟩
    unfold rawH
    rw [List.getElem?_append_left (List.getElem?_eq_some_iff.1 hb).1]
    exact hb

/-- The state in which nothing has run yet. -/
theorem Mid.start {w0 : World} {M : Frm} {T : List Ent} {hp0 : Hp} {tm0 : List Sv} {ds : List Nat} {c : Cx} {a : Act} {dfs : List Deferred} (h : St w0 M c tm0 hp0 a dfs) : Mid w0 M T hp0 tm0 ds (fun _ => false) c a dfs := by
  have hdom : ∀ k, c.D k ↔ avX T hp0 (fun _ => false) k = true := fun k => by
    rw [avX_nil]
    exact ⟨fun hd => let ⟨b, hb, _⟩ := h.inv.dom k hd; ⟨b, hb⟩, fun ⟨b, hb⟩ => h.full k b hb⟩
  refine { inv := ?_, mm := h.inv.mlen, dom := hdom, rel := fun t => ?_, size := h.size, dfs := h.ds, idT := fun t => ?_, idH := fun k b hb hc => ?_, idE := fun _ _ _ h => by cases h }
  rotate_left 2
  · exact Rel.ids _ (fun k hd => crX_iff.2 (.inl (let ⟨b, hb, _⟩ := h.inv.dom k hd; (List.getElem?_eq_some_iff.1 hb).1))) (h.rel t)
  · have hk : hp0[k]? = some (some b) := by
      have := rawH_nil hb
      exact this
    obtain ⟨b', hb', r⟩ := h.inv.dom k (h.full k b hk)
    rw [hk] at hb'
    cases hb'
    exact r.ids (fun k hd => crX_iff.2 (.inl (let ⟨b, hb, _⟩ := h.inv.dom k hd; (List.getElem?_eq_some_iff.1 hb).1))) hc
  · refine { h.inv with dom := fun k hd => ?_, mlen := by rw [onlyH_length]; unfold rawH; rw [List.length_append]; have := h.inv.mlen; omega, gh := ?_ }
    rotate_left
    · intro k blk hD hb hn hg
      rw [onlyH_get] at hb
      obtain ⟨b, hb, _, rfl⟩ := hb
      have hb := rawH_nil hb
      obtain ⟨b', hb', r⟩ := h.inv.dom k hD
      rw [hb] at hb'
      cases hb'
      rw [Blk.only_grow] at hg
      rw [(r.only (avX T hp0 fun _ => false)).only_ghost hn hg]
      exact h.inv.gh k b hD hb hn hg
    obtain ⟨b, hb, r⟩ := h.inv.dom k hd
    refine ⟨b.only (avX T hp0 fun _ => false), ?_, r.only _⟩
    rw [onlyH_get]
    refine ⟨b, ?_, by rw [Nat.zero_add]; exact (hdom k).1 hd, rfl⟩
    unfold rawH
    rw [List.getElem?_append_left (List.getElem?_eq_some_iff.1 hb).1]
    exact hb
  · unfold sAt
    split
    · exact trivial
    · split
      · exact trivial
      · exact Rel.only _ _ (h.rel t)
end Go.Eng
