/- The engine, fourth part. -/
import Derived.Test.YtiklbnianbejdaaEng3
import Derived.OrdersIn
set_option linter.unusedSimpArgs false
set_option maxRecDepth 20000
set_option linter.unusedVariables false
/- The engine, part N: regions that draw the order of their operations: operations that only read or make memory, in any order; behind them stores and assignments, in theirs. -/
namespace Go.Eng
open Go Go.RowKit

/-! ### A value of which only the blocks of p are still known -/
def Sv.only (p : Nat → Bool) : Sv → Sv
  | .agg cs => .agg (go p cs)
  | .tup cs => .tup (go p cs)
  | .clo f cs => .clo f (go p cs)
  | .ptr k r q => match p k with | true => .ptr k r q | false => .any
  | .own k n => match p k with | true => .own k n | false => .any
  | .sls k l n => match p k with | true => .sls k l n | false => .any
  | s => s
where go (p : Nat → Bool) : List Sv → List Sv
  | [] => []
  | s :: ss => s.only p :: go p ss

mutual
theorem only_all (p : Nat → Bool) : ∀ s : Sv, (s.only p).all p = true
  | .val _ | .any | .ext _ _ _ | .ref _ _ => by simp [Sv.only, Sv.all]
  | .ptr k r q => by
    simp only [Sv.only]
    split <;> simp [Sv.all, *]
  | .own k n => by
    simp only [Sv.only]
    split <;> simp [Sv.all, *]
  | .sls k l n => by
    simp only [Sv.only]
    split <;> simp [Sv.all, *]
  | .agg cs => by simp [Sv.only, Sv.all, onlyL_all p cs]
  | .tup cs => by simp [Sv.only, Sv.all, onlyL_all p cs]
  | .clo _ cs => by simp [Sv.only, Sv.all, onlyL_all p cs]
theorem onlyL_all (p : Nat → Bool) : ∀ cs : List Sv, Sv.all.allL p (Sv.only.go p cs) = true
  | [] => rfl
  | s :: ss => by simp [Sv.only.go, Sv.all.allL, only_all p s, onlyL_all p ss]
end

mutual
theorem all_mono {p q : Nat → Bool} (h : ∀ k, p k = true → q k = true) : ∀ s : Sv, s.all p = true → s.all q = true
  | .val _, _ | .any, _ | .ext _ _ _, _ | .ref _ _, _ => by simp [Sv.all]
  | .ptr k _ _, hp | .own k _, hp | .sls k _ _, hp => by simp only [Sv.all] at hp ⊢; exact h k hp
  | .agg cs, hp | .tup cs, hp | .clo _ cs, hp => by simp only [Sv.all] at hp ⊢; exact allL_mono h cs hp
theorem allL_mono {p q : Nat → Bool} (h : ∀ k, p k = true → q k = true) : ∀ cs : List Sv, Sv.all.allL p cs = true → Sv.all.allL q cs = true
  | [], _ => rfl
  | s :: ss, hp => by
    simp only [Sv.all.allL, Bool.and_eq_true] at hp ⊢
    exact ⟨all_mono h s hp.1, allL_mono h ss hp.2⟩
end
theorem allR_mono {p q : Nat → Bool} (h : ∀ k, p k = true → q k = true) (rs : List (List Sv)) (hp : rs.all (Sv.all.allL p) = true) : rs.all (Sv.all.allL q) = true := by
  rw [List.all_eq_true] at hp ⊢
  exact fun r hr => allL_mono h r (hp r hr)

mutual
theorem only_only {p q r : Nat → Bool} (h : ∀ k, r k = true → p k = true → q k = true) : ∀ s : Sv, s.all r = true → (s.only q).only p = s.only p
  | .val _, _ | .any, _ | .ext _ _ _, _ | .ref _ _, _ => by simp [Sv.only]
  | .ptr k _ _, hr => by
    simp only [Sv.all] at hr
    cases hq : q k with
    | true => simp [Sv.only, hq]
    | false =>
      have hp : p k = false := by
        cases hp : p k with
        | true => rw [h k hr hp] at hq; cases hq
        | false => rfl
      simp [Sv.only, hq, hp]
  | .own k _, hr => by
    simp only [Sv.all] at hr
    cases hq : q k with
    | true => simp [Sv.only, hq]
    | false =>
      have hp : p k = false := by
        cases hp : p k with
        | true => rw [h k hr hp] at hq; cases hq
        | false => rfl
      simp [Sv.only, hq, hp]
  | .sls k _ _, hr => by
    simp only [Sv.all] at hr
    cases hq : q k with
    | true => simp [Sv.only, hq]
    | false =>
      have hp : p k = false := by
        cases hp : p k with
        | true => rw [h k hr hp] at hq; cases hq
        | false => rfl
      simp [Sv.only, hq, hp]
  | .agg cs, hr => by simp only [Sv.only, only_onlyL h cs (by simpa [Sv.all] using hr)]
  | .tup cs, hr => by simp only [Sv.only, only_onlyL h cs (by simpa [Sv.all] using hr)]
  | .clo _ cs, hr => by simp only [Sv.only, only_onlyL h cs (by simpa [Sv.all] using hr)]
theorem only_onlyL {p q r : Nat → Bool} (h : ∀ k, r k = true → p k = true → q k = true) : ∀ cs : List Sv, Sv.all.allL r cs = true → Sv.only.go p (Sv.only.go q cs) = Sv.only.go p cs
  | [], _ => rfl
  | s :: ss, hr => by
    simp only [Sv.all.allL, Bool.and_eq_true] at hr
    simp only [Sv.only.go, only_only h s hr.1, only_onlyL h ss hr.2]
end

/-! What is known names only blocks that are known. -/
mutual
theorem Rel.ids {p : Nat → Bool} : ∀ (s : Sv) {c : Cx} {v : Value}, (∀ k, c.D k → p k = true) → Rel s c v → s.all p = true
  | .val _, _, _, _, _ | .any, _, _, _, _ | .ext _ _ _, _, _, _, _ | .ref _ _, _, _, _, _ => by simp [Sv.all]
  | .ptr k _ _, _, _, h, r => by simp only [Rel] at r; simpa [Sv.all] using h k r.1
  | .own k _, _, _, h, r => by simp only [Rel] at r; simpa [Sv.all] using h k r.1
  | .sls k _ _, _, _, h, r => by simp only [Rel] at r; simpa [Sv.all] using h k r.1
  | .agg cs, _, _, h, r => by
    simp only [Rel] at r
    obtain ⟨vs, _, hl⟩ := r
    simpa [Sv.all] using RelL.ids cs h hl
  | .tup cs, _, _, h, r => by
    simp only [Rel] at r
    obtain ⟨vs, _, hl⟩ := r
    simpa [Sv.all] using RelT.ids cs h hl
  | .clo _ cs, _, _, h, r => by
    simp only [Rel] at r
    obtain ⟨vs, _, hl⟩ := r
    simpa [Sv.all] using RelT.ids cs h hl
theorem RelL.ids {p : Nat → Bool} : ∀ (ss : List Sv) {c : Cx} {vs : List Value}, (∀ k, c.D k → p k = true) → RelL ss c vs → Sv.all.allL p ss = true
  | [], _, _, _, _ => rfl
  | s :: ss, _, _, h, r => by
    simp only [RelL] at r
    obtain ⟨u, us, _, _, hs, hl⟩ := r
    simp [Sv.all.allL, Rel.ids s h hs, RelL.ids ss h hl]
theorem RelT.ids {p : Nat → Bool} : ∀ (ss : List Sv) {c : Cx} {vs : List Value}, (∀ k, c.D k → p k = true) → RelT ss c vs → Sv.all.allL p ss = true
  | [], _, _, _, _ => rfl
  | s :: ss, _, _, h, r => by
    simp only [RelT] at r
    obtain ⟨u, us, _, hs, hl⟩ := r
    simp [Sv.all.allL, Rel.ids s h hs, RelT.ids ss h hl]
theorem RelC.ids {p : Nat → Bool} : ∀ (ss : List Sv) {c : Cx} {b off : Nat}, (∀ k, c.D k → p k = true) → RelC ss c b off → Sv.all.allL p ss = true
  | [], _, _, _, _, _ => rfl
  | s :: ss, _, _, _, h, r => by
    simp only [RelC] at r
    obtain ⟨⟨u, _, _, hs⟩, hl⟩ := r
    simp [Sv.all.allL, Rel.ids s h hs, RelC.ids ss h hl]
end
theorem RelR.ids {p : Nat → Bool} : ∀ (rs : List (List Sv)) {c : Cx} {wd b off : Nat}, (∀ k, c.D k → p k = true) → RelR rs c wd b off → rs.all (Sv.all.allL p) = true
  | [], _, _, _, _, _, _ => rfl
  | r :: rs, _, _, _, _, h, q => by
    simp only [RelR] at q
    simp [List.all_cons, RelC.ids r h q.2.1]
    simpa using RelR.ids rs h q.2.2

theorem BlkRel.ids {p : Nat → Bool} {c : Cx} {k : Nat} {b : Blk} (h : ∀ k, c.D k → p k = true) (r : BlkRel c k b) (hc : b.clean = false) : b.rows.all (Sv.all.allL p) = true := by
  cases hn : (c.E k).nil with
  | true =>
    rcases r.2.1 hn with ⟨_, h3⟩ | ⟨_, h3, _⟩
    · rw [h3]; rfl
    · rw [hc] at h3; cases h3
  | false =>
    obtain ⟨arr, _, hr, _⟩ := r.2.2 hn
    unfold Blk.cx at hr
    rw [hc] at hr
    exact RelR.ids _ h hr

mutual
theorem Rel.only (p : Nat → Bool) : ∀ (s : Sv) {c : Cx} {v : Value}, Rel s c v → Rel (s.only p) c v
  | .val _, _, _, r | .any, _, _, r | .ext _ _ _, _, _, r | .ref _ _, _, _, r => r
  | .ptr k r q, _, _, h => by
    simp only [Sv.only]
    split
    · exact h
    · simp [Rel]
  | .own k n, _, _, h => by
    simp only [Sv.only]
    split
    · exact h
    · simp [Rel]
  | .sls k l n, _, _, h => by
    simp only [Sv.only]
    split
    · exact h
    · simp [Rel]
  | .agg cs, _, _, h => by
    simp only [Sv.only, Rel] at h ⊢
    obtain ⟨vs, e, hl⟩ := h
    exact ⟨vs, e, RelL.only p cs hl⟩
  | .tup cs, _, _, h => by
    simp only [Sv.only, Rel] at h ⊢
    obtain ⟨vs, e, hl⟩ := h
    exact ⟨vs, e, RelT.only p cs hl⟩
  | .clo f cs, _, _, h => by
    simp only [Sv.only, Rel] at h ⊢
    obtain ⟨vs, e, hl⟩ := h
    exact ⟨vs, e, RelT.only p cs hl⟩
theorem RelL.only (p : Nat → Bool) : ∀ (cs : List Sv) {c : Cx} {vs : List Value}, RelL cs c vs → RelL (Sv.only.go p cs) c vs
  | [], _, _, h => by simpa [Sv.only.go] using h
  | s :: ss, _, _, h => by
    simp only [Sv.only.go, RelL] at h ⊢
    obtain ⟨u, us, e, h1, hs, hl⟩ := h
    exact ⟨u, us, e, h1, Rel.only p s hs, RelL.only p ss hl⟩
theorem RelT.only (p : Nat → Bool) : ∀ (cs : List Sv) {c : Cx} {vs : List Value}, RelT cs c vs → RelT (Sv.only.go p cs) c vs
  | [], _, _, h => by simpa [Sv.only.go] using h
  | s :: ss, _, _, h => by
    simp only [Sv.only.go, RelT] at h ⊢
    obtain ⟨u, us, e, hs, hl⟩ := h
    exact ⟨u, us, e, Rel.only p s hs, RelT.only p ss hl⟩
theorem RelC.only (p : Nat → Bool) : ∀ (cs : List Sv) {c : Cx} {b off : Nat}, RelC cs c b off → RelC (Sv.only.go p cs) c b off
  | [], _, _, _, h => by simpa [Sv.only.go] using h
  | s :: ss, _, _, _, h => by
    simp only [Sv.only.go, RelC] at h ⊢
    obtain ⟨⟨u, e, h1, hs⟩, hl⟩ := h
    exact ⟨⟨u, e, h1, Rel.only p s hs⟩, RelC.only p ss hl⟩
end
theorem onlyGo_length (p : Nat → Bool) : ∀ cs : List Sv, (Sv.only.go p cs).length = cs.length
  | [] => rfl
  | s :: ss => by simp [Sv.only.go, onlyGo_length p ss]
theorem RelR.only (p : Nat → Bool) : ∀ (rs : List (List Sv)) {c : Cx} {wd b off : Nat}, RelR rs c wd b off → RelR (rs.map (Sv.only.go p)) c wd b off
  | [], _, _, _, _, h => by simpa using h
  | r :: rs, _, _, _, _, h => by
    simp only [List.map_cons, RelR] at h ⊢
    exact ⟨by rw [onlyGo_length]; exact h.1, RelC.only p r h.2.1, RelR.only p rs h.2.2⟩

def Blk.only (p : Nat → Bool) (b : Blk) : Blk :=
  match b with
  | ⟨e, wd, true, gr, rows⟩ => ⟨e, wd, true, gr, rows⟩
  | ⟨e, wd, false, gr, rows⟩ => ⟨e, wd, false, gr, rows.map (Sv.only.go p)⟩
theorem Blk.only_def (p : Nat → Bool) (b : Blk) : b.only p = match b.clean with
    | true => b
    | false => { b with rows := b.rows.map (Sv.only.go p) } := by
  cases b with
  | mk e wd cl gr rows => cases cl <;> rfl

theorem Blk.only_only {p q r : Nat → Bool} (h : ∀ k, r k = true → p k = true → q k = true) (b : Blk) (hr : b.clean = false → b.rows.all (Sv.all.allL r) = true) : (b.only q).only p = b.only p := by
  cases hc : b.clean with
  | true => simp [Blk.only_def, hc]
  | false =>
    simp only [Blk.only_def, hc, List.map_map]
    congr 1
    apply List.map_congr_left
    intro x hx
    have := hr hc
    rw [List.all_eq_true] at this
    exact only_onlyL h x (this x hx)

theorem BlkRel.only {c : Cx} {k : Nat} {b : Blk} (p : Nat → Bool) (r : BlkRel c k b) : BlkRel c k (b.only p) := by
  cases hc : b.clean with
  | true => simpa [Blk.only_def, hc] using r
  | false =>
    simp only [Blk.only_def, hc]
    unfold BlkRel at *
    refine ⟨r.1, fun hn => ?_, fun hn => ?_⟩
    · rcases r.2.1 hn with ⟨h1, h2⟩ | ⟨_, h2, _⟩
      · exact .inl ⟨h1, by simp [h2]⟩
      · rw [hc] at h2; cases h2
    obtain ⟨arr, hh, hr, hl, hg⟩ := r.2.2 hn
    refine ⟨arr, hh, ?_, by simpa using hl, by simpa using hg⟩
    unfold Blk.cx at *
    rw [hc] at hr
    exact RelR.only p _ hr

theorem Blk.only_grow (p : Nat → Bool) (b : Blk) : (b.only p).grow = b.grow := by rw [Blk.only_def]; split <;> rfl
theorem Blk.only_clean (p : Nat → Bool) (b : Blk) : (b.only p).clean = b.clean := by
  rw [Blk.only_def]
  split
  · rfl
  · rfl
/-- What tells of rounds names no block. -/
theorem BlkRel.only_ghost {c : Cx} {k : Nat} {b : Blk} {p : Nat → Bool} (r : BlkRel c k (b.only p)) (hn : (c.E k).nil = true) (hg : b.grow = false) (q : Nat → Bool) : b.only q = b := by
  rcases r.2.1 hn with ⟨h1, _⟩ | ⟨_, h1, _⟩
  · rw [Blk.only_grow, hg] at h1; cases h1
  · rw [Blk.only_clean] at h1
    rw [Blk.only_def, h1]

theorem Blk.only_rows (p : Nat → Bool) (b : Blk) (h : (b.only p).clean = false) : (b.only p).rows.all (Sv.all.allL p) = true := by
  cases hc : b.clean with
  | true => simp [Blk.only_def, hc] at h
  | false =>
    simp only [Blk.only_def, hc]
    rw [List.all_eq_true]
    intro r hr
    obtain ⟨r0, _, rfl⟩ := List.mem_map.1 hr
    exact onlyL_all p r0

/-! ### What the operations leave, and the states between -/
structure Ent where
  dst : Option Nat
  s : Sv
  nb : List Blk
  kl : List Nat

/-- The blocks that the operations of p have made. -/
def extH (p : Nat → Bool) : List Ent → Nat → Hp
  | [], _ => []
  | e :: T, m => e.nb.map (fun b => match p m with | true => some b | false => none) ++ extH p T (m + 1)

theorem extH_length (p q : Nat → Bool) : ∀ (T : List Ent) (m : Nat), (extH p T m).length = (extH q T m).length
  | [], _ => rfl
  | e :: T, m => by simp [extH, extH_length p q T]

theorem extH_append (p : Nat → Bool) : ∀ (T T' : List Ent) (m : Nat), extH p (T ++ T') m = extH p T m ++ extH p T' (m + T.length)
  | [], T', m => by simp [extH]
  | e :: T, T', m => by
    simp only [List.cons_append, extH, extH_append p T T', List.append_assoc, List.length_cons]
    rw [show m + 1 + T.length = m + (T.length + 1) by omega]

theorem extH_mono {p q : Nat → Bool} (h : ∀ m, p m = true → q m = true) : ∀ (T : List Ent) (m k : Nat) (b : Blk), (extH p T m)[k]? = some (some b) → (extH q T m)[k]? = some (some b)
  | [], _, _, _, hk => by simp [extH] at hk
  | e :: T, m, k, b, hk => by
    simp only [extH] at hk ⊢
    by_cases hlt : k < e.nb.length
    · rw [List.getElem?_append_left (by simpa using hlt)] at hk ⊢
      simp only [List.getElem?_map, List.getElem?_eq_getElem hlt, Option.map_some] at hk ⊢
      cases hp : p m with
      | true => rw [hp] at hk; rw [h m hp]; exact hk
      | false => rw [hp] at hk; cases hk
    · rw [List.getElem?_append_right (by simp; omega)] at hk ⊢
      simp only [List.length_map] at hk ⊢
      exact extH_mono h T (m + 1) _ b hk

/-- The heap with the blocks that p's operations have made. -/
def rawH (p : Nat → Bool) (T : List Ent) (hp : Hp) : Hp := hp ++ extH p T 0

theorem rawH_take {p q : Nat → Bool} (h : ∀ m, p m = true → q m = true) {T : List Ent} {hp : Hp} {i k : Nat} {b : Blk} (hk : (rawH p (T.take i) hp)[k]? = some (some b)) : (rawH q T hp)[k]? = some (some b) := by
  unfold rawH at *
  rw [show extH q T 0 = extH q (T.take i) 0 ++ extH q (T.drop i) (0 + (T.take i).length) by rw [← extH_append, List.take_append_drop]]
  rw [← List.append_assoc]
  have hlen := (List.getElem?_eq_some_iff.1 hk).1
  have hl2 : (hp ++ extH p (T.take i) 0).length = (hp ++ extH q (T.take i) 0).length := by simp [extH_length p q]
  rw [List.getElem?_append_left (by omega)]
  by_cases hlt : k < hp.length
  · rw [List.getElem?_append_left hlt] at hk ⊢
    exact hk
  · rw [List.getElem?_append_right (by omega)] at hk ⊢
    exact extH_mono h _ _ _ _ hk

/-- Which blocks are there: made, and not killed. -/
def avG (kk : Nat → Bool) : Nat → Hp → List Bool
  | _, [] => []
  | i, some _ :: r => (!kk i) :: avG kk (i + 1) r
  | i, none :: r => false :: avG kk (i + 1) r
def bAt (l : List Bool) (k : Nat) : Bool :=
  match nth l k with
  | some b => b
  | none => false
theorem avG_iff (kk : Nat → Bool) : ∀ (i : Nat) (hp : Hp) (k : Nat), bAt (avG kk i hp) k = true ↔ (∃ b, hp[k]? = some (some b)) ∧ kk (i + k) = false
  | i, [], k => by simp [avG, bAt, nth]
  | i, some b :: r, 0 => by simp [avG, bAt, nth]
  | i, none :: r, 0 => by simp [avG, bAt, nth]
  | i, some b :: r, k + 1 => by
    have := avG_iff kk (i + 1) r k
    simp only [avG, bAt, nth] at this ⊢
    rw [show i + (k + 1) = i + 1 + k by omega]
    simpa using this
  | i, none :: r, k + 1 => by
    have := avG_iff kk (i + 1) r k
    simp only [avG, bAt, nth] at this ⊢
    rw [show i + (k + 1) = i + 1 + k by omega]
    simpa using this

def onlyH (av : Nat → Bool) : Nat → Hp → Hp
  | _, [] => []
  | i, some b :: r => (match av i with | true => some (b.only av) | false => none) :: onlyH av (i + 1) r
  | i, none :: r => none :: onlyH av (i + 1) r
theorem onlyH_length (av : Nat → Bool) : ∀ (i : Nat) (hp : Hp), (onlyH av i hp).length = hp.length
  | _, [] => rfl
  | i, some b :: r => by simp [onlyH, onlyH_length av (i + 1) r]
  | i, none :: r => by simp [onlyH, onlyH_length av (i + 1) r]
theorem onlyH_get (av : Nat → Bool) : ∀ (i : Nat) (hp : Hp) (k : Nat) (b' : Blk), (onlyH av i hp)[k]? = some (some b') ↔ ∃ b, hp[k]? = some (some b) ∧ av (i + k) = true ∧ b' = b.only av
  | _, [], _, _ => by simp [onlyH]
  | i, some b :: r, 0, b' => by
    simp only [onlyH]
    cases h : av i with
    | true => simp [h, eq_comm]
    | false => simp [h]
  | i, none :: r, 0, b' => by simp [onlyH]
  | i, some b :: r, k + 1, b' => by
    rw [show i + (k + 1) = i + 1 + k by omega]
    simpa [onlyH] using onlyH_get av (i + 1) r k b'
  | i, none :: r, k + 1, b' => by
    rw [show i + (k + 1) = i + 1 + k by omega]
    simpa [onlyH] using onlyH_get av (i + 1) r k b'

/-- Who writes this slot. -/
def slotE : List Ent → Nat → Nat → Option (Nat × Sv)
  | [], _, _ => none
  | e :: T, m, t => match e.dst with
    | some d => match Nat.beq d t with
      | true => some (m, e.s)
      | false => slotE T (m + 1) t
    | none => slotE T (m + 1) t
theorem slotE_some : ∀ {T : List Ent} {m t j : Nat} {s : Sv}, slotE T m t = some (j, s) → ∃ i e, j = m + i ∧ T[i]? = some e ∧ e.dst = some t ∧ e.s = s
  | [], _, _, _, _, h => by simp [slotE] at h
  | e :: T, m, t, j, s, h => by
    simp only [slotE] at h
    split at h
    · rename_i d hd
      split at h
      · rename_i hb
        cases h
        have := Nat.eq_of_beq_eq_true hb
        subst this
        exact ⟨0, e, rfl, rfl, hd, rfl⟩
      · obtain ⟨i, e', h1, h2⟩ := slotE_some h
        exact ⟨i + 1, e', by omega, by simpa using h2⟩
    · obtain ⟨i, e', h1, h2⟩ := slotE_some h
      exact ⟨i + 1, e', by omega, by simpa using h2⟩
theorem slotE_none : ∀ {T : List Ent} {m t : Nat}, slotE T m t = none → ∀ e ∈ T, e.dst ≠ some t
  | [], _, _, _, e, he => by simp at he
  | e :: T, m, t, h, e', he => by
    simp only [slotE] at h
    split at h
    · rename_i d hd
      split at h
      · cases h
      · rename_i hb
        rcases List.mem_cons.1 he with rfl | he
        · rw [hd]
          intro hx
          injection hx with hx
          subst hx
          rw [Nat.beq_refl] at hb
          cases hb
        · exact slotE_none h e' he
    · rename_i hd
      rcases List.mem_cons.1 he with rfl | he
      · rw [hd]; simp
      · exact slotE_none h e' he
theorem slotE_take : ∀ {T : List Ent} {i m t : Nat} {r : Nat × Sv}, slotE (T.take i) m t = some r → slotE T m t = some r
  | [], _, _, _, _, h => by simpa using h
  | e :: T, 0, _, _, _, h => by simp [slotE] at h
  | e :: T, i + 1, m, t, r, h => by
    simp only [List.take_succ_cons, slotE] at h ⊢
    cases hd : e.dst with
    | none =>
      rw [hd] at h
      exact slotE_take h
    | some d =>
      rw [hd] at h
      simp only at h ⊢
      cases hb : Nat.beq d t with
      | true => rw [hb] at h; exact h
      | false => rw [hb] at h; exact slotE_take h
/-- With each slot written once, the writer is who it is. -/
theorem slotE_at {T : List Ent} {i t : Nat} {e : Ent} (hu : ∀ (a b : Nat) (x y : Ent) (d : Nat), T[a]? = some x → T[b]? = some y → x.dst = some d → y.dst = some d → a = b) (he : T[i]? = some e) (hd : e.dst = some t) : slotE T 0 t = some (i, e.s) := by
  cases h : slotE T 0 t with
  | none => exact absurd hd (slotE_none h e (List.mem_of_getElem? he))
  | some r =>
    obtain ⟨j, s⟩ := r
    obtain ⟨k, e', rfl, h2, h3, rfl⟩ := slotE_some h
    have := hu i k e e' t he h2 hd h3
    subst this
    rw [he] at h2
    cases h2
    simp

/-- What a slot holds when p's operations have run. -/
def sAt (T : List Ent) (p av : Nat → Bool) (ds : List Nat) (t : Nat) (s : Sv) : Sv :=
  match slotE T 0 t with
  | some (j, s') => match p j with
    | true => s'.only av
    | false => .any
  | none => match memB t ds with
    | true => .any
    | false => s.only av
def rawT (T : List Ent) (p av nd : Nat → Bool) (ds : List Nat) : Nat → List Sv → List Sv
  | _, [] => []
  | t, s :: r => (match nd t with
    | true => sAt T p av ds t s
    | false => .any) :: rawT T p av nd ds (t + 1) r
theorem rawT_length (T : List Ent) (p av nd : Nat → Bool) (ds : List Nat) : ∀ (t : Nat) (tm : List Sv), (rawT T p av nd ds t tm).length = tm.length
  | _, [] => rfl
  | t, s :: r => by simp [rawT, rawT_length T p av nd ds (t + 1) r]
theorem tmGet_rawT (T : List Ent) (p av nd : Nat → Bool) (ds : List Nat) : ∀ (i : Nat) (tm : List Sv) (t : Nat), tmGet (rawT T p av nd ds i tm) t = .any ∨ (nd (i + t) = true ∧ tmGet (rawT T p av nd ds i tm) t = sAt T p av ds (i + t) (tmGet tm t))
  | _, [], t => by simp [rawT, tmGet, nth]
  | i, s :: r, 0 => by
    simp only [rawT, tmGet, nth]
    split
    · rename_i h; exact .inr ⟨h, rfl⟩
    · exact .inl rfl
  | i, s :: r, t + 1 => by
    rw [show i + (t + 1) = i + 1 + t by omega]
    simpa [rawT, tmGet, nth] using tmGet_rawT T p av nd ds (i + 1) r t

/-- Which blocks X's operations have killed. -/
def killX (X : Nat → Bool) : List Ent → Nat → Nat → Bool
  | [], _, _ => false
  | e :: T, m, k => (X m && memB k e.kl) || killX X T (m + 1) k
theorem killX_iff (X : Nat → Bool) : ∀ (T : List Ent) (m k : Nat), killX X T m k = true ↔ ∃ (i : Nat) (e : Ent), T[i]? = some e ∧ X (m + i) = true ∧ memB k e.kl = true
  | [], _, _ => by simp [killX]
  | e :: T, m, k => by
    simp only [killX, Bool.or_eq_true, Bool.and_eq_true, killX_iff X T]
    constructor
    · rintro (⟨h1, h2⟩ | ⟨i, e', h1, h2, h3⟩)
      · exact ⟨0, e, rfl, h1, h2⟩
      · exact ⟨i + 1, e', by simpa using h1, by rw [show m + (i + 1) = m + 1 + i by omega]; exact h2, h3⟩
    · rintro ⟨i, e', h1, h2, h3⟩
      cases i with
      | zero => simp at h1; subst h1; exact .inl ⟨h2, h3⟩
      | succ i => exact .inr ⟨i, e', by simpa using h1, by rw [show m + 1 + i = m + (i + 1) by omega]; exact h2, h3⟩

/-! ### The state between -/
def avX (T : List Ent) (hp0 : Hp) (X : Nat → Bool) : Nat → Bool := bAt (avG (killX X T 0) 0 (rawH X T hp0))
theorem avX_iff {T : List Ent} {hp0 : Hp} {X : Nat → Bool} {k : Nat} : avX T hp0 X k = true ↔ (∃ b, (rawH X T hp0)[k]? = some (some b)) ∧ killX X T 0 k = false := by
  unfold avX
  rw [avG_iff, Nat.zero_add]

/-- The blocks that there were at first, and those that X has made. -/
def crX (T : List Ent) (hp0 : Hp) (X : Nat → Bool) (k : Nat) : Bool :=
  decide (k < hp0.length) || match (rawH X T hp0)[k]? with
    | some (some _) => true
    | _ => false
theorem crX_iff {T : List Ent} {hp0 : Hp} {X : Nat → Bool} {k : Nat} : crX T hp0 X k = true ↔ k < hp0.length ∨ ∃ b, (rawH X T hp0)[k]? = some (some b) := by
  unfold crX
  rw [Bool.or_eq_true, decide_eq_true_iff]
  constructor
  · rintro (h | h)
    · exact .inl h
    · split at h
      · rename_i b hb; exact .inr ⟨b, hb⟩
      · cases h
  · rintro (h | ⟨b, hb⟩)
    · exact .inl h
    · rw [hb]; exact .inr rfl

structure Mid (w0 : World) (M : Frm) (T : List Ent) (hp0 : Hp) (tm0 : List Sv) (ds : List Nat) (X : Nat → Bool) (c : Cx) (a : Act) (dfs : List Deferred) : Prop where
  inv : Inv w0 M c (onlyH (avX T hp0 X) 0 (rawH X T hp0))
  mm : M.m ≤ hp0.length
  dom : ∀ k, c.D k ↔ avX T hp0 X k = true
  rel : ∀ t, Rel (sAt T X (avX T hp0 X) ds t (tmGet tm0 t)) c (a.tmps.getD t undef)
  size : a.tmps.size = tm0.length
  dfs : Marks w0 c a.defers dfs
  idT : ∀ t, (tmGet tm0 t).all (crX T hp0 X) = true
  idH : ∀ (k : Nat) (b : Blk), (rawH X T hp0)[k]? = some (some b) → b.clean = false → b.rows.all (Sv.all.allL (crX T hp0 X)) = true
  idE : ∀ (j : Nat) (e : Ent), T[j]? = some e → X j = true → e.s.all (crX T hp0 X) = true

theorem rawH_nil {T : List Ent} {hp0 : Hp} {k : Nat} {b : Blk} (hb : (rawH (fun _ => false) T hp0)[k]? = some (some b)) : hp0[k]? = some (some b) := by
  have h2 : ∀ (T : List Ent) (m k : Nat) (b : Blk), (extH (fun _ => false) T m)[k]? ≠ some (some b) := by
    intro T
    induction T with
    | nil => intro m k b h; simp [extH] at h
    | cons e T ih =>
      intro m k b h
      simp only [extH] at h
      by_cases hlt : k < e.nb.length
      · rw [List.getElem?_append_left (by simpa using hlt)] at h
        simp only [List.getElem?_map, List.getElem?_eq_getElem hlt, Option.map_some] at h
        cases h
      · rw [List.getElem?_append_right (by simp; omega)] at h
        exact ih _ _ _ h
  unfold rawH at hb
  by_cases hlt : k < hp0.length
  · rw [List.getElem?_append_left hlt] at hb
    exact hb
  · rw [List.getElem?_append_right (by omega)] at hb
    exact absurd hb (h2 _ _ _ _)

theorem avX_nil {T : List Ent} {hp0 : Hp} {k : Nat} : avX T hp0 (fun _ => false) k = true ↔ ∃ b, hp0[k]? = some (some b) := by
  rw [avX_iff]
  have h1 : killX (fun _ => false) T 0 k = false := by
    cases h : killX (fun _ => false) T 0 k with
    | true => obtain ⟨_, _, _, h2, _⟩ := (killX_iff _ _ _ _).1 h; cases h2
    | false => rfl
  rw [h1]
  constructor
  · rintro ⟨⟨b, hb⟩, _⟩
    exact ⟨b, rawH_nil hb⟩
  · rintro ⟨b, hb⟩
    refine ⟨⟨b, ?_⟩, rfl⟩
    unfold rawH
    rw [List.getElem?_append_left (List.getElem?_eq_some_iff.1 hb).1]
    exact hb

/-- The state in which nothing has run yet. -/
theorem Mid.start {w0 : World} {M : Frm} {T : List Ent} {hp0 : Hp} {tm0 : List Sv} {ds : List Nat} {c : Cx} {a : Act} {dfs : List Deferred} (h : St w0 M c tm0 hp0 a dfs) : Mid w0 M T hp0 tm0 ds (fun _ => false) c a dfs := by
  have hdom : ∀ k, c.D k ↔ avX T hp0 (fun _ => false) k = true := fun k => by
    rw [avX_nil]
    exact ⟨fun hd => let ⟨b, hb, _⟩ := h.inv.dom k hd; ⟨b, hb⟩, fun ⟨b, hb⟩ => h.full k b hb⟩
  refine { inv := ?_, mm := h.inv.mlen, dom := hdom, rel := fun t => ?_, size := h.size, dfs := h.ds, idT := fun t => ?_, idH := fun k b hb hc => ?_, idE := fun _ _ _ h => by cases h }
  rotate_left 2
  · exact Rel.ids _ (fun k hd => crX_iff.2 (.inl (let ⟨b, hb, _⟩ := h.inv.dom k hd; (List.getElem?_eq_some_iff.1 hb).1))) (h.rel t)
  · have hk : hp0[k]? = some (some b) := by
      have := rawH_nil hb
      exact this
    obtain ⟨b', hb', r⟩ := h.inv.dom k (h.full k b hk)
    rw [hk] at hb'
    cases hb'
    exact r.ids (fun k hd => crX_iff.2 (.inl (let ⟨b, hb, _⟩ := h.inv.dom k hd; (List.getElem?_eq_some_iff.1 hb).1))) hc
  · refine { h.inv with dom := fun k hd => ?_, mlen := by rw [onlyH_length]; unfold rawH; rw [List.length_append]; have := h.inv.mlen; omega, gh := ?_ }
    rotate_left
    · intro k blk hD hb hn hg
      rw [onlyH_get] at hb
      obtain ⟨b, hb, _, rfl⟩ := hb
      have hb := rawH_nil hb
      obtain ⟨b', hb', r⟩ := h.inv.dom k hD
      rw [hb] at hb'
      cases hb'
      rw [Blk.only_grow] at hg
      rw [(r.only (avX T hp0 fun _ => false)).only_ghost hn hg]
      exact h.inv.gh k b hD hb hn hg
    obtain ⟨b, hb, r⟩ := h.inv.dom k hd
    refine ⟨b.only (avX T hp0 fun _ => false), ?_, r.only _⟩
    rw [onlyH_get]
    refine ⟨b, ?_, by rw [Nat.zero_add]; exact (hdom k).1 hd, rfl⟩
    unfold rawH
    rw [List.getElem?_append_left (List.getElem?_eq_some_iff.1 hb).1]
    exact hb
  · unfold sAt
    split
    · exact trivial
    · split
      · exact trivial
      · exact Rel.only _ _ (h.rel t)
end Go.Eng

/- The engine, part P: one operation of a region that draws, in any state between. -/
namespace Go.Eng
open Go Go.RowKit

theorem extH_congr {p q : Nat → Bool} : ∀ (T : List Ent) (m : Nat), (∀ j, j < T.length → p (m + j) = q (m + j)) → extH p T m = extH q T m
  | [], _, _ => rfl
  | e :: T, m, h => by
    have h1 : p m = q m := h 0 (by simp)
    have h2 := extH_congr (p := p) (q := q) T (m + 1) (fun j hj => by
      rw [show m + 1 + j = m + (j + 1) by omega]
      exact h (j + 1) (by simpa using hj))
    simp only [extH, h1, h2]

theorem rawH_length (p q : Nat → Bool) (T : List Ent) (hp : Hp) : (rawH p T hp).length = (rawH q T hp).length := by simp [rawH, extH_length p q T]

theorem rawH_split {T : List Ent} {i : Nat} {e : Ent} (he : T[i]? = some e) (X : Nat → Bool) (hp : Hp) :
    rawH X T hp = rawH X (T.take i) hp ++ (e.nb.map (fun b => match X i with | true => some b | false => none) ++ extH X (T.drop (i + 1)) (i + 1)) := by
  obtain ⟨hlt, rfl⟩ := List.getElem?_eq_some_iff.1 he
  have hT : T = T.take i ++ T[i] :: T.drop (i + 1) := by rw [← List.drop_eq_getElem_cons hlt, List.take_append_drop]
  have hl : (T.take i).length = i := by simp; omega
  unfold rawH
  conv => lhs; rw [hT]
  rw [extH_append, List.append_assoc, hl, Nat.zero_add]
  rfl

section
variable {T : List Ent} {i : Nat} {e : Ent} {X X' : Nat → Bool} {hp : Hp}

theorem rawH_new (he : T[i]? = some e) (hX : X i = true) {p : Nat → Bool} {j : Nat} {b : Blk} (hj : e.nb[j]? = some b) : (rawH X T hp)[(rawH p (T.take i) hp).length + j]? = some (some b) := by
  rw [rawH_split he, rawH_length p X, List.getElem?_append_right (by omega), Nat.add_sub_cancel_left]
  have := (List.getElem?_eq_some_iff.1 hj).1
  rw [List.getElem?_append_left (by simpa using this)]
  simp [hX, hj]
theorem rawH_not (he : T[i]? = some e) (hX : X i = false) {p : Nat → Bool} {j : Nat} (hj : j < e.nb.length) : (rawH X T hp)[(rawH p (T.take i) hp).length + j]? = some none := by
  rw [rawH_split he, rawH_length p X, List.getElem?_append_right (by omega), Nat.add_sub_cancel_left]
  rw [List.getElem?_append_left (by simpa using hj)]
  simp [hX, hj]
theorem rawH_old (he : T[i]? = some e) (h : ∀ m, m ≠ i → X' m = X m) {p : Nat → Bool} {k : Nat} (hk : k < (rawH p (T.take i) hp).length ∨ (rawH p (T.take i) hp).length + e.nb.length ≤ k) : (rawH X' T hp)[k]? = (rawH X T hp)[k]? := by
  have hlt := (List.getElem?_eq_some_iff.1 he).1
  have h1 : rawH X' (T.take i) hp = rawH X (T.take i) hp := by
    unfold rawH
    rw [extH_congr (q := X) (T.take i) 0 fun j hj => h _ (by simp at hj; omega)]
  have h2 : extH X' (T.drop (i + 1)) (i + 1) = extH X (T.drop (i + 1)) (i + 1) := extH_congr _ _ fun j _ => h _ (by omega)
  rw [rawH_split he, rawH_split (X := X) he, h1, h2]
  rw [rawH_length p X] at hk
  rcases hk with hk | hk
  · rw [List.getElem?_append_left hk, List.getElem?_append_left hk]
  · have key : ∀ (A B C : Hp), A.length + B.length ≤ k → (A ++ (B ++ C))[k]? = C[k - A.length - B.length]? := fun A B C hk => by
      rw [List.getElem?_append_right (by omega), List.getElem?_append_right (by omega)]
    rw [key _ _ _ (by rw [List.length_map]; exact hk), key _ _ _ (by rw [List.length_map]; exact hk), List.length_map, List.length_map]
theorem killX_step (he : T[i]? = some e) (h : ∀ m, m ≠ i → X' m = X m) (hX : X i = false) (hX' : X' i = true) (k : Nat) : killX X' T 0 k = true ↔ killX X T 0 k = true ∨ memB k e.kl = true := by
  rw [killX_iff, killX_iff]
  constructor
  · rintro ⟨j, e', h1, h2, h3⟩
    rw [Nat.zero_add] at h2
    by_cases hj : j = i
    · subst hj; rw [he] at h1; cases h1; exact .inr h3
    · exact .inl ⟨j, e', h1, by rw [Nat.zero_add, ← h j hj]; exact h2, h3⟩
  · rintro (⟨j, e', h1, h2, h3⟩ | h3)
    · rw [Nat.zero_add] at h2
      refine ⟨j, e', h1, ?_, h3⟩
      rw [Nat.zero_add]
      by_cases hj : j = i
      · subst hj; exact hX'
      · rw [h j hj]; exact h2
    · exact ⟨i, e, he, by rw [Nat.zero_add]; exact hX', h3⟩
end

theorem evO_rel {tm : List Sv} {c : Cx} {a : Act} (h : ∀ t, Rel (tmGet tm t) c (a.tmps.getD t undef)) (x : Operand) : Rel (evO tm x) c (a.eval x) := by
  cases x with
  | tmp t => exact h t
  | const v => simp [evO, Act.eval, Rel]
  | global g => simp [evO, Act.eval, Rel]
  | func f => simp only [evO, Act.eval, Rel]; exact ⟨[], rfl, by simp [RelT]⟩

theorem put_getD (a : Act) (d : Option Nat) (v : Value) (t : Nat) : (a.put d v).tmps.getD t undef = if d = some t ∧ t < a.tmps.size then v else a.tmps.getD t undef := by
  cases d with
  | none => simp [Act.put]
  | some x =>
    simp only [Act.put, Array.getD_eq_getD_getElem?, Option.some.injEq]
    rw [Array.getElem?_setIfInBounds]
    by_cases hx : x = t
    · subst hx
      by_cases hs : x < a.tmps.size
      · simp [hs]
      · simp [hs]
    · simp [hx]
theorem put_size (a : Act) (d : Option Nat) (v : Value) : (a.put d v).tmps.size = a.tmps.size := by cases d <;> simp [Act.put]
theorem put_defers (a : Act) (d : Option Nat) (v : Value) : (a.put d v).defers = a.defers := by cases d <;> rfl

section
variable {P : Program} {w0 : World} {M : Frm} {T : List Ent} {hp0 : Hp} {tm0 : List Sv} {ds : List Nat} {X X' : Nat → Bool} {c : Cx} {a : Act} {dfs : List Deferred}

theorem Mid.step (hM : Mid w0 M T hp0 tm0 ds X c a dfs) {i : Nat} {e : Ent} {o : Oper} (he : T[i]? = some e) (hXi : X i = false) (hX'i : X' i = true) (hX'o : ∀ m, m ≠ i → X' m = X m)
    (hu : ∀ (a b : Nat) (x y : Ent) (d : Nat), T[a]? = some x → T[b]? = some y → x.dst = some d → y.dst = some d → a = b) (hcov : ∀ e ∈ T, ∀ t, e.dst = some t → memB t ds = true)
    {pre fb : List Nat} {nd : Nat → Bool} (hpre : ∀ m, memB m pre = true → X m = true) (hfb : ∀ k, killX X T 0 k = true → memB k fb = true) (hd : e.dst = o.dst) (hdt : ∀ t, o.dst = some t → t < tm0.length)
    {raw : Hp} {av : Nat → Bool} (hraw : raw = rawH (fun m => memB m pre) (T.take i) hp0) (hav : av = bAt (avG (fun k => memB k fb) 0 raw))
    (hE : EStep P o (rawT (T.take i) (fun m => memB m pre) av nd ds 0 tm0) (onlyH av 0 raw) e.s e.nb e.kl)
    {F : Fence} {n : Nat} (hF : Open F) {next : Act → World → Prop} {Q : Exit → Act → World → Prop} (hn : ∀ a' c', Mid w0 M T hp0 tm0 ds X' c' a' dfs → next a' c'.w) : o.wpIn F n P a c.w next Q := by
  have hpX : ∀ m, (fun m => memB m pre) m = true → X m = true := hpre
  -- what is at hand for the operation is at hand
  have avi : ∀ k, av k = true ↔ (∃ b, raw[k]? = some (some b)) ∧ memB k fb = false := fun k => by rw [hav, avG_iff, Nat.zero_add]
  have hle : ∀ k, av k = true → avX T hp0 X k = true := fun k hk => by
    obtain ⟨⟨b, hb⟩, hf⟩ := (avi k).1 hk
    rw [avX_iff]
    refine ⟨⟨b, rawH_take hpX (hraw ▸ hb)⟩, ?_⟩
    cases h : killX X T 0 k with
    | true => rw [hfb k h] at hf; cases hf
    | false => rfl
  have hle' : ∀ k, crX T hp0 X k = true → av k = true → avX T hp0 X k = true := fun k _ => hle k
  let ci : Cx := { c with D := fun k => av k = true }
  have hLe : c.Le av ci := ⟨fun k hk _ => ⟨hk, rfl⟩, fun _ h => h, fun _ _ h => h, fun _ _ => rfl⟩
  have hInv : Inv w0 M ci (onlyH av 0 raw) := by
    refine { hM.inv with dom := ?_, inj := ?_, xsep := ?_, e0 := fun k hk hv => hM.inv.e0 k hk ((hM.dom k).2 (hle k hv)), mlen := by rw [onlyH_length, hraw]; unfold rawH; rw [List.length_append]; have := hM.mm; omega, loc := ?_, cc := fun b hb => ⟨(hM.inv.cc b hb).1, fun k hk => (hM.inv.cc b hb).2.1 k ((hM.dom k).2 (hle k hk)), (hM.inv.cc b hb).2.2⟩, gh := ?_ }
    · intro k hk
      obtain ⟨⟨b, hb⟩, hf⟩ := (avi k).1 hk
      have hbX := rawH_take hpX (T := T) (i := i) (hraw ▸ hb)
      obtain ⟨b1, h1, r⟩ := hM.inv.dom k ((hM.dom k).2 (hle k hk))
      rw [onlyH_get] at h1
      obtain ⟨b2, h2, _, rfl⟩ := h1
      rw [hbX] at h2
      cases h2
      refine ⟨b.only av, (onlyH_get _ _ _ _ _).2 ⟨b, hb, by rw [Nat.zero_add]; exact hk, rfl⟩, ?_⟩
      have r := r.only av
      rw [Blk.only_only hle' b (hM.idH k b hbX)] at r
      exact r.le hLe rfl (fun _ => rfl) (fun h => Blk.only_rows _ _ h)
    · exact fun k k' hk hk' => hM.inv.inj k k' ((hM.dom k).2 (hle k hk)) ((hM.dom k').2 (hle k' hk'))
    · exact fun k b hk => hM.inv.xsep k b ((hM.dom k).2 (hle k hk))
    · exact fun k hk => hM.inv.loc k ((hM.dom k).2 (hle k hk))
    · intro k blk hk hb hn hg
      rw [onlyH_get] at hb
      obtain ⟨b, hb, _, rfl⟩ := hb
      have hbX := rawH_take hpX (T := T) (i := i) (hraw ▸ hb)
      obtain ⟨b1, h1, r⟩ := hM.inv.dom k ((hM.dom k).2 (hle k hk))
      have h1' := h1
      rw [onlyH_get] at h1
      obtain ⟨b2, h2, _, rfl⟩ := h1
      rw [hbX] at h2
      cases h2
      rw [Blk.only_grow] at hg
      rw [r.only_ghost hn hg]
      rw [r.only_ghost hn hg] at h1'
      exact hM.inv.gh k b ((hM.dom k).2 (hle k hk)) h1' hn hg
  have hslot : ∀ t, Rel (tmGet (rawT (T.take i) (fun m => memB m pre) av nd ds 0 tm0) t) ci (a.tmps.getD t undef) := fun t => by
    rcases tmGet_rawT (T.take i) (fun m => memB m pre) av nd ds 0 tm0 t with h | ⟨_, h⟩
    · rw [h]; trivial
    · rw [h, Nat.zero_add]
      have hr := hM.rel t
      unfold sAt at hr ⊢
      cases hs : slotE (T.take i) 0 t with
      | some r =>
        obtain ⟨j, s'⟩ := r
        simp only
        cases hp : memB j pre with
        | false => trivial
        | true =>
          rw [slotE_take hs] at hr
          simp only [hpre j hp] at hr
          obtain ⟨j', e', hj', he', _, rfl⟩ := slotE_some (slotE_take hs)
          rw [Nat.zero_add] at hj'
          subst hj'
          have := Rel.only av _ hr
          rw [only_only hle' _ (hM.idE j e' he' (hpre j hp))] at this
          exact Rel.le _ (only_all _ _) hLe this
      | none =>
        simp only
        cases hm : memB t ds with
        | true => trivial
        | false =>
          have hs2 : slotE T 0 t = none := by
            cases h2 : slotE T 0 t with
            | none => rfl
            | some r =>
              obtain ⟨j, s'⟩ := r
              obtain ⟨j', e', _, he', hdj, _⟩ := slotE_some h2
              rw [hcov e' (List.mem_of_getElem? he') t hdj] at hm
              cases hm
          rw [hs2] at hr
          simp only [hm] at hr
          have := Rel.only av _ hr
          rw [only_only hle' _ (hM.idT t)] at this
          exact Rel.le _ (only_all _ _) hLe this
  refine hE F n w0 M ci a next Q hF hInv (fun x _ => evO_rel hslot x) fun v c' hp' hr => ?_
  -- the state behind it
  have hbase : (onlyH av 0 raw).length = (rawH (fun m => memB m pre) (T.take i) hp0).length := by rw [onlyH_length, hraw]
  generalize hB : (rawH (fun m => memB m pre) (T.take i) hp0).length = B at hbase
  have new' : ∀ {j : Nat} {b : Blk}, e.nb[j]? = some b → (rawH X' T hp0)[B + j]? = some (some b) := fun hj => hB ▸ rawH_new he hX'i hj
  have notN : ∀ {k : Nat}, B ≤ k → k < B + e.nb.length → (rawH X T hp0)[k]? = some none := fun {k} h1 h2 => by
    have := rawH_not (hp := hp0) he hXi (p := fun m => memB m pre) (j := k - B) (by omega)
    rwa [hB, show B + (k - B) = k by omega] at this
  have old : ∀ {k : Nat}, (k < B ∨ B + e.nb.length ≤ k) → (rawH X' T hp0)[k]? = (rawH X T hp0)[k]? := fun hk => rawH_old (p := fun m => memB m pre) he hX'o (by rw [hB]; exact hk)
  have kill' := killX_step he hX'o hXi hX'i
  let av' : Nat → Bool := avX T hp0 X'
  have oldAv : ∀ k, av' k = true → (k < B ∨ B + e.nb.length ≤ k) → avX T hp0 X k = true ∧ memB k e.kl = false := fun k hk ho => by
    obtain ⟨⟨b, hb⟩, hf⟩ := avX_iff.1 hk
    rw [old ho] at hb
    have hnk : ¬ (killX X T 0 k = true ∨ memB k e.kl = true) := fun h => by rw [(kill' k).2 h] at hf; cases hf
    refine ⟨avX_iff.2 ⟨⟨b, hb⟩, ?_⟩, ?_⟩
    · cases h : killX X T 0 k with
      | true => exact absurd (.inl h) hnk
      | false => rfl
    · cases h : memB k e.kl with
      | true => exact absurd (.inr h) hnk
      | false => rfl
  have inX : ∀ k, avX T hp0 X k = true → k < B ∨ B + e.nb.length ≤ k := fun k hk => by
    obtain ⟨⟨b, hb⟩, _⟩ := avX_iff.1 hk
    rcases Nat.lt_or_ge k B with h | h
    · exact .inl h
    · rcases Nat.lt_or_ge k (B + e.nb.length) with h2 | h2
      · rw [notN h h2] at hb; cases hb
      · exact .inr h2
  have cr : ∀ k, crX T hp0 X k = true → av' k = true → avX T hp0 X k = true := fun k hk hv => by
    rcases Nat.lt_or_ge k B with h | h
    · exact (oldAv k hv (.inl h)).1
    · rcases Nat.lt_or_ge k (B + e.nb.length) with h2 | h2
      · rcases crX_iff.1 hk with h3 | ⟨b, hb⟩
        · have : hp0.length ≤ B := by rw [← hB]; simp [rawH]
          omega
        · rw [notN h h2] at hb; cases hb
      · exact (oldAv k hv (.inr h2)).1
  have crMono : ∀ k, crX T hp0 X k = true → crX T hp0 X' k = true := fun k hk => by
    rcases crX_iff.1 hk with h | ⟨b, hb⟩
    · exact crX_iff.2 (.inl h)
    · refine crX_iff.2 (.inr ?_)
      rcases Nat.lt_or_ge k B with h | h
      · exact ⟨b, by rw [old (.inl h)]; exact hb⟩
      · rcases Nat.lt_or_ge k (B + e.nb.length) with h2 | h2
        · rw [notN h h2] at hb; cases hb
        · exact ⟨b, by rw [old (.inr h2)]; exact hb⟩
  have aviB : ∀ k, av k = true → k < B := fun k hk => by
    obtain ⟨⟨b, hb⟩, _⟩ := (avi k).1 hk
    have := (List.getElem?_eq_some_iff.1 hb).1
    rw [hraw, hB] at this
    exact this
  have domN : ∀ k, c'.D k ↔ (av k = true ∧ memB k e.kl = false) ∨ (B ≤ k ∧ k < B + e.nb.length) := fun k => by
    have := hp'.dom k
    rw [hbase] at this
    exact this
  have crN : ∀ k, c'.D k → crX T hp0 X' k = true := fun k hk => by
    rcases (domN k).1 hk with ⟨h, _⟩ | ⟨h1, h2⟩
    · refine crMono k (crX_iff.2 (.inr ?_))
      obtain ⟨⟨b, hb⟩, _⟩ := avX_iff.1 (hle k h)
      exact ⟨b, hb⟩
    · refine crX_iff.2 (.inr ⟨e.nb[k - B]'(by omega), ?_⟩)
      have := new' (j := k - B) (List.getElem?_eq_getElem (by omega))
      rwa [show B + (k - B) = k by omega] at this
  let c2 : Cx := { E := fun k => if B ≤ k ∧ k < B + e.nb.length then c'.E k else c.E k, D := fun k => av' k = true, X := c'.X, G := c'.G, w := c'.w, A := c.A, C := c.C, Z := c.Z }
  have EN : ∀ k, B ≤ k → k < B + e.nb.length → c2.E k = c'.E k := fun k h1 h2 => if_pos ⟨h1, h2⟩
  have EO : ∀ k, (k < B ∨ B + e.nb.length ≤ k) → c2.E k = c.E k := fun k h => if_neg (by omega)
  have LeNew : c'.Le av' c2 := by
    refine ⟨fun k hk hd => ⟨hk, ?_⟩, fun _ h => h, fun _ _ h => h, fun _ _ => rfl⟩
    rcases (domN k).1 hd with ⟨h, hm⟩ | ⟨h1, h2⟩
    · rw [EO k (.inl (aviB k h))]
      exact (hp'.le.ed k (by simp [hm]) h).2.symm
    · exact EN k h1 h2
  have LeOld : c.Le av' c2 := by
    refine ⟨fun k hk hd => ⟨hk, EO k (inX k ((hM.dom k).1 hd))⟩, fun b hb => hp'.le.x b hb, hp'.le.b, fun b hb => hp'.le.heap b hb⟩
  have loc0 : ∀ k, c.D k → (c.E k).nil = false → (c.E k).b < c.w.heap.size := fun k hk hnil => let ⟨_, _, r⟩ := hM.inv.dom k hk; r.lt hnil
  have keepO : ∀ k, avX T hp0 X k = true → memB k e.kl = false → (c.E k).nil = false → c'.w.heap[(c.E k).b]? = c.w.heap[(c.E k).b]? := fun k hk hm hnil => by
    have hk' := (hM.dom k).2 hk
    refine hp'.keep _ (loc0 k hk' hnil) fun k0 hd0 hm0 hn0 heq => ?_
    refine hM.inv.inj k0 k ((hM.dom k0).2 (hle k0 hd0)) hk' (fun e => ?_) hn0 hnil heq
    subst e
    rw [hm] at hm0
    cases hm0
  have hq2 : c.Cq c2 := ⟨rfl, rfl, rfl, (hp'.cq hInv).hb⟩
  refine hn _ c2 ?_
  have hT2 : ∀ t, Rel (sAt T X' av' ds t (tmGet tm0 t)) c2 ((a.put o.dst v).tmps.getD t undef) := fun t => by
    by_cases ht : o.dst = some t
    · have hts : t < a.tmps.size := by rw [hM.size]; exact hdt t ht
      rw [put_getD, if_pos ⟨ht, hts⟩]
      unfold sAt
      rw [slotE_at hu he (hd.trans ht)]
      simp only [hX'i]
      exact Rel.le _ (only_all _ _) LeNew (Rel.only _ _ hr)
    · rw [put_getD, if_neg (fun h => ht h.1)]
      have h0 := hM.rel t
      unfold sAt at h0 ⊢
      cases hs : slotE T 0 t with
      | some r =>
        obtain ⟨j, s'⟩ := r
        rw [hs] at h0
        simp only at h0 ⊢
        obtain ⟨j', e', hj', he', hdj, hs'⟩ := slotE_some hs
        rw [Nat.zero_add] at hj'
        subst hj'
        have hji : j ≠ i := fun e1 => by
          subst e1
          rw [he] at he'
          cases he'
          exact ht (hd.symm.trans hdj)
        rw [hX'o j hji]
        cases hXj : X j with
        | false => trivial
        | true =>
          rw [hXj] at h0
          subst hs'
          have := Rel.only av' _ h0
          rw [only_only cr _ (hM.idE j e' he' hXj)] at this
          exact Rel.le _ (only_all _ _) LeOld this
      | none =>
        rw [hs] at h0
        simp only at h0 ⊢
        cases hm : memB t ds with
        | true => trivial
        | false =>
          rw [hm] at h0
          have := Rel.only av' _ h0
          rw [only_only cr _ (hM.idT t)] at this
          exact Rel.le _ (only_all _ _) LeOld this
  refine { inv := ?_, mm := hM.mm, dom := fun k => Iff.rfl, rel := hT2, size := by rw [put_size]; exact hM.size, dfs := by rw [put_defers]; exact hM.dfs.cq hq2, idT := fun t => ?_, idH := fun k b hb hc => ?_, idE := fun j e' he' hj => ?_ }
  · have hnewB : ∀ k, B ≤ k → k < B + e.nb.length → ∃ b, (rawH X' T hp0)[k]? = some (some b) ∧ BlkRel c' k b := fun k h1 h2 => by
      obtain ⟨b, hb, r⟩ := hp'.inv.dom k ((domN k).2 (.inr ⟨h1, h2⟩))
      rw [List.getElem?_append_right (by rw [kill_length, hbase]; exact h1), kill_length, hbase] at hb
      have hj : k - B < e.nb.length := by omega
      rw [List.getElem?_map, List.getElem?_eq_getElem hj] at hb
      simp only [Option.map_some, Option.some.injEq] at hb
      subst hb
      refine ⟨_, ?_, r⟩
      have := new' (j := k - B) (List.getElem?_eq_getElem hj)
      rwa [show B + (k - B) = k by omega] at this
    have hcase : ∀ k, (B ≤ k ∧ k < B + e.nb.length) ∨ (k < B ∨ B + e.nb.length ≤ k) := fun k => by omega
    refine { dom := ?_, inj := ?_, xsep := ?_, xlt := hp'.inv.xlt, xY := hp'.inv.xY, bnd := hp'.inv.bnd, bndG := hp'.inv.bndG, e0 := ?_, mlen := ?_, os := hp'.inv.os, tape := hp'.inv.tape, output := hp'.inv.output, size := hp'.inv.size, keep := hp'.inv.keep, loc := ?_, x0 := hp'.inv.x0, xk := hp'.inv.xk, z0 := fun b hb => by have := hp'.inv.z0 b hb; rw [hp'.cZ] at this; exact this, ca := ?_, cc := ?_, gh := ?_, zc := fun b hb => by have := hp'.inv.zc b (by rw [hp'.cZ]; exact hb); rw [hp'.cC, hp'.cA] at this; exact this }
    · intro k hk
      rcases hcase k with ⟨h1, h2⟩ | ho
      · obtain ⟨b, hb, r⟩ := hnewB k h1 h2
        refine ⟨b.only av', (onlyH_get _ _ _ _ _).2 ⟨b, hb, by rw [Nat.zero_add]; exact hk, rfl⟩, ?_⟩
        refine (r.only av').le LeNew (EN k h1 h2) (fun _ => rfl) (fun h => Blk.only_rows _ _ h)
      · obtain ⟨hX, hm⟩ := oldAv k hk ho
        obtain ⟨b1, h1, r⟩ := hM.inv.dom k ((hM.dom k).2 hX)
        rw [onlyH_get] at h1
        obtain ⟨b, hb, _, rfl⟩ := h1
        refine ⟨b.only av', (onlyH_get _ _ _ _ _).2 ⟨b, by rw [old ho]; exact hb, by rw [Nat.zero_add]; exact hk, rfl⟩, ?_⟩
        have r := r.only av'
        rw [Blk.only_only cr b (hM.idH k b hb)] at r
        exact r.le LeOld (EO k ho) (fun hnil => keepO k hX hm hnil) (fun h => Blk.only_rows _ _ h)
    · intro k k' hk hk' hne h1 h2
      rcases hcase k with ⟨g1, g2⟩ | ho <;> rcases hcase k' with ⟨g1', g2'⟩ | ho'
      · rw [EN k g1 g2] at h1 ⊢
        rw [EN k' g1' g2'] at h2 ⊢
        exact hp'.inv.inj k k' ((domN k).2 (.inr ⟨g1, g2⟩)) ((domN k').2 (.inr ⟨g1', g2'⟩)) hne h1 h2
      · rw [EN k g1 g2] at h1 ⊢
        rw [EO k' ho'] at h2 ⊢
        obtain ⟨hX, hm⟩ := oldAv k' hk' ho'
        have hk2 := (hM.dom k').2 hX
        rcases hp'.fresh k (by rw [hbase]; exact g1) ((domN k).2 (.inr ⟨g1, g2⟩)) h1 with h3 | ⟨k0, hd0, hm0, hn0, heq⟩
        · have := loc0 k' hk2 h2
          have h3 : c.w.heap.size ≤ (c'.E k).b := h3
          omega
        · rw [← heq]
          refine hM.inv.inj k0 k' ((hM.dom k0).2 (hle k0 hd0)) hk2 (fun e => ?_) hn0 h2
          subst e; rw [hm] at hm0; cases hm0
      · rw [EO k ho] at h1 ⊢
        rw [EN k' g1' g2'] at h2 ⊢
        obtain ⟨hX, hm⟩ := oldAv k hk ho
        have hk2 := (hM.dom k).2 hX
        rcases hp'.fresh k' (by rw [hbase]; exact g1') ((domN k').2 (.inr ⟨g1', g2'⟩)) h2 with h3 | ⟨k0, hd0, hm0, hn0, heq⟩
        · have := loc0 k hk2 h1
          have h3 : c.w.heap.size ≤ (c'.E k').b := h3
          omega
        · rw [← heq]
          intro e1
          refine hM.inv.inj k0 k ((hM.dom k0).2 (hle k0 hd0)) hk2 (fun e => ?_) hn0 h1 e1.symm
          subst e; rw [hm] at hm0; cases hm0
      · rw [EO k ho] at h1 ⊢
        rw [EO k' ho'] at h2 ⊢
        exact hM.inv.inj k k' ((hM.dom k).2 (oldAv k hk ho).1) ((hM.dom k').2 (oldAv k' hk' ho').1) hne h1 h2
    · intro k b hk h1 hx
      rcases hcase k with ⟨g1, g2⟩ | ho
      · rw [EN k g1 g2] at h1 ⊢
        exact hp'.inv.xsep k b ((domN k).2 (.inr ⟨g1, g2⟩)) h1 hx
      · rw [EO k ho] at h1 ⊢
        have hk2 := (hM.dom k).2 (oldAv k hk ho).1
        rcases hp'.xdom b hx with h3 | h3
        · exact hM.inv.xsep k b hk2 h1 h3
        · have := loc0 k hk2 h1
          have h3 : c.w.heap.size ≤ b := h3
          omega
    · intro k hk hv
      rcases hcase k with ⟨g1, g2⟩ | ho
      · rw [EN k g1 g2]
        exact hp'.inv.e0 k hk ((domN k).2 (.inr ⟨g1, g2⟩))
      · rw [EO k ho]
        exact hM.inv.e0 k hk ((hM.dom k).2 (oldAv k hv ho).1)
    · have := hM.inv.mlen
      rw [onlyH_length] at this ⊢
      rw [rawH_length X' X]
      exact this
    · intro k hk h1
      rcases hcase k with ⟨g1, g2⟩ | ho
      · rw [EN k g1 g2] at h1 ⊢
        exact hp'.inv.loc k ((domN k).2 (.inr ⟨g1, g2⟩)) h1
      · rw [EO k ho] at h1 ⊢
        exact hM.inv.loc k ((hM.dom k).2 (oldAv k hk ho).1) h1
    · intro b hb
      have := hp'.inv.ca b (by rw [hp'.cA]; exact hb)
      rw [hp'.cC] at this
      exact this
    · intro b hb
      obtain ⟨g1, _, g3⟩ := hp'.inv.cc b (by rw [hp'.cC]; exact hb)
      refine ⟨g1, fun k hk h1 => ?_, g3⟩
      rcases hcase k with ⟨f1, f2⟩ | ho
      · rw [EN k f1 f2] at h1 ⊢
        rcases hp'.fresh k (by rw [hbase]; exact f1) ((domN k).2 (.inr ⟨f1, f2⟩)) h1 with h3 | ⟨k0, hd0, hm0, hn0, heq⟩
        · have := (hM.inv.cc b hb).1
          have h3 : c.w.heap.size ≤ (c'.E k).b := h3
          omega
        · rw [← heq]
          exact (hM.inv.cc b hb).2.1 k0 ((hM.dom k0).2 (hle k0 hd0)) hn0
      · rw [EO k ho] at h1 ⊢
        exact (hM.inv.cc b hb).2.1 k ((hM.dom k).2 (oldAv k hk ho).1) h1
    · intro k blk hk hb h1 hg
      rcases hcase k with ⟨f1, f2⟩ | ho
      · rw [EN k f1 f2] at h1
        rw [onlyH_get] at hb
        obtain ⟨b, hb, _, rfl⟩ := hb
        rw [Blk.only_grow] at hg
        have hj := new' (j := k - B) (List.getElem?_eq_getElem (show k - B < e.nb.length by omega))
        rw [show B + (k - B) = k by omega, hb] at hj
        injection hj with hj
        injection hj with hj
        have := hp'.nnil (k - B) _ (List.getElem?_eq_getElem (show k - B < e.nb.length by omega)) (by rw [hbase, show B + (k - B) = k by omega]; exact h1)
        rw [← hj, hg] at this
        cases this
      · rw [EO k ho] at h1
        obtain ⟨hX, hm⟩ := oldAv k hk ho
        rw [onlyH_get] at hb
        obtain ⟨b, hb, _, rfl⟩ := hb
        rw [old ho] at hb
        obtain ⟨b1, e1, r⟩ := hM.inv.dom k ((hM.dom k).2 hX)
        have e1' := e1
        rw [onlyH_get] at e1
        obtain ⟨b2, h2, _, rfl⟩ := e1
        rw [hb] at h2
        cases h2
        rw [Blk.only_grow] at hg
        rw [r.only_ghost h1 hg] at e1'
        rw [r.only_ghost h1 hg]
        exact hM.inv.ghs (w' := c'.w) ⟨hp'.inv.os.trans hM.inv.os.symm, hp'.inv.tape.trans hM.inv.tape.symm, hp'.inv.output.trans hM.inv.output.symm, hp'.size, (hp'.cq hInv).hb⟩ ((hM.dom k).2 hX) e1' h1 hg
  · exact all_mono crMono _ (hM.idT t)
  · rcases Nat.lt_or_ge k B with h | h
    · rw [old (.inl h)] at hb
      exact allR_mono crMono _ (hM.idH k b hb hc)
    · rcases Nat.lt_or_ge k (B + e.nb.length) with h2 | h2
      · obtain ⟨b', hb', r⟩ := hp'.inv.dom k ((domN k).2 (.inr ⟨h, h2⟩))
        rw [List.getElem?_append_right (by rw [kill_length, hbase]; exact h), kill_length, hbase] at hb'
        have hj : k - B < e.nb.length := by omega
        rw [List.getElem?_map, List.getElem?_eq_getElem hj] at hb'
        simp only [Option.map_some, Option.some.injEq] at hb'
        subst hb'
        have := new' (j := k - B) (List.getElem?_eq_getElem hj)
        rw [show B + (k - B) = k by omega, hb] at this
        cases this
        exact r.ids crN hc
      · rw [old (.inr h2)] at hb
        exact allR_mono crMono _ (hM.idH k b hb hc)
  · by_cases hji : j = i
    · subst hji
      rw [he] at he'
      cases he'
      exact Rel.ids _ crN hr
    · rw [hX'o j hji] at hj
      exact all_mono crMono _ (hM.idE j e' he' hj)
end
end Go.Eng

/- The engine, part Q: a region that draws its order, walked once. -/
namespace Go.Eng
open Go Go.RowKit

theorem blt_lt {a b : Nat} (h : Nat.blt a b = true) : a < b := by rw [Nat.blt_eq] at h; exact h

/-! ### Who has to come first -/
def edges (o : Oper) : List Nat := go o.after.toList
where go : List Edge → List Nat
  | [] => []
  | e :: r => match Region.binds .any e with
    | true => e.on :: go r
    | false => go r
theorem edges_iff {o : Oper} {j : Nat} : j ∈ edges o ↔ ∃ e ∈ o.after, Region.binds .any e = true ∧ e.on = j := by
  have : ∀ l : List Edge, j ∈ edges.go l ↔ ∃ e ∈ l, Region.binds .any e = true ∧ e.on = j := by
    intro l
    induction l with
    | nil => simp [edges.go]
    | cons e r ih =>
      simp only [edges.go]
      cases h : Region.binds .any e with
      | true =>
        simp only [List.mem_cons, ih, exists_eq_or_imp, h, true_and]
        exact or_congr eq_comm Iff.rfl
      | false => simp only [List.mem_cons, ih, exists_eq_or_imp, h, Bool.false_eq_true, false_and, false_or]
  unfold edges
  rw [this]
  simp

def uni : List Nat → List Nat → List Nat
  | [], ys => ys
  | x :: xs, ys => match memB x ys with
    | true => uni xs ys
    | false => x :: uni xs ys
theorem memB_uni {k : Nat} : ∀ {xs ys : List Nat}, memB k (uni xs ys) = true → memB k xs = true ∨ memB k ys = true
  | [], ys, h => .inr h
  | x :: xs, ys, h => by
    simp only [uni] at h
    split at h
    · rcases memB_uni h with h | h
      · exact .inl (by simp [memB, h])
      · exact .inr h
    · simp only [memB, Bool.or_eq_true] at h
      rcases h with h | h
      · exact .inl (by simp [memB]; exact .inl (by simpa using h))
      · rcases memB_uni h with h | h
        · exact .inl (by simp [memB, h])
        · exact .inr h
def pre (pt : List (List Nat)) (m : Nat) : List Nat :=
  match nth pt m with
  | some l => l
  | none => []
def preOf (pt : List (List Nat)) : List Nat → List Nat
  | [] => []
  | j :: js => uni (j :: pre pt j) (preOf pt js)
theorem memB_preOf {pt : List (List Nat)} {k : Nat} : ∀ {js : List Nat}, memB k (preOf pt js) = true → ∃ e ∈ js, k = e ∨ memB k (pre pt e) = true
  | [], h => by cases h
  | j :: js, h => by
    rcases memB_uni h with h | h
    · simp only [memB, Bool.or_eq_true, beq_iff_eq] at h
      exact ⟨j, by simp, h⟩
    · obtain ⟨e, he, h⟩ := memB_preOf h
      exact ⟨e, by simp [he], h⟩
def natsK : List Nat → (List Nat → Prop) → Prop
  | [], K => K []
  | n :: ns, K => litK n fun n => natsK ns fun ns => K (n :: ns)
theorem natsK_eq : ∀ (l : List Nat) (K : List Nat → Prop), natsK l K = K l
  | [], _ => rfl
  | n :: ns, K => by simp only [natsK, litK_eq, natsK_eq ns]
def bitsK : List Bool → (List Bool → Prop) → Prop
  | [], K => K []
  | b :: bs, K => boolK b fun b => bitsK bs fun bs => K (b :: bs)
theorem bitsK_eq : ∀ (l : List Bool) (K : List Bool → Prop), bitsK l K = K l
  | [], _ => rfl
  | b :: bs, K => by simp only [bitsK, boolK_eq, bitsK_eq bs]
def preTabK : List Oper → List (List Nat) → (List (List Nat) → Prop) → Prop
  | [], pt, K => K pt
  | o :: os, pt, K => natsK (preOf pt (edges o)) fun l => spineK (pt ++ [l]) fun pt => preTabK os pt K
theorem pre_append {pt qt : List (List Nat)} {m : Nat} (h : m < pt.length) : pre (pt ++ qt) m = pre pt m := by
  unfold pre
  rw [nth_eq, nth_eq, List.getElem?_append_left h]
theorem pre_big {pt : List (List Nat)} {m : Nat} (h : pt.length ≤ m) : pre pt m = [] := by
  unfold pre
  rw [nth_eq, List.getElem?_eq_none h]
theorem preTabK_sound : ∀ {os : List Oper} {pt : List (List Nat)} {K : List (List Nat) → Prop}, preTabK os pt K → ∃ qt, K (pt ++ qt) ∧ qt.length = os.length ∧
    ∀ j o, os[j]? = some o → pre (pt ++ qt) (pt.length + j) = preOf ((pt ++ qt).take (pt.length + j)) (edges o)
  | [], pt, K, h => ⟨[], by simpa [preTabK] using h, rfl, fun j o hj => by simp at hj⟩
  | o :: os, pt, K, h => by
    simp only [preTabK, natsK_eq, spineK_eq] at h
    obtain ⟨qt, hK, hl, hq⟩ := preTabK_sound h
    rw [List.append_assoc] at hK hq
    refine ⟨[preOf pt (edges o)] ++ qt, hK, by simp [hl], fun j o' hj => ?_⟩
    cases j with
    | zero =>
      simp only [List.getElem?_cons_zero, Option.some.injEq] at hj
      subst hj
      have h1 : ((pt ++ ([preOf pt (edges o)] ++ qt)).take (pt.length + 0)) = pt := by simp
      rw [h1]
      unfold pre
      rw [nth_eq]
      simp
    | succ j =>
      have := hq j o' (by simpa using hj)
      simp only [List.length_append, List.length_cons, List.length_nil, Nat.zero_add] at this
      rw [show pt.length + 1 + j = pt.length + (j + 1) by omega] at this
      exact this

/-- What has come first has what comes ahead of it behind it. -/
theorem pre_closed {os : List Oper} {pt : List (List Nat)} (hpt : ∀ j o, os[j]? = some o → pre pt j = preOf (pt.take j) (edges o)) {X : Nat → Bool} (hcl : ∀ i o, os[i]? = some o → X i = true → ∀ j ∈ edges o, X j = true) :
    ∀ (i : Nat) (o : Oper), os[i]? = some o → (∀ j ∈ edges o, X j = true) → ∀ k, memB k (pre pt i) = true → X k = true := by
  intro i
  induction i using Nat.strongRecOn with
  | _ i ih =>
    intro o ho he k hk
    rw [hpt i o ho] at hk
    obtain ⟨e, hee, h⟩ := memB_preOf hk
    rcases h with rfl | h
    · exact he k hee
    · by_cases hei : e < i
      · have hlt : e < os.length := by have := (List.getElem?_eq_some_iff.1 ho).1; omega
        have hoe := List.getElem?_eq_getElem hlt
        have hpe : pre (pt.take i) e = pre pt e := by
          unfold pre
          rw [nth_eq, nth_eq, List.getElem?_take, if_pos hei]
        rw [hpe] at h
        exact ih e hei _ hoe (hcl e _ hoe (he e hee)) k h
      · rw [pre_big (by simp; omega)] at h
        cases h

/-! ### Which blocks may be gone -/
def memP (m id : Nat) : List (Nat × Nat) → Bool
  | [] => false
  | (a, b) :: r => (Nat.beq a m && Nat.beq b id) || memP m id r
def fbOf (pt : List (List Nat)) (i : Nat) : List (Nat × Nat) → List Nat
  | [] => []
  | (m, id) :: r => match Nat.beq m i || (Nat.blt i m && memB i (pre pt m)) with
    | true => fbOf pt i r
    | false => id :: fbOf pt i r
theorem memB_fbOf {pt : List (List Nat)} {i j k : Nat} (hji : j ≠ i) (hij : ¬ (i < j ∧ memB i (pre pt j) = true)) : ∀ {ks : List (Nat × Nat)}, memP j k ks = true → memB k (fbOf pt i ks) = true
  | [], h => by cases h
  | (m, id) :: r, h => by
    simp only [memP, Bool.or_eq_true, Bool.and_eq_true] at h
    simp only [fbOf]
    rcases h with ⟨h1, h2⟩ | h
    · have h1 := Nat.eq_of_beq_eq_true h1
      have h2 := Nat.eq_of_beq_eq_true h2
      subst h1
      subst h2
      have : (Nat.beq m i || (Nat.blt i m && memB i (pre pt m))) = false := by
        rw [Bool.or_eq_false_iff]
        refine ⟨?_, ?_⟩
        · cases hb : Nat.beq m i with
          | true => exact absurd (Nat.eq_of_beq_eq_true hb) hji
          | false => rfl
        · cases hb : (Nat.blt i m && memB i (pre pt m)) with
          | true =>
            simp only [Bool.and_eq_true] at hb
            exact absurd ⟨blt_lt hb.1, hb.2⟩ hij
          | false => rfl
      rw [this]
      simp [memB]
    · split
      · exact memB_fbOf hji hij h
      · simp [memB, memB_fbOf hji hij h]

/-! ### The walk -/
def ndOf (o : Oper) (t : Nat) : Bool := go t o.op.operands.toList
where go (t : Nat) : List Operand → Bool
  | [] => false
  | .tmp u :: r => Nat.beq u t || go t r
  | _ :: r => go t r
def dstsOf : List Oper → List Nat
  | [] => []
  | o :: os => match o.dst with
    | some d => d :: dstsOf os
    | none => dstsOf os
def dstOk (o : Oper) (n : Nat) : Bool :=
  match o.dst with
  | some t => Nat.blt t n
  | none => true

def execE (G : Gm) (tm0 : List Sv) (hp0 : Hp) (ds : List Nat) (ks : List (Nat × Nat)) (pt : List (List Nat)) (o : Oper) (i : Nat) (T : List Ent) (K : Ent → Prop) : Prop :=
  Need (dstOk o tm0.length = true) <|
  hpK (rawH (fun m => memB m (pre pt i)) T hp0) fun raw => bitsK (avG (fun k => memB k (fbOf pt i ks)) 0 raw) fun avl => hpK (onlyH (bAt avl) 0 raw) fun hpi =>
  rowK (rawT T (fun m => memB m (pre pt i)) (bAt avl) (ndOf o) ds 0 tm0) fun tmi => opV G tmi hpi o fun s nb kl => Need (kl.all (fun k => memP i k ks) = true) <| svK s fun s => blksH nb fun nb => K ⟨o.dst, s, nb, kl⟩
def skipE (tm0 : List Sv) (o : Oper) (K : Ent → Prop) : Prop := Need (dstOk o tm0.length = true) <| K ⟨o.dst, .val undef, [], []⟩

def drawE (G : Gm) (tm0 : List Sv) (hp0 : Hp) (ds : List Nat) (ks : List (Nat × Nat)) (pt : List (List Nat)) : List Oper → Nat → List Ent → (List Ent → Prop) → Prop
  | [], _, T, K => K T
  | o :: os, i, T, K => Need ((edges o).all (fun j => Nat.blt j i) = true) <|
    match o.guard with
    | none => execE G tm0 hp0 ds ks pt o i T fun e => spineK (T ++ [e]) fun T => drawE G tm0 hp0 ds ks pt os (i + 1) T K
    | some (j, want) => Need (memB j (pre pt i) = true) <| match nth T j with
      | some ej => match ej.dst, ej.s with
        | some d, .val (.bool b) => Need (Nat.blt d tm0.length = true) <| Br b
            (match want with
              | true => execE G tm0 hp0 ds ks pt o i T fun e => spineK (T ++ [e]) fun T => drawE G tm0 hp0 ds ks pt os (i + 1) T K
              | false => skipE tm0 o fun e => spineK (T ++ [e]) fun T => drawE G tm0 hp0 ds ks pt os (i + 1) T K)
            (match want with
              | false => execE G tm0 hp0 ds ks pt o i T fun e => spineK (T ++ [e]) fun T => drawE G tm0 hp0 ds ks pt os (i + 1) T K
              | true => skipE tm0 o fun e => spineK (T ++ [e]) fun T => drawE G tm0 hp0 ds ks pt os (i + 1) T K)
        | some d, .val (.tuple _) => Need (Nat.blt d tm0.length = true) <| skipE tm0 o fun e => spineK (T ++ [e]) fun T => drawE G tm0 hp0 ds ks pt os (i + 1) T K
        | _, _ => False
      | none => False

/-- What the guard looks at says b. -/
def SaysV (tm0 : List Sv) (pt : List (List Nat)) (T : List Ent) (i j : Nat) (v : Value) : Prop :=
  memB j (pre pt i) = true ∧ ∃ d ej, T[j]? = some ej ∧ ej.dst = some d ∧ d < tm0.length ∧ ej.s = .val v
abbrev Says (tm0 : List Sv) (pt : List (List Nat)) (T : List Ent) (i j : Nat) (b : Bool) : Prop := SaysV tm0 pt T i j (.bool b)

/-- What is known of an entry: either it has run, or it was left out. -/
structure EntOk (P : Program) (tm0 : List Sv) (hp0 : Hp) (ds : List Nat) (ks : List (Nat × Nat)) (pt : List (List Nat)) (T : List Ent) (i : Nat) (o : Oper) (e : Ent) : Prop where
  edge : ∀ j ∈ edges o, j < i
  dst : e.dst = o.dst
  lt : ∀ t, o.dst = some t → t < tm0.length
  kl : ∀ k, memB k e.kl = true → memP i k ks = true
  way : (o.guard = none ∨ ∃ j b, o.guard = some (j, b) ∧ Says tm0 pt T i j b) ∧
      EStep P o (rawT (T.take i) (fun m => memB m (pre pt i)) (bAt (avG (fun k => memB k (fbOf pt i ks)) 0 (rawH (fun m => memB m (pre pt i)) (T.take i) hp0))) (ndOf o) ds 0 tm0)
        (onlyH (bAt (avG (fun k => memB k (fbOf pt i ks)) 0 (rawH (fun m => memB m (pre pt i)) (T.take i) hp0))) 0 (rawH (fun m => memB m (pre pt i)) (T.take i) hp0)) e.s e.nb e.kl ∨
    (∃ j w v, o.guard = some (j, w) ∧ SaysV tm0 pt T i j v ∧ v ≠ .bool w) ∧ e = ⟨o.dst, .val undef, [], []⟩

theorem memB_all {kl : List Nat} {p : Nat → Bool} (h : kl.all p = true) : ∀ k, memB k kl = true → p k = true := by
  induction kl with
  | nil => intro k hk; cases hk
  | cons x xs ih =>
    intro k hk
    simp only [List.all_cons, Bool.and_eq_true] at h
    simp only [memB, Bool.or_eq_true, beq_iff_eq] at hk
    rcases hk with rfl | hk
    · exact h.1
    · exact ih h.2 k hk

section
variable {G : Gm} {tm0 : List Sv} {hp0 : Hp} {ds : List Nat} {ks : List (Nat × Nat)} {pt : List (List Nat)}

theorem dstOk_lt {o : Oper} {n : Nat} (h : dstOk o n = true) : ∀ t, o.dst = some t → t < n := by
  intro t ht
  unfold dstOk at h
  rw [ht] at h
  exact blt_lt h

theorem drawE_sound : ∀ (os : List Oper) (i : Nat) (T : List Ent) (K : List Ent → Prop), T.length = i → drawE G tm0 hp0 ds ks pt os i T K →
    ∃ T2, K (T ++ T2) ∧ T2.length = os.length ∧ ∀ m o, os[m]? = some o → ∃ e, T2[m]? = some e ∧ EntOk G.P tm0 hp0 ds ks pt (T ++ T2) (i + m) o e
  | [], i, T, K, hi, h => ⟨[], by simpa [drawE] using h, rfl, fun m o hm => by simp at hm⟩
  | o :: os, i, T, K, hi, h => by
    unfold drawE at h
    obtain ⟨hedge, h⟩ := h
    have hedge' : ∀ j ∈ edges o, j < i := fun j hj => by
      rw [List.all_eq_true] at hedge
      exact blt_lt (hedge j hj)
    -- what follows an entry
    have fin : ∀ (e : Ent), (spineK (T ++ [e]) fun T => drawE G tm0 hp0 ds ks pt os (i + 1) T K) → (∀ T2, EntOk G.P tm0 hp0 ds ks pt (T ++ e :: T2) i o e) →
        ∃ T2, K (T ++ T2) ∧ T2.length = (o :: os).length ∧ ∀ m o', (o :: os)[m]? = some o' → ∃ e, T2[m]? = some e ∧ EntOk G.P tm0 hp0 ds ks pt (T ++ T2) (i + m) o' e := by
      intro e h1 h2
      rw [spineK_eq] at h1
      obtain ⟨T2, hK, hl, hf⟩ := drawE_sound os (i + 1) (T ++ [e]) K (by simp [hi]) h1
      rw [List.append_assoc] at hK
      refine ⟨[e] ++ T2, hK, by simp [hl], fun m o' hm => ?_⟩
      cases m with
      | zero =>
        simp only [List.getElem?_cons_zero, Option.some.injEq] at hm
        subst hm
        exact ⟨e, rfl, h2 T2⟩
      | succ m =>
        obtain ⟨e', h3, h4⟩ := hf m o' (by simpa using hm)
        refine ⟨e', by simpa using h3, ?_⟩
        rw [show i + (m + 1) = i + 1 + m by omega]
        rw [List.append_assoc] at h4
        exact h4
    have exec : execE G tm0 hp0 ds ks pt o i T (fun e => spineK (T ++ [e]) fun T => drawE G tm0 hp0 ds ks pt os (i + 1) T K) → (∀ T2, o.guard = none ∨ ∃ j b, o.guard = some (j, b) ∧ Says tm0 pt (T ++ T2) i j b) →
        ∃ T2, K (T ++ T2) ∧ T2.length = (o :: os).length ∧ ∀ m o', (o :: os)[m]? = some o' → ∃ e, T2[m]? = some e ∧ EntOk G.P tm0 hp0 ds ks pt (T ++ T2) (i + m) o' e := by
      intro hx hg
      unfold execE at hx
      obtain ⟨hd, hx⟩ := hx
      simp only [hpK_eq, bitsK_eq, rowK_eq] at hx
      obtain ⟨s, nb, kl, hx, hs⟩ := opV_sound hx
      obtain ⟨hkl, hx⟩ := hx
      rw [svK_eq, blksH_eq] at hx
      refine fin _ hx fun T2 => ?_
      have htk : (T ++ (⟨o.dst, s, nb, kl⟩ : Ent) :: T2).take i = T := by rw [← hi]; simp
      refine { edge := hedge', dst := rfl, lt := dstOk_lt hd, kl := memB_all hkl, way := .inl ⟨hg _, ?_⟩ }
      rw [htk]
      exact hs
    have skip : skipE tm0 o (fun e => spineK (T ++ [e]) fun T => drawE G tm0 hp0 ds ks pt os (i + 1) T K) → (∀ T2, ∃ j w v, o.guard = some (j, w) ∧ SaysV tm0 pt (T ++ T2) i j v ∧ v ≠ .bool w) →
        ∃ T2, K (T ++ T2) ∧ T2.length = (o :: os).length ∧ ∀ m o', (o :: os)[m]? = some o' → ∃ e, T2[m]? = some e ∧ EntOk G.P tm0 hp0 ds ks pt (T ++ T2) (i + m) o' e := by
      intro hx hg
      unfold skipE at hx
      obtain ⟨hd, hx⟩ := hx
      refine fin _ hx fun T2 => ?_
      exact { edge := hedge', dst := rfl, lt := dstOk_lt hd, kl := fun k hk => (by cases hk), way := .inr ⟨hg _, rfl⟩ }
    split at h
    · rename_i hg
      exact exec h fun _ => .inl hg
    · rename_i j want hg
      obtain ⟨hj, h⟩ := h
      split at h
      case h_2 => exact h.elim
      rename_i ej hej
      rw [nth_eq] at hej
      split at h
      case h_3 => exact h.elim
      case h_2 =>
        rename_i d x hd hs
        obtain ⟨hdl, h⟩ := h
        exact skip h fun T2 => ⟨j, want, _, hg, ⟨hj, d, ej, by rw [List.getElem?_append_left (List.getElem?_eq_some_iff.1 hej).1]; exact hej, hd, blt_lt hdl, hs⟩, fun e => by cases e⟩
      rename_i d b hd hs
      obtain ⟨hdl, h1, h2⟩ := h
      have says : ∀ T2, Says tm0 pt (T ++ T2) i j b := fun T2 => ⟨hj, d, ej, by rw [List.getElem?_append_left (List.getElem?_eq_some_iff.1 hej).1]; exact hej, hd, blt_lt hdl, hs⟩
      cases b with
      | true =>
        have h1 := h1 rfl
        cases want with
        | true => exact exec h1 fun T2 => .inr ⟨j, true, hg, says T2⟩
        | false => exact skip h1 fun T2 => ⟨j, false, _, hg, says T2, fun e => by cases e⟩
      | false =>
        have h2 := h2 rfl
        cases want with
        | true => exact skip h2 fun T2 => ⟨j, true, _, hg, says T2, fun e => by cases e⟩
        | false => exact exec h2 fun T2 => .inr ⟨j, false, hg, says T2⟩
end

/-! ### The end of the region -/
def allB : Nat → List Nat → Bool
  | 0, _ => true
  | n + 1, l => memB n l && allB n l
theorem allB_mem : ∀ {n : Nat} {l : List Nat}, allB n l = true → ∀ k, k < n → k ∈ l
  | 0, _, _, k, hk => by omega
  | n + 1, l, h, k, hk => by
    simp only [allB, Bool.and_eq_true] at h
    have mem : ∀ {l : List Nat}, memB n l = true → n ∈ l := by
      intro l
      induction l with
      | nil => intro h; cases h
      | cons x xs ih =>
        intro h
        simp only [memB, Bool.or_eq_true, beq_iff_eq] at h
        rcases h with rfl | h
        · simp
        · simp [ih h]
    by_cases hkn : k = n
    · subst hkn; exact mem h.1
    · exact allB_mem h.2 k (by omega)
theorem memB_of_mem {k : Nat} : ∀ {l : List Nat}, k ∈ l → memB k l = true
  | x :: xs, h => by
    rcases List.mem_cons.1 h with rfl | h
    · simp [memB]
    · simp [memB, memB_of_mem h]
/-- From place t on each operation waits for all before (by the table pt of what each waits for in the end). -/
def tailOk (pt : List (List Nat)) : List Oper → Nat → Bool
  | [], _ => true
  | o :: os, t => allB t (pre pt t) && (edges o).all (fun j => Nat.blt j t) && (match o.guard with | none => true | some _ => false) && tailOk pt os (t + 1)
theorem tailOk_at {pt : List (List Nat)} : ∀ {os : List Oper} {t : Nat}, tailOk pt os t = true → ∀ j o, os[j]? = some o → (∀ k, k < t + j → memB k (pre pt (t + j)) = true) ∧ (∀ k ∈ edges o, k < t + j) ∧ o.guard = none
  | [], _, _, j, o, hj => by simp at hj
  | o :: os, t, h, j, o', hj => by
    simp only [tailOk, Bool.and_eq_true] at h
    obtain ⟨⟨⟨h1, h2⟩, h3⟩, h4⟩ := h
    cases j with
    | zero =>
      simp only [List.getElem?_cons_zero, Option.some.injEq] at hj
      subst hj
      refine ⟨fun k hk => memB_of_mem (allB_mem h1 k (by omega)), fun k hk => ?_, ?_⟩
      · rw [List.all_eq_true] at h2
        exact blt_lt (h2 k hk)
      · cases hg : o.guard with
        | none => rfl
        | some g => rw [hg] at h3; cases h3
    | succ j =>
      rw [show t + (j + 1) = t + 1 + j by omega]
      exact tailOk_at h4 j o' (by simpa using hj)
def tailV (G : Gm) : List Oper → List Sv → Hp → (List Sv → Hp → Prop) → Prop
  | [], tm, hp, K => K tm hp
  | o :: os, tm, hp, K => opS G tm hp o fun tm hp => tailV G os tm hp K
def distinctD : List Oper → Bool
  | [] => true
  | o :: os => (match o.dst with | none => true | some d => !memB d (dstsOf os)) && distinctD os
theorem mem_dstsOf {o : Oper} {d : Nat} (hd : o.dst = some d) : ∀ {os : List Oper}, o ∈ os → d ∈ dstsOf os
  | x :: os, h => by
    simp only [dstsOf]
    rcases List.mem_cons.1 h with rfl | h
    · rw [hd]; simp
    · split
      · exact List.mem_cons_of_mem _ (mem_dstsOf hd h)
      · exact mem_dstsOf hd h
theorem distinctD_at : ∀ {os : List Oper}, distinctD os = true → ∀ (a b : Nat) (x y : Oper) (d : Nat), os[a]? = some x → os[b]? = some y → x.dst = some d → y.dst = some d → a = b
  | [], _, a, _, _, _, _, ha, _, _, _ => by simp at ha
  | o :: os, h, a, b, x, y, d, ha, hb, hx, hy => by
    simp only [distinctD, Bool.and_eq_true] at h
    cases a with
    | zero =>
      cases b with
      | zero => rfl
      | succ b =>
        simp only [List.getElem?_cons_zero, Option.some.injEq] at ha
        subst ha
        rw [hx] at h
        have := memB_of_mem (mem_dstsOf hy (List.mem_of_getElem? (by simpa using hb)))
        simp [this] at h
    | succ a =>
      cases b with
      | zero =>
        simp only [List.getElem?_cons_zero, Option.some.injEq] at hb
        subst hb
        rw [hy] at h
        have := memB_of_mem (mem_dstsOf hx (List.mem_of_getElem? (by simpa using ha)))
        simp [this] at h
      | succ b => rw [distinctD_at h.2 a b x y d (by simpa using ha) (by simpa using hb) hx hy]
def nEof (app asg : Bool) : List Oper → Nat
  | [] => 0
  | o :: os => match o.op with
    | .store _ _ _ => 0
    | .assign _ => match asg with
      | true => 0
      | false => nEof app asg os + 1
    | .call cl => match cl.callee with
      | .builtin .append => match app with
        | true => 0
        | false => nEof app asg os + 1
      | _ => nEof app asg os + 1
    | _ => nEof app asg os + 1
/-- Where the end begins that runs in its order: at the first store, append or assignment, if from there on each operation waits for all before; else at the first store. -/
def nEnd (pt : List (List Nat)) (ops : List Oper) : Nat :=
  match tailOk pt (ops.drop (nEof true true ops)) (nEof true true ops) with
  | true => nEof true true ops
  | false => match tailOk pt (ops.drop (nEof false true ops)) (nEof false true ops) with
    | true => nEof false true ops
    | false => nEof false false ops
theorem nEof_le (app asg : Bool) : ∀ ops : List Oper, nEof app asg ops ≤ ops.length
  | [] => Nat.le_refl _
  | o :: os => by
    have := nEof_le app asg os
    simp only [nEof, List.length_cons]
    repeat' split
    all_goals omega
theorem nEnd_le (pt : List (List Nat)) (ops : List Oper) : nEnd pt ops ≤ ops.length := by
  unfold nEnd
  repeat' split
  all_goals exact nEof_le _ _ _
def allK : List Ent → List Nat
  | [] => []
  | e :: T => e.kl ++ allK T
theorem memB_append {k : Nat} : ∀ {xs ys : List Nat}, memB k (xs ++ ys) = (memB k xs || memB k ys)
  | [], _ => rfl
  | x :: xs, ys => by simp [memB, memB_append, Bool.or_assoc]
theorem memB_allK {k : Nat} : ∀ {T : List Ent}, memB k (allK T) = true ↔ ∃ (i : Nat) (e : Ent), T[i]? = some e ∧ memB k e.kl = true
  | [] => by simp [allK, memB]
  | e :: T => by
    simp only [allK, memB_append, Bool.or_eq_true, memB_allK]
    constructor
    · rintro (h | ⟨i, e', h1, h2⟩)
      · exact ⟨0, e, rfl, h⟩
      · exact ⟨i + 1, e', by simpa using h1, h2⟩
    · rintro ⟨i, e', h1, h2⟩
      cases i with
      | zero => simp at h1; subst h1; exact .inl h2
      | succ i => exact .inr ⟨i, e', by simpa using h1, h2⟩

def drawK (G : Gm) (PT : List (List Nat)) (ops : List Oper) (nE : Nat) (ks : List (Nat × Nat)) (tm : List Sv) (hp : Hp) (K : List Sv → Hp → Prop) : Prop :=
  Need (distinctD (ops.take nE) = true) <| Need (tailOk PT (ops.drop nE) nE = true) <|
  preTabK (ops.take nE) [] fun pt => drawE G tm hp (dstsOf (ops.take nE)) ks pt (ops.take nE) 0 [] fun T =>
    hpK (rawH (fun _ => true) T hp) fun raw => bitsK (avG (fun k => memB k (allK T)) 0 raw) fun avl => hpK (onlyH (bAt avl) 0 raw) fun hpF =>
    rowK (rawT T (fun _ => true) (bAt avl) (fun _ => true) (dstsOf (ops.take nE)) 0 tm) fun tmF => tailV G (ops.drop nE) tmF hpF K
/-- A region that draws: ks: which operation (by its number) takes which block (by its number) away. -/
inductive DrawV (G : Gm) (ops : List Oper) (tm : List Sv) (hp : Hp) (K : List Sv → Hp → Prop) : Prop
  | mk (ks : List (Nat × Nat)) : (preTabK ops [] fun PT => litK (nEnd PT ops) fun nE => drawK G PT ops nE ks tm hp K) → DrawV G ops tm hp K
end Go.Eng

/- The engine, part R: a region that draws its order, walked once, is walked in every order. -/
namespace Go.Eng
open Go Go.RowKit

theorem getD_tf {l : Array Bool} {i : Nat} (h : i < l.size) : l.getD i true = l.getD i false := by
  simp [Array.getD, h]
theorem getD_set_self {l : Array Bool} {i : Nat} (h : i < l.size) : (l.setIfInBounds i true).getD i false = true := by
  simp [Array.getD, h]

theorem ready_iff {ops : Array Oper} {listed : Array Bool} (hs : listed.size = ops.size) {i : Nat} : i ∈ Region.ready .any ops listed ↔ listed.getD i false = false ∧ ∃ o, ops[i]? = some o ∧ ∀ j ∈ edges o, listed.getD j false = true := by
  rw [mem_ready]
  constructor
  · rintro ⟨h1, o, ho, h2⟩
    have hlt := (Array.getElem?_eq_some_iff.1 ho).1
    refine ⟨by rw [← getD_tf (by omega)]; exact h1, o, ho, fun j hj => ?_⟩
    obtain ⟨e, he, hb, rfl⟩ := edges_iff.1 hj
    exact h2 e he hb
  · rintro ⟨h1, o, ho, h2⟩
    have hlt := (Array.getElem?_eq_some_iff.1 ho).1
    exact ⟨by rw [getD_tf (by omega)]; exact h1, o, ho, fun e he hb => h2 _ (edges_iff.2 ⟨e, he, hb, rfl⟩)⟩

theorem ready_all {ops : Array Oper} (hed : ∀ i o, ops[i]? = some o → ∀ j ∈ edges o, j < i) {listed : Array Bool} (hs : listed.size = ops.size) (hr : Region.ready .any ops listed = []) : ∀ i, i < ops.size → listed.getD i false = true := by
  intro i
  induction i using Nat.strongRecOn with
  | _ i ih =>
    intro hi
    cases h : listed.getD i false with
    | true => rfl
    | false =>
      have ho : ops[i]? = some ops[i] := Array.getElem?_eq_getElem hi
      have : i ∈ Region.ready .any ops listed := (ready_iff hs).2 ⟨h, _, ho, fun j hj => ih j (hed i _ ho j hj) (by have := hed i _ ho j hj; omega)⟩
      rw [hr] at this
      simp at this

theorem cnt_step {i : Nat} {p q : Nat → Bool} (hp : p i = true) (hq : q i = false) (h : ∀ j, j ≠ i → q j = p j) : ∀ (l : List Nat), l.Nodup → i ∈ l → (l.filter q).length + 1 = (l.filter p).length
  | x :: xs, hn, hi => by
    have hn := List.nodup_cons.1 hn
    by_cases hx : x = i
    · subst hx
      have : xs.filter q = xs.filter p := List.filter_congr fun j hj => h j (fun e => hn.1 (e ▸ hj))
      simp [List.filter_cons, hp, hq, this]
    · have hi' : i ∈ xs := by
        rcases List.mem_cons.1 hi with h1 | h1
        · exact absurd h1.symm hx
        · exact h1
      have ih := cnt_step hp hq h xs hn.2 hi'
      simp only [List.filter_cons, h x hx]
      split
      · simp only [List.length_cons]; omega
      · exact ih

theorem tail_sound {G : Gm} {ops : Array Oper} {F : Fence} (hF : Open F) {n : Nat} {Q : Exit → Act → World → Prop} {w0 : World} {M : Frm} {dfs : List Deferred} {K : List Sv → Hp → Prop}
    (hy : YdOk G.P w0 M G.l G.its) (hQ : ∀ a c tm hp, K tm hp → St w0 M c tm hp a dfs → Q .normal a c.w) (hed : ∀ i o, ops[i]? = some o → ∀ j ∈ edges o, j < i) {PT : List (List Nat)} (hPT : ∀ j o, ops.toList[j]? = some o → pre PT j = preOf (PT.take j) (edges o)) :
    ∀ (os : List Oper) (t fuel : Nat) (listed : Array Bool) (tm : List Sv) (hp : Hp) (c : Cx) (a : Act), ops.toList.drop t = os → os.length = fuel → listed.size = ops.size →
      (∀ j, j < ops.size → listed.getD j false = decide (j < t)) → tailOk PT os t = true → tailV G os tm hp K → St w0 M c tm hp a dfs → wpAnyIn F n G.P .any ops Q fuel listed a c.w
  | [], t, fuel, listed, tm, hp, c, a, hdrop, hfuel, hs, hl, _, h, hS => by
    have ht : ops.size ≤ t := by
      have := congrArg List.length hdrop
      simp at this
      omega
    subst hfuel
    refine ⟨?_, hQ a c tm hp h hS⟩
    rw [List.eq_nil_iff_forall_not_mem]
    intro i hi
    obtain ⟨h1, o, ho, _⟩ := (ready_iff hs).1 hi
    have hlt := (Array.getElem?_eq_some_iff.1 ho).1
    rw [hl i hlt] at h1
    simp at h1
    omega
  | o :: os, t, fuel, listed, tm, hp, c, a, hdrop, hfuel, hs, hl, hok, h, hS => by
    have hto : ops.toList[t]? = some o := by
      have : (ops.toList.drop t)[0]? = some o := by rw [hdrop]; rfl
      rw [List.getElem?_drop] at this
      simpa using this
    have hta : ops[t]? = some o := by simpa using hto
    have hlt := (Array.getElem?_eq_some_iff.1 hta).1
    have hdrop' : ops.toList.drop (t + 1) = os := by rw [← List.drop_drop, hdrop]; rfl
    simp only [List.length_cons] at hfuel
    subst hfuel
    refine ⟨fun hr => ?_, fun i hi => ?_⟩
    · have := ready_all hed hs hr t hlt
      rw [hl t hlt] at this
      simp at this
    · obtain ⟨h1, o', ho', h2⟩ := (ready_iff hs).1 hi
      have hil := (Array.getElem?_eq_some_iff.1 ho').1
      have hit : ¬ i < t := fun hc => by rw [hl i hil] at h1; simp [hc] at h1
      have hit2 : i = t := by
        rcases Nat.lt_or_ge t i with hgt | hge
        · have hj : (o :: os)[i - t]? = some o' := by
            rw [← hdrop, List.getElem?_drop, show t + (i - t) = i by omega]
            simpa using ho'
          have h3 := (tailOk_at hok (i - t) o' hj).1 t (by omega)
          rw [show t + (i - t) = i by omega] at h3
          have := pre_closed (os := ops.toList) hPT (X := fun k => listed.getD k false) (fun k o2 hk hx j hj => by
            have hk' : ops[k]? = some o2 := by simpa using hk
            have hkl := (Array.getElem?_eq_some_iff.1 hk').1
            have hjk := hed k o2 hk' j hj
            simp only [hl k hkl, decide_eq_true_eq] at hx
            simp only [hl j (by omega), decide_eq_true_eq]
            omega) i o' (by simpa using ho') h2 t h3
          rw [hl t hlt] at this
          simp at this
        · omega
      subst hit2
      rw [hta] at ho'
      cases ho'
      have hg := (tailOk_at hok 0 o rfl).2.2
      unfold wpOpIn
      rw [hta]
      have hw : Region.wanted o (yielded ops a.tmps) = true := by simp [Region.wanted, hg]
      simp only [hw, if_true]
      simp only [tailV] at h
      refine opS_sound h F n w0 M c a dfs _ Q hF hy hS fun tm' hp' a' c' hK hS' => ?_
      have hok' : tailOk PT os (i + 1) = true := by
        simp only [tailOk, Bool.and_eq_true] at hok
        exact hok.2
      refine tail_sound hF hy hQ hed hPT os (i + 1) os.length _ tm' hp' c' a' hdrop' rfl (by simp [hs]) (fun j hj => ?_) hok' hK hS'
      by_cases hji : j = i
      · subst hji
        rw [getD_set_self (by omega)]
        simp
      · rw [getD_set_ne false (fun e => hji e.symm), hl j hj]
        have : (j < i) ↔ (j < i + 1) := by omega
        simp [this]

/-- All have run: the state as it is told. -/
theorem Mid.finish {w0 : World} {M : Frm} {T : List Ent} {hp0 : Hp} {tm0 : List Sv} {ds : List Nat} {X : Nat → Bool} {c : Cx} {a : Act} {dfs : List Deferred} (hM : Mid w0 M T hp0 tm0 ds X c a dfs) (hX : ∀ j, j < T.length → X j = true) :
    St w0 M c (rawT T (fun _ => true) (bAt (avG (fun k => memB k (allK T)) 0 (rawH (fun _ => true) T hp0))) (fun _ => true) ds 0 tm0) (onlyH (bAt (avG (fun k => memB k (allK T)) 0 (rawH (fun _ => true) T hp0))) 0 (rawH (fun _ => true) T hp0)) a dfs := by
  have hraw : rawH X T hp0 = rawH (fun _ => true) T hp0 := by
    unfold rawH
    rw [extH_congr (p := X) (q := fun _ => true) T 0 fun j hj => hX _ (by omega)]
  have hav : avX T hp0 X = bAt (avG (fun k => memB k (allK T)) 0 (rawH (fun _ => true) T hp0)) := by
    funext k
    rw [Bool.eq_iff_iff, avX_iff, avG_iff, hraw, Nat.zero_add]
    have : killX X T 0 k = memB k (allK T) := by
      rw [Bool.eq_iff_iff, killX_iff, memB_allK]
      constructor
      · rintro ⟨i, e, h1, _, h2⟩; exact ⟨i, e, h1, h2⟩
      · rintro ⟨i, e, h1, h2⟩; exact ⟨i, e, h1, hX _ (by have := (List.getElem?_eq_some_iff.1 h1).1; omega), h2⟩
    rw [this]
  rw [← hav, ← hraw]
  refine { inv := hM.inv, full := fun k b hk => ?_, rel := fun t => ?_, size := by rw [rawT_length]; exact hM.size, ds := hM.dfs }
  · rw [onlyH_get] at hk
    obtain ⟨b0, _, h, _⟩ := hk
    rw [Nat.zero_add] at h
    exact (hM.dom k).2 h
  · rcases tmGet_rawT T (fun _ => true) (avX T hp0 X) (fun _ => true) ds 0 tm0 t with h | ⟨_, h⟩
    · rw [h]; trivial
    · rw [h, Nat.zero_add]
      have hr := hM.rel t
      unfold sAt at hr ⊢
      cases hs : slotE T 0 t with
      | none => rw [hs] at hr; exact hr
      | some r =>
        obtain ⟨j, s⟩ := r
        rw [hs] at hr
        obtain ⟨j', e, hj, he, _, _⟩ := slotE_some hs
        have : X j = true := hX j (by have := (List.getElem?_eq_some_iff.1 he).1; omega)
        simp only [this] at hr
        exact hr

section
variable {G : Gm} {ops : Array Oper} {F : Fence} {n : Nat} {Q : Exit → Act → World → Prop} {w0 : World} {M : Frm} {dfs : List Deferred} {K : List Sv → Hp → Prop}
  {nE : Nat} {T : List Ent} {hp0 : Hp} {tm0 : List Sv} {ds : List Nat} {ks : List (Nat × Nat)} {pt : List (List Nat)}

theorem mid_sound (hF : Open F) (hy : YdOk G.P w0 M G.l G.its) (hQ : ∀ a c tm hp, K tm hp → St w0 M c tm hp a dfs → Q .normal a c.w) (hed : ∀ i o, ops[i]? = some o → ∀ j ∈ edges o, j < i) (hnE : nE ≤ ops.size) (hTl : T.length = nE)
    (hT : ∀ i o, i < nE → ops[i]? = some o → ∃ e, T[i]? = some e ∧ EntOk G.P tm0 hp0 ds ks pt T i o e)
    (hu : ∀ (a b : Nat) (x y : Ent) (d : Nat), T[a]? = some x → T[b]? = some y → x.dst = some d → y.dst = some d → a = b) (hcov : ∀ e ∈ T, ∀ t, e.dst = some t → memB t ds = true)
    (hpt : ∀ j o, (ops.toList.take nE)[j]? = some o → pre pt j = preOf (pt.take j) (edges o))
    {PT : List (List Nat)} (hPT : ∀ j o, ops.toList[j]? = some o → pre PT j = preOf (PT.take j) (edges o)) (htail : tailOk PT (ops.toList.drop nE) nE = true)
    (hK : tailV G (ops.toList.drop nE) (rawT T (fun _ => true) (bAt (avG (fun k => memB k (allK T)) 0 (rawH (fun _ => true) T hp0))) (fun _ => true) ds 0 tm0) (onlyH (bAt (avG (fun k => memB k (allK T)) 0 (rawH (fun _ => true) T hp0))) 0 (rawH (fun _ => true) T hp0)) K) :
    ∀ (fuel : Nat) (listed : Array Bool) (c : Cx) (a : Act), listed.size = ops.size → (∀ i, listed.getD i false = true → i < nE) → (∀ i o, ops[i]? = some o → listed.getD i false = true → ∀ j ∈ edges o, listed.getD j false = true) →
      ((List.range nE).filter (fun i => !listed.getD i false)).length + (ops.size - nE) = fuel → Mid w0 M T hp0 tm0 ds (fun i => listed.getD i false) c a dfs → wpAnyIn F n G.P .any ops Q fuel listed a c.w := by
  intro fuel
  induction fuel with
  | zero =>
    intro listed c a hs hlt hcl hfuel hM
    have hall : ∀ j, j < nE → listed.getD j false = true := fun j hj => by
      cases h : listed.getD j false with
      | true => rfl
      | false =>
        have : j ∈ (List.range nE).filter (fun i => !listed.getD i false) := List.mem_filter.2 ⟨List.mem_range.2 hj, by rw [h]; rfl⟩
        have hpos := List.length_pos_of_mem this
        omega
    refine tail_sound hF hy hQ hed hPT _ nE 0 listed _ _ c a rfl (by simp; omega) hs (fun j hj => ?_) htail hK (hM.finish fun j hj => hall j (by omega))
    have : j < nE := by omega
    rw [hall j this]
    simp [this]
  | succ f ih =>
    intro listed c a hs hlt hcl hfuel hM
    by_cases hall : ∀ j, j < nE → listed.getD j false = true
    · have hnil : (List.range nE).filter (fun i => !listed.getD i false) = [] := by
        rw [List.filter_eq_nil_iff]
        intro j hj
        rw [hall j (List.mem_range.1 hj)]
        simp
      rw [hnil] at hfuel
      refine tail_sound hF hy hQ hed hPT _ nE (f + 1) listed _ _ c a rfl (by simp at hfuel ⊢; omega) hs (fun j hj => ?_) htail hK (hM.finish fun j hj => hall j (by omega))
      cases h : listed.getD j false with
      | true => simp [hlt j h]
      | false =>
        have : ¬ j < nE := fun hc => by rw [hall j hc] at h; cases h
        simp [this]
    · have ⟨j0, hj0, hj0f⟩ : ∃ j, j < nE ∧ listed.getD j false = false := by
        by_cases h : ∃ j, j < nE ∧ listed.getD j false = false
        · exact h
        · refine absurd (fun j hj => ?_) hall
          cases hx : listed.getD j false with
          | true => rfl
          | false => exact absurd ⟨j, hj, hx⟩ h
      refine ⟨fun hr => ?_, fun i hi => ?_⟩
      · have := ready_all hed hs hr j0 (by omega)
        rw [hj0f] at this
        cases this
      · obtain ⟨hui, o, ho, hei⟩ := (ready_iff hs).1 hi
        have hil := (Array.getElem?_eq_some_iff.1 ho).1
        have hiE : i < nE := by
          rcases Nat.lt_or_ge i nE with h | h
          · exact h
          · have hd : (ops.toList.drop nE)[i - nE]? = some o := by
              rw [List.getElem?_drop, show nE + (i - nE) = i by omega]
              simpa using ho
            have h3 := (tailOk_at htail (i - nE) o hd).1 j0 (by omega)
            rw [show nE + (i - nE) = i by omega] at h3
            have := pre_closed (os := ops.toList) hPT (X := fun k => listed.getD k false) (fun k o2 hk hx => hcl k o2 (by simpa using hk) hx) i o (by simpa using ho) hei j0 h3
            rw [hj0f] at this
            cases this
        obtain ⟨e, he, hok⟩ := hT i o hiE ho
        have htake : ∀ (j : Nat) (o' : Oper), (ops.toList.take nE)[j]? = some o' → j < nE ∧ ops[j]? = some o' := fun j o' hj => by
          rw [List.getElem?_take] at hj
          split at hj
          · exact ⟨by assumption, by simpa using hj⟩
          · cases hj
        have hotake : (ops.toList.take nE)[i]? = some o := by rw [List.getElem?_take, if_pos hiE]; simpa using ho
        have hpre : ∀ m, memB m (pre pt i) = true → listed.getD m false = true := pre_closed (os := ops.toList.take nE) hpt (X := fun i => listed.getD i false) (fun k o' hk hx => hcl k o' (htake k o' hk).2 hx) i o hotake hei
        have hfb : ∀ k, killX (fun i => listed.getD i false) T 0 k = true → memB k (fbOf pt i ks) = true := fun k hk => by
          obtain ⟨j, ej, h1, h2, h3⟩ := (killX_iff _ _ _ _).1 hk
          rw [Nat.zero_add] at h2
          have hjE := hlt j h2
          have hoj : ops[j]? = some (ops[j]'(by omega)) := Array.getElem?_eq_getElem (by omega)
          obtain ⟨ej', h1', hokj⟩ := hT j _ hjE hoj
          rw [h1] at h1'
          cases h1'
          have hmp := hokj.kl k h3
          refine memB_fbOf (j := j) (fun e => ?_) (fun ⟨_, hc⟩ => ?_) hmp
          · subst e; rw [hui] at h2; cases h2
          · have := pre_closed (os := ops.toList.take nE) hpt (X := fun i => listed.getD i false) (fun k o' hk hx => hcl k o' (htake k o' hk).2 hx) j (ops[j]'(by omega)) (by rw [List.getElem?_take, if_pos hjE]; simp) (hcl j _ hoj h2) i hc
            rw [hui] at this
            cases this
        -- what comes behind
        have next : ∀ a' c', Mid w0 M T hp0 tm0 ds (fun m => (listed.setIfInBounds i true).getD m false) c' a' dfs → wpAnyIn F n G.P .any ops Q f (listed.setIfInBounds i true) a' c'.w := by
          intro a' c' hM'
          refine ih _ c' a' (by simp [hs]) (fun k hk => ?_) (fun k o' hk hx j hj => ?_) ?_ hM'
          · by_cases hki : k = i
            · omega
            · rw [getD_set_ne false (fun e => hki e.symm)] at hk
              exact hlt k hk
          · have up : ∀ j, listed.getD j false = true → (listed.setIfInBounds i true).getD j false = true := fun j hj => by
              by_cases hji : j = i
              · subst hji; exact getD_set_self (by omega)
              · rw [getD_set_ne false (fun e => hji e.symm)]; exact hj
            by_cases hki : k = i
            · subst hki
              rw [ho] at hk
              cases hk
              exact up j (hei j hj)
            · rw [getD_set_ne false (fun e => hki e.symm)] at hx
              exact up j (hcl k o' hk hx j hj)
          · have := cnt_step (i := i) (p := fun k => !listed.getD k false) (q := fun k => !(listed.setIfInBounds i true).getD k false) (by simp [hui]) (by simp [getD_set_self (show i < listed.size by omega)]) (fun j hj => by rw [getD_set_ne false (fun e => hj e.symm)]) (List.range nE) List.nodup_range (List.mem_range.2 hiE)
            omega
        -- what a guard looks at
        have saysV : ∀ j v, SaysV tm0 pt T i j v → yielded ops a.tmps j = (match v with | .bool b => some b | _ => none) := by
          rintro j v ⟨hj, d, ej, hej, hdj, hdl, hsj⟩
          have hXj := hpre j hj
          have hjE := hlt j hXj
          have hoj : ops[j]? = some (ops[j]'(by omega)) := Array.getElem?_eq_getElem (by omega)
          obtain ⟨ej', h1', hokj⟩ := hT j _ hjE hoj
          rw [hej] at h1'
          cases h1'
          have hr := hM.rel d
          unfold sAt at hr
          rw [slotE_at hu hej hdj, hsj] at hr
          simp only [hXj, Sv.only, Rel] at hr
          have hds : d < a.tmps.size := by rw [hM.size]; exact hdl
          rw [Array.getD_eq_getD_getElem?, Array.getElem?_eq_getElem hds] at hr
          have hdd : (ops[j]'(by omega)).dst = some d := by rw [← hokj.dst]; exact hdj
          unfold yielded
          rw [hoj]
          simp only [Option.bind_some, hdd, Array.getElem?_eq_getElem hds]
          simp only [Option.getD_some] at hr
          rw [hr]
          cases v <;> rfl
        have says : ∀ j b, Says tm0 pt T i j b → yielded ops a.tmps j = some b := fun j b h => saysV j _ h
        have hX'i : (fun m => (listed.setIfInBounds i true).getD m false) i = true := getD_set_self (by omega)
        have hX'o : ∀ m, m ≠ i → (fun m => (listed.setIfInBounds i true).getD m false) m = (fun m => listed.getD m false) m := fun m hm => getD_set_ne false (fun e => hm e.symm)
        unfold wpOpIn
        rw [ho]
        simp only
        rcases hok.way with ⟨hg, hE⟩ | ⟨⟨j, w, v, hg, hsay, hvw⟩, rfl⟩
        · have hw : Region.wanted o (yielded ops a.tmps) = true := by
            rcases hg with hg | ⟨j, b, hg, hsay⟩
            · simp [Region.wanted, hg]
            · simp [Region.wanted, hg, says j b hsay]
          rw [if_pos hw]
          exact hM.step he hui hX'i hX'o hu hcov hpre hfb hok.dst hok.lt rfl rfl hE hF next
        · have hw : ¬ Region.wanted o (yielded ops a.tmps) = true := by
            simp only [Region.wanted, hg, saysV j v hsay]
            cases v
            case bool b =>
              simp only [beq_iff_eq, Option.some.injEq]
              intro e
              subst e
              exact hvw rfl
            all_goals simp
          rw [if_neg hw]
          refine ⟨fun f _ => hF.fn f, ?_⟩
          let o' : Oper := { o with op := .move (.const undef) }
          have hE : ∀ tm hp, EStep G.P o' tm hp (.val undef) [] [] := fun tm hp => PureS.estep (by simp [o']) fun w0 M c a hI ha => ⟨undef, by simp [execOp, o', Act.eval], by simp [Rel]⟩
          have := hM.step (o := o') (nd := fun _ => true) (Q := Q) (n := n) he hui hX'i hX'o hu hcov hpre hfb hok.dst hok.lt rfl rfl (hE _ _) hF next
          have h2 := this.2
          rw [Oper.semAt_eq _ _ _ (by simp [o'])] at h2
          have hrun : (execOp a.eval o').run G.P c.w = .ok (.value undef) c.w := by simp [execOp, o', Act.eval]
          rw [hrun] at h2
          exact h2
end

theorem draw_sound {G : Gm} {ops : Array Oper} {id : Nat} {F : Fence} (hF : Open F) {n : Nat} {Q : Exit → Act → World → Prop} {w0 : World} {M : Frm} {dfs : List Deferred} {K : List Sv → Hp → Prop}
    (hy : YdOk G.P w0 M G.l G.its) (hQ : ∀ a c tm hp, K tm hp → St w0 M c tm hp a dfs → Q .normal a c.w) {tm : List Sv} {hp : Hp} {c : Cx} {a : Act} (h : DrawV G ops.toList tm hp K) (hS : St w0 M c tm hp a dfs) : (Code.region id ops true).wpIn F n G.P Q a c.w := by
  obtain ⟨ks, h⟩ := h
  obtain ⟨PT, h, _, hPT⟩ := preTabK_sound h
  simp only [List.nil_append, List.length_nil, Nat.zero_add] at h hPT
  rw [litK_eq] at h
  generalize hn0 : nEnd PT ops.toList = nE at h
  have hnE : nE ≤ ops.size := by
    have := nEnd_le PT ops.toList
    simp at this
    omega
  obtain ⟨hdist, htail, h⟩ := h
  obtain ⟨pt, h, _, hpt⟩ := preTabK_sound h
  simp only [List.nil_append, List.length_nil, Nat.zero_add] at h hpt
  obtain ⟨T, h, hTl, hT⟩ := drawE_sound _ 0 [] _ rfl h
  simp only [List.nil_append, Nat.zero_add] at h hT
  simp only [hpK_eq, bitsK_eq, rowK_eq] at h
  have hTl : T.length = nE := by rw [hTl]; simp; omega
  have hat : ∀ i o, i < nE → ops[i]? = some o → (ops.toList.take nE)[i]? = some o := fun i o hi ho => by rw [List.getElem?_take, if_pos hi]; simpa using ho
  have hto : ∀ (i : Nat) (e : Ent), T[i]? = some e → ∃ o, (ops.toList.take nE)[i]? = some o ∧ e.dst = o.dst := fun i e he => by
    have hi : i < nE := by have := (List.getElem?_eq_some_iff.1 he).1; omega
    have ho : ops[i]? = some (ops[i]'(by omega)) := Array.getElem?_eq_getElem (by omega)
    obtain ⟨e', he', hok⟩ := hT i _ (hat i _ hi ho)
    rw [he] at he'
    cases he'
    exact ⟨_, hat i _ hi ho, hok.dst⟩
  have hed : ∀ i o, ops[i]? = some o → ∀ j ∈ edges o, j < i := fun i o ho => by
    rcases Nat.lt_or_ge i nE with hi | hi
    · obtain ⟨e, _, hok⟩ := hT i o (hat i o hi ho)
      exact hok.edge
    · have hd : (ops.toList.drop nE)[i - nE]? = some o := by
        rw [List.getElem?_drop, show nE + (i - nE) = i by omega]
        simpa using ho
      have := (tailOk_at htail (i - nE) o hd).2.1
      rwa [show nE + (i - nE) = i by omega] at this
  let w1 : World := { c.w with drawn := c.w.drawn + 1 }
  have hg : WGrow c.w w1 := ⟨rfl, rfl, rfl, Nat.le_refl _, fun _ _ => rfl⟩
  have hS1 : St w0 M { c with w := w1 } tm hp a dfs := { inv := hS.inv.grow hg, full := hS.full, rel := fun t => Rel.le _ (Sv.all_true _) (hS.inv.le_grow hg) (hS.rel t), size := hS.size, ds := hS.ds }
  have hrep : ∀ i, (Array.replicate ops.size false).getD i false = false := fun i => by
    rw [Array.getD_eq_getD_getElem?, Array.getElem?_replicate]
    split <;> rfl
  refine wpIn_region_any G.mix ?_
  refine mid_sound (tm0 := tm) (hp0 := hp) (nE := nE) (T := T) (ds := dstsOf (ops.toList.take nE)) (ks := ks) (pt := pt) hF hy hQ hed hnE hTl (fun i o hi ho => hT i o (hat i o hi ho)) ?_ ?_ hpt hPT htail h ops.size (Array.replicate ops.size false) { c with w := w1 } a (by simp) (fun i hi => by rw [hrep] at hi; cases hi) (fun i o ho hi => by rw [hrep] at hi; cases hi) ?_ ?_
  · intro x y ex ey d hx hy hdx hdy
    obtain ⟨ox, hox, e1⟩ := hto x ex hx
    obtain ⟨oy, hoy, e2⟩ := hto y ey hy
    exact distinctD_at hdist x y ox oy d hox hoy (e1 ▸ hdx) (e2 ▸ hdy)
  · intro e he t hd
    obtain ⟨i, hi⟩ := List.mem_iff_getElem?.1 he
    obtain ⟨o, ho, e1⟩ := hto i e hi
    exact memB_of_mem (mem_dstsOf (e1 ▸ hd) (List.mem_of_getElem? ho))
  · have : (List.range nE).filter (fun i => !(Array.replicate ops.size false).getD i false) = List.range nE := by
      rw [List.filter_eq_self]
      intro i _
      rw [hrep]
      rfl
    rw [this]
    simp
    omega
  · have hXf : (fun i => (Array.replicate ops.size false).getD i false) = fun _ => false := funext hrep
    rw [hXf]
    exact Mid.start hS1
end Go.Eng
