/- The engine, part F: append. -/
import Derived.Test.YtobojnfhhobnkaaEngE
set_option linter.unusedSimpArgs false
set_option maxRecDepth 20000
set_option linter.unusedVariables false
namespace Go.Eng
open Go Go.RowKit

/-- What append comes to: a slice that is nil or owns the first cells of its block; whatever source. -/
theorem run_app {P : Program} (w : World) (t ty e : Nat) (i : TypeInfo) (z : Value) (size bytes : Nat) (ht : P.underlying t = some (.slice e)) (hi : P.info? e = some i) (hz : i.zero = some z)
    (hsize : i.size = size) (hby : i.bytes = bytes) (hzs : z.cells.size = size)
    (v : Value) (n : Nat) (olds : List Value) (ho : olds.length = n * size)
    (hv : (v = .slice none 0 0 ∧ n = 0) ∨ ∃ g cap cur, v = .slice (some ⟨g, 0, none⟩) n cap ∧ w.heap[g]? = some (.cells cur e (0, 0)) ∧ n ≤ cap ∧ cap ≤ maxLen ∧ cap * size ≤ cur.size ∧ cur.toList.take (n * size) = olds)
    (A : Option Addr) (m c : Nat) (news : List Value) (hl : news.length = m * size) (hnews : m = 0 ∨ ∃ b off, A = some ⟨b, off, none⟩ ∧ ∀ j u, news[j]? = some u → w.cell? ⟨b, off + j, none⟩ = some u) (h1 : ∀ u ∈ news, u.oneCell' = true)
    (h63 : n + m ≤ maxLen) (hbytes : (n + m) * bytes ≤ 140737488355328) :
    ∃ v' w', (Builtin.append_ #[t, t] ty #[v, .slice A m c]).run P w = .ok v' w' ∧
      ((v = .slice none 0 0 ∧ m = 0 ∧ v' = .slice none 0 0 ∧ w' = w) ∨
       (∃ g cap cur, v = .slice (some ⟨g, 0, none⟩) n cap ∧ w.heap[g]? = some (.cells cur e (0, 0)) ∧ n + m ≤ cap ∧ v' = .slice (some ⟨g, 0, none⟩) (n + m) cap ∧
          ∃ arr : Array Value, w' = w.setRow g arr ∧ arr.size = cur.size ∧ arr.toList.take ((n + m) * size) = olds ++ news) ∨
       (∃ cap, n + m ≤ cap ∧ cap ≤ maxLen ∧ v' = .slice (some ⟨w.heap.size, 0, none⟩) (n + m) cap ∧ ∃ arr : Array Value, w' = w.drew.alloc (.cells arr e) ∧ arr.size = cap * size ∧ arr.toList.take ((n + m) * size) = olds ++ news)) := by
  subst hsize
  subst hby
  have hsmall : n + m ≤ 9223372036854775807 := by simp only [maxLen] at h63; omega
  have hlen : (olds ++ news).length = (n + m) * i.size := by rw [List.length_append, ho, hl, Nat.add_mul]
  have grown : ∀ (old : Nat), old < n + m → n + m ≤ grownCap w (n + m) old e ∧ grownCap w (n + m) old e ≤ maxLen ∧
      (olds.toArray ++ news.toArray ++ Builtin.zeroCells z.cells (grownCap w (n + m) old e - (n + m))).size = grownCap w (n + m) old e * i.size ∧
      (olds.toArray ++ news.toArray ++ Builtin.zeroCells z.cells (grownCap w (n + m) old e - (n + m))).toList.take ((n + m) * i.size) = olds ++ news := by
    intro old _
    have hge := grownCap_ge w (n + m) old e
    have hcm : grownCap w (n + m) old e ≤ maxLen := grownCap_le_maxLen w (n + m) old e h63
    refine ⟨hge, hcm, ?_, ?_⟩
    · simp only [Array.size_append, List.size_toArray, size_zeroCells, hzs, ho, hl, ← Nat.add_mul]
      congr 1
      omega
    · simp only [Array.toList_append, List.append_assoc]
      rw [← List.append_assoc, ← hlen]
      exact List.take_left
  by_cases hm : m = 0
  · -- nothing is put behind
    subst hm
    have hn : news = [] := List.eq_nil_of_length_eq_zero (by simpa using hl)
    subst hn
    have hf : ∀ w, (Builtin.firstCells i.size 0 (.slice A 0 c)).run P w = .ok #[] w := by
      intro w
      cases A <;> simp [Builtin.firstCells, loadCells, loadCellsFrom]
    rcases hv with ⟨rfl, rfl⟩ | ⟨g, cap, cur, rfl, hg, hnc, hcm, hcs, htake⟩
    · refine ⟨.slice none 0 0, w, ?_, .inl ⟨rfl, rfl, rfl, rfl⟩⟩
      simp [Builtin.append_, run_underlying ht, sizeOf, typeInfo, hi, Builtin.lenOf, hf]
    · refine ⟨.slice (some ⟨g, 0, none⟩) n cap, w, ?_, .inr (.inl ⟨g, cap, cur, rfl, hg, by omega, by simp, cur, (setRow_self w g cur e (0, 0) hg).symm, rfl, by simpa using htake⟩)⟩
      simp [Builtin.append_, run_underlying ht, sizeOf, typeInfo, hi, Builtin.lenOf, hnc, hf, storeCells]
  · rcases hnews with h0 | ⟨b, off, rfl, hcells⟩
    · exact absurd h0 hm
    have hnews : ∀ j u, news[j]? = some u → w.cell? ((⟨b, off, none⟩ : Addr).add j) = some u := fun j u hj => by rw [Addr.add_lit]; exact hcells j u hj
    rcases hv with ⟨rfl, rfl⟩ | ⟨g, cap, cur, rfl, hg, hnc, hcm, hcs, htake⟩
    · have hx : olds = [] := List.eq_nil_of_length_eq_zero (by simpa using ho)
      subst hx
      have hr := run_append_nil (P := P) w t ty e i z ht hi hz ⟨b, off, none⟩ m c news hl hnews (by omega) (by omega) (by have hb := hbytes; simp only [Nat.zero_add] at hb; omega)
      obtain ⟨g1, g2, g3, g4⟩ := grown 0 (by omega)
      simp only [Nat.zero_add, List.nil_append, Array.empty_append] at g1 g2 g3 g4 ⊢
      exact ⟨_, _, hr, .inr (.inr ⟨_, g1, g2, rfl, _, rfl, g3, g4⟩)⟩
    · by_cases hroom : n + m ≤ cap
      · have hfit : n * i.size + news.length ≤ cur.size := by
          rw [hl, ← Nat.add_mul]
          exact Nat.le_trans (Nat.mul_le_mul_right _ hroom) hcs
        have hr := run_append_room (P := P) w t ty e i ht hi g n cap cur hg ⟨b, off, none⟩ m c news hl hnews h1 hroom hfit
        refine ⟨_, _, hr, .inr (.inl ⟨g, cap, cur, rfl, hg, hroom, rfl, _, rfl, ?_, ?_⟩)⟩
        · simp only [List.size_toArray, List.length_append, List.length_take, List.length_drop, Array.length_toList]
          omega
        · rw [htake, ← hlen]
          exact List.take_left
      · have holds : ∀ j u, olds[j]? = some u → w.cell? ((⟨g, 0, none⟩ : Addr).add j) = some u := fun j u hj => by
          rw [Addr.add_lit, cell_of_row w g _ cur e (0, 0) hg]
          rw [← htake, List.getElem?_take] at hj
          split at hj
          · simpa using hj
          · cases hj
        have hr := run_append_grow (P := P) w t ty e i z ht hi hz ⟨g, 0, none⟩ n cap olds ho holds ⟨b, off, none⟩ m c news hl hnews (by omega) (by omega) (growslice_fits (by omega) hbytes)
        obtain ⟨g1, g2, g3, g4⟩ := grown cap (by omega)
        exact ⟨_, _, hr, .inr (.inr ⟨_, g1, g2, rfl, _, rfl, g3, g4⟩)⟩

/-- A block's rows. -/
def rowsOf (b : Blk) (K : List (List Sv) → Prop) : Prop :=
  match b with
  | ⟨_, _, _, _, rows⟩ => K rows
theorem rowsOf_eq (b : Blk) (K : List (List Sv) → Prop) : rowsOf b K = K b.rows := rfl

/-- The rows of a slice, and whether none of them names a local block. -/
def srcV (hp : Hp) (y : Sv) (wd : Nat) (K : List (List Sv) → Bool → Prop) : Prop :=
  match y with
  | .own k n => Get (hpGet hp k) fun b => Need (b.wd = wd ∧ n ≤ b.rows.length) (rowsOf b fun rows => EqK (rows.take n) fun rows => K rows b.clean)
  | .sls k lo n => Get (hpGet hp k) fun b => Need (b.wd = wd ∧ lo + n ≤ b.rows.length) (rowsOf b fun rows => K ((rows.drop lo).take n) b.clean)
  | .ext _ w rows => Need (w = wd) (K rows true)
  | .val (.slice none 0 0) => K [] true
  | _ => False

/-- What is known of such a slice in the machine. -/
def SrcRel (c : Cx) (wd : Nat) (rows : List (List Sv)) (cl : Bool) (v : Value) : Prop :=
  ∃ A cap, v = .slice A rows.length cap ∧ rows.length ≤ cap ∧ (rows = [] ∨ ∃ b off, A = some ⟨b, off, none⟩ ∧ RelR rows (if cl then c.shut else c) wd b off)

theorem srcV_sound {hp : Hp} {y : Sv} {wd : Nat} {K : List (List Sv) → Bool → Prop} (h : srcV hp y wd K) : ∃ rows cl, K rows cl ∧ ∀ (w0 : World) (M : Frm) (c : Cx) (v : Value), Inv w0 M c hp → Rel y c v → SrcRel c wd rows cl v := by
  unfold srcV at h
  split at h
  · rename_i k n
    obtain ⟨b, hb, ⟨hw, hn⟩, h⟩ := h
    rw [rowsOf_eq] at h
    refine ⟨_, _, h.go, fun w0 M c v hI r => ?_⟩
    simp only [Rel] at r
    obtain ⟨hD, hv⟩ := r
    obtain ⟨b', hb', hwd, hrel⟩ := hI.dom k hD
    rw [hpGet_eq] at hb
    rw [hb] at hb'
    cases hb'
    have hlen : (b.rows.take n).length = n := by rw [List.length_take]; omega
    rcases hv with ⟨hnil, rfl, h0⟩ | ⟨hnil, rfl, hc⟩
    · have : b.rows.take n = [] := by rw [h0]; rfl
      exact ⟨none, 0, by simp [this], by simp [this], .inl this⟩
    · obtain ⟨arr, _, hr, _⟩ := hrel.2 hnil
      refine ⟨_, _, by rw [hlen], by omega, .inr ⟨_, _, rfl, ?_⟩⟩
      rw [← hw]
      exact RelR_take hr n
  · rename_i k lo n
    obtain ⟨b, hb, ⟨hw, hn⟩, h⟩ := h
    refine ⟨_, _, h, fun w0 M c v hI r => ?_⟩
    simp only [Rel] at r
    obtain ⟨hD, A, cap, rfl, hc, hA⟩ := r
    obtain ⟨b', hb', hwd, hrel⟩ := hI.dom k hD
    rw [hpGet_eq] at hb
    rw [hb] at hb'
    cases hb'
    have hlen : ((b.rows.drop lo).take n).length = n := by rw [List.length_take, List.length_drop]; omega
    refine ⟨A, cap, by rw [hlen], by rw [hlen]; exact hc, ?_⟩
    rcases hA with rfl | ⟨hnil, rfl⟩
    · exact .inl (by simp)
    · obtain ⟨arr, _, hr, _⟩ := hrel.2 hnil
      right
      refine ⟨_, _, rfl, ?_⟩
      have := RelR_take (RelR_drop hr lo) n
      rw [hwd, ← hw]
      simpa [Blk.cx] using this
  · rename_i fr q rows
    obtain ⟨rfl, h⟩ := h
    refine ⟨_, _, h, fun w0 M c v hI r => ?_⟩
    simp only [Rel] at r
    obtain ⟨A, cap, rfl, hc, hA⟩ := r
    refine ⟨A, cap, rfl, hc, hA.imp id ?_⟩
    rintro ⟨b, off, e, _, _, hr⟩
    exact ⟨b, off, e, hr⟩
  · refine ⟨_, _, h, fun w0 M c v hI r => ?_⟩
    simp only [Rel] at r
    subst r
    exact ⟨none, 0, rfl, by simp, .inl rfl⟩
  · exact h.elim

def appV (G : Gm) (hp : Hp) (t : Nat) (x y : Sv) (K : Sv → Blk → List Nat → Prop) : Prop :=
  Get (G.tab t) fun i => match i.kind with
    | .slice e => Get (G.tab e) fun j => Need (j.zero.length = j.size) <| srcV hp y j.size fun news cl =>
      match x with
      | .own k n => Get (hpGet hp k) fun b => Need (b.wd = j.size ∧ b.elem = e ∧ b.grow = true ∧ n = b.rows.length ∧ b.clean = true ∧ cl = true) <| Need ((n + news.length) * j.bytes ≤ 140737488355328 ∧ n + news.length ≤ maxLen) <|
          EqK (n + news.length) fun n' => rowsOf b fun rows => EqK (rows ++ news) fun rows' => K (.own hp.length n') ⟨e, j.size, true, true, rows'⟩ [k]
      | .val (.slice none 0 0) => Need (news.length * j.bytes ≤ 140737488355328 ∧ news.length ≤ maxLen ∧ cl = true) <| EqK news.length fun n' => K (.own hp.length n') ⟨e, j.size, true, true, news⟩ []
      | _ => False
    | _ => False
/-- A world in which one block that nobody names has turned. -/
theorem Inv.turn {w0 : World} {M : Frm} {c : Cx} {hp : Hp} (h : Inv w0 M c hp) {w : World} {row : Option Nat} (g : c.w.grownBy w row)
    (hr : ∀ b, row = some b → (∀ k, c.D k → (c.E k).nil = false → (c.E k).b ≠ b) ∧ (∀ x, c.X x → x ≠ b) ∧ (M.M b ∨ w0.heap.size ≤ b) ∧ ¬ c.C b) : Inv w0 M { c with w := w } hp ∧ c.Le (fun _ => true) { c with w := w } := by
  have hx : ∀ b, c.X b → w.heap[b]? = c.w.heap[b]? := fun b hb => g.block b (h.xlt b hb) (fun e => (hr b e.symm).2.1 b hb rfl)
  have hle : c.Le (fun _ => true) { c with w := w } := ⟨fun _ _ hk => ⟨hk, rfl⟩, fun _ h => h, fun _ _ h => h, hx⟩
  refine ⟨?_, hle⟩
  exact {
    dom := fun k hk => let ⟨blk, e, r⟩ := h.dom k hk; ⟨blk, e, r.le hle rfl (fun hn => g.block _ (r.lt hn) (fun e => (hr _ e.symm).1 k hk hn rfl)) (fun _ => allR_true _)⟩
    inj := h.inj
    xsep := h.xsep
    xlt := fun b hb => Nat.lt_of_lt_of_le (h.xlt b hb) g.size
    xY := h.xY
    bnd := h.bnd
    bndG := h.bndG
    e0 := h.e0
    mlen := h.mlen
    os := g.os.trans h.os
    tape := g.tape.trans h.tape
    output := g.output.trans h.output
    size := Nat.le_trans h.size g.size
    keep := fun j hj hm hy => (g.block j (Nat.lt_of_lt_of_le hj h.size) (fun e => by
      rcases (hr j e.symm).2.2.1 with h1 | h1
      · exact hm h1
      · omega)).trans (h.keep j hj hm hy)
    loc := h.loc
    x0 := h.x0
    zc := h.zc
    z0 := h.z0
    xk := h.xk
    ca := h.ca
    cc := fun b hb => ⟨Nat.lt_of_lt_of_le (h.cc b hb).1 g.size, (h.cc b hb).2⟩
    gh := fun k blk hD hb hn hg => h.ghs ⟨g.os, g.tape, g.output, g.size, fun b hb => g.block b (h.cc b hb).1 (fun e => (hr b e.symm).2.2.2 hb)⟩ hD hb hn hg }

/-- A new block, wherever it lies apart from all that is known. -/
theorem Inv.new2 {w0 : World} {M : Frm} {c : Cx} {hp hp' : Hp} (h : Inv w0 M c hp) {n : Nat} (hn : ¬ c.D n) (hm : M.m ≤ n) (hold : ∀ k, c.D k → hp'[k]? = hp[k]?)
    {blk : Blk} (hnew : hp'[n]? = some (some blk)) {l : Loc} (hs : l.nil = false → (∀ k, c.D k → (c.E k).nil = false → (c.E k).b ≠ l.b) ∧ (∀ x, c.X x → l.b ≠ x) ∧ (M.M l.b ∨ w0.heap.size ≤ l.b) ∧ ¬ c.C l.b) (hr : BlkRel (c.put n l c.w) n blk) (hgr : l.nil = true → blk.grow = true) : Inv w0 M (c.put n l c.w) hp' := by
  have hle : c.Le (fun _ => true) (c.put n l c.w) := ⟨fun k _ hk => ⟨.inl hk, upd_other (fun e => hn (e ▸ hk))⟩, fun _ h => h, fun _ _ h => h, fun _ _ => rfl⟩
  have hEo : ∀ k, c.D k → (c.put n l c.w).E k = c.E k := fun k hk => upd_other (fun e => hn (e ▸ hk))
  have hEn : (c.put n l c.w).E n = l := upd_same _ _ _
  refine { dom := ?_, inj := ?_, xsep := ?_, xlt := h.xlt, xY := h.xY, bnd := h.bnd, bndG := h.bndG, e0 := ?_, mlen := Nat.le_of_lt (Nat.lt_of_le_of_lt hm (List.getElem?_eq_some_iff.1 hnew).1), os := h.os, tape := h.tape, output := h.output, size := h.size, keep := h.keep, loc := ?_, x0 := h.x0, zc := h.zc, z0 := h.z0, xk := h.xk, ca := h.ca, cc := fun b hb => ⟨(h.cc b hb).1, ?_, (h.cc b hb).2.2⟩, gh := ?_ }
  · rintro k (hk | rfl)
    · obtain ⟨b, e, r⟩ := h.dom k hk
      exact ⟨b, (hold k hk).trans e, r.le hle (hEo k hk) (fun _ => rfl) (fun _ => allR_true _)⟩
    · exact ⟨blk, hnew, hr⟩
  · rintro k k' (hk | rfl) (hk' | rfl) hne h1 h2
    · rw [hEo k hk] at h1 ⊢; rw [hEo k' hk'] at h2 ⊢; exact h.inj k k' hk hk' hne h1 h2
    · rw [hEo k hk] at h1 ⊢; rw [hEn] at h2 ⊢
      exact (hs h2).1 k hk h1
    · rw [hEo k' hk'] at h2 ⊢; rw [hEn] at h1 ⊢
      exact fun e => (hs h1).1 k' hk' h2 e.symm
    · exact absurd rfl hne
  · rintro k b (hk | rfl) h1 hx
    · rw [hEo k hk] at h1 ⊢; exact h.xsep k b hk h1 hx
    · rw [hEn] at h1 ⊢; exact (hs h1).2.1 b hx
  · rintro k hlt (hk | rfl)
    · rw [hEo k hk]; exact h.e0 k hlt hk
    · omega
  · rintro k (hk | rfl) h1
    · rw [hEo k hk] at h1 ⊢; exact h.loc k hk h1
    · rw [hEn] at h1 ⊢; exact (hs h1).2.2.1
  · rintro k (hk | rfl) h1
    · rw [hEo k hk] at h1 ⊢; exact (h.cc b hb).2.1 k hk h1
    · rw [hEn] at h1 ⊢; exact fun e => (hs h1).2.2.2 (e ▸ hb)
  · rintro k b (hk | rfl) hb h1 h2
    · rw [hEo k hk] at h1
      rw [hold k hk] at hb
      exact h.gh k b hk hb h1 h2
    · rw [hEn] at h1
      rw [hnew] at hb
      cases hb
      rw [hgr h1] at h2
      cases h2

section
variable {G : Gm} {tm : List Sv} {hp : Hp} {o : Oper}

/-- From an append's run to what it leaves. -/
theorem app_post {w0 : World} {M : Frm} {c : Cx} (hI : Inv w0 M c hp) {kl : List Nat} {blk : Blk} {l : Loc} {w' : World} {row : Option Nat} (g : c.w.grownBy w' row)
    (hrow : ∀ b, row = some b → ∃ k0, c.D k0 ∧ memB k0 kl = true ∧ (c.E k0).nil = false ∧ (c.E k0).b = b)
    (hl : l.nil = false → c.w.heap.size ≤ l.b ∨ ∃ k0, c.D k0 ∧ memB k0 kl = true ∧ (c.E k0).nil = false ∧ (c.E k0).b = l.b)
    (hb : BlkRel ({ c with D := fun k => c.D k ∧ memB k kl = false, w := w' }.put hp.length l w') hp.length blk) (hgr : blk.grow = true) :
    EPost w0 M c ({ c with D := fun k => c.D k ∧ memB k kl = false, w := w' }.put hp.length l w') hp [blk] kl := by
  obtain ⟨hI1, hle1⟩ := hI.kill kl
  have hapart : ∀ b, (∃ k0, c.D k0 ∧ memB k0 kl = true ∧ (c.E k0).nil = false ∧ (c.E k0).b = b) → (∀ k, (c.D k ∧ memB k kl = false) → (c.E k).nil = false → (c.E k).b ≠ b) ∧ (∀ x, c.X x → x ≠ b) ∧ (M.M b ∨ w0.heap.size ≤ b) ∧ ¬ c.C b := by
    rintro b ⟨k0, hD, hm, hn, rfl⟩
    refine ⟨fun k hk hkn => hI.inj k k0 hk.1 hD (fun e => by subst e; rw [hm] at hk; cases hk.2) hkn hn, fun x hx e => hI.xsep k0 x hD hn hx e.symm, hI.loc k0 hD hn, fun hc => (hI.cc _ hc).2.1 k0 hD hn rfl⟩
  obtain ⟨hI2, hle2⟩ := hI1.turn (w := w') g (fun b hb => hapart b (hrow b hb))
  have hnD : ¬ c.D hp.length := hI.notD
  have hlt : ∀ k, c.D k → k < hp.length := fun k hD => by
    obtain ⟨blk, e, _⟩ := hI.dom _ hD
    exact (List.getElem?_eq_some_iff.1 e).1
  have hI3 := hI2.new2 (hp' := kill kl hp ++ [some blk]) (n := hp.length) (fun h => hnD h.1) hI.mlen (fun k hk => List.getElem?_append_left (by rw [kill_length]; exact hlt k hk.1))
    (blk := blk) (by rw [List.getElem?_append_right (by rw [kill_length]; exact Nat.le_refl _), kill_length]; simp) (l := l) (fun hn => by
      rcases hl hn with h1 | h1
      · refine ⟨fun k hk hkn => ?_, fun x hx => ?_, .inr (Nat.le_trans hI.size h1), fun hc => by have := (hI.cc _ hc).1; omega⟩
        · obtain ⟨b, _, r⟩ := hI.dom k hk.1
          have := r.lt hkn
          show (c.E k).b ≠ l.b
          omega
        · have := hI.xlt x hx
          omega
      · obtain ⟨a1, a2, a3⟩ := hapart _ h1
        exact ⟨a1, fun x hx e => a2 x hx e.symm, a3⟩) hb (fun _ => hgr)
  exact {
    inv := by simpa using hI3
    le := ⟨fun k hk hD => by
        have hm : memB k kl = false := by simpa using hk
        exact ⟨.inl ⟨hD, hm⟩, upd_other (fun e => hnD (e ▸ hD))⟩, fun _ h => h, fun _ _ h => h, fun b hx => g.block b (hI.xlt b hx) (fun e => (hapart b (hrow b e.symm)).2.1 b hx rfl)⟩
    dom := fun k => by simp [Cx.put]; constructor <;> (rintro (h | h) <;> first | (exact .inl h) | (right; omega))
    keep := fun j hj hk => g.block j hj (fun e => by
      obtain ⟨k0, hD, hm, hn, hb⟩ := hrow j e.symm
      exact hk k0 hD hm hn hb)
    xdom := fun _ h => .inl h
    size := g.size
    fresh := fun k hk hD hn => by
      have : k = hp.length := by
        rcases hD with hD | hD
        · have := hlt k hD.1; omega
        · exact hD
      subst this
      simp only [Cx.put, upd_same] at hn ⊢
      exact hl hn
    cA := rfl
    cC := rfl
    cZ := rfl
    nnil := fun j b h _ => by
      cases j with
      | zero => simp at h; rw [← h]; exact hgr
      | succ j => simp at h }

theorem SrcRel.vals {c : Cx} {wd : Nat} {rows : List (List Sv)} {cl : Bool} {v : Value} (h : SrcRel c wd rows cl v) (hwd : rows = [] ∨ True) :
    ∃ A cap news, v = .slice A rows.length cap ∧ news.length = rows.length * wd ∧ RelL rows.flatten (if cl then c.shut else c) news ∧ (∀ r ∈ rows, r.length = wd) ∧ (rows.length = 0 ∨ ∃ b off, A = some ⟨b, off, none⟩ ∧ ∀ j u, news[j]? = some u → c.w.cell? ⟨b, off + j, none⟩ = some u) := by
  obtain ⟨A, cap, rfl, hc, hr⟩ := h
  rcases hr with rfl | ⟨b, off, rfl, hr⟩
  · exact ⟨A, cap, [], rfl, by simp, by simp [RelL], by simp, .inl rfl⟩
  · obtain ⟨news, hn, hl, hcell⟩ := RelR_vals rows hr
    refine ⟨_, cap, news, rfl, hn, hl, ?_, .inr ⟨b, off, rfl, ?_⟩⟩
    · intro r hr'
      obtain ⟨i, hi⟩ := List.mem_iff_getElem?.1 hr'
      exact (RelR_get rows hr i r hi).1
    · intro j u hj
      have := hcell j u hj
      cases cl <;> exact this

theorem appV_sound {t : Nat} {x y : Operand} {K : Sv → Blk → List Nat → Prop} (ho : o.op = .call { callee := .builtin .append, args := #[x, y], argTypes := #[t, t] }) (h : appV G hp t (evO tm x) (evO tm y) K) : ∃ s b kl, K s b kl ∧ EStep G.P o tm hp s [b] kl := by
  obtain ⟨i, hi, h⟩ := h
  have ht := G.ok t i hi
  split at h
  case h_2 => exact h.elim
  rename_i e hk
  obtain ⟨j, hj, hz0, h⟩ := h
  have hje := G.ok e j hj
  obtain ⟨d, hd, hft⟩ := ht.desc
  rw [hk] at hft
  simp only [TK.fits] at hft
  subst hft
  obtain ⟨I, hI, hIs, hIb, z, hz, hzc⟩ := hje.info
  obtain ⟨news, cl, h, hsrc⟩ := srcV_sound h
  have hzs : z.cells.size = j.size := by rw [hzc]; simpa using hz0
  have hx0 : x ∈ o.op.operands := by rw [ho]; simp [Op.operands, Call.operands]
  have hy0 : y ∈ o.op.operands := by rw [ho]; simp [Op.operands, Call.operands]
  have hexec : ∀ (a : Act), execOp a.eval o = (do pure (.value (← Builtin.append_ #[t, t] o.type #[a.eval x, a.eval y]))) := fun a => by
    simp [execOp, ho, resolve, invoke, builtin]
  split at h
  · -- a row of the call's own
    rename_i k n hx
    obtain ⟨b, hb, ⟨hbw, hbe, hbg, hn, hbc, rfl⟩, ⟨hby, h63⟩, h⟩ := h
    have h := h.go
    rw [rowsOf_eq] at h
    have h := h.go
    refine ⟨_, _, _, h, ?_⟩
    intro F n' w0 M c a next Q hF hInv ha hnext
    have rx := opnd_rel ha hx0 hx
    simp only [Rel] at rx
    obtain ⟨hD, hv⟩ := rx
    obtain ⟨b', hb', hwd, hrel⟩ := hInv.dom k hD
    rw [hpGet_eq] at hb
    rw [hb] at hb'
    cases hb'
    obtain ⟨A, cy, vs, ey, hvl, hvr, hvw, hcell⟩ := (hsrc w0 M c _ hInv (ha y hy0)).vals (.inr trivial)
    -- what the row holds
    have key : ∃ olds : List Value, olds.length = n * j.size ∧ RelL b.rows.flatten (b.cx c) olds ∧ (∀ r ∈ b.rows, r.length = j.size) ∧ ((a.eval x = .slice none 0 0 ∧ n = 0) ∨ ∃ g cap cur, a.eval x = .slice (some ⟨g, 0, none⟩) n cap ∧ c.w.heap[g]? = some (.cells cur e (0, 0)) ∧ n ≤ cap ∧ cap ≤ maxLen ∧ cap * j.size ≤ cur.size ∧ cur.toList.take (n * j.size) = olds) ∧
        (∀ A n1 c1, a.eval x = .slice (some A) n1 c1 → (c.E k).nil = false ∧ (c.E k).b = A.block ∧ (c.E k).cap = c1) := by
      rcases hv with ⟨hnil, e1, h0⟩ | ⟨hnil, e1, hc⟩
      · have hrows : b.rows = [] := List.eq_nil_of_length_eq_zero (by omega)
        refine ⟨[], by simp [h0], by simp [hrows, RelL], by simp [hrows], .inl ⟨e1, h0⟩, fun A n1 c1 e2 => by rw [e1] at e2; cases e2⟩
      · obtain ⟨arr, hh, hr, hle, hg⟩ := hrel.2 hnil
        · obtain ⟨olds, hol, hor, hoc⟩ := RelR_vals _ hr
          obtain ⟨g1, g2, g3⟩ := hg hbg
          rw [hbw] at hol g1 hle
          refine ⟨olds, by rw [hol, hn], hor, fun r hr' => ?_, .inr ⟨_, _, arr, e1, by rw [← hbe]; exact hh, hc, g3, g1, ?_⟩, fun A n1 c1 e2 => by rw [e1] at e2; cases e2; exact ⟨hnil, rfl, rfl⟩⟩
          · obtain ⟨q, hq⟩ := List.mem_iff_getElem?.1 hr'
            rw [← hbw]; exact (RelR_get _ hr q r hq).1
          · apply List.ext_getElem?
            intro q
            rw [List.getElem?_take]
            by_cases hq : q < n * j.size
            · rw [if_pos hq]
              have hq2 : q < olds.length := by rw [hol, ← hn]; exact hq
              have := hoc q olds[q] (List.getElem?_eq_getElem hq2)
              rw [Blk.cx_w, cell_of_row c.w _ _ arr b.elem (0, 0) hh] at this
              rw [List.getElem?_eq_getElem hq2]
              simpa using this
            · rw [if_neg hq, List.getElem?_eq_none (by rw [hol, ← hn]; omega)]
    obtain ⟨olds, hol, hor, hbrw, hvx, hEk⟩ := key
    obtain ⟨v', w', hrun, hres⟩ := run_app (P := G.P) c.w t o.type e I z j.size j.bytes hd hI hz hIs hIb hzs (a.eval x) n olds hol hvx A news.length cy vs hvl hcell (fun u hu => RelL_one _ hvr u hu) h63 hby
    -- the cells of both
    have hrows : ∀ (c' : Cx) (bb off : Nat), c.Le (fun _ => false) c' → (∀ q u, (olds ++ vs)[q]? = some u → c'.w.cell? ⟨bb, off + q, none⟩ = some u) → RelR (b.rows ++ news) c'.shut j.size bb off := by
      intro c' bb off hle hc
      refine RelR_of_vals _ (vs := olds ++ vs) (fun r hr => ?_) ?_ hc
      · rcases List.mem_append.1 hr with h | h
        · exact hbrw r h
        · exact hvw r h
      · rw [List.flatten_append]
        refine RelL_append _ (RelL.le _ (allL_true _) hle.shut ?_) (RelL.le _ (allL_true _) hle.shut ?_)
        · simpa [Blk.cx, hbc] using hor
        · simpa using hvr
    have hcells : ∀ (w : World) (g : Nat) (arr : Array Value), w.heap[g]? = some (.cells arr e (0, 0)) → arr.toList.take ((n + news.length) * j.size) = olds ++ vs → ∀ q u, (olds ++ vs)[q]? = some u → w.cell? ⟨g, 0 + q, none⟩ = some u := by
      intro w g arr hg htk q u hq
      rw [cell_of_row w g _ arr e (0, 0) hg]
      rw [← htk, List.getElem?_take] at hq
      split at hq
      · simpa using hq
      · cases hq
    have hlen2 : (b.rows ++ news).length = n + news.length := by rw [List.length_append, ← hn]
    have hmk : memB k [k] = true := by simp [memB]
    have fin : ∀ (l : Loc) (row : Option Nat), c.w.grownBy w' row → (∀ q, row = some q → (c.E k).nil = false ∧ (c.E k).b = q) → (l.nil = false → c.w.heap.size ≤ l.b ∨ (c.E k).nil = false ∧ (c.E k).b = l.b) → l.wd = j.size →
        (l.nil = true ∧ b.rows ++ news = [] ∨ l.nil = false ∧ ∃ arr : Array Value, w'.heap[l.b]? = some (.cells arr e (0, 0)) ∧ arr.toList.take ((n + news.length) * j.size) = olds ++ vs ∧ (n + news.length) * j.size ≤ arr.size ∧ l.cap * j.size ≤ arr.size ∧ n + news.length ≤ l.cap ∧ l.cap ≤ maxLen) →
        (l.nil = true ∧ v' = .slice none 0 0 ∧ n + news.length = 0 ∨ l.nil = false ∧ v' = .slice (some ⟨l.b, 0, none⟩) (n + news.length) l.cap ∧ n + news.length ≤ l.cap) → o.wpIn F n' G.P a c.w next Q := by
      intro l row hgrow hrow hlf hlw hblk hvl'
      have hb0 : BlkRel ({ c with D := fun q => c.D q ∧ memB q [k] = false, w := w' }.put hp.length l w') hp.length ⟨e, j.size, true, true, b.rows ++ news⟩ := by
        unfold BlkRel
        rw [putE]
        refine ⟨hlw, ?_⟩
        rcases hblk with ⟨h1, h2⟩ | ⟨h1, arr, h2, h3, h4, h5, h6, h7⟩
        · exact ⟨fun _ => .inl ⟨rfl, h2⟩, fun h => by rw [h1] at h; cases h⟩
        · refine ⟨(fun h => by rw [h1] at h; cases h), fun _ => ⟨arr, h2, ?_, by rw [hlen2]; exact h4, fun _ => ⟨h5, by rw [hlen2]; exact h6, h7⟩⟩⟩
          refine hrows _ _ _ ?_ ?_
          · exact ⟨fun _ hp => (by cases hp), fun _ h => h, fun _ _ h => h, fun x hx => hgrow.block x (hInv.xlt x hx) (fun eq => by
              obtain ⟨g1, g2⟩ := hrow x eq.symm
              exact hInv.xsep k x hD g1 hx g2)⟩
          · exact hcells w' l.b arr h2 h3
      have post := app_post hInv hgrow (fun q hq => ⟨k, hD, hmk, hrow q hq⟩) (fun h1 => (hlf h1).imp id (fun h2 => ⟨k, hD, hmk, h2⟩)) hb0 rfl
      refine Oper.wpIn_value hF (by rw [ho]; simp) (v := v') (w' := w') ?_ (hnext v' _ post ?_)
      · rw [hexec a, ey]; simp [hrun]
      · simp only [Rel, putE]
        exact ⟨.inr rfl, hvl'⟩
    rcases hres with ⟨e1, hm0, rfl, rfl⟩ | ⟨g, cap, cur, e1, hg, hroom, rfl, arr, rfl, has, hat⟩ | ⟨cap, hcap, hcm, rfl, arr, rfl, has, hat⟩
    · have hn0 : n = 0 := by
        rcases hv with ⟨_, _, h0⟩ | ⟨_, e2, _⟩
        · exact h0
        · rw [e1] at e2; cases e2
      have hbr : b.rows = [] := List.eq_nil_of_length_eq_zero (by omega)
      have hnr : news = [] := List.eq_nil_of_length_eq_zero hm0
      exact fin ⟨0, 0, true, j.size⟩ none ⟨rfl, rfl, rfl, Nat.le_refl _, fun _ _ _ => rfl⟩ (by simp) (by simp) rfl (.inl ⟨rfl, by simp [hbr, hnr]⟩) (.inl ⟨rfl, rfl, by omega⟩)
    · obtain ⟨g1, g2, g3⟩ := hEk ⟨g, 0, none⟩ n cap e1
      have hcs : cap * j.size ≤ cur.size ∧ cap ≤ maxLen := by
        rcases hvx with ⟨e2, _⟩ | ⟨g', cap', cur', e2, hg', _, hc', hs', _⟩
        · rw [e1] at e2; cases e2
        · rw [e1] at e2
          cases e2
          rw [hg] at hg'
          cases hg'
          exact ⟨hs', hc'⟩
      have hle2 : (n + news.length) * j.size ≤ cap * j.size := Nat.mul_le_mul_right _ hroom
      exact fin ⟨g, cap, false, j.size⟩ (some g) ⟨rfl, rfl, rfl, by simp [World.setRow], fun q _ hq => setRow_other c.w g q arr (fun e => hq (by rw [e]))⟩ (fun q hq => by cases hq; exact ⟨g1, g2⟩) (fun _ => .inr ⟨g1, g2⟩) rfl
        (.inr ⟨rfl, arr, setRow_heap c.w g cur arr e _ hg, hat, by omega, (by show cap * j.size ≤ arr.size; omega), hroom, hcs.2⟩) (.inr ⟨rfl, rfl, hroom⟩)
    · have hle2 : (n + news.length) * j.size ≤ cap * j.size := Nat.mul_le_mul_right _ hcap
      exact fin ⟨c.w.heap.size, cap, false, j.size⟩ none ⟨rfl, rfl, rfl, by simp, fun q hq _ => (WGrow.alloc c.w.drew (.cells arr e)).block q hq⟩ (by simp) (fun _ => .inl (Nat.le_refl _)) rfl
        (.inr ⟨rfl, arr, heap_alloc_new c.w.drew _, hat, by omega, (by show cap * j.size ≤ arr.size; omega), hcap, hcm⟩) (.inr ⟨rfl, rfl, hcap⟩)
  · -- nil
    rename_i hx
    obtain ⟨⟨hby, h63, rfl⟩, h⟩ := h
    have h := h.go
    refine ⟨_, _, _, h, ?_⟩
    intro F n' w0 M c a next Q hF hInv ha hnext
    have rx := opnd_rel ha hx0 hx
    simp only [Rel] at rx
    obtain ⟨A, cy, vs, ey, hvl, hvr, hvw, hcell⟩ := (hsrc w0 M c _ hInv (ha y hy0)).vals (.inr trivial)
    obtain ⟨v', w', hrun, hres⟩ := run_app (P := G.P) c.w t o.type e I z j.size j.bytes hd hI hz hIs hIb hzs (a.eval x) 0 [] (by simp) (.inl ⟨rx, rfl⟩) A news.length cy vs hvl hcell (fun u hu => RelL_one _ hvr u hu) (by omega) (by simpa using hby)
    simp only [Nat.zero_add, List.nil_append] at hres
    have fin : ∀ (l : Loc), c.w.grownBy w' none → (l.nil = false → c.w.heap.size ≤ l.b) → l.wd = j.size →
        (l.nil = true ∧ news = [] ∨ l.nil = false ∧ ∃ arr : Array Value, w'.heap[l.b]? = some (.cells arr e (0, 0)) ∧ arr.toList.take (news.length * j.size) = vs ∧ news.length * j.size ≤ arr.size ∧ l.cap * j.size ≤ arr.size ∧ news.length ≤ l.cap ∧ l.cap ≤ maxLen) →
        (l.nil = true ∧ v' = .slice none 0 0 ∧ news.length = 0 ∨ l.nil = false ∧ v' = .slice (some ⟨l.b, 0, none⟩) news.length l.cap ∧ news.length ≤ l.cap) → o.wpIn F n' G.P a c.w next Q := by
      intro l hgrow hlf hlw hblk hvl'
      have hb0 : BlkRel ({ c with D := fun q => c.D q ∧ memB q [] = false, w := w' }.put hp.length l w') hp.length ⟨e, j.size, true, true, news⟩ := by
        unfold BlkRel
        rw [putE]
        refine ⟨hlw, ?_⟩
        rcases hblk with ⟨h1, h2⟩ | ⟨h1, arr, h2, h3, h4, h5, h6, h7⟩
        · exact ⟨fun _ => .inl ⟨rfl, h2⟩, fun h => by rw [h1] at h; cases h⟩
        · refine ⟨(fun h => by rw [h1] at h; cases h), fun _ => ⟨arr, h2, ?_, h4, fun _ => ⟨h5, h6, h7⟩⟩⟩
          refine RelR_of_vals _ (vs := vs) hvw ?_ fun q u hq => ?_
          · have hle : c.Le (fun _ => false) ({ c with D := fun q => c.D q ∧ memB q [] = false, w := w' }.put hp.length l w') := ⟨fun _ hp => (by cases hp), fun _ h => h, fun _ _ h => h, fun x hx => hgrow.block x (hInv.xlt x hx) (by simp)⟩
            exact RelL.le _ (allL_true _) hle.shut (by simpa using hvr)
          · show w'.cell? _ = _
            rw [cell_of_row w' l.b _ arr e (0, 0) h2]
            rw [← h3, List.getElem?_take] at hq
            split at hq
            · simpa using hq
            · cases hq
      have post := app_post hInv (kl := []) hgrow (fun q hq => by cases hq) (fun h1 => .inl (hlf h1)) hb0 rfl
      refine Oper.wpIn_value hF (by rw [ho]; simp) (v := v') (w' := w') ?_ (hnext v' _ post ?_)
      · rw [hexec a, ey]; simp [hrun]
      · simp only [Rel, putE]
        exact ⟨.inr rfl, hvl'⟩
    rcases hres with ⟨e1, hm0, rfl, rfl⟩ | ⟨g, cap, cur, e1, _⟩ | ⟨cap, hcap, hcm, rfl, arr, rfl, has, hat⟩
    · have hnr : news = [] := List.eq_nil_of_length_eq_zero hm0
      exact fin ⟨0, 0, true, j.size⟩ ⟨rfl, rfl, rfl, Nat.le_refl _, fun _ _ _ => rfl⟩ (by simp) rfl (.inl ⟨rfl, hnr⟩) (.inl ⟨rfl, rfl, hm0⟩)
    · rw [rx] at e1; cases e1
    · have hle2 : news.length * j.size ≤ cap * j.size := Nat.mul_le_mul_right _ hcap
      exact fin ⟨c.w.heap.size, cap, false, j.size⟩ ⟨rfl, rfl, rfl, by simp, fun q hq _ => (WGrow.alloc c.w.drew (.cells arr e)).block q hq⟩ (fun _ => Nat.le_refl _) rfl
        (.inr ⟨rfl, arr, heap_alloc_new c.w.drew _, hat, by omega, (by show cap * j.size ≤ arr.size; omega), hcap, hcm⟩) (.inr ⟨rfl, rfl, hcap⟩)
  · exact h.elim

/-- The first rows of a block, cut off from what lies behind: the block under another name. -/
def cut3V (G : Gm) (tm : List Sv) (hp : Hp) (t k : Nat) (hi mx : Operand) (K : Sv → Blk → List Nat → Prop) : Prop :=
  Get (G.tab t) fun i => match i.kind with
    | .slice e => Get (G.tab e) fun j => Get (hpGet hp k) fun b => Need (b.wd = j.size ∧ b.elem = e ∧ b.grow = true ∧ b.clean = true) <| bd tm (some hi) 0 fun h => bd tm (some mx) 0 fun m => Need (0 ≤ h ∧ h ≤ m ∧ m ≤ (b.rows.length : Int)) <|
        EqK h.toNat fun h' => rowsOf b fun rows => EqK (rows.take h') fun rows' => K (.own hp.length h') ⟨e, j.size, true, true, rows'⟩ [k]
    | _ => False
theorem cut3V_sound {t k n : Nat} {x hi mx : Operand} {K : Sv → Blk → List Nat → Prop} (ho : o.op = .slice t x none (some hi) (some mx)) (hx : evO tm x = .own k n) (h : cut3V G tm hp t k hi mx K) : ∃ s b kl, K s b kl ∧ EStep G.P o tm hp s [b] kl := by
  obtain ⟨i, hi', h⟩ := h
  have ht := G.ok t i hi'
  split at h
  case h_2 => exact h.elim
  rename_i e hk
  obtain ⟨j, hj, b, hb, ⟨hw, hel, hgr, hcl⟩, h⟩ := h
  have hje := G.ok e j hj
  obtain ⟨q, h, hq⟩ := bd_spec h
  obtain ⟨m, h, hm⟩ := bd_spec h
  obtain ⟨⟨h0, h1, h2⟩, h⟩ := h
  have h := h.go
  rw [rowsOf_eq] at h
  have h := h.go
  refine ⟨_, _, _, h, ?_⟩
  intro F n' w0 M c a next Q hF hInv ha hnext
  have rx := opnd_rel ha (x := x) (by rw [ho]; simp [Op.operands]) hx
  simp only [Rel] at rx
  obtain ⟨hD, hv⟩ := rx
  obtain ⟨b', hb', hwd, hrel⟩ := hInv.dom k hD
  rw [hpGet_eq] at hb
  rw [hb] at hb'
  cases hb'
  have val : ∀ (y : Operand) (z : Int), y ∈ o.op.operands → (some y = none ∧ z = 0 ∨ ∃ w k, some y = some w ∧ evO tm w = .val (.int k z)) → ∃ k, a.eval y = .int k z := by
    rintro y z hy (⟨h, _⟩ | ⟨w, kk, h, hw⟩)
    · cases h
    · cases h
      have := opnd_rel ha hy hw
      simp only [Rel] at this
      exact ⟨kk, this⟩
  obtain ⟨kh, eh⟩ := val hi q (by rw [ho]; simp [Op.operands]) hq
  obtain ⟨km, em⟩ := val mx m (by rw [ho]; simp [Op.operands]) hm
  have hlen : (b.rows.take q.toNat).length = q.toNat := by rw [List.length_take]; omega
  have hmk : memB k [k] = true := by simp [memB]
  have fin : ∀ (l : Loc) (v' : Value), (execOp a.eval o).run G.P c.w = .ok (.value v') c.w → (l.nil = false → (c.E k).nil = false ∧ (c.E k).b = l.b) → l.wd = j.size →
      (l.nil = true ∧ b.rows.take q.toNat = [] ∨ l.nil = false ∧ l.cap = m.toNat) →
      (l.nil = true ∧ v' = .slice none 0 0 ∧ q.toNat = 0 ∨ l.nil = false ∧ v' = .slice (some ⟨l.b, 0, none⟩) q.toNat l.cap) → o.wpIn F n' G.P a c.w next Q := by
    intro l v' hrun hlf hlw hblk hvl
    have hle0 : c.shut.Le (fun _ => true) (Cx.put { c with D := fun q => c.D q ∧ memB q [k] = false, w := c.w } hp.length l c.w).shut := ⟨fun _ _ h => h.elim, fun _ h => h, fun _ _ h => h, fun _ _ => rfl⟩
    have hb0 : BlkRel ({ c with D := fun q => c.D q ∧ memB q [k] = false, w := c.w }.put hp.length l c.w) hp.length ⟨e, j.size, true, true, b.rows.take q.toNat⟩ := by
      unfold BlkRel
      rw [putE]
      refine ⟨hlw, ?_⟩
      rcases hblk with ⟨e1, e2⟩ | ⟨e1, e2⟩
      · exact ⟨fun _ => .inl ⟨rfl, e2⟩, fun h => by rw [e1] at h; cases h⟩
      · refine ⟨(fun h => by rw [e1] at h; cases h), fun _ => ?_⟩
        obtain ⟨g1, g2⟩ := hlf e1
        obtain ⟨arr, hh, hr, hle, hg⟩ := hrel.2 g1
        obtain ⟨f1, f2, f3⟩ := hg hgr
        refine ⟨arr, by rw [← g2, ← hel]; exact hh, ?_, ?_, fun _ => ⟨?_, ?_, ?_⟩⟩
        · have hr' := RelR_take hr q.toNat
          simp only [Blk.cx, hcl, if_true] at hr' ⊢
          rw [← g2, ← hw]
          exact RelR.le _ (allR_true _) hle0 rfl hr'
        · rw [hlen, ← hw]
          exact Nat.le_trans (Nat.mul_le_mul_right _ (by omega)) hle
        · rw [e2, ← hw]
          exact Nat.le_trans (Nat.mul_le_mul_right _ (by omega)) f1
        · rw [hlen, e2]; omega
        · rw [e2]; omega
    have post := app_post (w' := c.w) (row := none) hInv ⟨rfl, rfl, rfl, Nat.le_refl _, fun _ _ _ => rfl⟩ (fun q hq => by cases hq) (fun e1 => .inr ⟨k, hD, hmk, hlf e1⟩) hb0 rfl
    refine Oper.wpIn_value hF (by rw [ho]; simp) hrun (hnext v' (Cx.put { c with D := fun q => c.D q ∧ memB q [k] = false, w := c.w } hp.length l c.w) post ?_)
    simp only [Rel, putE]
    refine ⟨.inr rfl, ?_⟩
    rcases hvl with ⟨e1, e2, e3⟩ | ⟨e1, e2⟩
    · exact .inl ⟨e1, e2, e3⟩
    · refine .inr ⟨e1, e2, ?_⟩
      rcases hblk with ⟨g, _⟩ | ⟨_, g⟩
      · rw [e1] at g; cases g
      · rw [g]; omega
  have hrunv : ∀ (A : Option Addr) (cap : Nat), a.eval x = .slice A n cap → n ≤ cap → m ≤ (cap : Int) → (A = none ∨ ∃ g, A = some ⟨g, 0, none⟩) → (execOp a.eval o).run G.P c.w = .ok (.value (.slice A q.toNat m.toNat)) c.w := by
    intro A cap hv hnc hmc hA
    obtain ⟨d, hd, hf⟩ := ht.desc
    rw [hk] at hf
    simp only [TK.fits] at hf
    subst hf
    have hA' : A.map (·.add 0) = A := by rcases hA with rfl | ⟨g, rfl⟩ <;> simp [Addr.add_lit]
    have e1 : (Instr.sliceBounds true n cap none (some (.int kh q)) (some (.int km m))).run G.P c.w = .ok (0, q.toNat, m.toNat) c.w := by
      simp [Instr.sliceBounds, run_sliceBound km m cap _ (by omega) (by omega), run_sliceBound kh q m.toNat _ (by omega) (by omega)]
    simp [execOp, ho, hv, eh, em, Instr.sliceAt, Instr.slice, run_underlying hd, e1, hje.run_sizeOf, hA']
  rcases hv with ⟨hnil, ev, hn0⟩ | ⟨hnil, ev, hnc⟩
  · have hrows : b.rows = [] := by
      rcases hrel.1 hnil with ⟨_, g⟩ | ⟨g, _⟩
      · exact g
      · rw [hgr] at g; cases g
    rw [hrows] at h2
    simp only [List.length_nil] at h2
    have hq0 : q.toNat = 0 := by omega
    have hm0 : m.toNat = 0 := by omega
    have := hrunv none 0 (by rw [ev, hn0]) (by omega) (by omega) (.inl rfl)
    rw [hq0, hm0] at this
    exact fin ⟨0, 0, true, j.size⟩ _ this (fun h => by cases h) rfl (.inl ⟨rfl, by rw [hrows]; simp⟩) (.inl ⟨rfl, rfl, hq0⟩)
  · obtain ⟨arr, hh, hr, hle, hg⟩ := hrel.2 hnil
    have hcap := (hg hgr).2.1
    have := hrunv (some ⟨(c.E k).b, 0, none⟩) (c.E k).cap ev hnc (by omega) (.inr ⟨_, rfl⟩)
    exact fin ⟨(c.E k).b, m.toNat, false, j.size⟩ _ this (fun _ => ⟨hnil, rfl⟩) rfl (.inr ⟨rfl, rfl⟩) (.inr ⟨rfl, rfl⟩)
end
end Go.Eng
