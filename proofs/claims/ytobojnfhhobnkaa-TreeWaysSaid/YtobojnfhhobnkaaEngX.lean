/- The engine, part X: rows written in place: append into what is there, clear, copy. -/
import Derived.Test.YtobojnfhhobnkaaEngG
set_option linter.unusedSimpArgs false
set_option maxRecDepth 20000
set_option linter.unusedVariables false
namespace Go.Eng
open Go Go.RowKit

theorem putL_flatten {wd : Nat} : ∀ (rows : List (List Sv)) (lo : Nat) (news : List (List Sv)), (∀ r ∈ rows, r.length = wd) → (∀ r ∈ news, r.length = wd) → lo + news.length ≤ rows.length →
    (putL rows lo news).flatten = putL rows.flatten (lo * wd) news.flatten := by
  intro rows lo news hr hn hl
  have ht : ∀ (rows : List (List Sv)) (n : Nat), (∀ r ∈ rows, r.length = wd) → (rows.take n).flatten = rows.flatten.take (n * wd) ∧ (rows.drop n).flatten = rows.flatten.drop (n * wd) := by
    intro rows
    induction rows with
    | nil => intro n _; simp
    | cons q qs ih =>
      intro n h
      have hq := h q (by simp)
      cases n with
      | zero => simp
      | succ n =>
        obtain ⟨i1, i2⟩ := ih n (fun r hr => h r (by simp [hr]))
        have e : (n + 1) * wd = q.length + n * wd := by rw [hq, Nat.add_mul]; omega
        simp only [List.take_succ_cons, List.drop_succ_cons, List.flatten_cons]
        rw [i1, i2, e, List.take_append, List.drop_append, List.take_of_length_le (show q.length ≤ q.length + n * wd by omega), List.drop_eq_nil_of_le (show q.length ≤ q.length + n * wd by omega), Nat.add_sub_cancel_left]
        exact ⟨rfl, by simp⟩
  have hnl := flatten_len news hn
  unfold putL
  rw [List.flatten_append, List.flatten_append, (ht rows lo hr).1, (ht rows _ hr).2, hnl, Nat.add_mul]

/-- Whole rows of a block, written anew: the world and what is known behind it. -/
theorem Inv.storeRows {w0 : World} {M : Frm} {c : Cx} {hp : Hp} (hI : Inv w0 M c hp) {k lo : Nat} {b : Blk} {news : List (List Sv)} {vs : List Value} (hD : c.D k) (hn : (c.E k).nil = false) (hb : hp[k]? = some (some b))
    (hcl : b.clean = true) (hw : ∀ r ∈ news, r.length = b.wd) (hxs : RelL news.flatten c.shut vs) (hfit : lo + news.length ≤ b.rows.length) (P : Program) :
    ∃ arr arr' : Array Value, c.w.heap[(c.E k).b]? = some (.cells arr b.elem (0, 0)) ∧ (arr.toList.take (lo * b.wd) ++ vs ++ arr.toList.drop (lo * b.wd + vs.length)).toArray = arr' ∧ (storeCells ⟨(c.E k).b, lo * (c.E k).wd, none⟩ vs).run P c.w = .ok () (c.w.setRow (c.E k).b arr') ∧
      Inv w0 M { c with w := c.w.setRow (c.E k).b arr' } (hp.set k (some { b with rows := putL b.rows lo news })) ∧ c.Le (fun _ => true) { c with w := c.w.setRow (c.E k).b arr' } := by
  obtain ⟨b', hb', hwd, hrel⟩ := hI.dom k hD
  rw [hb] at hb'
  cases hb'
  obtain ⟨arr, hh, hrr, hlen, hgrow⟩ := hrel.2 hn
  have hvl := RelL_len _ hxs
  rw [flatten_len news hw] at hvl
  have hbd : (lo + news.length) * b.wd ≤ b.rows.length * b.wd := Nat.mul_le_mul_right _ hfit
  rw [Nat.add_mul] at hbd
  have hfit2 : lo * b.wd + 0 + vs.length ≤ arr.size := by omega
  have hst := run_storeCells_at P (c.E k).b (lo * b.wd) b.elem vs 0 arr c.w hh hfit2 (RelL_one _ hxs)
  rw [hwd]
  simp only [Nat.add_zero] at hst
  refine ⟨arr, _, hh, rfl, hst, ?_⟩
  generalize hA : (arr.toList.take (lo * b.wd) ++ vs ++ arr.toList.drop (lo * b.wd + vs.length)).toArray = arr'
  have hsz : arr'.size = arr.size := by
    rw [← hA]
    simp
    omega
  have harr : ∀ q : Nat, arr'[q]? = (putL arr.toList (lo * b.wd) vs)[q]? := by
    intro q
    rw [← hA]
    unfold putL
    simp [List.append_assoc]
  have hg : c.w.grownBy (c.w.setRow (c.E k).b arr') (some (c.E k).b) := ⟨rfl, rfl, rfl, by simp [World.setRow], fun q _ hq => setRow_other c.w (c.E k).b q arr' (fun e => hq (by rw [e]))⟩
  have hhead : (c.w.setRow (c.E k).b arr').heap[(c.E k).b]? = some (.cells arr' b.elem (0, 0)) := setRow_heap c.w (c.E k).b arr arr' b.elem _ hh
  have hx : ∀ q, c.X q → (c.w.setRow (c.E k).b arr').heap[q]? = c.w.heap[q]? := fun q hq => hg.block q (hI.xlt q hq) (fun e => by cases e; exact hI.xsep k _ hD hn hq rfl)
  have hle : c.Le (fun _ => true) { c with w := c.w.setRow (c.E k).b arr' } := ⟨fun _ _ h => ⟨h, rfl⟩, fun _ h => h, fun _ _ h => h, hx⟩
  refine ⟨?_, hle⟩
  have hputl : (putL b.rows lo news).length = b.rows.length := putL_length _ _ _ hfit
  have hself : BlkRel { c with w := c.w.setRow (c.E k).b arr' } k { b with rows := putL b.rows lo news } := by
    unfold BlkRel
    refine ⟨hwd, (fun h => by rw [show (c.E k).nil = true from h] at hn; cases hn), fun _ => ⟨arr', hhead, ?_, by simp only [hputl]; rw [hsz]; exact hlen, fun h => by simp only [hputl]; rw [hsz]; exact hgrow h⟩⟩
    obtain ⟨olds, hol, hor, hoc⟩ := RelR_vals _ hrr
    have hrws : ∀ q ∈ b.rows, q.length = b.wd := fun q hq => by
      obtain ⟨i, hi⟩ := List.mem_iff_getElem?.1 hq
      exact (RelR_get _ hrr i q hi).1
    simp only [Blk.cx, hcl, if_true] at hor hoc ⊢
    refine RelR_of_vals _ (vs := putL olds (lo * b.wd) vs) (fun r hr => ?_) ?_ fun j u hj => ?_
    · unfold putL at hr
      rcases List.mem_append.1 hr with h | h
      · exact hrws r (List.mem_of_mem_take h)
      · rcases List.mem_append.1 h with h | h
        · exact hw r h
        · exact hrws r (List.mem_of_mem_drop h)
    · rw [putL_flatten b.rows lo news hrws hw hfit]
      exact RelL.le _ (allL_true _) hle.shut (RelL_put hor hxs _)
    · show (c.w.setRow (c.E k).b arr').cell? ⟨(c.E k).b, 0 + j, none⟩ = some u
      rw [cell_of_row _ _ _ arr' b.elem (0, 0) hhead, harr]
      have hcell : ∀ q u, olds[q]? = some u → arr.toList[q]? = some u := fun q u hq => by
        have := hoc q u hq
        rw [show c.shut.w = c.w from rfl, cell_of_row c.w _ _ arr b.elem (0, 0) hh] at this
        rw [Array.getElem?_toList]
        simpa using this
      rw [putL_get _ _ _ (by rw [hol, hvl]; omega)] at hj
      rw [Nat.zero_add, putL_get _ _ _ (by simp; omega)]
      split at hj
      · rename_i h; rw [if_pos h]; exact hcell j u hj
      · rename_i h
        rw [if_neg h]
        split at hj
        · rename_i h2; rw [if_pos h2]; exact hj
        · rename_i h2; rw [if_neg h2]; exact hcell j u hj
  exact {
    dom := fun q hq => by
      by_cases hqk : q = k
      · subst hqk
        exact ⟨_, by rw [List.getElem?_set_self (List.getElem?_eq_some_iff.1 hb).1], hself⟩
      · obtain ⟨bq, eq, rq⟩ := hI.dom q hq
        refine ⟨bq, by rw [List.getElem?_set_ne (fun e => hqk e.symm)]; exact eq, rq.le hle rfl (fun hnq => hg.block _ (rq.lt hnq) (fun e => ?_)) (fun _ => allR_true _)⟩
        injection e with e
        exact hI.inj q k hq hD hqk hnq hn e
    inj := hI.inj
    xsep := hI.xsep
    xlt := fun q hq => by simpa [World.setRow] using hI.xlt q hq
    xY := hI.xY
    bnd := hI.bnd
    bndG := hI.bndG
    e0 := hI.e0
    mlen := by rw [List.length_set]; exact hI.mlen
    os := hI.os
    tape := hI.tape
    output := hI.output
    size := by simpa [World.setRow] using hI.size
    keep := fun j hj hm hy => by
      have hjn : j ≠ (c.E k).b := fun e => by
        rcases hI.loc k hD hn with h1 | h1
        · exact hm (e ▸ h1)
        · omega
      exact (setRow_other c.w (c.E k).b j arr' hjn).trans (hI.keep j hj hm hy)
    loc := hI.loc
    x0 := hI.x0
    zc := hI.zc
    z0 := hI.z0
    xk := hI.xk
    ca := hI.ca
    cc := fun q hq => ⟨Nat.lt_of_lt_of_le (hI.cc q hq).1 hg.size, (hI.cc q hq).2⟩
    gh := fun q blk hq hbq hnq hgr => by
      have hqk : q ≠ k := fun e => by subst e; rw [show (c.E q).nil = true from hnq] at hn; cases hn
      rw [List.getElem?_set_ne (fun e => hqk e.symm)] at hbq
      exact hI.ghs ⟨hg.os, hg.tape, hg.output, hg.size, fun z hz => hg.block z (hI.cc z hz).1 (fun e => by cases e; exact (hI.cc _ hz).2.1 k hD hn rfl)⟩ hq hbq hnq hgr }

/-- Where rows are written: block, first row, how many. -/
def dstV (hp : Hp) (x : Sv) (wd : Nat) (K : Nat → Blk → Nat → Nat → Prop) : Prop :=
  match x with
  | .own k n => Get (hpGet hp k) fun b => Need (b.wd = wd ∧ n ≤ b.rows.length ∧ b.clean = true) (K k b 0 n)
  | .sls k lo n => Get (hpGet hp k) fun b => Need (b.wd = wd ∧ lo + n ≤ b.rows.length ∧ b.clean = true) (K k b lo n)
  | _ => False
/-- The block with other rows. -/
def setB (hp : Hp) (k : Nat) (b : Blk) (rows' : List (List Sv)) (K : Hp → Prop) : Prop :=
  match b with
  | ⟨e, wd, cl, gr, _⟩ => spineK (hp.set k (some ⟨e, wd, cl, gr, rows'⟩)) K
theorem setB_eq (hp : Hp) (k : Nat) (b : Blk) (rows' : List (List Sv)) (K : Hp → Prop) : setB hp k b rows' K = K (hp.set k (some { b with rows := rows' })) := by cases b; simp only [setB, spineK_eq]
def clearV (G : Gm) (hp : Hp) (t : Nat) (x : Sv) (K : Sv → Hp → Prop) : Prop :=
  Get (G.tab t) fun i => match i.kind with
    | .slice e => Get (G.tab e) fun j => Need (j.zero.length = j.size ∧ j.size ≠ 0 ∧ j.zero.all Value.oneCell' = true) <| dstV hp x j.size fun k b lo n =>
        rowsOf b fun rows => EqK (putL rows lo (List.replicate n (j.zero.map .val))) fun rows' => setB hp k b rows' fun hp' => K (.tup []) hp'
    | _ => False
def copyV (G : Gm) (hp : Hp) (t : Nat) (x y : Sv) (K : Sv → Hp → Prop) : Prop :=
  Get (G.tab t) fun i => match i.kind with
    | .slice e => Get (G.tab e) fun j => srcV hp y j.size fun news cl => Need (cl = true) <| dstV hp x j.size fun k b lo n => EqK (min news.length n) fun m =>
        rowsOf b fun rows => EqK (putL rows lo (news.take m)) fun rows' => setB hp k b rows' fun hp' => K (.val (.int .i64 (m : Int))) hp'
    | _ => False
def appPV (G : Gm) (hp : Hp) (t : Nat) (x y : Sv) (K : Sv → Hp → Prop) : Prop :=
  Get (G.tab t) fun i => match i.kind with
    | .slice e => Get (G.tab e) fun j => srcV hp y j.size fun news cl => match x with
      | .own k n => Get (hpGet hp k) fun b => Need (b.wd = j.size ∧ b.elem = e ∧ b.grow = true ∧ n + news.length ≤ b.rows.length ∧ b.clean = true ∧ cl = true) <| EqK (n + news.length) fun n' =>
          rowsOf b fun rows => EqK (putL rows n news) fun rows' => setB hp k b rows' fun hp' => K (.own k n') hp'
      | _ => False
    | _ => False

section
variable {G : Gm} {tm : List Sv} {hp : Hp} {o : Oper}

/-- An operation that writes rows of a block. -/
theorem sstep_rows {s : Sv} {k lo : Nat} {b : Blk} {news : List (List Sv)} (hb : hpGet hp k = some b) (hnd : ∀ c, o.op ≠ .defer c)
    (h : ∀ (w0 : World) (M : Frm) (c : Cx) (a : Act), Inv w0 M c hp → c.D k → (∀ x ∈ o.op.operands, Rel (evO tm x) c (a.eval x)) → ∃ v, (∀ c', c.Le (fun _ => true) c' → Rel s c' v) ∧
      ((execOp a.eval o).run G.P c.w = .ok (.value v) c.w ∧ putL b.rows lo news = b.rows ∨
       b.clean = true ∧ (c.E k).nil = false ∧ ∃ vs, (∀ r ∈ news, r.length = b.wd) ∧ RelL news.flatten c.shut vs ∧ lo + news.length ≤ b.rows.length ∧
         ∀ arr arr' : Array Value, c.w.heap[(c.E k).b]? = some (.cells arr b.elem (0, 0)) → (arr.toList.take (lo * b.wd) ++ vs ++ arr.toList.drop (lo * b.wd + vs.length)).toArray = arr' → (storeCells ⟨(c.E k).b, lo * (c.E k).wd, none⟩ vs).run G.P c.w = .ok () (c.w.setRow (c.E k).b arr') →
           (execOp a.eval o).run G.P c.w = .ok (.value v) (c.w.setRow (c.E k).b arr'))) :
    SStep G.P o tm hp (setT tm o.dst s) (hp.set k (some { b with rows := putL b.rows lo news })) := by
  intro F n w0 M c a ds next Q hF hS hn
  have hb' := hpGet_eq.1 hb
  have hD := hS.full k b hb'
  obtain ⟨v, hrel, hr⟩ := h w0 M c a hS.inv hD (fun x _ => hS.opnd x)
  have fin : ∀ w' : World, (execOp a.eval o).run G.P c.w = .ok (.value v) w' → Inv w0 M { c with w := w' } (hp.set k (some { b with rows := putL b.rows lo news })) → c.Le (fun _ => true) { c with w := w' } → (∀ z, c.C z → w'.heap[z]? = c.w.heap[z]?) → o.wpIn F n G.P a c.w next Q := by
    intro w' hrun hI' hle hcs
    refine Oper.wpIn_value hF hnd hrun ?_
    have := (hS.le (kl := []) (c' := { c with w := w' }) (by rw [notNil]; exact hle) hI' ⟨rfl, rfl, rfl, hcs⟩ fun q bq hq => by
      by_cases hqk : q = k
      · subst hqk; exact hD
      · rw [List.getElem?_set_ne (fun e => hqk e.symm)] at hq
        exact hS.full q bq hq)
    exact hn _ { c with w := w' } (this.put o.dst (hrel _ hle))
  rcases hr with ⟨hrun, hsame⟩ | ⟨hcl, hnil, vs, hw, hvs, hfit, hrun⟩
  · have e : hp.set k (some { b with rows := putL b.rows lo news }) = hp := by
      rw [hsame]
      apply List.ext_getElem?
      intro q
      by_cases hqk : q = k
      · subst hqk
        rw [List.getElem?_set_self (List.getElem?_eq_some_iff.1 hb').1, hb']
      · rw [List.getElem?_set_ne (fun e => hqk e.symm)]
    rw [e] at fin
    exact fin c.w hrun hS.inv ⟨fun _ _ h => ⟨h, rfl⟩, fun _ h => h, fun _ _ h => h, fun _ _ => rfl⟩ (fun _ _ => rfl)
  · obtain ⟨arr, arr', h1, h2, h3, h4, h5⟩ := hS.inv.storeRows hD hnil hb' hcl hw hvs hfit G.P
    exact fin _ (hrun arr arr' h1 h2 h3) h4 h5 (fun z hz => setRow_other c.w (c.E k).b z arr' (fun e => by subst e; exact (hS.inv.cc _ hz).2.1 k hD hnil rfl))

theorem putL_nil {α : Type} (l : List α) (i : Nat) : putL l i [] = l := by simp [putL]

/-- What is known of the place that is written. -/
theorem dstV_sound {x : Sv} {wd : Nat} {K : Nat → Blk → Nat → Nat → Prop} (h : dstV hp x wd K) : ∃ k b lo n, K k b lo n ∧ hpGet hp k = some b ∧ b.wd = wd ∧ lo + n ≤ b.rows.length ∧ b.clean = true ∧
    ∀ (w0 : World) (M : Frm) (c : Cx) (v : Value), Inv w0 M c hp → Rel x c v → ∃ A cap, v = .slice A n cap ∧ c.D k ∧ (c.E k).wd = wd ∧ (n = 0 ∨ (c.E k).nil = false ∧ A = some ⟨(c.E k).b, lo * (c.E k).wd, none⟩) := by
  unfold dstV at h
  split at h
  · rename_i k n
    obtain ⟨b, hb, ⟨hw, hn, hc⟩, h⟩ := h
    refine ⟨k, b, 0, n, h, hb, hw, by omega, hc, fun w0 M c v hI r => ?_⟩
    simp only [Rel] at r
    obtain ⟨hD, hv⟩ := r
    obtain ⟨b', hb', hwd, _⟩ := hI.dom k hD
    rw [hpGet_eq.1 hb] at hb'
    cases hb'
    rcases hv with ⟨hnil, rfl, h0⟩ | ⟨hnil, rfl, _⟩
    · exact ⟨none, 0, by rw [h0], hD, hwd.trans hw, .inl h0⟩
    · exact ⟨_, _, rfl, hD, hwd.trans hw, .inr ⟨hnil, by simp⟩⟩
  · rename_i k lo n
    obtain ⟨b, hb, ⟨hw, hn, hc⟩, h⟩ := h
    refine ⟨k, b, lo, n, h, hb, hw, hn, hc, fun w0 M c v hI r => ?_⟩
    simp only [Rel] at r
    obtain ⟨hD, A, cap, rfl, _, hA⟩ := r
    obtain ⟨b', hb', hwd, _⟩ := hI.dom k hD
    rw [hpGet_eq.1 hb] at hb'
    cases hb'
    exact ⟨A, cap, rfl, hD, hwd.trans hw, hA⟩
  · exact h.elim

theorem zeroCells_list (zero : List Value) (n : Nat) (h : zero.length ≠ 0) : (Builtin.zeroCells zero.toArray n).toList = (List.replicate n zero).flatten := by
  have := zeros_eq zero n h
  simpa [Builtin.zeroCells] using this

theorem clearV_sound {t : Nat} {x : Operand} {K : Sv → Hp → Prop} (ho : o.op = .call { callee := .builtin .clear, args := #[x], argTypes := #[t] }) (h : clearV G hp t (evO tm x) K) : ∃ s hp', K s hp' ∧ SStep G.P o tm hp (setT tm o.dst s) hp' := by
  obtain ⟨i, hi, h⟩ := h
  have ht := G.ok t i hi
  split at h
  case h_2 => exact h.elim
  rename_i e hk
  obtain ⟨j, hj, ⟨hz, hz0, hz1⟩, h⟩ := h
  have hje := G.ok e j hj
  obtain ⟨d, hd, hft⟩ := ht.desc
  rw [hk] at hft
  simp only [TK.fits] at hft
  subst hft
  obtain ⟨k, b, lo, n, h, hb, hw, hfit, hcl, hx⟩ := dstV_sound h
  rw [rowsOf_eq] at h
  have h := h.go
  rw [setB_eq] at h
  refine ⟨_, _, h, sstep_rows hb (by rw [ho]; simp) fun w0 M c a hI hD ha => ?_⟩
  obtain ⟨A, cap, hv, _, hwd, hA⟩ := hx w0 M c _ hI (opnd_rel ha (x := x) (by rw [ho]; simp [Op.operands, Call.operands]) rfl)
  obtain ⟨z, hzr, hzc⟩ := hje.run_zero c.w
  refine ⟨.tuple #[], fun _ _ => by simp only [Rel]; exact ⟨[], rfl, by simp [RelT]⟩, ?_⟩
  rcases hA with h0 | ⟨hnil, rfl⟩
  · left
    subst h0
    refine ⟨?_, by simp [putL_nil]⟩
    cases A <;> simp [execOp, ho, resolve, invoke, builtin, hv, Builtin.clear_, run_underlying hd]
  · by_cases h0 : n = 0
    · left
      subst h0
      refine ⟨?_, by simp [putL_nil]⟩
      simp [execOp, ho, resolve, invoke, builtin, hv, Builtin.clear_, run_underlying hd]
    · right
      have hrow : (j.zero.map Sv.val).length = b.wd := by rw [List.length_map, hz, hw]
      refine ⟨hcl, hnil, (List.replicate n j.zero).flatten, fun r hr => by rw [List.eq_of_mem_replicate hr]; exact hrow, ?_, by rw [List.length_replicate]; exact hfit, fun arr arr' _ _ hst => ?_⟩
      · have : (List.replicate n (j.zero.map Sv.val)).flatten = (List.replicate n j.zero).flatten.map Sv.val := by simp [List.map_flatten]
        rw [this]
        refine RelL_vals _ _ fun v hv => ?_
        obtain ⟨l, hl, hvl⟩ := List.mem_flatten.1 hv
        rw [List.eq_of_mem_replicate hl] at hvl
        exact List.all_eq_true.1 hz1 v hvl
      · have hzz : (Builtin.zeroCells z.cells n).toList = (List.replicate n j.zero).flatten := by rw [hzc]; exact zeroCells_list _ _ (by rw [hz]; exact hz0)
        obtain ⟨m, rfl⟩ : ∃ m, n = m + 1 := ⟨n - 1, by omega⟩
        simp [execOp, ho, resolve, invoke, builtin, hv, Builtin.clear_, run_underlying hd, hzr, hzz, hst]

theorem copyV_sound {t t' : Nat} {x y : Operand} {K : Sv → Hp → Prop} (ho : o.op = .call { callee := .builtin .copy, args := #[x, y], argTypes := #[t, t'] }) (h : copyV G hp t (evO tm x) (evO tm y) K) : ∃ s hp', K s hp' ∧ SStep G.P o tm hp (setT tm o.dst s) hp' := by
  obtain ⟨i, hi, h⟩ := h
  have ht := G.ok t i hi
  split at h
  case h_2 => exact h.elim
  rename_i e hk
  obtain ⟨j, hj, h⟩ := h
  have hje := G.ok e j hj
  obtain ⟨d, hd, hft⟩ := ht.desc
  rw [hk] at hft
  simp only [TK.fits] at hft
  subst hft
  obtain ⟨I, hI', hIs, hIb, z, hz, hzc⟩ := hje.info
  obtain ⟨news, cl, h, hsrc⟩ := srcV_sound h
  obtain ⟨rfl, h⟩ := h
  obtain ⟨k, b, lo, n, h, hb, hw, hfit, hcl, hx⟩ := dstV_sound h
  have h := h.go
  rw [rowsOf_eq] at h
  have h := h.go
  rw [setB_eq] at h
  refine ⟨_, _, h, sstep_rows hb (by rw [ho]; simp) fun w0 M c a hI hD ha => ?_⟩
  have hx0 : x ∈ o.op.operands := by rw [ho]; simp [Op.operands, Call.operands]
  have hy0 : y ∈ o.op.operands := by rw [ho]; simp [Op.operands, Call.operands]
  obtain ⟨A, cap, hv, _, hwd, hA⟩ := hx w0 M c _ hI (opnd_rel ha hx0 rfl)
  obtain ⟨B, cy, vs, ey, hvl, hvr, hvw, hcell⟩ := (hsrc w0 M c _ hI (opnd_rel ha hy0 rfl)).vals (.inr trivial)
  refine ⟨.int .i64 ((min news.length n : Nat) : Int), fun _ _ => by simp [Rel], ?_⟩
  -- the cells that are read
  have hrd : ∀ m, m ≤ news.length → (m = 0 ∨ ∃ cs : List Value, cs = vs.take (m * j.size) ∧ (Builtin.firstCells j.size m (.slice B news.length cy)).run G.P c.w = .ok cs.toArray c.w) := by
    intro m hm
    rcases hcell with h0 | ⟨bb, off, rfl, hc⟩
    · left; omega
    · right
      refine ⟨_, rfl, ?_⟩
      have h1 : (vs.take (m * j.size)).length = m * j.size := by
        rw [List.length_take, hvl]
        exact Nat.min_eq_left (Nat.mul_le_mul_right _ hm)
      have := run_loadCells_list (P := G.P) c.w ⟨bb, off, none⟩ (vs.take (m * j.size)) (fun q u hq => by
        rw [Addr.add_lit]
        rw [List.getElem?_take] at hq
        split at hq
        · exact hc q u hq
        · cases hq)
      rw [h1] at this
      simp [Builtin.firstCells, this]
  have hf0 : (Builtin.firstCells j.size 0 (.slice B news.length cy)).run G.P c.w = .ok #[] c.w := by
    cases B <;> simp [Builtin.firstCells, loadCells, loadCellsFrom]
  have hsz : (sizeOf e).run G.P c.w = .ok j.size c.w := hje.run_sizeOf c.w
  by_cases h0 : min news.length n = 0
  · left
    refine ⟨?_, by rw [h0]; simp [putL_nil]⟩
    have h0' : Nat.min news.length n = 0 := h0
    cases A <;> simp [execOp, ho, resolve, invoke, builtin, hv, ey, Builtin.copy_, run_underlying hd, Builtin.lenOf, hsz, h0', hf0, storeCells, goInt, h0]
  · right
    rcases hA with h1 | ⟨hnil, rfl⟩
    · omega
    · rcases hrd (min news.length n) (Nat.min_le_left _ _) with h2 | ⟨cs, rfl, hf⟩
      · exact absurd h2 h0
      · refine ⟨hcl, hnil, vs.take (min news.length n * j.size), fun r hr => by rw [hw]; exact hvw r (List.mem_of_mem_take hr), ?_, by rw [List.length_take]; omega, fun arr arr' _ _ hst => ?_⟩
        · have hfl : (news.take (min news.length n)).flatten = news.flatten.take (min news.length n * j.size) := by
            have : ∀ (rows : List (List Sv)) (m : Nat), (∀ r ∈ rows, r.length = j.size) → (rows.take m).flatten = rows.flatten.take (m * j.size) := by
              intro rows
              induction rows with
              | nil => intro m _; simp
              | cons q qs ih =>
                intro m hq
                have hql := hq q (by simp)
                cases m with
                | zero => simp
                | succ m =>
                  rw [List.take_succ_cons, List.flatten_cons, List.flatten_cons, ih m (fun r hr => hq r (by simp [hr])), show (m + 1) * j.size = q.length + m * j.size by rw [hql, Nat.add_mul]; omega, List.take_append, List.take_of_length_le (show q.length ≤ q.length + m * j.size by omega), Nat.add_sub_cancel_left]
            exact this news _ hvw
          rw [hfl]
          exact RelL_take _ _ (by simpa using hvr)
        · have hf' : (Builtin.firstCells j.size (Nat.min news.length n) (.slice B news.length cy)).run G.P c.w = .ok (vs.take (min news.length n * j.size)).toArray c.w := hf
          simp [execOp, ho, resolve, invoke, builtin, hv, ey, Builtin.copy_, run_underlying hd, Builtin.lenOf, hsz, hf', hst, goInt]

theorem appPV_sound {t : Nat} {x y : Operand} {K : Sv → Hp → Prop} (ho : o.op = .call { callee := .builtin .append, args := #[x, y], argTypes := #[t, t] }) (h : appPV G hp t (evO tm x) (evO tm y) K) : ∃ s hp', K s hp' ∧ SStep G.P o tm hp (setT tm o.dst s) hp' := by
  obtain ⟨i, hi, h⟩ := h
  have ht := G.ok t i hi
  split at h
  case h_2 => exact h.elim
  rename_i e hk
  obtain ⟨j, hj, h⟩ := h
  have hje := G.ok e j hj
  obtain ⟨d, hd, hft⟩ := ht.desc
  rw [hk] at hft
  simp only [TK.fits] at hft
  subst hft
  obtain ⟨I, hI', hIs, hIb, z, hz, hzc⟩ := hje.info
  obtain ⟨news, cl, h, hsrc⟩ := srcV_sound h
  split at h
  case h_2 => exact h.elim
  rename_i k n hx
  obtain ⟨b, hb, ⟨hw, hel, hgr, hfit, hcl, rfl⟩, h⟩ := h
  have h := h.go
  rw [rowsOf_eq] at h
  have h := h.go
  rw [setB_eq] at h
  refine ⟨_, _, h, sstep_rows hb (by rw [ho]; simp) fun w0 M c a hI hD ha => ?_⟩
  have hx0 : x ∈ o.op.operands := by rw [ho]; simp [Op.operands, Call.operands]
  have hy0 : y ∈ o.op.operands := by rw [ho]; simp [Op.operands, Call.operands]
  have rx := opnd_rel ha hx0 hx
  simp only [Rel] at rx
  obtain ⟨_, hv⟩ := rx
  obtain ⟨b', hb', hwd, hrel⟩ := hI.dom k hD
  rw [hpGet_eq.1 hb] at hb'
  cases hb'
  obtain ⟨B, cy, vs, ey, hvl, hvr, hvw, hcell⟩ := (hsrc w0 M c _ hI (opnd_rel ha hy0 rfl)).vals (.inr trivial)
  have hexec : execOp a.eval o = (do pure (.value (← Builtin.append_ #[t, t] o.type #[a.eval x, a.eval y]))) := by simp [execOp, ho, resolve, invoke, builtin]
  have hf0 : ∀ w, (Builtin.firstCells I.size 0 (.slice B 0 cy)).run G.P w = .ok #[] w := by
    intro w
    cases B <;> simp [Builtin.firstCells, loadCells, loadCellsFrom]
  refine ⟨.slice (if (c.E k).nil then none else some ⟨(c.E k).b, 0, none⟩) (n + news.length) (if (c.E k).nil then 0 else (c.E k).cap), fun c' hle => ?_, ?_⟩
  · simp only [Rel]
    obtain ⟨hD', hE⟩ := hle.ed k rfl hD
    rw [hE]
    refine ⟨hD', ?_⟩
    rcases hv with ⟨hnil, _, h0⟩ | ⟨hnil, _, _⟩
    · left
      rcases hrel.1 hnil with ⟨_, h1⟩ | ⟨h1, _⟩
      · rw [h1] at hfit
        simp only [List.length_nil] at hfit
        have e : n + news.length = 0 := by omega
        simp [hnil, e]
      · rw [hgr] at h1; cases h1
    · right
      obtain ⟨arr, hh, hr, hle, hg⟩ := hrel.2 hnil
      exact ⟨hnil, by simp [hnil], by have := (hg hgr).2.1; omega⟩
  · rcases hv with ⟨hnil, ex, h0⟩ | ⟨hnil, ex, hnc⟩
    · left
      rcases hrel.1 hnil with ⟨_, h1⟩ | ⟨h1, _⟩
      · rw [h1] at hfit
        simp only [List.length_nil] at hfit
        have e0 : news = [] := List.eq_nil_of_length_eq_zero (by omega)
        subst e0
        subst h0
        refine ⟨?_, by rw [putL_nil]⟩
        rw [hexec, ex, ey]
        simp [Builtin.append_, run_underlying hd, sizeOf, typeInfo, hI', Builtin.lenOf, hf0, hnil]
      · rw [hgr] at h1; cases h1
    · obtain ⟨arr, hh, hr, hle, hg⟩ := hrel.2 hnil
      · obtain ⟨hg1, hg2, hg3⟩ := hg hgr
        by_cases h0 : news.length = 0
        · left
          have e0 : news = [] := List.eq_nil_of_length_eq_zero h0
          subst e0
          refine ⟨?_, by rw [putL_nil]⟩
          rw [hexec, ex, ey]
          simp [Builtin.append_, run_underlying hd, sizeOf, typeInfo, hI', Builtin.lenOf, hf0, hnil, hnc, storeCells]
        · right
          rcases hcell with h1 | ⟨bb, off, rfl, hc⟩
          · exact absurd h1 h0
          refine ⟨hcl, hnil, vs, fun r hr => by rw [hw]; exact hvw r hr, by simpa using hvr, hfit, fun arr2 arr' hh2 ha2 _ => ?_⟩
          rw [hh] at hh2
          cases hh2
          have hsz : n * I.size + vs.length ≤ arr.size := by
            rw [hvl, hIs, ← Nat.add_mul]
            refine Nat.le_trans (Nat.mul_le_mul_right _ (Nat.le_trans hfit hg2)) ?_
            rw [← hw]; exact hg1
          have := run_append_room (P := G.P) (w := c.w) t o.type e I hd hI' (c.E k).b n (c.E k).cap arr (by rw [← hel]; exact hh) ⟨bb, off, none⟩ news.length cy vs (by rw [hvl, hIs]) (fun q u hq => by rw [Addr.add_lit]; exact hc q u hq) (RelL_one _ hvr) (by omega) hsz
          rw [hexec, ex, ey]
          rw [hIs, ← hw, ha2] at this
          simp [this, hnil]
end
/-- Append: where it is not known whether there is room, and where there is. -/
inductive AppC (c g p : Prop) : Prop
  | grow : c → g → AppC c g p
  | place : p → AppC c g p
end Go.Eng
