/- The engine, part G: the state of a walk; stores; contracts and calls. -/
import Derived.Test.YtobojnfhhobnkaaEngF
set_option linter.unusedSimpArgs false
set_option maxRecDepth 20000
set_option linter.unusedVariables false
namespace Go.Eng
open Go Go.RowKit

theorem putL_length {α : Type} (l xs : List α) (i : Nat) (h : i + xs.length ≤ l.length) : (putL l i xs).length = l.length := by
  unfold putL
  simp
  omega

theorem putL_get {α : Type} (l xs : List α) (i : Nat) (h : i + xs.length ≤ l.length) (q : Nat) : (putL l i xs)[q]? = if q < i then l[q]? else if q < i + xs.length then xs[q - i]? else l[q]? := by
  unfold putL
  by_cases h1 : q < i
  · rw [if_pos h1, List.getElem?_append_left (by simp; omega), List.getElem?_take, if_pos h1]
  · rw [if_neg h1, List.getElem?_append_right (by simp; omega)]
    have : (l.take i).length = i := by simp; omega
    rw [this]
    by_cases h2 : q < i + xs.length
    · rw [if_pos h2, List.getElem?_append_left (by omega)]
    · rw [if_neg h2, List.getElem?_append_right (by omega), List.getElem?_drop]
      congr 1
      omega

/-! ### The state of a walk -/
/-- What stands in C stands as it stood. -/
structure Cx.Cq (c c' : Cx) : Prop where
  cA : c'.A = c.A
  cC : c'.C = c.C
  cZ : c'.Z = c.Z
  hb : ∀ b, c.C b → c'.w.heap[b]? = c.w.heap[b]?
theorem EPost.cq {w0 : World} {M : Frm} {c c' : Cx} {hp : Hp} {nb : List Blk} {kl : List Nat} (hI : Inv w0 M c hp) (h : EPost w0 M c c' hp nb kl) : c.Cq c' :=
  ⟨h.cA, h.cC, h.cZ, fun b hb => h.keep b (hI.cc b hb).1 (fun k hD _ hn => (hI.cc b hb).2.1 k hD hn)⟩
/-- The marks of the loops over functions that have ended, each with its block, in which nothing stands. -/
def mkD (b : Nat) : Deferred := { target := .collected b, args := #[] }
def Marks (w0 : World) (c : Cx) (ds ds0 : List Deferred) : Prop :=
  ∃ ml : List Nat, ds = ml.map mkD ++ ds0 ∧ ml.Nodup ∧ ∀ b ∈ ml, w0.heap.size ≤ b ∧ c.Z b ∧ c.C b ∧ c.w.heap[b]? = some (.deferred (some []))
theorem Marks.cq {w0 : World} {c c' : Cx} {ds ds0 : List Deferred} (h : Marks w0 c ds ds0) (hq : c.Cq c') : Marks w0 c' ds ds0 := by
  obtain ⟨ml, h1, h2, h3⟩ := h
  refine ⟨ml, h1, h2, fun b hb => ?_⟩
  obtain ⟨g0, g1, g2, g3⟩ := h3 b hb
  exact ⟨g0, by rw [hq.cZ]; exact g1, by rw [hq.cC]; exact g2, (hq.hb b g2).trans g3⟩
theorem Marks.none {w0 : World} {c : Cx} {ds : List Deferred} : Marks w0 c ds ds := ⟨[], rfl, List.nodup_nil, fun b hb => by cases hb⟩
structure St (w0 : World) (M : Frm) (c : Cx) (tm : List Sv) (hp : Hp) (a : Act) (ds : List Deferred) : Prop where
  inv : Inv w0 M c hp
  full : ∀ (k : Nat) (b : Blk), hp[k]? = some (some b) → c.D k
  rel : ∀ t, Rel (tmGet tm t) c (a.tmps.getD t undef)
  size : a.tmps.size = tm.length
  ds : Marks w0 c a.defers ds

def setT (tm : List Sv) (d : Option Nat) (s : Sv) : List Sv :=
  match d with
  | none => tm
  | some t => tm.set t s

theorem tmGet_set (tm : List Sv) (d t : Nat) (s : Sv) : tmGet (tm.set d s) t = if d = t ∧ t < tm.length then s else tmGet tm t := by
  unfold tmGet
  simp only [nth_eq, List.getElem?_set]
  by_cases h : d = t
  · subst h
    by_cases h2 : d < tm.length
    · simp [h2]
    · simp [h2]
  · simp [h]

theorem St.opnd {w0 : World} {M : Frm} {c : Cx} {tm : List Sv} {hp : Hp} {a : Act} {ds : List Deferred} (h : St w0 M c tm hp a ds) (x : Operand) : Rel (evO tm x) c (a.eval x) := by
  cases x with
  | tmp t => exact h.rel t
  | const v => simp [evO, Act.eval, Rel]
  | global g => simp [evO, Act.eval, Rel]
  | func f => simp only [evO, Act.eval, Rel]; exact ⟨[], rfl, by simp [RelT]⟩

/-- The state behind a temporary's new value. -/
theorem St.put {w0 : World} {M : Frm} {c : Cx} {tm : List Sv} {hp : Hp} {a : Act} {ds : List Deferred} (h : St w0 M c tm hp a ds) (d : Option Nat) {s : Sv} {v : Value} (r : Rel s c v) :
    St w0 M c (setT tm d s) hp (a.put d v) ds := by
  cases d with
  | none => exact h
  | some t =>
    refine { inv := h.inv, full := h.full, rel := fun u => ?_, size := by simp [Act.put, setT, h.size], ds := h.ds }
    simp only [setT, Act.put, tmGet_set]
    by_cases hu : t = u
    · subst hu
      by_cases hl : t < tm.length
      · simp [hl, h.size, Array.getD]
        exact r
      · simp only [hl, and_false, if_false]
        unfold tmGet
        rw [nth_eq, List.getElem?_eq_none (by omega)]
        simp [Rel]
    · simp only [hu, false_and, if_false]
      have := h.rel u
      rw [Array.getD_eq_getD_getElem?] at this ⊢
      rw [Array.getElem?_setIfInBounds_ne hu]
      exact this

/-- A state carried over to another context. -/
theorem St.le {w0 : World} {M : Frm} {c c' : Cx} {tm : List Sv} {hp hp' : Hp} {a : Act} {ds : List Deferred} {kl : List Nat} (h : St w0 M c tm hp a ds) (hle : c.Le (fun k => !memB k kl) c') (hI : Inv w0 M c' hp') (hq : c.Cq c') (hf : ∀ (k : Nat) (b : Blk), hp'[k]? = some (some b) → c'.D k) :
    St w0 M c' (forgetT kl tm) hp' a ds := by
  refine { inv := hI, full := hf, rel := fun t => Rel.le _ (forgetT_all kl tm t) hle (tmGet_forget kl tm t (h.rel t)), size := ?_, ds := h.ds.cq hq }
  rw [h.size]
  cases kl with
  | nil => rfl
  | cons j js => simp [forgetT, forgetGo_length]

theorem kill_some {kl : List Nat} {hp : Hp} {k : Nat} {b : Blk} (h : (kill kl hp)[k]? = some (some b)) : memB k kl = false ∧ ∃ b0, hp[k]? = some (some b0) := by
  cases kl with
  | nil => exact ⟨rfl, b, h⟩
  | cons j js =>
    have := killH_some (j :: js) hp 0 k b h
    exact ⟨by simpa using this.1, let ⟨b0, h0, _⟩ := this.2; ⟨b0, h0⟩⟩

/-- What one operation in its place leaves: the next state. -/
def SStep (P : Program) (o : Oper) (tm : List Sv) (hp : Hp) (tm' : List Sv) (hp' : Hp) : Prop :=
  ∀ (F : Fence) (n : Nat) (w0 : World) (M : Frm) (c : Cx) (a : Act) (ds : List Deferred) (next : Act → World → Prop) (Q : Exit → Act → World → Prop), Open F → St w0 M c tm hp a ds →
    (∀ a' c', St w0 M c' tm' hp' a' ds → next a' c'.w) → o.wpIn F n P a c.w next Q

theorem EStep.sstep {P : Program} {o : Oper} {tm : List Sv} {hp : Hp} {s : Sv} {nb : List Blk} {kl : List Nat} (h : EStep P o tm hp s nb kl) : SStep P o tm hp (setT (forgetT kl tm) o.dst s) (kill kl hp ++ nb.map some) := by
  intro F n w0 M c a ds next Q hF hS hn
  refine h F n w0 M c a next Q hF hS.inv (fun x _ => hS.opnd x) fun v c' hp' hr => hn _ c' ?_
  refine (hS.le hp'.le hp'.inv (hp'.cq hS.inv) fun k b hk => (hp'.dom k).2 ?_).put o.dst hr
  by_cases hlt : k < (kill kl hp).length
  · rw [List.getElem?_append_left hlt] at hk
    obtain ⟨h1, b0, h0⟩ := kill_some hk
    exact .inl ⟨hS.full k b0 h0, h1⟩
  · rw [List.getElem?_append_right (by omega)] at hk
    have hl := (List.getElem?_eq_some_iff.1 hk).1
    rw [kill_length] at hl hlt
    simp at hl
    right
    omega

/-! ### A store -/
/-- The list, its spine laid bare. -/
def spineK {α : Type} : List α → (List α → Prop) → Prop
  | [], K => K []
  | x :: l, K => spineK l fun l' => K (x :: l')
theorem spineK_eq {α : Type} : ∀ (l : List α) (K : List α → Prop), spineK l K = K l
  | [], _ => rfl
  | x :: l, K => by rw [spineK, spineK_eq l]
/-- A small number as a literal. -/
def litG (n : Nat) (K : Nat → Prop) : List Nat → Prop
  | [] => K n
  | m :: ms => match Nat.beq n m with
    | true => K m
    | false => litG n K ms
def litK (n : Nat) (K : Nat → Prop) : Prop := litG n K [0, 1, 2, 3, 4, 5, 6, 7, 8, 9, 10, 11, 12, 13, 14, 15, 16, 17, 18, 19, 20, 21, 22, 23, 24, 25, 26, 27, 28, 29, 30, 31, 32, 33, 34, 35, 36, 37, 38, 39, 40, 41, 42, 43, 44, 45, 46, 47, 48, 49, 50, 51, 52, 53, 54, 55, 56, 57, 58, 59, 60]
theorem litG_eq (n : Nat) (K : Nat → Prop) : ∀ l, litG n K l = K n
  | [] => rfl
  | m :: ms => by
    simp only [litG]
    cases h : Nat.beq n m with
    | true => rw [Nat.eq_of_beq_eq_true h]
    | false => exact litG_eq n K ms
theorem litK_eq (n : Nat) (K : Nat → Prop) : litK n K = K n := litG_eq n K _
def boolK (b : Bool) (K : Bool → Prop) : Prop :=
  match b with
  | true => K true
  | false => K false
theorem boolK_eq (b : Bool) (K : Bool → Prop) : boolK b K = K b := by cases b <;> rfl
/-- A value, its head laid bare. -/
def headK : Sv → (Sv → Prop) → Prop
  | .val v, K => K (.val v)
  | .any, K => K .any
  | .agg cs, K => K (.agg cs)
  | .tup cs, K => K (.tup cs)
  | .ptr k r q, K => litK k fun k => litK q fun q => K (.ptr k r q)
  | .own k n, K => litK k fun k => K (.own k n)
  | .sls k l n, K => litK k fun k => K (.sls k l n)
  | .ext a b c, K => K (.ext a b c)
  | .ref fr cs, K => K (.ref fr cs)
  | .clo f cs, K => K (.clo f cs)
theorem headK_eq (s : Sv) (K : Sv → Prop) : headK s K = K s := by cases s <;> simp only [headK, litK_eq]
/-- A row, laid bare. -/
def rowK : List Sv → (List Sv → Prop) → Prop
  | [], K => K []
  | x :: l, K => headK x fun x' => rowK l fun l' => K (x' :: l')
theorem rowK_eq : ∀ (l : List Sv) (K : List Sv → Prop), rowK l K = K l
  | [], _ => rfl
  | x :: l, K => by rw [rowK, headK_eq, rowK_eq l]
/-- A value, laid bare. -/
def svK : Sv → (Sv → Prop) → Prop
  | .agg cs, K => rowK cs fun cs => K (.agg cs)
  | .tup cs, K => rowK cs fun cs => K (.tup cs)
  | .clo f cs, K => rowK cs fun cs => K (.clo f cs)
  | s, K => headK s K
theorem svK_eq (s : Sv) (K : Sv → Prop) : svK s K = K s := by cases s <;> simp only [svK, rowK_eq, headK_eq]
def setK : List Sv → Nat → Sv → (List Sv → Prop) → Prop
  | [], _, _, K => K []
  | _ :: l, 0, s, K => K (s :: l)
  | x :: l, n + 1, s, K => setK l n s fun l' => K (x :: l')
theorem setK_eq : ∀ (l : List Sv) (n : Nat) (s : Sv) (K : List Sv → Prop), setK l n s K = K (l.set n s)
  | [], _, _, _ => rfl
  | _ :: l, 0, s, K => rfl
  | x :: l, n + 1, s, K => by rw [setK, setK_eq l]; rfl
def setTK (tm : List Sv) (d : Option Nat) (s : Sv) (K : List Sv → Prop) : Prop :=
  match d with
  | none => K tm
  | some t => svK s fun s => setK tm t s K
theorem setTK_eq (tm : List Sv) (d : Option Nat) (s : Sv) (K : List Sv → Prop) : setTK tm d s K = K (setT tm d s) := by
  cases d with
  | none => rfl
  | some t => simp only [setTK, svK_eq, setK_eq, setT]
/-- A block, laid bare; its rows are left. -/
def blkH (b : Blk) (K : Blk → Prop) : Prop :=
  match b with
  | ⟨e, wd, cl, gr, rows⟩ => litK wd fun wd => boolK cl fun cl => K ⟨e, wd, cl, gr, rows⟩
theorem blkH_eq (b : Blk) (K : Blk → Prop) : blkH b K = K b := by cases b; simp only [blkH, litK_eq, boolK_eq]
def rowsK : List (List Sv) → (List (List Sv) → Prop) → Prop
  | [], K => K []
  | r :: rs, K => rowK r fun r => rowsK rs fun rs => K (r :: rs)
theorem rowsK_eq : ∀ (l : List (List Sv)) (K : List (List Sv) → Prop), rowsK l K = K l
  | [], _ => rfl
  | r :: rs, K => by simp only [rowsK, rowK_eq, rowsK_eq rs]
/-- A block, laid bare with its rows. -/
def blkR (b : Blk) (K : Blk → Prop) : Prop :=
  match b with
  | ⟨e, wd, cl, gr, rows⟩ => litK wd fun wd => boolK cl fun cl => rowsK rows fun rows => K ⟨e, wd, cl, gr, rows⟩
theorem blkR_eq (b : Blk) (K : Blk → Prop) : blkR b K = K b := by cases b; simp only [blkR, litK_eq, boolK_eq, rowsK_eq]
def deepK : List Sv → (List Sv → Prop) → Prop
  | [], K => K []
  | x :: l, K => svK x fun x' => deepK l fun l' => K (x' :: l')
theorem deepK_eq : ∀ (l : List Sv) (K : List Sv → Prop), deepK l K = K l
  | [], _ => rfl
  | x :: l, K => by rw [deepK, svK_eq, deepK_eq l]
/-- A block, laid bare; its rows, where they may name blocks. -/
def blkN (b : Blk) (K : Blk → Prop) : Prop :=
  match b with
  | ⟨e, wd, true, gr, rows⟩ => K ⟨e, wd, true, gr, rows⟩
  | ⟨e, wd, false, gr, rows⟩ => rowsK rows fun rows => K ⟨e, wd, false, gr, rows⟩
theorem blkN_eq (b : Blk) (K : Blk → Prop) : blkN b K = K b := by
  cases b with
  | mk e wd cl gr rows => cases cl <;> simp only [blkN, rowsK_eq]
def hpK : Hp → (Hp → Prop) → Prop
  | [], K => K []
  | none :: bs, K => hpK bs fun bs => K (none :: bs)
  | some b :: bs, K => blkN b fun b => hpK bs fun bs => K (some b :: bs)
theorem hpK_eq : ∀ (l : Hp) (K : Hp → Prop), hpK l K = K l
  | [], _ => rfl
  | none :: bs, K => by simp only [hpK, hpK_eq bs]
  | some b :: bs, K => by simp only [hpK, blkN_eq, hpK_eq bs]
def blksH : List Blk → (List Blk → Prop) → Prop
  | [], K => K []
  | b :: bs, K => blkH b fun b => blksH bs fun bs => K (b :: bs)
theorem blksH_eq : ∀ (l : List Blk) (K : List Blk → Prop), blksH l K = K l
  | [], _ => rfl
  | b :: bs, K => by simp only [blksH, blkH_eq, blksH_eq bs]

def blkK (b : Blk) (r' : List Sv) (row : Nat) (cl' : Bool) (K : Blk → Prop) : Prop :=
  match b with
  | ⟨e, wd, cl, gr, rows⟩ => boolK (cl && cl') fun cl => K ⟨e, wd, cl, gr, rows.set row r'⟩
theorem blkK_eq (b : Blk) (r' : List Sv) (row : Nat) (cl' : Bool) (K : Blk → Prop) : blkK b r' row cl' K = K { b with clean := b.clean && cl', rows := b.rows.set row r' } := by cases b; simp only [blkK, boolK_eq]

def storeV (G : Gm) (hp : Hp) (t : Nat) (x y : Sv) (K : Hp → Prop) : Prop :=
  Get (G.tab t) fun i =>
    match x with
    | .ptr k row col => Get (hpGet hp k) fun b => Get (nth b.rows row) fun r => Get y.parts fun xs =>
        Need (xs.length = i.size ∧ col + xs.length ≤ r.length) <| rowK (putL r col xs) fun r' => blkK b r' row (Sv.all.allL (fun _ => false) xs) fun b' => spineK (hp.set k (some b')) K
    | _ => False

theorem flatten_len {wd : Nat} : ∀ (rows : List (List Sv)), (∀ r ∈ rows, r.length = wd) → rows.flatten.length = rows.length * wd
  | [], _ => by simp
  | r :: rs, h => by simp [flatten_len rs (fun q hq => h q (by simp [hq])), h r (by simp), Nat.add_mul]; omega

/-- A store into a row of a block: the world and what is known behind it. -/
theorem Inv.store {w0 : World} {M : Frm} {c : Cx} {hp : Hp} (hI : Inv w0 M c hp) {k row col : Nat} {b : Blk} {r xs : List Sv} {vs : List Value} (hD : c.D k) (hn : (c.E k).nil = false) (hb : hp[k]? = some (some b))
    (hr : b.rows[row]? = some r) (hxs : RelL xs c vs) (hcol : col + xs.length ≤ r.length) (P : Program) :
    ∃ w', (storeCells ⟨(c.E k).b, row * (c.E k).wd + col, none⟩ vs).run P c.w = .ok () w' ∧ Inv w0 M { c with w := w' } (hp.set k (some { b with clean := b.clean && Sv.all.allL (fun _ => false) xs, rows := b.rows.set row (putL r col xs) })) ∧ c.Le (fun _ => true) { c with w := w' } ∧ ∀ z, c.C z → w'.heap[z]? = c.w.heap[z]? := by
  obtain ⟨b', hb', hwd, hrel⟩ := hI.dom k hD
  rw [hb] at hb'
  cases hb'
  obtain ⟨arr, hh, hrr, hlen, hgrow⟩ := hrel.2 hn
  have hvl := RelL_len _ hxs
  have hrlt : row < b.rows.length := (List.getElem?_eq_some_iff.1 hr).1
  have hrw := (RelR_get _ hrr row r hr).1
  have hbd : (row + 1) * b.wd ≤ b.rows.length * b.wd := Nat.mul_le_mul_right _ hrlt
  rw [Nat.add_mul, Nat.one_mul] at hbd
  have hfit : row * b.wd + col + 0 + vs.length ≤ arr.size := by omega
  have hst := run_storeCells_at P (c.E k).b (row * b.wd + col) b.elem vs 0 arr c.w hh hfit (RelL_one _ hxs)
  rw [hwd]
  refine ⟨_, hst, ?_⟩
  generalize hA : (arr.toList.take (row * b.wd + col + 0) ++ vs ++ arr.toList.drop (row * b.wd + col + 0 + vs.length)).toArray = arr'
  have hsz : arr'.size = arr.size := by
    rw [← hA]
    simp
    omega
  have harr : ∀ q : Nat, arr'[q]? = (putL arr.toList (row * b.wd + col) vs)[q]? := by
    intro q
    rw [← hA]
    unfold putL
    simp [List.append_assoc]
  have hg : c.w.grownBy (c.w.setRow (c.E k).b arr') (some (c.E k).b) := ⟨rfl, rfl, rfl, by simp [World.setRow], fun q _ hq => setRow_other c.w (c.E k).b q arr' (fun e => hq (by rw [e]))⟩
  have hhead : (c.w.setRow (c.E k).b arr').heap[(c.E k).b]? = some (.cells arr' b.elem (0, 0)) := setRow_heap c.w (c.E k).b arr arr' b.elem _ hh
  have hx : ∀ q, c.X q → (c.w.setRow (c.E k).b arr').heap[q]? = c.w.heap[q]? := fun q hq => hg.block q (hI.xlt q hq) (fun e => by cases e; exact hI.xsep k _ hD hn hq rfl)
  have hle : c.Le (fun _ => true) { c with w := c.w.setRow (c.E k).b arr' } := ⟨fun _ _ h => ⟨h, rfl⟩, fun _ h => h, fun _ _ h => h, hx⟩
  refine ⟨?_, hle, fun z hz => hg.block z (hI.cc z hz).1 (fun e => by cases e; exact (hI.cc _ hz).2.1 k hD hn rfl)⟩
  -- the block itself
  have hself : BlkRel { c with w := c.w.setRow (c.E k).b arr' } k { b with clean := b.clean && Sv.all.allL (fun _ => false) xs, rows := b.rows.set row (putL r col xs) } := by
    unfold BlkRel
    refine ⟨hwd, (fun h => by rw [show (c.E k).nil = true from h] at hn; cases hn), fun _ => ⟨arr', hhead, ?_, by simp only [List.length_set]; rw [hsz]; exact hlen, fun h => by simp only [List.length_set]; rw [hsz]; exact hgrow h⟩⟩
    -- the values of all rows, the new ones among them
    obtain ⟨olds, hol, hor, hoc⟩ := RelR_vals _ hrr
    have hrws : ∀ q ∈ b.rows, q.length = b.wd := fun q hq => by
      obtain ⟨i, hi⟩ := List.mem_iff_getElem?.1 hq
      exact (RelR_get _ hrr i q hi).1
    have hput : (putL r col xs).length = b.wd := by rw [putL_length r xs col hcol]; exact hrw
    have hcx : ∃ cx : Cx, cx.w = c.w ∧ RelL b.rows.flatten cx olds ∧ RelL xs cx vs ∧ cx.Le (fun _ => true) (Blk.cx { b with clean := b.clean && Sv.all.allL (fun _ => false) xs, rows := b.rows.set row (putL r col xs) } { c with w := c.w.setRow (c.E k).b arr' }) := by
      unfold Blk.cx
      cases hcl : b.clean with
      | false =>
        simp only [Blk.cx, hcl] at hor
        exact ⟨c, rfl, hor, hxs, by simpa using hle⟩
      | true =>
        simp only [Blk.cx, hcl] at hor
        by_cases hal : Sv.all.allL (fun _ => false) xs = true
        · exact ⟨c.shut, rfl, hor, hxs.closed hal, by simp only [hal, Bool.and_self, if_true]; exact hle.shut⟩
        · simp only [hal, Bool.and_false]
          exact ⟨c, rfl, RelL.le _ (allL_true _) c.shut_le hor, hxs, by simpa using hle⟩
    obtain ⟨cx, hcw, hor', hxs', hcle⟩ := hcx
    have hrow : RelL r cx ((olds.drop (row * b.wd)).take b.wd) := by
      have h1 := RelL_take b.wd _ (RelL_drop (row * b.wd) _ hor')
      have : (b.rows.flatten.drop (row * b.wd)).take b.wd = r := by
        have : ∀ (rows : List (List Sv)) (row : Nat), (∀ q ∈ rows, q.length = b.wd) → rows[row]? = some r → (rows.flatten.drop (row * b.wd)).take b.wd = r := by
          intro rows
          induction rows with
          | nil => intro row _ h; simp at h
          | cons q qs ih =>
            intro row hq h
            have hql := hq q (by simp)
            cases row with
            | zero => simp at h; subst h; simp [← hql]
            | succ row =>
              rw [List.flatten_cons, show (row + 1) * b.wd = q.length + row * b.wd by rw [hql, Nat.add_mul]; omega, List.drop_append]
              rw [List.drop_eq_nil_of_le (by omega), List.nil_append, Nat.add_sub_cancel_left]
              exact ih row (fun p hp => hq p (by simp [hp])) (by simpa using h)
        exact this b.rows row hrws hr
      rwa [this] at h1
    have hrowl : ((olds.drop (row * b.wd)).take b.wd).length = b.wd := by rw [RelL_len _ hrow, hrw]
    have hfl : RelL (b.rows.set row (putL r col xs)).flatten cx (putL olds (row * b.wd) (putL ((olds.drop (row * b.wd)).take b.wd) col vs)) := by
      rw [flatten_set b.rows row _ hrws hput hrlt]
      exact RelL_put hor' (RelL_put hrow hxs' col) _
    refine RelR_of_vals _ (fun q hq => ?_) (RelL.le _ (allL_true _) hcle hfl) fun j u hj => ?_
    · rcases List.mem_or_eq_of_mem_set hq with h | rfl
      · exact hrws q h
      · exact hput
    · rw [Blk.cx_w]
      show (c.w.setRow (c.E k).b arr').cell? ⟨(c.E k).b, 0 + j, none⟩ = some u
      rw [cell_of_row _ _ _ arr' b.elem (0, 0) hhead, harr]
      have hcell : ∀ q u, olds[q]? = some u → arr.toList[q]? = some u := fun q u hq => by
        have := hoc q u hq
        rw [Blk.cx_w, cell_of_row c.w _ _ arr b.elem (0, 0) hh] at this
        rw [Array.getElem?_toList]
        simpa using this
      have hinner : (putL ((olds.drop (row * b.wd)).take b.wd) col vs).length = b.wd := by rw [putL_length _ _ _ (by rw [hrowl, hvl]; omega), hrowl]
      rw [putL_get _ _ _ (by rw [hinner, hol]; omega)] at hj
      rw [hinner] at hj
      rw [Nat.zero_add, putL_get _ _ _ (by simp; omega)]
      by_cases h1 : j < row * b.wd
      · rw [if_pos h1] at hj
        rw [if_pos (by omega)]
        exact hcell j u hj
      · rw [if_neg h1] at hj
        by_cases h2 : j < row * b.wd + b.wd
        · rw [if_pos h2, putL_get _ _ _ (by rw [hrowl, hvl]; omega)] at hj
          by_cases h3 : j - row * b.wd < col
          · rw [if_pos h3, List.getElem?_take, if_pos (by omega), List.getElem?_drop] at hj
            rw [if_pos (by omega)]
            rw [show row * b.wd + (j - row * b.wd) = j by omega] at hj
            exact hcell j u hj
          · rw [if_neg h3] at hj
            by_cases h4 : j - row * b.wd < col + vs.length
            · rw [if_pos h4] at hj
              rw [if_neg (by omega), if_pos (by omega), show j - (row * b.wd + col) = j - row * b.wd - col by omega]
              exact hj
            · rw [if_neg h4, List.getElem?_take, if_pos (by omega), List.getElem?_drop] at hj
              rw [if_neg (by omega), if_neg (by omega)]
              rw [show row * b.wd + (j - row * b.wd) = j by omega] at hj
              exact hcell j u hj
        · rw [if_neg h2] at hj
          rw [if_neg (by omega), if_neg (by omega)]
          exact hcell j u hj
  exact {
    dom := fun q hq => by
      by_cases hqk : q = k
      · subst hqk
        exact ⟨_, by rw [List.getElem?_set_self (List.getElem?_eq_some_iff.1 hb).1], hself⟩
      · obtain ⟨bq, eq, rq⟩ := hI.dom q hq
        refine ⟨bq, by rw [List.getElem?_set_ne (fun e => hqk e.symm)]; exact eq, rq.le hle rfl (fun hnq => hg.block _ (rq.lt hnq) (fun e => ?_)) (fun _ => allR_true _)⟩
        injection e with e
        exact hI.inj q k hq hD hqk hnq hn e
    inj := hI.inj
    xsep := hI.xsep
    xlt := fun q hq => by simpa [World.setRow] using hI.xlt q hq
    xY := hI.xY
    bnd := hI.bnd
    bndG := hI.bndG
    e0 := hI.e0
    mlen := by rw [List.length_set]; exact hI.mlen
    os := hI.os
    tape := hI.tape
    output := hI.output
    size := by simpa [World.setRow] using hI.size
    keep := fun j hj hm hy => by
      have hjn : j ≠ (c.E k).b := fun e => by
        rcases hI.loc k hD hn with h1 | h1
        · exact hm (e ▸ h1)
        · omega
      exact (setRow_other c.w (c.E k).b j arr' hjn).trans (hI.keep j hj hm hy)
    loc := hI.loc
    x0 := hI.x0
    zc := hI.zc
    z0 := hI.z0
    xk := hI.xk
    ca := hI.ca
    cc := fun q hq => ⟨Nat.lt_of_lt_of_le (hI.cc q hq).1 hg.size, (hI.cc q hq).2⟩
    gh := fun q blk hq hbq hnq hgr => by
      have hqk : q ≠ k := fun e => by subst e; rw [show (c.E q).nil = true from hnq] at hn; cases hn
      rw [List.getElem?_set_ne (fun e => hqk e.symm)] at hbq
      exact hI.ghs ⟨hg.os, hg.tape, hg.output, hg.size, fun z hz => hg.block z (hI.cc z hz).1 (fun e => by cases e; exact (hI.cc _ hz).2.1 k hD hn rfl)⟩ hq hbq hnq hgr }

section
variable {G : Gm} {tm : List Sv} {hp : Hp} {o : Oper}

theorem storeV_sound {t : Nat} {x y : Operand} {K : Hp → Prop} (ho : o.op = .store t x y) (hd : o.dst = none) (h : storeV G hp t (evO tm x) (evO tm y) K) : ∃ hp', K hp' ∧ SStep G.P o tm hp tm hp' := by
  obtain ⟨i, hi, h⟩ := h
  have ht := G.ok t i hi
  split at h
  case h_2 => exact h.elim
  rename_i k row col hx
  obtain ⟨b, hb, r, hr, xs, hxs, ⟨hsz, hcol⟩, h⟩ := h
  rw [rowK_eq, blkK_eq, spineK_eq] at h
  refine ⟨_, h, fun F n w0 M c a ds next Q hF hS hn => ?_⟩
  have rx := hS.opnd x
  have ry := hS.opnd y
  rw [hx] at rx
  simp only [Rel] at rx
  obtain ⟨hD, hnil, hv⟩ := rx
  obtain ⟨vs, hvs, hl⟩ := ry.parts hxs
  rw [hpGet_eq] at hb
  rw [nth_eq] at hr
  obtain ⟨w', hrun, hI', hle, hcs⟩ := hS.inv.store hD hnil hb hr hl hcol G.P
  have hlen := RelL_len _ hl
  have hst : (execOp a.eval o).run G.P c.w = .ok .skip w' := by
    simp [execOp, ho, hv, Instr.storeAt, Instr.sureAddr, storeVar, ht.run_sizeOf, hvs, hlen, hsz, hrun]
  have hnext := hn a { c with w := w' } (by
    have := (hS.le (kl := []) (c' := { c with w := w' }) (by rw [notNil]; exact hle) hI' ⟨rfl, rfl, rfl, fun b hb => hcs b hb⟩ fun q bq hq => by
      by_cases hqk : q = k
      · subst hqk; exact hD
      · rw [List.getElem?_set_ne (fun e => hqk e.symm)] at hq
        exact hS.full q bq hq)
    exact this)
  refine ⟨fun f _ => hF.fn f, ?_⟩
  rw [Oper.semAt_eq _ _ _ (by rw [ho]; simp), hst]
  simp only [Oper.uponIn, hd, Act.put]
  exact hnext
end
end Go.Eng
