/- The engine, part C: the types' table; operations that only compute or read. -/
import Derived.Test.YtobojnfhhobnkaaEngB
import Derived.Laws.Entries
import Derived.Laws.Cells
import Derived.AtR
set_option linter.unusedSimpArgs false
set_option maxRecDepth 20000
set_option linter.unusedVariables false
namespace Go.Eng
open Go Go.RowKit

inductive TK where
  | other
  | bool
  | int (k : IntKind)
  | str
  | func
  | struct (fs : List (Nat × Nat))
  | slice (e : Nat)
  | ptr (e : Nat)
  | arr (n e : Nat)

structure TI where
  kind : TK
  size : Nat
  bytes : Nat
  zero : List Value

def TK.agg : TK → Bool
  | .struct _ => true
  | .arr _ _ => true
  | _ => false

def TK.fits : TK → TypeDesc → Prop
  | .other, d => match d with | .struct _ | .array _ _ => False | _ => True
  | .bool, d => d = .bool
  | .int k, d => d = .int k
  | .str, d => d = .string
  | .func, d => ∃ a b v, d = .func a b v
  | .struct fs, d => ∃ F : Array Field, d = .struct F ∧ F.toList.map (fun f => (f.offset, f.type)) = fs
  | .slice e, d => d = .slice e
  | .ptr e, d => d = .pointer e
  | .arr n e, d => d = .array n e

structure TIok (P : Program) (t : Nat) (i : TI) : Prop where
  info : ∃ I, P.info? t = some I ∧ I.size = i.size ∧ I.bytes = i.bytes ∧ ∃ z, I.zero = some z ∧ z.cells = i.zero.toArray
  desc : ∃ d, P.underlying t = some d ∧ i.kind.fits d

/-- A program, and what is known of its types. -/
structure Gm where
  P : Program
  tab : Nat → Option TI
  ok : ∀ t i, tab t = some i → TIok P t i
  mix : P.follows .mixedOrders = true
  m : Nat := 0
  l : Nat := 0
  its : List (List Sv) := []
  J : Option (World → Nat → List (List Sv) → (Nat → Prop) → (Nat → Prop) → World → Prop) := none

/-- The same program, in a function that is handed m blocks to turn. -/
def Gm.at (G : Gm) (m : Nat) : Gm := { G with m := m, J := none }
/-- The same program, in a function that the loop l ranges over, which hands its body its. -/
def Gm.it (G : Gm) (l : Nat) (its : List (List Sv)) : Gm := { G with m := 1, l := l, its := its, J := none }
/-- The same program, with a tale of blocks that no local block is. -/
def Gm.tale (G : Gm) (J : World → Nat → List (List Sv) → (Nat → Prop) → (Nat → Prop) → World → Prop) : Gm := { G with J := some J }

inductive Need (p k : Prop) : Prop
  | mk : p → k → Need p k
/-- The same, told another way. -/
inductive EqK {α : Type} (a : α) (K : α → Prop) : Prop
  | mk (b : α) : a = b → K b → EqK a K
theorem EqK.go {α : Type} {a : α} {K : α → Prop} (h : EqK a K) : K a := by
  obtain ⟨b, rfl, h⟩ := h
  exact h
inductive Get {α : Type} (o : Option α) (k : α → Prop) : Prop
  | mk (a : α) : o = some a → k a → Get o k
inductive Br (b : Bool) (t e : Prop) : Prop
  | mk : (b = true → t) → (b = false → e) → Br b t e
theorem Br.t {t e : Prop} (h : t) : Br true t e := ⟨fun _ => h, fun h => by cases h⟩
theorem Br.f {t e : Prop} (h : e) : Br false t e := ⟨fun h => (by cases h), fun _ => h⟩

def nth {α : Type} : List α → Nat → Option α
  | [], _ => none
  | x :: _, 0 => some x
  | _ :: xs, n + 1 => nth xs n
theorem nth_eq {α : Type} : ∀ (l : List α) (n : Nat), nth l n = l[n]?
  | [], _ => by simp [nth]
  | _ :: _, 0 => by simp [nth]
  | _ :: xs, n + 1 => by simp [nth, nth_eq xs n]

def hpGet (hp : Hp) (k : Nat) : Option Blk :=
  match nth hp k with
  | some b => b
  | none => none
theorem hpGet_eq {hp : Hp} {k : Nat} {b : Blk} : hpGet hp k = some b ↔ hp[k]? = some (some b) := by
  unfold hpGet
  rw [nth_eq]
  cases hp[k]? with
  | none => simp
  | some x => simp

def tmGet (tm : List Sv) (t : Nat) : Sv :=
  match nth tm t with
  | some s => s
  | none => .any

def evO (tm : List Sv) : Operand → Sv
  | .tmp t => tmGet tm t
  | .const v => .val v
  | .global g => .val (.pointer (some ⟨g, 0, none⟩))
  | .func f => .clo f []

/-- One cell, for certain. -/
def Sv.one : Sv → Bool
  | .val x => x.oneCell'
  | .ptr _ _ _ => true
  | .own _ _ => true
  | .sls _ _ _ => true
  | .ext _ _ _ => true
  | .ref _ _ => true
  | .clo _ _ => true
  | _ => false

theorem Rel.one {s : Sv} {c : Cx} {v : Value} (h : s.one = true) (r : Rel s c v) : v.oneCell' = true := by
  cases s <;> simp only [Sv.one, Rel] at h r <;> try (cases h; done)
  case val x => subst r; exact h
  case ptr k row col => obtain ⟨_, _, rfl⟩ := r; rfl
  case own k n => obtain ⟨_, ⟨_, rfl, _⟩ | ⟨_, rfl, _⟩⟩ := r <;> rfl
  case sls k lo n => obtain ⟨_, a, cap, rfl, _⟩ := r; rfl
  case ext fr wd rows => obtain ⟨a, cap, rfl, _⟩ := r; rfl
  case ref cs => obtain ⟨b, off, rfl, _⟩ := r; rfl
  case clo f cs => obtain ⟨vs, rfl, _⟩ := r; rfl

theorem Cx.shut_le (c : Cx) : c.shut.Le (fun _ => true) c := ⟨fun _ _ h => h.elim, fun _ h => h, fun _ _ h => h, fun _ _ => rfl⟩
theorem Blk.cx_le (k : Blk) (c : Cx) : (k.cx c).Le (fun _ => true) c := by
  unfold Blk.cx
  split
  · exact c.shut_le
  · exact ⟨fun _ _ h => ⟨h, rfl⟩, fun _ h => h, fun _ _ h => h, fun _ _ => rfl⟩
theorem Blk.cx_w (k : Blk) (c : Cx) : (k.cx c).w = c.w := by unfold Blk.cx; split <;> rfl

/-- What an operation that only computes or reads leaves: the value s. -/
def PureS (P : Program) (o : Oper) (tm : List Sv) (hp : Hp) (s : Sv) : Prop :=
  ∀ (w0 : World) (M : Frm) (c : Cx) (a : Act), Inv w0 M c hp → (∀ x ∈ o.op.operands, Rel (evO tm x) c (a.eval x)) →
    ∃ v, (execOp a.eval o).run P c.w = .ok (.value v) c.w ∧ Rel s c v

section
variable {G : Gm} {tm : List Sv} {hp : Hp} {o : Oper}

theorem TIok.run_sizeOf {P : Program} {t : Nat} {i : TI} (h : TIok P t i) (w : World) : (sizeOf t).run P w = .ok i.size w := by
  obtain ⟨I, hI, hs, _⟩ := h.info
  simp [sizeOf, typeInfo, hI, hs]

theorem TIok.run_isAgg {P : Program} {t : Nat} {i : TI} (h : TIok P t i) (w : World) : (isAgg t).run P w = .ok i.kind.agg w := by
  obtain ⟨d, hd, hf⟩ := h.desc
  unfold isAgg
  simp only [Sem.run_bind, run_underlying hd, Result.andThen_ok]
  cases hk : i.kind <;> rw [hk] at hf <;> simp only [TK.fits] at hf <;> simp only [TK.agg]
  case other => cases d <;> simp_all
  case struct fs => obtain ⟨F, rfl, _⟩ := hf; simp
  case func => obtain ⟨x, y, z, rfl⟩ := hf; simp
  all_goals (subst hf; simp)

/-! ### Reading -/
/-- What a row of cells gives at a type: one value, or an aggregate. -/
def cellsV (i : TI) (cs : List Sv) (K : Sv → Prop) : Prop :=
  match i.kind.agg with
  | true => Need (i.size ≤ cs.length) (K (.agg (cs.take i.size)))
  | false => Get (nth cs 0) K

theorem cellsV_sound {i : TI} {cs : List Sv} {K : Sv → Prop} (h : cellsV i cs K) : ∃ s, K s ∧ ∀ {P : Program} {t : Nat} {c c' : Cx} {b off : Nat}, TIok P t i → RelC cs c b off → c.w = c'.w → c.Le (fun _ => true) c' →
    ∃ v, (loadVar t ⟨b, off, none⟩).run P c'.w = .ok v c'.w ∧ Rel s c' v := by
  unfold cellsV at h
  cases ha : i.kind.agg with
  | true =>
    rw [ha] at h
    obtain ⟨hl, hk⟩ := h
    refine ⟨_, hk, fun {P t c c' b off} ht hr hw hle => ?_⟩
    obtain ⟨vs, hv, hc⟩ := RelC_vals _ (RelC_take i.size cs hr)
    have hlen := RelL_len _ hv
    rw [List.length_take, Nat.min_eq_left hl] at hlen
    refine ⟨.agg vs.toArray, ?_, ?_⟩
    · have := run_loadCells_list (P := P) c'.w ⟨b, off, none⟩ vs (fun j v hj => by rw [Addr.add_lit, ← hw]; exact hc j v hj)
      rw [hlen] at this
      simp [loadVar, ht.run_isAgg, ha, ht.run_sizeOf, this]
    · have := RelL.le _ (allL_true _) hle hv
      simp only [Rel]
      exact ⟨vs, rfl, this⟩
  | false =>
    rw [ha] at h
    obtain ⟨s, hs, hk⟩ := h
    refine ⟨s, hk, fun {P t c c' b off} ht hr hw hle => ?_⟩
    rw [nth_eq] at hs
    obtain ⟨u, hu, _, hrel⟩ := RelC_get cs hr 0 s hs
    refine ⟨u, ?_, Rel.le _ (Sv.all_true _) hle hrel⟩
    rw [hw] at hu
    simp only [Nat.add_zero] at hu
    simp [loadVar, ht.run_isAgg, ha, hu]

def loadV (G : Gm) (t : Nat) (hp : Hp) (x : Sv) (K : Sv → Prop) : Prop :=
  Get (G.tab t) fun i =>
    match x with
    | .ptr k row col => Get (hpGet hp k) fun b => Get (nth b.rows row) fun r => cellsV i (r.drop col) K
    | .ref _ cs => cellsV i cs K
    | _ => False

theorem loadV_sound {t : Nat} {x : Operand} {K : Sv → Prop} (ho : o.op = .load t x) (h : loadV G t hp (evO tm x) K) : ∃ s, K s ∧ PureS G.P o tm hp s := by
  obtain ⟨i, hi, h⟩ := h
  have ht := G.ok t i hi
  split at h
  · rename_i k row col hx
    obtain ⟨b, hb, r, hr, h⟩ := h
    obtain ⟨s, hk, hs⟩ := cellsV_sound h
    refine ⟨s, hk, fun w0 M c a hI ha => ?_⟩
    have hra := ha x (by rw [ho]; simp [Op.operands])
    rw [hx] at hra
    simp only [Rel] at hra
    obtain ⟨hD, hn, hv⟩ := hra
    obtain ⟨b', hb', hrel⟩ := hI.dom k hD
    rw [hpGet_eq] at hb
    rw [hb] at hb'
    cases hb'
    obtain ⟨hwd, _, hreal⟩ := hrel
    obtain ⟨arr, hh, hrr, _⟩ := hreal hn
    · rw [nth_eq] at hr
      obtain ⟨_, hc⟩ := RelR_get _ hrr row r hr
      obtain ⟨v, hrun, hrel⟩ := hs ht (RelC_drop col r hc) (b.cx_w c) (b.cx_le c)
      refine ⟨v, ?_, hrel⟩
      rw [hwd] at hv
      rw [show 0 + row * b.wd + col = row * b.wd + col by omega] at hrun
      simp [execOp, ho, hv, Instr.loadAt, Instr.sureAddr, hrun]
  · rename_i fr cs hx
    obtain ⟨s, hk, hs⟩ := cellsV_sound h
    refine ⟨s, hk, fun w0 M c a hI ha => ?_⟩
    have hra := ha x (by rw [ho]; simp [Op.operands])
    rw [hx] at hra
    simp only [Rel] at hra
    obtain ⟨b, off, hv, _, _, hc⟩ := hra
    obtain ⟨v, hrun, hrel⟩ := hs (c' := c) ht hc rfl c.shut_le
    refine ⟨v, ?_, hrel⟩
    simp [execOp, ho, hv, Instr.loadAt, Instr.sureAddr, hrun]
  · exact h.elim

/-! ### Addresses -/
def fieldV (G : Gm) (t f : Nat) (x : Sv) (K : Sv → Prop) : Prop :=
  Get (G.tab t) fun i =>
    match i.kind with
    | .struct fs => Get (nth fs f) fun p => Get (G.tab p.2) fun j => Need (j.size ≠ 0) <|
      match x with
      | .ptr k row col => K (.ptr k row (col + p.1))
      | .ref fr cs => K (.ref fr (cs.drop p.1))
      | _ => False
    | _ => False

theorem run_fieldAt {P : Program} {t f : Nat} {i j : TI} {fs : List (Nat × Nat)} {p : Nat × Nat} (ht : TIok P t i) (hk : i.kind = .struct fs) (hp : nth fs f = some p) (hj : TIok P p.2 j) (h0 : j.size ≠ 0) (b off : Nat) (w : World) :
    (Instr.fieldAt t (.pointer (some ⟨b, off, none⟩)) f).run P w = .ok (.pointer (some ⟨b, off + p.1, none⟩)) w := by
  obtain ⟨d, hd, hf⟩ := ht.desc
  rw [hk] at hf
  obtain ⟨F, rfl, hF⟩ := hf
  rw [nth_eq, ← hF, List.getElem?_map] at hp
  have hq : ∃ fd, F[f]? = some fd ∧ (fd.offset, fd.type) = p := by
    rw [← Array.getElem?_toList]
    cases hx : F.toList[f]? with
    | none => rw [hx] at hp; cases hp
    | some fd => rw [hx] at hp; exact ⟨fd, rfl, by simpa using hp⟩
  obtain ⟨fd, hfd, rfl⟩ := hq
  simp [Instr.fieldAt, run_underlying hd, hfd, Instr.sureAddr, fieldPlace, hj.run_sizeOf, h0, Addr.add_lit]

theorem fieldV_sound {t f : Nat} {x : Operand} {K : Sv → Prop} (ho : o.op = .fieldAddr t x f) (h : fieldV G t f (evO tm x) K) : ∃ s, K s ∧ PureS G.P o tm hp s := by
  obtain ⟨i, hi, h⟩ := h
  split at h
  · rename_i fs hk
    obtain ⟨p, hp', j, hj, h0, h⟩ := h
    split at h
    · rename_i k row col hx
      refine ⟨_, h, fun w0 M c a hI ha => ?_⟩
      have hra := ha x (by rw [ho]; simp [Op.operands])
      rw [hx] at hra
      simp only [Rel] at hra
      obtain ⟨hD, hn, hv⟩ := hra
      have := run_fieldAt (G.ok t i hi) hk hp' (G.ok _ j hj) h0 (c.E k).b (row * (c.E k).wd + col) c.w
      refine ⟨_, by simp [execOp, ho, hv, this]; rfl, ?_⟩
      simp only [Rel]
      exact ⟨hD, hn, by rw [Nat.add_assoc]⟩
    · rename_i fr cs hx
      refine ⟨_, h, fun w0 M c a hI ha => ?_⟩
      have hra := ha x (by rw [ho]; simp [Op.operands])
      rw [hx] at hra
      simp only [Rel] at hra
      obtain ⟨b, off, hv, hX, hf, hc⟩ := hra
      have := run_fieldAt (G.ok t i hi) hk hp' (G.ok _ j hj) h0 b off c.w
      refine ⟨_, by simp [execOp, ho, hv, this]; rfl, ?_⟩
      simp only [Rel]
      exact ⟨b, off + p.1, rfl, hX, hf, RelC_drop _ _ hc⟩
    · exact h.elim
  · exact h.elim

def indexV (G : Gm) (t : Nat) (hp : Hp) (x ix : Sv) (K : Sv → Prop) : Prop :=
  Get (G.tab t) fun i =>
    match i.kind, ix with
    | .slice e, .val (.int _ n) => Get (G.tab e) fun j =>
      match x with
      | .own k m => Get (hpGet hp k) fun b => Need (b.wd = j.size) <| Need (0 ≤ n ∧ n < (m : Int)) (K (.ptr k n.toNat 0))
      | .sls k lo m => Get (hpGet hp k) fun b => Need (b.wd = j.size) <| Need (0 ≤ n ∧ n < (m : Int)) (K (.ptr k (lo + n.toNat) 0))
      | .ext fr wd rows => Need (wd = j.size) <| Need (0 ≤ n) <| Get (nth rows n.toNat) fun r => K (.ref fr r)
      | _ => False
    | _, _ => False

theorem run_indexAt {P : Program} {t e : Nat} {i j : TI} (ht : TIok P t i) (hk : i.kind = .slice e) (hj : TIok P e j) (ki : IntKind) (n : Int) (b off len cap : Nat) (h0 : 0 ≤ n) (h1 : n < (len : Int)) (w : World) :
    (Instr.indexAt t (.slice (some ⟨b, off, none⟩) len cap) (.int ki n)).run P w = .ok (.pointer (some ⟨b, off + n.toNat * j.size, none⟩)) w := by
  obtain ⟨d, hd, hf⟩ := ht.desc
  rw [hk] at hf
  simp only [TK.fits] at hf
  subst hf
  simp [Instr.indexAt, asIntOf, run_underlying hd, h0, h1, hj.run_sizeOf, Addr.add_lit]

theorem indexV_sound {t : Nat} {x ix : Operand} {K : Sv → Prop} (ho : o.op = .indexAddr t x ix) (h : indexV G t hp (evO tm x) (evO tm ix) K) : ∃ s, K s ∧ PureS G.P o tm hp s := by
  obtain ⟨i, hi, h⟩ := h
  split at h
  · rename_i e ki n hk hix
    obtain ⟨j, hj, h⟩ := h
    have run := run_indexAt (G.ok t i hi) hk (G.ok e j hj)
    split at h
    · rename_i k m hx
      obtain ⟨b, hb, hw, ⟨h0, h1⟩, h⟩ := h
      refine ⟨_, h, fun w0 M c a hI ha => ?_⟩
      have hra := ha x (by rw [ho]; simp [Op.operands])
      have hri := ha ix (by rw [ho]; simp [Op.operands])
      rw [hx] at hra
      rw [hix] at hri
      simp only [Rel] at hra hri
      obtain ⟨hD, ⟨_, _, hm⟩ | ⟨hn, hv, _⟩⟩ := hra
      · omega
      · obtain ⟨b', hb', hwd, _⟩ := hI.dom k hD
        rw [hpGet_eq] at hb
        rw [hb] at hb'
        cases hb'
        refine ⟨_, by simp [execOp, ho, hv, hri, run ki n _ _ _ _ h0 h1]; rfl, ?_⟩
        simp only [Rel]
        exact ⟨hD, hn, by rw [hwd, hw]; simp⟩
    · rename_i k lo m hx
      obtain ⟨b, hb, hw, ⟨h0, h1⟩, h⟩ := h
      refine ⟨_, h, fun w0 M c a hI ha => ?_⟩
      have hra := ha x (by rw [ho]; simp [Op.operands])
      have hri := ha ix (by rw [ho]; simp [Op.operands])
      rw [hx] at hra
      rw [hix] at hri
      simp only [Rel] at hra hri
      obtain ⟨hD, A, cap, hv, _, hm | ⟨hn, hA⟩⟩ := hra
      · omega
      · obtain ⟨b', hb', hwd, _⟩ := hI.dom k hD
        rw [hpGet_eq] at hb
        rw [hb] at hb'
        cases hb'
        refine ⟨_, by simp [execOp, ho, hv, hA, hri, run ki n _ _ _ _ h0 h1]; rfl, ?_⟩
        simp only [Rel]
        exact ⟨hD, hn, by rw [hwd, hw, Nat.add_mul]; simp⟩
    · rename_i fr wd rows hx
      obtain ⟨hw, h0, r, hr, h⟩ := h
      refine ⟨_, h, fun w0 M c a hI ha => ?_⟩
      have hra := ha x (by rw [ho]; simp [Op.operands])
      have hri := ha ix (by rw [ho]; simp [Op.operands])
      rw [hx] at hra
      rw [hix] at hri
      simp only [Rel] at hra hri
      obtain ⟨A, cap, hv, _, hA⟩ := hra
      rw [nth_eq] at hr
      have hlt : n.toNat < rows.length := (List.getElem?_eq_some_iff.1 hr).1
      rcases hA with rfl | ⟨b, off, hA, hX, hfr, hR⟩
      · simp at hlt
      · obtain ⟨_, hc⟩ := RelR_get _ hR n.toNat r hr
        refine ⟨_, by simp [execOp, ho, hv, hA, hri, run ki n _ _ _ _ h0 (show n < (rows.length : Int) by omega)]; rfl, ?_⟩
        simp only [Rel]
        exact ⟨b, _, rfl, hX, hfr, by rw [← hw]; exact hc⟩
    · exact h.elim
  · exact h.elim

/-! ### Values -/
theorem moveV_sound {x : Operand} {K : Sv → Prop} (ho : o.op = .move x ∨ o.op = .assign x) (h : K (evO tm x)) : ∃ s, K s ∧ PureS G.P o tm hp s := by
  refine ⟨_, h, fun w0 M c a hI ha => ⟨a.eval x, ?_, ?_⟩⟩
  · rcases ho with ho | ho <;> simp [execOp, ho]
  · exact ha x (by rcases ho with ho | ho <;> rw [ho] <;> simp [Op.operands])

def pickV (tm : List Sv) (b x y : Operand) (K : Sv → Prop) : Prop :=
  match evO tm b with
  | .val (.bool t) => Br t (K (evO tm x)) (K (evO tm y))
  | _ => False

theorem pickV_sound {b x y : Operand} {K : Sv → Prop} (ho : o.op = .pick b x y) (h : pickV tm b x y K) : ∃ s, K s ∧ PureS G.P o tm hp s := by
  unfold pickV at h
  split at h
  · rename_i t hb
    obtain ⟨h1, h2⟩ := h
    cases t with
    | true =>
      refine ⟨_, h1 rfl, fun w0 M c a hI ha => ⟨a.eval x, ?_, ha x (by rw [ho]; simp [Op.operands])⟩⟩
      have := ha b (by rw [ho]; simp [Op.operands])
      rw [hb] at this
      simp only [Rel] at this
      simp [execOp, ho, this, asBool]
    | false =>
      refine ⟨_, h2 rfl, fun w0 M c a hI ha => ⟨a.eval y, ?_, ha y (by rw [ho]; simp [Op.operands])⟩⟩
      have := ha b (by rw [ho]; simp [Op.operands])
      rw [hb] at this
      simp only [Rel] at this
      simp [execOp, ho, this, asBool]
  · exact h.elim

/-- Arithmetic and comparisons of whole numbers. -/
def binI (op : BinOp) (k : IntKind) (a b : Int) : Option Value :=
  match op with
  | .add => some (.int k (k.wrap (a + b)))
  | .sub => some (.int k (k.wrap (a - b)))
  | .mul => some (.int k (k.wrap (a * b)))
  | .eql => some (.bool (a == b))
  | .neq => some (.bool (a != b))
  | .lss => some (.bool (decide (a < b)))
  | .leq => some (.bool (decide (a ≤ b)))
  | .gtr => some (.bool (decide (a > b)))
  | .geq => some (.bool (decide (a ≥ b)))
  | _ => none

def binK (op : BinOp) (k : IntKind) (a b : Int) (K : Value → Prop) (els : Prop) : Prop :=
  match op with
  | .add => EqK (k.wrap (a + b)) fun n => K (.int k n)
  | .sub => EqK (k.wrap (a - b)) fun n => K (.int k n)
  | .mul => EqK (k.wrap (a * b)) fun n => K (.int k n)
  | op => match binI op k a b with
    | some v => K v
    | none => els
theorem binK_sound {op : BinOp} {k : IntKind} {a b : Int} {K : Value → Prop} {els : Prop} (h : binK op k a b K els) : (∃ v, binI op k a b = some v ∧ K v) ∨ els := by
  unfold binK at h
  split at h
  · exact .inl ⟨_, rfl, h.go⟩
  · exact .inl ⟨_, rfl, h.go⟩
  · exact .inl ⟨_, rfl, h.go⟩
  · split at h
    · rename_i v hv
      exact .inl ⟨v, hv, h⟩
    · exact .inr h

/-- Any operation whose value is told by a run that leaves each world as it is. -/
inductive Scal (P : Program) (m : Sem Value) (K : Sv → Prop) : Prop
  | mk (v : Value) : (∀ w, m.run P w = .ok v w) → K (.val v) → Scal P m K

def binV (G : Gm) (op : BinOp) (t : Nat) (x y : Sv) (K : Sv → Prop) : Prop :=
  match x, y with
  | .val (.int k a), .val (.int k' b) => Need (k = k') <| binK op k a b (fun v => K (.val v)) (Scal G.P (binOp op t (.int k a) (.int k' b)) K)
  | .val (.bool a), .val (.bool b) =>
    Get (G.tab t) fun i => match i.kind, op with
      | .bool, .eql => K (.val (.bool (a == b)))
      | .bool, .neq => K (.val (.bool (!(a == b))))
      | _, _ => False
  | .val a, .val b => Scal G.P (binOp op t a b) fun s => match a, b with | .nilIface, _ => False | .agg _, _ => False | _, _ => K s
  | _, _ => False

theorem run_equal_bool {P : Program} {t : Nat} (hd : P.underlying t = some .bool) (a b : Bool) (w : World) : (Op.equal t (.bool a) (.bool b)).run P w = .ok (a == b) w := by
  have h : ∀ d : Nat, (Op.equalIn (d + 1) t (.bool a) (.bool b)).run P w = .ok (a == b) w := fun d => by
    simp [Op.equalIn, run_underlying hd]
  exact h 9999

theorem binV_sound {op : BinOp} {t yt : Nat} {x y : Operand} {K : Sv → Prop} (ho : o.op = .binOp op t x y yt) (h : binV G op t (evO tm x) (evO tm y) K) : ∃ s, K s ∧ PureS G.P o tm hp s := by
  have opnd : ∀ {c : Cx} {a : Act} {u v : Value}, (∀ x ∈ o.op.operands, Rel (evO tm x) c (a.eval x)) → evO tm x = .val u → evO tm y = .val v → a.eval x = u ∧ a.eval y = v := by
    intro c a u v ha hx hy
    have h1 := ha x (by rw [ho]; simp [Op.operands])
    have h2 := ha y (by rw [ho]; simp [Op.operands])
    rw [hx] at h1
    rw [hy] at h2
    simp only [Rel] at h1 h2
    exact ⟨h1, h2⟩
  unfold binV at h
  split at h
  · rename_i k a k' b hx hy
    obtain ⟨rfl, h⟩ := h
    have hg : ∀ w, (eqGuard op t x y (.int k a) (.int k b)).run G.P w = .ok () w := fun w => by
      unfold eqGuard; cases op <;> rfl
    rcases binK_sound h with ⟨v, hv, h⟩ | h
    · refine ⟨_, h, fun w0 M c A hI ha => ⟨v, ?_, by simp [Rel]⟩⟩
      obtain ⟨e1, e2⟩ := opnd ha hx hy
      have hrun : (binOp op t (.int k a) (.int k b)).run G.P c.w = .ok v c.w := by
        cases op <;> simp [binI] at hv <;> subst hv <;> simp [binOp, Op.intArith, Op.intCmp]
      simp [execOp, ho, e1, e2, hg, hrun]
    · obtain ⟨v, hv, h⟩ := h
      refine ⟨_, h, fun w0 M c A hI ha => ⟨v, ?_, by simp [Rel]⟩⟩
      obtain ⟨e1, e2⟩ := opnd ha hx hy
      simp [execOp, ho, e1, e2, hg, hv]
  · rename_i a b hx hy
    obtain ⟨i, hi, h⟩ := h
    obtain ⟨d, hd, hf⟩ := (G.ok t i hi).desc
    have hg : ∀ w, (eqGuard op t x y (.bool a) (.bool b)).run G.P w = .ok () w := fun w => by
      unfold eqGuard; cases op <;> rfl
    split at h
    · rename_i hk
      rw [hk] at hf
      simp only [TK.fits] at hf
      subst hf
      refine ⟨_, h, fun w0 M c A hI ha => ⟨.bool _, ?_, by simp only [Rel]; rfl⟩⟩
      obtain ⟨e1, e2⟩ := opnd ha hx hy
      have hrun : (binOp .eql t (.bool a) (.bool b)).run G.P c.w = .ok (.bool (a == b)) c.w := by simp [binOp, run_equal_bool hd]
      simp [execOp, ho, e1, e2, hg, hrun]
    · rename_i hk
      rw [hk] at hf
      simp only [TK.fits] at hf
      subst hf
      refine ⟨_, h, fun w0 M c A hI ha => ⟨.bool _, ?_, by simp only [Rel]; rfl⟩⟩
      obtain ⟨e1, e2⟩ := opnd ha hx hy
      have hrun : (binOp .neq t (.bool a) (.bool b)).run G.P c.w = .ok (.bool (!(a == b))) c.w := by simp [binOp, run_equal_bool hd]
      simp [execOp, ho, e1, e2, hg, hrun]
    · exact h.elim
  · rename_i a b _ _ hx hy
    obtain ⟨v, hv, h⟩ := h
    split at h
    · exact h.elim
    · exact h.elim
    · rename_i h1 h2
      refine ⟨_, h, fun w0 M c A hI ha => ⟨v, ?_, by simp [Rel]⟩⟩
      obtain ⟨e1, e2⟩ := opnd ha hx hy
      have hg : (eqGuard op t x y a b).run G.P c.w = .ok () c.w := by
        unfold eqGuard
        cases op <;> first | rfl | (cases a <;> first | (exact absurd rfl (h2 _)) | (exact absurd rfl h1) | (cases b <;> rfl))
      simp [execOp, ho, e1, e2, hg, hv]
  · exact h.elim
end
end Go.Eng
