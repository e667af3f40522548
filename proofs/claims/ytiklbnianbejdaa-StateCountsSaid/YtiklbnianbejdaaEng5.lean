/- The engine, fifth part. -/
import Derived.Test.YtiklbnianbejdaaEng4
import Derived.RangeFuncSeq
import Derived.RangeFuncNested
set_option linter.unusedSimpArgs false
set_option maxRecDepth 20000
set_option linter.unusedVariables false
/- The engine, part T: regions whose operations change nothing, with guards: each guarded operation's value is told under its guard, and the region is walked once. -/
namespace Go.Eng
open Go Go.RowKit

/-- What is known of an operation: its slot, the guards under which it runs (the nearest first), its value then. -/
structure QE where
  dst : Option Nat
  ch : List (Nat × Bool)
  s : Sv

/-- The guards say yes. -/
def Tr (T : List QE) (ch : List (Nat × Bool)) : Prop := ∀ p ∈ ch, ∃ e, T[p.1]? = some e ∧ e.s = .val (.bool p.2)
/-- P, under the guards. -/
def gImp (T : List QE) : List (Nat × Bool) → Prop → Prop
  | [], p => p
  | (j, w) :: r, p => match nth T j with
    | some e => match e.s with
      | .val (.bool b) => gImp T r (b = w → p)
      | _ => True
    | none => gImp T r p
theorem gImp_of {T T2 : List QE} : ∀ {ch : List (Nat × Bool)} {p : Prop}, gImp T ch p → Tr (T ++ T2) ch → p
  | [], p, h, _ => h
  | (j, w) :: r, p, h, ht => by
    obtain ⟨e, he, hs⟩ := ht (j, w) (by simp)
    simp only [gImp, nth_eq] at h
    simp only at he hs
    cases hj : T[j]? with
    | none =>
      rw [hj] at h
      exact gImp_of (T2 := T2) h (fun q hq => ht q (by simp [hq]))
    | some e' =>
      rw [List.getElem?_append_left (List.getElem?_eq_some_iff.1 hj).1, hj] at he
      cases he
      rw [hj] at h
      simp only [hs] at h
      exact gImp_of (T2 := T2) h (fun q hq => ht q (by simp [hq])) (by first | trivial | rfl)

/-- Guards of an operation. -/
def chainK (T : List QE) (seen : Nat → Bool) (g : Option (Nat × Bool)) (K : List (Nat × Bool) → Prop) : Prop :=
  match g with
  | none => K []
  | some (j, w) => match nth T j with
    | some e => match e.dst, e.s, seen j with
      | some _, .val (.bool _), true => K ((j, w) :: e.ch)
      | _, _, _ => False
    | none => False

def qBy : List QE → Nat → Nat → Option (Nat × List (Nat × Bool))
  | [], _, _ => none
  | e :: T, i, t => match e.dst with
    | some d => match Nat.beq d t with
      | true => some (i, e.ch)
      | false => qBy T (i + 1) t
    | none => qBy T (i + 1) t
def memC (p : Nat × Bool) : List (Nat × Bool) → Bool
  | [] => false
  | q :: r => (Nat.beq p.1 q.1 && (match p.2, q.2 with | true, true => true | false, false => true | _, _ => false)) || memC p r
def subC : List (Nat × Bool) → List (Nat × Bool) → Bool
  | [], _ => true
  | p :: r, ch => memC p ch && subC r ch
/-- Slot t may be read under these guards. -/
def okSlot (T : List QE) (seen : Nat → Bool) (dr : Bool) (ds : List Nat) (own : Option Nat) (ch : List (Nat × Bool)) (t : Nat) : Bool :=
  match qBy T 0 t with
  | some (k, ck) => seen k && subC ck ch
  | none => match dr with
    | false => true
    | true => match memB t ds with
      | false => true
      | true => match own with
        | some d => Nat.beq d t
        | none => false
def okOpnd (T : List QE) (seen : Nat → Bool) (dr : Bool) (ds : List Nat) (own : Option Nat) (ch : List (Nat × Bool)) : Operand → Bool
  | .tmp t => okSlot T seen dr ds own ch t
  | _ => true
def okOpnds (T : List QE) (seen : Nat → Bool) (dr : Bool) (ds : List Nat) (own : Option Nat) (ch : List (Nat × Bool)) : List Operand → Bool
  | [] => true
  | x :: xs => okOpnd T seen dr ds own ch x && okOpnds T seen dr ds own ch xs

/-- A value that is found under a condition. -/
inductive GdS (f : (Sv → List Blk → List Nat → Prop) → Prop) (g : Prop → Prop) (K : Sv → Prop) : Prop
  | mk (s : Sv) : g (f fun s' nb kl => nb = [] ∧ kl = [] ∧ s' = s) → K s → GdS f g K

/-- Operations that can be carried out whatever the numbers are. -/
def total (o : Oper) : Bool :=
  match o.op with
  | .move _ => true
  | .assign _ => true
  | .load _ _ => true
  | .fieldAddr _ _ _ => true
  | .unOp _ _ _ => true
  | .extract _ _ => true
  | .binOp op _ _ _ _ => match op with
    | .eql => true
    | .neq => true
    | .lss => true
    | .leq => true
    | .gtr => true
    | .geq => true
    | _ => false
  | .call c => match c.callee with
    | .builtin .len => true
    | _ => false
  | _ => false

def chk (b : Bool) (k : Prop) : Prop :=
  match b with
  | true => k
  | false => False
theorem chk_iff {b : Bool} {k : Prop} : chk b k ↔ b = true ∧ k := by
  cases b <;> simp [chk]

def pickS (x y : Operand) (b bx bY : Bool) : Bool :=
  match x with
  | .const (.bool true) => b || bY
  | _ => match y with
    | .const (.bool false) => b && bx
    | _ => bif b then bx else bY
theorem pickS_eq {tm : List Sv} {x y : Operand} {b bx bY : Bool} (hx : evO tm x = .val (.bool bx)) (hy : evO tm y = .val (.bool bY)) : pickS x y b bx bY = if b then bx else bY := by
  unfold pickS
  split
  · simp only [evO, Sv.val.injEq, Value.bool.injEq] at hx
    subst hx
    cases b <;> simp
  · split
    · simp only [evO, Sv.val.injEq, Value.bool.injEq] at hy
      subst hy
      cases b <;> simp
    · cases b <;> simp

def pickK (x y : Operand) (b bx bY : Bool) (K : Bool → Prop) : Prop :=
  match x with
  | .const (.bool true) => K (b || bY)
  | _ => match y with
    | .const (.bool false) => K (b && bx)
    | _ => K (bif b then bx else bY)
theorem pickK_eq (x y : Operand) (b bx bY : Bool) (K : Bool → Prop) : pickK x y b bx bY K = K (pickS x y b bx bY) := by
  unfold pickK pickS
  split
  · rfl
  · split <;> rfl

def stepQ (G : Gm) (hp : Hp) (seen : Nat → Bool) (dr : Bool) (ds : List Nat) (tm : List Sv) (T : List QE) (ch : List (Nat × Bool)) (o : Oper) (K : Sv → Prop) : Prop :=
  match o.op with
  | .pick b x y => match b with
    | .tmp t => match qBy T 0 t with
      | some (k, ck) => chk (seen k && subC ck ch && okOpnd T seen dr ds none ((k, true) :: ch) x && okOpnd T seen dr ds none ((k, false) :: ch) y) <|
        match evO tm b, evO tm x, evO tm y with
        | .val (.bool c), .val (.bool d), .val (.bool e) => pickK x y c d e fun b => K (.val (.bool b))
        | .val (.bool c), .val (.int .i64 d), .val (.int .i64 e) => K (.val (.int .i64 (if c then d else e)))
        | _, _, _ => False
      | none => False
    | _ => False
  | _ => chk (okOpnds T seen dr ds o.dst ch o.op.operands.toList) <|
    match ch with
    | [] => match o.op with
      | .binOp _ _ _ y _ => match isNil (evO tm y) with
        | true => GdS (opE G tm hp o) (fun p => p) K
        | false => opV G tm hp o fun s nb kl => match nb, kl with | [], [] => K s | _, _ => False
      | _ => opV G tm hp o fun s nb kl => match nb, kl with | [], [] => K s | _, _ => False
    | c :: ch => match total o with
      | true => match o.op with
        | .binOp _ _ _ y _ => match isNil (evO tm y) with
          | true => GdS (opE G tm hp o) (gImp T (c :: ch)) K
          | false => opV G tm hp o fun s nb kl => match nb, kl with | [], [] => K s | _, _ => False
        | _ => opV G tm hp o fun s nb kl => match nb, kl with | [], [] => K s | _, _ => False
      | false => GdS (opE G tm hp o) (gImp T (c :: ch)) K

def seenP (dr : Bool) (pt : List (List Nat)) (i : Nat) (k : Nat) : Bool :=
  match dr with
  | true => memB k (pre pt i)
  | false => Nat.blt k i

def runQ (G : Gm) (hp : Hp) (dr : Bool) (pt : List (List Nat)) (ds : List Nat) : List Oper → Nat → List Sv → List QE → (List Sv → List QE → Prop) → Prop
  | [], _, tm, T, K => K tm T
  | o :: os, i, tm, T, K => chk ((match dr with | true => (edges o).all (fun j => Nat.blt j i) | false => true) && dstOk o tm.length) <|
    chainK T (seenP dr pt i) o.guard fun ch => stepQ G hp (seenP dr pt i) dr ds tm T ch o fun s =>
      svK s fun s => setTK tm o.dst s fun tm => spineK (T ++ [⟨o.dst, ch, s⟩]) fun T => runQ G hp dr pt ds os (i + 1) tm T K

/-- What is known of an operation, for its soundness: tm0: the slots ahead of the region. -/
structure EntQ (P : Program) (hp : Hp) (seen : Nat → Bool) (dr : Bool) (tm0 : List Sv) (T : List QE) (i : Nat) (o : Oper) (e : QE) : Prop where
  edge : dr = true → ∀ j ∈ edges o, j < i
  dst : e.dst = o.dst
  lt : ∀ t, o.dst = some t → t < tm0.length
  ch : (o.guard = none ∧ e.ch = []) ∨ ∃ j w ej d b, o.guard = some (j, w) ∧ seen j = true ∧ T[j]? = some ej ∧ ej.dst = some d ∧ ej.s = .val (.bool b) ∧ e.ch = (j, w) :: ej.ch
  way : Tr T e.ch → ∃ tmi : List Sv, EStepK P o tmi hp (fun s nb kl => nb = [] ∧ kl = [] ∧ s = e.s) ∧
    ∀ t, Operand.tmp t ∈ o.op.operands → (∃ (k : Nat) (ek : QE), T[k]? = some ek ∧ ek.dst = some t ∧ seen k = true ∧ Tr T ek.ch ∧ tmGet tmi t = ek.s) ∨ ((∀ (k : Nat) (ek : QE), T[k]? = some ek → ek.dst = some t → (dr = false ∧ i ≤ k) ∨ k = i) ∧ tmGet tmi t = tmGet tm0 t) ∨ tmGet tmi t = .any

theorem qBy_some : ∀ {T : List QE} {i t k : Nat} {ck : List (Nat × Bool)}, qBy T i t = some (k, ck) → ∃ m e, k = i + m ∧ T[m]? = some e ∧ e.dst = some t ∧ e.ch = ck
  | e :: T, i, t, k, ck, h => by
    simp only [qBy] at h
    split at h
    · rename_i d hd
      split at h
      · rename_i hb
        simp only [Option.some.injEq, Prod.mk.injEq] at h
        exact ⟨0, e, by omega, rfl, by rw [hd, Nat.eq_of_beq_eq_true hb], h.2⟩
      · obtain ⟨m, e', h1, h2, h3⟩ := qBy_some h
        exact ⟨m + 1, e', by omega, by simpa using h2, h3⟩
    · obtain ⟨m, e', h1, h2, h3⟩ := qBy_some h
      exact ⟨m + 1, e', by omega, by simpa using h2, h3⟩
theorem qBy_none : ∀ {T : List QE} {i t : Nat}, qBy T i t = none → ∀ e ∈ T, e.dst ≠ some t
  | [], _, _, _, e, he => by cases he
  | x :: T, i, t, h, e, he => by
    simp only [qBy] at h
    split at h
    · rename_i d hd
      split at h
      · cases h
      · rename_i hb
        rcases List.mem_cons.1 he with rfl | he
        · rw [hd]
          intro h'
          cases h'
          rw [Nat.beq_refl] at hb
          cases hb
        · exact qBy_none h e he
    · rename_i hd
      rcases List.mem_cons.1 he with rfl | he
      · rw [hd]; simp
      · exact qBy_none h e he
theorem memC_mem {p : Nat × Bool} : ∀ {l : List (Nat × Bool)}, memC p l = true → p ∈ l
  | q :: r, h => by
    simp only [memC, Bool.or_eq_true, Bool.and_eq_true] at h
    rcases h with ⟨h1, h2⟩ | h
    · have h1 := Nat.eq_of_beq_eq_true h1
      obtain ⟨a, b⟩ := p
      obtain ⟨a', b'⟩ := q
      simp only at h1 h2
      subst h1
      cases b <;> cases b' <;> simp_all
    · exact List.mem_cons_of_mem _ (memC_mem h)
theorem subC_tr {T : List QE} {ch : List (Nat × Bool)} (ht : Tr T ch) : ∀ {l : List (Nat × Bool)}, subC l ch = true → Tr T l
  | [], _ => fun p hp => by cases hp
  | q :: r, h => fun p hp => by
    simp only [subC, Bool.and_eq_true] at h
    rcases List.mem_cons.1 hp with rfl | hp
    · exact ht _ (memC_mem h.1)
    · exact subC_tr ht h.2 p hp

/-- The slots as they are told on the way: each slot has its latest entry's value, or stands as it stood. -/
def Opt (tm0 : List Sv) (T : List QE) (tm : List Sv) : Prop :=
  tm.length = tm0.length ∧ ∀ t, (∀ (k : Nat) (e : QE), T[k]? = some e → e.dst = some t → tmGet tm t = e.s) ∧ ((∀ e ∈ T, e.dst ≠ some t) → tmGet tm t = tmGet tm0 t)

section
variable {G : Gm} {hp : Hp} {dr : Bool} {pt : List (List Nat)} {ds : List Nat} {tm0 : List Sv}

theorem okSlot_way {T T2 : List QE} {tm : List Sv} {i t : Nat} {o : Oper} {own : Option Nat} {ch : List (Nat × Bool)} (hTi : T.length = i) (hopt : Opt tm0 T tm) (hown : own = none ∨ own = o.dst)
    (hds : dr = true → ∀ (k : Nat) (ek : QE) (d : Nat), (T ++ T2)[k]? = some ek → ek.dst = some d → memB d ds = true) (hd : ∀ (k : Nat) (ek : QE), (T ++ T2)[k]? = some ek → ∀ d : Nat, o.dst = some d → ek.dst = some d → k = i)
    (h : okSlot T (seenP dr pt i) dr ds own ch t = true) (ht : Tr (T ++ T2) ch) :
    (∃ (k : Nat) (ek : QE), (T ++ T2)[k]? = some ek ∧ ek.dst = some t ∧ seenP dr pt i k = true ∧ Tr (T ++ T2) ek.ch ∧ tmGet tm t = ek.s) ∨
      ((∀ (k : Nat) (ek : QE), (T ++ T2)[k]? = some ek → ek.dst = some t → (dr = false ∧ i ≤ k) ∨ k = i) ∧ tmGet tm t = tmGet tm0 t) := by
  unfold okSlot at h
  split at h
  · rename_i k ck hq
    obtain ⟨m, e, h1, h2, h3, h4⟩ := qBy_some hq
    rw [Nat.zero_add] at h1
    subst h1
    simp only [Bool.and_eq_true] at h
    left
    refine ⟨k, e, by rw [List.getElem?_append_left (List.getElem?_eq_some_iff.1 h2).1]; exact h2, h3, h.1, ?_, (hopt.2 t).1 k e h2 h3⟩
    rw [h4]
    exact subC_tr ht h.2
  · rename_i hq
    have hn := qBy_none hq
    right
    refine ⟨fun k ek hk hkt => ?_, (hopt.2 t).2 hn⟩
    have hki : i ≤ k := by
      rcases Nat.lt_or_ge k i with hlt | hge
      · rw [List.getElem?_append_left (by omega)] at hk
        exact absurd hkt (hn ek (List.mem_of_getElem? hk))
      · exact hge
    cases dr with
    | false => exact .inl ⟨rfl, hki⟩
    | true =>
      right
      have hmem := hds rfl k ek t hk hkt
      simp only [hmem] at h
      split at h
      · rename_i d
        have := Nat.eq_of_beq_eq_true h
        subst this
        rcases hown with hw | hw
        · cases hw
        · exact hd k ek hk d hw.symm hkt
      · cases h

theorem okOpnds_mem {T : List QE} {seen : Nat → Bool} {own : Option Nat} {ch : List (Nat × Bool)} : ∀ {xs : List Operand}, okOpnds T seen dr ds own ch xs = true → ∀ t, Operand.tmp t ∈ xs → okSlot T seen dr ds own ch t = true
  | x :: xs, h, t, ht => by
    simp only [okOpnds, Bool.and_eq_true] at h
    rcases List.mem_cons.1 ht with rfl | ht
    · exact h.1
    · exact okOpnds_mem h.2 t ht

theorem of_opV {tm : List Sv} {o : Oper} {K : Sv → Prop} (h : opV G tm hp o fun s nb kl => match nb, kl with | [], [] => K s | _, _ => False) : ∃ s, K s ∧ EStepK G.P o tm hp (fun s' nb kl => nb = [] ∧ kl = [] ∧ s' = s) := by
  obtain ⟨s, nb, kl, h1, h2⟩ := opV_sound h
  split at h1
  · exact ⟨s, h1, .of ⟨s, [], [], ⟨rfl, rfl, rfl⟩, h2⟩⟩
  · exact h1.elim

/-- A pick, of which one side alone is looked at. -/
theorem pick_step {tm : List Sv} {o : Oper} {b x y : Operand} {c : Bool} {s : Sv} (ho : o.op = .pick b x y) (hb : evO tm b = .val (.bool c)) (hs : (if c then evO tm x else evO tm y) = s) : EStepK G.P o tm hp (fun s' nb kl => nb = [] ∧ kl = [] ∧ s' = s) := by
  refine .of ⟨s, [], [], ⟨rfl, rfl, rfl⟩, PureS.estep (by rw [ho]; simp) fun w0 M c' a hI ha => ?_⟩
  have h0 := ha b (by rw [ho]; simp [Op.operands])
  have h1 := ha x (by rw [ho]; simp [Op.operands])
  have h2 := ha y (by rw [ho]; simp [Op.operands])
  rw [hb] at h0
  simp only [Rel] at h0
  cases c with
  | true =>
    simp only [if_true] at hs
    exact ⟨a.eval x, by simp [execOp, ho, h0, asBool], hs ▸ h1⟩
  | false =>
    simp only [Bool.false_eq_true, if_false] at hs
    exact ⟨a.eval y, by simp [execOp, ho, h0, asBool], hs ▸ h2⟩

def opndS : Operand → Option Nat
  | .tmp t => some t
  | _ => none
/-- Slots but those two are forgotten. -/
def keep2 (tm : List Sv) (p q : Option Nat) : List Sv := (List.range tm.length).map fun t => if p = some t ∨ q = some t then tmGet tm t else .any
theorem keep2_get {tm : List Sv} {p q : Option Nat} (t : Nat) : tmGet (keep2 tm p q) t = if p = some t ∨ q = some t then tmGet tm t else .any := by
  have h : ∀ l : List Sv, tmGet l t = (l[t]?).getD .any := fun l => by
    unfold tmGet
    rw [nth_eq]
    cases l[t]? <;> rfl
  rw [h]
  unfold keep2
  rw [List.getElem?_map]
  by_cases hl : t < tm.length
  · rw [List.getElem?_range hl]
    rfl
  · rw [List.getElem?_eq_none (by simp; omega)]
    simp only [Option.map_none, Option.getD_none]
    split
    · rw [h, List.getElem?_eq_none (by omega)]
      rfl
    · rfl
theorem evO_keep2 {tm : List Sv} {p q : Option Nat} {x : Operand} (h : opndS x = none ∨ opndS x = p ∨ opndS x = q) : evO (keep2 tm p q) x = evO tm x := by
  cases x with
  | tmp t =>
    simp only [opndS] at h
    simp only [evO]
    rw [keep2_get, if_pos]
    rcases h with h | h | h
    · cases h
    · exact .inl h.symm
    · exact .inr h.symm
  | _ => rfl

/-- The way of an operation, for each end T2 of the table. -/
def WayQ (G : Gm) (hp : Hp) (dr : Bool) (pt : List (List Nat)) (tm0 : List Sv) (T : List QE) (i : Nat) (o : Oper) (ch : List (Nat × Bool)) (s : Sv) : Prop :=
  Tr T ch → ∃ tmi : List Sv, EStepK G.P o tmi hp (fun s' nb kl => nb = [] ∧ kl = [] ∧ s' = s) ∧
    ∀ t, Operand.tmp t ∈ o.op.operands → (∃ (k : Nat) (ek : QE), T[k]? = some ek ∧ ek.dst = some t ∧ seenP dr pt i k = true ∧ Tr T ek.ch ∧ tmGet tmi t = ek.s) ∨ ((∀ (k : Nat) (ek : QE), T[k]? = some ek → ek.dst = some t → (dr = false ∧ i ≤ k) ∨ k = i) ∧ tmGet tmi t = tmGet tm0 t) ∨ tmGet tmi t = .any

theorem stepQ_way {T : List QE} {tm : List Sv} {i : Nat} {o : Oper} {ch : List (Nat × Bool)} {K : Sv → Prop} (hTi : T.length = i) (hopt : Opt tm0 T tm) (h : stepQ G hp (seenP dr pt i) dr ds tm T ch o K) :
    ∃ s, K s ∧ ∀ T2, (dr = true → ∀ (k : Nat) (ek : QE) (d : Nat), (T ++ T2)[k]? = some ek → ek.dst = some d → memB d ds = true) → (∀ (k : Nat) (ek : QE), (T ++ T2)[k]? = some ek → ∀ d : Nat, o.dst = some d → ek.dst = some d → k = i) →
      WayQ G hp dr pt tm0 (T ++ T2) i o ch s := by
  -- an operation all of whose operands may be read
  have plain : ∀ {s : Sv} {T2 : List QE}, okOpnds T (seenP dr pt i) dr ds o.dst ch o.op.operands.toList = true → (dr = true → ∀ (k : Nat) (ek : QE) (d : Nat), (T ++ T2)[k]? = some ek → ek.dst = some d → memB d ds = true) → (∀ (k : Nat) (ek : QE), (T ++ T2)[k]? = some ek → ∀ d : Nat, o.dst = some d → ek.dst = some d → k = i) →
      (Tr (T ++ T2) ch → EStepK G.P o tm hp (fun s' nb kl => nb = [] ∧ kl = [] ∧ s' = s)) → WayQ G hp dr pt tm0 (T ++ T2) i o ch s := by
    intro s T2 hok hds hd hE ht
    refine ⟨tm, hE ht, fun t hm => ?_⟩
    rcases okSlot_way hTi hopt (.inr rfl) hds hd (okOpnds_mem hok t (by simpa using hm)) ht with h | h
    · exact .inl h
    · exact .inr (.inl h)
  unfold stepQ at h
  split at h
  · rename_i b x y ho
    split at h
    case h_2 => exact h.elim
    rename_i t
    split at h
    case h_2 => exact h.elim
    rename_i k ck hq
    rw [chk_iff] at h
    obtain ⟨hck, h⟩ := h
    simp only [Bool.and_eq_true] at hck
    obtain ⟨⟨⟨hs, hc⟩, hx⟩, hy⟩ := hck
    obtain ⟨m, eb, h1, h2, h3, h4⟩ := qBy_some hq
    rw [Nat.zero_add] at h1
    subst h1
    have hev : evO tm (.tmp t) = eb.s := (hopt.2 t).1 k eb h2 h3
    -- what is common to both kinds of values
    have fin : ∀ {c : Bool} {s : Sv}, evO tm (.tmp t) = .val (.bool c) → (if c then evO tm x else evO tm y) = s → ∀ T2, (dr = true → ∀ (k : Nat) (ek : QE) (d : Nat), (T ++ T2)[k]? = some ek → ek.dst = some d → memB d ds = true) → (∀ (k : Nat) (ek : QE), (T ++ T2)[k]? = some ek → ∀ d : Nat, o.dst = some d → ek.dst = some d → k = i) →
        WayQ G hp dr pt tm0 (T ++ T2) i o ch s := by
      intro c s hcv hsv T2 hds hd ht
      have hkT : (T ++ T2)[k]? = some eb := by rw [List.getElem?_append_left (List.getElem?_eq_some_iff.1 h2).1]; exact h2
      have ht2 : Tr (T ++ T2) ((k, c) :: ch) := by
        intro p hp
        rcases List.mem_cons.1 hp with rfl | hp
        · exact ⟨eb, hkT, by rw [← hev]; exact hcv⟩
        · exact ht p hp
      generalize hz : (if c then x else y) = z
      have hzs : evO tm z = s := by rw [← hsv, ← hz]; cases c <;> rfl
      have hzok : okOpnd T (seenP dr pt i) dr ds none ((k, c) :: ch) z = true := by rw [← hz]; cases c <;> assumption
      refine ⟨keep2 tm (some t) (opndS z), pick_step ho (by rw [evO_keep2 (x := .tmp t) (p := some t) (.inr (.inl rfl))]; exact hcv) ?_, fun u hu => ?_⟩
      · have e1 : evO (keep2 tm (some t) (opndS z)) z = s := by rw [evO_keep2 (.inr (.inr rfl))]; exact hzs
        cases c with
        | true => simp only [if_true] at hz ⊢; rw [hz]; exact e1
        | false => simp only [Bool.false_eq_true, if_false] at hz ⊢; rw [hz]; exact e1
      · rw [keep2_get]
        by_cases hut : (some t : Option Nat) = some u
        · rw [if_pos (.inl hut)]
          cases hut
          exact .inl ⟨k, eb, hkT, h3, hs, by rw [h4]; exact subC_tr ht hc, hev⟩
        · by_cases huz : opndS z = some u
          · rw [if_pos (.inr huz)]
            have hzu : z = .tmp u := by
              cases z <;> simp only [opndS] at huz <;> first | (cases huz; rfl) | (cases huz; done)
            rw [hzu] at hzok
            rcases okSlot_way (o := o) (own := none) hTi hopt (.inl rfl) hds hd hzok ht2 with h | h
            · exact .inl h
            · exact .inr (.inl h)
          · rw [if_neg (by rintro (h | h) <;> contradiction)]
            exact .inr (.inr rfl)
    split at h
    · rename_i c d e hb hx' hy'
      rw [pickK_eq] at h
      refine ⟨_, h, fun T2 hds hd => fin hb ?_ T2 hds hd⟩
      rw [hx', hy', pickS_eq hx' hy']
      cases c <;> rfl
    · rename_i c d e hb hx' hy'
      refine ⟨_, h, fun T2 hds hd => fin hb ?_ T2 hds hd⟩
      rw [hx', hy']
      cases c <;> rfl
    · exact h.elim
  · rename_i hnp
    rw [chk_iff] at h
    obtain ⟨hok, h⟩ := h
    have direct : (opV G tm hp o fun s nb kl => match nb, kl with | [], [] => K s | _, _ => False) → ∃ s, K s ∧ ∀ T2, (dr = true → ∀ (k : Nat) (ek : QE) (d : Nat), (T ++ T2)[k]? = some ek → ek.dst = some d → memB d ds = true) → (∀ (k : Nat) (ek : QE), (T ++ T2)[k]? = some ek → ∀ d : Nat, o.dst = some d → ek.dst = some d → k = i) →
        WayQ G hp dr pt tm0 (T ++ T2) i o ch s := by
      intro h
      obtain ⟨s, h1, h2⟩ := of_opV h
      exact ⟨s, h1, fun T2 hds hd => plain hok hds hd fun _ => h2⟩
    have under : GdS (opE G tm hp o) (gImp T ch) K → ∃ s, K s ∧ ∀ T2, (dr = true → ∀ (k : Nat) (ek : QE) (d : Nat), (T ++ T2)[k]? = some ek → ek.dst = some d → memB d ds = true) → (∀ (k : Nat) (ek : QE), (T ++ T2)[k]? = some ek → ∀ d : Nat, o.dst = some d → ek.dst = some d → k = i) →
        WayQ G hp dr pt tm0 (T ++ T2) i o ch s := by
      rintro ⟨s, h1, h2⟩
      exact ⟨s, h2, fun T2 hds hd => plain hok hds hd fun ht => opE_sound (gImp_of h1 ht)⟩
    split at h
    · split at h
      · split at h
        · obtain ⟨s, h1, h2⟩ := h
          exact ⟨s, h2, fun T2 hds hd => plain hok hds hd fun _ => opE_sound h1⟩
        · exact direct h
      · exact direct h
    · split at h
      · split at h
        · split at h
          · exact under h
          · exact direct h
        · exact direct h
      · exact under h

theorem chainK_sound {T : List QE} {seen : Nat → Bool} {g : Option (Nat × Bool)} {K : List (Nat × Bool) → Prop} (h : chainK T seen g K) :
    ∃ ch, K ch ∧ ((g = none ∧ ch = []) ∨ ∃ j w ej d b, g = some (j, w) ∧ seen j = true ∧ T[j]? = some ej ∧ ej.dst = some d ∧ ej.s = .val (.bool b) ∧ ch = (j, w) :: ej.ch) := by
  unfold chainK at h
  split at h
  · exact ⟨[], h, .inl ⟨rfl, rfl⟩⟩
  · rename_i j w
    split at h
    · rename_i e he
      rw [nth_eq] at he
      split at h
      · rename_i d b hd hs hsn
        exact ⟨_, h, .inr ⟨j, w, e, d, b, rfl, hsn, he, hd, hs, rfl⟩⟩
      · exact h.elim
    · exact h.elim

theorem Opt.snoc {T : List QE} {tm : List Sv} {e : QE} (h : Opt tm0 T tm) (hlt : ∀ t, e.dst = some t → t < tm0.length) (hd : ∀ x ∈ T, ∀ t : Nat, e.dst = some t → x.dst ≠ some t) : Opt tm0 (T ++ [e]) (setT tm e.dst e.s) := by
  obtain ⟨hl, hg⟩ := h
  refine ⟨by cases e.dst <;> simp [setT, hl], fun t => ⟨fun k x hk hx => ?_, fun hall => ?_⟩⟩
  · rcases Nat.lt_or_ge k T.length with hlt' | hge
    · rw [List.getElem?_append_left hlt'] at hk
      have h1 := (hg t).1 k x hk hx
      cases hed : e.dst with
      | none => exact h1
      | some d =>
        simp only [setT]
        rw [tmGet_set, if_neg, h1]
        rintro ⟨rfl, _⟩
        exact hd x (List.mem_of_getElem? hk) d hed hx
    · rw [List.getElem?_append_right hge] at hk
      have hk0 : k - T.length = 0 := by
        have := (List.getElem?_eq_some_iff.1 hk).1
        simp at this
        omega
      rw [hk0] at hk
      simp only [List.getElem?_cons_zero, Option.some.injEq] at hk
      subst hk
      rw [hx]
      simp only [setT]
      rw [tmGet_set, if_pos ⟨rfl, by rw [hl]; exact hlt t hx⟩]
  · have h1 := (hg t).2 fun x hx => hall x (by simp [hx])
    have h2 := hall e (by simp)
    cases hed : e.dst with
    | none => exact h1
    | some d =>
      simp only [setT]
      rw [tmGet_set, if_neg, h1]
      rintro ⟨rfl, _⟩
      exact h2 hed

theorem runQ_sound {ops : List Oper} (hdist : distinctD ops = true) (hds : ∀ d, d ∈ dstsOf ops → memB d ds = true) :
    ∀ (os : List Oper) (i : Nat) (tm : List Sv) (T : List QE) (K : List Sv → List QE → Prop), ops.drop i = os → T.length = i → (∀ (k : Nat) (e : QE), T[k]? = some e → ∃ o', ops[k]? = some o' ∧ e.dst = o'.dst) → Opt tm0 T tm →
      runQ G hp dr pt ds os i tm T K → ∃ T2 tmF, K tmF (T ++ T2) ∧ Opt tm0 (T ++ T2) tmF ∧ T2.length = os.length ∧ (∀ (k : Nat) (e : QE), (T ++ T2)[k]? = some e → ∃ o', ops[k]? = some o' ∧ e.dst = o'.dst) ∧
        ∀ m o, os[m]? = some o → ∃ e, (T ++ T2)[i + m]? = some e ∧ EntQ G.P hp (seenP dr pt (i + m)) dr tm0 (T ++ T2) (i + m) o e
  | [], i, tm, T, K, _, _, hT, hopt, h => ⟨[], tm, by simpa [runQ] using h, by simpa using hopt, rfl, by simpa using hT, fun m o hm => by simp at hm⟩
  | o :: os, i, tm, T, K, hdrop, hTi, hT, hopt, h => by
    have hi : ops[i]? = some o := by
      have : (ops.drop i)[0]? = some o := by rw [hdrop]; rfl
      rw [List.getElem?_drop] at this
      simpa using this
    have hrest : ops.drop (i + 1) = os := by
      rw [← List.drop_drop, hdrop]
      rfl
    unfold runQ at h
    rw [chk_iff] at h
    obtain ⟨hc, h⟩ := h
    simp only [Bool.and_eq_true] at hc
    obtain ⟨hedge, hdst⟩ := hc
    obtain ⟨ch, h, hch⟩ := chainK_sound h
    obtain ⟨s, h, hway⟩ := stepQ_way hTi hopt h
    rw [svK_eq, setTK_eq, spineK_eq] at h
    have hlt : ∀ t, o.dst = some t → t < tm0.length := by rw [← hopt.1]; exact dstOk_lt hdst
    have hopt' : Opt tm0 (T ++ [⟨o.dst, ch, s⟩]) (setT tm o.dst s) := hopt.snoc (e := ⟨o.dst, ch, s⟩) hlt fun x hx t ht hxt => by
      obtain ⟨k, hk⟩ := List.mem_iff_getElem?.1 hx
      obtain ⟨o', ho', e1⟩ := hT k x hk
      have := distinctD_at hdist k i o' o t ho' hi (e1 ▸ hxt) ht
      have := (List.getElem?_eq_some_iff.1 hk).1
      omega
    have hT' : ∀ (k : Nat) (e : QE), (T ++ [(⟨o.dst, ch, s⟩ : QE)])[k]? = some e → ∃ o', ops[k]? = some o' ∧ e.dst = o'.dst := by
      intro k e hk
      rcases Nat.lt_or_ge k T.length with hl | hg
      · rw [List.getElem?_append_left hl] at hk
        exact hT k e hk
      · rw [List.getElem?_append_right hg] at hk
        have hk0 : k - T.length = 0 := by
          have := (List.getElem?_eq_some_iff.1 hk).1
          simp at this
          omega
        rw [hk0] at hk
        simp only [List.getElem?_cons_zero, Option.some.injEq] at hk
        subst hk
        exact ⟨o, by rw [show k = i by omega]; exact hi, rfl⟩
    obtain ⟨T2, tmF, hK, hoF, hlF, hTF, hall⟩ := runQ_sound hdist hds os (i + 1) _ _ K hrest (by simp [hTi]) hT' hopt' h
    rw [List.append_assoc] at hK hoF hTF
    refine ⟨[⟨o.dst, ch, s⟩] ++ T2, tmF, hK, hoF, by simp [hlF], hTF, fun m o' hm => ?_⟩
    cases m with
    | zero =>
      simp only [List.getElem?_cons_zero, Option.some.injEq] at hm
      subst hm
      refine ⟨⟨o.dst, ch, s⟩, by rw [List.getElem?_append_right (by omega)]; simp [hTi], ?_⟩
      refine { edge := fun hdr => ?_, dst := rfl, lt := hlt, ch := ?_, way := ?_ }
      · rw [hdr] at hedge
        intro j hj
        exact blt_lt (List.all_eq_true.1 hedge j hj)
      · rcases hch with h1 | ⟨j, w, ej, d, b, h1, h2, h3, h4, h5, h6⟩
        · exact .inl h1
        · exact .inr ⟨j, w, ej, d, b, h1, h2, by rw [List.getElem?_append_left (List.getElem?_eq_some_iff.1 h3).1]; exact h3, h4, h5, h6⟩
      · refine hway ([⟨o.dst, ch, s⟩] ++ T2) (fun _ k ek d hk hd => ?_) fun k ek hk d ho hd => ?_
        · obtain ⟨o', ho', e1⟩ := hTF k ek hk
          exact hds d (mem_dstsOf (e1 ▸ hd) (List.mem_of_getElem? ho'))
        · obtain ⟨o', ho', e1⟩ := hTF k ek hk
          exact distinctD_at hdist k i o' o d ho' hi (e1 ▸ hd) ho
    | succ m =>
      obtain ⟨e, h1, h2⟩ := hall m o' (by simpa using hm)
      rw [List.append_assoc] at h1 h2
      rw [show i + (m + 1) = i + 1 + m by omega]
      exact ⟨e, h1, h2⟩
end

/-! ### The region -/
/-- A state between: the operations of X have come up. -/
structure QMid (w0 : World) (M : Frm) (T : List QE) (hp : Hp) (tm0 : List Sv) (X : Nat → Prop) (c : Cx) (a : Act) (dfs : List Deferred) : Prop where
  inv : Inv w0 M c hp
  full : ∀ (k : Nat) (b : Blk), hp[k]? = some (some b) → c.D k
  size : a.tmps.size = tm0.length
  ds : Marks w0 c a.defers dfs
  rel : ∀ t, (∃ (k : Nat) (e : QE), X k ∧ T[k]? = some e ∧ e.dst = some t ∧ ((Tr T e.ch ∧ Rel e.s c (a.tmps.getD t undef)) ∨ (¬ Tr T e.ch ∧ a.tmps.getD t undef = undef))) ∨
    ((∀ (k : Nat) (e : QE), X k → T[k]? = some e → e.dst ≠ some t) ∧ Rel (tmGet tm0 t) c (a.tmps.getD t undef))

section
variable {G : Gm} {ops : Array Oper} {F : Fence} {n : Nat} {Q : Exit → Act → World → Prop} {w0 : World} {M : Frm} {dfs : List Deferred} {hp : Hp} {dr : Bool} {tm0 : List Sv} {T : List QE}

theorem QMid.start {c : Cx} {a : Act} (hS : St w0 M c tm0 hp a dfs) : QMid w0 M T hp tm0 (fun _ => False) c a dfs :=
  { inv := hS.inv, full := hS.full, size := hS.size, ds := hS.ds, rel := fun t => .inr ⟨fun _ _ h => h.elim, hS.rel t⟩ }

theorem act_put_get {a : Act} {d : Option Nat} {v : Value} {t : Nat} (h : d ≠ some t) : (a.put d v).tmps.getD t undef = a.tmps.getD t undef := by
  cases d with
  | none => rfl
  | some u =>
    simp only [Act.put]
    rw [Array.getD_eq_getD_getElem?, Array.getD_eq_getD_getElem?, Array.getElem?_setIfInBounds_ne (fun e => h (by rw [e]))]
theorem act_put_self {a : Act} {v : Value} {t : Nat} (h : t < a.tmps.size) : (a.put (some t) v).tmps.getD t undef = v := by
  simp only [Act.put]
  rw [Array.getD_eq_getD_getElem?]
  simp [h]
theorem act_put_size {a : Act} {d : Option Nat} {v : Value} : (a.put d v).tmps.size = a.tmps.size := by
  cases d <;> simp [Act.put]
theorem act_put_defers {a : Act} {d : Option Nat} {v : Value} : (a.put d v).defers = a.defers := by
  cases d <;> simp [Act.put]

/-- Operation i comes up. -/
theorem QMid.step {X : Nat → Prop} {c : Cx} {a : Act} (h : QMid w0 M T hp tm0 X c a dfs) (hF : Open F) {i : Nat} {o : Oper} {e : QE} {seen : Nat → Bool} (ho : ops[i]? = some o) (he : T[i]? = some e) (hE : EntQ G.P hp seen dr tm0 T i o e)
    (hu : ∀ (a b : Nat) (x y : QE) (d : Nat), T[a]? = some x → T[b]? = some y → x.dst = some d → y.dst = some d → a = b) (hdst : ∀ (k : Nat) (ek : QE) (ok : Oper), T[k]? = some ek → ops[k]? = some ok → ek.dst = ok.dst)
    (hX : ∀ k, seen k = true → X k) (hXi : ¬ X i) (hXlt : dr = false → ∀ k, X k → k < i) (hXo : ∀ k, X k → k < ops.size) {next : Act → World → Prop} (hn : ∀ a' c', QMid w0 M T hp tm0 (fun k => X k ∨ k = i) c' a' dfs → next a' c'.w) :
    wpOpIn F n G.P ops Q i next a c.w := by
  unfold wpOpIn
  rw [ho]
  simp only
  -- whether it is wanted
  have hwant : (Region.wanted o (yielded ops a.tmps) = true ∧ Tr T e.ch) ∨ (Region.wanted o (yielded ops a.tmps) = false ∧ ¬ Tr T e.ch) := by
    rcases hE.ch with ⟨hg, hc⟩ | ⟨j, w, ej, d, b, hg, hs, hj, hd, hsv, hc⟩
    · left
      refine ⟨by simp [Region.wanted, hg], ?_⟩
      rw [hc]
      intro p hp
      cases hp
    · have hXj := hX j hs
      have hjo : ∃ oj, ops[j]? = some oj := ⟨_, Array.getElem?_eq_getElem (hXo j hXj)⟩
      obtain ⟨oj, hoj⟩ := hjo
      have hdj : oj.dst = some d := by rw [← hdst j ej oj hj hoj]; exact hd
      have hval : (Tr T ej.ch ∧ a.tmps.getD d undef = .bool b) ∨ (¬ Tr T ej.ch ∧ a.tmps.getD d undef = undef) := by
        rcases h.rel d with ⟨k, ek, hXk, hk, hkd, hr⟩ | ⟨hno, _⟩
        · have := hu k j ek ej d hk hj hkd hd
          subst this
          rw [hj] at hk
          cases hk
          rcases hr with ⟨h1, h2⟩ | h2
          · left
            refine ⟨h1, ?_⟩
            rw [hsv] at h2
            simpa only [Rel] using h2
          · exact .inr h2
        · exact absurd hd (hno j ej hXj hj)
      have hy : yielded ops a.tmps j = (match a.tmps.getD d undef with | .bool b => some b | _ => none) := by
        unfold yielded
        rw [hoj]
        simp only [Option.bind_some, hdj]
        rw [Array.getD_eq_getD_getElem?]
        cases hx : a.tmps[d]? with
        | none => simp [undef]
        | some v => cases v <;> rfl
      have htr : Tr T e.ch ↔ (b = w ∧ Tr T ej.ch) := by
        rw [hc]
        constructor
        · intro ht
          obtain ⟨e', h1, h2⟩ := ht (j, w) (by simp)
          rw [hj] at h1
          cases h1
          rw [hsv] at h2
          simp only [Sv.val.injEq, Value.bool.injEq] at h2
          exact ⟨h2, fun p hp => ht p (by simp [hp])⟩
        · rintro ⟨rfl, ht⟩ p hp
          rcases List.mem_cons.1 hp with rfl | hp
          · exact ⟨ej, hj, hsv⟩
          · exact ht p hp
      rw [htr]
      rcases hval with ⟨h1, h2⟩ | ⟨h1, h2⟩
      · rw [h2] at hy
        simp only at hy
        by_cases hbw : b = w
        · left
          exact ⟨by simp [Region.wanted, hg, hy, hbw], hbw, h1⟩
        · right
          refine ⟨by simp [Region.wanted, hg, hy, hbw], fun h => hbw h.1⟩
      · rw [h2] at hy
        right
        refine ⟨?_, fun h => h1 h.2⟩
        have : yielded ops a.tmps j = none := by rw [hy]; rfl
        simp [Region.wanted, hg, this]
  -- the state behind it
  have fin : ∀ (c' : Cx) (v : Value), c.Le (fun _ => true) c' → Inv w0 M c' hp → (∀ (k : Nat) (b : Blk), hp[k]? = some (some b) → c'.D k) → c.Cq c' → ((Tr T e.ch ∧ Rel e.s c' v) ∨ (¬ Tr T e.ch ∧ v = undef)) → next (a.put o.dst v) c'.w := by
    intro c' v hle hI hf hq hv
    refine hn _ c' { inv := hI, full := hf, size := by rw [act_put_size]; exact h.size, ds := by rw [act_put_defers]; exact h.ds.cq hq, rel := fun t => ?_ }
    by_cases ht : o.dst = some t
    · left
      refine ⟨i, e, .inr rfl, he, by rw [hE.dst]; exact ht, ?_⟩
      rw [ht, act_put_self (by rw [h.size]; exact hE.lt t ht)]
      exact hv
    · rw [act_put_get ht]
      rcases h.rel t with ⟨k, ek, hXk, hk, hkd, hr⟩ | ⟨hno, hr⟩
      · left
        exact ⟨k, ek, .inl hXk, hk, hkd, hr.imp (fun ⟨h1, h2⟩ => ⟨h1, Rel.le _ (Sv.all_true _) hle h2⟩) id⟩
      · right
        refine ⟨fun k ek hXk hk => ?_, Rel.le _ (Sv.all_true _) hle hr⟩
        rcases hXk with hXk | rfl
        · exact hno k ek hXk hk
        · rw [he] at hk
          cases hk
          rw [hE.dst]
          exact ht
  rcases hwant with ⟨hw, htr⟩ | ⟨hw, htr⟩
  · rw [if_pos hw]
    obtain ⟨tmi, hst, hops⟩ := hE.way htr
    have hrel : ∀ x ∈ o.op.operands, Rel (evO tmi x) c (a.eval x) := by
      intro x hx
      cases x with
      | tmp t =>
        simp only [evO, Act.eval]
        rcases hops t hx with ⟨k, ek, hk, hkd, hs, htk, hval⟩ | ⟨hno, hval⟩ | hval
        · rw [hval]
          rcases h.rel t with ⟨k', ek', hXk', hk', hkd', hr⟩ | ⟨hno, _⟩
          · have := hu k' k ek' ek t hk' hk hkd' hkd
            subst this
            rw [hk] at hk'
            cases hk'
            rcases hr with ⟨_, h2⟩ | ⟨h1, _⟩
            · exact h2
            · exact absurd htk h1
          · exact absurd hkd (hno k ek (hX k hs) hk)
        · rw [hval]
          rcases h.rel t with ⟨k', ek', hXk', hk', hkd', hr⟩ | ⟨_, hr⟩
          · rcases hno k' ek' hk' hkd' with ⟨hd, hik⟩ | rfl
            · have := hXlt hd k' hXk'
              omega
            · exact absurd hXk' hXi
          · exact hr
        · rw [hval]
          simp [Rel]
      | const v => simp [evO, Act.eval, Rel]
      | global g => simp [evO, Act.eval, Rel]
      | func f => simp only [evO, Act.eval, Rel]; exact ⟨[], rfl, by simp [RelT]⟩
    refine hst F n w0 M c a next Q hF h.inv hrel fun s nb kl v c' hK hp' hr => ?_
    obtain ⟨rfl, rfl, rfl⟩ := hK
    refine fin c' v ?_ ?_ (fun k b hk => ?_) (hp'.cq h.inv) (.inl ⟨htr, hr⟩)
    · have := hp'.le
      rwa [notNil] at this
    · simpa [kill] using hp'.inv
    · exact (hp'.dom k).2 (.inl ⟨h.full k b hk, rfl⟩)
  · rw [hw]
    simp only [Bool.false_eq_true, if_false]
    exact ⟨fun f _ => hF.fn f, fin c undef ⟨fun _ _ h => ⟨h, rfl⟩, fun _ h => h, fun _ _ h => h, fun _ _ => rfl⟩ h.inv h.full ⟨rfl, rfl, rfl, fun _ _ => rfl⟩ (.inr ⟨htr, rfl⟩)⟩

/-- What is left behind the region: guarded slots are forgotten. -/
def endQ : List QE → List Sv → (List Sv → Prop) → Prop
  | [], tm, K => K tm
  | e :: T, tm, K => match e.ch with
    | [] => endQ T tm K
    | _ :: _ => match e.dst with
      | some d => setK tm d .any fun tm => endQ T tm K
      | none => endQ T tm K
theorem endQ_sound : ∀ {T : List QE} {tm : List Sv} {K : List Sv → Prop}, endQ T tm K → ∃ tm', K tm' ∧ tm'.length = tm.length ∧ ∀ t, (tmGet tm' t = tmGet tm t ∧ ∀ e ∈ T, e.dst = some t → e.ch = []) ∨ tmGet tm' t = .any
  | [], tm, K, h => ⟨tm, h, rfl, fun t => .inl ⟨rfl, fun e he => by cases he⟩⟩
  | e :: T, tm, K, h => by
    unfold endQ at h
    split at h
    · rename_i hc
      obtain ⟨tm', h1, h2, h3⟩ := endQ_sound h
      refine ⟨tm', h1, h2, fun t => (h3 t).imp (fun ⟨h4, h5⟩ => ⟨h4, fun x hx hd => ?_⟩) id⟩
      rcases List.mem_cons.1 hx with rfl | hx
      · exact hc
      · exact h5 x hx hd
    · split at h
      · rename_i d hd
        rw [setK_eq] at h
        obtain ⟨tm', h1, h2, h3⟩ := endQ_sound h
        refine ⟨tm', h1, by rw [h2]; simp, fun t => ?_⟩
        rcases h3 t with ⟨h4, h5⟩ | h4
        · rw [tmGet_set] at h4
          by_cases ht : d = t
          · right
            rw [h4]
            subst ht
            by_cases hl : d < tm.length
            · rw [if_pos ⟨rfl, hl⟩]
            · rw [if_neg (fun h => hl h.2)]
              unfold tmGet
              rw [nth_eq, List.getElem?_eq_none (by omega)]
          · left
            rw [if_neg (fun h => ht h.1)] at h4
            refine ⟨h4, fun x hx hxd => ?_⟩
            rcases List.mem_cons.1 hx with rfl | hx
            · rw [hd] at hxd
              cases hxd
              exact absurd rfl ht
            · exact h5 x hx hxd
        · exact .inr h4
      · rename_i hd
        obtain ⟨tm', h1, h2, h3⟩ := endQ_sound h
        refine ⟨tm', h1, h2, fun t => (h3 t).imp (fun ⟨h4, h5⟩ => ⟨h4, fun x hx hxd => ?_⟩) id⟩
        rcases List.mem_cons.1 hx with rfl | hx
        · rw [hd] at hxd; cases hxd
        · exact h5 x hx hxd

theorem QMid.finish {X : Nat → Prop} {c : Cx} {a : Act} (h : QMid w0 M T hp tm0 X c a dfs) (hall : ∀ (k : Nat) (e : QE), T[k]? = some e → X k) {tmF tm' : List Sv} (hopt : Opt tm0 T tmF) (hl : tm'.length = tmF.length)
    (ht : ∀ t, (tmGet tm' t = tmGet tmF t ∧ ∀ e ∈ T, e.dst = some t → e.ch = []) ∨ tmGet tm' t = .any) : St w0 M c tm' hp a dfs := by
  refine { inv := h.inv, full := h.full, rel := fun t => ?_, size := by rw [h.size, hl, hopt.1], ds := h.ds }
  rcases ht t with ⟨h1, h2⟩ | h1
  · rw [h1]
    rcases h.rel t with ⟨k, e, hXk, hk, hkd, hr⟩ | ⟨hno, hr⟩
    · rw [(hopt.2 t).1 k e hk hkd]
      rcases hr with ⟨_, hr⟩ | ⟨hn, _⟩
      · exact hr
      · rw [h2 e (List.mem_of_getElem? hk) hkd] at hn
        exact absurd (fun p hp => by cases hp) hn
    · rw [(hopt.2 t).2 fun e he hd => ?_]
      · exact hr
      · obtain ⟨k, hk⟩ := List.mem_iff_getElem?.1 he
        exact hno k e (hall k e hk) hk hd
  · rw [h1]
    simp [Rel]
end

/-- Operations that change nothing stand in front; how many. -/
def quietN : List Oper → Nat
  | [] => 0
  | o :: os => match o.op with
    | .store _ _ _ => 0
    | .alloc _ => 0
    | .box _ _ => 0
    | .buildSlice _ _ _ => 0
    | .makeSlice _ _ _ => 0
    | .call c => match c.callee with
      | .builtin .len => quietN os + 1
      | .builtin .min => quietN os + 1
      | .builtin .max => quietN os + 1
      | .value _ => quietN os + 1
      | _ => 0
    | _ => quietN os + 1
theorem quietN_le : ∀ ops : List Oper, quietN ops ≤ ops.length
  | [] => Nat.le_refl _
  | o :: os => by
    have := quietN_le os
    simp only [quietN, List.length_cons]
    repeat' split
    all_goals omega

/-- A region, its front walked once; nQ: how far the front goes. -/
def regQ (G : Gm) (dr : Bool) (PT : List (List Nat)) (ops : List Oper) (nQ : Nat) (tm : List Sv) (hp : Hp) (K : List Sv → Hp → Prop) : Prop :=
  chk (distinctD (ops.take nQ) && (match dr with | true => tailOk PT (ops.drop nQ) nQ | false => true)) <|
    runQ G hp dr PT (dstsOf (ops.take nQ)) (ops.take nQ) 0 tm [] fun tm T => endQ T tm fun tm =>
      match dr with
      | true => tailV G (ops.drop nQ) tm hp K
      | false => runR G ops (ops.drop nQ) tm hp K
def hasG : List Oper → Bool
  | [] => false
  | o :: os => match o.guard with
    | some _ => true
    | none => hasG os
/-- A region: in one of two ways. -/
inductive RegW (G : Gm) (id : Nat) (dr : Bool) (ops : List Oper) (tm : List Sv) (hp : Hp) (K : List Sv → Hp → Prop) : Prop
  | d : (match dr with | true => DrawV G ops tm hp K | false => runR G ops ops tm hp K) → RegW G id dr ops tm hp K
  | q : (litK (quietN ops) fun nQ => match dr with | true => preTabK ops [] fun PT => regQ G dr PT ops nQ tm hp K | false => regQ G dr [] ops nQ tm hp K) → RegW G id dr ops tm hp K

section
variable {G : Gm} {ops : Array Oper} {F : Fence} {n : Nat} {Q : Exit → Act → World → Prop} {w0 : World} {M : Frm} {dfs : List Deferred} {hp : Hp} {tm0 : List Sv} {T : List QE} {K : List Sv → Hp → Prop}

/-- In the text's order. -/
theorem qtext_sound (hF : Open F) {nQ : Nat} (hnQ : nQ ≤ ops.size) (hTl : T.length = nQ) (hall : ∀ m o, m < nQ → ops[m]? = some o → ∃ e, T[m]? = some e ∧ EntQ G.P hp (seenP false [] m) false tm0 T m o e)
    (hu : ∀ (a b : Nat) (x y : QE) (d : Nat), T[a]? = some x → T[b]? = some y → x.dst = some d → y.dst = some d → a = b) (hdst : ∀ (k : Nat) (ek : QE) (ok : Oper), T[k]? = some ek → ops[k]? = some ok → ek.dst = ok.dst)
    (hfin : ∀ a c, QMid w0 M T hp tm0 (fun k => k < nQ) c a dfs → wpOpsIn F n G.P ops Q (List.range' nQ (ops.size - nQ)) a c.w) :
    ∀ (m i : Nat) (a : Act) (c : Cx), i + m = nQ → QMid w0 M T hp tm0 (fun k => k < i) c a dfs → wpOpsIn F n G.P ops Q (List.range' i (ops.size - i)) a c.w
  | 0, i, a, c, hi, h => by
    have : i = nQ := by omega
    subst this
    exact hfin a c h
  | m + 1, i, a, c, hi, h => by
    have hlt : i < ops.size := by omega
    have ho : ops[i]? = some (ops[i]'hlt) := Array.getElem?_eq_getElem hlt
    obtain ⟨e, he, hE⟩ := hall i _ (by omega) ho
    rw [show ops.size - i = (ops.size - (i + 1)) + 1 by omega, List.range'_succ, wpOpsIn_cons]
    refine h.step hF ho he hE hu hdst (fun k hk => blt_lt hk) (Nat.lt_irrefl _) (fun _ k hk => hk) (fun k hk => by omega) fun a' c' h' => ?_
    refine qtext_sound hF hnQ hTl hall hu hdst hfin m (i + 1) a' c' (by omega) ?_
    have : (fun k => k < i ∨ k = i) = fun k => k < i + 1 := by funext k; simp only [eq_iff_iff]; omega
    rw [this] at h'
    exact h'

theorem qdraw_sound (hF : Open F) (hy : YdOk G.P w0 M G.l G.its) (hQ : ∀ a c tm hp, K tm hp → St w0 M c tm hp a dfs → Q .normal a c.w) {nQ : Nat} (hnQ : nQ ≤ ops.size) (hTl : T.length = nQ) {PT : List (List Nat)}
    (hPT : ∀ j o, ops.toList[j]? = some o → pre PT j = preOf (PT.take j) (edges o)) (htail : tailOk PT (ops.toList.drop nQ) nQ = true)
    (hall : ∀ m o, m < nQ → ops[m]? = some o → ∃ e, T[m]? = some e ∧ EntQ G.P hp (seenP true PT m) true tm0 T m o e)
    (hu : ∀ (a b : Nat) (x y : QE) (d : Nat), T[a]? = some x → T[b]? = some y → x.dst = some d → y.dst = some d → a = b) (hdst : ∀ (k : Nat) (ek : QE) (ok : Oper), T[k]? = some ek → ops[k]? = some ok → ek.dst = ok.dst)
    {tm' : List Sv} (hK : tailV G (ops.toList.drop nQ) tm' hp K) (hfin : ∀ a c, QMid w0 M T hp tm0 (fun k => k < nQ) c a dfs → St w0 M c tm' hp a dfs) :
    ∀ (fuel : Nat) (listed : Array Bool) (c : Cx) (a : Act), listed.size = ops.size → (∀ i, listed.getD i false = true → i < nQ) → (∀ i o, ops[i]? = some o → listed.getD i false = true → ∀ j ∈ edges o, listed.getD j false = true) →
      ((List.range nQ).filter (fun i => !listed.getD i false)).length + (ops.size - nQ) = fuel → QMid w0 M T hp tm0 (fun i => listed.getD i false = true) c a dfs → wpAnyIn F n G.P .any ops Q fuel listed a c.w := by
  have hed : ∀ i o, ops[i]? = some o → ∀ j ∈ edges o, j < i := fun i o ho => by
    rcases Nat.lt_or_ge i nQ with hi | hi
    · obtain ⟨e, _, hok⟩ := hall i o hi ho
      exact hok.edge rfl
    · have hd : (ops.toList.drop nQ)[i - nQ]? = some o := by
        rw [List.getElem?_drop, show nQ + (i - nQ) = i by omega]
        simpa using ho
      have := (tailOk_at htail (i - nQ) o hd).2.1
      rwa [show nQ + (i - nQ) = i by omega] at this
  have behind : ∀ (fuel : Nat) (listed : Array Bool) (c : Cx) (a : Act), listed.size = ops.size → (∀ i, listed.getD i false = true → i < nQ) → (∀ j, j < nQ → listed.getD j false = true) → ops.size - nQ = fuel →
      QMid w0 M T hp tm0 (fun i => listed.getD i false = true) c a dfs → wpAnyIn F n G.P .any ops Q fuel listed a c.w := by
    intro fuel listed c a hs hlt hal hfuel hM
    have hXe : (fun i => listed.getD i false = true) = fun k => k < nQ := by
      funext k
      simp only [eq_iff_iff]
      exact ⟨hlt k, hal k⟩
    rw [hXe] at hM
    refine tail_sound hF hy hQ hed hPT _ nQ fuel listed _ _ c a rfl (by simp; omega) hs (fun j hj => ?_) htail hK (hfin a c hM)
    by_cases hjn : j < nQ
    · rw [hal j hjn]; simp [hjn]
    · cases hx : listed.getD j false with
      | true => exact absurd (hlt j hx) hjn
      | false => simp [hjn]
  intro fuel
  induction fuel with
  | zero =>
    intro listed c a hs hlt hcl hfuel hM
    refine behind 0 listed c a hs hlt (fun j hj => ?_) (by omega) hM
    cases h : listed.getD j false with
    | true => rfl
    | false =>
      have : j ∈ (List.range nQ).filter (fun i => !listed.getD i false) := List.mem_filter.2 ⟨List.mem_range.2 hj, by rw [h]; rfl⟩
      have hpos := List.length_pos_of_mem this
      omega
  | succ f ih =>
    intro listed c a hs hlt hcl hfuel hM
    by_cases hal : ∀ j, j < nQ → listed.getD j false = true
    · have hnil : (List.range nQ).filter (fun i => !listed.getD i false) = [] := by
        rw [List.filter_eq_nil_iff]
        intro j hj
        rw [hal j (List.mem_range.1 hj)]
        simp
      rw [hnil] at hfuel
      exact behind (f + 1) listed c a hs hlt hal (by simpa using hfuel) hM
    · have ⟨j0, hj0, hj0f⟩ : ∃ j, j < nQ ∧ listed.getD j false = false := by
        by_cases h : ∃ j, j < nQ ∧ listed.getD j false = false
        · exact h
        · refine absurd (fun j hj => ?_) hal
          cases hx : listed.getD j false with
          | true => rfl
          | false => exact absurd ⟨j, hj, hx⟩ h
      refine ⟨fun hr => ?_, fun i hi => ?_⟩
      · have := ready_all hed hs hr j0 (by omega)
        rw [hj0f] at this
        cases this
      · obtain ⟨hui, o, ho, hei⟩ := (ready_iff hs).1 hi
        have hil := (Array.getElem?_eq_some_iff.1 ho).1
        have hiE : i < nQ := by
          rcases Nat.lt_or_ge i nQ with h | h
          · exact h
          · have hd : (ops.toList.drop nQ)[i - nQ]? = some o := by
              rw [List.getElem?_drop, show nQ + (i - nQ) = i by omega]
              simpa using ho
            have h3 := (tailOk_at htail (i - nQ) o hd).1 j0 (by omega)
            rw [show nQ + (i - nQ) = i by omega] at h3
            have := pre_closed (os := ops.toList) hPT (X := fun k => listed.getD k false) (fun k o2 hk hx => hcl k o2 (by simpa using hk) hx) i o (by simpa using ho) hei j0 h3
            rw [hj0f] at this
            cases this
        obtain ⟨e, he, hok⟩ := hall i o hiE ho
        have hpre : ∀ m, memB m (pre PT i) = true → listed.getD m false = true := pre_closed (os := ops.toList) hPT (X := fun i => listed.getD i false) (fun k o' hk hx => hcl k o' (by simpa using hk) hx) i o (by simpa using ho) hei
        refine hM.step hF ho he hok hu hdst hpre (by rw [hui]; simp) (fun h => by cases h) (fun k hk => by have := hlt k hk; omega) fun a' c' hM' => ?_
        have hXe : (fun k => listed.getD k false = true ∨ k = i) = fun k => (listed.setIfInBounds i true).getD k false = true := by
          funext k
          simp only [eq_iff_iff]
          by_cases hki : k = i
          · subst hki
            simp only [or_true, true_iff]
            exact getD_set_self (by omega)
          · rw [getD_set_ne false (fun e => hki e.symm)]
            simp [hki]
        rw [hXe] at hM'
        refine ih _ c' a' (by simp [hs]) (fun k hk => ?_) (fun k o' hk hx j hj => ?_) ?_ hM'
        · by_cases hki : k = i
          · omega
          · rw [getD_set_ne false (fun e => hki e.symm)] at hk
            exact hlt k hk
        · have up : ∀ j, listed.getD j false = true → (listed.setIfInBounds i true).getD j false = true := fun j hj => by
            by_cases hji : j = i
            · subst hji; exact getD_set_self (by omega)
            · rw [getD_set_ne false (fun e => hji e.symm)]; exact hj
          by_cases hki : k = i
          · subst hki
            rw [ho] at hk
            cases hk
            exact up j (hei j hj)
          · rw [getD_set_ne false (fun e => hki e.symm)] at hx
            exact up j (hcl k o' hk hx j hj)
        · have := cnt_step (i := i) (p := fun k => !listed.getD k false) (q := fun k => !(listed.setIfInBounds i true).getD k false) (by simp [hui]) (by simp [getD_set_self (show i < listed.size by omega)]) (fun j hj => by rw [getD_set_ne false (fun e => hj e.symm)]) (List.range nQ) List.nodup_range (List.mem_range.2 hiE)
          omega
end

theorem reg_sound {G : Gm} {ops : Array Oper} {id : Nat} {dr : Bool} {F : Fence} (hF : Open F) {n : Nat} {Q : Exit → Act → World → Prop} {w0 : World} {M : Frm} {dfs : List Deferred} {K : List Sv → Hp → Prop}
    (hy : YdOk G.P w0 M G.l G.its) (hQ : ∀ a c tm hp, K tm hp → St w0 M c tm hp a dfs → Q .normal a c.w) {tm : List Sv} {hp : Hp} {c : Cx} {a : Act} {id' : Nat} (h : RegW G id' dr ops.toList tm hp K) (hS : St w0 M c tm hp a dfs) : (Code.region id ops dr).wpIn F n G.P Q a c.w := by
  have text : runR G ops.toList ops.toList tm hp K → (Code.region id ops false).wpIn F n G.P Q a c.w := fun h => by
    refine wpIn_region ?_
    have := runR_sound (n := n) (Q := Q) hF hy hQ ops.toList 0 tm hp c a rfl h hS
    rwa [List.range_eq_range', show ops.size = ops.toList.length from by simp]
  rcases h with h | h
  · cases dr with
    | false => exact text h
    | true => exact draw_sound hF hy hQ h hS
  · rw [litK_eq] at h
    have hnQ := quietN_le ops.toList
    generalize quietN ops.toList = nQ at h hnQ
    have hnQ : nQ ≤ ops.size := by simpa using hnQ
    -- what the walk of the front tells
    have front : ∀ {dr : Bool} {PT : List (List Nat)}, regQ G dr PT ops.toList nQ tm hp K → ∃ T tmF tm', T.length = nQ ∧ Opt tm T tmF ∧ tm'.length = tmF.length ∧
        (∀ t, (tmGet tm' t = tmGet tmF t ∧ ∀ e ∈ T, e.dst = some t → e.ch = []) ∨ tmGet tm' t = .any) ∧
        (∀ (a b : Nat) (x y : QE) (d : Nat), T[a]? = some x → T[b]? = some y → x.dst = some d → y.dst = some d → a = b) ∧ (∀ (k : Nat) (ek : QE) (ok : Oper), T[k]? = some ek → ops[k]? = some ok → ek.dst = ok.dst) ∧
        (∀ m o, m < nQ → ops[m]? = some o → ∃ e, T[m]? = some e ∧ EntQ G.P hp (seenP dr PT m) dr tm T m o e) ∧ (match dr with | true => tailOk PT (ops.toList.drop nQ) nQ | false => true) = true ∧
        (match dr with | true => tailV G (ops.toList.drop nQ) tm' hp K | false => runR G ops.toList (ops.toList.drop nQ) tm' hp K) := by
      intro dr PT h
      unfold regQ at h
      rw [chk_iff] at h
      obtain ⟨hc, h⟩ := h
      simp only [Bool.and_eq_true] at hc
      obtain ⟨T, tmF, hK, hopt, hlen, hTo, hall⟩ := runQ_sound hc.1 (fun d hd => memB_of_mem hd) _ 0 tm [] _ rfl rfl (fun k e hk => by simp at hk) ⟨rfl, fun t => ⟨fun k e hk => by simp at hk, fun _ => rfl⟩⟩ h
      simp only [List.nil_append, Nat.zero_add] at hK hopt hlen hTo hall
      obtain ⟨tm', hK', hl', ht'⟩ := endQ_sound hK
      have hat : ∀ (k : Nat) (o : Oper), (ops.toList.take nQ)[k]? = some o → ops[k]? = some o := fun k o hk => by
        rw [List.getElem?_take] at hk
        split at hk
        · simpa using hk
        · cases hk
      refine ⟨T, tmF, tm', by rw [hlen]; simp; omega, hopt, hl', ht', fun x y ex ey d hx hy hdx hdy => ?_, fun k ek ok hk hok => ?_, fun m o hm ho => ?_, hc.2, hK'⟩
      · obtain ⟨ox, hox, e1⟩ := hTo x ex hx
        obtain ⟨oy, hoy, e2⟩ := hTo y ey hy
        exact distinctD_at hc.1 x y ox oy d hox hoy (e1 ▸ hdx) (e2 ▸ hdy)
      · obtain ⟨o', ho', e1⟩ := hTo k ek hk
        rw [hat k o' ho'] at hok
        cases hok
        exact e1
      · exact hall m o (by rw [List.drop_zero, List.getElem?_take, if_pos hm]; simpa using ho)
    cases dr with
    | false =>
      obtain ⟨T, tmF, tm', hTl, hopt, hl', ht', hu, hdst, hall, _, hK⟩ := front h
      simp only at hK
      refine wpIn_region ?_
      have hall' : ∀ m o, m < nQ → ops[m]? = some o → ∃ e, T[m]? = some e ∧ EntQ G.P hp (seenP false [] m) false tm T m o e := hall
      have := qtext_sound (F := F) (n := n) (Q := Q) (w0 := w0) (M := M) (dfs := dfs) hF hnQ hTl hall' hu hdst (fun a1 c1 hM => ?_) nQ 0 a c (by omega) (by
        have h0 := QMid.start (T := T) hS
        have hXe : (fun k : Nat => k < 0) = fun _ => False := by funext k; simp
        rw [hXe]
        exact h0)
      · simpa [List.range_eq_range'] using this
      · have hS1 := hM.finish (fun k e hk => by have := (List.getElem?_eq_some_iff.1 hk).1; omega) hopt hl' ht'
        have := runR_sound (n := n) (Q := Q) hF hy hQ (ops.toList.drop nQ) nQ tm' hp c1 a1 rfl hK hS1
        simpa using this
    | true =>
      obtain ⟨PT, h, _, hPT⟩ := preTabK_sound h
      simp only [List.nil_append, List.length_nil, Nat.zero_add] at h hPT
      obtain ⟨T, tmF, tm', hTl, hopt, hl', ht', hu, hdst, hall, htail, hK⟩ := front h
      simp only at hK htail
      let w1 : World := { c.w with drawn := c.w.drawn + 1 }
      have hg : WGrow c.w w1 := ⟨rfl, rfl, rfl, Nat.le_refl _, fun _ _ => rfl⟩
      have hS1 : St w0 M { c with w := w1 } tm hp a dfs := { inv := hS.inv.grow hg, full := hS.full, rel := fun t => Rel.le _ (Sv.all_true _) (hS.inv.le_grow hg) (hS.rel t), size := hS.size, ds := hS.ds }
      have hrep : ∀ i, (Array.replicate ops.size false).getD i false = false := fun i => by
        rw [Array.getD_eq_getD_getElem?, Array.getElem?_replicate]
        split <;> rfl
      refine wpIn_region_any G.mix ?_
      refine qdraw_sound (w0 := w0) (M := M) (dfs := dfs) (T := T) (tm0 := tm) hF hy hQ hnQ hTl hPT htail hall hu hdst hK (fun a1 c1 hM => hM.finish (fun k e hk => by have := (List.getElem?_eq_some_iff.1 hk).1; omega) hopt hl' ht') ops.size (Array.replicate ops.size false) { c with w := w1 } a (by simp) (fun i hi => by rw [hrep] at hi; cases hi) (fun i o ho hi => by rw [hrep] at hi; cases hi) ?_ ?_
      · have : (List.range nQ).filter (fun i => !(Array.replicate ops.size false).getD i false) = List.range nQ := by
          rw [List.filter_eq_self]
          intro i _
          rw [hrep]
          rfl
        rw [this]
        simp
        omega
      · have hXf : (fun i => (Array.replicate ops.size false).getD i false = true) = fun _ => False := by
          funext i
          rw [hrep]
          simp
        rw [hXf]
        exact QMid.start hS1
end Go.Eng

/- The engine, part Fz: an own block turns into content for good. -/
namespace Go.Eng
open Go Go.RowKit

/-- The value, with block k as content. -/
def Sv.frz (k wd : Nat) (rows : List (List Sv)) : Sv → Sv
  | .agg cs => .agg (go k wd rows cs)
  | .tup cs => .tup (go k wd rows cs)
  | .clo f cs => .clo f (go k wd rows cs)
  | .ptr j r q => match Nat.beq j k with | true => .any | false => .ptr j r q
  | .own j n => match Nat.beq j k with | true => .ext true wd rows | false => .own j n
  | .sls j l n => match Nat.beq j k with | true => .any | false => .sls j l n
  | s => s
where go (k wd : Nat) (rows : List (List Sv)) : List Sv → List Sv
  | [] => []
  | s :: ss => s.frz k wd rows :: go k wd rows ss
/-- How long the block is where it is named. -/
def Sv.ow (k : Nat) : Sv → List Nat → List Nat
  | .agg cs, l => go k cs l
  | .tup cs, l => go k cs l
  | .clo _ cs, l => go k cs l
  | .own j n, l => match Nat.beq j k with | true => n :: l | false => l
  | _, l => l
where go (k : Nat) : List Sv → List Nat → List Nat
  | [], l => l
  | s :: ss, l => s.ow k (go k ss l)
def owR (k : Nat) : List (List Sv) → List Nat → List Nat
  | [], l => l
  | r :: rs, l => Sv.ow.go k r (owR k rs l)
def owH (k : Nat) : Hp → List Nat → List Nat
  | [], l => l
  | none :: bs, l => owH k bs l
  | some b :: bs, l => match b.clean with
    | true => owH k bs l
    | false => owR k b.rows (owH k bs l)
def allEq (m : Nat) : List Nat → Prop
  | [] => True
  | n :: ns => n = m ∧ allEq m ns
def frzH (k wd : Nat) (rows : List (List Sv)) : Nat → Hp → Hp
  | _, [] => []
  | i, none :: bs => none :: frzH k wd rows (i + 1) bs
  | i, some b :: bs => (match Nat.beq i k with
    | true => none
    | false => match b with
      | ⟨e, w, true, gr, rs⟩ => some ⟨e, w, true, gr, rs⟩
      | ⟨e, w, false, gr, rs⟩ => some ⟨e, w, false, gr, rs.map (Sv.frz.go k wd rows)⟩) :: frzH k wd rows (i + 1) bs
def frzK (m k : Nat) (tm : List Sv) (hp : Hp) (K : List Sv → Hp → Prop) : Prop :=
  match hpGet hp k with
  | some b => chk (Nat.ble m k && b.clean && b.grow) <| Need (allEq b.rows.length (Sv.ow.go k tm (owH k hp []))) <| deepK (Sv.frz.go k b.wd b.rows tm) fun tm => hpK (frzH k b.wd b.rows 0 hp) fun hp => K tm hp
  | none => False
def frzKs (m : Nat) : List Nat → List Sv → Hp → (List Sv → Hp → Prop) → Prop
  | [], tm, hp, K => K tm hp
  | k :: ks, tm, hp, K => frzK m k tm hp fun tm hp => frzKs m ks tm hp K

theorem allEq_mem {m : Nat} : ∀ {l : List Nat}, allEq m l → ∀ n ∈ l, n = m
  | x :: l, h, n, hn => by
    rcases List.mem_cons.1 hn with rfl | hn
    · exact h.1
    · exact allEq_mem h.2 n hn
mutual
theorem ow_sub (k : Nat) : ∀ (s : Sv) (l : List Nat), ∀ n ∈ l, n ∈ s.ow k l
  | .val _, l, n, h | .any, l, n, h | .ext _ _ _, l, n, h | .ref _ _, l, n, h | .ptr _ _ _, l, n, h | .sls _ _ _, l, n, h => h
  | .own j m, l, n, h => by
    simp only [Sv.ow]
    split
    · exact List.mem_cons_of_mem _ h
    · exact h
  | .agg cs, l, n, h => owL_sub k cs l n h
  | .tup cs, l, n, h => owL_sub k cs l n h
  | .clo _ cs, l, n, h => owL_sub k cs l n h
theorem owL_sub (k : Nat) : ∀ (ss : List Sv) (l : List Nat), ∀ n ∈ l, n ∈ Sv.ow.go k ss l
  | [], l, n, h => h
  | s :: ss, l, n, h => by simp only [Sv.ow.go]; exact ow_sub k s _ n (owL_sub k ss l n h)
end
/-- What holds between the state ahead and behind. -/
structure FzH (k wd : Nat) (rows : List (List Sv)) (c c' : Cx) : Prop where
  le : c.Le (fun j => !Nat.beq j k) c'
  own : ∀ v, Rel (.own k rows.length) c v → Rel (.ext true wd rows) c' v
mutual
theorem frz_rel {k wd : Nat} {rows : List (List Sv)} {c c' : Cx} (H : FzH k wd rows c c') : ∀ (s : Sv) (l : List Nat) {v : Value}, allEq rows.length (s.ow k l) → Rel s c v → Rel (s.frz k wd rows) c' v
  | .val x, _, _, _, r => r
  | .any, _, _, _, r => r
  | .ext fr w rs, _, _, _, r => Rel.le (.ext fr w rs) rfl H.le r
  | .ref fr cs, _, _, _, r => Rel.le (.ref fr cs) rfl H.le r
  | .ptr j r0 q, _, _, _, r => by
    simp only [Sv.frz]
    split
    · simp [Rel]
    · rename_i hb
      exact Rel.le _ (by simp [Sv.all, hb]) H.le r
  | .sls j l0 n, _, _, _, r => by
    simp only [Sv.frz]
    split
    · simp [Rel]
    · rename_i hb
      exact Rel.le _ (by simp [Sv.all, hb]) H.le r
  | .own j n, l, v, ha, r => by
    simp only [Sv.frz]
    split
    · rename_i hb
      have := Nat.eq_of_beq_eq_true hb
      subst this
      simp only [Sv.ow, hb] at ha
      have hn := ha.1
      rw [hn] at r
      exact H.own v r
    · rename_i hb
      exact Rel.le _ (by simp [Sv.all, hb]) H.le r
  | .agg cs, l, v, ha, r => by
    simp only [Sv.frz, Rel] at r ⊢
    obtain ⟨vs, e, hl⟩ := r
    exact ⟨vs, e, frzL_rel H cs l ha hl⟩
  | .tup cs, l, v, ha, r => by
    simp only [Sv.frz, Rel] at r ⊢
    obtain ⟨vs, e, hl⟩ := r
    exact ⟨vs, e, frzT_rel H cs l ha hl⟩
  | .clo f cs, l, v, ha, r => by
    simp only [Sv.frz, Rel] at r ⊢
    obtain ⟨vs, e, hl⟩ := r
    exact ⟨vs, e, frzT_rel H cs l ha hl⟩
theorem frzL_rel {k wd : Nat} {rows : List (List Sv)} {c c' : Cx} (H : FzH k wd rows c c') : ∀ (ss : List Sv) (l : List Nat) {vs : List Value}, allEq rows.length (Sv.ow.go k ss l) → RelL ss c vs → RelL (Sv.frz.go k wd rows ss) c' vs
  | [], _, _, _, r => by simpa [Sv.frz.go, RelL] using r
  | s :: ss, l, _, ha, r => by
    simp only [Sv.frz.go, Sv.ow.go, RelL] at ha r ⊢
    obtain ⟨u, us, e, h1, hs, hl⟩ := r
    exact ⟨u, us, e, h1, frz_rel H s _ ha hs, frzL_rel H ss l (allEq_sub (ow_sub k s _) ha) hl⟩
theorem frzT_rel {k wd : Nat} {rows : List (List Sv)} {c c' : Cx} (H : FzH k wd rows c c') : ∀ (ss : List Sv) (l : List Nat) {vs : List Value}, allEq rows.length (Sv.ow.go k ss l) → RelT ss c vs → RelT (Sv.frz.go k wd rows ss) c' vs
  | [], _, _, _, r => by simpa [Sv.frz.go, RelT] using r
  | s :: ss, l, _, ha, r => by
    simp only [Sv.frz.go, Sv.ow.go, RelT] at ha r ⊢
    obtain ⟨u, us, e, hs, hl⟩ := r
    exact ⟨u, us, e, frz_rel H s _ ha hs, frzT_rel H ss l (allEq_sub (ow_sub k s _) ha) hl⟩
theorem frzC_rel {k wd : Nat} {rows : List (List Sv)} {c c' : Cx} (H : FzH k wd rows c c') {b : Nat} (hb : c'.w.heap[b]? = c.w.heap[b]?) : ∀ (ss : List Sv) (l : List Nat) {off : Nat}, allEq rows.length (Sv.ow.go k ss l) → RelC ss c b off → RelC (Sv.frz.go k wd rows ss) c' b off
  | [], _, _, _, _ => by simp [Sv.frz.go, RelC]
  | s :: ss, l, off, ha, r => by
    simp only [Sv.frz.go, Sv.ow.go, RelC] at ha r ⊢
    obtain ⟨⟨u, e, h1, hs⟩, hl⟩ := r
    exact ⟨⟨u, (World.cell?_of_block (a := ⟨b, off, none⟩) hb).trans e, h1, frz_rel H s _ ha hs⟩, frzC_rel H hb ss l (allEq_sub (ow_sub k s _) ha) hl⟩
theorem allEq_sub {m : Nat} {l l' : List Nat} (h : ∀ n ∈ l, n ∈ l') (ha : allEq m l') : allEq m l := by
  have h1 := allEq_mem ha
  clear ha
  induction l with
  | nil => trivial
  | cons x l ih => exact ⟨h1 x (h x (by simp)), ih fun n hn => h n (by simp [hn])⟩
end

theorem frzGo_length {k wd : Nat} {rows : List (List Sv)} : ∀ ss : List Sv, (Sv.frz.go k wd rows ss).length = ss.length
  | [] => rfl
  | s :: ss => by simp [Sv.frz.go, frzGo_length ss]
theorem owR_sub (k : Nat) : ∀ (rs : List (List Sv)) (l : List Nat), ∀ n ∈ l, n ∈ owR k rs l
  | [], l, n, h => h
  | r :: rs, l, n, h => owL_sub k r _ n (owR_sub k rs l n h)
theorem owH_sub (k : Nat) : ∀ (hp : Hp) (l : List Nat), ∀ n ∈ l, n ∈ owH k hp l
  | [], l, n, h => h
  | none :: bs, l, n, h => owH_sub k bs l n h
  | some b :: bs, l, n, h => by
    simp only [owH]
    split
    · exact owH_sub k bs l n h
    · exact owR_sub k _ _ n (owH_sub k bs l n h)
theorem owH_get (k : Nat) {m : Nat} : ∀ (hp : Hp) (l : List Nat), allEq m (owH k hp l) → ∀ (j : Nat) (b : Blk), hp[j]? = some (some b) → b.clean = false → ∃ l', allEq m (owR k b.rows l')
  | x :: bs, l, h, j, b, hj, hc => by
    cases j with
    | zero =>
      simp only [List.getElem?_cons_zero, Option.some.injEq] at hj
      subst hj
      simp only [owH, hc] at h
      exact ⟨_, h⟩
    | succ j =>
      simp only [List.getElem?_cons_succ] at hj
      cases x with
      | none => exact owH_get k bs l h j b hj hc
      | some y =>
        simp only [owH] at h
        split at h
        · exact owH_get k bs l h j b hj hc
        · exact owH_get k bs l (allEq_sub (owR_sub k _ _) h) j b hj hc
  | [], _, _, j, b, hj, _ => by simp at hj
theorem frzR_rel {k wd : Nat} {rows : List (List Sv)} {c c' : Cx} (H : FzH k wd rows c c') {b : Nat} (hb : c'.w.heap[b]? = c.w.heap[b]?) : ∀ (rs : List (List Sv)) (l : List Nat) {w off : Nat}, allEq rows.length (owR k rs l) → RelR rs c w b off → RelR (rs.map (Sv.frz.go k wd rows)) c' w b off
  | [], _, _, _, _, _ => by simp [RelR]
  | r :: rs, l, w, off, ha, h => by
    simp only [List.map_cons, RelR, owR] at ha h ⊢
    exact ⟨by rw [frzGo_length]; exact h.1, frzC_rel H hb r _ ha h.2.1, frzR_rel H hb rs l (allEq_sub (owL_sub k r _) ha) h.2.2⟩
/-- Another block, told anew. -/
def Blk.frz (k wd : Nat) (rows : List (List Sv)) (b : Blk) : Blk :=
  match b with
  | ⟨e, w, true, gr, rs⟩ => ⟨e, w, true, gr, rs⟩
  | ⟨e, w, false, gr, rs⟩ => ⟨e, w, false, gr, rs.map (Sv.frz.go k wd rows)⟩
theorem frzH_get {k wd : Nat} {rows : List (List Sv)} : ∀ (hp : Hp) (i j : Nat), (frzH k wd rows i hp)[j]? = (hp[j]?).map fun x => match x with | none => none | some b => match Nat.beq (i + j) k with | true => none | false => some (b.frz k wd rows)
  | [], _, _ => by simp [frzH]
  | none :: bs, i, 0 => by simp [frzH]
  | some b :: bs, i, 0 => by
    simp only [frzH, List.getElem?_cons_zero, Option.map_some, Nat.add_zero]
    cases Nat.beq i k with
    | true => rfl
    | false => cases b with | mk e w cl gr rs => cases cl <;> rfl
  | none :: bs, i, j + 1 => by
    simp only [frzH, List.getElem?_cons_succ]
    rw [frzH_get bs (i + 1) j, show i + 1 + j = i + (j + 1) by omega]
  | some b :: bs, i, j + 1 => by
    simp only [frzH, List.getElem?_cons_succ]
    rw [frzH_get bs (i + 1) j, show i + 1 + j = i + (j + 1) by omega]
theorem frzT_get {k wd : Nat} {rows : List (List Sv)} : ∀ (tm : List Sv) (t : Nat), tmGet (Sv.frz.go k wd rows tm) t = (tmGet tm t).frz k wd rows
  | [], t => by simp [Sv.frz.go, tmGet, nth, Sv.frz]
  | s :: ss, 0 => by simp [Sv.frz.go, tmGet, nth]
  | s :: ss, t + 1 => frzT_get ss t
theorem owT_get (k : Nat) {m : Nat} : ∀ (tm : List Sv) (l : List Nat), allEq m (Sv.ow.go k tm l) → ∀ t, ∃ l', allEq m ((tmGet tm t).ow k l')
  | [], l, h, t => ⟨[], by simp [tmGet, nth, Sv.ow, allEq]⟩
  | s :: ss, l, h, 0 => ⟨_, by simpa [tmGet, nth, Sv.ow.go] using h⟩
  | s :: ss, l, h, t + 1 => owT_get k ss l (allEq_sub (ow_sub k s _) (by simpa only [Sv.ow.go] using h)) t

theorem frzK_sound {w0 : World} {M : Frm} {c : Cx} {tm : List Sv} {hp : Hp} {a : Act} {ds : List Deferred} (hS : St w0 M c tm hp a ds) {k : Nat} {K : List Sv → Hp → Prop} (h : frzK M.m k tm hp K) :
    ∃ tm' hp' c', K tm' hp' ∧ c'.w = c.w ∧ St w0 M c' tm' hp' a ds := by
  unfold frzK at h
  split at h
  case h_2 => exact h.elim
  rename_i b hb
  rw [chk_iff] at h
  obtain ⟨hch, hall, h⟩ := h
  rw [deepK_eq, hpK_eq] at h
  simp only [Bool.and_eq_true] at hch
  obtain ⟨⟨hmk, hcl⟩, hgr⟩ := hch
  have hmk := Nat.le_of_ble_eq_true hmk
  have hb' := hpGet_eq.1 hb
  have hI := hS.inv
  have hDk := hS.full k b hb'
  obtain ⟨b2, hb2, hbr⟩ := hI.dom k hDk
  rw [hb'] at hb2
  cases hb2
  let S : Nat → Prop := fun x => (c.E k).nil = false ∧ x = (c.E k).b
  let c' : Cx := { c with D := fun j => c.D j ∧ j ≠ k, X := fun x => c.X x ∨ S x }
  have hSl : ∀ x, S x → x < c.w.heap.size ∧ (w0.heap.size ≤ x ∨ M.M x) := fun x hx => by
    obtain ⟨h1, rfl⟩ := hx
    exact ⟨hbr.lt h1, (hI.loc k hDk h1).symm⟩
  have hle : c.Le (fun j => !Nat.beq j k) c' := ⟨fun j hj hd => ⟨⟨hd, fun e => by subst e; simp at hj⟩, rfl⟩, fun _ h => .inl h, fun _ _ h => h, fun _ _ => rfl⟩
  have hles : c.shut.Le (fun _ => true) c'.shut := ⟨fun _ _ hk => hk.elim, fun _ h => .inl h, fun _ _ h => h, fun _ _ => rfl⟩
  have H : FzH k b.wd b.rows c c' := by
    refine ⟨hle, fun v r => ?_⟩
    simp only [Rel] at r ⊢
    obtain ⟨_, ⟨hn, rfl, h0⟩ | ⟨hn, rfl, hc⟩⟩ := r
    · exact ⟨none, 0, by rw [h0], by omega, .inl (List.eq_nil_of_length_eq_zero h0)⟩
    · refine ⟨_, _, rfl, hc, .inr ⟨_, _, rfl, .inr ⟨hn, rfl⟩, fun _ => ?_, ?_⟩⟩
      · show c.G _
        rw [hI.bnd]
        exact hI.bndG.g _ (hSl _ ⟨hn, rfl⟩).2
      · obtain ⟨arr, hh, hr, _⟩ := hbr.2.2 hn
        simp only [Blk.cx, hcl] at hr
        exact RelR.le _ (allR_true _) hles rfl hr
  have hget : ∀ j bj, hp[j]? = some (some bj) → j ≠ k → (frzH k b.wd b.rows 0 hp)[j]? = some (some (bj.frz k b.wd b.rows)) := fun j bj hj hne => by
    rw [frzH_get, hj]
    simp only [Option.map_some, Nat.zero_add]
    cases hx : Nat.beq j k with
    | true => exact absurd (Nat.eq_of_beq_eq_true hx) hne
    | false => rfl
  have hpos : ∀ j bj, (frzH k b.wd b.rows 0 hp)[j]? = some (some bj) → j ≠ k ∧ ∃ b0, hp[j]? = some (some b0) ∧ bj = b0.frz k b.wd b.rows := fun j bj hj => by
    rw [frzH_get] at hj
    cases hx : hp[j]? with
    | none => rw [hx] at hj; cases hj
    | some x =>
      rw [hx] at hj
      simp only [Option.map_some, Option.some.injEq, Nat.zero_add] at hj
      cases x with
      | none => cases hj
      | some b0 =>
        simp only at hj
        cases hbe : Nat.beq j k with
        | true => rw [hbe] at hj; cases hj
        | false =>
          rw [hbe] at hj
          simp only [Option.some.injEq] at hj
          exact ⟨fun e => (by rw [e, Nat.beq_refl] at hbe; cases hbe), b0, rfl, hj.symm⟩
  have hfe : ∀ b0 : Blk, (b0.frz k b.wd b.rows).elem = b0.elem ∧ (b0.frz k b.wd b.rows).grow = b0.grow ∧ (b0.frz k b.wd b.rows).wd = b0.wd ∧ (b0.frz k b.wd b.rows).clean = b0.clean ∧ (b0.frz k b.wd b.rows).rows.length = b0.rows.length ∧ (b0.clean = true → (b0.frz k b.wd b.rows) = b0) := fun b0 => by
    cases b0 with
    | mk e w cl gr rs => cases cl <;> simp [Blk.frz]
  have hallT : allEq b.rows.length (Sv.ow.go k tm (owH k hp [])) := hall
  have hallH : allEq b.rows.length (owH k hp []) := allEq_sub (owL_sub k tm _) hallT
  refine ⟨_, _, c', h, rfl, { inv := ?_, full := fun j bj hj => ?_, rel := fun t => ?_, size := by rw [frzGo_length]; exact hS.size, ds := hS.ds.cq ⟨rfl, rfl, rfl, fun _ _ => rfl⟩ }⟩
  · exact { hI with
      dom := fun j hj => by
        obtain ⟨bj, ej, rj⟩ := hI.dom j hj.1
        refine ⟨_, hget j bj ej hj.2, ?_⟩
        obtain ⟨f1, f2, f3, f4, f5, f6⟩ := hfe bj
        cases hc : bj.clean with
        | true =>
          rw [f6 hc]
          exact rj.le (p := fun j => !Nat.beq j k) hle rfl (fun _ => rfl) (fun h => by rw [hc] at h; cases h)
        | false =>
          obtain ⟨l', hl'⟩ := owH_get k hp [] hallH j bj ej hc
          unfold BlkRel at rj ⊢
          refine ⟨by rw [f3]; exact rj.1, fun hn => ?_, fun hn => ?_⟩
          · rcases rj.2.1 hn with ⟨h1, h2⟩ | ⟨_, h2, _⟩
            · exact .inl ⟨by rw [f2]; exact h1, List.eq_nil_of_length_eq_zero (by rw [f5, h2]; rfl)⟩
            · rw [hc] at h2; cases h2
          · obtain ⟨arr, hh, hr, hl, hg⟩ := rj.2.2 hn
            refine ⟨arr, by rw [f1]; exact hh, ?_, by rw [f3, f5]; exact hl, fun h => by rw [f3, f5]; exact hg (by rw [f2] at h; exact h)⟩
            simp only [Blk.cx, hc] at hr
            simp only [Blk.cx, f4, hc, f3]
            have := frzR_rel H (b := (c.E j).b) rfl bj.rows l' hl' hr
            cases bj with
            | mk e w cl gr rs =>
              simp only at hc
              subst hc
              exact this
      inj := fun j j' hj hj' => hI.inj j j' hj.1 hj'.1
      xsep := fun j x hj hn hx => hx.elim (hI.xsep j x hj.1 hn) fun ⟨hn2, e⟩ => by
        subst e
        exact hI.inj j k hj.1 hDk hj.2 hn hn2
      xlt := fun x hx => hx.elim (hI.xlt x) fun hs => (hSl x hs).1
      xY := fun x hx hy => hx.elim (fun h => hI.xY x h hy) fun hs => by
        have h1 := hI.bndG.y x hy
        rcases (hSl x hs).2 with h2 | h2
        · omega
        · exact h1.2 h2
      e0 := fun j hj hd => hI.e0 j hj hd.1
      mlen := by
        have : ∀ (l : Hp) (i : Nat), (frzH k b.wd b.rows i l).length = l.length := by
          intro l
          induction l with
          | nil => intro i; rfl
          | cons x l ih => intro i; cases x <;> simp [frzH, ih]
        rw [this]
        exact hI.mlen
      loc := fun j hj => hI.loc j hj.1
      x0 := fun x hx => hx.elim (hI.x0 x) fun hs => (hSl x hs).2.elim .inl (fun h => .inr (.inl h))
      xk := fun x hx => .inl (hI.xk x hx)
      ca := fun x hx => ⟨(hI.ca x hx).1, fun hX => hX.elim (hI.ca x hx).2.1 fun ⟨hn, e⟩ => (hI.cc x (hI.ca x hx).1).2.1 k hDk hn e.symm, (hI.ca x hx).2.2⟩
      cc := fun x hx => ⟨(hI.cc x hx).1, fun j hj => (hI.cc x hx).2.1 j hj.1, (hI.cc x hx).2.2⟩
      zc := fun x hx => ⟨(hI.zc x hx).1, (hI.zc x hx).2.1, fun hX => hX.elim (hI.zc x hx).2.2 fun ⟨hn, e⟩ => (hI.cc x (hI.zc x hx).1).2.1 k hDk hn e.symm⟩
      gh := fun j bj hj hbj hn hg => by
        obtain ⟨_, b0, e0, e1⟩ := hpos j bj hbj
        obtain ⟨f1, f2, f3, f4, f5, f6⟩ := hfe b0
        subst e1
        rw [f2] at hg
        have hc : b0.clean = true := by
          obtain ⟨b3, e3, r3⟩ := hI.dom j hj.1
          rw [e0] at e3
          cases e3
          rcases r3.2.1 hn with ⟨h1, _⟩ | ⟨_, h1, _⟩
          · rw [hg] at h1; cases h1
          · exact h1
        rw [f6 hc]
        exact hI.gh j b0 hj.1 e0 hn hg }
  · obtain ⟨hne, b0, e0, _⟩ := hpos j bj hj
    exact ⟨hS.full j b0 e0, hne⟩
  · rw [frzT_get]
    obtain ⟨l', hl'⟩ := owT_get k tm _ hallT t
    exact frz_rel H _ l' hl' (hS.rel t)
theorem frzKs_sound {w0 : World} {M : Frm} : ∀ (ks : List Nat) {c : Cx} {tm : List Sv} {hp : Hp} {a : Act} {ds : List Deferred}, St w0 M c tm hp a ds → ∀ {K : List Sv → Hp → Prop}, frzKs M.m ks tm hp K → ∃ tm' hp' c', K tm' hp' ∧ c'.w = c.w ∧ St w0 M c' tm' hp' a ds
  | [], c, tm, hp, a, ds, hS, K, h => ⟨tm, hp, c, h, rfl, hS⟩
  | k :: ks, c, tm, hp, a, ds, hS, K, h => by
    obtain ⟨tm1, hp1, c1, h1, e1, hS1⟩ := frzK_sound hS h
    obtain ⟨tm2, hp2, c2, h2, e2, hS2⟩ := frzKs_sound ks hS1 h1
    exact ⟨tm2, hp2, c2, h2, e2.trans e1, hS2⟩

/-- A region: at once, or behind blocks that turn into content. -/
inductive RegV (G : Gm) (id : Nat) (dr : Bool) (ops : List Oper) (tm : List Sv) (hp : Hp) (K : List Sv → Hp → Prop) : Prop
  | d : (match dr with | true => DrawV G ops tm hp K | false => runR G ops ops tm hp K) → RegV G id dr ops tm hp K
  | q : (litK (quietN ops) fun nQ => match dr with | true => preTabK ops [] fun PT => regQ G dr PT ops nQ tm hp K | false => regQ G dr [] ops nQ tm hp K) → RegV G id dr ops tm hp K
  | f (ks : List Nat) : frzKs G.m ks tm hp (fun tm hp => RegW G id dr ops tm hp K) → RegV G id dr ops tm hp K
theorem regv_sound {G : Gm} {ops : Array Oper} {id id' : Nat} {dr : Bool} {F : Fence} (hF : Open F) {n : Nat} {Q : Exit → Act → World → Prop} {w0 : World} {M : Frm} {dfs : List Deferred} {K : List Sv → Hp → Prop} (hm : M.m = G.m)
    (hy : YdOk G.P w0 M G.l G.its) (hQ : ∀ a c tm hp, K tm hp → St w0 M c tm hp a dfs → Q .normal a c.w) {tm : List Sv} {hp : Hp} {c : Cx} {a : Act} (h : RegV G id' dr ops.toList tm hp K) (hS : St w0 M c tm hp a dfs) : (Code.region id ops dr).wpIn F n G.P Q a c.w := by
  rcases h with h | h | ⟨ks, h⟩
  · exact reg_sound hF hy hQ (id' := id') (.d h) hS
  · exact reg_sound hF hy hQ (id' := id') (.q h) hS
  · rw [← hm] at h
    obtain ⟨tm', hp', c', h', e, hS'⟩ := frzKs_sound ks hS h
    rw [← e]
    exact reg_sound hF hy hQ h' hS'
end Go.Eng

/- The engine, part V: loops over functions: what a loop's rounds hang on. -/
namespace Go.Eng
open Go Go.RowKit

/-! ### The same state in another world, or seen from another start -/
theorem Inv.same {w0 : World} {M : Frm} {c : Cx} {hp : Hp} (h : Inv w0 M c hp) {Cs : Nat → Prop} {w' : World} (hw : WSame Cs c.w w') (h1 : ∀ k, c.D k → (c.E k).nil = false → Cs (c.E k).b) (h2 : ∀ b, c.X b → Cs b) (h3 : ∀ b, c.C b → Cs b)
    (h4 : ∀ b, b < w0.heap.size → ¬ M.M b → ¬ M.Y b → Cs b) : Inv w0 M { c with w := w' } hp ∧ c.Le (fun _ => true) { c with w := w' } := by
  have hle : c.Le (fun _ => true) { c with w := w' } := ⟨fun _ _ hk => ⟨hk, rfl⟩, fun _ h => h, fun _ _ h => h, fun b hb => hw.block b (h2 b hb)⟩
  refine ⟨?_, hle⟩
  exact {
    dom := fun k hk => let ⟨blk, e, r⟩ := h.dom k hk; ⟨blk, e, r.le hle rfl (fun hn => hw.block _ (h1 k hk hn)) (fun _ => allR_true _)⟩
    inj := h.inj
    xsep := h.xsep
    xlt := fun b hb => Nat.lt_of_lt_of_le (h.xlt b hb) hw.size
    xY := h.xY
    bnd := h.bnd
    bndG := h.bndG
    e0 := h.e0
    mlen := h.mlen
    os := hw.os.trans h.os
    tape := hw.tape.trans h.tape
    output := hw.output.trans h.output
    size := Nat.le_trans h.size hw.size
    keep := fun j hj hm hy => (hw.block j (h4 j hj hm hy)).trans (h.keep j hj hm hy)
    loc := h.loc
    x0 := h.x0
    zc := h.zc
    z0 := h.z0
    xk := h.xk
    ca := h.ca
    cc := fun b hb => ⟨Nat.lt_of_lt_of_le (h.cc b hb).1 hw.size, (h.cc b hb).2⟩
    gh := fun k blk hD hb hn hg => h.ghs (hw.mono h3) hD hb hn hg }

theorem putObj_wsame (w : World) (b : Nat) (o : Obj) : WSame (fun x => x ≠ b) w (w.putObj b o) := ⟨rfl, rfl, rfl, by simp, fun _ hx => World.putObj_heap_other hx⟩

/-- A block in which the machine keeps its own books is turned. -/
theorem Inv.putZ {w0 : World} {M : Frm} {c : Cx} {hp : Hp} (h : Inv w0 M c hp) {b : Nat} (o : Obj) (hz : c.Z b) (h0 : w0.heap.size ≤ b) : Inv w0 M { c with w := c.w.putObj b o } hp ∧ c.Le (fun _ => true) { c with w := c.w.putObj b o } := by
  obtain ⟨z1, z2, z3⟩ := h.zc b hz
  obtain ⟨g1, g2, g3⟩ := h.cc b z1
  have hw := putObj_wsame c.w b o
  have hle : c.Le (fun _ => true) { c with w := c.w.putObj b o } := ⟨fun _ _ hk => ⟨hk, rfl⟩, fun _ h => h, fun _ _ h => h, fun x hx => hw.block x (fun e => z3 (e ▸ hx))⟩
  refine ⟨?_, hle⟩
  exact {
    dom := fun k hk => let ⟨blk, e, r⟩ := h.dom k hk; ⟨blk, e, r.le hle rfl (fun hn => hw.block _ (g2 k hk hn)) (fun _ => allR_true _)⟩
    inj := h.inj
    xsep := h.xsep
    xlt := fun b hb => Nat.lt_of_lt_of_le (h.xlt b hb) hw.size
    xY := h.xY
    bnd := h.bnd
    bndG := h.bndG
    e0 := h.e0
    mlen := h.mlen
    os := hw.os.trans h.os
    tape := hw.tape.trans h.tape
    output := hw.output.trans h.output
    size := Nat.le_trans h.size hw.size
    keep := fun j hj hm hy => (hw.block j (by omega)).trans (h.keep j hj hm hy)
    loc := h.loc
    x0 := h.x0
    zc := h.zc
    z0 := h.z0
    xk := h.xk
    ca := h.ca
    cc := fun b hb => ⟨Nat.lt_of_lt_of_le (h.cc b hb).1 hw.size, (h.cc b hb).2⟩
    gh := fun k blk hD hb hn hg => by
      obtain ⟨C1, h1, h2⟩ := h.gh k blk hD hb hn hg
      exact ⟨C1, h1, h.bndG.js _ _ _ _ _ _ h2 (hw.mono fun x hx e => (h1 x hx).2 (e ▸ hz))⟩ }

/-- New blocks in which the machine keeps its own books. -/
theorem Inv.addZ {w0 : World} {M : Frm} {c : Cx} {hp : Hp} (h : Inv w0 M c hp) {w' : World} (hg : WGrow c.w w') (Zn : Nat → Prop) (hn : ∀ b, Zn b → c.w.heap.size ≤ b ∧ b < w'.heap.size) :
    Inv w0 M { c with w := w', C := fun b => c.C b ∨ Zn b, Z := fun b => c.Z b ∨ Zn b } hp := by
  have hI := h.grow hg
  have hlt : ∀ k, c.D k → (c.E k).nil = false → (c.E k).b < c.w.heap.size := fun k hk hnil => let ⟨_, _, r⟩ := h.dom k hk; r.lt hnil
  have hle : Cx.Le (fun _ => true) { c with w := w' } { c with w := w', C := fun b => c.C b ∨ Zn b, Z := fun b => c.Z b ∨ Zn b } := ⟨fun _ _ hk => ⟨hk, rfl⟩, fun _ h => h, fun _ _ h => h, fun _ _ => rfl⟩
  exact { hI with
    dom := fun k hk => let ⟨blk, e, r⟩ := hI.dom k hk; ⟨blk, e, r.le hle rfl (fun _ => rfl) (fun _ => allR_true _)⟩
    zc := fun b hb => by
      rcases hb with hb | hb
      · exact ⟨.inl (h.zc b hb).1, (h.zc b hb).2⟩
      · refine ⟨.inr hb, fun ha => ?_, fun hx => ?_⟩
        · have := (h.cc b (h.ca b ha).1).1; have := (hn b hb).1; omega
        · have := h.xlt b hx; have := (hn b hb).1; omega
    z0 := fun b hb => .inl (h.z0 b hb)
    ca := fun b hb => ⟨.inl (h.ca b hb).1, (h.ca b hb).2⟩
    cc := fun b hb => by
      rcases hb with hb | hb
      · exact hI.cc b hb
      · exact ⟨(hn b hb).2, fun k hk hnil e => by have e : (c.E k).b = b := e; have := hlt k hk hnil; have := (hn b hb).1; omega, .inl (Nat.le_trans h.size (hn b hb).1)⟩
    gh := fun k blk hD hb hnil hgr => by
      obtain ⟨C1, h1, h2⟩ := hI.gh k blk hD hb hnil hgr
      refine ⟨C1, fun b hb => ⟨.inl (h1 b hb).1, fun hz => ?_⟩, h2⟩
      rcases hz with hz | hz
      · exact (h1 b hb).2 hz
      · have := (h.cc b (h1 b hb).1).1; have := (hn b hz).1; omega }

/-- More contents. -/
theorem Inv.addX {w0 : World} {M : Frm} {c : Cx} {hp : Hp} (h : Inv w0 M c hp) (S : Nat → Prop)
    (hS : ∀ b, S b → b < c.w.heap.size ∧ (∀ k, c.D k → (c.E k).nil = false → (c.E k).b ≠ b) ∧ ¬ c.A b ∧ ¬ c.Z b ∧ ¬ M.Y b ∧ (w0.heap.size ≤ b ∨ M.M b ∨ M.X0 b)) :
    Inv w0 M { c with X := fun b => c.X b ∨ S b } hp ∧ c.Le (fun _ => true) { c with X := fun b => c.X b ∨ S b } := by
  have hle : c.Le (fun _ => true) { c with X := fun b => c.X b ∨ S b } := ⟨fun _ _ hk => ⟨hk, rfl⟩, fun _ h => .inl h, fun _ _ h => h, fun _ _ => rfl⟩
  refine ⟨?_, hle⟩
  exact { h with
    dom := fun k hk => let ⟨blk, e, r⟩ := h.dom k hk; ⟨blk, e, r.le hle rfl (fun _ => rfl) (fun _ => allR_true _)⟩
    xsep := fun k b hk hn hb => hb.elim (h.xsep k b hk hn) (fun hs => (hS b hs).2.1 k hk hn)
    xlt := fun b hb => hb.elim (h.xlt b) (fun hs => (hS b hs).1)
    xY := fun b hb => hb.elim (h.xY b) (fun hs => (hS b hs).2.2.2.2.1)
    x0 := fun b hb => hb.elim (h.x0 b) (fun hs => (hS b hs).2.2.2.2.2)
    xk := fun b hb => .inl (h.xk b hb)
    zc := fun b hb => ⟨(h.zc b hb).1, (h.zc b hb).2.1, fun hx => hx.elim (h.zc b hb).2.2 (fun hs => (hS b hs).2.2.2.1 hb)⟩
    ca := fun b hb => ⟨(h.ca b hb).1, fun hx => hx.elim (h.ca b hb).2.1 (fun hs => (hS b hs).2.2.1 hb), (h.ca b hb).2.2⟩ }

/-- A walk that starts here, within the walk. -/
def Frm.round (M : Frm) (c : Cx) (mr : Nat) (E0 : Nat → Loc) : Frm :=
  { M := fun b => ∃ k, c.D k ∧ (c.E k).nil = false ∧ (c.E k).b = b, G := M.G, Y := c.A, m := mr, E0 := E0, J := M.J, C0 := c.C, X0 := c.X, Z0 := c.Z, Xk := c.X }
theorem Inv.rebase {w0 : World} {M : Frm} {c : Cx} {hp : Hp} (h : Inv w0 M c hp) {mr : Nat} {E0 : Nat → Loc} (hE : ∀ k, k < mr → c.D k → c.E k = E0 k) (hm : mr ≤ hp.length) : Inv c.w (M.round c mr E0) c hp := by
  exact {
    dom := h.dom
    inj := h.inj
    xsep := h.xsep
    xlt := h.xlt
    xY := fun b hb ha => (h.ca b ha).2.1 hb
    bnd := h.bnd
    bndG := {
      g := fun b hb => by
        refine h.bndG.g b ?_
        rcases hb with hb | ⟨k, hk, hn, e⟩
        · exact .inl (Nat.le_trans h.size hb)
        · rw [← e]; exact (h.loc k hk hn).symm
      y := fun b hb => ⟨(h.cc b (h.ca b hb).1).1, by rintro ⟨k, hk, hn, e⟩; exact (h.cc b (h.ca b hb).1).2.1 k hk hn e⟩
      js := h.bndG.js }
    e0 := hE
    mlen := hm
    os := rfl
    tape := rfl
    output := rfl
    size := Nat.le_refl _
    keep := fun _ _ _ _ => rfl
    loc := fun k hk hn => .inl ⟨k, hk, hn, rfl⟩
    x0 := fun b hb => .inr (.inr hb)
    zc := h.zc
    z0 := fun b hb => hb
    xk := fun b hb => hb
    ca := fun b hb => ⟨(h.ca b hb).1, (h.ca b hb).2.1, .inr hb⟩
    cc := fun b hb => ⟨(h.cc b hb).1, (h.cc b hb).2.1, .inr (.inl hb)⟩
    gh := h.gh }
theorem Inv.unbase {w0 : World} {M : Frm} {c : Cx} {hp : Hp} (h : Inv w0 M c hp) {mr : Nat} {E0 : Nat → Loc} (hmr : M.m ≤ mr) (hE : ∀ k, k < M.m → E0 k = M.E0 k) {c' : Cx} {hp' : Hp} (h' : Inv c.w (M.round c mr E0) c' hp') : Inv w0 M c' hp' := by
  have hM : ∀ b, (M.round c mr E0).M b → M.M b ∨ w0.heap.size ≤ b := by rintro b ⟨k, hk, hn, e⟩; rw [← e]; exact h.loc k hk hn
  have hYM : ∀ b, M.Y b → b < w0.heap.size ∧ ¬ M.M b := h.bndG.y
  exact {
    dom := h'.dom
    inj := h'.inj
    xsep := h'.xsep
    xlt := h'.xlt
    xY := fun b hb hy => by
      obtain ⟨y1, y2⟩ := hYM b hy
      rcases h'.x0 b hb with g | g | g
      · have := h.size; omega
      · rcases hM b g with g | g
        · exact y2 g
        · omega
      · exact h.xY b g hy
    bnd := h'.bnd
    bndG := h.bndG
    e0 := fun k hk hD => (h'.e0 k (Nat.lt_of_lt_of_le hk hmr) hD).trans (hE k hk)
    mlen := Nat.le_trans hmr h'.mlen
    os := h'.os.trans h.os
    tape := h'.tape.trans h.tape
    output := h'.output.trans h.output
    size := Nat.le_trans h.size h'.size
    keep := fun j hj hm hy => (h'.keep j (Nat.lt_of_lt_of_le hj h.size) (fun g => by
      rcases hM j g with g | g
      · exact hm g
      · omega) (fun g => by
      rcases (h.ca j g).2.2 with g | g
      · omega
      · exact hy g)).trans (h.keep j hj hm hy)
    loc := fun k hk hn => by
      rcases h'.loc k hk hn with g | g
      · exact hM _ g
      · exact .inr (Nat.le_trans h.size g)
    x0 := fun b hb => by
      rcases h'.x0 b hb with g | g | g
      · exact .inl (Nat.le_trans h.size g)
      · exact (hM b g).elim (fun g => .inr (.inl g)) .inl
      · exact h.x0 b g
    zc := h'.zc
    z0 := fun b hb => h'.z0 b (h.z0 b hb)
    xk := fun b hb => h'.xk b (h.xk b hb)
    ca := fun b hb => by
      obtain ⟨g1, g2, g3⟩ := h'.ca b hb
      refine ⟨g1, g2, ?_⟩
      rcases g3 with g | g
      · exact .inl (Nat.le_trans h.size g)
      · exact (h.ca b g).2.2
    cc := fun b hb => by
      obtain ⟨g1, g2, g3⟩ := h'.cc b hb
      refine ⟨g1, g2, ?_⟩
      rcases g3 with g | g | g | g
      · exact .inl (Nat.le_trans h.size g)
      · exact (h.cc b g).2.2
      · exact (hM b g).elim (fun g => .inr (.inr (.inl g))) .inl
      · rcases h.x0 b g with g | g | g
        · exact .inl g
        · exact .inr (.inr (.inl g))
        · exact .inr (.inr (.inr g))
    gh := h'.gh }
theorem YdOk.round {P : Program} {w0 : World} {M : Frm} {l : Nat} {its : List (List Sv)} (hy : YdOk P w0 M l its) {c : Cx} {hp : Hp} (h : Inv w0 M c hp) {mr : Nat} {E0 : Nat → Loc} (hmr : M.m ≤ mr) (hE : ∀ k, k < M.m → E0 k = M.E0 k) :
    YdOk P c.w (M.round c mr E0) l its := by
  refine ⟨fun hne => ?_, fun F n pre x c' hp' vs C1 hF hpre hI hC hJ hr => hy.2 F n pre x c' hp' vs C1 hF hpre (h.unbase hmr hE hI) hC hJ hr⟩
  obtain ⟨h1, h2⟩ := hy.1 hne
  exact ⟨Nat.lt_of_lt_of_le h1 hmr, by show (E0 0).nil = true; rw [hE 0 h1]; exact h2⟩

/-! ### What is asked of a walk of code -/
/-- In a round: the loop's record lies where it lay. -/
def RdOk (F : Fence) (w0 : World) (M : Frm) : Prop := ∀ l0, F.round = some l0 → (∃ r, w0.heap[l0]? = some (.loop r)) ∧ ¬ M.M l0 ∧ ¬ M.Y l0
def Gm.fits (G : Gm) (w0 : World) (M : Frm) : Prop := M.m = G.m ∧ ∀ j, G.J = some j → M.J = j w0 ∧ ∀ b, ¬ M.M b
def RunOk (G : Gm) (code : Code) (run : List Sv → Hp → (Exit → List Sv → Hp → Prop) → Prop) : Prop :=
  ∀ (F : Fence) (n : Nat) (w0 : World) (M : Frm) (ds : List Deferred) (tm : List Sv) (hp : Hp) (K : Exit → List Sv → Hp → Prop) (Q : Exit → Act → World → Prop) (c : Cx) (a : Act), Open F → G.fits w0 M → YdOk G.P w0 M G.l G.its → RdOk F w0 M →
    run tm hp K → (∀ e a c tm hp, K e tm hp → St w0 M c tm hp a ds → Q e a c.w) → St w0 M c tm hp a ds → code.wpIn F n G.P Q a c.w

/-- A state given up for one that says less. -/
def Weak (m : Nat) (tm : List Sv) (hp : Hp) (tm' : List Sv) (hp' : Hp) : Prop :=
  ∀ (w0 : World) (M : Frm) (c : Cx) (a : Act) (ds : List Deferred), M.m = m → St w0 M c tm hp a ds → ∃ c', c'.w = c.w ∧ St w0 M c' tm' hp' a ds
theorem Weak.refl (m : Nat) (tm : List Sv) (hp : Hp) : Weak m tm hp tm hp := fun _ _ c _ _ _ h => ⟨c, rfl, h⟩
inductive Back (m : Nat) (tm : List Sv) (hp : Hp) (I : List Sv → Hp → Prop) : Prop
  | mk (tm' : List Sv) (hp' : Hp) : Weak m tm hp tm' hp' → I tm' hp' → Back m tm hp I
/-- The same, where the new state hangs on the world, and the tale is known. -/
def BackJ (J : Option (World → Nat → List (List Sv) → (Nat → Prop) → (Nat → Prop) → World → Prop)) (m : Nat) (tm : List Sv) (hp : Hp) (I : List Sv → Hp → Prop) : Prop :=
  ∀ (w0 : World) (M : Frm) (c : Cx) (a : Act) (ds : List Deferred), M.m = m → (∀ j, J = some j → M.J = j w0 ∧ ∀ b, ¬ M.M b) → St w0 M c tm hp a ds → ∃ c' tm' hp', c'.w = c.w ∧ I tm' hp' ∧ St w0 M c' tm' hp' a ds

/-! ### The contract of a function that is ranged over -/
/-- What tells of rounds: so much has been handed over; and the body wants more, or no more. -/
abbrev gB (pre : List (List Sv)) : Blk := ⟨0, 0, true, false, pre⟩
abbrev gS (pre : List (List Sv)) : Blk := ⟨1, 0, true, false, pre⟩
/-- The function f, called with a loop's body, hands it its, one behind the other, until it wants no more. -/
structure ICon (P : Program) (f : Nat) (args : Value → List Sv) (its : List (List Sv)) : Prop where
  callable : Callable P f
  run : ∀ (l : Nat) (M : Frm) (c : Cx) (vs : List Value), M.m = 1 → (∀ b, ¬ M.Xk b) → Inv c.w M c [some (gB [])] → c.D 0 → YdOk P c.w M l its → RelT (args (.func (.yield l) #[] #[])) c vs →
    Calls P f vs.toArray c.w fun e w' => ∃ v c' res hp', e = .returned v ∧ Ends c.w M c' w' v res hp' ∧ (hp'[0]? = some (some (gB its)) ∨ ∃ pre, hp'[0]? = some (some (gS pre)))

def aliveN : Nat → Hp → Bool
  | 0, _ => true
  | n + 1, some _ :: r => aliveN n r
  | _, _ => false
theorem aliveN_get : ∀ {n : Nat} {hp : Hp}, aliveN n hp = true → ∀ k, k < n → ∃ b, hp[k]? = some (some b)
  | 0, _, _, k, h => by omega
  | n + 1, some b :: r, h, k, hk => by
    cases k with
    | zero => exact ⟨b, rfl⟩
    | succ k => simpa using aliveN_get (n := n) h k (by omega)
  | n + 1, none :: r, h, _, _ => by simp [aliveN] at h
  | n + 1, [], h, _, _ => by simp [aliveN] at h
theorem aliveN_len {n : Nat} {hp : Hp} (h : aliveN n hp = true) : n ≤ hp.length := by
  cases n with
  | zero => exact Nat.zero_le _
  | succ n =>
    obtain ⟨b, hb⟩ := aliveN_get h n (Nat.lt_succ_self n)
    exact (List.getElem?_eq_some_iff.1 hb).1

def setPs : List Sv → List Nat → List Sv → List Sv
  | tm, p :: ps, x :: xs => setPs (tm.set p x) ps xs
  | tm, _, _ => tm
def setPK : List Sv → List Nat → List Sv → (List Sv → Prop) → Prop
  | tm, p :: ps, x :: xs, K => svK x fun x => setK tm p x fun tm => setPK tm ps xs K
  | tm, _, _, K => K tm
theorem setPK_eq : ∀ (ps : List Nat) (tm : List Sv) (xs : List Sv) (K : List Sv → Prop), setPK tm ps xs K = K (setPs tm ps xs)
  | [], _, _, _ => by simp [setPK, setPs]
  | _ :: _, _, [], _ => by simp [setPK, setPs]
  | p :: ps, tm, x :: xs, K => by simp only [setPK, setPs, svK_eq, setK_eq, setPK_eq ps]
theorem setPs_rel {c : Cx} : ∀ (ps : List Nat) (tm : List Sv) (xs : List Sv) (vs : List Value) (tmps : Array Value), RelT xs c vs → tmps.size = tm.length → (∀ t, Rel (tmGet tm t) c (tmps.getD t undef)) →
    ((ps.zip vs).foldl (fun (t : Array Value) (p : Nat × Value) => t.setIfInBounds p.1 p.2) tmps).size = (setPs tm ps xs).length ∧ ∀ t, Rel (tmGet (setPs tm ps xs) t) c (((ps.zip vs).foldl (fun (t : Array Value) (p : Nat × Value) => t.setIfInBounds p.1 p.2) tmps).getD t undef)
  | [], tm, xs, vs, tmps, _, hs, h => by simp [setPs]; exact ⟨hs, by simpa using h⟩
  | p :: ps, tm, [], vs, tmps, hr, hs, h => by
    simp only [RelT] at hr
    subst hr
    simp [setPs]
    exact ⟨hs, by simpa using h⟩
  | p :: ps, tm, x :: xs, vs, tmps, hr, hs, h => by
    simp only [RelT] at hr
    obtain ⟨u, us, rfl, hx, hr⟩ := hr
    simp only [List.zip_cons_cons, List.foldl_cons, setPs]
    refine setPs_rel ps (tm.set p x) xs us _ hr (by simp [hs]) fun t => ?_
    rw [tmGet_set]
    by_cases hu : p = t
    · subst hu
      by_cases hl : p < tm.length
      · rw [if_pos ⟨rfl, hl⟩]
        have : (tmps.setIfInBounds p u).getD p undef = u := by simp [Array.getD, hs, hl]
        rw [this]; exact hx
      · rw [if_neg (fun h => hl h.2)]
        unfold tmGet
        rw [nth_eq, List.getElem?_eq_none (by omega)]
        trivial
    · rw [if_neg (fun h => hu h.1)]
      have := h t
      rw [Array.getD_eq_getD_getElem?] at this ⊢
      rw [Array.getElem?_setIfInBounds_ne hu]
      exact this

/-- A jump out of a round, as the machine notes it. -/
def jmp : Exit → Option Code
  | .ret => some .ret
  | .exit id => some (.exit id)
  | .goto t => some (.goto t)
  | _ => none
def kBody (mr : Nat) (tm1 : List Sv) (I : Hp → Prop) (K : Exit → List Sv → Hp → Prop) (e : Exit) (tm : List Sv) (hp : Hp) : Prop :=
  match e with
  | .normal => Back mr tm hp fun _ hp => I hp
  | .panic _ => False
  | .outgrown => False
  | .ret => aliveN mr hp = true ∧ K .ret tm1 hp
  | .exit id => aliveN mr hp = true ∧ K (.exit id) tm1 hp
  | .goto t => aliveN mr hp = true ∧ K (.goto t) tm1 hp
def kAsg (rb : List Sv → Hp → (Exit → List Sv → Hp → Prop) → Prop) (KB : Exit → List Sv → Hp → Prop) (e : Exit) (tm : List Sv) (hp : Hp) : Prop :=
  match e with
  | .normal => rb tm hp KB
  | _ => False
/-- A loop over a function. its: what comes; mr: how many blocks keep their places; I i: what the blocks are when i have come; tm1: the slots. -/
inductive RangeV (G : Gm) (ra rb : Nat → List Sv → Hp → (Exit → List Sv → Hp → Prop) → Prop) (f : Operand) (ps : List Nat) (tm : List Sv) (hp : Hp) (K : Exit → List Sv → Hp → Prop) : Prop
  | mk (its : List (List Sv)) (mr g : Nat) (caps : List Sv) (I : Nat → Hp → Prop) (tm1 : List Sv) (hp1 : Hp) : Weak G.m tm hp tm1 hp1 → evO tm1 f = .clo g caps → Sv.all.allL (fun _ => false) caps = true → ICon G.P g (fun y => .val y :: caps) its →
      (∀ x, x ∈ its → x.length = ps.length ∧ Sv.all.allL (fun _ => false) x = true) → G.m ≤ mr → I 0 hp1 → Sv.all.allL (fun k => Nat.blt k mr) tm1 = true → (∀ i hp, I i hp → aliveN mr hp = true) →
      (∀ i x hp, its[i]? = some x → I i hp → setPK tm1 ps x fun tm => ra mr tm hp (kAsg (rb mr) (kBody mr tm1 (I (i + 1)) K))) →
      (∀ hp, I its.length hp → K .normal tm1 hp) → RangeV G ra rb f ps tm hp K
end Go.Eng

/- The engine, part Z: a loop over a function. -/
namespace Go.Eng
open Go Go.RowKit

/-- What a caller of a loop over a function turns in its rounds; what has to stay for him. -/
def turnS (l : Nat) (ci : Cx) (b : Nat) : Prop := (∃ k, ci.D k ∧ (ci.E k).nil = false ∧ (ci.E k).b = b) ∨ ci.A b ∨ b = l
def stayS (w0 : World) (M : Frm) (l : Nat) (ci : Cx) (b : Nat) : Prop := turnS l ci b ∨ ci.X b ∨ ci.C b ∨ (b < w0.heap.size ∧ ¬ M.M b ∧ ¬ M.Y b)
/-- Between two rounds of the loop l, whose record is rec. -/
structure JR (w0 : World) (M : Frm) (its : List (List Sv)) (mr l : Nat) (rec : LoopState → Option Code → Loop) (I : Nat → Hp → Prop) (tm1 : List Sv) (K : Exit → List Sv → Hp → Prop) (c2 : Cx) (st : Nat) (rows : List (List Sv)) (A C : Nat → Prop) (W : World)
    (i : Nat) (ci : Cx) (hpi : Hp) : Prop where
  rows : rows = its.take i
  ile : i ≤ its.length
  inv : Inv w0 M ci hpi
  full : ∀ (k : Nat) (b : Blk), hpi[k]? = some (some b) → ci.D k
  w : ci.w = W
  z : ci.Z = c2.Z
  le : c2.Le (fun k => Nat.blt k mr) ci
  al : aliveN mr hpi = true
  oth : ∀ b, c2.Z b → b ≠ l → W.heap[b]? = c2.w.heap[b]?
  a : ∀ b, A b ↔ turnS l ci b
  c : ∀ b, C b ↔ stayS w0 M l ci b
  st : st = 0 ∧ W.heap[l]? = some (.loop (rec .ready none)) ∧ I i hpi ∨ st ≠ 0 ∧ ∃ e code, jmp e = some code ∧ W.heap[l]? = some (.loop (rec .done (some code))) ∧ K e tm1 hpi

section
variable {w0 : World} {M : Frm} {its : List (List Sv)} {mr l : Nat} {rec : LoopState → Option Code → Loop} {I : Nat → Hp → Prop} {tm1 : List Sv} {K : Exit → List Sv → Hp → Prop} {c2 : Cx}

theorem JR.same {st : Nat} {rows : List (List Sv)} {A C : Nat → Prop} {W W' : World} {i : Nat} {ci : Cx} {hpi : Hp} (hz : c2.Z l) (h : JR w0 M its mr l rec I tm1 K c2 st rows A C W i ci hpi) (hw : WSame C W W') :
    JR w0 M its mr l rec I tm1 K c2 st rows A C W' i { ci with w := W' } hpi := by
  have hC : ∀ b, stayS w0 M l ci b → C b := fun b hb => (h.c b).2 hb
  have hw' : WSame C ci.w W' := by rw [h.w]; exact hw
  obtain ⟨hI, hle⟩ := h.inv.same hw' (fun k hk hn => hC _ (.inl (.inl ⟨k, hk, hn, rfl⟩))) (fun b hb => hC _ (.inr (.inl hb))) (fun b hb => hC _ (.inr (.inr (.inl hb)))) (fun b h1 h2 h3 => hC _ (.inr (.inr (.inr ⟨h1, h2, h3⟩))))
  have hZC : ∀ b, c2.Z b → C b := fun b hb => hC _ (.inr (.inr (.inl (h.inv.zc b (by rw [h.z]; exact hb)).1)))
  refine { rows := h.rows, ile := h.ile, inv := hI, full := h.full, w := rfl, z := h.z, le := ?_, al := h.al, oth := fun b hb hne => (hw.block b (hZC b hb)).trans (h.oth b hb hne), a := h.a, c := h.c, st := ?_ }
  · exact ⟨fun k hk hD => h.le.ed k hk hD, h.le.x, h.le.b, fun b hb => (hle.heap b (h.le.x b hb)).trans (h.le.heap b hb)⟩
  · have e : W'.heap[l]? = W.heap[l]? := hw.block l (hZC l hz)
    rw [e]
    exact h.st

/-- A value told in the loop's slots is told in every round. -/
theorem JR.slots {st : Nat} {rows : List (List Sv)} {A C : Nat → Prop} {W : World} {i : Nat} {ci : Cx} {hpi : Hp} (h : JR w0 M its mr l rec I tm1 K c2 st rows A C W i ci hpi) (htm : Sv.all.allL (fun k => Nat.blt k mr) tm1 = true) {a : Act}
    (hr : ∀ t, Rel (tmGet tm1 t) c2 (a.tmps.getD t undef)) (t : Nat) : Rel (tmGet tm1 t) ci (a.tmps.getD t undef) := by
  refine Rel.le _ ?_ h.le (hr t)
  unfold tmGet
  rw [nth_eq]
  cases hq : tm1[t]? with
  | none => rfl
  | some s =>
    have : ∀ (ss : List Sv) (t : Nat) (s : Sv), ss[t]? = some s → Sv.all.allL (fun k => Nat.blt k mr) ss = true → s.all (fun k => Nat.blt k mr) = true := by
      intro ss
      induction ss with
      | nil => intro t s h; simp at h
      | cons x xs ih =>
        intro t s h hall
        simp only [Sv.all.allL, Bool.and_eq_true] at hall
        cases t with
        | zero => simp at h; subst h; exact hall.1
        | succ t => exact ih t s (by simpa using h) hall.2
    exact this tm1 t s hq htm

theorem RelT_len : ∀ (ss : List Sv) {c : Cx} {vs : List Value}, RelT ss c vs → vs.length = ss.length
  | [], _, _, h => by simp only [RelT] at h; simp [h]
  | s :: ss, _, _, h => by
    simp only [RelT] at h
    obtain ⟨u, us, rfl, _, h⟩ := h
    simp [RelT_len ss h]
theorem prefix_next {α : Type} {its pre : List α} {x : α} {i : Nat} (h : pre ++ [x] <+: its) (hp : pre = its.take i) (hi : i ≤ its.length) : its[i]? = some x ∧ pre ++ [x] = its.take (i + 1) ∧ i + 1 ≤ its.length := by
  have hlen : pre.length = i := by rw [hp, List.length_take]; omega
  obtain ⟨t, ht⟩ := h
  have h1 : its[i]? = some x := by
    rw [← ht, List.append_assoc, List.getElem?_append_right (by omega), hlen]
    simp
  have hlt : i < its.length := (List.getElem?_eq_some_iff.1 h1).1
  refine ⟨h1, ?_, hlt⟩
  rw [List.take_succ_eq_append_getElem hlt, ← hp]
  congr 2
  rw [List.getElem?_eq_getElem hlt] at h1
  simpa using h1.symm
end

/-- **A loop over a function.** -/
theorem range_sound {G : Gm} {ra rb : Nat → List Sv → Hp → (Exit → List Sv → Hp → Prop) → Prop} {assign body : Code} {f : Operand} {ps : Array Nat} (hra : ∀ mr, RunOk (G.at mr) assign (ra mr)) (hrb : ∀ mr, RunOk (G.at mr) body (rb mr))
    {F : Fence} {n : Nat} {w0 : World} {M : Frm} {ds : List Deferred} {tm : List Sv} {hp : Hp} {K : Exit → List Sv → Hp → Prop} {Q : Exit → Act → World → Prop} {c : Cx} {a : Act} (hF : Open F) (hm : M.m = G.m) (hy : YdOk G.P w0 M G.l G.its) (hro : RdOk F w0 M)
    (h : RangeV G ra rb f ps.toList tm hp K) (hQ : ∀ e a c tm hp, K e tm hp → St w0 M c tm hp a ds → Q e a c.w) (hS : St w0 M c tm hp a ds) : (Code.rangeFunc f ps assign body).wpIn F n G.P Q a c.w := by
  obtain ⟨its, mr, g, caps, I, tm1, hp1, hw, hg, hcl, hcon, hits, hmr, hI0, htm, hal, hstep, hdone⟩ := h
  obtain ⟨c1, hcw, hS1⟩ := hw w0 M c a ds hm hS
  rw [← hcw]
  have hgr := hS1.opnd f
  rw [hg] at hgr
  simp only [Rel] at hgr
  obtain ⟨lb, hgv, hlb⟩ := hgr
  refine wpIn_rangeFunc ?_
  intro fn hfn
  -- the loop is entered
  have enter : ∃ (l : Nat) (mark : List Deferred) (W1 : World) (dfr : Nat) (Zn : Nat → Prop), (Instr.enterLoop fn a.tmps ps assign body F.round).run G.P c1.w = .ok (l, mark) W1 ∧ WGrow c1.w W1 ∧ (∀ b, Zn b → c1.w.heap.size ≤ b ∧ b < W1.heap.size) ∧ Zn l ∧
      W1.heap[l]? = some (.loop { state := .ready, pending := none, fn, tmps := a.tmps, params := ps, assign, body, defers := dfr }) ∧ (mark = [] ∨ ∃ D, mark = [mkD D] ∧ Zn D ∧ D ≠ l ∧ W1.heap[D]? = some (.deferred (some []))) := by
    cases hround : F.round with
    | none =>
      refine ⟨c1.w.heap.size + 1, [mkD c1.w.heap.size], _, c1.w.heap.size, fun b => b = c1.w.heap.size ∨ b = c1.w.heap.size + 1, run_enterLoop_outer _ _ _ _ _, (WGrow.alloc _ _).trans (WGrow.alloc _ _), ?_, .inr rfl, ?_, .inr ⟨_, rfl, .inl rfl, by omega, ?_⟩⟩
      · rintro b (rfl | rfl)
        · exact ⟨Nat.le_refl _, by simp; omega⟩
        · exact ⟨by omega, by simp⟩
      · have := World.alloc_heap_new (c1.w.alloc (.deferred (some []))) (.loop { state := .ready, pending := none, fn, tmps := a.tmps, params := ps, assign, body, defers := c1.w.heap.size })
        rwa [World.size_alloc] at this
      · exact (Below.heap_alloc _ _ _ (by simp)).trans (World.alloc_heap_new c1.w _)
    | some l0 =>
      obtain ⟨⟨r, hr⟩, h1, h2⟩ := hro l0 hround
      have hl0 : c1.w.heap[l0]? = some (.loop r) := (hS1.inv.keep l0 (Array.getElem?_eq_some_iff.1 hr).1 h1 h2).trans hr
      refine ⟨c1.w.heap.size, [], _, r.defers, fun b => b = c1.w.heap.size, run_enterLoop_inner hl0 _ _ _ _ _, WGrow.alloc _ _, ?_, rfl, World.alloc_heap_new c1.w _, .inl rfl⟩
      rintro b rfl
      simp
  obtain ⟨l, mark, W1, dfr, Zn, henter, hgrow, hZn, hZl, hL1, hmark⟩ := enter
  generalize hrec : (fun (st : LoopState) (pe : Option Code) => ({ state := st, pending := pe, fn, tmps := a.tmps, params := ps, assign, body, defers := dfr } : Loop)) = rec
  have hrecR : rec .ready none = { state := .ready, pending := none, fn, tmps := a.tmps, params := ps, assign, body, defers := dfr } := by rw [← hrec]
  rw [← hrecR] at hL1
  have hI2 := hS1.inv.addZ hgrow Zn hZn
  generalize hc2 : ({ c1 with w := W1, C := fun b => c1.C b ∨ Zn b, Z := fun b => c1.Z b ∨ Zn b } : Cx) = c2 at hI2
  have hw2 : c2.w = W1 := by rw [← hc2]
  have hD2 : c2.D = c1.D := by rw [← hc2]
  have hE2 : c2.E = c1.E := by rw [← hc2]
  have hZ2 : ∀ b, Zn b → c2.Z b := fun b hb => by rw [← hc2]; exact .inr hb
  have hZ1 : ∀ b, c1.Z b → c2.Z b := fun b hb => by rw [← hc2]; exact .inl hb
  have hle12 : c1.Le (fun _ => true) c2 := by rw [← hc2]; exact ⟨fun _ _ hk => ⟨hk, rfl⟩, fun _ h => h, fun _ _ h => h, fun b hb => hgrow.block b (hS1.inv.xlt b hb)⟩
  have hl0 : w0.heap.size ≤ l := Nat.le_trans hS1.inv.size (hZn l hZl).1
  have hr2 : ∀ t, Rel (tmGet tm1 t) c2 (a.tmps.getD t undef) := fun t => Rel.le _ (Sv.all_true _) hle12 (hS1.rel t)
  have hfull2 : ∀ (k : Nat) (b : Blk), hp1[k]? = some (some b) → c2.D k := fun k b hb => by rw [hD2]; exact hS1.full k b hb
  have hpin : ∀ k, k < mr → c2.D k := fun k hk => by
    obtain ⟨b, hb⟩ := aliveN_get (hal 0 hp1 hI0) k hk
    exact hfull2 k b hb
  have hEM : ∀ k, k < M.m → c2.E k = M.E0 k := fun k hk => hI2.e0 k hk (hpin k (by omega))
  -- the caller between two rounds
  let J : Nat → List (List Sv) → (Nat → Prop) → (Nat → Prop) → World → Prop := fun st rows A C W => ∃ i ci hpi, JR w0 M its mr l rec I tm1 K c2 st rows A C W i ci hpi
  have hJ0 : JR w0 M its mr l rec I tm1 K c2 0 [] (turnS l c2) (stayS w0 M l c2) W1 0 c2 hp1 :=
    { rows := rfl, ile := Nat.zero_le _, inv := hI2, full := hfull2, w := hw2, z := rfl, le := ⟨fun _ _ hk => ⟨hk, rfl⟩, fun _ h => h, fun _ _ h => h, fun _ _ => rfl⟩, al := hal 0 hp1 hI0, oth := fun b _ _ => by rw [hw2], a := fun _ => Iff.rfl, c := fun _ => Iff.rfl, st := .inl ⟨rfl, hL1, hI0⟩ }
  let Mi : Frm := { M := fun _ => False, G := c2.G, Y := turnS l c2, m := 1, E0 := fun _ => ⟨0, 0, true, 0⟩, J := J, C0 := stayS w0 M l c2, X0 := c2.X }
  let cx : Cx := { E := fun _ => ⟨0, 0, true, 0⟩, D := fun k => k = 0, X := c2.X, G := c2.G, w := W1, A := turnS l c2, C := stayS w0 M l c2 }
  have hlt2 : ∀ k, c2.D k → (c2.E k).nil = false → (c2.E k).b < W1.heap.size := fun k hk hn => by
    obtain ⟨blk, _, r⟩ := hI2.dom k hk
    rw [← hw2]; exact r.lt hn
  have hlW : l < W1.heap.size := (hZn l hZl).2
  have hturn_lt : ∀ b, turnS l c2 b → b < W1.heap.size := by
    rintro b (⟨k, hk, hn, e⟩ | hb | rfl)
    · rw [← e]; exact hlt2 k hk hn
    · rw [← hw2]; exact (hI2.cc b (hI2.ca b hb).1).1
    · exact hlW
  have hturn_X : ∀ b, turnS l c2 b → ¬ c2.X b := by
    rintro b (⟨k, hk, hn, e⟩ | hb | rfl) hx
    · exact hI2.xsep k b hk hn hx e
    · exact (hI2.ca b hb).2.1 hx
    · exact (hI2.zc b (hZ2 b hZl)).2.2 hx
  have hInvIt : Inv cx.w Mi cx [some (gB [])] := by
    refine { dom := ?_, inj := ?_, xsep := ?_, xlt := fun b hb => by show b < W1.heap.size; rw [← hw2]; exact hI2.xlt b hb, xY := fun b hx hb => hturn_X b hb hx, bnd := rfl, bndG := ⟨?_, fun b hb => ⟨hturn_lt b hb, id⟩, ?_⟩, e0 := fun _ _ _ => rfl, mlen := Nat.le_refl _, os := rfl, tape := rfl, output := rfl, size := Nat.le_refl _, keep := fun _ _ _ _ => rfl, loc := ?_, x0 := fun b hb => .inr (.inr hb), ca := fun b hb => ⟨.inl hb, hturn_X b hb, .inr hb⟩, cc := ?_, gh := ?_, zc := fun _ h => h.elim, z0 := fun _ h => h.elim, xk := fun _ h => h.elim }
    · rintro k rfl
      exact ⟨gB [], rfl, rfl, fun _ => .inr ⟨rfl, rfl, rfl⟩, fun h => by cases h⟩
    · rintro k k' rfl rfl hne
      exact absurd rfl hne
    · intro k b _ h
      cases h
    · rintro b (hb | hb)
      · show c2.G b
        rw [hI2.bnd]
        exact hI2.bndG.g b (.inl (Nat.le_trans (Nat.le_trans hS1.inv.size hgrow.size) hb))
      · exact hb.elim
    · rintro st r A C w w' ⟨i, ci, hpi, hj⟩ hws
      exact ⟨i, _, hpi, hj.same (hZ2 l hZl) hws⟩
    · intro k _ h
      cases h
    · intro b hb
      refine ⟨?_, (fun k _ h => by cases h), .inr (.inl hb)⟩
      show b < W1.heap.size
      rcases hb with hb | hb | hb | hb
      · exact hturn_lt b hb
      · rw [← hw2]; exact hI2.xlt b hb
      · rw [← hw2]; exact (hI2.cc b hb).1
      · have h1 := hI2.size; rw [hw2] at h1; have h2 := hb.1; omega
    · rintro k blk rfl hb _ _
      simp at hb
      subst hb
      exact ⟨stayS w0 M l c2, fun b hb => ⟨hb, id⟩, 0, c2, hp1, hJ0⟩
  -- what is asked of a round
  have hYd : YdOk G.P cx.w Mi l its := by
    refine ⟨fun _ => ⟨Nat.one_pos, rfl⟩, fun F' n' pre x c' hp' vs C1 hF' hpre hI' hC1 hJ hrx => ?_⟩
    obtain ⟨i, ci, hpi, hj⟩ := hJ
    have hcw' : c'.w = ci.w := hj.w.symm
    rcases hj.st with ⟨_, hLr, hIi⟩ | ⟨h0, _⟩
    case inr => exact absurd rfl h0
    obtain ⟨hxi, hpre', hile⟩ := prefix_next hpre hj.rows hj.ile
    have hxl := hits x (List.mem_of_getElem? hxi)
    rw [hcw'] at hLr ⊢
    have hvsl : vs.length = x.length := RelT_len x hrx
    have hrunY := run_yield (P := G.P) (args := vs.toArray) hLr (by rw [← hrec]; simp only [List.size_toArray]; rw [hvsl, hxl.1]; simp)
    refine ⟨_, _, _, _, hrunY, ?_⟩
    have hrf : (rec .ready none).fn = fn ∧ (rec .ready none).params = ps ∧ (rec .ready none).tmps = a.tmps ∧ (rec .ready none).assign = assign ∧ (rec .ready none).body = body := by rw [hrecR]; exact ⟨rfl, rfl, rfl, rfl, rfl⟩
    rw [hrf.1, hrf.2.1, hrf.2.2.1, hrf.2.2.2.1, hrf.2.2.2.2]
    refine roundIn_of_wpIn (hF'.fn fn) ?_
    -- the caller, handed what comes
    have hciZ : ∀ b, ci.Z b → c2.Z b := fun b hb => by rw [← hj.z]; exact hb
    have hlZ : ci.Z l := by rw [hj.z]; exact hZ2 l hZl
    have hXlt : ∀ b, c'.X b → b < ci.w.heap.size := fun b hb => by rw [← hcw']; exact hI'.xlt b hb
    have hX0 : ∀ b, c'.X b → W1.heap.size ≤ b ∨ c2.X b := fun b hb => by
      rcases hI'.x0 b hb with h | h | h
      · exact .inl h
      · exact h.elim
      · exact .inr h
    have hAX : ∀ b, turnS l ci b → ¬ c'.X b := fun b hb hx => (hI'.ca b ((hj.a b).2 hb)).2.1 hx
    have hW1 : w0.heap.size ≤ W1.heap.size := Nat.le_trans hS1.inv.size hgrow.size
    obtain ⟨hIr, hler⟩ := hj.inv.addX (fun b => c'.X b ∧ c'.G b) fun b hb => by
      refine ⟨hXlt b hb.1, fun k hk hn e => hAX b (.inl ⟨k, hk, hn, e⟩) hb.1, fun ha => hAX b (.inr (.inl ha)) hb.1, fun hz => ?_, fun hyy => ?_, ?_⟩
      · have hz2 := hciZ b hz
        rcases hX0 b hb.1 with h | h
        · have := (hI2.cc b (hI2.zc b hz2).1).1; rw [hw2] at this; omega
        · exact (hI2.zc b hz2).2.2 h
      · obtain ⟨y1, _⟩ := hI2.bndG.y b hyy
        rcases hX0 b hb.1 with h | h
        · omega
        · exact hI2.xY b h hyy
      · rcases hX0 b hb.1 with h | h
        · exact .inl (Nat.le_trans hW1 h)
        · exact hI2.x0 b h
    generalize hcr : ({ ci with X := fun b => ci.X b ∨ (c'.X b ∧ c'.G b) } : Cx) = cr at hIr hler
    have hcrw : cr.w = ci.w := by rw [← hcr]
    have hcrD : cr.D = ci.D := by rw [← hcr]
    have hcrE : cr.E = ci.E := by rw [← hcr]
    have hcrA : cr.A = ci.A := by rw [← hcr]
    have hcrC : cr.C = ci.C := by rw [← hcr]
    have hcrZ : cr.Z = ci.Z := by rw [← hcr]
    have hcrX : ∀ b, cr.X b ↔ ci.X b ∨ (c'.X b ∧ c'.G b) := fun b => by rw [← hcr]
    have hcrG : cr.G = c'.G := by
      rw [hIr.bnd, hI'.bnd]
      exact hI2.bnd.symm
    have hrxr : RelT x cr vs := by
      have h1 : c'.pick.shut.Le (fun _ => true) cr.shut := ⟨fun _ _ h => h.elim, fun b hb => (hcrX b).2 (.inr hb), fun b _ hb => by show cr.G b; rw [hcrG]; exact hb, fun b _ => by show cr.w.heap[b]? = c'.w.heap[b]?; rw [hcrw, hcw']⟩
      exact RelT.le x (allL_true _) cr.shut_le (RelT.le x (allL_true _) h1 hrx)
    have hEr : ∀ k, k < mr → cr.D k → cr.E k = c2.E k := fun k hk _ => by rw [hcrE]; exact (hj.le.ed k (Nat.ble_eq_true_of_le (by omega)) (hpin k hk)).2
    have hmrl : mr ≤ hpi.length := aliveN_len hj.al
    have hIr1 := hIr.rebase (mr := mr) (E0 := c2.E) hEr hmrl
    have hMm : M.m ≤ mr := by rw [hm]; exact hmr
    have hy1 := hy.round hIr hMm hEM
    obtain ⟨hsz, hrel1⟩ := setPs_rel ps.toList tm1 x vs a.tmps hrxr hS1.size (fun t => Rel.le _ (Sv.all_true _) hler (hj.slots htm hr2 t))
    have htmps : (Array.foldl (fun (tmps : Array Value) (x : Nat × Value) => tmps.setIfInBounds x.1 x.2) a.tmps (ps.zip vs.toArray)) = (ps.toList.zip vs).foldl (fun (t : Array Value) (p : Nat × Value) => t.setIfInBounds p.1 p.2) a.tmps := by
      rw [← Array.foldl_toList, Array.toList_zip]
    have hS2 : St cr.w (M.round cr mr c2.E) cr (setPs tm1 ps.toList x) hpi { tmps := (ps.toList.zip vs).foldl (fun (t : Array Value) (p : Nat × Value) => t.setIfInBounds p.1 p.2) a.tmps, defers := [] } [] :=
      { inv := hIr1, full := fun k b hb => by rw [hcrD]; exact hj.full k b hb, rel := hrel1, size := hsz, ds := Marks.none }
    have hlcr : cr.Z l := by rw [hcrZ]; exact hlZ
    have hlsz : l < cr.w.heap.size := by rw [hcrw]; exact (Array.getElem?_eq_some_iff.1 hLr).1
    have hst := hstep i x hpi hxi hIi
    rw [setPK_eq] at hst
    have hAct : ({ tmps := Array.foldl (fun (tmps : Array Value) (x : Nat × Value) => tmps.setIfInBounds x.1 x.2) a.tmps (ps.zip vs.toArray), defers := [] } : Act) = { tmps := (ps.toList.zip vs).foldl (fun (t : Array Value) (p : Nat × Value) => t.setIfInBounds p.1 p.2) a.tmps, defers := [] } := by rw [htmps]
    rw [← hcrw]
    have hro1 : ∀ (cz : Cx) (hpz : Hp), Inv w0 M cz hpz → cz.Z l → (∃ r, cz.w.heap[l]? = some (.loop r)) → RdOk (F'.inRound l) cz.w (M.round cz mr c2.E) := by
      intro cz hpz hIz hzl hr l0 hl0e
      have : l0 = l := by simpa using hl0e.symm
      subst this
      refine ⟨hr, ?_, fun ha => (hIz.zc l0 hzl).2.1 ha⟩
      rintro ⟨k, hk, hn, e⟩
      exact (hIz.cc l0 (hIz.zc l0 hzl).1).2.1 k hk hn e
    have hFr : Open (F'.inRound l) := ⟨hF'.fn, hF'.depth, hF'.alive⟩
    have hkeepL : ∀ (cz c3 : Cx) (hpz hp3 : Hp), Inv w0 M cz hpz → cz.Z l → l < cz.w.heap.size → Inv cz.w (M.round cz mr c2.E) c3 hp3 → c3.w.heap[l]? = cz.w.heap[l]? := by
      intro cz c3 hpz hp3 hIz hzl hlz hI3
      refine hI3.keep l hlz ?_ (fun ha => (hIz.zc l hzl).2.1 ha)
      rintro ⟨k, hk, hn, e⟩
      exact (hIz.cc l (hIz.zc l hzl).1).2.1 k hk hn e
    refine wpIn_mono (hra mr (F'.inRound l) n' cr.w (M.round cr mr c2.E) [] (setPs tm1 ps.toList x) hpi _ (fun e a3 w3 => e = .normal ∧ ∃ c3 tm3 hp3, c3.w = w3 ∧ rb mr tm3 hp3 (kBody mr tm1 (I (i + 1)) K) ∧ St cr.w (M.round cr mr c2.E) c3 tm3 hp3 a3 []) cr _ hFr ⟨rfl, fun j e => by cases e⟩ hy1 (hro1 cr hpi hIr hlcr ⟨_, by rw [hcrw]; exact hLr⟩) hst ?_ (hAct ▸ hS2)) ?_
    · intro e a3 c3 tm3 hp3 hk hs3
      cases e with
      | normal => exact ⟨rfl, c3, tm3, hp3, rfl, hk, hs3⟩
      | _ => exact hk.elim
    rintro e a3 w3 ⟨rfl, c3, tm3, hp3, rfl, hk3, hS3⟩
    -- the record is busy
    have hL3 : c3.w.heap[l]? = some (.loop (rec .ready none)) := by rw [hkeepL cr c3 hpi hp3 hIr hlcr hlsz hS3.inv, hcrw]; exact hLr
    refine ⟨_, run_beginRound hL3 (by rw [hrecR]), ?_⟩
    have hI3 := hIr.unbase hMm hEM hS3.inv
    have hZ3 : ∀ b, cr.Z b → c3.Z b := hS3.inv.z0
    have hl3 : c3.Z l := hZ3 l hlcr
    obtain ⟨hI4, hle4⟩ := hI3.putZ (.loop { rec .ready none with state := .busy }) hl3 hl0
    generalize hc4 : ({ c3 with w := c3.w.putObj l (.loop { rec .ready none with state := .busy }) } : Cx) = c4 at hI4 hle4
    have hw4 : c4.w = c3.w.putObj l (.loop { rec .ready none with state := .busy }) := by rw [← hc4]
    have hL4 : c4.w.heap[l]? = some (.loop { rec .ready none with state := .busy }) := by rw [hw4]; exact World.putObj_heap_same (Array.getElem?_eq_some_iff.1 hL3).1
    have hl4 : c4.Z l := by rw [← hc4]; exact hl3
    have hE4 : ∀ k, k < mr → c4.D k → c4.E k = c2.E k := fun k hk hD => by rw [← hc4] at hD ⊢; exact hS3.inv.e0 k hk hD
    have hI41 := hI4.rebase (mr := mr) (E0 := c2.E) hE4 hS3.inv.mlen
    have hS4 : St c4.w (M.round c4 mr c2.E) c4 tm3 hp3 a3 a3.defers :=
      { inv := hI41, full := fun k b hb => by rw [← hc4]; exact hS3.full k b hb, rel := fun t => Rel.le _ (Sv.all_true _) hle4 (hS3.rel t), size := hS3.size, ds := Marks.none }
    have hy4 := hy.round hI4 hMm hEM
    have hlsz4 : l < c4.w.heap.size := (Array.getElem?_eq_some_iff.1 hL4).1
    -- the round's end: the caller's new state
    have fin : ∀ (st : Nat) (pe : Option Code) (c5 : Cx) (hp5 : Hp), Inv c4.w (M.round c4 mr c2.E) c5 hp5 → (∀ (k : Nat) (b : Blk), hp5[k]? = some (some b) → c5.D k) → aliveN mr hp5 = true →
        (st = 0 ∧ pe = none ∧ I (i + 1) hp5 ∨ st ≠ 0 ∧ ∃ e code, jmp e = some code ∧ pe = some code ∧ K e tm1 hp5) →
        ∃ w', (Instr.endRound l pe).run G.P c5.w = .ok (.bool pe.isNone) w' ∧ ∃ A' C', YPost c' C1 w' A' C' ∧ J st (pre ++ [x]) A' C' w' := by
      intro st pe c5 hp5 hI5 hf5 hal5 hend
      have hL5 : c5.w.heap[l]? = some (.loop { rec .ready none with state := .busy }) := (hkeepL c4 c5 hp3 hp5 hI4 hl4 hlsz4 hI5).trans hL4
      refine ⟨_, run_endRound pe hL5, ?_⟩
      have hI50 := hI4.unbase hMm hEM hI5
      have hl5 : c5.Z l := hI5.z0 l hl4
      obtain ⟨hI6, hle6⟩ := hI50.putZ (.loop { ({ rec .ready none with state := .busy } : Loop) with state := if pe.isNone then .ready else .done, pending := pe }) hl5 hl0
      generalize hw6 : c5.w.putObj l (.loop { ({ rec .ready none with state := .busy } : Loop) with state := if pe.isNone then .ready else .done, pending := pe }) = w6 at hI6 hle6 ⊢
      have hrec6 : ({ ({ rec .ready none with state := .busy } : Loop) with state := if pe.isNone then .ready else .done, pending := pe } : Loop) = rec (if pe.isNone then .ready else .done) pe := by rw [← hrec]
      have hL6 : w6.heap[l]? = some (.loop (rec (if pe.isNone then .ready else .done) pe)) := by rw [← hw6, hrec6]; exact World.putObj_heap_same (Array.getElem?_eq_some_iff.1 hL5).1
      have hne6 : ∀ b, b ≠ l → w6.heap[b]? = c5.w.heap[b]? := fun b hb => by rw [← hw6]; exact World.putObj_heap_other hb
      have hsz6 : w6.heap.size = c5.w.heap.size := by rw [← hw6]; simp
      -- what has been kept
      have k4 : ∀ b, b < ci.w.heap.size → ¬ turnS l ci b → c3.w.heap[b]? = ci.w.heap[b]? := fun b hb hn => by
        rw [← hcrw] at hb ⊢
        refine hS3.inv.keep b hb ?_ (fun ha => hn (.inr (.inl (by rw [← hcrA]; exact ha))))
        rintro ⟨k, hk, hkn, e⟩
        rw [hcrD] at hk
        rw [hcrE] at hkn e
        exact hn (.inl ⟨k, hk, hkn, e⟩)
      have hsz34 : c4.w.heap.size = c3.w.heap.size := by rw [hw4]; simp
      have hszr3 : ci.w.heap.size ≤ c3.w.heap.size := by rw [← hcrw]; exact hS3.inv.size
      -- whose blocks these are
      have t3 : ∀ k, c3.D k → (c3.E k).nil = false → turnS l ci (c3.E k).b ∨ ci.w.heap.size ≤ (c3.E k).b := fun k hk hn => by
        rcases hS3.inv.loc k hk hn with ⟨j, hj1, hj2, e⟩ | h
        · rw [hcrD] at hj1
          rw [hcrE] at hj2 e
          exact .inl (.inl ⟨j, hj1, hj2, e⟩)
        · rw [hcrw] at h; exact .inr h
      have a3' : ∀ b, c3.A b → turnS l ci b ∨ ci.w.heap.size ≤ b := fun b hb => by
        rcases (hS3.inv.ca b hb).2.2 with h | h
        · rw [hcrw] at h; exact .inr h
        · exact .inl (.inr (.inl (by rw [← hcrA]; exact h)))
      have hc4D : c4.D = c3.D := by rw [← hc4]
      have hc4E : c4.E = c3.E := by rw [← hc4]
      have hc4A : c4.A = c3.A := by rw [← hc4]
      have hc4C : c4.C = c3.C := by rw [← hc4]
      have hc4X : c4.X = c3.X := by rw [← hc4]
      have k6 : ∀ b, b < ci.w.heap.size → ¬ turnS l ci b → w6.heap[b]? = ci.w.heap[b]? := fun b hb hn => by
        have hbl : b ≠ l := fun e => hn (.inr (.inr e))
        rw [hne6 b hbl, ← k4 b hb hn]
        have h4 : c4.w.heap[b]? = c3.w.heap[b]? := by rw [hw4]; exact World.putObj_heap_other hbl
        rw [← h4]
        refine hI5.keep b (by omega) ?_ (fun ha => ?_)
        · rintro ⟨k, hk, hkn, e⟩
          rw [hc4D] at hk
          rw [hc4E] at hkn e
          rcases t3 k hk hkn with h | h
          · rw [e] at h; exact hn h
          · omega
        · have ha : c3.A b := by rw [← hc4A]; exact ha
          rcases a3' b ha with h | h
          · exact hn h
          · omega
      have t5 : ∀ k, c5.D k → (c5.E k).nil = false → turnS l ci (c5.E k).b ∨ ci.w.heap.size ≤ (c5.E k).b := fun k hk hn => by
        rcases hI5.loc k hk hn with ⟨j, hj1, hj2, e⟩ | h
        · rw [hc4D] at hj1
          rw [hc4E] at hj2 e
          rw [← e]; exact t3 j hj1 hj2
        · exact .inr (by omega)
      have a5' : ∀ b, c5.A b → turnS l ci b ∨ ci.w.heap.size ≤ b := fun b hb => by
        rcases (hI5.ca b hb).2.2 with h | h
        · exact .inr (by omega)
        · exact a3' b (by rw [← hc4A]; exact h)
      have hCi : ∀ b, stayS w0 M l ci b → C1 b := fun b hb => (hj.c b).2 hb
      have hIsz : c5.w.heap.size ≥ c4.w.heap.size := hI5.size
      have m1 : ∀ b, (M.round cr mr c2.E).M b → turnS l ci b := by
        rintro b ⟨k, hk, hkn, e⟩
        rw [hcrD] at hk
        rw [hcrE] at hkn e
        exact .inl ⟨k, hk, hkn, e⟩
      have x3 : ∀ b, c3.X b → C1 b ∨ ci.w.heap.size ≤ b ∨ c'.X b ∧ c'.G b := fun b hb => by
        rcases hS3.inv.x0 b hb with h | h | h
        · rw [hcrw] at h; exact .inr (.inl h)
        · exact .inl (hCi b (.inl (m1 b h)))
        · rcases (hcrX b).1 h with h | h
          · exact .inl (hCi b (.inr (.inl h)))
          · exact .inr (.inr h)
      have cc3 : ∀ b, c3.C b → C1 b ∨ ci.w.heap.size ≤ b ∨ c'.X b ∧ c'.G b := fun b hb => by
        rcases (hS3.inv.cc b hb).2.2 with h | h | h | h
        · rw [hcrw] at h; exact .inr (.inl h)
        · exact .inl (hCi b (.inr (.inr (.inl (by rw [← hcrC]; exact h)))))
        · exact .inl (hCi b (.inl (m1 b h)))
        · rcases (hcrX b).1 h with h | h
          · exact .inl (hCi b (.inr (.inl h)))
          · exact .inr (.inr h)
      have m4 : ∀ b, (M.round c4 mr c2.E).M b → C1 b ∨ ci.w.heap.size ≤ b := by
        rintro b ⟨k, hk, hkn, e⟩
        rw [hc4D] at hk
        rw [hc4E] at hkn e
        rcases t3 k hk hkn with h | h
        · rw [e] at h; exact .inl (hCi b (.inl h))
        · exact .inr (by omega)
      have x5 : ∀ b, c5.X b → C1 b ∨ ci.w.heap.size ≤ b ∨ c'.X b ∧ c'.G b := fun b hb => by
        rcases hI5.x0 b hb with h | h | h
        · exact .inr (.inl (by omega))
        · exact (m4 b h).imp id .inl
        · exact x3 b (by rw [← hc4X]; exact h)
      have cc5 : ∀ b, c5.C b → C1 b ∨ ci.w.heap.size ≤ b ∨ c'.X b ∧ c'.G b := fun b hb => by
        rcases (hI5.cc b hb).2.2 with h | h | h | h
        · exact .inr (.inl (by omega))
        · exact cc3 b (by rw [← hc4C]; exact h)
        · exact (m4 b h).imp id .inl
        · exact x3 b (by rw [← hc4X]; exact h)
      have hlt5 : ∀ k, c5.D k → (c5.E k).nil = false → (c5.E k).b < c5.w.heap.size := fun k hk hn => let ⟨_, _, r⟩ := hI5.dom k hk; r.lt hn
      -- the state itself
      have hzsub : ∀ b, c2.Z b → c5.Z b := fun b hb => hI5.z0 b (by rw [← hc4]; exact hZ3 b (by rw [hcrZ, hj.z]; exact hb))
      let c7 : Cx := { c5 with w := w6, Z := c2.Z }
      have hI7 : Inv w0 M c7 hp5 := by
        have hle7 : Cx.Le (fun _ => true) { c5 with w := w6 } c7 := ⟨fun _ _ hk => ⟨hk, rfl⟩, fun _ h => h, fun _ _ h => h, fun _ _ => rfl⟩
        exact { hI6 with
          dom := fun k hk => let ⟨blk, e, r⟩ := hI6.dom k hk; ⟨blk, e, r.le hle7 rfl (fun _ => rfl) (fun _ => allR_true _)⟩
          zc := fun b hb => hI6.zc b (hzsub b hb)
          z0 := fun b hb => hI2.z0 b hb
          gh := fun k blk hk hb hn hg => by
            obtain ⟨C2, g1, g2⟩ := hI6.gh k blk hk hb hn hg
            exact ⟨C2, fun b hb => ⟨(g1 b hb).1, fun hz => (g1 b hb).2 (hzsub b hz)⟩, g2⟩ }
      refine ⟨turnS l c7, stayS w0 M l c7, ?_, i + 1, c7, hp5, ?_⟩
      · have hci : c'.w = ci.w := hcw'
        refine { os := ?_, tape := ?_, output := ?_, size := by rw [hci, hsz6]; omega, keep := fun b hb hn => ?_, a := fun b hb => ?_, c := fun b hb => ?_ }
        · rw [hci, ← hw6]; show c5.w.os = _; rw [hI5.os, hw4]; show c3.w.os = _; rw [hS3.inv.os, hcrw]
        · rw [hci, ← hw6]; show c5.w.tape = _; rw [hI5.tape, hw4]; show c3.w.tape = _; rw [hS3.inv.tape, hcrw]
        · rw [hci, ← hw6]; show c5.w.output = _; rw [hI5.output, hw4]; show c3.w.output = _; rw [hS3.inv.output, hcrw]
        · rw [hci] at hb ⊢
          exact k6 b hb (fun h => hn ((hj.a b).2 h))
        · refine ⟨?_, .inl hb⟩
          rw [hci]
          have : turnS l ci b ∨ ci.w.heap.size ≤ b := by
            rcases hb with ⟨k, hk, hkn, e⟩ | hb | rfl
            · rw [← e]; exact t5 k hk hkn
            · exact a5' b hb
            · exact .inl (.inr (.inr rfl))
          exact this.imp (hj.a b).2 id
        · have hW5 : w0.heap.size ≤ c5.w.heap.size := hI50.size
          rw [hci, hsz6]
          rcases hb with (⟨k, hk, hkn, e⟩ | hb | rfl) | hb | hb | hb
          · refine ⟨by rw [← e]; exact hlt5 k hk hkn, ?_⟩
            rw [← e]
            exact (t5 k hk hkn).imp (fun h => hCi _ (.inl h)) .inl
          · exact ⟨(hI5.cc b (hI5.ca b hb).1).1, (a5' b hb).imp (fun h => hCi _ (.inl h)) .inl⟩
          · exact ⟨(Array.getElem?_eq_some_iff.1 hL5).1, .inl (hCi _ (.inl (.inr (.inr rfl))))⟩
          · exact ⟨hI5.xlt b hb, x5 b hb⟩
          · exact ⟨(hI5.cc b hb).1, cc5 b hb⟩
          · exact ⟨by have := hb.1; omega, .inl (hCi b (.inr (.inr (.inr hb))))⟩
      · refine { rows := hpre', ile := hile, inv := hI7, full := hf5, w := rfl, z := rfl, le := ?_, al := hal5, oth := fun b hb hne => ?_, a := fun _ => Iff.rfl, c := fun _ => Iff.rfl, st := ?_ }
        · refine ⟨fun k hk hD => ?_, fun b hb => ?_, fun b hb hg => ?_, fun b hb => ?_⟩
          · have hkm : k < mr := Nat.le_of_ble_eq_true hk
            obtain ⟨bb, hbb⟩ := aliveN_get hal5 k hkm
            have hD5 := hf5 k bb hbb
            exact ⟨hD5, hI5.e0 k hkm hD5⟩
          · exact hI5.xk b (by show c4.X b; rw [hc4X]; exact hS3.inv.xk b ((hcrX b).2 (.inl (hj.le.x b hb))))
          · show c5.G b
            rw [hI5.bnd]
            have : M.G b := by rw [← hI2.bnd]; exact hg
            exact this
          · have hxb := hj.le.x b hb
            rw [← hj.le.heap b hb]
            refine k6 b (hj.inv.xlt b hxb) ?_
            rintro (⟨k, hk, hkn, e⟩ | h | rfl)
            · exact hj.inv.xsep k b hk hkn hxb e
            · exact (hj.inv.ca b h).2.1 hxb
            · exact (hj.inv.zc b hlZ).2.2 hxb
        · have hzi : ci.Z b := by rw [hj.z]; exact hb
          obtain ⟨z1, z2, z3⟩ := hj.inv.zc b hzi
          rw [k6 b (hj.inv.cc b z1).1, hj.w]
          · exact hj.oth b hb hne
          · rintro (⟨k, hk, hkn, e⟩ | h | h)
            · exact (hj.inv.cc b z1).2.1 k hk hkn e
            · exact z2 h
            · exact hne h
        · rcases hend with ⟨rfl, rfl, h⟩ | ⟨h0, e, code, h1, rfl, h2⟩
          · exact .inl ⟨rfl, hL6, h⟩
          · exact .inr ⟨h0, e, code, h1, hL6, h2⟩
    suffices key : body.wpIn (F'.inRound l) n' G.P (roundPost G.P l fun e w' => ∃ A' C', YPost c' C1 w' A' C' ∧ (e = .returned (.bool true) ∧ J 0 (pre ++ [x]) A' C' w' ∨ e = .returned (.bool false) ∧ J 1 (pre ++ [x]) A' C' w')) a3 c4.w by
      rw [hw4] at key
      exact key
    refine hrb mr (F'.inRound l) n' c4.w (M.round c4 mr c2.E) a3.defers tm3 hp3 _ (roundPost G.P l _) c4 a3 hFr ⟨rfl, fun j e => by cases e⟩ hy4 (hro1 c4 hp3 hI4 hl4 ⟨_, hL4⟩) hk3 ?_ hS4
    intro e a5 c5 tm5 hp5 hk5 hS5
    have out : ∀ (e : Exit) (code : Code), jmp e = some code → aliveN mr hp5 = true ∧ K e tm1 hp5 → ∃ v w', (Instr.endRound l (some code)).run G.P c5.w = .ok v w' ∧ ∃ A' C', YPost c' C1 w' A' C' ∧ (Ending.returned v = .returned (.bool true) ∧ J 0 (pre ++ [x]) A' C' w' ∨ Ending.returned v = .returned (.bool false) ∧ J 1 (pre ++ [x]) A' C' w') := by
      intro e code hj1 hk
      obtain ⟨w', h1, A', C', h2, h3⟩ := fin 1 (some code) c5 hp5 hS5.inv hS5.full hk.1 (.inr ⟨by omega, e, code, hj1, rfl, hk.2⟩)
      exact ⟨_, w', h1, A', C', h2, .inr ⟨rfl, h3⟩⟩
    cases e with
    | normal =>
      obtain ⟨tm6, hp6, hwk, hI6⟩ := hk5
      obtain ⟨c6, e6, hS6⟩ := hwk c4.w (M.round c4 mr c2.E) c5 a5 _ rfl hS5
      obtain ⟨w', h1, A', C', h2, h3⟩ := fin 0 none c6 hp6 hS6.inv hS6.full (hal _ _ hI6) (.inl ⟨rfl, rfl, hI6⟩)
      rw [e6] at h1
      exact ⟨_, w', h1, A', C', h2, .inl ⟨rfl, h3⟩⟩
    | ret => exact out .ret .ret rfl hk5
    | exit id => exact out (.exit id) (.exit id) rfl hk5
    | goto t => exact out (.goto t) (.goto t) rfl hk5
    | panic _ => exact hk5.elim
    | outgrown => exact hk5.elim
  -- the function's call
  have hargs : RelT (.val (.func (.yield l) #[] #[]) :: caps) cx (.func (.yield l) #[] #[] :: lb) := by
    have hlex : c1.shut.Le (fun _ => true) cx := ⟨fun _ _ h => h.elim, fun b hb => by show c2.X b; rw [← hc2]; exact hb, fun b _ hb => by show c2.G b; rw [← hc2]; exact hb, fun b hb => hgrow.block b (hS1.inv.xlt b hb)⟩
    exact ⟨_, _, rfl, by simp [Rel], RelT.le caps (allL_true _) hlex (RelT.le caps hcl c1.le_shut hlb)⟩
  have hcall := hcon.2 l Mi cx _ rfl (fun _ h => h) hInvIt rfl hYd hargs
  obtain ⟨fnn, hf1, hf2, hf3⟩ := hcon.1
  have hf2' : ¬ fnn.name = "runtime.NumGoroutine" := by simpa using hf2
  have hf3' : ¬ fnn.body = none := fun h => by rw [h] at hf3; cases hf3
  have harr : (Value.func (.yield l) #[] #[] :: lb).toArray = #[.func (.yield l) #[] #[]] ++ lb.toArray := by apply Array.ext'; simp
  rw [harr] at hcall
  refine ⟨l, mark, W1, { target := .fn (.func g) lb.toArray, args := #[.func (.yield l) #[] #[]] }, W1, g, #[.func (.yield l) #[] #[]] ++ lb.toArray, W1, henter, ?_, fun f' _ => hF.fn f', ?_, fun h => (by rw [hF.depth] at h; cases h), ?_⟩
  · simp [resolve, hgv, Deferred.ofValue]
    rfl
  · simp [invoke, callFunc, hf1, hf2', hf3']
  refine (hF.callsIn hcall).mono fun e w' hR => ?_
  obtain ⟨v, c'', res, hp'', rfl, hE, hend⟩ := hR
  have hD0 : ∀ b, hp''[0]? = some (some b) → c''.D 0 := fun b hb => hE.full 0 b hb
  have hn0 : c''.D 0 → (c''.E 0).nil = true := fun hd => by rw [hE.inv.e0 0 Nat.one_pos hd]
  have hlast : ∃ (i : Nat) (ci : Cx) (hpi : Hp) (pe : Option Code) (s : LoopState), s ≠ .busy ∧ Inv w0 M ci hpi ∧ (∀ (k : Nat) (b : Blk), hpi[k]? = some (some b) → ci.D k) ∧ ci.w = w' ∧ ci.Z = c2.Z ∧ c2.Le (fun k => Nat.blt k mr) ci ∧ (∀ b, c2.Z b → b ≠ l → w'.heap[b]? = W1.heap[b]?) ∧
      w'.heap[l]? = some (.loop (rec s pe)) ∧ (∀ t, Rel (tmGet tm1 t) ci (a.tmps.getD t undef)) ∧ (pe = none ∧ K .normal tm1 hpi ∨ ∃ e code, jmp e = some code ∧ pe = some code ∧ K e tm1 hpi) := by
    rcases hend with hb | ⟨pre, hb⟩
    · obtain ⟨C1, _, i, ci, hpi, hj⟩ := hE.inv.gh 0 _ (hD0 _ hb) hb (hn0 (hD0 _ hb)) rfl
      rw [hE.weq] at hj
      have hil : i = its.length := by
        have := congrArg List.length hj.rows
        rw [List.length_take] at this
        have h2 := hj.ile
        simp only [gB] at this
        omega
      rcases hj.st with ⟨_, h1, h2⟩ | ⟨h0, _⟩
      · refine ⟨i, ci, hpi, none, .ready, (fun h => by cases h), hj.inv, hj.full, hj.w, hj.z, hj.le, fun b h1 h2 => by rw [hj.oth b h1 h2, hw2], h1, hj.slots htm hr2, .inl ⟨rfl, ?_⟩⟩
        subst hil
        exact hdone hpi h2
      · exact absurd rfl h0
    · obtain ⟨C1, _, i, ci, hpi, hj⟩ := hE.inv.gh 0 _ (hD0 _ hb) hb (hn0 (hD0 _ hb)) rfl
      rw [hE.weq] at hj
      rcases hj.st with ⟨h0, _⟩ | ⟨_, e, code, h1, h2, h3⟩
      · cases h0
      · exact ⟨i, ci, hpi, some code, .done, (fun h => by cases h), hj.inv, hj.full, hj.w, hj.z, hj.le, fun b h1 h2 => by rw [hj.oth b h1 h2, hw2], h2, hj.slots htm hr2, .inr ⟨e, code, h1, rfl, h3⟩⟩
  obtain ⟨i, ci, hpi, pe, s, hs, hIf, hff, hwf, hzf, hlef, hoth, hLf, hrf, hKf⟩ := hlast
  have hpend : (rec s pe).pending = pe := by rw [← hrec]
  subst hwf
  refine ⟨pe, ci.w.putObj l (.loop { rec s pe with state := .exhausted }), (run_endLoop hLf (by rw [← hrec]; exact hs)).trans (congrArg (fun q => Result.ok q (ci.w.putObj l (.loop { rec s pe with state := .exhausted }))) hpend), ?_⟩
  have hlZf : ci.Z l := by rw [hzf]; exact hZ2 l hZl
  obtain ⟨hI8, hle8⟩ := hIf.putZ (.loop { rec s pe with state := .exhausted }) hlZf hl0
  have hS8 : St w0 M { ci with w := ci.w.putObj l (.loop { rec s pe with state := .exhausted }) } tm1 hpi { a with defers := mark ++ a.defers } ds := by
    refine { inv := hI8, full := hff, rel := fun t => Rel.le _ (Sv.all_true _) hle8 (hrf t), size := hS1.size, ds := ?_ }
    have hzb : ∀ b, c2.Z b → b ≠ l → w0.heap.size ≤ b → w0.heap.size ≤ b ∧ ci.Z b ∧ ci.C b ∧ (ci.w.putObj l (.loop { rec s pe with state := .exhausted })).heap[b]? = W1.heap[b]? := fun b hb hne h0 => by
      have hz : ci.Z b := by rw [hzf]; exact hb
      exact ⟨h0, hz, (hIf.zc b hz).1, (World.putObj_heap_other hne).trans (hoth b hb hne)⟩
    obtain ⟨ml, e1, e2, e3⟩ := hS1.ds
    have hold : ∀ b ∈ ml, b < c1.w.heap.size ∧ b ≠ l := fun b hb => by
      obtain ⟨_, _, g3, _⟩ := e3 b hb
      have h1 := (hS1.inv.cc b g3).1
      exact ⟨h1, fun e => by have := (hZn l hZl).1; omega⟩
    have hml : ∀ b ∈ ml, w0.heap.size ≤ b ∧ ci.Z b ∧ ci.C b ∧ (ci.w.putObj l (.loop { rec s pe with state := .exhausted })).heap[b]? = some (.deferred (some [])) := fun b hb => by
      obtain ⟨g1, g2, g3, g4⟩ := e3 b hb
      obtain ⟨h1, h2⟩ := hold b hb
      obtain ⟨f1, f2, f3, f4⟩ := hzb b (hZ1 b g2) h2 g1
      exact ⟨f1, f2, f3, f4.trans ((hgrow.block b h1).trans g4)⟩
    rcases hmark with rfl | ⟨D, rfl, hD1, hD2, hD3⟩
    · exact ⟨ml, by simpa using e1, e2, hml⟩
    · refine ⟨D :: ml, by simp [e1], List.nodup_cons.2 ⟨fun hin => ?_, e2⟩, fun b hb => ?_⟩
      · have := (hold D hin).1
        have := (hZn D hD1).1
        omega
      · rcases List.mem_cons.1 hb with rfl | hb
        · obtain ⟨f1, f2, f3, f4⟩ := hzb b (hZ2 b hD1) hD2 (Nat.le_trans hS1.inv.size (hZn b hD1).1)
          exact ⟨f1, f2, f3, f4.trans hD3⟩
        · exact hml b hb
  rcases hKf with ⟨rfl, hk⟩ | ⟨e, code, hj1, rfl, hk⟩
  · exact hQ _ _ _ _ _ hk hS8
  · cases e with
    | ret => cases hj1; exact wpIn_ret (hQ _ _ _ _ _ hk hS8)
    | exit id => cases hj1; exact wpIn_exit (hQ _ _ _ _ _ hk hS8)
    | goto t => cases hj1; exact wpIn_goto (hQ _ _ _ _ _ hk hS8)
    | normal => cases hj1
    | panic _ => cases hj1
    | outgrown => cases hj1
end Go.Eng
