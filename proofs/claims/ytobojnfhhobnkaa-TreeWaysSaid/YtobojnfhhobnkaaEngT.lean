/- The engine, part T: regions whose operations change nothing, with guards: each guarded operation's value is told under its guard, and the region is walked once. -/
import Derived.Test.YtobojnfhhobnkaaEngR
set_option linter.unusedSimpArgs false
set_option maxRecDepth 20000
set_option linter.unusedVariables false
namespace Go.Eng
open Go Go.RowKit

/-- What is known of an operation: its slot, the guards under which it runs (the nearest first), its value then. -/
structure QE where
  dst : Option Nat
  ch : List (Nat × Bool)
  s : Sv

/-- The guards say yes. -/
def Tr (T : List QE) (ch : List (Nat × Bool)) : Prop := ∀ p ∈ ch, ∃ e, T[p.1]? = some e ∧ e.s = .val (.bool p.2)
/-- P, under the guards. -/
def gImp (T : List QE) : List (Nat × Bool) → Prop → Prop
  | [], p => p
  | (j, w) :: r, p => match nth T j with
    | some e => match e.s with
      | .val (.bool b) => gImp T r (b = w → p)
      | _ => True
    | none => gImp T r p
theorem gImp_of {T T2 : List QE} : ∀ {ch : List (Nat × Bool)} {p : Prop}, gImp T ch p → Tr (T ++ T2) ch → p
  | [], p, h, _ => h
  | (j, w) :: r, p, h, ht => by
    obtain ⟨e, he, hs⟩ := ht (j, w) (by simp)
    simp only [gImp, nth_eq] at h
    simp only at he hs
    cases hj : T[j]? with
    | none =>
      rw [hj] at h
      exact gImp_of (T2 := T2) h (fun q hq => ht q (by simp [hq]))
    | some e' =>
      rw [List.getElem?_append_left (List.getElem?_eq_some_iff.1 hj).1, hj] at he
      cases he
      rw [hj] at h
      simp only [hs] at h
      exact gImp_of (T2 := T2) h (fun q hq => ht q (by simp [hq])) (by first | trivial | rfl)

/-- Guards of an operation. -/
def chainK (T : List QE) (seen : Nat → Bool) (g : Option (Nat × Bool)) (K : List (Nat × Bool) → Prop) : Prop :=
  match g with
  | none => K []
  | some (j, w) => match nth T j with
    | some e => match e.dst, e.s, seen j with
      | some _, .val (.bool _), true => K ((j, w) :: e.ch)
      | _, _, _ => False
    | none => False

def qBy : List QE → Nat → Nat → Option (Nat × List (Nat × Bool))
  | [], _, _ => none
  | e :: T, i, t => match e.dst with
    | some d => match Nat.beq d t with
      | true => some (i, e.ch)
      | false => qBy T (i + 1) t
    | none => qBy T (i + 1) t
def memC (p : Nat × Bool) : List (Nat × Bool) → Bool
  | [] => false
  | q :: r => (Nat.beq p.1 q.1 && (match p.2, q.2 with | true, true => true | false, false => true | _, _ => false)) || memC p r
def subC : List (Nat × Bool) → List (Nat × Bool) → Bool
  | [], _ => true
  | p :: r, ch => memC p ch && subC r ch
/-- Slot t may be read under these guards. -/
def okSlot (T : List QE) (seen : Nat → Bool) (dr : Bool) (ds : List Nat) (own : Option Nat) (ch : List (Nat × Bool)) (t : Nat) : Bool :=
  match qBy T 0 t with
  | some (k, ck) => seen k && subC ck ch
  | none => match dr with
    | false => true
    | true => match memB t ds with
      | false => true
      | true => match own with
        | some d => Nat.beq d t
        | none => false
def okOpnd (T : List QE) (seen : Nat → Bool) (dr : Bool) (ds : List Nat) (own : Option Nat) (ch : List (Nat × Bool)) : Operand → Bool
  | .tmp t => okSlot T seen dr ds own ch t
  | _ => true
def okOpnds (T : List QE) (seen : Nat → Bool) (dr : Bool) (ds : List Nat) (own : Option Nat) (ch : List (Nat × Bool)) : List Operand → Bool
  | [] => true
  | x :: xs => okOpnd T seen dr ds own ch x && okOpnds T seen dr ds own ch xs

/-- A value that is found under a condition. -/
inductive GdS (f : (Sv → List Blk → List Nat → Prop) → Prop) (g : Prop → Prop) (K : Sv → Prop) : Prop
  | mk (s : Sv) : g (f fun s' nb kl => nb = [] ∧ kl = [] ∧ s' = s) → K s → GdS f g K

/-- Operations that can be carried out whatever the numbers are. -/
def total (o : Oper) : Bool :=
  match o.op with
  | .move _ => true
  | .assign _ => true
  | .load _ _ => true
  | .fieldAddr _ _ _ => true
  | .unOp _ _ _ => true
  | .extract _ _ => true
  | .binOp op _ _ _ _ => match op with
    | .eql => true
    | .neq => true
    | .lss => true
    | .leq => true
    | .gtr => true
    | .geq => true
    | _ => false
  | .call c => match c.callee with
    | .builtin .len => true
    | _ => false
  | _ => false

def chk (b : Bool) (k : Prop) : Prop :=
  match b with
  | true => k
  | false => False
theorem chk_iff {b : Bool} {k : Prop} : chk b k ↔ b = true ∧ k := by
  cases b <;> simp [chk]

def pickS (x y : Operand) (b bx bY : Bool) : Bool :=
  match x with
  | .const (.bool true) => b || bY
  | _ => match y with
    | .const (.bool false) => b && bx
    | _ => bif b then bx else bY
theorem pickS_eq {tm : List Sv} {x y : Operand} {b bx bY : Bool} (hx : evO tm x = .val (.bool bx)) (hy : evO tm y = .val (.bool bY)) : pickS x y b bx bY = if b then bx else bY := by
  unfold pickS
  split
  · simp only [evO, Sv.val.injEq, Value.bool.injEq] at hx
    subst hx
    cases b <;> simp
  · split
    · simp only [evO, Sv.val.injEq, Value.bool.injEq] at hy
      subst hy
      cases b <;> simp
    · cases b <;> simp

def pickK (x y : Operand) (b bx bY : Bool) (K : Bool → Prop) : Prop :=
  match x with
  | .const (.bool true) => K (b || bY)
  | _ => match y with
    | .const (.bool false) => K (b && bx)
    | _ => K (bif b then bx else bY)
theorem pickK_eq (x y : Operand) (b bx bY : Bool) (K : Bool → Prop) : pickK x y b bx bY K = K (pickS x y b bx bY) := by
  unfold pickK pickS
  split
  · rfl
  · split <;> rfl

def stepQ (G : Gm) (hp : Hp) (seen : Nat → Bool) (dr : Bool) (ds : List Nat) (tm : List Sv) (T : List QE) (ch : List (Nat × Bool)) (o : Oper) (K : Sv → Prop) : Prop :=
  match o.op with
  | .pick b x y => match b with
    | .tmp t => match qBy T 0 t with
      | some (k, ck) => chk (seen k && subC ck ch && okOpnd T seen dr ds none ((k, true) :: ch) x && okOpnd T seen dr ds none ((k, false) :: ch) y) <|
        match evO tm b, evO tm x, evO tm y with
        | .val (.bool c), .val (.bool d), .val (.bool e) => pickK x y c d e fun b => K (.val (.bool b))
        | .val (.bool c), .val (.int .i64 d), .val (.int .i64 e) => K (.val (.int .i64 (if c then d else e)))
        | _, _, _ => False
      | none => False
    | _ => False
  | _ => chk (okOpnds T seen dr ds o.dst ch o.op.operands.toList) <|
    match ch with
    | [] => match o.op with
      | .binOp _ _ _ y _ => match isNil (evO tm y) with
        | true => GdS (opE G tm hp o) (fun p => p) K
        | false => opV G tm hp o fun s nb kl => match nb, kl with | [], [] => K s | _, _ => False
      | _ => opV G tm hp o fun s nb kl => match nb, kl with | [], [] => K s | _, _ => False
    | c :: ch => match total o with
      | true => match o.op with
        | .binOp _ _ _ y _ => match isNil (evO tm y) with
          | true => GdS (opE G tm hp o) (gImp T (c :: ch)) K
          | false => opV G tm hp o fun s nb kl => match nb, kl with | [], [] => K s | _, _ => False
        | _ => opV G tm hp o fun s nb kl => match nb, kl with | [], [] => K s | _, _ => False
      | false => GdS (opE G tm hp o) (gImp T (c :: ch)) K

def seenP (dr : Bool) (pt : List (List Nat)) (i : Nat) (k : Nat) : Bool :=
  match dr with
  | true => memB k (pre pt i)
  | false => Nat.blt k i

def runQ (G : Gm) (hp : Hp) (dr : Bool) (pt : List (List Nat)) (ds : List Nat) : List Oper → Nat → List Sv → List QE → (List Sv → List QE → Prop) → Prop
  | [], _, tm, T, K => K tm T
  | o :: os, i, tm, T, K => chk ((match dr with | true => (edges o).all (fun j => Nat.blt j i) | false => true) && dstOk o tm.length) <|
    chainK T (seenP dr pt i) o.guard fun ch => stepQ G hp (seenP dr pt i) dr ds tm T ch o fun s =>
      svK s fun s => setTK tm o.dst s fun tm => spineK (T ++ [⟨o.dst, ch, s⟩]) fun T => runQ G hp dr pt ds os (i + 1) tm T K

/-- What is known of an operation, for its soundness: tm0: the slots ahead of the region. -/
structure EntQ (P : Program) (hp : Hp) (seen : Nat → Bool) (dr : Bool) (tm0 : List Sv) (T : List QE) (i : Nat) (o : Oper) (e : QE) : Prop where
  edge : dr = true → ∀ j ∈ edges o, j < i
  dst : e.dst = o.dst
  lt : ∀ t, o.dst = some t → t < tm0.length
  ch : (o.guard = none ∧ e.ch = []) ∨ ∃ j w ej d b, o.guard = some (j, w) ∧ seen j = true ∧ T[j]? = some ej ∧ ej.dst = some d ∧ ej.s = .val (.bool b) ∧ e.ch = (j, w) :: ej.ch
  way : Tr T e.ch → ∃ tmi : List Sv, EStepK P o tmi hp (fun s nb kl => nb = [] ∧ kl = [] ∧ s = e.s) ∧
    ∀ t, Operand.tmp t ∈ o.op.operands → (∃ (k : Nat) (ek : QE), T[k]? = some ek ∧ ek.dst = some t ∧ seen k = true ∧ Tr T ek.ch ∧ tmGet tmi t = ek.s) ∨ ((∀ (k : Nat) (ek : QE), T[k]? = some ek → ek.dst = some t → (dr = false ∧ i ≤ k) ∨ k = i) ∧ tmGet tmi t = tmGet tm0 t) ∨ tmGet tmi t = .any

theorem qBy_some : ∀ {T : List QE} {i t k : Nat} {ck : List (Nat × Bool)}, qBy T i t = some (k, ck) → ∃ m e, k = i + m ∧ T[m]? = some e ∧ e.dst = some t ∧ e.ch = ck
  | e :: T, i, t, k, ck, h => by
    simp only [qBy] at h
    split at h
    · rename_i d hd
      split at h
      · rename_i hb
        simp only [Option.some.injEq, Prod.mk.injEq] at h
        exact ⟨0, e, by omega, rfl, by rw [hd, Nat.eq_of_beq_eq_true hb], h.2⟩
      · obtain ⟨m, e', h1, h2, h3⟩ := qBy_some h
        exact ⟨m + 1, e', by omega, by simpa using h2, h3⟩
    · obtain ⟨m, e', h1, h2, h3⟩ := qBy_some h
      exact ⟨m + 1, e', by omega, by simpa using h2, h3⟩
theorem qBy_none : ∀ {T : List QE} {i t : Nat}, qBy T i t = none → ∀ e ∈ T, e.dst ≠ some t
  | [], _, _, _, e, he => by cases he
  | x :: T, i, t, h, e, he => by
    simp only [qBy] at h
    split at h
    · rename_i d hd
      split at h
      · cases h
      · rename_i hb
        rcases List.mem_cons.1 he with rfl | he
        · rw [hd]
          intro h'
          cases h'
          rw [Nat.beq_refl] at hb
          cases hb
        · exact qBy_none h e he
    · rename_i hd
      rcases List.mem_cons.1 he with rfl | he
      · rw [hd]; simp
      · exact qBy_none h e he
theorem memC_mem {p : Nat × Bool} : ∀ {l : List (Nat × Bool)}, memC p l = true → p ∈ l
  | q :: r, h => by
    simp only [memC, Bool.or_eq_true, Bool.and_eq_true] at h
    rcases h with ⟨h1, h2⟩ | h
    · have h1 := Nat.eq_of_beq_eq_true h1
      obtain ⟨a, b⟩ := p
      obtain ⟨a', b'⟩ := q
      simp only at h1 h2
      subst h1
      cases b <;> cases b' <;> simp_all
    · exact List.mem_cons_of_mem _ (memC_mem h)
theorem subC_tr {T : List QE} {ch : List (Nat × Bool)} (ht : Tr T ch) : ∀ {l : List (Nat × Bool)}, subC l ch = true → Tr T l
  | [], _ => fun p hp => by cases hp
  | q :: r, h => fun p hp => by
    simp only [subC, Bool.and_eq_true] at h
    rcases List.mem_cons.1 hp with rfl | hp
    · exact ht _ (memC_mem h.1)
    · exact subC_tr ht h.2 p hp

/-- The slots as they are told on the way: each slot has its latest entry's value, or stands as it stood. -/
def Opt (tm0 : List Sv) (T : List QE) (tm : List Sv) : Prop :=
  tm.length = tm0.length ∧ ∀ t, (∀ (k : Nat) (e : QE), T[k]? = some e → e.dst = some t → tmGet tm t = e.s) ∧ ((∀ e ∈ T, e.dst ≠ some t) → tmGet tm t = tmGet tm0 t)

section
variable {G : Gm} {hp : Hp} {dr : Bool} {pt : List (List Nat)} {ds : List Nat} {tm0 : List Sv}

theorem okSlot_way {T T2 : List QE} {tm : List Sv} {i t : Nat} {o : Oper} {own : Option Nat} {ch : List (Nat × Bool)} (hTi : T.length = i) (hopt : Opt tm0 T tm) (hown : own = none ∨ own = o.dst)
    (hds : dr = true → ∀ (k : Nat) (ek : QE) (d : Nat), (T ++ T2)[k]? = some ek → ek.dst = some d → memB d ds = true) (hd : ∀ (k : Nat) (ek : QE), (T ++ T2)[k]? = some ek → ∀ d : Nat, o.dst = some d → ek.dst = some d → k = i)
    (h : okSlot T (seenP dr pt i) dr ds own ch t = true) (ht : Tr (T ++ T2) ch) :
    (∃ (k : Nat) (ek : QE), (T ++ T2)[k]? = some ek ∧ ek.dst = some t ∧ seenP dr pt i k = true ∧ Tr (T ++ T2) ek.ch ∧ tmGet tm t = ek.s) ∨
      ((∀ (k : Nat) (ek : QE), (T ++ T2)[k]? = some ek → ek.dst = some t → (dr = false ∧ i ≤ k) ∨ k = i) ∧ tmGet tm t = tmGet tm0 t) := by
  unfold okSlot at h
  split at h
  · rename_i k ck hq
    obtain ⟨m, e, h1, h2, h3, h4⟩ := qBy_some hq
    rw [Nat.zero_add] at h1
    subst h1
    simp only [Bool.and_eq_true] at h
    left
    refine ⟨k, e, by rw [List.getElem?_append_left (List.getElem?_eq_some_iff.1 h2).1]; exact h2, h3, h.1, ?_, (hopt.2 t).1 k e h2 h3⟩
    rw [h4]
    exact subC_tr ht h.2
  · rename_i hq
    have hn := qBy_none hq
    right
    refine ⟨fun k ek hk hkt => ?_, (hopt.2 t).2 hn⟩
    have hki : i ≤ k := by
      rcases Nat.lt_or_ge k i with hlt | hge
      · rw [List.getElem?_append_left (by omega)] at hk
        exact absurd hkt (hn ek (List.mem_of_getElem? hk))
      · exact hge
    cases dr with
    | false => exact .inl ⟨rfl, hki⟩
    | true =>
      right
      have hmem := hds rfl k ek t hk hkt
      simp only [hmem] at h
      split at h
      · rename_i d
        have := Nat.eq_of_beq_eq_true h
        subst this
        rcases hown with hw | hw
        · cases hw
        · exact hd k ek hk d hw.symm hkt
      · cases h

theorem okOpnds_mem {T : List QE} {seen : Nat → Bool} {own : Option Nat} {ch : List (Nat × Bool)} : ∀ {xs : List Operand}, okOpnds T seen dr ds own ch xs = true → ∀ t, Operand.tmp t ∈ xs → okSlot T seen dr ds own ch t = true
  | x :: xs, h, t, ht => by
    simp only [okOpnds, Bool.and_eq_true] at h
    rcases List.mem_cons.1 ht with rfl | ht
    · exact h.1
    · exact okOpnds_mem h.2 t ht

theorem of_opV {tm : List Sv} {o : Oper} {K : Sv → Prop} (h : opV G tm hp o fun s nb kl => match nb, kl with | [], [] => K s | _, _ => False) : ∃ s, K s ∧ EStepK G.P o tm hp (fun s' nb kl => nb = [] ∧ kl = [] ∧ s' = s) := by
  obtain ⟨s, nb, kl, h1, h2⟩ := opV_sound h
  split at h1
  · exact ⟨s, h1, .of ⟨s, [], [], ⟨rfl, rfl, rfl⟩, h2⟩⟩
  · exact h1.elim

/-- A pick, of which one side alone is looked at. -/
theorem pick_step {tm : List Sv} {o : Oper} {b x y : Operand} {c : Bool} {s : Sv} (ho : o.op = .pick b x y) (hb : evO tm b = .val (.bool c)) (hs : (if c then evO tm x else evO tm y) = s) : EStepK G.P o tm hp (fun s' nb kl => nb = [] ∧ kl = [] ∧ s' = s) := by
  refine .of ⟨s, [], [], ⟨rfl, rfl, rfl⟩, PureS.estep (by rw [ho]; simp) fun w0 M c' a hI ha => ?_⟩
  have h0 := ha b (by rw [ho]; simp [Op.operands])
  have h1 := ha x (by rw [ho]; simp [Op.operands])
  have h2 := ha y (by rw [ho]; simp [Op.operands])
  rw [hb] at h0
  simp only [Rel] at h0
  cases c with
  | true =>
    simp only [if_true] at hs
    exact ⟨a.eval x, by simp [execOp, ho, h0, asBool], hs ▸ h1⟩
  | false =>
    simp only [Bool.false_eq_true, if_false] at hs
    exact ⟨a.eval y, by simp [execOp, ho, h0, asBool], hs ▸ h2⟩

def opndS : Operand → Option Nat
  | .tmp t => some t
  | _ => none
/-- Slots but those two are forgotten. -/
def keep2 (tm : List Sv) (p q : Option Nat) : List Sv := (List.range tm.length).map fun t => if p = some t ∨ q = some t then tmGet tm t else .any
theorem keep2_get {tm : List Sv} {p q : Option Nat} (t : Nat) : tmGet (keep2 tm p q) t = if p = some t ∨ q = some t then tmGet tm t else .any := by
  have h : ∀ l : List Sv, tmGet l t = (l[t]?).getD .any := fun l => by
    unfold tmGet
    rw [nth_eq]
    cases l[t]? <;> rfl
  rw [h]
  unfold keep2
  rw [List.getElem?_map]
  by_cases hl : t < tm.length
  · rw [List.getElem?_range hl]
    rfl
  · rw [List.getElem?_eq_none (by simp; omega)]
    simp only [Option.map_none, Option.getD_none]
    split
    · rw [h, List.getElem?_eq_none (by omega)]
      rfl
    · rfl
theorem evO_keep2 {tm : List Sv} {p q : Option Nat} {x : Operand} (h : opndS x = none ∨ opndS x = p ∨ opndS x = q) : evO (keep2 tm p q) x = evO tm x := by
  cases x with
  | tmp t =>
    simp only [opndS] at h
    simp only [evO]
    rw [keep2_get, if_pos]
    rcases h with h | h | h
    · cases h
    · exact .inl h.symm
    · exact .inr h.symm
  | _ => rfl

/-- The way of an operation, for each end T2 of the table. -/
def WayQ (G : Gm) (hp : Hp) (dr : Bool) (pt : List (List Nat)) (tm0 : List Sv) (T : List QE) (i : Nat) (o : Oper) (ch : List (Nat × Bool)) (s : Sv) : Prop :=
  Tr T ch → ∃ tmi : List Sv, EStepK G.P o tmi hp (fun s' nb kl => nb = [] ∧ kl = [] ∧ s' = s) ∧
    ∀ t, Operand.tmp t ∈ o.op.operands → (∃ (k : Nat) (ek : QE), T[k]? = some ek ∧ ek.dst = some t ∧ seenP dr pt i k = true ∧ Tr T ek.ch ∧ tmGet tmi t = ek.s) ∨ ((∀ (k : Nat) (ek : QE), T[k]? = some ek → ek.dst = some t → (dr = false ∧ i ≤ k) ∨ k = i) ∧ tmGet tmi t = tmGet tm0 t) ∨ tmGet tmi t = .any

theorem stepQ_way {T : List QE} {tm : List Sv} {i : Nat} {o : Oper} {ch : List (Nat × Bool)} {K : Sv → Prop} (hTi : T.length = i) (hopt : Opt tm0 T tm) (h : stepQ G hp (seenP dr pt i) dr ds tm T ch o K) :
    ∃ s, K s ∧ ∀ T2, (dr = true → ∀ (k : Nat) (ek : QE) (d : Nat), (T ++ T2)[k]? = some ek → ek.dst = some d → memB d ds = true) → (∀ (k : Nat) (ek : QE), (T ++ T2)[k]? = some ek → ∀ d : Nat, o.dst = some d → ek.dst = some d → k = i) →
      WayQ G hp dr pt tm0 (T ++ T2) i o ch s := by
  -- an operation all of whose operands may be read
  have plain : ∀ {s : Sv} {T2 : List QE}, okOpnds T (seenP dr pt i) dr ds o.dst ch o.op.operands.toList = true → (dr = true → ∀ (k : Nat) (ek : QE) (d : Nat), (T ++ T2)[k]? = some ek → ek.dst = some d → memB d ds = true) → (∀ (k : Nat) (ek : QE), (T ++ T2)[k]? = some ek → ∀ d : Nat, o.dst = some d → ek.dst = some d → k = i) →
      (Tr (T ++ T2) ch → EStepK G.P o tm hp (fun s' nb kl => nb = [] ∧ kl = [] ∧ s' = s)) → WayQ G hp dr pt tm0 (T ++ T2) i o ch s := by
    intro s T2 hok hds hd hE ht
    refine ⟨tm, hE ht, fun t hm => ?_⟩
    rcases okSlot_way hTi hopt (.inr rfl) hds hd (okOpnds_mem hok t (by simpa using hm)) ht with h | h
    · exact .inl h
    · exact .inr (.inl h)
  unfold stepQ at h
  split at h
  · rename_i b x y ho
    split at h
    case h_2 => exact h.elim
    rename_i t
    split at h
    case h_2 => exact h.elim
    rename_i k ck hq
    rw [chk_iff] at h
    obtain ⟨hck, h⟩ := h
    simp only [Bool.and_eq_true] at hck
    obtain ⟨⟨⟨hs, hc⟩, hx⟩, hy⟩ := hck
    obtain ⟨m, eb, h1, h2, h3, h4⟩ := qBy_some hq
    rw [Nat.zero_add] at h1
    subst h1
    have hev : evO tm (.tmp t) = eb.s := (hopt.2 t).1 k eb h2 h3
    -- what is common to both kinds of values
    have fin : ∀ {c : Bool} {s : Sv}, evO tm (.tmp t) = .val (.bool c) → (if c then evO tm x else evO tm y) = s → ∀ T2, (dr = true → ∀ (k : Nat) (ek : QE) (d : Nat), (T ++ T2)[k]? = some ek → ek.dst = some d → memB d ds = true) → (∀ (k : Nat) (ek : QE), (T ++ T2)[k]? = some ek → ∀ d : Nat, o.dst = some d → ek.dst = some d → k = i) →
        WayQ G hp dr pt tm0 (T ++ T2) i o ch s := by
      intro c s hcv hsv T2 hds hd ht
      have hkT : (T ++ T2)[k]? = some eb := by rw [List.getElem?_append_left (List.getElem?_eq_some_iff.1 h2).1]; exact h2
      have ht2 : Tr (T ++ T2) ((k, c) :: ch) := by
        intro p hp
        rcases List.mem_cons.1 hp with rfl | hp
        · exact ⟨eb, hkT, by rw [← hev]; exact hcv⟩
        · exact ht p hp
      generalize hz : (if c then x else y) = z
      have hzs : evO tm z = s := by rw [← hsv, ← hz]; cases c <;> rfl
      have hzok : okOpnd T (seenP dr pt i) dr ds none ((k, c) :: ch) z = true := by rw [← hz]; cases c <;> assumption
      refine ⟨keep2 tm (some t) (opndS z), pick_step ho (by rw [evO_keep2 (x := .tmp t) (p := some t) (.inr (.inl rfl))]; exact hcv) ?_, fun u hu => ?_⟩
      · have e1 : evO (keep2 tm (some t) (opndS z)) z = s := by rw [evO_keep2 (.inr (.inr rfl))]; exact hzs
        cases c with
        | true => simp only [if_true] at hz ⊢; rw [hz]; exact e1
        | false => simp only [Bool.false_eq_true, if_false] at hz ⊢; rw [hz]; exact e1
      · rw [keep2_get]
        by_cases hut : (some t : Option Nat) = some u
        · rw [if_pos (.inl hut)]
          cases hut
          exact .inl ⟨k, eb, hkT, h3, hs, by rw [h4]; exact subC_tr ht hc, hev⟩
        · by_cases huz : opndS z = some u
          · rw [if_pos (.inr huz)]
            have hzu : z = .tmp u := by
              cases z <;> simp only [opndS] at huz <;> first | (cases huz; rfl) | (cases huz; done)
            rw [hzu] at hzok
            rcases okSlot_way (o := o) (own := none) hTi hopt (.inl rfl) hds hd hzok ht2 with h | h
            · exact .inl h
            · exact .inr (.inl h)
          · rw [if_neg (by rintro (h | h) <;> contradiction)]
            exact .inr (.inr rfl)
    split at h
    · rename_i c d e hb hx' hy'
      rw [pickK_eq] at h
      refine ⟨_, h, fun T2 hds hd => fin hb ?_ T2 hds hd⟩
      rw [hx', hy', pickS_eq hx' hy']
      cases c <;> rfl
    · rename_i c d e hb hx' hy'
      refine ⟨_, h, fun T2 hds hd => fin hb ?_ T2 hds hd⟩
      rw [hx', hy']
      cases c <;> rfl
    · exact h.elim
  · rename_i hnp
    rw [chk_iff] at h
    obtain ⟨hok, h⟩ := h
    have direct : (opV G tm hp o fun s nb kl => match nb, kl with | [], [] => K s | _, _ => False) → ∃ s, K s ∧ ∀ T2, (dr = true → ∀ (k : Nat) (ek : QE) (d : Nat), (T ++ T2)[k]? = some ek → ek.dst = some d → memB d ds = true) → (∀ (k : Nat) (ek : QE), (T ++ T2)[k]? = some ek → ∀ d : Nat, o.dst = some d → ek.dst = some d → k = i) →
        WayQ G hp dr pt tm0 (T ++ T2) i o ch s := by
      intro h
      obtain ⟨s, h1, h2⟩ := of_opV h
      exact ⟨s, h1, fun T2 hds hd => plain hok hds hd fun _ => h2⟩
    have under : GdS (opE G tm hp o) (gImp T ch) K → ∃ s, K s ∧ ∀ T2, (dr = true → ∀ (k : Nat) (ek : QE) (d : Nat), (T ++ T2)[k]? = some ek → ek.dst = some d → memB d ds = true) → (∀ (k : Nat) (ek : QE), (T ++ T2)[k]? = some ek → ∀ d : Nat, o.dst = some d → ek.dst = some d → k = i) →
        WayQ G hp dr pt tm0 (T ++ T2) i o ch s := by
      rintro ⟨s, h1, h2⟩
      exact ⟨s, h2, fun T2 hds hd => plain hok hds hd fun ht => opE_sound (gImp_of h1 ht)⟩
    split at h
    · split at h
      · split at h
        · obtain ⟨s, h1, h2⟩ := h
          exact ⟨s, h2, fun T2 hds hd => plain hok hds hd fun _ => opE_sound h1⟩
        · exact direct h
      · exact direct h
    · split at h
      · split at h
        · split at h
          · exact under h
          · exact direct h
        · exact direct h
      · exact under h

theorem chainK_sound {T : List QE} {seen : Nat → Bool} {g : Option (Nat × Bool)} {K : List (Nat × Bool) → Prop} (h : chainK T seen g K) :
    ∃ ch, K ch ∧ ((g = none ∧ ch = []) ∨ ∃ j w ej d b, g = some (j, w) ∧ seen j = true ∧ T[j]? = some ej ∧ ej.dst = some d ∧ ej.s = .val (.bool b) ∧ ch = (j, w) :: ej.ch) := by
  unfold chainK at h
  split at h
  · exact ⟨[], h, .inl ⟨rfl, rfl⟩⟩
  · rename_i j w
    split at h
    · rename_i e he
      rw [nth_eq] at he
      split at h
      · rename_i d b hd hs hsn
        exact ⟨_, h, .inr ⟨j, w, e, d, b, rfl, hsn, he, hd, hs, rfl⟩⟩
      · exact h.elim
    · exact h.elim

theorem Opt.snoc {T : List QE} {tm : List Sv} {e : QE} (h : Opt tm0 T tm) (hlt : ∀ t, e.dst = some t → t < tm0.length) (hd : ∀ x ∈ T, ∀ t : Nat, e.dst = some t → x.dst ≠ some t) : Opt tm0 (T ++ [e]) (setT tm e.dst e.s) := by
  obtain ⟨hl, hg⟩ := h
  refine ⟨by cases e.dst <;> simp [setT, hl], fun t => ⟨fun k x hk hx => ?_, fun hall => ?_⟩⟩
  · rcases Nat.lt_or_ge k T.length with hlt' | hge
    · rw [List.getElem?_append_left hlt'] at hk
      have h1 := (hg t).1 k x hk hx
      cases hed : e.dst with
      | none => exact h1
      | some d =>
        simp only [setT]
        rw [tmGet_set, if_neg, h1]
        rintro ⟨rfl, _⟩
        exact hd x (List.mem_of_getElem? hk) d hed hx
    · rw [List.getElem?_append_right hge] at hk
      have hk0 : k - T.length = 0 := by
        have := (List.getElem?_eq_some_iff.1 hk).1
        simp at this
        omega
      rw [hk0] at hk
      simp only [List.getElem?_cons_zero, Option.some.injEq] at hk
      subst hk
      rw [hx]
      simp only [setT]
      rw [tmGet_set, if_pos ⟨rfl, by rw [hl]; exact hlt t hx⟩]
  · have h1 := (hg t).2 fun x hx => hall x (by simp [hx])
    have h2 := hall e (by simp)
    cases hed : e.dst with
    | none => exact h1
    | some d =>
      simp only [setT]
      rw [tmGet_set, if_neg, h1]
      rintro ⟨rfl, _⟩
      exact h2 hed

theorem runQ_sound {ops : List Oper} (hdist : distinctD ops = true) (hds : ∀ d, d ∈ dstsOf ops → memB d ds = true) :
    ∀ (os : List Oper) (i : Nat) (tm : List Sv) (T : List QE) (K : List Sv → List QE → Prop), ops.drop i = os → T.length = i → (∀ (k : Nat) (e : QE), T[k]? = some e → ∃ o', ops[k]? = some o' ∧ e.dst = o'.dst) → Opt tm0 T tm →
      runQ G hp dr pt ds os i tm T K → ∃ T2 tmF, K tmF (T ++ T2) ∧ Opt tm0 (T ++ T2) tmF ∧ T2.length = os.length ∧ (∀ (k : Nat) (e : QE), (T ++ T2)[k]? = some e → ∃ o', ops[k]? = some o' ∧ e.dst = o'.dst) ∧
        ∀ m o, os[m]? = some o → ∃ e, (T ++ T2)[i + m]? = some e ∧ EntQ G.P hp (seenP dr pt (i + m)) dr tm0 (T ++ T2) (i + m) o e
  | [], i, tm, T, K, _, _, hT, hopt, h => ⟨[], tm, by simpa [runQ] using h, by simpa using hopt, rfl, by simpa using hT, fun m o hm => by simp at hm⟩
  | o :: os, i, tm, T, K, hdrop, hTi, hT, hopt, h => by
    have hi : ops[i]? = some o := by
      have : (ops.drop i)[0]? = some o := by rw [hdrop]; rfl
      rw [List.getElem?_drop] at this
      simpa using this
    have hrest : ops.drop (i + 1) = os := by
      rw [← List.drop_drop, hdrop]
      rfl
    unfold runQ at h
    rw [chk_iff] at h
    obtain ⟨hc, h⟩ := h
    simp only [Bool.and_eq_true] at hc
    obtain ⟨hedge, hdst⟩ := hc
    obtain ⟨ch, h, hch⟩ := chainK_sound h
    obtain ⟨s, h, hway⟩ := stepQ_way hTi hopt h
    rw [svK_eq, setTK_eq, spineK_eq] at h
    have hlt : ∀ t, o.dst = some t → t < tm0.length := by rw [← hopt.1]; exact dstOk_lt hdst
    have hopt' : Opt tm0 (T ++ [⟨o.dst, ch, s⟩]) (setT tm o.dst s) := hopt.snoc (e := ⟨o.dst, ch, s⟩) hlt fun x hx t ht hxt => by
      obtain ⟨k, hk⟩ := List.mem_iff_getElem?.1 hx
      obtain ⟨o', ho', e1⟩ := hT k x hk
      have := distinctD_at hdist k i o' o t ho' hi (e1 ▸ hxt) ht
      have := (List.getElem?_eq_some_iff.1 hk).1
      omega
    have hT' : ∀ (k : Nat) (e : QE), (T ++ [(⟨o.dst, ch, s⟩ : QE)])[k]? = some e → ∃ o', ops[k]? = some o' ∧ e.dst = o'.dst := by
      intro k e hk
      rcases Nat.lt_or_ge k T.length with hl | hg
      · rw [List.getElem?_append_left hl] at hk
        exact hT k e hk
      · rw [List.getElem?_append_right hg] at hk
        have hk0 : k - T.length = 0 := by
          have := (List.getElem?_eq_some_iff.1 hk).1
          simp at this
          omega
        rw [hk0] at hk
        simp only [List.getElem?_cons_zero, Option.some.injEq] at hk
        subst hk
        exact ⟨o, by rw [show k = i by omega]; exact hi, rfl⟩
    obtain ⟨T2, tmF, hK, hoF, hlF, hTF, hall⟩ := runQ_sound hdist hds os (i + 1) _ _ K hrest (by simp [hTi]) hT' hopt' h
    rw [List.append_assoc] at hK hoF hTF
    refine ⟨[⟨o.dst, ch, s⟩] ++ T2, tmF, hK, hoF, by simp [hlF], hTF, fun m o' hm => ?_⟩
    cases m with
    | zero =>
      simp only [List.getElem?_cons_zero, Option.some.injEq] at hm
      subst hm
      refine ⟨⟨o.dst, ch, s⟩, by rw [List.getElem?_append_right (by omega)]; simp [hTi], ?_⟩
      refine { edge := fun hdr => ?_, dst := rfl, lt := hlt, ch := ?_, way := ?_ }
      · rw [hdr] at hedge
        intro j hj
        exact blt_lt (List.all_eq_true.1 hedge j hj)
      · rcases hch with h1 | ⟨j, w, ej, d, b, h1, h2, h3, h4, h5, h6⟩
        · exact .inl h1
        · exact .inr ⟨j, w, ej, d, b, h1, h2, by rw [List.getElem?_append_left (List.getElem?_eq_some_iff.1 h3).1]; exact h3, h4, h5, h6⟩
      · refine hway ([⟨o.dst, ch, s⟩] ++ T2) (fun _ k ek d hk hd => ?_) fun k ek hk d ho hd => ?_
        · obtain ⟨o', ho', e1⟩ := hTF k ek hk
          exact hds d (mem_dstsOf (e1 ▸ hd) (List.mem_of_getElem? ho'))
        · obtain ⟨o', ho', e1⟩ := hTF k ek hk
          exact distinctD_at hdist k i o' o d ho' hi (e1 ▸ hd) ho
    | succ m =>
      obtain ⟨e, h1, h2⟩ := hall m o' (by simpa using hm)
      rw [List.append_assoc] at h1 h2
      rw [show i + (m + 1) = i + 1 + m by omega]
      exact ⟨e, h1, h2⟩
end

/-! ### The region -/
/-- A state between: the operations of X have come up. -/
structure QMid (w0 : World) (M : Frm) (T : List QE) (hp : Hp) (tm0 : List Sv) (X : Nat → Prop) (c : Cx) (a : Act) (dfs : List Deferred) : Prop where
  inv : Inv w0 M c hp
  full : ∀ (k : Nat) (b : Blk), hp[k]? = some (some b) → c.D k
  size : a.tmps.size = tm0.length
  ds : Marks w0 c a.defers dfs
  rel : ∀ t, (∃ (k : Nat) (e : QE), X k ∧ T[k]? = some e ∧ e.dst = some t ∧ ((Tr T e.ch ∧ Rel e.s c (a.tmps.getD t undef)) ∨ (¬ Tr T e.ch ∧ a.tmps.getD t undef = undef))) ∨
    ((∀ (k : Nat) (e : QE), X k → T[k]? = some e → e.dst ≠ some t) ∧ Rel (tmGet tm0 t) c (a.tmps.getD t undef))

section
variable {G : Gm} {ops : Array Oper} {F : Fence} {n : Nat} {Q : Exit → Act → World → Prop} {w0 : World} {M : Frm} {dfs : List Deferred} {hp : Hp} {dr : Bool} {tm0 : List Sv} {T : List QE}

theorem QMid.start {c : Cx} {a : Act} (hS : St w0 M c tm0 hp a dfs) : QMid w0 M T hp tm0 (fun _ => False) c a dfs :=
  { inv := hS.inv, full := hS.full, size := hS.size, ds := hS.ds, rel := fun t => .inr ⟨fun _ _ h => h.elim, hS.rel t⟩ }

theorem act_put_get {a : Act} {d : Option Nat} {v : Value} {t : Nat} (h : d ≠ some t) : (a.put d v).tmps.getD t undef = a.tmps.getD t undef := by
  cases d with
  | none => rfl
  | some u =>
    simp only [Act.put]
    rw [Array.getD_eq_getD_getElem?, Array.getD_eq_getD_getElem?, Array.getElem?_setIfInBounds_ne (fun e => h (by rw [e]))]
theorem act_put_self {a : Act} {v : Value} {t : Nat} (h : t < a.tmps.size) : (a.put (some t) v).tmps.getD t undef = v := by
  simp only [Act.put]
  rw [Array.getD_eq_getD_getElem?]
  simp [h]
theorem act_put_size {a : Act} {d : Option Nat} {v : Value} : (a.put d v).tmps.size = a.tmps.size := by
  cases d <;> simp [Act.put]
theorem act_put_defers {a : Act} {d : Option Nat} {v : Value} : (a.put d v).defers = a.defers := by
  cases d <;> simp [Act.put]

/-- Operation i comes up. -/
theorem QMid.step {X : Nat → Prop} {c : Cx} {a : Act} (h : QMid w0 M T hp tm0 X c a dfs) (hF : Open F) {i : Nat} {o : Oper} {e : QE} {seen : Nat → Bool} (ho : ops[i]? = some o) (he : T[i]? = some e) (hE : EntQ G.P hp seen dr tm0 T i o e)
    (hu : ∀ (a b : Nat) (x y : QE) (d : Nat), T[a]? = some x → T[b]? = some y → x.dst = some d → y.dst = some d → a = b) (hdst : ∀ (k : Nat) (ek : QE) (ok : Oper), T[k]? = some ek → ops[k]? = some ok → ek.dst = ok.dst)
    (hX : ∀ k, seen k = true → X k) (hXi : ¬ X i) (hXlt : dr = false → ∀ k, X k → k < i) (hXo : ∀ k, X k → k < ops.size) {next : Act → World → Prop} (hn : ∀ a' c', QMid w0 M T hp tm0 (fun k => X k ∨ k = i) c' a' dfs → next a' c'.w) :
    wpOpIn F n G.P ops Q i next a c.w := by
  unfold wpOpIn
  rw [ho]
  simp only
  -- whether it is wanted
  have hwant : (Region.wanted o (yielded ops a.tmps) = true ∧ Tr T e.ch) ∨ (Region.wanted o (yielded ops a.tmps) = false ∧ ¬ Tr T e.ch) := by
    rcases hE.ch with ⟨hg, hc⟩ | ⟨j, w, ej, d, b, hg, hs, hj, hd, hsv, hc⟩
    · left
      refine ⟨by simp [Region.wanted, hg], ?_⟩
      rw [hc]
      intro p hp
      cases hp
    · have hXj := hX j hs
      have hjo : ∃ oj, ops[j]? = some oj := ⟨_, Array.getElem?_eq_getElem (hXo j hXj)⟩
      obtain ⟨oj, hoj⟩ := hjo
      have hdj : oj.dst = some d := by rw [← hdst j ej oj hj hoj]; exact hd
      have hval : (Tr T ej.ch ∧ a.tmps.getD d undef = .bool b) ∨ (¬ Tr T ej.ch ∧ a.tmps.getD d undef = undef) := by
        rcases h.rel d with ⟨k, ek, hXk, hk, hkd, hr⟩ | ⟨hno, _⟩
        · have := hu k j ek ej d hk hj hkd hd
          subst this
          rw [hj] at hk
          cases hk
          rcases hr with ⟨h1, h2⟩ | h2
          · left
            refine ⟨h1, ?_⟩
            rw [hsv] at h2
            simpa only [Rel] using h2
          · exact .inr h2
        · exact absurd hd (hno j ej hXj hj)
      have hy : yielded ops a.tmps j = (match a.tmps.getD d undef with | .bool b => some b | _ => none) := by
        unfold yielded
        rw [hoj]
        simp only [Option.bind_some, hdj]
        rw [Array.getD_eq_getD_getElem?]
        cases hx : a.tmps[d]? with
        | none => simp [undef]
        | some v => cases v <;> rfl
      have htr : Tr T e.ch ↔ (b = w ∧ Tr T ej.ch) := by
        rw [hc]
        constructor
        · intro ht
          obtain ⟨e', h1, h2⟩ := ht (j, w) (by simp)
          rw [hj] at h1
          cases h1
          rw [hsv] at h2
          simp only [Sv.val.injEq, Value.bool.injEq] at h2
          exact ⟨h2, fun p hp => ht p (by simp [hp])⟩
        · rintro ⟨rfl, ht⟩ p hp
          rcases List.mem_cons.1 hp with rfl | hp
          · exact ⟨ej, hj, hsv⟩
          · exact ht p hp
      rw [htr]
      rcases hval with ⟨h1, h2⟩ | ⟨h1, h2⟩
      · rw [h2] at hy
        simp only at hy
        by_cases hbw : b = w
        · left
          exact ⟨by simp [Region.wanted, hg, hy, hbw], hbw, h1⟩
        · right
          refine ⟨by simp [Region.wanted, hg, hy, hbw], fun h => hbw h.1⟩
      · rw [h2] at hy
        right
        refine ⟨?_, fun h => h1 h.2⟩
        have : yielded ops a.tmps j = none := by rw [hy]; rfl
        simp [Region.wanted, hg, this]
  -- the state behind it
  have fin : ∀ (c' : Cx) (v : Value), c.Le (fun _ => true) c' → Inv w0 M c' hp → (∀ (k : Nat) (b : Blk), hp[k]? = some (some b) → c'.D k) → c.Cq c' → ((Tr T e.ch ∧ Rel e.s c' v) ∨ (¬ Tr T e.ch ∧ v = undef)) → next (a.put o.dst v) c'.w := by
    intro c' v hle hI hf hq hv
    refine hn _ c' { inv := hI, full := hf, size := by rw [act_put_size]; exact h.size, ds := by rw [act_put_defers]; exact h.ds.cq hq, rel := fun t => ?_ }
    by_cases ht : o.dst = some t
    · left
      refine ⟨i, e, .inr rfl, he, by rw [hE.dst]; exact ht, ?_⟩
      rw [ht, act_put_self (by rw [h.size]; exact hE.lt t ht)]
      exact hv
    · rw [act_put_get ht]
      rcases h.rel t with ⟨k, ek, hXk, hk, hkd, hr⟩ | ⟨hno, hr⟩
      · left
        exact ⟨k, ek, .inl hXk, hk, hkd, hr.imp (fun ⟨h1, h2⟩ => ⟨h1, Rel.le _ (Sv.all_true _) hle h2⟩) id⟩
      · right
        refine ⟨fun k ek hXk hk => ?_, Rel.le _ (Sv.all_true _) hle hr⟩
        rcases hXk with hXk | rfl
        · exact hno k ek hXk hk
        · rw [he] at hk
          cases hk
          rw [hE.dst]
          exact ht
  rcases hwant with ⟨hw, htr⟩ | ⟨hw, htr⟩
  · rw [if_pos hw]
    obtain ⟨tmi, hst, hops⟩ := hE.way htr
    have hrel : ∀ x ∈ o.op.operands, Rel (evO tmi x) c (a.eval x) := by
      intro x hx
      cases x with
      | tmp t =>
        simp only [evO, Act.eval]
        rcases hops t hx with ⟨k, ek, hk, hkd, hs, htk, hval⟩ | ⟨hno, hval⟩ | hval
        · rw [hval]
          rcases h.rel t with ⟨k', ek', hXk', hk', hkd', hr⟩ | ⟨hno, _⟩
          · have := hu k' k ek' ek t hk' hk hkd' hkd
            subst this
            rw [hk] at hk'
            cases hk'
            rcases hr with ⟨_, h2⟩ | ⟨h1, _⟩
            · exact h2
            · exact absurd htk h1
          · exact absurd hkd (hno k ek (hX k hs) hk)
        · rw [hval]
          rcases h.rel t with ⟨k', ek', hXk', hk', hkd', hr⟩ | ⟨_, hr⟩
          · rcases hno k' ek' hk' hkd' with ⟨hd, hik⟩ | rfl
            · have := hXlt hd k' hXk'
              omega
            · exact absurd hXk' hXi
          · exact hr
        · rw [hval]
          simp [Rel]
      | const v => simp [evO, Act.eval, Rel]
      | global g => simp [evO, Act.eval, Rel]
      | func f => simp only [evO, Act.eval, Rel]; exact ⟨[], rfl, by simp [RelT]⟩
    refine hst F n w0 M c a next Q hF h.inv hrel fun s nb kl v c' hK hp' hr => ?_
    obtain ⟨rfl, rfl, rfl⟩ := hK
    refine fin c' v ?_ ?_ (fun k b hk => ?_) (hp'.cq h.inv) (.inl ⟨htr, hr⟩)
    · have := hp'.le
      rwa [notNil] at this
    · simpa [kill] using hp'.inv
    · exact (hp'.dom k).2 (.inl ⟨h.full k b hk, rfl⟩)
  · rw [hw]
    simp only [Bool.false_eq_true, if_false]
    exact ⟨fun f _ => hF.fn f, fin c undef ⟨fun _ _ h => ⟨h, rfl⟩, fun _ h => h, fun _ _ h => h, fun _ _ => rfl⟩ h.inv h.full ⟨rfl, rfl, rfl, fun _ _ => rfl⟩ (.inr ⟨htr, rfl⟩)⟩

/-- What is left behind the region: guarded slots are forgotten. -/
def endQ : List QE → List Sv → (List Sv → Prop) → Prop
  | [], tm, K => K tm
  | e :: T, tm, K => match e.ch with
    | [] => endQ T tm K
    | _ :: _ => match e.dst with
      | some d => setK tm d .any fun tm => endQ T tm K
      | none => endQ T tm K
theorem endQ_sound : ∀ {T : List QE} {tm : List Sv} {K : List Sv → Prop}, endQ T tm K → ∃ tm', K tm' ∧ tm'.length = tm.length ∧ ∀ t, (tmGet tm' t = tmGet tm t ∧ ∀ e ∈ T, e.dst = some t → e.ch = []) ∨ tmGet tm' t = .any
  | [], tm, K, h => ⟨tm, h, rfl, fun t => .inl ⟨rfl, fun e he => by cases he⟩⟩
  | e :: T, tm, K, h => by
    unfold endQ at h
    split at h
    · rename_i hc
      obtain ⟨tm', h1, h2, h3⟩ := endQ_sound h
      refine ⟨tm', h1, h2, fun t => (h3 t).imp (fun ⟨h4, h5⟩ => ⟨h4, fun x hx hd => ?_⟩) id⟩
      rcases List.mem_cons.1 hx with rfl | hx
      · exact hc
      · exact h5 x hx hd
    · split at h
      · rename_i d hd
        rw [setK_eq] at h
        obtain ⟨tm', h1, h2, h3⟩ := endQ_sound h
        refine ⟨tm', h1, by rw [h2]; simp, fun t => ?_⟩
        rcases h3 t with ⟨h4, h5⟩ | h4
        · rw [tmGet_set] at h4
          by_cases ht : d = t
          · right
            rw [h4]
            subst ht
            by_cases hl : d < tm.length
            · rw [if_pos ⟨rfl, hl⟩]
            · rw [if_neg (fun h => hl h.2)]
              unfold tmGet
              rw [nth_eq, List.getElem?_eq_none (by omega)]
          · left
            rw [if_neg (fun h => ht h.1)] at h4
            refine ⟨h4, fun x hx hxd => ?_⟩
            rcases List.mem_cons.1 hx with rfl | hx
            · rw [hd] at hxd
              cases hxd
              exact absurd rfl ht
            · exact h5 x hx hxd
        · exact .inr h4
      · rename_i hd
        obtain ⟨tm', h1, h2, h3⟩ := endQ_sound h
        refine ⟨tm', h1, h2, fun t => (h3 t).imp (fun ⟨h4, h5⟩ => ⟨h4, fun x hx hxd => ?_⟩) id⟩
        rcases List.mem_cons.1 hx with rfl | hx
        · rw [hd] at hxd; cases hxd
        · exact h5 x hx hxd

theorem QMid.finish {X : Nat → Prop} {c : Cx} {a : Act} (h : QMid w0 M T hp tm0 X c a dfs) (hall : ∀ (k : Nat) (e : QE), T[k]? = some e → X k) {tmF tm' : List Sv} (hopt : Opt tm0 T tmF) (hl : tm'.length = tmF.length)
    (ht : ∀ t, (tmGet tm' t = tmGet tmF t ∧ ∀ e ∈ T, e.dst = some t → e.ch = []) ∨ tmGet tm' t = .any) : St w0 M c tm' hp a dfs := by
  refine { inv := h.inv, full := h.full, rel := fun t => ?_, size := by rw [h.size, hl, hopt.1], ds := h.ds }
  rcases ht t with ⟨h1, h2⟩ | h1
  · rw [h1]
    rcases h.rel t with ⟨k, e, hXk, hk, hkd, hr⟩ | ⟨hno, hr⟩
    · rw [(hopt.2 t).1 k e hk hkd]
      rcases hr with ⟨_, hr⟩ | ⟨hn, _⟩
      · exact hr
      · rw [h2 e (List.mem_of_getElem? hk) hkd] at hn
        exact absurd (fun p hp => by cases hp) hn
    · rw [(hopt.2 t).2 fun e he hd => ?_]
      · exact hr
      · obtain ⟨k, hk⟩ := List.mem_iff_getElem?.1 he
        exact hno k e (hall k e hk) hk hd
  · rw [h1]
    simp [Rel]
end

/-- Operations that change nothing stand in front; how many. -/
def quietN : List Oper → Nat
  | [] => 0
  | o :: os => match o.op with
    | .store _ _ _ => 0
    | .alloc _ => 0
    | .box _ _ => 0
    | .buildSlice _ _ _ => 0
    | .makeSlice _ _ _ => 0
    | .call c => match c.callee with
      | .builtin .len => quietN os + 1
      | .builtin .min => quietN os + 1
      | .builtin .max => quietN os + 1
      | .value _ => quietN os + 1
      | _ => 0
    | _ => quietN os + 1
theorem quietN_le : ∀ ops : List Oper, quietN ops ≤ ops.length
  | [] => Nat.le_refl _
  | o :: os => by
    have := quietN_le os
    simp only [quietN, List.length_cons]
    repeat' split
    all_goals omega

/-- A region, its front walked once; nQ: how far the front goes. -/
def regQ (G : Gm) (dr : Bool) (PT : List (List Nat)) (ops : List Oper) (nQ : Nat) (tm : List Sv) (hp : Hp) (K : List Sv → Hp → Prop) : Prop :=
  chk (distinctD (ops.take nQ) && (match dr with | true => tailOk PT (ops.drop nQ) nQ | false => true)) <|
    runQ G hp dr PT (dstsOf (ops.take nQ)) (ops.take nQ) 0 tm [] fun tm T => endQ T tm fun tm =>
      match dr with
      | true => tailV G (ops.drop nQ) tm hp K
      | false => runR G ops (ops.drop nQ) tm hp K
def hasG : List Oper → Bool
  | [] => false
  | o :: os => match o.guard with
    | some _ => true
    | none => hasG os
/-- A region: in one of two ways. -/
inductive RegW (G : Gm) (id : Nat) (dr : Bool) (ops : List Oper) (tm : List Sv) (hp : Hp) (K : List Sv → Hp → Prop) : Prop
  | d : (match dr with | true => DrawV G ops tm hp K | false => runR G ops ops tm hp K) → RegW G id dr ops tm hp K
  | q : (litK (quietN ops) fun nQ => match dr with | true => preTabK ops [] fun PT => regQ G dr PT ops nQ tm hp K | false => regQ G dr [] ops nQ tm hp K) → RegW G id dr ops tm hp K

section
variable {G : Gm} {ops : Array Oper} {F : Fence} {n : Nat} {Q : Exit → Act → World → Prop} {w0 : World} {M : Frm} {dfs : List Deferred} {hp : Hp} {tm0 : List Sv} {T : List QE} {K : List Sv → Hp → Prop}

/-- In the text's order. -/
theorem qtext_sound (hF : Open F) {nQ : Nat} (hnQ : nQ ≤ ops.size) (hTl : T.length = nQ) (hall : ∀ m o, m < nQ → ops[m]? = some o → ∃ e, T[m]? = some e ∧ EntQ G.P hp (seenP false [] m) false tm0 T m o e)
    (hu : ∀ (a b : Nat) (x y : QE) (d : Nat), T[a]? = some x → T[b]? = some y → x.dst = some d → y.dst = some d → a = b) (hdst : ∀ (k : Nat) (ek : QE) (ok : Oper), T[k]? = some ek → ops[k]? = some ok → ek.dst = ok.dst)
    (hfin : ∀ a c, QMid w0 M T hp tm0 (fun k => k < nQ) c a dfs → wpOpsIn F n G.P ops Q (List.range' nQ (ops.size - nQ)) a c.w) :
    ∀ (m i : Nat) (a : Act) (c : Cx), i + m = nQ → QMid w0 M T hp tm0 (fun k => k < i) c a dfs → wpOpsIn F n G.P ops Q (List.range' i (ops.size - i)) a c.w
  | 0, i, a, c, hi, h => by
    have : i = nQ := by omega
    subst this
    exact hfin a c h
  | m + 1, i, a, c, hi, h => by
    have hlt : i < ops.size := by omega
    have ho : ops[i]? = some (ops[i]'hlt) := Array.getElem?_eq_getElem hlt
    obtain ⟨e, he, hE⟩ := hall i _ (by omega) ho
    rw [show ops.size - i = (ops.size - (i + 1)) + 1 by omega, List.range'_succ, wpOpsIn_cons]
    refine h.step hF ho he hE hu hdst (fun k hk => blt_lt hk) (Nat.lt_irrefl _) (fun _ k hk => hk) (fun k hk => by omega) fun a' c' h' => ?_
    refine qtext_sound hF hnQ hTl hall hu hdst hfin m (i + 1) a' c' (by omega) ?_
    have : (fun k => k < i ∨ k = i) = fun k => k < i + 1 := by funext k; simp only [eq_iff_iff]; omega
    rw [this] at h'
    exact h'

theorem qdraw_sound (hF : Open F) (hy : YdOk G.P w0 M G.l G.its) (hQ : ∀ a c tm hp, K tm hp → St w0 M c tm hp a dfs → Q .normal a c.w) {nQ : Nat} (hnQ : nQ ≤ ops.size) (hTl : T.length = nQ) {PT : List (List Nat)}
    (hPT : ∀ j o, ops.toList[j]? = some o → pre PT j = preOf (PT.take j) (edges o)) (htail : tailOk PT (ops.toList.drop nQ) nQ = true)
    (hall : ∀ m o, m < nQ → ops[m]? = some o → ∃ e, T[m]? = some e ∧ EntQ G.P hp (seenP true PT m) true tm0 T m o e)
    (hu : ∀ (a b : Nat) (x y : QE) (d : Nat), T[a]? = some x → T[b]? = some y → x.dst = some d → y.dst = some d → a = b) (hdst : ∀ (k : Nat) (ek : QE) (ok : Oper), T[k]? = some ek → ops[k]? = some ok → ek.dst = ok.dst)
    {tm' : List Sv} (hK : tailV G (ops.toList.drop nQ) tm' hp K) (hfin : ∀ a c, QMid w0 M T hp tm0 (fun k => k < nQ) c a dfs → St w0 M c tm' hp a dfs) :
    ∀ (fuel : Nat) (listed : Array Bool) (c : Cx) (a : Act), listed.size = ops.size → (∀ i, listed.getD i false = true → i < nQ) → (∀ i o, ops[i]? = some o → listed.getD i false = true → ∀ j ∈ edges o, listed.getD j false = true) →
      ((List.range nQ).filter (fun i => !listed.getD i false)).length + (ops.size - nQ) = fuel → QMid w0 M T hp tm0 (fun i => listed.getD i false = true) c a dfs → wpAnyIn F n G.P .any ops Q fuel listed a c.w := by
  have hed : ∀ i o, ops[i]? = some o → ∀ j ∈ edges o, j < i := fun i o ho => by
    rcases Nat.lt_or_ge i nQ with hi | hi
    · obtain ⟨e, _, hok⟩ := hall i o hi ho
      exact hok.edge rfl
    · have hd : (ops.toList.drop nQ)[i - nQ]? = some o := by
        rw [List.getElem?_drop, show nQ + (i - nQ) = i by omega]
        simpa using ho
      have := (tailOk_at htail (i - nQ) o hd).2.1
      rwa [show nQ + (i - nQ) = i by omega] at this
  have behind : ∀ (fuel : Nat) (listed : Array Bool) (c : Cx) (a : Act), listed.size = ops.size → (∀ i, listed.getD i false = true → i < nQ) → (∀ j, j < nQ → listed.getD j false = true) → ops.size - nQ = fuel →
      QMid w0 M T hp tm0 (fun i => listed.getD i false = true) c a dfs → wpAnyIn F n G.P .any ops Q fuel listed a c.w := by
    intro fuel listed c a hs hlt hal hfuel hM
    have hXe : (fun i => listed.getD i false = true) = fun k => k < nQ := by
      funext k
      simp only [eq_iff_iff]
      exact ⟨hlt k, hal k⟩
    rw [hXe] at hM
    refine tail_sound hF hy hQ hed hPT _ nQ fuel listed _ _ c a rfl (by simp; omega) hs (fun j hj => ?_) htail hK (hfin a c hM)
    by_cases hjn : j < nQ
    · rw [hal j hjn]; simp [hjn]
    · cases hx : listed.getD j false with
      | true => exact absurd (hlt j hx) hjn
      | false => simp [hjn]
  intro fuel
  induction fuel with
  | zero =>
    intro listed c a hs hlt hcl hfuel hM
    refine behind 0 listed c a hs hlt (fun j hj => ?_) (by omega) hM
    cases h : listed.getD j false with
    | true => rfl
    | false =>
      have : j ∈ (List.range nQ).filter (fun i => !listed.getD i false) := List.mem_filter.2 ⟨List.mem_range.2 hj, by rw [h]; rfl⟩
      have hpos := List.length_pos_of_mem this
      omega
  | succ f ih =>
    intro listed c a hs hlt hcl hfuel hM
    by_cases hal : ∀ j, j < nQ → listed.getD j false = true
    · have hnil : (List.range nQ).filter (fun i => !listed.getD i false) = [] := by
        rw [List.filter_eq_nil_iff]
        intro j hj
        rw [hal j (List.mem_range.1 hj)]
        simp
      rw [hnil] at hfuel
      exact behind (f + 1) listed c a hs hlt hal (by simpa using hfuel) hM
    · have ⟨j0, hj0, hj0f⟩ : ∃ j, j < nQ ∧ listed.getD j false = false := by
        by_cases h : ∃ j, j < nQ ∧ listed.getD j false = false
        · exact h
        · refine absurd (fun j hj => ?_) hal
          cases hx : listed.getD j false with
          | true => rfl
          | false => exact absurd ⟨j, hj, hx⟩ h
      refine ⟨fun hr => ?_, fun i hi => ?_⟩
      · have := ready_all hed hs hr j0 (by omega)
        rw [hj0f] at this
        cases this
      · obtain ⟨hui, o, ho, hei⟩ := (ready_iff hs).1 hi
        have hil := (Array.getElem?_eq_some_iff.1 ho).1
        have hiE : i < nQ := by
          rcases Nat.lt_or_ge i nQ with h | h
          · exact h
          · have hd : (ops.toList.drop nQ)[i - nQ]? = some o := by
              rw [List.getElem?_drop, show nQ + (i - nQ) = i by omega]
              simpa using ho
            have h3 := (tailOk_at htail (i - nQ) o hd).1 j0 (by omega)
            rw [show nQ + (i - nQ) = i by omega] at h3
            have := pre_closed (os := ops.toList) hPT (X := fun k => listed.getD k false) (fun k o2 hk hx => hcl k o2 (by simpa using hk) hx) i o (by simpa using ho) hei j0 h3
            rw [hj0f] at this
            cases this
        obtain ⟨e, he, hok⟩ := hall i o hiE ho
        have hpre : ∀ m, memB m (pre PT i) = true → listed.getD m false = true := pre_closed (os := ops.toList) hPT (X := fun i => listed.getD i false) (fun k o' hk hx => hcl k o' (by simpa using hk) hx) i o (by simpa using ho) hei
        refine hM.step hF ho he hok hu hdst hpre (by rw [hui]; simp) (fun h => by cases h) (fun k hk => by have := hlt k hk; omega) fun a' c' hM' => ?_
        have hXe : (fun k => listed.getD k false = true ∨ k = i) = fun k => (listed.setIfInBounds i true).getD k false = true := by
          funext k
          simp only [eq_iff_iff]
          by_cases hki : k = i
          · subst hki
            simp only [or_true, true_iff]
            exact getD_set_self (by omega)
          · rw [getD_set_ne false (fun e => hki e.symm)]
            simp [hki]
        rw [hXe] at hM'
        refine ih _ c' a' (by simp [hs]) (fun k hk => ?_) (fun k o' hk hx j hj => ?_) ?_ hM'
        · by_cases hki : k = i
          · omega
          · rw [getD_set_ne false (fun e => hki e.symm)] at hk
            exact hlt k hk
        · have up : ∀ j, listed.getD j false = true → (listed.setIfInBounds i true).getD j false = true := fun j hj => by
            by_cases hji : j = i
            · subst hji; exact getD_set_self (by omega)
            · rw [getD_set_ne false (fun e => hji e.symm)]; exact hj
          by_cases hki : k = i
          · subst hki
            rw [ho] at hk
            cases hk
            exact up j (hei j hj)
          · rw [getD_set_ne false (fun e => hki e.symm)] at hx
            exact up j (hcl k o' hk hx j hj)
        · have := cnt_step (i := i) (p := fun k => !listed.getD k false) (q := fun k => !(listed.setIfInBounds i true).getD k false) (by simp [hui]) (by simp [getD_set_self (show i < listed.size by omega)]) (fun j hj => by rw [getD_set_ne false (fun e => hj e.symm)]) (List.range nQ) List.nodup_range (List.mem_range.2 hiE)
          omega
end

theorem reg_sound {G : Gm} {ops : Array Oper} {id : Nat} {dr : Bool} {F : Fence} (hF : Open F) {n : Nat} {Q : Exit → Act → World → Prop} {w0 : World} {M : Frm} {dfs : List Deferred} {K : List Sv → Hp → Prop}
    (hy : YdOk G.P w0 M G.l G.its) (hQ : ∀ a c tm hp, K tm hp → St w0 M c tm hp a dfs → Q .normal a c.w) {tm : List Sv} {hp : Hp} {c : Cx} {a : Act} {id' : Nat} (h : RegW G id' dr ops.toList tm hp K) (hS : St w0 M c tm hp a dfs) : (Code.region id ops dr).wpIn F n G.P Q a c.w := by
  have text : runR G ops.toList ops.toList tm hp K → (Code.region id ops false).wpIn F n G.P Q a c.w := fun h => by
    refine wpIn_region ?_
    have := runR_sound (n := n) (Q := Q) hF hy hQ ops.toList 0 tm hp c a rfl h hS
    rwa [List.range_eq_range', show ops.size = ops.toList.length from by simp]
  rcases h with h | h
  · cases dr with
    | false => exact text h
    | true => exact draw_sound hF hy hQ h hS
  · rw [litK_eq] at h
    have hnQ := quietN_le ops.toList
    generalize quietN ops.toList = nQ at h hnQ
    have hnQ : nQ ≤ ops.size := by simpa using hnQ
    -- what the walk of the front tells
    have front : ∀ {dr : Bool} {PT : List (List Nat)}, regQ G dr PT ops.toList nQ tm hp K → ∃ T tmF tm', T.length = nQ ∧ Opt tm T tmF ∧ tm'.length = tmF.length ∧
        (∀ t, (tmGet tm' t = tmGet tmF t ∧ ∀ e ∈ T, e.dst = some t → e.ch = []) ∨ tmGet tm' t = .any) ∧
        (∀ (a b : Nat) (x y : QE) (d : Nat), T[a]? = some x → T[b]? = some y → x.dst = some d → y.dst = some d → a = b) ∧ (∀ (k : Nat) (ek : QE) (ok : Oper), T[k]? = some ek → ops[k]? = some ok → ek.dst = ok.dst) ∧
        (∀ m o, m < nQ → ops[m]? = some o → ∃ e, T[m]? = some e ∧ EntQ G.P hp (seenP dr PT m) dr tm T m o e) ∧ (match dr with | true => tailOk PT (ops.toList.drop nQ) nQ | false => true) = true ∧
        (match dr with | true => tailV G (ops.toList.drop nQ) tm' hp K | false => runR G ops.toList (ops.toList.drop nQ) tm' hp K) := by
      intro dr PT h
      unfold regQ at h
      rw [chk_iff] at h
      obtain ⟨hc, h⟩ := h
      simp only [Bool.and_eq_true] at hc
      obtain ⟨T, tmF, hK, hopt, hlen, hTo, hall⟩ := runQ_sound hc.1 (fun d hd => memB_of_mem hd) _ 0 tm [] _ rfl rfl (fun k e hk => by simp at hk) ⟨rfl, fun t => ⟨fun k e hk => by simp at hk, fun _ => rfl⟩⟩ h
      simp only [List.nil_append, Nat.zero_add] at hK hopt hlen hTo hall
      obtain ⟨tm', hK', hl', ht'⟩ := endQ_sound hK
      have hat : ∀ (k : Nat) (o : Oper), (ops.toList.take nQ)[k]? = some o → ops[k]? = some o := fun k o hk => by
        rw [List.getElem?_take] at hk
        split at hk
        · simpa using hk
        · cases hk
      refine ⟨T, tmF, tm', by rw [hlen]; simp; omega, hopt, hl', ht', fun x y ex ey d hx hy hdx hdy => ?_, fun k ek ok hk hok => ?_, fun m o hm ho => ?_, hc.2, hK'⟩
      · obtain ⟨ox, hox, e1⟩ := hTo x ex hx
        obtain ⟨oy, hoy, e2⟩ := hTo y ey hy
        exact distinctD_at hc.1 x y ox oy d hox hoy (e1 ▸ hdx) (e2 ▸ hdy)
      · obtain ⟨o', ho', e1⟩ := hTo k ek hk
        rw [hat k o' ho'] at hok
        cases hok
        exact e1
      · exact hall m o (by rw [List.drop_zero, List.getElem?_take, if_pos hm]; simpa using ho)
    cases dr with
    | false =>
      obtain ⟨T, tmF, tm', hTl, hopt, hl', ht', hu, hdst, hall, _, hK⟩ := front h
      simp only at hK
      refine wpIn_region ?_
      have hall' : ∀ m o, m < nQ → ops[m]? = some o → ∃ e, T[m]? = some e ∧ EntQ G.P hp (seenP false [] m) false tm T m o e := hall
      have := qtext_sound (F := F) (n := n) (Q := Q) (w0 := w0) (M := M) (dfs := dfs) hF hnQ hTl hall' hu hdst (fun a1 c1 hM => ?_) nQ 0 a c (by omega) (by
        have h0 := QMid.start (T := T) hS
        have hXe : (fun k : Nat => k < 0) = fun _ => False := by funext k; simp
        rw [hXe]
        exact h0)
      · simpa [List.range_eq_range'] using this
      · have hS1 := hM.finish (fun k e hk => by have := (List.getElem?_eq_some_iff.1 hk).1; omega) hopt hl' ht'
        have := runR_sound (n := n) (Q := Q) hF hy hQ (ops.toList.drop nQ) nQ tm' hp c1 a1 rfl hK hS1
        simpa using this
    | true =>
      obtain ⟨PT, h, _, hPT⟩ := preTabK_sound h
      simp only [List.nil_append, List.length_nil, Nat.zero_add] at h hPT
      obtain ⟨T, tmF, tm', hTl, hopt, hl', ht', hu, hdst, hall, htail, hK⟩ := front h
      simp only at hK htail
      let w1 : World := { c.w with drawn := c.w.drawn + 1 }
      have hg : WGrow c.w w1 := ⟨rfl, rfl, rfl, Nat.le_refl _, fun _ _ => rfl⟩
      have hS1 : St w0 M { c with w := w1 } tm hp a dfs := { inv := hS.inv.grow hg, full := hS.full, rel := fun t => Rel.le _ (Sv.all_true _) (hS.inv.le_grow hg) (hS.rel t), size := hS.size, ds := hS.ds }
      have hrep : ∀ i, (Array.replicate ops.size false).getD i false = false := fun i => by
        rw [Array.getD_eq_getD_getElem?, Array.getElem?_replicate]
        split <;> rfl
      refine wpIn_region_any G.mix ?_
      refine qdraw_sound (w0 := w0) (M := M) (dfs := dfs) (T := T) (tm0 := tm) hF hy hQ hnQ hTl hPT htail hall hu hdst hK (fun a1 c1 hM => hM.finish (fun k e hk => by have := (List.getElem?_eq_some_iff.1 hk).1; omega) hopt hl' ht') ops.size (Array.replicate ops.size false) { c with w := w1 } a (by simp) (fun i hi => by rw [hrep] at hi; cases hi) (fun i o ho hi => by rw [hrep] at hi; cases hi) ?_ ?_
      · have : (List.range nQ).filter (fun i => !(Array.replicate ops.size false).getD i false) = List.range nQ := by
          rw [List.filter_eq_self]
          intro i _
          rw [hrep]
          rfl
        rw [this]
        simp
        omega
      · have hXf : (fun i => (Array.replicate ops.size false).getD i false = true) = fun _ => False := by
          funext i
          rw [hrep]
          simp
        rw [hXf]
        exact QMid.start hS1
end Go.Eng
