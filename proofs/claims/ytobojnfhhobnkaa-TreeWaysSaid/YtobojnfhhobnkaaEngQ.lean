/- The engine, part Q: a region that draws its order, walked once. -/
import Derived.Test.YtobojnfhhobnkaaEngP
set_option linter.unusedSimpArgs false
set_option maxRecDepth 20000
set_option linter.unusedVariables false
namespace Go.Eng
open Go Go.RowKit

theorem blt_lt {a b : Nat} (h : Nat.blt a b = true) : a < b := by rw [Nat.blt_eq] at h; exact h

/-! ### Who has to come first -/
def edges (o : Oper) : List Nat := go o.after.toList
where go : List Edge → List Nat
  | [] => []
  | e :: r => match Region.binds .any e with
    | true => e.on :: go r
    | false => go r
theorem edges_iff {o : Oper} {j : Nat} : j ∈ edges o ↔ ∃ e ∈ o.after, Region.binds .any e = true ∧ e.on = j := by
  have : ∀ l : List Edge, j ∈ edges.go l ↔ ∃ e ∈ l, Region.binds .any e = true ∧ e.on = j := by
    intro l
    induction l with
    | nil => simp [edges.go]
    | cons e r ih =>
      simp only [edges.go]
      cases h : Region.binds .any e with
      | true =>
        simp only [List.mem_cons, ih, exists_eq_or_imp, h, true_and]
        exact or_congr eq_comm Iff.rfl
      | false => simp only [List.mem_cons, ih, exists_eq_or_imp, h, Bool.false_eq_true, false_and, false_or]
  unfold edges
  rw [this]
  simp

def uni : List Nat → List Nat → List Nat
  | [], ys => ys
  | x :: xs, ys => match memB x ys with
    | true => uni xs ys
    | false => x :: uni xs ys
theorem memB_uni {k : Nat} : ∀ {xs ys : List Nat}, memB k (uni xs ys) = true → memB k xs = true ∨ memB k ys = true
  | [], ys, h => .inr h
  | x :: xs, ys, h => by
    simp only [uni] at h
    split at h
    · rcases memB_uni h with h | h
      · exact .inl (by simp [memB, h])
      · exact .inr h
    · simp only [memB, Bool.or_eq_true] at h
      rcases h with h | h
      · exact .inl (by simp [memB]; exact .inl (by simpa using h))
      · rcases memB_uni h with h | h
        · exact .inl (by simp [memB, h])
        · exact .inr h
def pre (pt : List (List Nat)) (m : Nat) : List Nat :=
  match nth pt m with
  | some l => l
  | none => []
def preOf (pt : List (List Nat)) : List Nat → List Nat
  | [] => []
  | j :: js => uni (j :: pre pt j) (preOf pt js)
theorem memB_preOf {pt : List (List Nat)} {k : Nat} : ∀ {js : List Nat}, memB k (preOf pt js) = true → ∃ e ∈ js, k = e ∨ memB k (pre pt e) = true
  | [], h => by cases h
  | j :: js, h => by
    rcases memB_uni h with h | h
    · simp only [memB, Bool.or_eq_true, beq_iff_eq] at h
      exact ⟨j, by simp, h⟩
    · obtain ⟨e, he, h⟩ := memB_preOf h
      exact ⟨e, by simp [he], h⟩
def natsK : List Nat → (List Nat → Prop) → Prop
  | [], K => K []
  | n :: ns, K => litK n fun n => natsK ns fun ns => K (n :: ns)
theorem natsK_eq : ∀ (l : List Nat) (K : List Nat → Prop), natsK l K = K l
  | [], _ => rfl
  | n :: ns, K => by simp only [natsK, litK_eq, natsK_eq ns]
def bitsK : List Bool → (List Bool → Prop) → Prop
  | [], K => K []
  | b :: bs, K => boolK b fun b => bitsK bs fun bs => K (b :: bs)
theorem bitsK_eq : ∀ (l : List Bool) (K : List Bool → Prop), bitsK l K = K l
  | [], _ => rfl
  | b :: bs, K => by simp only [bitsK, boolK_eq, bitsK_eq bs]
def preTabK : List Oper → List (List Nat) → (List (List Nat) → Prop) → Prop
  | [], pt, K => K pt
  | o :: os, pt, K => natsK (preOf pt (edges o)) fun l => spineK (pt ++ [l]) fun pt => preTabK os pt K
theorem pre_append {pt qt : List (List Nat)} {m : Nat} (h : m < pt.length) : pre (pt ++ qt) m = pre pt m := by
  unfold pre
  rw [nth_eq, nth_eq, List.getElem?_append_left h]
theorem pre_big {pt : List (List Nat)} {m : Nat} (h : pt.length ≤ m) : pre pt m = [] := by
  unfold pre
  rw [nth_eq, List.getElem?_eq_none h]
theorem preTabK_sound : ∀ {os : List Oper} {pt : List (List Nat)} {K : List (List Nat) → Prop}, preTabK os pt K → ∃ qt, K (pt ++ qt) ∧ qt.length = os.length ∧
    ∀ j o, os[j]? = some o → pre (pt ++ qt) (pt.length + j) = preOf ((pt ++ qt).take (pt.length + j)) (edges o)
  | [], pt, K, h => ⟨[], by simpa [preTabK] using h, rfl, fun j o hj => by simp at hj⟩
  | o :: os, pt, K, h => by
    simp only [preTabK, natsK_eq, spineK_eq] at h
    obtain ⟨qt, hK, hl, hq⟩ := preTabK_sound h
    rw [List.append_assoc] at hK hq
    refine ⟨[preOf pt (edges o)] ++ qt, hK, by simp [hl], fun j o' hj => ?_⟩
    cases j with
    | zero =>
      simp only [List.getElem?_cons_zero, Option.some.injEq] at hj
      subst hj
      have h1 : ((pt ++ ([preOf pt (edges o)] ++ qt)).take (pt.length + 0)) = pt := by simp
      rw [h1]
      unfold pre
      rw [nth_eq]
      simp
    | succ j =>
      have := hq j o' (by simpa using hj)
      simp only [List.length_append, List.length_cons, List.length_nil, Nat.zero_add] at this
      rw [show pt.length + 1 + j = pt.length + (j + 1) by omega] at this
      exact this

/-- What has come first has what comes ahead of it behind it. -/
theorem pre_closed {os : List Oper} {pt : List (List Nat)} (hpt : ∀ j o, os[j]? = some o → pre pt j = preOf (pt.take j) (edges o)) {X : Nat → Bool} (hcl : ∀ i o, os[i]? = some o → X i = true → ∀ j ∈ edges o, X j = true) :
    ∀ (i : Nat) (o : Oper), os[i]? = some o → (∀ j ∈ edges o, X j = true) → ∀ k, memB k (pre pt i) = true → X k = true := by
  intro i
  induction i using Nat.strongRecOn with
  | _ i ih =>
    intro o ho he k hk
    rw [hpt i o ho] at hk
    obtain ⟨e, hee, h⟩ := memB_preOf hk
    rcases h with rfl | h
    · exact he k hee
    · by_cases hei : e < i
      · have hlt : e < os.length := by have := (List.getElem?_eq_some_iff.1 ho).1; omega
        have hoe := List.getElem?_eq_getElem hlt
        have hpe : pre (pt.take i) e = pre pt e := by
          unfold pre
          rw [nth_eq, nth_eq, List.getElem?_take, if_pos hei]
        rw [hpe] at h
        exact ih e hei _ hoe (hcl e _ hoe (he e hee)) k h
      · rw [pre_big (by simp; omega)] at h
        cases h

/-! ### Which blocks may be gone -/
def memP (m id : Nat) : List (Nat × Nat) → Bool
  | [] => false
  | (a, b) :: r => (Nat.beq a m && Nat.beq b id) || memP m id r
def fbOf (pt : List (List Nat)) (i : Nat) : List (Nat × Nat) → List Nat
  | [] => []
  | (m, id) :: r => match Nat.beq m i || (Nat.blt i m && memB i (pre pt m)) with
    | true => fbOf pt i r
    | false => id :: fbOf pt i r
theorem memB_fbOf {pt : List (List Nat)} {i j k : Nat} (hji : j ≠ i) (hij : ¬ (i < j ∧ memB i (pre pt j) = true)) : ∀ {ks : List (Nat × Nat)}, memP j k ks = true → memB k (fbOf pt i ks) = true
  | [], h => by cases h
  | (m, id) :: r, h => by
    simp only [memP, Bool.or_eq_true, Bool.and_eq_true] at h
    simp only [fbOf]
    rcases h with ⟨h1, h2⟩ | h
    · have h1 := Nat.eq_of_beq_eq_true h1
      have h2 := Nat.eq_of_beq_eq_true h2
      subst h1
      subst h2
      have : (Nat.beq m i || (Nat.blt i m && memB i (pre pt m))) = false := by
        rw [Bool.or_eq_false_iff]
        refine ⟨?_, ?_⟩
        · cases hb : Nat.beq m i with
          | true => exact absurd (Nat.eq_of_beq_eq_true hb) hji
          | false => rfl
        · cases hb : (Nat.blt i m && memB i (pre pt m)) with
          | true =>
            simp only [Bool.and_eq_true] at hb
            exact absurd ⟨blt_lt hb.1, hb.2⟩ hij
          | false => rfl
      rw [this]
      simp [memB]
    · split
      · exact memB_fbOf hji hij h
      · simp [memB, memB_fbOf hji hij h]

/-! ### The walk -/
def ndOf (o : Oper) (t : Nat) : Bool := go t o.op.operands.toList
where go (t : Nat) : List Operand → Bool
  | [] => false
  | .tmp u :: r => Nat.beq u t || go t r
  | _ :: r => go t r
def dstsOf : List Oper → List Nat
  | [] => []
  | o :: os => match o.dst with
    | some d => d :: dstsOf os
    | none => dstsOf os
def dstOk (o : Oper) (n : Nat) : Bool :=
  match o.dst with
  | some t => Nat.blt t n
  | none => true

def execE (G : Gm) (tm0 : List Sv) (hp0 : Hp) (ds : List Nat) (ks : List (Nat × Nat)) (pt : List (List Nat)) (o : Oper) (i : Nat) (T : List Ent) (K : Ent → Prop) : Prop :=
  Need (dstOk o tm0.length = true) <|
  hpK (rawH (fun m => memB m (pre pt i)) T hp0) fun raw => bitsK (avG (fun k => memB k (fbOf pt i ks)) 0 raw) fun avl => hpK (onlyH (bAt avl) 0 raw) fun hpi =>
  rowK (rawT T (fun m => memB m (pre pt i)) (bAt avl) (ndOf o) ds 0 tm0) fun tmi => opV G tmi hpi o fun s nb kl => Need (kl.all (fun k => memP i k ks) = true) <| svK s fun s => blksH nb fun nb => K ⟨o.dst, s, nb, kl⟩
def skipE (tm0 : List Sv) (o : Oper) (K : Ent → Prop) : Prop := Need (dstOk o tm0.length = true) <| K ⟨o.dst, .val undef, [], []⟩

def drawE (G : Gm) (tm0 : List Sv) (hp0 : Hp) (ds : List Nat) (ks : List (Nat × Nat)) (pt : List (List Nat)) : List Oper → Nat → List Ent → (List Ent → Prop) → Prop
  | [], _, T, K => K T
  | o :: os, i, T, K => Need ((edges o).all (fun j => Nat.blt j i) = true) <|
    match o.guard with
    | none => execE G tm0 hp0 ds ks pt o i T fun e => spineK (T ++ [e]) fun T => drawE G tm0 hp0 ds ks pt os (i + 1) T K
    | some (j, want) => Need (memB j (pre pt i) = true) <| match nth T j with
      | some ej => match ej.dst, ej.s with
        | some d, .val (.bool b) => Need (Nat.blt d tm0.length = true) <| Br b
            (match want with
              | true => execE G tm0 hp0 ds ks pt o i T fun e => spineK (T ++ [e]) fun T => drawE G tm0 hp0 ds ks pt os (i + 1) T K
              | false => skipE tm0 o fun e => spineK (T ++ [e]) fun T => drawE G tm0 hp0 ds ks pt os (i + 1) T K)
            (match want with
              | false => execE G tm0 hp0 ds ks pt o i T fun e => spineK (T ++ [e]) fun T => drawE G tm0 hp0 ds ks pt os (i + 1) T K
              | true => skipE tm0 o fun e => spineK (T ++ [e]) fun T => drawE G tm0 hp0 ds ks pt os (i + 1) T K)
        | some d, .val (.tuple _) => Need (Nat.blt d tm0.length = true) <| skipE tm0 o fun e => spineK (T ++ [e]) fun T => drawE G tm0 hp0 ds ks pt os (i + 1) T K
        | _, _ => False
      | none => False

/-- What the guard looks at says b. -/
def SaysV (tm0 : List Sv) (pt : List (List Nat)) (T : List Ent) (i j : Nat) (v : Value) : Prop :=
  memB j (pre pt i) = true ∧ ∃ d ej, T[j]? = some ej ∧ ej.dst = some d ∧ d < tm0.length ∧ ej.s = .val v
abbrev Says (tm0 : List Sv) (pt : List (List Nat)) (T : List Ent) (i j : Nat) (b : Bool) : Prop := SaysV tm0 pt T i j (.bool b)

/-- What is known of an entry: either it has run, or it was left out. -/
structure EntOk (P : Program) (tm0 : List Sv) (hp0 : Hp) (ds : List Nat) (ks : List (Nat × Nat)) (pt : List (List Nat)) (T : List Ent) (i : Nat) (o : Oper) (e : Ent) : Prop where
  edge : ∀ j ∈ edges o, j < i
  dst : e.dst = o.dst
  lt : ∀ t, o.dst = some t → t < tm0.length
  kl : ∀ k, memB k e.kl = true → memP i k ks = true
  way : (o.guard = none ∨ ∃ j b, o.guard = some (j, b) ∧ Says tm0 pt T i j b) ∧
      EStep P o (rawT (T.take i) (fun m => memB m (pre pt i)) (bAt (avG (fun k => memB k (fbOf pt i ks)) 0 (rawH (fun m => memB m (pre pt i)) (T.take i) hp0))) (ndOf o) ds 0 tm0)
        (onlyH (bAt (avG (fun k => memB k (fbOf pt i ks)) 0 (rawH (fun m => memB m (pre pt i)) (T.take i) hp0))) 0 (rawH (fun m => memB m (pre pt i)) (T.take i) hp0)) e.s e.nb e.kl ∨
    (∃ j w v, o.guard = some (j, w) ∧ SaysV tm0 pt T i j v ∧ v ≠ .bool w) ∧ e = ⟨o.dst, .val undef, [], []⟩

theorem memB_all {kl : List Nat} {p : Nat → Bool} (h : kl.all p = true) : ∀ k, memB k kl = true → p k = true := by
  induction kl with
  | nil => intro k hk; cases hk
  | cons x xs ih =>
    intro k hk
    simp only [List.all_cons, Bool.and_eq_true] at h
    simp only [memB, Bool.or_eq_true, beq_iff_eq] at hk
    rcases hk with rfl | hk
    · exact h.1
    · exact ih h.2 k hk

section
variable {G : Gm} {tm0 : List Sv} {hp0 : Hp} {ds : List Nat} {ks : List (Nat × Nat)} {pt : List (List Nat)}

theorem dstOk_lt {o : Oper} {n : Nat} (h : dstOk o n = true) : ∀ t, o.dst = some t → t < n := by
  intro t ht
  unfold dstOk at h
  rw [ht] at h
  exact blt_lt h

theorem drawE_sound : ∀ (os : List Oper) (i : Nat) (T : List Ent) (K : List Ent → Prop), T.length = i → drawE G tm0 hp0 ds ks pt os i T K →
    ∃ T2, K (T ++ T2) ∧ T2.length = os.length ∧ ∀ m o, os[m]? = some o → ∃ e, T2[m]? = some e ∧ EntOk G.P tm0 hp0 ds ks pt (T ++ T2) (i + m) o e
  | [], i, T, K, hi, h => ⟨[], by simpa [drawE] using h, rfl, fun m o hm => by simp at hm⟩
  | o :: os, i, T, K, hi, h => by
    unfold drawE at h
    obtain ⟨hedge, h⟩ := h
    have hedge' : ∀ j ∈ edges o, j < i := fun j hj => by
      rw [List.all_eq_true] at hedge
      exact blt_lt (hedge j hj)
    -- what follows an entry
    have fin : ∀ (e : Ent), (spineK (T ++ [e]) fun T => drawE G tm0 hp0 ds ks pt os (i + 1) T K) → (∀ T2, EntOk G.P tm0 hp0 ds ks pt (T ++ e :: T2) i o e) →
        ∃ T2, K (T ++ T2) ∧ T2.length = (o :: os).length ∧ ∀ m o', (o :: os)[m]? = some o' → ∃ e, T2[m]? = some e ∧ EntOk G.P tm0 hp0 ds ks pt (T ++ T2) (i + m) o' e := by
      intro e h1 h2
      rw [spineK_eq] at h1
      obtain ⟨T2, hK, hl, hf⟩ := drawE_sound os (i + 1) (T ++ [e]) K (by simp [hi]) h1
      rw [List.append_assoc] at hK
      refine ⟨[e] ++ T2, hK, by simp [hl], fun m o' hm => ?_⟩
      cases m with
      | zero =>
        simp only [List.getElem?_cons_zero, Option.some.injEq] at hm
        subst hm
        exact ⟨e, rfl, h2 T2⟩
      | succ m =>
        obtain ⟨e', h3, h4⟩ := hf m o' (by simpa using hm)
        refine ⟨e', by simpa using h3, ?_⟩
        rw [show i + (m + 1) = i + 1 + m by omega]
        rw [List.append_assoc] at h4
        exact h4
    have exec : execE G tm0 hp0 ds ks pt o i T (fun e => spineK (T ++ [e]) fun T => drawE G tm0 hp0 ds ks pt os (i + 1) T K) → (∀ T2, o.guard = none ∨ ∃ j b, o.guard = some (j, b) ∧ Says tm0 pt (T ++ T2) i j b) →
        ∃ T2, K (T ++ T2) ∧ T2.length = (o :: os).length ∧ ∀ m o', (o :: os)[m]? = some o' → ∃ e, T2[m]? = some e ∧ EntOk G.P tm0 hp0 ds ks pt (T ++ T2) (i + m) o' e := by
      intro hx hg
      unfold execE at hx
      obtain ⟨hd, hx⟩ := hx
      simp only [hpK_eq, bitsK_eq, rowK_eq] at hx
      obtain ⟨s, nb, kl, hx, hs⟩ := opV_sound hx
      obtain ⟨hkl, hx⟩ := hx
      rw [svK_eq, blksH_eq] at hx
      refine fin _ hx fun T2 => ?_
      have htk : (T ++ (⟨o.dst, s, nb, kl⟩ : Ent) :: T2).take i = T := by rw [← hi]; simp
      refine { edge := hedge', dst := rfl, lt := dstOk_lt hd, kl := memB_all hkl, way := .inl ⟨hg _, ?_⟩ }
      rw [htk]
      exact hs
    have skip : skipE tm0 o (fun e => spineK (T ++ [e]) fun T => drawE G tm0 hp0 ds ks pt os (i + 1) T K) → (∀ T2, ∃ j w v, o.guard = some (j, w) ∧ SaysV tm0 pt (T ++ T2) i j v ∧ v ≠ .bool w) →
        ∃ T2, K (T ++ T2) ∧ T2.length = (o :: os).length ∧ ∀ m o', (o :: os)[m]? = some o' → ∃ e, T2[m]? = some e ∧ EntOk G.P tm0 hp0 ds ks pt (T ++ T2) (i + m) o' e := by
      intro hx hg
      unfold skipE at hx
      obtain ⟨hd, hx⟩ := hx
      refine fin _ hx fun T2 => ?_
      exact { edge := hedge', dst := rfl, lt := dstOk_lt hd, kl := fun k hk => (by cases hk), way := .inr ⟨hg _, rfl⟩ }
    split at h
    · rename_i hg
      exact exec h fun _ => .inl hg
    · rename_i j want hg
      obtain ⟨hj, h⟩ := h
      split at h
      case h_2 => exact h.elim
      rename_i ej hej
      rw [nth_eq] at hej
      split at h
      case h_3 => exact h.elim
      case h_2 =>
        rename_i d x hd hs
        obtain ⟨hdl, h⟩ := h
        exact skip h fun T2 => ⟨j, want, _, hg, ⟨hj, d, ej, by rw [List.getElem?_append_left (List.getElem?_eq_some_iff.1 hej).1]; exact hej, hd, blt_lt hdl, hs⟩, fun e => by cases e⟩
      rename_i d b hd hs
      obtain ⟨hdl, h1, h2⟩ := h
      have says : ∀ T2, Says tm0 pt (T ++ T2) i j b := fun T2 => ⟨hj, d, ej, by rw [List.getElem?_append_left (List.getElem?_eq_some_iff.1 hej).1]; exact hej, hd, blt_lt hdl, hs⟩
      cases b with
      | true =>
        have h1 := h1 rfl
        cases want with
        | true => exact exec h1 fun T2 => .inr ⟨j, true, hg, says T2⟩
        | false => exact skip h1 fun T2 => ⟨j, false, _, hg, says T2, fun e => by cases e⟩
      | false =>
        have h2 := h2 rfl
        cases want with
        | true => exact skip h2 fun T2 => ⟨j, true, _, hg, says T2, fun e => by cases e⟩
        | false => exact exec h2 fun T2 => .inr ⟨j, false, hg, says T2⟩
end

/-! ### The end of the region -/
def allB : Nat → List Nat → Bool
  | 0, _ => true
  | n + 1, l => memB n l && allB n l
theorem allB_mem : ∀ {n : Nat} {l : List Nat}, allB n l = true → ∀ k, k < n → k ∈ l
  | 0, _, _, k, hk => by omega
  | n + 1, l, h, k, hk => by
    simp only [allB, Bool.and_eq_true] at h
    have mem : ∀ {l : List Nat}, memB n l = true → n ∈ l := by
      intro l
      induction l with
      | nil => intro h; cases h
      | cons x xs ih =>
        intro h
        simp only [memB, Bool.or_eq_true, beq_iff_eq] at h
        rcases h with rfl | h
        · simp
        · simp [ih h]
    by_cases hkn : k = n
    · subst hkn; exact mem h.1
    · exact allB_mem h.2 k (by omega)
theorem memB_of_mem {k : Nat} : ∀ {l : List Nat}, k ∈ l → memB k l = true
  | x :: xs, h => by
    rcases List.mem_cons.1 h with rfl | h
    · simp [memB]
    · simp [memB, memB_of_mem h]
/-- From place t on each operation waits for all before (by the table pt of what each waits for in the end). -/
def tailOk (pt : List (List Nat)) : List Oper → Nat → Bool
  | [], _ => true
  | o :: os, t => allB t (pre pt t) && (edges o).all (fun j => Nat.blt j t) && (match o.guard with | none => true | some _ => false) && tailOk pt os (t + 1)
theorem tailOk_at {pt : List (List Nat)} : ∀ {os : List Oper} {t : Nat}, tailOk pt os t = true → ∀ j o, os[j]? = some o → (∀ k, k < t + j → memB k (pre pt (t + j)) = true) ∧ (∀ k ∈ edges o, k < t + j) ∧ o.guard = none
  | [], _, _, j, o, hj => by simp at hj
  | o :: os, t, h, j, o', hj => by
    simp only [tailOk, Bool.and_eq_true] at h
    obtain ⟨⟨⟨h1, h2⟩, h3⟩, h4⟩ := h
    cases j with
    | zero =>
      simp only [List.getElem?_cons_zero, Option.some.injEq] at hj
      subst hj
      refine ⟨fun k hk => memB_of_mem (allB_mem h1 k (by omega)), fun k hk => ?_, ?_⟩
      · rw [List.all_eq_true] at h2
        exact blt_lt (h2 k hk)
      · cases hg : o.guard with
        | none => rfl
        | some g => rw [hg] at h3; cases h3
    | succ j =>
      rw [show t + (j + 1) = t + 1 + j by omega]
      exact tailOk_at h4 j o' (by simpa using hj)
def tailV (G : Gm) : List Oper → List Sv → Hp → (List Sv → Hp → Prop) → Prop
  | [], tm, hp, K => K tm hp
  | o :: os, tm, hp, K => opS G tm hp o fun tm hp => tailV G os tm hp K
def distinctD : List Oper → Bool
  | [] => true
  | o :: os => (match o.dst with | none => true | some d => !memB d (dstsOf os)) && distinctD os
theorem mem_dstsOf {o : Oper} {d : Nat} (hd : o.dst = some d) : ∀ {os : List Oper}, o ∈ os → d ∈ dstsOf os
  | x :: os, h => by
    simp only [dstsOf]
    rcases List.mem_cons.1 h with rfl | h
    · rw [hd]; simp
    · split
      · exact List.mem_cons_of_mem _ (mem_dstsOf hd h)
      · exact mem_dstsOf hd h
theorem distinctD_at : ∀ {os : List Oper}, distinctD os = true → ∀ (a b : Nat) (x y : Oper) (d : Nat), os[a]? = some x → os[b]? = some y → x.dst = some d → y.dst = some d → a = b
  | [], _, a, _, _, _, _, ha, _, _, _ => by simp at ha
  | o :: os, h, a, b, x, y, d, ha, hb, hx, hy => by
    simp only [distinctD, Bool.and_eq_true] at h
    cases a with
    | zero =>
      cases b with
      | zero => rfl
      | succ b =>
        simp only [List.getElem?_cons_zero, Option.some.injEq] at ha
        subst ha
        rw [hx] at h
        have := memB_of_mem (mem_dstsOf hy (List.mem_of_getElem? (by simpa using hb)))
        simp [this] at h
    | succ a =>
      cases b with
      | zero =>
        simp only [List.getElem?_cons_zero, Option.some.injEq] at hb
        subst hb
        rw [hy] at h
        have := memB_of_mem (mem_dstsOf hx (List.mem_of_getElem? (by simpa using ha)))
        simp [this] at h
      | succ b => rw [distinctD_at h.2 a b x y d (by simpa using ha) (by simpa using hb) hx hy]
def nEof (app asg : Bool) : List Oper → Nat
  | [] => 0
  | o :: os => match o.op with
    | .store _ _ _ => 0
    | .assign _ => match asg with
      | true => 0
      | false => nEof app asg os + 1
    | .call cl => match cl.callee with
      | .builtin .append => match app with
        | true => 0
        | false => nEof app asg os + 1
      | _ => nEof app asg os + 1
    | _ => nEof app asg os + 1
/-- Where the end begins that runs in its order: at the first store, append or assignment, if from there on each operation waits for all before; else at the first store. -/
def nEnd (pt : List (List Nat)) (ops : List Oper) : Nat :=
  match tailOk pt (ops.drop (nEof true true ops)) (nEof true true ops) with
  | true => nEof true true ops
  | false => match tailOk pt (ops.drop (nEof false true ops)) (nEof false true ops) with
    | true => nEof false true ops
    | false => nEof false false ops
theorem nEof_le (app asg : Bool) : ∀ ops : List Oper, nEof app asg ops ≤ ops.length
  | [] => Nat.le_refl _
  | o :: os => by
    have := nEof_le app asg os
    simp only [nEof, List.length_cons]
    repeat' split
    all_goals omega
theorem nEnd_le (pt : List (List Nat)) (ops : List Oper) : nEnd pt ops ≤ ops.length := by
  unfold nEnd
  repeat' split
  all_goals exact nEof_le _ _ _
def allK : List Ent → List Nat
  | [] => []
  | e :: T => e.kl ++ allK T
theorem memB_append {k : Nat} : ∀ {xs ys : List Nat}, memB k (xs ++ ys) = (memB k xs || memB k ys)
  | [], _ => rfl
  | x :: xs, ys => by simp [memB, memB_append, Bool.or_assoc]
theorem memB_allK {k : Nat} : ∀ {T : List Ent}, memB k (allK T) = true ↔ ∃ (i : Nat) (e : Ent), T[i]? = some e ∧ memB k e.kl = true
  | [] => by simp [allK, memB]
  | e :: T => by
    simp only [allK, memB_append, Bool.or_eq_true, memB_allK]
    constructor
    · rintro (h | ⟨i, e', h1, h2⟩)
      · exact ⟨0, e, rfl, h⟩
      · exact ⟨i + 1, e', by simpa using h1, h2⟩
    · rintro ⟨i, e', h1, h2⟩
      cases i with
      | zero => simp at h1; subst h1; exact .inl h2
      | succ i => exact .inr ⟨i, e', by simpa using h1, h2⟩

def drawK (G : Gm) (PT : List (List Nat)) (ops : List Oper) (nE : Nat) (ks : List (Nat × Nat)) (tm : List Sv) (hp : Hp) (K : List Sv → Hp → Prop) : Prop :=
  Need (distinctD (ops.take nE) = true) <| Need (tailOk PT (ops.drop nE) nE = true) <|
  preTabK (ops.take nE) [] fun pt => drawE G tm hp (dstsOf (ops.take nE)) ks pt (ops.take nE) 0 [] fun T =>
    hpK (rawH (fun _ => true) T hp) fun raw => bitsK (avG (fun k => memB k (allK T)) 0 raw) fun avl => hpK (onlyH (bAt avl) 0 raw) fun hpF =>
    rowK (rawT T (fun _ => true) (bAt avl) (fun _ => true) (dstsOf (ops.take nE)) 0 tm) fun tmF => tailV G (ops.drop nE) tmF hpF K
/-- A region that draws: ks: which operation (by its number) takes which block (by its number) away. -/
inductive DrawV (G : Gm) (ops : List Oper) (tm : List Sv) (hp : Hp) (K : List Sv → Hp → Prop) : Prop
  | mk (ks : List (Nat × Nat)) : (preTabK ops [] fun PT => litK (nEnd PT ops) fun nE => drawK G PT ops nE ks tm hp K) → DrawV G ops tm hp K
end Go.Eng
