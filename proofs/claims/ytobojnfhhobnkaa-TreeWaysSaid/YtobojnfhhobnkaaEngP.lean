/- The engine, part P: one operation of a region that draws, in any state between. -/
import Derived.Test.YtobojnfhhobnkaaEngN
set_option linter.unusedSimpArgs false
set_option maxRecDepth 20000
set_option linter.unusedVariables false
namespace Go.Eng
open Go Go.RowKit

theorem extH_congr {p q : Nat → Bool} : ∀ (T : List Ent) (m : Nat), (∀ j, j < T.length → p (m + j) = q (m + j)) → extH p T m = extH q T m
  | [], _, _ => rfl
  | e :: T, m, h => by
    have h1 : p m = q m := h 0 (by simp)
    have h2 := extH_congr (p := p) (q := q) T (m + 1) (fun j hj => by
      rw [show m + 1 + j = m + (j + 1) by omega]
      exact h (j + 1) (by simpa using hj))
    simp only [extH, h1, h2]

theorem rawH_length (p q : Nat → Bool) (T : List Ent) (hp : Hp) : (rawH p T hp).length = (rawH q T hp).length := by simp [rawH, extH_length p q T]

theorem rawH_split {T : List Ent} {i : Nat} {e : Ent} (he : T[i]? = some e) (X : Nat → Bool) (hp : Hp) :
    rawH X T hp = rawH X (T.take i) hp ++ (e.nb.map (fun b => match X i with | true => some b | false => none) ++ extH X (T.drop (i + 1)) (i + 1)) := by
  obtain ⟨hlt, rfl⟩ := List.getElem?_eq_some_iff.1 he
  have hT : T = T.take i ++ T[i] :: T.drop (i + 1) := by rw [← List.drop_eq_getElem_cons hlt, List.take_append_drop]
  have hl : (T.take i).length = i := by simp; omega
  unfold rawH
  conv => lhs; rw [hT]
  rw [extH_append, List.append_assoc, hl, Nat.zero_add]
  rfl

section
variable {T : List Ent} {i : Nat} {e : Ent} {X X' : Nat → Bool} {hp : Hp}

theorem rawH_new (he : T[i]? = some e) (hX : X i = true) {p : Nat → Bool} {j : Nat} {b : Blk} (hj : e.nb[j]? = some b) : (rawH X T hp)[(rawH p (T.take i) hp).length + j]? = some (some b) := by
  rw [rawH_split he, rawH_length p X, List.getElem?_append_right (by omega), Nat.add_sub_cancel_left]
  have := (List.getElem?_eq_some_iff.1 hj).1
  rw [List.getElem?_append_left (by simpa using this)]
  simp [hX, hj]
theorem rawH_not (he : T[i]? = some e) (hX : X i = false) {p : Nat → Bool} {j : Nat} (hj : j < e.nb.length) : (rawH X T hp)[(rawH p (T.take i) hp).length + j]? = some none := by
  rw [rawH_split he, rawH_length p X, List.getElem?_append_right (by omega), Nat.add_sub_cancel_left]
  rw [List.getElem?_append_left (by simpa using hj)]
  simp [hX, hj]
theorem rawH_old (he : T[i]? = some e) (h : ∀ m, m ≠ i → X' m = X m) {p : Nat → Bool} {k : Nat} (hk : k < (rawH p (T.take i) hp).length ∨ (rawH p (T.take i) hp).length + e.nb.length ≤ k) : (rawH X' T hp)[k]? = (rawH X T hp)[k]? := by
  have hlt := (List.getElem?_eq_some_iff.1 he).1
  have h1 : rawH X' (T.take i) hp = rawH X (T.take i) hp := by
    unfold rawH
    rw [extH_congr (q := X) (T.take i) 0 fun j hj => h _ (by simp at hj; omega)]
  have h2 : extH X' (T.drop (i + 1)) (i + 1) = extH X (T.drop (i + 1)) (i + 1) := extH_congr _ _ fun j _ => h _ (by omega)
  rw [rawH_split he, rawH_split (X := X) he, h1, h2]
  rw [rawH_length p X] at hk
  rcases hk with hk | hk
  · rw [List.getElem?_append_left hk, List.getElem?_append_left hk]
  · have key : ∀ (A B C : Hp), A.length + B.length ≤ k → (A ++ (B ++ C))[k]? = C[k - A.length - B.length]? := fun A B C hk => by
      rw [List.getElem?_append_right (by omega), List.getElem?_append_right (by omega)]
    rw [key _ _ _ (by rw [List.length_map]; exact hk), key _ _ _ (by rw [List.length_map]; exact hk), List.length_map, List.length_map]
theorem killX_step (he : T[i]? = some e) (h : ∀ m, m ≠ i → X' m = X m) (hX : X i = false) (hX' : X' i = true) (k : Nat) : killX X' T 0 k = true ↔ killX X T 0 k = true ∨ memB k e.kl = true := by
  rw [killX_iff, killX_iff]
  constructor
  · rintro ⟨j, e', h1, h2, h3⟩
    rw [Nat.zero_add] at h2
    by_cases hj : j = i
    · subst hj; rw [he] at h1; cases h1; exact .inr h3
    · exact .inl ⟨j, e', h1, by rw [Nat.zero_add, ← h j hj]; exact h2, h3⟩
  · rintro (⟨j, e', h1, h2, h3⟩ | h3)
    · rw [Nat.zero_add] at h2
      refine ⟨j, e', h1, ?_, h3⟩
      rw [Nat.zero_add]
      by_cases hj : j = i
      · subst hj; exact hX'
      · rw [h j hj]; exact h2
    · exact ⟨i, e, he, by rw [Nat.zero_add]; exact hX', h3⟩
end

theorem evO_rel {tm : List Sv} {c : Cx} {a : Act} (h : ∀ t, Rel (tmGet tm t) c (a.tmps.getD t undef)) (x : Operand) : Rel (evO tm x) c (a.eval x) := by
  cases x with
  | tmp t => exact h t
  | const v => simp [evO, Act.eval, Rel]
  | global g => simp [evO, Act.eval, Rel]
  | func f => simp only [evO, Act.eval, Rel]; exact ⟨[], rfl, by simp [RelT]⟩

theorem put_getD (a : Act) (d : Option Nat) (v : Value) (t : Nat) : (a.put d v).tmps.getD t undef = if d = some t ∧ t < a.tmps.size then v else a.tmps.getD t undef := by
  cases d with
  | none => simp [Act.put]
  | some x =>
    simp only [Act.put, Array.getD_eq_getD_getElem?, Option.some.injEq]
    rw [Array.getElem?_setIfInBounds]
    by_cases hx : x = t
    · subst hx
      by_cases hs : x < a.tmps.size
      · simp [hs]
      · simp [hs]
    · simp [hx]
theorem put_size (a : Act) (d : Option Nat) (v : Value) : (a.put d v).tmps.size = a.tmps.size := by cases d <;> simp [Act.put]
theorem put_defers (a : Act) (d : Option Nat) (v : Value) : (a.put d v).defers = a.defers := by cases d <;> rfl

section
variable {P : Program} {w0 : World} {M : Frm} {T : List Ent} {hp0 : Hp} {tm0 : List Sv} {ds : List Nat} {X X' : Nat → Bool} {c : Cx} {a : Act} {dfs : List Deferred}

theorem Mid.step (hM : Mid w0 M T hp0 tm0 ds X c a dfs) {i : Nat} {e : Ent} {o : Oper} (he : T[i]? = some e) (hXi : X i = false) (hX'i : X' i = true) (hX'o : ∀ m, m ≠ i → X' m = X m)
    (hu : ∀ (a b : Nat) (x y : Ent) (d : Nat), T[a]? = some x → T[b]? = some y → x.dst = some d → y.dst = some d → a = b) (hcov : ∀ e ∈ T, ∀ t, e.dst = some t → memB t ds = true)
    {pre fb : List Nat} {nd : Nat → Bool} (hpre : ∀ m, memB m pre = true → X m = true) (hfb : ∀ k, killX X T 0 k = true → memB k fb = true) (hd : e.dst = o.dst) (hdt : ∀ t, o.dst = some t → t < tm0.length)
    {raw : Hp} {av : Nat → Bool} (hraw : raw = rawH (fun m => memB m pre) (T.take i) hp0) (hav : av = bAt (avG (fun k => memB k fb) 0 raw))
    (hE : EStep P o (rawT (T.take i) (fun m => memB m pre) av nd ds 0 tm0) (onlyH av 0 raw) e.s e.nb e.kl)
    {F : Fence} {n : Nat} (hF : Open F) {next : Act → World → Prop} {Q : Exit → Act → World → Prop} (hn : ∀ a' c', Mid w0 M T hp0 tm0 ds X' c' a' dfs → next a' c'.w) : o.wpIn F n P a c.w next Q := by
  have hpX : ∀ m, (fun m => memB m pre) m = true → X m = true := hpre
  -- what is at hand for the operation is at hand
  have avi : ∀ k, av k = true ↔ (∃ b, raw[k]? = some (some b)) ∧ memB k fb = false := fun k => by rw [hav, avG_iff, Nat.zero_add]
  have hle : ∀ k, av k = true → avX T hp0 X k = true := fun k hk => by
    obtain ⟨⟨b, hb⟩, hf⟩ := (avi k).1 hk
    rw [avX_iff]
    refine ⟨⟨b, rawH_take hpX (hraw ▸ hb)⟩, ?_⟩
    cases h : killX X T 0 k with
    | true => rw [hfb k h] at hf; cases hf
    | false => rfl
  have hle' : ∀ k, crX T hp0 X k = true → av k = true → avX T hp0 X k = true := fun k _ => hle k
  let ci : Cx := { c with D := fun k => av k = true }
  have hLe : c.Le av ci := ⟨fun k hk _ => ⟨hk, rfl⟩, fun _ h => h, fun _ _ h => h, fun _ _ => rfl⟩
  have hInv : Inv w0 M ci (onlyH av 0 raw) := by
    refine { hM.inv with dom := ?_, inj := ?_, xsep := ?_, e0 := fun k hk hv => hM.inv.e0 k hk ((hM.dom k).2 (hle k hv)), mlen := by rw [onlyH_length, hraw]; unfold rawH; rw [List.length_append]; have := hM.mm; omega, loc := ?_, cc := fun b hb => ⟨(hM.inv.cc b hb).1, fun k hk => (hM.inv.cc b hb).2.1 k ((hM.dom k).2 (hle k hk)), (hM.inv.cc b hb).2.2⟩, gh := ?_ }
    · intro k hk
      obtain ⟨⟨b, hb⟩, hf⟩ := (avi k).1 hk
      have hbX := rawH_take hpX (T := T) (i := i) (hraw ▸ hb)
      obtain ⟨b1, h1, r⟩ := hM.inv.dom k ((hM.dom k).2 (hle k hk))
      rw [onlyH_get] at h1
      obtain ⟨b2, h2, _, rfl⟩ := h1
      rw [hbX] at h2
      cases h2
      refine ⟨b.only av, (onlyH_get _ _ _ _ _).2 ⟨b, hb, by rw [Nat.zero_add]; exact hk, rfl⟩, ?_⟩
      have r := r.only av
      rw [Blk.only_only hle' b (hM.idH k b hbX)] at r
      exact r.le hLe rfl (fun _ => rfl) (fun h => Blk.only_rows _ _ h)
    · exact fun k k' hk hk' => hM.inv.inj k k' ((hM.dom k).2 (hle k hk)) ((hM.dom k').2 (hle k' hk'))
    · exact fun k b hk => hM.inv.xsep k b ((hM.dom k).2 (hle k hk))
    · exact fun k hk => hM.inv.loc k ((hM.dom k).2 (hle k hk))
    · intro k blk hk hb hn hg
      rw [onlyH_get] at hb
      obtain ⟨b, hb, _, rfl⟩ := hb
      have hbX := rawH_take hpX (T := T) (i := i) (hraw ▸ hb)
      obtain ⟨b1, h1, r⟩ := hM.inv.dom k ((hM.dom k).2 (hle k hk))
      have h1' := h1
      rw [onlyH_get] at h1
      obtain ⟨b2, h2, _, rfl⟩ := h1
      rw [hbX] at h2
      cases h2
      rw [Blk.only_grow] at hg
      rw [r.only_ghost hn hg]
      rw [r.only_ghost hn hg] at h1'
      exact hM.inv.gh k b ((hM.dom k).2 (hle k hk)) h1' hn hg
  have hslot : ∀ t, Rel (tmGet (rawT (T.take i) (fun m => memB m pre) av nd ds 0 tm0) t) ci (a.tmps.getD t undef) := fun t => by
    rcases tmGet_rawT (T.take i) (fun m => memB m pre) av nd ds 0 tm0 t with h | ⟨_, h⟩
    · rw [h]; trivial
    · rw [h, Nat.zero_add]
      have hr := hM.rel t
      unfold sAt at hr ⊢
      cases hs : slotE (T.take i) 0 t with
      | some r =>
        obtain ⟨j, s'⟩ := r
        simp only
        cases hp : memB j pre with
        | false => trivial
        | true =>
          rw [slotE_take hs] at hr
          simp only [hpre j hp] at hr
          obtain ⟨j', e', hj', he', _, rfl⟩ := slotE_some (slotE_take hs)
          rw [Nat.zero_add] at hj'
          subst hj'
          have := Rel.only av _ hr
          rw [only_only hle' _ (hM.idE j e' he' (hpre j hp))] at this
          exact Rel.le _ (only_all _ _) hLe this
      | none =>
        simp only
        cases hm : memB t ds with
        | true => trivial
        | false =>
          have hs2 : slotE T 0 t = none := by
            cases h2 : slotE T 0 t with
            | none => rfl
            | some r =>
              obtain ⟨j, s'⟩ := r
              obtain ⟨j', e', _, he', hdj, _⟩ := slotE_some h2
              rw [hcov e' (List.mem_of_getElem? he') t hdj] at hm
              cases hm
          rw [hs2] at hr
          simp only [hm] at hr
          have := Rel.only av _ hr
          rw [only_only hle' _ (hM.idT t)] at this
          exact Rel.le _ (only_all _ _) hLe this
  refine hE F n w0 M ci a next Q hF hInv (fun x _ => evO_rel hslot x) fun v c' hp' hr => ?_
  -- the state behind it
  have hbase : (onlyH av 0 raw).length = (rawH (fun m => memB m pre) (T.take i) hp0).length := by rw [onlyH_length, hraw]
  generalize hB : (rawH (fun m => memB m pre) (T.take i) hp0).length = B at hbase
  have new' : ∀ {j : Nat} {b : Blk}, e.nb[j]? = some b → (rawH X' T hp0)[B + j]? = some (some b) := fun hj => hB ▸ rawH_new he hX'i hj
  have notN : ∀ {k : Nat}, B ≤ k → k < B + e.nb.length → (rawH X T hp0)[k]? = some none := fun {k} h1 h2 => by
    have := rawH_not (hp := hp0) he hXi (p := fun m => memB m pre) (j := k - B) (by omega)
    rwa [hB, show B + (k - B) = k by omega] at this
  have old : ∀ {k : Nat}, (k < B ∨ B + e.nb.length ≤ k) → (rawH X' T hp0)[k]? = (rawH X T hp0)[k]? := fun hk => rawH_old (p := fun m => memB m pre) he hX'o (by rw [hB]; exact hk)
  have kill' := killX_step he hX'o hXi hX'i
  let av' : Nat → Bool := avX T hp0 X'
  have oldAv : ∀ k, av' k = true → (k < B ∨ B + e.nb.length ≤ k) → avX T hp0 X k = true ∧ memB k e.kl = false := fun k hk ho => by
    obtain ⟨⟨b, hb⟩, hf⟩ := avX_iff.1 hk
    rw [old ho] at hb
    have hnk : ¬ (killX X T 0 k = true ∨ memB k e.kl = true) := fun h => by rw [(kill' k).2 h] at hf; cases hf
    refine ⟨avX_iff.2 ⟨⟨b, hb⟩, ?_⟩, ?_⟩
    · cases h : killX X T 0 k with
      | true => exact absurd (.inl h) hnk
      | false => rfl
    · cases h : memB k e.kl with
      | true => exact absurd (.inr h) hnk
      | false => rfl
  have inX : ∀ k, avX T hp0 X k = true → k < B ∨ B + e.nb.length ≤ k := fun k hk => by
    obtain ⟨⟨b, hb⟩, _⟩ := avX_iff.1 hk
    rcases Nat.lt_or_ge k B with h | h
    · exact .inl h
    · rcases Nat.lt_or_ge k (B + e.nb.length) with h2 | h2
      · rw [notN h h2] at hb; cases hb
      · exact .inr h2
  have cr : ∀ k, crX T hp0 X k = true → av' k = true → avX T hp0 X k = true := fun k hk hv => by
    rcases Nat.lt_or_ge k B with h | h
    · exact (oldAv k hv (.inl h)).1
    · rcases Nat.lt_or_ge k (B + e.nb.length) with h2 | h2
      · rcases crX_iff.1 hk with h3 | ⟨b, hb⟩
        · have : hp0.length ≤ B := by rw [← hB]; simp [rawH]
          omega
        · rw [notN h h2] at hb; cases hb
      · exact (oldAv k hv (.inr h2)).1
  have crMono : ∀ k, crX T hp0 X k = true → crX T hp0 X' k = true := fun k hk => by
    rcases crX_iff.1 hk with h | ⟨b, hb⟩
    · exact crX_iff.2 (.inl h)
    · refine crX_iff.2 (.inr ?_)
      rcases Nat.lt_or_ge k B with h | h
      · exact ⟨b, by rw [old (.inl h)]; exact hb⟩
      · rcases Nat.lt_or_ge k (B + e.nb.length) with h2 | h2
        · rw [notN h h2] at hb; cases hb
        · exact ⟨b, by rw [old (.inr h2)]; exact hb⟩
  have aviB : ∀ k, av k = true → k < B := fun k hk => by
    obtain ⟨⟨b, hb⟩, _⟩ := (avi k).1 hk
    have := (List.getElem?_eq_some_iff.1 hb).1
    rw [hraw, hB] at this
    exact this
  have domN : ∀ k, c'.D k ↔ (av k = true ∧ memB k e.kl = false) ∨ (B ≤ k ∧ k < B + e.nb.length) := fun k => by
    have := hp'.dom k
    rw [hbase] at this
    exact this
  have crN : ∀ k, c'.D k → crX T hp0 X' k = true := fun k hk => by
    rcases (domN k).1 hk with ⟨h, _⟩ | ⟨h1, h2⟩
    · refine crMono k (crX_iff.2 (.inr ?_))
      obtain ⟨⟨b, hb⟩, _⟩ := avX_iff.1 (hle k h)
      exact ⟨b, hb⟩
    · refine crX_iff.2 (.inr ⟨e.nb[k - B]'(by omega), ?_⟩)
      have := new' (j := k - B) (List.getElem?_eq_getElem (by omega))
      rwa [show B + (k - B) = k by omega] at this
  let c2 : Cx := { E := fun k => if B ≤ k ∧ k < B + e.nb.length then c'.E k else c.E k, D := fun k => av' k = true, X := c'.X, G := c'.G, w := c'.w, A := c.A, C := c.C, Z := c.Z }
  have EN : ∀ k, B ≤ k → k < B + e.nb.length → c2.E k = c'.E k := fun k h1 h2 => if_pos ⟨h1, h2⟩
  have EO : ∀ k, (k < B ∨ B + e.nb.length ≤ k) → c2.E k = c.E k := fun k h => if_neg (by omega)
  have LeNew : c'.Le av' c2 := by
    refine ⟨fun k hk hd => ⟨hk, ?_⟩, fun _ h => h, fun _ _ h => h, fun _ _ => rfl⟩
    rcases (domN k).1 hd with ⟨h, hm⟩ | ⟨h1, h2⟩
    · rw [EO k (.inl (aviB k h))]
      exact (hp'.le.ed k (by simp [hm]) h).2.symm
    · exact EN k h1 h2
  have LeOld : c.Le av' c2 := by
    refine ⟨fun k hk hd => ⟨hk, EO k (inX k ((hM.dom k).1 hd))⟩, fun b hb => hp'.le.x b hb, hp'.le.b, fun b hb => hp'.le.heap b hb⟩
  have loc0 : ∀ k, c.D k → (c.E k).nil = false → (c.E k).b < c.w.heap.size := fun k hk hnil => let ⟨_, _, r⟩ := hM.inv.dom k hk; r.lt hnil
  have keepO : ∀ k, avX T hp0 X k = true → memB k e.kl = false → (c.E k).nil = false → c'.w.heap[(c.E k).b]? = c.w.heap[(c.E k).b]? := fun k hk hm hnil => by
    have hk' := (hM.dom k).2 hk
    refine hp'.keep _ (loc0 k hk' hnil) fun k0 hd0 hm0 hn0 heq => ?_
    refine hM.inv.inj k0 k ((hM.dom k0).2 (hle k0 hd0)) hk' (fun e => ?_) hn0 hnil heq
    subst e
    rw [hm] at hm0
    cases hm0
  have hq2 : c.Cq c2 := ⟨rfl, rfl, rfl, (hp'.cq hInv).hb⟩
  refine hn _ c2 ?_
  have hT2 : ∀ t, Rel (sAt T X' av' ds t (tmGet tm0 t)) c2 ((a.put o.dst v).tmps.getD t undef) := fun t => by
    by_cases ht : o.dst = some t
    · have hts : t < a.tmps.size := by rw [hM.size]; exact hdt t ht
      rw [put_getD, if_pos ⟨ht, hts⟩]
      unfold sAt
      rw [slotE_at hu he (hd.trans ht)]
      simp only [hX'i]
      exact Rel.le _ (only_all _ _) LeNew (Rel.only _ _ hr)
    · rw [put_getD, if_neg (fun h => ht h.1)]
      have h0 := hM.rel t
      unfold sAt at h0 ⊢
      cases hs : slotE T 0 t with
      | some r =>
        obtain ⟨j, s'⟩ := r
        rw [hs] at h0
        simp only at h0 ⊢
        obtain ⟨j', e', hj', he', hdj, hs'⟩ := slotE_some hs
        rw [Nat.zero_add] at hj'
        subst hj'
        have hji : j ≠ i := fun e1 => by
          subst e1
          rw [he] at he'
          cases he'
          exact ht (hd.symm.trans hdj)
        rw [hX'o j hji]
        cases hXj : X j with
        | false => trivial
        | true =>
          rw [hXj] at h0
          subst hs'
          have := Rel.only av' _ h0
          rw [only_only cr _ (hM.idE j e' he' hXj)] at this
          exact Rel.le _ (only_all _ _) LeOld this
      | none =>
        rw [hs] at h0
        simp only at h0 ⊢
        cases hm : memB t ds with
        | true => trivial
        | false =>
          rw [hm] at h0
          have := Rel.only av' _ h0
          rw [only_only cr _ (hM.idT t)] at this
          exact Rel.le _ (only_all _ _) LeOld this
  refine { inv := ?_, mm := hM.mm, dom := fun k => Iff.rfl, rel := hT2, size := by rw [put_size]; exact hM.size, dfs := by rw [put_defers]; exact hM.dfs.cq hq2, idT := fun t => ?_, idH := fun k b hb hc => ?_, idE := fun j e' he' hj => ?_ }
  · have hnewB : ∀ k, B ≤ k → k < B + e.nb.length → ∃ b, (rawH X' T hp0)[k]? = some (some b) ∧ BlkRel c' k b := fun k h1 h2 => by
      obtain ⟨b, hb, r⟩ := hp'.inv.dom k ((domN k).2 (.inr ⟨h1, h2⟩))
      rw [List.getElem?_append_right (by rw [kill_length, hbase]; exact h1), kill_length, hbase] at hb
      have hj : k - B < e.nb.length := by omega
      rw [List.getElem?_map, List.getElem?_eq_getElem hj] at hb
      simp only [Option.map_some, Option.some.injEq] at hb
      subst hb
      refine ⟨_, ?_, r⟩
      have := new' (j := k - B) (List.getElem?_eq_getElem hj)
      rwa [show B + (k - B) = k by omega] at this
    have hcase : ∀ k, (B ≤ k ∧ k < B + e.nb.length) ∨ (k < B ∨ B + e.nb.length ≤ k) := fun k => by omega
    refine { dom := ?_, inj := ?_, xsep := ?_, xlt := hp'.inv.xlt, xY := hp'.inv.xY, bnd := hp'.inv.bnd, bndG := hp'.inv.bndG, e0 := ?_, mlen := ?_, os := hp'.inv.os, tape := hp'.inv.tape, output := hp'.inv.output, size := hp'.inv.size, keep := hp'.inv.keep, loc := ?_, x0 := hp'.inv.x0, xk := hp'.inv.xk, z0 := fun b hb => by have := hp'.inv.z0 b hb; rw [hp'.cZ] at this; exact this, ca := ?_, cc := ?_, gh := ?_, zc := fun b hb => by have := hp'.inv.zc b (by rw [hp'.cZ]; exact hb); rw [hp'.cC, hp'.cA] at this; exact this }
    · intro k hk
      rcases hcase k with ⟨h1, h2⟩ | ho
      · obtain ⟨b, hb, r⟩ := hnewB k h1 h2
        refine ⟨b.only av', (onlyH_get _ _ _ _ _).2 ⟨b, hb, by rw [Nat.zero_add]; exact hk, rfl⟩, ?_⟩
        refine (r.only av').le LeNew (EN k h1 h2) (fun _ => rfl) (fun h => Blk.only_rows _ _ h)
      · obtain ⟨hX, hm⟩ := oldAv k hk ho
        obtain ⟨b1, h1, r⟩ := hM.inv.dom k ((hM.dom k).2 hX)
        rw [onlyH_get] at h1
        obtain ⟨b, hb, _, rfl⟩ := h1
        refine ⟨b.only av', (onlyH_get _ _ _ _ _).2 ⟨b, by rw [old ho]; exact hb, by rw [Nat.zero_add]; exact hk, rfl⟩, ?_⟩
        have r := r.only av'
        rw [Blk.only_only cr b (hM.idH k b hb)] at r
        exact r.le LeOld (EO k ho) (fun hnil => keepO k hX hm hnil) (fun h => Blk.only_rows _ _ h)
    · intro k k' hk hk' hne h1 h2
      rcases hcase k with ⟨g1, g2⟩ | ho <;> rcases hcase k' with ⟨g1', g2'⟩ | ho'
      · rw [EN k g1 g2] at h1 ⊢
        rw [EN k' g1' g2'] at h2 ⊢
        exact hp'.inv.inj k k' ((domN k).2 (.inr ⟨g1, g2⟩)) ((domN k').2 (.inr ⟨g1', g2'⟩)) hne h1 h2
      · rw [EN k g1 g2] at h1 ⊢
        rw [EO k' ho'] at h2 ⊢
        obtain ⟨hX, hm⟩ := oldAv k' hk' ho'
        have hk2 := (hM.dom k').2 hX
        rcases hp'.fresh k (by rw [hbase]; exact g1) ((domN k).2 (.inr ⟨g1, g2⟩)) h1 with h3 | ⟨k0, hd0, hm0, hn0, heq⟩
        · have := loc0 k' hk2 h2
          have h3 : c.w.heap.size ≤ (c'.E k).b := h3
          omega
        · rw [← heq]
          refine hM.inv.inj k0 k' ((hM.dom k0).2 (hle k0 hd0)) hk2 (fun e => ?_) hn0 h2
          subst e; rw [hm] at hm0; cases hm0
      · rw [EO k ho] at h1 ⊢
        rw [EN k' g1' g2'] at h2 ⊢
        obtain ⟨hX, hm⟩ := oldAv k hk ho
        have hk2 := (hM.dom k).2 hX
        rcases hp'.fresh k' (by rw [hbase]; exact g1') ((domN k').2 (.inr ⟨g1', g2'⟩)) h2 with h3 | ⟨k0, hd0, hm0, hn0, heq⟩
        · have := loc0 k hk2 h1
          have h3 : c.w.heap.size ≤ (c'.E k').b := h3
          omega
        · rw [← heq]
          intro e1
          refine hM.inv.inj k0 k ((hM.dom k0).2 (hle k0 hd0)) hk2 (fun e => ?_) hn0 h1 e1.symm
          subst e; rw [hm] at hm0; cases hm0
      · rw [EO k ho] at h1 ⊢
        rw [EO k' ho'] at h2 ⊢
        exact hM.inv.inj k k' ((hM.dom k).2 (oldAv k hk ho).1) ((hM.dom k').2 (oldAv k' hk' ho').1) hne h1 h2
    · intro k b hk h1 hx
      rcases hcase k with ⟨g1, g2⟩ | ho
      · rw [EN k g1 g2] at h1 ⊢
        exact hp'.inv.xsep k b ((domN k).2 (.inr ⟨g1, g2⟩)) h1 hx
      · rw [EO k ho] at h1 ⊢
        have hk2 := (hM.dom k).2 (oldAv k hk ho).1
        rcases hp'.xdom b hx with h3 | h3
        · exact hM.inv.xsep k b hk2 h1 h3
        · have := loc0 k hk2 h1
          have h3 : c.w.heap.size ≤ b := h3
          omega
    · intro k hk hv
      rcases hcase k with ⟨g1, g2⟩ | ho
      · rw [EN k g1 g2]
        exact hp'.inv.e0 k hk ((domN k).2 (.inr ⟨g1, g2⟩))
      · rw [EO k ho]
        exact hM.inv.e0 k hk ((hM.dom k).2 (oldAv k hv ho).1)
    · have := hM.inv.mlen
      rw [onlyH_length] at this ⊢
      rw [rawH_length X' X]
      exact this
    · intro k hk h1
      rcases hcase k with ⟨g1, g2⟩ | ho
      · rw [EN k g1 g2] at h1 ⊢
        exact hp'.inv.loc k ((domN k).2 (.inr ⟨g1, g2⟩)) h1
      · rw [EO k ho] at h1 ⊢
        exact hM.inv.loc k ((hM.dom k).2 (oldAv k hk ho).1) h1
    · intro b hb
      have := hp'.inv.ca b (by rw [hp'.cA]; exact hb)
      rw [hp'.cC] at this
      exact this
    · intro b hb
      obtain ⟨g1, _, g3⟩ := hp'.inv.cc b (by rw [hp'.cC]; exact hb)
      refine ⟨g1, fun k hk h1 => ?_, g3⟩
      rcases hcase k with ⟨f1, f2⟩ | ho
      · rw [EN k f1 f2] at h1 ⊢
        rcases hp'.fresh k (by rw [hbase]; exact f1) ((domN k).2 (.inr ⟨f1, f2⟩)) h1 with h3 | ⟨k0, hd0, hm0, hn0, heq⟩
        · have := (hM.inv.cc b hb).1
          have h3 : c.w.heap.size ≤ (c'.E k).b := h3
          omega
        · rw [← heq]
          exact (hM.inv.cc b hb).2.1 k0 ((hM.dom k0).2 (hle k0 hd0)) hn0
      · rw [EO k ho] at h1 ⊢
        exact (hM.inv.cc b hb).2.1 k ((hM.dom k).2 (oldAv k hk ho).1) h1
    · intro k blk hk hb h1 hg
      rcases hcase k with ⟨f1, f2⟩ | ho
      · rw [EN k f1 f2] at h1
        rw [onlyH_get] at hb
        obtain ⟨b, hb, _, rfl⟩ := hb
        rw [Blk.only_grow] at hg
        have hj := new' (j := k - B) (List.getElem?_eq_getElem (show k - B < e.nb.length by omega))
        rw [show B + (k - B) = k by omega, hb] at hj
        injection hj with hj
        injection hj with hj
        have := hp'.nnil (k - B) _ (List.getElem?_eq_getElem (show k - B < e.nb.length by omega)) (by rw [hbase, show B + (k - B) = k by omega]; exact h1)
        rw [← hj, hg] at this
        cases this
      · rw [EO k ho] at h1
        obtain ⟨hX, hm⟩ := oldAv k hk ho
        rw [onlyH_get] at hb
        obtain ⟨b, hb, _, rfl⟩ := hb
        rw [old ho] at hb
        obtain ⟨b1, e1, r⟩ := hM.inv.dom k ((hM.dom k).2 hX)
        have e1' := e1
        rw [onlyH_get] at e1
        obtain ⟨b2, h2, _, rfl⟩ := e1
        rw [hb] at h2
        cases h2
        rw [Blk.only_grow] at hg
        rw [r.only_ghost h1 hg] at e1'
        rw [r.only_ghost h1 hg]
        exact hM.inv.ghs (w' := c'.w) ⟨hp'.inv.os.trans hM.inv.os.symm, hp'.inv.tape.trans hM.inv.tape.symm, hp'.inv.output.trans hM.inv.output.symm, hp'.size, (hp'.cq hInv).hb⟩ ((hM.dom k).2 hX) e1' h1 hg
  · exact all_mono crMono _ (hM.idT t)
  · rcases Nat.lt_or_ge k B with h | h
    · rw [old (.inl h)] at hb
      exact allR_mono crMono _ (hM.idH k b hb hc)
    · rcases Nat.lt_or_ge k (B + e.nb.length) with h2 | h2
      · obtain ⟨b', hb', r⟩ := hp'.inv.dom k ((domN k).2 (.inr ⟨h, h2⟩))
        rw [List.getElem?_append_right (by rw [kill_length, hbase]; exact h), kill_length, hbase] at hb'
        have hj : k - B < e.nb.length := by omega
        rw [List.getElem?_map, List.getElem?_eq_getElem hj] at hb'
        simp only [Option.map_some, Option.some.injEq] at hb'
        subst hb'
        have := new' (j := k - B) (List.getElem?_eq_getElem hj)
        rw [show B + (k - B) = k by omega, hb] at this
        cases this
        exact r.ids crN hc
      · rw [old (.inr h2)] at hb
        exact allR_mono crMono _ (hM.idH k b hb hc)
  · by_cases hji : j = i
    · subst hji
      rw [he] at he'
      cases he'
      exact Rel.ids _ crN hr
    · rw [hX'o j hji] at hj
      exact all_mono crMono _ (hM.idE j e' he' hj)
end
end Go.Eng
