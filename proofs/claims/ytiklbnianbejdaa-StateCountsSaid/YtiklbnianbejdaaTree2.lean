/- tree.New, given slices.Sort. -/
import Derived.Test.YtiklbnianbejdaaTree1
import Derived.Test.YtiklbnianbejdaaEng6
set_option linter.unusedSimpArgs false
set_option maxRecDepth 20000
set_option linter.unusedVariables false
/- tree.New: its lists, opened and closed. -/
namespace Go.Proofs.Ytiklbnianbejdaa
open Go Go.Eng Go.RowKit

theorem rowsK_of {l : List (List Sv)} {K : List (List Sv) → Prop} (h : K l) : rowsK l K := by rw [rowsK_eq]; exact h
abbrev nearB (cl : Bool) (rows : List (List Sv)) : Blk := ⟨22, 1, cl, true, rows⟩
abbrev treeB (n : Nat) : Blk := ⟨76, 2, false, false, [[.own 0 n, .own 1 n]]⟩
abbrev nsB (G : List (Option (Value × List Int))) : Blk := ⟨0, 0, true, false, nsRows G⟩
def nwG (vs : List Value) (L : List (List Int)) : List (Option (Value × List Int)) := List.zipWith (fun x l => some (x, l)) vs L
def valR (vs : List Value) : List (List Sv) := vs.map fun x => [.val x]
def opR (vs : List Value) (i p a b : Nat) : List (List Sv) := ((valR vs).set i [.own 4 a]).set p [.own 5 b]
def addE (L : List (List Int)) (i : Nat) (x : Int) : List (List Int) := L.set i (L.getD i [] ++ [x])
/-- The lists behind i nodes. -/
def nwL (ps : List Int) : Nat → List (List Int)
  | 0 => List.replicate ps.length []
  | i + 1 => if ps.getD i 0 < 0 then nwL ps i else addE (addE (nwL ps i) i (ps.getD i 0)) (ps.getD i 0).toNat i
def closedH (ps : List Int) (cl : Bool) (vs : List Value) (L : List (List Int)) : Hp := [some (intB ps), some (nearB cl (valR vs)), some (treeB ps.length), some (nsB (nwG vs L))]
def openH (ps : List Int) (vs : List Value) (L : List (List Int)) (i p : Nat) : Hp :=
  [some (intB ps), some (nearB false (opR vs i p (L.getD i []).length (L.getD p []).length)), some (treeB ps.length), some (nsB (((nwG vs L).set i none).set p none)), some (intB (L.getD i [])), some (intB (L.getD p []))]
def headH (ps : List Int) (cl : Bool) (vs : List Value) (i : Nat) : Hp := if i < ps.length ∧ 0 ≤ ps.getD i 0 then openH ps vs (nwL ps i) i (ps.getD i 0).toNat else closedH ps cl vs (nwL ps i)
def nwSpec (f : Bool) (ps : List Int) (i : Nat) : List (Nat × Sv) := [(6, .ptr 2 0 0), (26, intX f ps), (27, I ps.length), (28, I i)]
def nwI (f : Bool) (ps : List Int) (m : Nat) (tm : List Sv) (hp : Hp) : Prop := ∃ i cl vs, i ≤ ps.length ∧ m = ps.length - i ∧ vs.length = ps.length ∧ tm = mkT 81 0 (nwSpec f ps i) ∧ hp = headH ps cl vs i
theorem opR_i (g : List Sv → List Sv) {vs : List Value} {i p a b k : Nat} (hk : k = i) (hi : i < vs.length) (hne : i ≠ p) : nth ((opR vs i p a b).map g) k = some (g [.own 4 a]) := by
  subst hk
  rw [nth_eq, List.getElem?_map, opR, List.getElem?_set_ne (fun e => hne e.symm), List.getElem?_set_self (by simpa [valR] using hi)]
  rfl
theorem opR_p (g g' : List Sv → List Sv) {vs : List Value} {i p a b k m : Nat} {r : List Sv} (hk : k = p) (hm : m ≠ p) (hp : p < vs.length) : nth ((((opR vs i p a b).map g').set m r).map g) k = some (g (g' [.own 5 b])) := by
  subst hk
  rw [nth_eq, List.getElem?_map, List.getElem?_set_ne hm, List.getElem?_map, opR, List.getElem?_set_self (by simpa [valR] using hp)]
  rfl
theorem addE_len (L : List (List Int)) (i : Nat) (x : Int) : (addE L i x).length = L.length := by simp [addE]
theorem addE_at (L : List (List Int)) (i : Nat) (x : Int) (r : Nat) : ((addE L i x).getD r []).length ≤ (L.getD r []).length + 1 := by
  unfold addE
  rw [List.getD_eq_getElem?_getD, List.getElem?_set]
  split
  · rename_i h
    subst h
    split
    · simp
    · simp
  · rw [← List.getD_eq_getElem?_getD]; omega
theorem nwL_length (ps : List Int) : ∀ i, (nwL ps i).length = ps.length
  | 0 => by simp [nwL]
  | i + 1 => by
    unfold nwL
    split
    · exact nwL_length ps i
    · rw [addE_len, addE_len]; exact nwL_length ps i
theorem nwL_len (ps : List Int) : ∀ i r, ((nwL ps i).getD r []).length ≤ 2 * i
  | 0, r => by
    unfold nwL
    rw [List.getD_eq_getElem?_getD, List.getElem?_replicate]
    split <;> simp
  | i + 1, r => by
    have := nwL_len ps i r
    unfold nwL
    split
    · omega
    · have h1 := addE_at (addE (nwL ps i) i (ps.getD i 0)) (ps.getD i 0).toNat i r
      have h2 := addE_at (nwL ps i) i (ps.getD i 0) r
      omega

theorem VwR_of {hp : Hp} {nl : Nat → Bool} {sel : List Nat} : ∀ {rs rs1 : List (List Sv)}, rs.length = rs1.length → (∀ (i : Nat) r r1, rs[i]? = some r → rs1[i]? = some r1 → VwL hp nl sel r r1) → VwR hp nl sel rs rs1
  | [], [], _, _ => rfl
  | [], _ :: _, h, _ => by simp at h
  | _ :: _, [], h, _ => by simp at h
  | r :: rs, r1 :: rs1, h, g => ⟨g 0 r r1 rfl rfl, VwR_of (by simpa using h) fun i x y hx hy => g (i + 1) x y (by simpa using hx) (by simpa using hy)⟩
theorem mkT_all {q : Sv → Bool} (hq : q .any = true) : ∀ (n i : Nat) (l : List (Nat × Sv)), l.all (fun p => q p.2) = true → ∀ t, q (tmGet (mkT n i l) t) = true
  | 0, _, _, _, t => by simpa [mkT, tmGet, nth] using hq
  | n + 1, i, [], h, t => by
    cases t with
    | zero => simpa [mkT, tmGet, nth] using hq
    | succ t => exact mkT_all hq n (i + 1) [] h t
  | n + 1, i, (k, s) :: r, h, t => by
    simp only [List.all_cons, Bool.and_eq_true] at h
    simp only [mkT]
    split
    · cases t with
      | zero => exact h.1
      | succ t => exact mkT_all hq n (i + 1) r h.2 t
    · cases t with
      | zero => simpa [tmGet, nth] using hq
      | succ t => exact mkT_all hq n (i + 1) ((k, s) :: r) (by simp [h.1, h.2]) t
def noGhB (kg : Nat) : Nat → Hp → Bool
  | _, [] => true
  | i, none :: r => noGhB kg (i + 1) r
  | i, some b :: r => (Nat.beq i kg || b.grow || !Nat.beq b.wd 0) && noGhB kg (i + 1) r
theorem noGhB_at {kg : Nat} : ∀ {hp : Hp} {i : Nat}, noGhB kg i hp = true → ∀ k blk, i + k ≠ kg → hp[k]? = some (some blk) → blk.grow = false → blk.wd ≠ 0
  | [], _, _, k, blk, _, hb, _ => by simp at hb
  | none :: r, i, h, k, blk, hk, hb, hg => by
    cases k with
    | zero => simp at hb
    | succ k => exact noGhB_at (i := i + 1) h k blk (by omega) (by simpa using hb) hg
  | some b :: r, i, h, k, blk, hk, hb, hg => by
    simp only [noGhB, Bool.and_eq_true, Bool.or_eq_true] at h
    cases k with
    | zero =>
      simp only [List.getElem?_cons_zero, Option.some.injEq] at hb
      subst hb
      rcases h.1 with (h1 | h1) | h1
      · exact absurd (Nat.eq_of_beq_eq_true h1) hk
      · rw [hg] at h1; cases h1
      · intro e
        rw [e] at h1
        cases h1
    | succ k => exact noGhB_at (i := i + 1) h.2 k blk (by omega) (by simpa using hb) hg
theorem NoGh.of {kg : Nat} {hp : Hp} (h : noGhB kg 0 hp = true) : NoGh kg hp := fun k blk hk hb hg => noGhB_at h k blk (by omega) hb hg
def othB (p sk : Nat → Bool) : Nat → Hp → Bool
  | _, [] => true
  | i, none :: r => othB p sk (i + 1) r
  | i, some b :: r => (match sk i with | true => true | false => match b.clean with | true => true | false => b.rows.all (Sv.all.allL p)) && othB p sk (i + 1) r
theorem othB_at {p sk : Nat → Bool} : ∀ {hp : Hp} {i : Nat}, othB p sk i hp = true → ∀ k blk, sk (i + k) = false → hp[k]? = some (some blk) → blk.clean = false → blk.rows.all (Sv.all.allL p) = true
  | [], _, _, k, blk, _, hb, _ => by simp at hb
  | none :: r, i, h, k, blk, hk, hb, hg => by
    cases k with
    | zero => simp at hb
    | succ k => exact othB_at (i := i + 1) h k blk (by rw [show i + 1 + k = i + (k + 1) by omega]; exact hk) (by simpa using hb) hg
  | some b :: r, i, h, k, blk, hk, hb, hg => by
    simp only [othB, Bool.and_eq_true] at h
    cases k with
    | zero =>
      simp only [List.getElem?_cons_zero, Option.some.injEq] at hb
      subst hb
      have h1 := h.1
      rw [Nat.add_zero] at hk
      rw [hk, hg] at h1
      exact h1
    | succ k => exact othB_at (i := i + 1) h.2 k blk (by rw [show i + 1 + k = i + (k + 1) by omega]; exact hk) (by simpa using hb) hg
theorem nwG_get {vs : List Value} {L : List (List Int)} {j : Nat} {x : Value} {l : List Int} (h1 : vs[j]? = some x) (h2 : L[j]? = some l) : (nwG vs L)[j]? = some (some (x, l)) := by
  unfold nwG
  rw [List.getElem?_zipWith, h1, h2]
theorem nwG_set {vs : List Value} {L : List (List Int)} (h : vs.length = L.length) (j : Nat) (x : Value) (l : List Int) : (nwG vs L).set j (some (x, l)) = nwG (vs.set j x) (L.set j l) := by
  refine List.ext_getElem? fun k => ?_
  unfold nwG
  rw [List.getElem?_set, List.getElem?_zipWith, List.getElem?_zipWith, List.getElem?_set, List.getElem?_set]
  by_cases hjk : j = k
  · subst hjk
    simp only [if_true, List.length_zipWith]
    by_cases hj : j < vs.length
    · rw [if_pos (by omega), if_pos hj, if_pos (by omega)]
    · rw [if_neg (by omega), if_neg hj]
  · simp only [if_neg hjk]
theorem valR_set (vs : List Value) (j : Nat) (x : Value) : (valR vs).set j [.val x] = valR (vs.set j x) := by simp [valR, List.map_set]
theorem valR_get {vs : List Value} {j : Nat} {x : Value} (h : vs[j]? = some x) : (valR vs)[j]? = some [.val x] := by simp [valR, h]
section
variable {w0 : World} {M : Frm} {c : Cx} {tm : List Sv} {a : Act} {ds : List Deferred} {ps : List Int} {cl : Bool} {vs : List Value} {L : List (List Int)}
/-- One list of a closed state is opened. -/
theorem openOne (hS : St w0 M c tm [some (intB ps), some (nearB cl (valR vs)), some (treeB ps.length), some (nsB (nwG vs L))] a ds) (hm : M.m = 0) (hJ : M.J = NsJ 3 w0) (hvl : vs.length = L.length) {i : Nat} (hi : i < L.length) :
    ∃ c', c'.w = c.w ∧ St w0 M c' tm [some (intB ps), some (nearB false ((valR vs).set i [.own 4 (L.getD i []).length])), some (treeB ps.length), some (nsB ((nwG vs L).set i none)), some (intB (L.getD i []))] a ds := by
  have h1 : vs[i]? = some vs[i] := List.getElem?_eq_getElem _
  have h2 : L[i]? = some (L.getD i []) := by simp [hi]
  exact hS.nsOpen hm hJ (kn := 1) (kg := 3) (by omega) (NoGh.of rfl) rfl rfl (valR_get h1) (nwG_get h1 h2)
theorem openTwo (hS : St w0 M c tm (closedH ps cl vs L) a ds) (hm : M.m = 0) (hJ : M.J = NsJ 3 w0) (hvl : vs.length = L.length) {i p : Nat} (hi : i < L.length) (hp : p < L.length) (hne : i ≠ p) :
    ∃ c', c'.w = c.w ∧ St w0 M c' tm (openH ps vs L i p) a ds := by
  obtain ⟨c1, w1, hS1⟩ := openOne hS hm hJ hvl hi
  have h1 : vs[p]? = some vs[p] := List.getElem?_eq_getElem _
  have h2 : L[p]? = some (L.getD p []) := by simp [hp]
  obtain ⟨c2, w2, hS2⟩ := hS1.nsOpen hm hJ (kn := 1) (kg := 3) (r := p) (x := vs[p]) (l := L.getD p []) (by omega) (NoGh.of rfl) rfl rfl (by rw [List.getElem?_set_ne hne]; exact valR_get h1) (by rw [List.getElem?_set_ne hne]; exact nwG_get h1 h2)
  exact ⟨c2, w2.trans w1, hS2⟩

theorem st_to {hp : Hp} (hS : St w0 M c tm hp a ds) {hp' : Hp} (h : hp = hp') : St w0 M c tm hp' a ds := h ▸ hS
/-- One list is closed. -/
theorem closeOne {i n : Nat} {l : List Int} (hS : St w0 M c tm [some (intB ps), some (nearB false ((valR vs).set i [.own 4 n])), some (treeB ps.length), some (nsB ((nwG vs L).set i none)), some (intB l)] a ds) (hm : M.m = 0) (hJ : M.J = NsJ 3 w0) (hMM : ∀ b, ¬ M.M b) (hvl : vs.length = L.length) (hi : i < L.length) (hn : n = l.length)
    (ht : ∀ t, (tmGet tm t).all (fun j => Nat.blt j 4) = true) :
    ∃ c' x, c'.w = c.w ∧ St w0 M c' tm (closedH ps false (vs.set i x) (L.set i l)) a ds := by
  have hlt : ∀ s : Sv, s.all (fun j => Nat.blt j 4) = true → s.all (fun j => j != 4) = true := fun s h => all_mono (fun k hk => by have := blt_lt hk; simp; omega) s h
  obtain ⟨c1, x, w1, hS1⟩ := hS.nsClose hm hJ hMM (kn := 1) (kg := 3) (k := 4) (r := i) (by omega) (by omega) (by omega) (NoGh.of rfl) rfl rfl rfl (List.getElem?_set_self (by simpa [valR, hvl] using hi)) hn (List.getElem?_set_self (by simpa [nwG, hvl] using hi)) (fun t => hlt _ (ht t))
    (fun j row hj hrow => by
      rw [List.getElem?_set_ne (fun e => hj e.symm)] at hrow
      unfold valR at hrow
      rw [List.getElem?_map] at hrow
      cases hv : vs[j]? with
      | none => rw [hv] at hrow; cases hrow
      | some y => rw [hv] at hrow; cases hrow; rfl)
    (fun j blk h1 h2 hb hc => othB_at (p := fun j => j != 4) (sk := fun j => Nat.beq j 1 || Nat.beq j 4) (i := 0) rfl j blk (by
      rw [Nat.zero_add, Bool.or_eq_false_iff]
      exact ⟨by cases hh : Nat.beq j 1 with | true => exact absurd (Nat.eq_of_beq_eq_true hh) h1 | false => rfl, by cases hh : Nat.beq j 4 with | true => exact absurd (Nat.eq_of_beq_eq_true hh) h2 | false => rfl⟩) hb hc)
  obtain ⟨c2, w2, hS2⟩ := hS1.trunc hm 4 ht (fun k blk hk hb hc => by
    match k, hk with
    | 0, _ => cases hb; cases hc
    | 1, _ =>
      cases hb
      rw [List.all_eq_true]
      intro row hrow
      rw [List.set_set, valR_set] at hrow
      simp only [valR, List.mem_map] at hrow
      obtain ⟨y, _, rfl⟩ := hrow
      rfl
    | 2, _ => cases hb; rfl
    | 3, _ => cases hb; cases hc)
  refine ⟨c2, x, w2.trans w1, st_to hS2 ?_⟩
  show [some (intB ps), some (nearB false (((valR vs).set i [.own 4 n]).set i [.val x])), some (treeB ps.length), some (nsB (((nwG vs L).set i none).set i (some (x, l))))] = _
  rw [List.set_set, List.set_set, valR_set, nwG_set hvl]
  rfl

theorem closeTwo {i p n m : Nat} {l k : List Int} (hS : St w0 M c tm [some (intB ps), some (nearB false (opR vs i p n m)), some (treeB ps.length), some (nsB (((nwG vs L).set i none).set p none)), some (intB l), some (intB k)] a ds) (hm : M.m = 0) (hJ : M.J = NsJ 3 w0) (hMM : ∀ b, ¬ M.M b) (hvl : vs.length = L.length) (hi : i < L.length) (hp : p < L.length) (hne : i ≠ p)
    (hn : n = l.length) (hk : m = k.length) (ht : ∀ t, (tmGet tm t).all (fun j => Nat.blt j 4) = true) :
    ∃ c' vs', c'.w = c.w ∧ vs'.length = vs.length ∧ St w0 M c' tm (closedH ps false vs' ((L.set i l).set p k)) a ds := by
  have hlt : ∀ s : Sv, s.all (fun j => Nat.blt j 4) = true → s.all (fun j => j != 5) = true := fun s h => all_mono (fun k hk => by have := blt_lt hk; simp; omega) s h
  have hlt5 : ∀ s : Sv, s.all (fun j => Nat.blt j 4) = true → s.all (fun j => Nat.blt j 5) = true := fun s h => all_mono (fun k hk => by have := blt_lt hk; rw [Nat.blt_eq]; omega) s h
  obtain ⟨c1, x, w1, hS1⟩ := hS.nsClose hm hJ hMM (kn := 1) (kg := 3) (k := 5) (r := p) (by omega) (by omega) (by omega) (NoGh.of rfl) rfl rfl rfl (List.getElem?_set_self (by simpa [valR, hvl] using hp)) hk (List.getElem?_set_self (by simpa [nwG, hvl] using hp)) (fun t => hlt _ (ht t))
    (fun j row hj hrow => by
      rw [opR, List.getElem?_set_ne (fun e => hj e.symm), List.getElem?_set] at hrow
      split at hrow
      · split at hrow
        · cases hrow; rfl
        · cases hrow
      · unfold valR at hrow
        rw [List.getElem?_map] at hrow
        cases hv : vs[j]? with
        | none => rw [hv] at hrow; cases hrow
        | some y => rw [hv] at hrow; cases hrow; rfl)
    (fun j blk h1 h2 hb hc => othB_at (p := fun j => j != 5) (sk := fun j => Nat.beq j 1 || Nat.beq j 5) (i := 0) rfl j blk (by
      rw [Nat.zero_add, Bool.or_eq_false_iff]
      exact ⟨by cases hh : Nat.beq j 1 with | true => exact absurd (Nat.eq_of_beq_eq_true hh) h1 | false => rfl, by cases hh : Nat.beq j 5 with | true => exact absurd (Nat.eq_of_beq_eq_true hh) h2 | false => rfl⟩) hb hc)
  obtain ⟨c2, w2, hS2⟩ := hS1.trunc hm 5 (fun t => hlt5 _ (ht t)) (fun k blk hk hb hc => by
    match k, hk with
    | 0, _ => cases hb; cases hc
    | 1, _ =>
      cases hb
      rw [List.all_eq_true]
      intro row hrow
      rw [opR, List.set_set] at hrow
      rcases List.mem_or_eq_of_mem_set hrow with hrow | rfl
      · rcases List.mem_or_eq_of_mem_set hrow with hrow | rfl
        · simp only [valR, List.mem_map] at hrow
          obtain ⟨y, _, rfl⟩ := hrow
          rfl
        · rfl
      · rfl
    | 2, _ => cases hb; rfl
    | 3, _ => cases hb; cases hc
    | 4, _ => cases hb; cases hc)
  have hS3 : St w0 M c2 tm [some (intB ps), some (nearB false ((valR (vs.set p x)).set i [.own 4 n])), some (treeB ps.length), some (nsB ((nwG (vs.set p x) (L.set p k)).set i none)), some (intB l)] a ds := st_to hS2 (by
    show [some (intB ps), some (nearB false ((opR vs i p n m).set p [.val x])), some (treeB ps.length), some (nsB ((((nwG vs L).set i none).set p none).set p (some (x, k)))), some (intB l)] = _
    rw [opR, List.set_set, List.set_set, List.set_comm _ _ hne, valR_set, List.set_comm _ _ hne, nwG_set hvl])
  obtain ⟨c3, y, w3, hS4⟩ := closeOne hS3 hm hJ hMM (by simpa using hvl) (by simpa using hi) hn ht
  exact ⟨c3, (vs.set p x).set i y, w3.trans (w2.trans w1), by simp, by rw [List.set_comm _ _ hne]; exact hS4⟩
end
end Go.Proofs.Ytiklbnianbejdaa

/- tree.New: its walk. -/
namespace Go.Proofs.Ytiklbnianbejdaa
open Go Go.Eng Go.RowKit

theorem backA {J : Option (World → Nat → List (List Sv) → (Nat → Prop) → (Nat → Prop) → World → Prop)} {mm n : Nat} {tm : List Sv} {hp hps : Hp} {I : List Sv → Hp → Prop} {spec : List (Nat × Sv)} (h : AtS mm tm hp n spec hps)
    (k : ∀ (w0 : World) (M : Frm) (c : Cx) (a : Act) (ds : List Deferred), M.m = mm → (∀ j, J = some j → M.J = j w0 ∧ ∀ b, ¬ M.M b) → St w0 M c (mkT n 0 spec) hps a ds → ∃ c' tm' hp', c'.w = c.w ∧ I tm' hp' ∧ St w0 M c' tm' hp' a ds) : BackJ J mm tm hp I := by
  intro w0 M c a ds hm hJ hS
  obtain ⟨c1, w1, hS1⟩ := h.weak w0 M c a ds hm hS
  obtain ⟨c2, tm', hp', w2, hI, hS2⟩ := k w0 M c1 a ds hm hJ hS1
  exact ⟨c2, tm', hp', w2.trans w1, hI, hS2⟩
theorem nwSpec_all (f : Bool) (ps : List Int) (i : Nat) : ∀ t, (tmGet (mkT 81 0 (nwSpec f ps i)) t).all (fun j => Nat.blt j 4) = true := mkT_all (q := fun s => s.all (fun j => Nat.blt j 4)) rfl 81 0 _ rfl
section
variable {w0 : World} {M : Frm} {c : Cx} {a : Act} {ds : List Deferred} {ps : List Int} {f cl : Bool} {vs : List Value}
theorem nwHead {i : Nat} (h0 : ∀ i, i < ps.length → ps.getD i 0 ≠ i ∧ ps.getD i 0 < ps.length) (hS : St w0 M c (mkT 81 0 (nwSpec f ps i)) (closedH ps cl vs (nwL ps i)) a ds) (hm : M.m = 0) (hJ : M.J = NsJ 3 w0) (hvl : vs.length = ps.length) (hi : i ≤ ps.length) :
    ∃ c' tm' hp', c'.w = c.w ∧ nwI f ps (ps.length - i) tm' hp' ∧ St w0 M c' tm' hp' a ds := by
  by_cases hip : i < ps.length ∧ 0 ≤ ps.getD i 0
  · have h1 := h0 i hip.1
    obtain ⟨c', w', hS'⟩ := openTwo (i := i) (p := (ps.getD i 0).toNat) hS hm hJ (by rw [nwL_length]; exact hvl) (by rw [nwL_length]; exact hip.1) (by rw [nwL_length]; omega) (by omega)
    exact ⟨c', _, _, w', ⟨i, cl, vs, hi, rfl, hvl, rfl, by unfold headH; rw [if_pos hip]⟩, hS'⟩
  · exact ⟨c, _, _, rfl, ⟨i, cl, vs, hi, rfl, hvl, rfl, by unfold headH; rw [if_neg hip]⟩, hS⟩
end
theorem addE2 (L : List (List Int)) {i p : Nat} (hne : i ≠ p) : addE (addE L i (p : Int)) p (i : Int) = (L.set i (L.getD i [] ++ [(p : Int)])).set p (L.getD p [] ++ [(i : Int)]) := by
  unfold addE
  rw [show (L.set i (L.getD i [] ++ [(p : Int)])).getD p [] = L.getD p [] by rw [List.getD_eq_getElem?_getD, List.getElem?_set_ne hne, ← List.getD_eq_getElem?_getD]]
theorem VwR_val {hp : Hp} {nl : Nat → Bool} {sel : List Nat} (vs : List Value) : VwR hp nl sel (valR vs) (valR vs) := by
  refine VwR_of rfl fun j r r1 hr hr1 => ?_
  rw [hr] at hr1
  cases hr1
  unfold valR at hr
  rw [List.getElem?_map] at hr
  cases hv : vs[j]? with
  | none => rw [hv] at hr; cases hr
  | some y => rw [hv] at hr; cases hr; exact ⟨rfl, rfl⟩
theorem VwR_set1 {hp : Hp} {nl : Nat → Bool} {sel : List Nat} {vs : List Value} {i n ka : Nat} (h4 : nth sel 4 = some ka) : VwR hp nl sel ((valR vs).set i [.own ka n]) ((valR vs).set i [.own 4 n]) := by
  refine VwR_of (by simp) fun j r r1 hr hr1 => ?_
  rw [List.getElem?_set] at hr hr1
  by_cases h1 : i = j
  · rw [if_pos h1] at hr hr1
    split at hr
    · rename_i h2
      rw [if_pos h2] at hr1
      cases hr; cases hr1
      exact ⟨⟨h4, rfl⟩, rfl⟩
    · cases hr
  · rw [if_neg h1] at hr hr1
    rw [hr] at hr1
    cases hr1
    unfold valR at hr
    rw [List.getElem?_map] at hr
    cases hv : vs[j]? with
    | none => rw [hv] at hr; cases hr
    | some y => rw [hv] at hr; cases hr; exact ⟨rfl, rfl⟩
theorem VwB_near {hp : Hp} {nl : Nat → Bool} {sel : List Nat} (cl : Bool) (vs : List Value) : VwB hp nl sel (nearB cl (valR vs)) (nearB cl (valR vs)) := by
  cases cl with
  | true => exact VwB.refl
  | false => exact ⟨rfl, rfl, rfl, .inr (.inr ⟨VwR_val vs, .inl rfl, trivial⟩)⟩
theorem endR {hp : Hp} {nl : Nat → Bool} {sel : List Nat} {g g' : List Sv → List Sv} {vs : List Value} {i p a b a1 b1 ka kb i' p' : Nat} (hg : ∀ x, g [.val x] = [.val x]) (hg' : ∀ x, g' [.val x] = [.val x]) (hga : g [.own ka a1] = [.own ka a1]) (hne : i ≠ p) (hi' : i' = i) (hp' : p' = p) (h4 : nth sel 4 = some ka) (h5 : nth sel 5 = some kb) :
    VwR hp nl sel (((((opR vs i p a b).map g').set i' [.own ka a1]).map g).set p' [.own kb b1]) (opR vs i p a1 b1) := by
  subst hi' hp'
  refine VwR_of (by simp [opR]) fun j r r1 hr hr1 => ?_
  rw [List.getElem?_set, List.getElem?_map, List.getElem?_set, List.getElem?_map] at hr
  unfold opR at hr1 hr
  simp only [List.getElem?_set, List.length_map, List.length_set] at hr hr1
  by_cases h1 : p' = j
  · rw [if_pos h1] at hr hr1
    split at hr
    · split at hr1
      · cases hr; cases hr1
        exact ⟨⟨h5, rfl⟩, rfl⟩
      · rename_i h6 h7
        exact absurd h6 h7
    · cases hr
  · rw [if_neg h1] at hr hr1
    by_cases h2 : i' = j
    · simp only [if_pos h2] at hr hr1
      split at hr
      · rw [if_pos (by assumption)] at hr1
        cases hr1
        simp only [Option.map_some, Option.some.injEq] at hr
        rw [hga] at hr
        subst hr
        exact ⟨⟨h4, rfl⟩, rfl⟩
      · cases hr
    · simp only [if_neg h2, if_neg h1] at hr hr1
      unfold valR at hr hr1
      rw [List.getElem?_map] at hr hr1
      cases hv : vs[j]? with
      | none => rw [hv] at hr; cases hr
      | some y =>
        rw [hv] at hr hr1
        simp only [Option.map_some, Option.some.injEq, hg, hg'] at hr hr1
        subst hr hr1
        exact ⟨rfl, rfl⟩
def sortI (l : List Int) : List Int := l.mergeSort fun x y => decide (x ≤ y)
theorem sortI_len (l : List Int) : (sortI l).length = l.length := List.length_mergeSort l
def srtL (L : List (List Int)) (i : Nat) : List (List Int) := (L.take i).map sortI ++ L.drop i
theorem srtL_length (L : List (List Int)) {i : Nat} (h : i ≤ L.length) : (srtL L i).length = L.length := by simp [srtL]; omega
theorem minL {i n : Nat} (h : i ≤ n) : min i n = i := Nat.min_eq_left h
theorem srtL_get (L : List (List Int)) {i : Nat} (h : i < L.length) : (srtL L i).getD i [] = L.getD i [] := by
  unfold srtL
  rw [List.getD_eq_getElem?_getD, List.getElem?_append_right (by simp; omega), List.length_map, List.length_take, Nat.min_eq_left (by omega), Nat.sub_self]
  simp [h]
theorem srtL_succ (L : List (List Int)) {i : Nat} (h : i < L.length) : (srtL L i).set i (sortI (L.getD i [])) = srtL L (i + 1) := by
  unfold srtL
  rw [List.set_append_right _ _ (by simp; omega), List.length_map, List.length_take, Nat.min_eq_left (by omega), Nat.sub_self, List.drop_eq_getElem_cons h, List.set_cons_zero, List.take_succ_eq_append_getElem h]
  simp only [List.map_append, List.map_cons, List.map_nil, List.append_assoc, List.singleton_append]
  rw [show L.getD i [] = L[i] by simp [h]]
theorem srtL_all (L : List (List Int)) : srtL L L.length = L.map sortI := by simp [srtL]
abbrev nearX (ps : List Int) (L : List (List Int)) : Hp := [some (intB ps), some (nearB true (L.map fun l => [.ext true 1 (Go.Eng.intR l)])), some (treeB ps.length), none]
def head2 (ps : List Int) (cl : Bool) (vs : List Value) (L : List (List Int)) (i : Nat) : Hp :=
  if i < ps.length then [some (intB ps), some (nearB false ((valR vs).set i [.own 4 (L.getD i []).length])), some (treeB ps.length), some (nsB ((nwG vs (srtL L i)).set i none)), some (intB (L.getD i []))] else nearX ps (L.map sortI)
def spec2 (n i : Nat) : List (Nat × Sv) := [(6, .ptr 2 0 0), (71, .own 1 n), (72, I n), (73, I i)]
def nwI2 (ps : List Int) (L : List (List Int)) (m : Nat) (tm : List Sv) (hp : Hp) : Prop := ∃ i cl vs, i ≤ ps.length ∧ m = ps.length - i ∧ vs.length = ps.length ∧ tm = mkT 81 0 (spec2 ps.length i) ∧ hp = head2 ps cl vs L i
theorem spec2_all (n i : Nat) : ∀ t, (tmGet (mkT 81 0 (spec2 n i)) t).all (fun j => Nat.blt j 4) = true := mkT_all (q := fun s => s.all (fun j => Nat.blt j 4)) rfl 81 0 _ rfl
theorem oth2 (ps : List Int) (cl : Bool) (vs : List Value) (L : List (List Int)) : othB (fun j => j != 3) (fun j => Nat.beq j 3) 0 (closedH ps cl vs L) = true := by
  have h : (valR vs).all (Sv.all.allL fun j => j != 3) = true := by
    rw [List.all_eq_true]
    intro row hrow
    simp only [valR, List.mem_map] at hrow
    obtain ⟨y, _, rfl⟩ := hrow
    rfl
  cases cl with
  | true => rfl
  | false =>
    show ((valR vs).all (Sv.all.allL fun j => j != 3) && true) = true
    rw [h]; rfl
theorem nwHead2 {w0 : World} {M : Frm} {c : Cx} {a : Act} {ds : List Deferred} {ps : List Int} {cl : Bool} {vs : List Value} {L : List (List Int)} {i : Nat} (hpos : 0 < ps.length) (hL : L.length = ps.length) (hS : St w0 M c (mkT 81 0 (spec2 ps.length i)) (closedH ps cl vs (srtL L i)) a ds) (hm : M.m = 0) (hJ : M.J = NsJ 3 w0) (hvl : vs.length = ps.length) (hi : i ≤ ps.length) :
    ∃ c' tm' hp', c'.w = c.w ∧ nwI2 ps L (ps.length - i) tm' hp' ∧ St w0 M c' tm' hp' a ds := by
  have hsl := srtL_length L (i := i) (by omega)
  by_cases hin : i < ps.length
  · obtain ⟨c', w', hS'⟩ := openOne (i := i) hS hm hJ (by omega) (by omega)
    rw [srtL_get L (by omega)] at hS'
    exact ⟨c', _, _, w', ⟨i, cl, vs, hi, rfl, hvl, rfl, by unfold head2; rw [if_pos hin]⟩, hS'⟩
  · have : i = L.length := by omega
    subst this
    rw [srtL_all] at hS hsl
    obtain ⟨c', w', hS'⟩ := hS.nsEnd hm hJ (kn := 1) (kg := 3) (vs := vs) (L := L.map sortI) (by omega) (NoGh.of rfl) rfl rfl (by omega) (fun j x l hx hl => nwG_get hx hl) (by omega)
      (fun t => all_mono (fun k hk => by simp only [Nat.blt_eq] at hk; simp; omega) _ (mkT_all (q := fun s => s.all (fun j => Nat.blt j 3)) rfl 81 0 (spec2 ps.length L.length) rfl t))
      (fun j blk h1 hb hc => othB_at (p := fun j => j != 3) (sk := fun j => Nat.beq j 3) (i := 0) (oth2 ps cl vs _) j blk (by rw [Nat.zero_add]; cases hh : Nat.beq j 3 with | true => exact absurd (Nat.eq_of_beq_eq_true hh) h1 | false => rfl) hb hc)
    exact ⟨c', _, _, w', ⟨L.length, cl, vs, hi, rfl, hvl, rfl, by unfold head2; rw [if_neg hin]; rfl⟩, hS'⟩
def SortOk : Prop := ∀ l : List Int, l.length ≤ 64 → MCon Try.prog 34 [.own 0 l.length] [intB l] fun r h => r = .tup [] ∧ h = [some (intB (sortI l))]
set_option maxHeartbeats 2000000 in
theorem new_pcon (hsort : SortOk) (f : Bool) (ps : List Int) (h : Tr1 ps) : PCon Try.prog 12 [intX f ps] (.tup [treeX true ps ((nwL ps ps.length).map sortI), I 0]) [] := by
  refine pcon_of_tale (G := gm) (NsJ 3) Try.func12 rfl rfl rfl (NsJ.js _) ?_
  have hc := check_pcon f ps (by have := h.le; omega)
  have hk := (tr1_iff ps).2 h
  rw [show checkS ps = ((checkS ps).1, 0) from Prod.ext rfl hk] at hc
  have hpos := h.pos
  have hle := h.le
  repeat' (conv => whnf
           first
           | (refine get_id ?_; first | refine Get.mk _ rfl ?_)
           | (refine need_id ?_; first | refine Need.a ?_)
           | (refine eqk_id ?_; first | refine EqK.a ?_)
           | (refine br_id ?_; first | refine Br.t ?_ | refine Br.f ?_ | (refine Br.pos ?_ ?_; focus (with_reducible assumption)) | (refine Br.neg ?_ ?_; focus (with_reducible assumption)) | (refine Br.dpos ?_ ?_; focus (first | with_reducible exact rfl | with_reducible exact Int.le_refl _ | with_reducible assumption)) | (refine Br.dneg ?_ ?_; focus (with_reducible assumption)) | (refine Br.d (fun _ => ?_) (fun _ => ?_) <;> (first | (exfalso; omega; done) | skip)) | refine Br.n ?_ | (refine Br.s (fun _ => ?_) (fun _ => ?_) <;> (first | (exfalso; omega; done) | skip)) | (refine Br.mk (fun _ => ?_) (fun _ => ?_) <;> (first | (exfalso; omega; done) | skip)))
           | (refine regv_id ?_; first | refine RegV.d ?_)
           | refine NilB.mk (fun b hb => ?_)
           | (refine alv_and ?_ ?_; focus (first | rfl | done))
           | refine DrawV.mk [] ?_
           | (refine appc_id ?_; first | refine AppC.growA ?_ | refine AppC.place ?_)
           | (refine call_id ?_; first
                | refine CallV.c (hc) ?_
                | refine CallV.c (clone_pcon f ps (by omega)) ?_
                | refine CallV.e (hc) ?_
                | refine CallV.e (clone_pcon f ps (by omega)) ?_)
           | (refine calls_id ?_; first
                | refine CallS.c (hc) ?_
                | refine CallS.c (clone_pcon f ps (by omega)) ?_
                | refine CallS.e (hc) ?_
                | refine CallS.e (clone_pcon f ps (by omega)) ?_))
  all_goals (try (conv => whnf))
  have hi0 : ∀ i, i < ps.length → ps.getD i 0 ≠ i ∧ ps.getD i 0 < ps.length := fun i hi => by
    have := h.ok i hi
    simp only [badAt, eq_self, iff_true, true_iff, iff_false, false_iff, decide_eq_true_eq, decide_eq_false_iff_not, Bool.or_eq_true, Bool.and_eq_true, Bool.or_eq_false_iff, Bool.and_eq_false_iff, Bool.not_eq_true', Bool.not_eq_false', beq_iff_eq, beq_eq_false_iff_ne, bne_iff_ne, bne_eq_false_iff_eq, ne_eq, Bool.true_and, Bool.and_true, Bool.false_or, Bool.or_false, Bool.true_or, Bool.or_true, Bool.false_and, Bool.and_false, Bool.not_true, Bool.not_false, reduceCtorEq, not_false_eq_true, not_true_eq_false, and_true, true_and, or_false, false_or, or_true, true_or, and_false, false_and, Bool.cond_eq_ite] at this
    omega
  refine LoopV.ns (nwI f ps) ps.length ?_ ?_
  · refine backA (n := 81) (spec := nwSpec f ps 0) (hps := [some (intB ps), some (nearB true (List.replicate ps.length [.val (.slice none 0 0)])), some (treeB ps.length)]) (AtS.mk [] [0, 1, 2] rfl (by simp) rfl ?_ ?_) ?_
    · (repeat' (first | exact trivial | exact rfl | with_reducible assumption | (refine And.intro ?_ ?_) | (refine Exists.intro _ (And.intro rfl ?_)) | (refine Exists.intro _ (Exists.intro _ (And.intro rfl (And.intro rfl ?_)))) | (refine Or.inl ⟨rfl, rfl, ?_⟩) | (refine Or.inl ⟨rfl, ?_⟩; focus (fail_if_success (refine And.intro ?_ ?_))) | (refine Or.inl (?_ : (_ : Nat) = _ ∧ _); refine ⟨?_, ?_⟩; focus (first | (simp only [List.length_map]; done) | (simp only [List.length_map, List.length_append, List.length_cons, List.length_nil]; done))) | exact Or.inl rfl | (refine Or.inr (Or.inr ⟨?_, ?_⟩)) | (refine Or.inr ⟨?_, ?_⟩) | (refine fun h => ?_; first | exact h | exact rfl | (cases h; done)) | (refine om8 ?_; simp only [← List.map_drop, ← List.map_take]; exact rfl) | ((first | refine om1 ?_ | refine om2 ?_ | refine om3 ?_ | refine om4 ?_ | refine om5 ?_ | refine om6 ?_ | refine om7 ?_); first | (simp only [List.length_map]; done) | (simp only [List.length_map]; omega) | omega)))
    · unfold nwSpec
      (repeat' (first | exact trivial | exact rfl | with_reducible assumption | (refine And.intro ?_ ?_) | (refine Exists.intro _ (And.intro rfl ?_)) | (refine Exists.intro _ (Exists.intro _ (And.intro rfl (And.intro rfl ?_)))) | (refine Or.inl ⟨rfl, rfl, ?_⟩) | (refine Or.inl ⟨rfl, ?_⟩; focus (fail_if_success (refine And.intro ?_ ?_))) | (refine Or.inl (?_ : (_ : Nat) = _ ∧ _); refine ⟨?_, ?_⟩; focus (first | (simp only [List.length_map]; done) | (simp only [List.length_map, List.length_append, List.length_cons, List.length_nil]; done))) | exact Or.inl rfl | (refine Or.inr (Or.inr ⟨?_, ?_⟩)) | (refine Or.inr ⟨?_, ?_⟩) | (refine fun h => ?_; first | exact h | exact rfl | (cases h; done)) | (refine om8 ?_; simp only [← List.map_drop, ← List.map_take]; exact rfl) | ((first | refine om1 ?_ | refine om2 ?_ | refine om3 ?_ | refine om4 ?_ | refine om5 ?_ | refine om6 ?_ | refine om7 ?_); first | (simp only [List.length_map]; done) | (simp only [List.length_map]; omega) | omega)))
    · intro w0 M c a ds hm hJ hS
      obtain ⟨hJ, hMM⟩ := hJ _ rfl
      obtain ⟨c1, w1, hS1⟩ := hS.nsInit hm hJ (NoGh.of rfl) ps.length
      have hS1 : St w0 M c1 (mkT 81 0 (nwSpec f ps 0)) (closedH ps true (List.replicate ps.length (.slice none 0 0)) (nwL ps 0)) a ds := st_to hS1 (by
        unfold closedH
        rw [show nwG (List.replicate ps.length (.slice none 0 0)) (nwL ps 0) = List.replicate ps.length (some (.slice none 0 0, [])) by simp [nwG, nwL, List.zipWith_replicate], show valR (List.replicate ps.length (.slice none 0 0)) = List.replicate ps.length [.val (.slice none 0 0)] by simp [valR]]
        rfl)
      obtain ⟨c2, tm2, hp2, w2, hI, hS2⟩ := nwHead hi0 hS1 hm hJ (by simp) (by omega)
      exact ⟨c2, tm2, hp2, w2.trans w1, hI, hS2⟩
  rintro m tm hp ⟨i, cl, vs, hi, rfl, hvl, rfl, rfl⟩
  by_cases hip : i < ps.length ∧ 0 ≤ ps.getD i 0
  · rw [show headH ps cl vs i = openH ps vs (nwL ps i) i (ps.getD i 0).toNat by unfold headH; rw [if_pos hip]]
    obtain ⟨hin, hp0⟩ := hip
    have hii := hi0 i hin
    have hL := nwL_len ps i
    have hLl := nwL_length ps i
    have hLs : nwL ps (i + 1) = addE (addE (nwL ps i) i (ps.getD i 0)) (ps.getD i 0).toNat i := by rw [nwL, if_neg (by omega)]
    generalize nwL ps i = L at hL hLl hLs ⊢
    obtain ⟨p, hp⟩ : ∃ p : Nat, ps.getD i 0 = p := ⟨(ps.getD i 0).toNat, by omega⟩
    have hg := int_get ps i rfl hin
    have hL1 := hL i
    have hL2 := hL p
    rw [hp] at hg hii hLs ⊢
    rw [Int.toNat_natCast] at hLs
    rw [Int.toNat_natCast]
    unfold nwSpec openH
    repeat' (conv => whnf
             first
             | (refine get_id ?_; first | refine Get.mk _ rfl ?_ | refine Get.mk _ (hg) ?_ | refine Get.mk _ (opR_i _ rfl (by omega) (by omega)) ?_ | refine Get.mk _ (opR_p _ _ (Int.toNat_natCast p) (by omega) (by omega)) ?_)
             | (refine need_id ?_; first | refine Need.a ?_)
             | (refine eqk_id ?_; first | refine EqK.a ?_)
             | (refine br_id ?_; first | refine Br.t ?_ | refine Br.f ?_ | (refine Br.pos ?_ ?_; focus (with_reducible assumption)) | (refine Br.neg ?_ ?_; focus (with_reducible assumption)) | (refine Br.dpos ?_ ?_; focus (first | with_reducible exact rfl | with_reducible exact Int.le_refl _ | with_reducible assumption)) | (refine Br.dneg ?_ ?_; focus (with_reducible assumption)) | (refine Br.d (fun _ => ?_) (fun _ => ?_) <;> (first | (exfalso; omega; done) | skip)) | refine Br.n ?_ | (refine Br.s (fun _ => ?_) (fun _ => ?_) <;> (first | (exfalso; omega; done) | skip)) | (refine Br.mk (fun _ => ?_) (fun _ => ?_) <;> (first | (exfalso; omega; done) | skip)))
             | (refine regv_id ?_; first | refine RegV.d ?_)
             | refine NilB.mk (fun b hb => ?_)
             | (refine alv_and ?_ ?_; focus (first | rfl | done))
             | refine DrawV.mk [(14, 4), (14, 5)] ?_
             | (refine appc_id ?_; first | refine AppC.growA ?_ | refine AppC.place ?_)
             | refine rowsK_of ?_)
    all_goals (try (conv => whnf))
    refine ⟨ps.length - (i + 1), by omega, backA (n := 81) (spec := nwSpec f ps (i + 1)) (hps := [some (intB ps), some (nearB false (opR vs i p ((L.getD i []).length + 1) ((L.getD p []).length + 1))), some (treeB ps.length), some (nsB (((nwG vs L).set i none).set p none)), some (intB (L.getD i [] ++ [(p : Int)])), some (intB (L.getD p [] ++ [(i : Int)]))]) (AtS.mk [] [0, 1, 2, 3, 7, 9] rfl (by simp) rfl ?_ ?_) ?_⟩
    · (repeat' (first | exact trivial | exact rfl | with_reducible assumption | (refine And.intro ?_ ?_) | (refine Exists.intro _ (And.intro rfl ?_)) | (refine Exists.intro _ (Exists.intro _ (And.intro rfl (And.intro rfl ?_)))) | (refine Or.inl ⟨rfl, rfl, ?_⟩) | (refine Or.inl ⟨rfl, ?_⟩; focus (fail_if_success (refine And.intro ?_ ?_))) | (refine Or.inl (?_ : (_ : Nat) = _ ∧ _); refine ⟨?_, ?_⟩; focus (first | (simp only [List.length_map]; done) | (simp only [List.length_map, List.length_append, List.length_cons, List.length_nil]; done))) | exact Or.inl rfl | (refine Or.inr (Or.inr ⟨?_, ?_⟩)) | (refine Or.inr ⟨?_, ?_⟩) | (refine fun h => ?_; first | exact h | exact rfl | (cases h; done)) | (refine om8 ?_; simp only [← List.map_drop, ← List.map_take]; exact rfl) | ((first | refine om1 ?_ | refine om2 ?_ | refine om3 ?_ | refine om4 ?_ | refine om5 ?_ | refine om6 ?_ | refine om7 ?_); first | (simp only [List.length_map]; done) | (simp only [List.length_map]; omega) | omega)))
      · exact endR (fun _ => rfl) (fun _ => rfl) rfl (by omega) (Int.toNat_natCast i) (Int.toNat_natCast p) rfl rfl
      · simp [intB, mkB, intR]
      · simp [intB, mkB, intR]
    · unfold nwSpec
      (repeat' (first | exact trivial | exact rfl | with_reducible assumption | (refine And.intro ?_ ?_) | (refine Exists.intro _ (And.intro rfl ?_)) | (refine Exists.intro _ (Exists.intro _ (And.intro rfl (And.intro rfl ?_)))) | (refine Or.inl ⟨rfl, rfl, ?_⟩) | (refine Or.inl ⟨rfl, ?_⟩; focus (fail_if_success (refine And.intro ?_ ?_))) | (refine Or.inl (?_ : (_ : Nat) = _ ∧ _); refine ⟨?_, ?_⟩; focus (first | (simp only [List.length_map]; done) | (simp only [List.length_map, List.length_append, List.length_cons, List.length_nil]; done))) | exact Or.inl rfl | (refine Or.inr (Or.inr ⟨?_, ?_⟩)) | (refine Or.inr ⟨?_, ?_⟩) | (refine fun h => ?_; first | exact h | exact rfl | (cases h; done)) | (refine om8 ?_; simp only [← List.map_drop, ← List.map_take]; exact rfl) | ((first | refine om1 ?_ | refine om2 ?_ | refine om3 ?_ | refine om4 ?_ | refine om5 ?_ | refine om6 ?_ | refine om7 ?_); first | (simp only [List.length_map]; done) | (simp only [List.length_map]; omega) | omega)))
    · intro w0 M c a ds hm hJ hS
      obtain ⟨hJ, hMM⟩ := hJ _ rfl
      obtain ⟨c1, vs1, w1, hv1, hS1⟩ := closeTwo hS hm hJ hMM (by omega) (by omega) (by omega) (by omega) (by simp) (by simp) (nwSpec_all f ps (i + 1))
      rw [← addE2 L (by omega), ← hLs] at hS1
      obtain ⟨c2, tm2, hp2, w2, hI, hS2⟩ := nwHead hi0 hS1 hm hJ (by omega) (by omega)
      exact ⟨c2, tm2, hp2, w2.trans w1, hI, hS2⟩
  · by_cases hin : i < ps.length
    · rw [show headH ps cl vs i = closedH ps cl vs (nwL ps i) by unfold headH; rw [if_neg hip]]
      have hii : ps.getD i 0 = -1 := by
        have := h.ok i hin
        simp only [badAt, eq_self, iff_true, true_iff, iff_false, false_iff, decide_eq_true_eq, decide_eq_false_iff_not, Bool.or_eq_true, Bool.and_eq_true, Bool.or_eq_false_iff, Bool.and_eq_false_iff, Bool.not_eq_true', Bool.not_eq_false', beq_iff_eq, beq_eq_false_iff_ne, bne_iff_ne, bne_eq_false_iff_eq, ne_eq, Bool.true_and, Bool.and_true, Bool.false_or, Bool.or_false, Bool.true_or, Bool.or_true, Bool.false_and, Bool.and_false, Bool.not_true, Bool.not_false, reduceCtorEq, not_false_eq_true, not_true_eq_false, and_true, true_and, or_false, false_or, or_true, true_or, and_false, false_and, Bool.cond_eq_ite] at this
        omega
      have hLs : nwL ps (i + 1) = nwL ps i := by rw [nwL, if_pos (by omega)]
      have hg := int_get ps i rfl hin
      rw [hii] at hg
      have hLl := nwL_length ps i
      generalize nwL ps i = L at hLs hLl ⊢
      unfold nwSpec closedH
      repeat' (conv => whnf
               first
               | (refine get_id ?_; first | refine Get.mk _ rfl ?_ | refine Get.mk _ (hg) ?_)
               | (refine need_id ?_; first | refine Need.a ?_)
               | (refine eqk_id ?_; first | refine EqK.a ?_)
               | (refine br_id ?_; first | refine Br.t ?_ | refine Br.f ?_ | (refine Br.pos ?_ ?_; focus (with_reducible assumption)) | (refine Br.neg ?_ ?_; focus (with_reducible assumption)) | (refine Br.dpos ?_ ?_; focus (first | with_reducible exact rfl | with_reducible exact Int.le_refl _ | with_reducible assumption)) | (refine Br.dneg ?_ ?_; focus (with_reducible assumption)) | (refine Br.d (fun _ => ?_) (fun _ => ?_) <;> (first | (exfalso; omega; done) | skip)) | refine Br.n ?_ | (refine Br.s (fun _ => ?_) (fun _ => ?_) <;> (first | (exfalso; omega; done) | skip)) | (refine Br.mk (fun _ => ?_) (fun _ => ?_) <;> (first | (exfalso; omega; done) | skip)))
               | (refine regv_id ?_; first | refine RegV.d ?_)
               | refine NilB.mk (fun b hb => ?_)
               | (refine alv_and ?_ ?_; focus (first | rfl | done))
               | refine DrawV.mk [] ?_
               | (refine appc_id ?_; first | refine AppC.growA ?_ | refine AppC.place ?_)
               | refine rowsK_of ?_)
      all_goals (try (conv => whnf))
      refine ⟨ps.length - (i + 1), by omega, backA (n := 81) (spec := nwSpec f ps (i + 1)) (hps := closedH ps cl vs L) (AtS.mk [] [0, 1, 2, 3] rfl (by simp) rfl ?_ ?_) ?_⟩
      · refine ⟨⟨_, rfl, VwB.refl⟩, ⟨_, rfl, VwB_near cl vs⟩, ?_⟩
        (repeat' (first | exact trivial | exact rfl | with_reducible assumption | (refine And.intro ?_ ?_) | (refine Exists.intro _ (And.intro rfl ?_)) | (refine Exists.intro _ (Exists.intro _ (And.intro rfl (And.intro rfl ?_)))) | (refine Or.inl ⟨rfl, rfl, ?_⟩) | (refine Or.inl ⟨rfl, ?_⟩; focus (fail_if_success (refine And.intro ?_ ?_))) | (refine Or.inl (?_ : (_ : Nat) = _ ∧ _); refine ⟨?_, ?_⟩; focus (first | (simp only [List.length_map]; done) | (simp only [List.length_map, List.length_append, List.length_cons, List.length_nil]; done))) | exact Or.inl rfl | (refine Or.inr (Or.inr ⟨?_, ?_⟩)) | (refine Or.inr ⟨?_, ?_⟩) | (refine fun h => ?_; first | exact h | exact rfl | (cases h; done)) | (refine om8 ?_; simp only [← List.map_drop, ← List.map_take]; exact rfl) | ((first | refine om1 ?_ | refine om2 ?_ | refine om3 ?_ | refine om4 ?_ | refine om5 ?_ | refine om6 ?_ | refine om7 ?_); first | (simp only [List.length_map]; done) | (simp only [List.length_map]; omega) | omega)))
      · unfold nwSpec
        (repeat' (first | exact trivial | exact rfl | with_reducible assumption | (refine And.intro ?_ ?_) | (refine Exists.intro _ (And.intro rfl ?_)) | (refine Exists.intro _ (Exists.intro _ (And.intro rfl (And.intro rfl ?_)))) | (refine Or.inl ⟨rfl, rfl, ?_⟩) | (refine Or.inl ⟨rfl, ?_⟩; focus (fail_if_success (refine And.intro ?_ ?_))) | (refine Or.inl (?_ : (_ : Nat) = _ ∧ _); refine ⟨?_, ?_⟩; focus (first | (simp only [List.length_map]; done) | (simp only [List.length_map, List.length_append, List.length_cons, List.length_nil]; done))) | exact Or.inl rfl | (refine Or.inr (Or.inr ⟨?_, ?_⟩)) | (refine Or.inr ⟨?_, ?_⟩) | (refine fun h => ?_; first | exact h | exact rfl | (cases h; done)) | (refine om8 ?_; simp only [← List.map_drop, ← List.map_take]; exact rfl) | ((first | refine om1 ?_ | refine om2 ?_ | refine om3 ?_ | refine om4 ?_ | refine om5 ?_ | refine om6 ?_ | refine om7 ?_); first | (simp only [List.length_map]; done) | (simp only [List.length_map]; omega) | omega)))
      · intro w0 M c a ds hm hJ hS
        obtain ⟨hJ, hMM⟩ := hJ _ rfl
        rw [← hLs] at hS
        exact nwHead hi0 hS hm hJ hvl (by omega)
    · have hie : i = ps.length := by omega
      subst hie
      rw [show headH ps cl vs ps.length = closedH ps cl vs (nwL ps ps.length) by unfold headH; rw [if_neg hip]]
      have hLl := nwL_length ps ps.length
      have hLb := nwL_len ps ps.length
      generalize nwL ps ps.length = L at hLl hLb ⊢
      unfold nwSpec closedH
      repeat' (conv => whnf
               first
               | (refine get_id ?_; first | refine Get.mk _ rfl ?_)
               | (refine need_id ?_; first | refine Need.a ?_)
               | (refine eqk_id ?_; first | refine EqK.a ?_)
               | (refine br_id ?_; first | refine Br.t ?_ | refine Br.f ?_ | (refine Br.pos ?_ ?_; focus (with_reducible assumption)) | (refine Br.neg ?_ ?_; focus (with_reducible assumption)) | (refine Br.dpos ?_ ?_; focus (first | with_reducible exact rfl | with_reducible exact Int.le_refl _ | with_reducible assumption)) | (refine Br.dneg ?_ ?_; focus (with_reducible assumption)) | (refine Br.d (fun _ => ?_) (fun _ => ?_) <;> (first | (exfalso; omega; done) | skip)) | refine Br.n ?_ | (refine Br.s (fun _ => ?_) (fun _ => ?_) <;> (first | (exfalso; omega; done) | skip)) | (refine Br.mk (fun _ => ?_) (fun _ => ?_) <;> (first | (exfalso; omega; done) | skip)))
               | (refine regv_id ?_; first | refine RegV.d ?_)
               | refine NilB.mk (fun b hb => ?_)
               | (refine alv_and ?_ ?_; focus (first | rfl | done))
               | refine DrawV.mk [] ?_
               | (refine appc_id ?_; first | refine AppC.growA ?_ | refine AppC.place ?_)
               | refine rowsK_of ?_)
      all_goals (try (conv => whnf))
      refine LoopV.ns (nwI2 ps L) ps.length ?_ ?_
      · refine backA (n := 81) (spec := spec2 ps.length 0) (hps := closedH ps cl vs L) (AtS.mk [] [0, 1, 2, 3] rfl (by simp) rfl ?_ ?_) ?_
        · refine ⟨⟨_, rfl, VwB.refl⟩, ⟨_, rfl, VwB_near cl vs⟩, ?_⟩
          (repeat' (first | exact trivial | exact rfl | with_reducible assumption | (refine And.intro ?_ ?_) | (refine Exists.intro _ (And.intro rfl ?_)) | (refine Exists.intro _ (Exists.intro _ (And.intro rfl (And.intro rfl ?_)))) | (refine Or.inl ⟨rfl, rfl, ?_⟩) | (refine Or.inl ⟨rfl, ?_⟩; focus (fail_if_success (refine And.intro ?_ ?_))) | (refine Or.inl (?_ : (_ : Nat) = _ ∧ _); refine ⟨?_, ?_⟩; focus (first | (simp only [List.length_map]; done) | (simp only [List.length_map, List.length_append, List.length_cons, List.length_nil]; done))) | exact Or.inl rfl | (refine Or.inr (Or.inr ⟨?_, ?_⟩)) | (refine Or.inr ⟨?_, ?_⟩) | (refine fun h => ?_; first | exact h | exact rfl | (cases h; done)) | (refine om8 ?_; simp only [← List.map_drop, ← List.map_take]; exact rfl) | ((first | refine om1 ?_ | refine om2 ?_ | refine om3 ?_ | refine om4 ?_ | refine om5 ?_ | refine om6 ?_ | refine om7 ?_); first | (simp only [List.length_map]; done) | (simp only [List.length_map]; omega) | omega)))
        · unfold spec2
          (repeat' (first | exact trivial | exact rfl | with_reducible assumption | (refine And.intro ?_ ?_) | (refine Exists.intro _ (And.intro rfl ?_)) | (refine Exists.intro _ (Exists.intro _ (And.intro rfl (And.intro rfl ?_)))) | (refine Or.inl ⟨rfl, rfl, ?_⟩) | (refine Or.inl ⟨rfl, ?_⟩; focus (fail_if_success (refine And.intro ?_ ?_))) | (refine Or.inl (?_ : (_ : Nat) = _ ∧ _); refine ⟨?_, ?_⟩; focus (first | (simp only [List.length_map]; done) | (simp only [List.length_map, List.length_append, List.length_cons, List.length_nil]; done))) | exact Or.inl rfl | (refine Or.inr (Or.inr ⟨?_, ?_⟩)) | (refine Or.inr ⟨?_, ?_⟩) | (refine fun h => ?_; first | exact h | exact rfl | (cases h; done)) | (refine om8 ?_; simp only [← List.map_drop, ← List.map_take]; exact rfl) | ((first | refine om1 ?_ | refine om2 ?_ | refine om3 ?_ | refine om4 ?_ | refine om5 ?_ | refine om6 ?_ | refine om7 ?_); first | (simp only [List.length_map]; done) | (simp only [List.length_map]; omega) | omega)))
        · intro w0 M c a ds hm hJ hS
          obtain ⟨hJ, hMM⟩ := hJ _ rfl
          exact nwHead2 hpos hLl (i := 0) (by rw [show srtL L 0 = L by simp [srtL]]; exact hS) hm hJ hvl (by omega)
      rintro m tm hp ⟨i, cl, vs, hi, rfl, hvl, rfl, rfl⟩
      by_cases hin : i < ps.length
      · rw [show head2 ps cl vs L i = _ by unfold head2; rw [if_pos hin]]
        have hs := hsort (L.getD i []) (by have := hLb i; omega)
        have hgi : nth ((valR vs).set i [.own 4 (L.getD i []).length]) i = some [.own 4 (L.getD i []).length] := by
          rw [nth_eq, List.getElem?_set_self (by simpa [valR] using (by omega : i < vs.length))]
        unfold spec2
        repeat' (conv => whnf
                 first
                 | (refine get_id ?_; first | refine Get.mk _ rfl ?_ | refine Get.mk _ (hgi) ?_)
                 | (refine need_id ?_; first | refine Need.a ?_)
                 | (refine eqk_id ?_; first | refine EqK.a ?_)
                 | (refine br_id ?_; first | refine Br.t ?_ | refine Br.f ?_ | (refine Br.pos ?_ ?_; focus (with_reducible assumption)) | (refine Br.neg ?_ ?_; focus (with_reducible assumption)) | (refine Br.dpos ?_ ?_; focus (first | with_reducible exact rfl | with_reducible exact Int.le_refl _ | with_reducible assumption)) | (refine Br.dneg ?_ ?_; focus (with_reducible assumption)) | (refine Br.d (fun _ => ?_) (fun _ => ?_) <;> (first | (exfalso; omega; done) | skip)) | refine Br.n ?_ | (refine Br.s (fun _ => ?_) (fun _ => ?_) <;> (first | (exfalso; omega; done) | skip)) | (refine Br.mk (fun _ => ?_) (fun _ => ?_) <;> (first | (exfalso; omega; done) | skip)))
                 | (refine regv_id ?_; first | refine RegV.d ?_)
                 | refine NilB.mk (fun b hb => ?_)
                 | (refine alv_and ?_ ?_; focus (first | rfl | done))
                 | refine DrawV.mk [] ?_
                 | (refine appc_id ?_; first | refine AppC.growA ?_ | refine AppC.place ?_)
                 | refine rowsK_of ?_)
        all_goals (try (conv => whnf))
        refine CallL.s (CallS.mk [4] [] [.own 0 (L.getD i []).length] [intB (L.getD i [])] _ (by simp) rfl ⟨⟨_, rfl, trivial, rfl, rfl, rfl, .inl ⟨rfl, rfl, rfl⟩⟩, rfl⟩ ⟨⟨rfl, rfl⟩, rfl⟩ hs ?_)
        rintro _ _ ⟨rfl, rfl⟩
        refine ⟨rfl, rfl, rfl, ?_⟩
        repeat' (conv => whnf
                 first
                 | (refine get_id ?_; first | refine Get.mk _ rfl ?_)
                 | (refine need_id ?_; first | refine Need.a ?_)
                 | (refine eqk_id ?_; first | refine EqK.a ?_)
                 | (refine br_id ?_; first | refine Br.t ?_ | refine Br.f ?_ | (refine Br.pos ?_ ?_; focus (with_reducible assumption)) | (refine Br.neg ?_ ?_; focus (with_reducible assumption)) | (refine Br.dpos ?_ ?_; focus (first | with_reducible exact rfl | with_reducible exact Int.le_refl _ | with_reducible assumption)) | (refine Br.dneg ?_ ?_; focus (with_reducible assumption)) | (refine Br.d (fun _ => ?_) (fun _ => ?_) <;> (first | (exfalso; omega; done) | skip)) | refine Br.n ?_ | (refine Br.s (fun _ => ?_) (fun _ => ?_) <;> (first | (exfalso; omega; done) | skip)) | (refine Br.mk (fun _ => ?_) (fun _ => ?_) <;> (first | (exfalso; omega; done) | skip)))
                 | (refine regv_id ?_; first | refine RegV.d ?_)
                 | refine NilB.mk (fun b hb => ?_)
                 | (refine alv_and ?_ ?_; focus (first | rfl | done))
                 | refine DrawV.mk [] ?_
                 | (refine appc_id ?_; first | refine AppC.growA ?_ | refine AppC.place ?_)
                 | refine rowsK_of ?_)
        all_goals (try (conv => whnf))
        refine ⟨ps.length - (i + 1), by omega, backA (n := 81) (spec := spec2 ps.length (i + 1)) (hps := [some (intB ps), some (nearB false ((valR vs).set i [.own 4 (L.getD i []).length])), some (treeB ps.length), some (nsB ((nwG vs (srtL L i)).set i none)), some (intB (sortI (L.getD i [])))]) (AtS.mk [] [0, 1, 2, 3, 4] rfl (by simp) rfl ?_ ?_) ?_⟩
        · (repeat' (first | exact trivial | exact rfl | with_reducible assumption | (refine And.intro ?_ ?_) | (refine Exists.intro _ (And.intro rfl ?_)) | (refine Exists.intro _ (Exists.intro _ (And.intro rfl (And.intro rfl ?_)))) | (refine Or.inl ⟨rfl, rfl, ?_⟩) | (refine Or.inl ⟨rfl, ?_⟩; focus (fail_if_success (refine And.intro ?_ ?_))) | (refine Or.inl (?_ : (_ : Nat) = _ ∧ _); refine ⟨?_, ?_⟩; focus (first | (simp only [List.length_map]; done) | (simp only [List.length_map, List.length_append, List.length_cons, List.length_nil]; done))) | exact Or.inl rfl | (refine Or.inr (Or.inr ⟨?_, ?_⟩)) | (refine Or.inr ⟨?_, ?_⟩) | (refine fun h => ?_; first | exact h | exact rfl | (cases h; done)) | (refine om8 ?_; simp only [← List.map_drop, ← List.map_take]; exact rfl) | ((first | refine om1 ?_ | refine om2 ?_ | refine om3 ?_ | refine om4 ?_ | refine om5 ?_ | refine om6 ?_ | refine om7 ?_); first | (simp only [List.length_map]; done) | (simp only [List.length_map]; omega) | omega)))
          exact VwR_set1 rfl
        · unfold spec2
          (repeat' (first | exact trivial | exact rfl | with_reducible assumption | (refine And.intro ?_ ?_) | (refine Exists.intro _ (And.intro rfl ?_)) | (refine Exists.intro _ (Exists.intro _ (And.intro rfl (And.intro rfl ?_)))) | (refine Or.inl ⟨rfl, rfl, ?_⟩) | (refine Or.inl ⟨rfl, ?_⟩; focus (fail_if_success (refine And.intro ?_ ?_))) | (refine Or.inl (?_ : (_ : Nat) = _ ∧ _); refine ⟨?_, ?_⟩; focus (first | (simp only [List.length_map]; done) | (simp only [List.length_map, List.length_append, List.length_cons, List.length_nil]; done))) | exact Or.inl rfl | (refine Or.inr (Or.inr ⟨?_, ?_⟩)) | (refine Or.inr ⟨?_, ?_⟩) | (refine fun h => ?_; first | exact h | exact rfl | (cases h; done)) | (refine om8 ?_; simp only [← List.map_drop, ← List.map_take]; exact rfl) | ((first | refine om1 ?_ | refine om2 ?_ | refine om3 ?_ | refine om4 ?_ | refine om5 ?_ | refine om6 ?_ | refine om7 ?_); first | (simp only [List.length_map]; done) | (simp only [List.length_map]; omega) | omega)))
        · intro w0 M c a ds hm hJ hS
          obtain ⟨hJ, hMM⟩ := hJ _ rfl
          have hsl := srtL_length L (i := i) (by omega)
          obtain ⟨c1, x, w1, hS1⟩ := closeOne hS hm hJ hMM (by omega) (by omega) (sortI_len _).symm (spec2_all _ _)
          rw [srtL_succ L (by omega)] at hS1
          obtain ⟨c2, tm2, hp2, w2, hI, hS2⟩ := nwHead2 hpos hLl hS1 hm hJ (by simpa using hvl) (by omega)
          exact ⟨c2, tm2, hp2, w2.trans w1, hI, hS2⟩
      · rw [show head2 ps cl vs L i = _ by unfold head2; rw [if_neg hin]]
        unfold spec2
        repeat' (conv => whnf
                 first
                 | (refine get_id ?_; first | refine Get.mk _ rfl ?_)
                 | (refine need_id ?_; first | refine Need.a ?_)
                 | (refine eqk_id ?_; first | refine EqK.a ?_)
                 | (refine br_id ?_; first | refine Br.t ?_ | refine Br.f ?_ | (refine Br.pos ?_ ?_; focus (with_reducible assumption)) | (refine Br.neg ?_ ?_; focus (with_reducible assumption)) | (refine Br.dpos ?_ ?_; focus (first | with_reducible exact rfl | with_reducible exact Int.le_refl _ | with_reducible assumption)) | (refine Br.dneg ?_ ?_; focus (with_reducible assumption)) | (refine Br.d (fun _ => ?_) (fun _ => ?_) <;> (first | (exfalso; omega; done) | skip)) | refine Br.n ?_ | (refine Br.s (fun _ => ?_) (fun _ => ?_) <;> (first | (exfalso; omega; done) | skip)) | (refine Br.mk (fun _ => ?_) (fun _ => ?_) <;> (first | (exfalso; omega; done) | skip)))
                 | (refine regv_id ?_; first | refine RegV.d ?_)
                 | refine NilB.mk (fun b hb => ?_)
                 | (refine alv_and ?_ ?_; focus (first | rfl | done))
                 | refine DrawV.mk [] ?_
                 | (refine appc_id ?_; first | refine AppC.growA ?_ | refine AppC.place ?_)
                 | refine rowsK_of ?_)
        all_goals (try (conv => whnf))
        refine RetM.mk [] [] (.tup [treeX true ps (L.map sortI), I 0]) [] List.nodup_nil rfl rfl ?_ ?_ trivial ⟨rfl, rfl⟩
        · (repeat' (first | exact trivial | exact rfl | with_reducible assumption | (refine And.intro ?_ ?_) | (refine Exists.intro _ (And.intro rfl ?_)) | (refine Exists.intro _ (Exists.intro _ (And.intro rfl (And.intro rfl ?_)))) | (refine Or.inl ⟨rfl, rfl, ?_⟩) | (refine Or.inl ⟨rfl, ?_⟩; focus (fail_if_success (refine And.intro ?_ ?_))) | (refine Or.inl (?_ : (_ : Nat) = _ ∧ _); refine ⟨?_, ?_⟩; focus (first | (simp only [List.length_map]; done) | (simp only [List.length_map, List.length_append, List.length_cons, List.length_nil]; done))) | exact Or.inl rfl | (refine Or.inr (Or.inr ⟨?_, ?_⟩)) | (refine Or.inr ⟨?_, ?_⟩) | (refine fun h => ?_; first | exact h | exact rfl | (cases h; done)) | (refine om8 ?_; simp only [← List.map_drop, ← List.map_take]; exact rfl) | ((first | refine om1 ?_ | refine om2 ?_ | refine om3 ?_ | refine om4 ?_ | refine om5 ?_ | refine om6 ?_ | refine om7 ?_); first | (simp only [List.length_map]; done) | (simp only [List.length_map]; omega) | omega)))
          · simp [intB, mkB, intR]
          · exact List.take_of_length_le (by simp [intB, mkB, intR])
          · exact List.take_of_length_le (by simp [hLl])
        · simp only [Sv.Fr, Sv.Fr.go, true_and, and_true]
          exact ⟨int_fr ps, lists_fr (L.map sortI)⟩
end Go.Proofs.Ytiklbnianbejdaa
