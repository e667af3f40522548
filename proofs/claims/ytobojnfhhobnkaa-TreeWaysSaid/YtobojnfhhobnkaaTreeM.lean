/- tree.New: its lists, opened and closed. -/
import Derived.Test.YtobojnfhhobnkaaTreeI
import Derived.Test.YtobojnfhhobnkaaEngNs
set_option linter.unusedSimpArgs false
set_option maxRecDepth 20000
set_option linter.unusedVariables false
namespace Go.Proofs.Ytobojnfhhobnkaa
open Go Go.Eng Go.RowKit

theorem rowsK_of {l : List (List Sv)} {K : List (List Sv) → Prop} (h : K l) : rowsK l K := by rw [rowsK_eq]; exact h
abbrev nearB (cl : Bool) (rows : List (List Sv)) : Blk := ⟨22, 1, cl, true, rows⟩
abbrev treeB (n : Nat) : Blk := ⟨57, 2, false, false, [[.own 0 n, .own 1 n]]⟩
abbrev nsB (G : List (Option (Value × List Int))) : Blk := ⟨0, 0, true, false, nsRows G⟩
def nwG (vs : List Value) (L : List (List Int)) : List (Option (Value × List Int)) := List.zipWith (fun x l => some (x, l)) vs L
def valR (vs : List Value) : List (List Sv) := vs.map fun x => [.val x]
def opR (vs : List Value) (i p a b : Nat) : List (List Sv) := ((valR vs).set i [.own 4 a]).set p [.own 5 b]
def addE (L : List (List Int)) (i : Nat) (x : Int) : List (List Int) := L.set i (L.getD i [] ++ [x])
/-- The lists behind i nodes. -/
def nwL (ps : List Int) : Nat → List (List Int)
  | 0 => List.replicate ps.length []
  | i + 1 => if ps.getD i 0 < 0 then nwL ps i else addE (addE (nwL ps i) i (ps.getD i 0)) (ps.getD i 0).toNat i
def closedH (ps : List Int) (cl : Bool) (vs : List Value) (L : List (List Int)) : Hp := [some (intB ps), some (nearB cl (valR vs)), some (treeB ps.length), some (nsB (nwG vs L))]
def openH (ps : List Int) (vs : List Value) (L : List (List Int)) (i p : Nat) : Hp :=
  [some (intB ps), some (nearB false (opR vs i p (L.getD i []).length (L.getD p []).length)), some (treeB ps.length), some (nsB (((nwG vs L).set i none).set p none)), some (intB (L.getD i [])), some (intB (L.getD p []))]
def headH (ps : List Int) (cl : Bool) (vs : List Value) (i : Nat) : Hp := if i < ps.length ∧ 0 ≤ ps.getD i 0 then openH ps vs (nwL ps i) i (ps.getD i 0).toNat else closedH ps cl vs (nwL ps i)
def nwSpec (f : Bool) (ps : List Int) (i : Nat) : List (Nat × Sv) := [(6, .ptr 2 0 0), (26, intX f ps), (27, I ps.length), (28, I i)]
def nwI (f : Bool) (ps : List Int) (m : Nat) (tm : List Sv) (hp : Hp) : Prop := ∃ i cl vs, i ≤ ps.length ∧ m = ps.length - i ∧ vs.length = ps.length ∧ tm = mkT 81 0 (nwSpec f ps i) ∧ hp = headH ps cl vs i
theorem opR_i (g : List Sv → List Sv) {vs : List Value} {i p a b k : Nat} (hk : k = i) (hi : i < vs.length) (hne : i ≠ p) : nth ((opR vs i p a b).map g) k = some (g [.own 4 a]) := by
  subst hk
  rw [nth_eq, List.getElem?_map, opR, List.getElem?_set_ne (fun e => hne e.symm), List.getElem?_set_self (by simpa [valR] using hi)]
  rfl
theorem opR_p (g g' : List Sv → List Sv) {vs : List Value} {i p a b k m : Nat} {r : List Sv} (hk : k = p) (hm : m ≠ p) (hp : p < vs.length) : nth ((((opR vs i p a b).map g').set m r).map g) k = some (g (g' [.own 5 b])) := by
  subst hk
  rw [nth_eq, List.getElem?_map, List.getElem?_set_ne hm, List.getElem?_map, opR, List.getElem?_set_self (by simpa [valR] using hp)]
  rfl
theorem addE_len (L : List (List Int)) (i : Nat) (x : Int) : (addE L i x).length = L.length := by simp [addE]
theorem addE_at (L : List (List Int)) (i : Nat) (x : Int) (r : Nat) : ((addE L i x).getD r []).length ≤ (L.getD r []).length + 1 := by
  unfold addE
  rw [List.getD_eq_getElem?_getD, List.getElem?_set]
  split
  · rename_i h
    subst h
    split
    · simp
    · simp
  · rw [← List.getD_eq_getElem?_getD]; omega
theorem nwL_length (ps : List Int) : ∀ i, (nwL ps i).length = ps.length
  | 0 => by simp [nwL]
  | i + 1 => by
    unfold nwL
    split
    · exact nwL_length ps i
    · rw [addE_len, addE_len]; exact nwL_length ps i
theorem nwL_len (ps : List Int) : ∀ i r, ((nwL ps i).getD r []).length ≤ 2 * i
  | 0, r => by
    unfold nwL
    rw [List.getD_eq_getElem?_getD, List.getElem?_replicate]
    split <;> simp
  | i + 1, r => by
    have := nwL_len ps i r
    unfold nwL
    split
    · omega
    · have h1 := addE_at (addE (nwL ps i) i (ps.getD i 0)) (ps.getD i 0).toNat i r
      have h2 := addE_at (nwL ps i) i (ps.getD i 0) r
      omega

theorem VwR_of {hp : Hp} {nl : Nat → Bool} {sel : List Nat} : ∀ {rs rs1 : List (List Sv)}, rs.length = rs1.length → (∀ (i : Nat) r r1, rs[i]? = some r → rs1[i]? = some r1 → VwL hp nl sel r r1) → VwR hp nl sel rs rs1
  | [], [], _, _ => rfl
  | [], _ :: _, h, _ => by simp at h
  | _ :: _, [], h, _ => by simp at h
  | r :: rs, r1 :: rs1, h, g => ⟨g 0 r r1 rfl rfl, VwR_of (by simpa using h) fun i x y hx hy => g (i + 1) x y (by simpa using hx) (by simpa using hy)⟩
theorem mkT_all {q : Sv → Bool} (hq : q .any = true) : ∀ (n i : Nat) (l : List (Nat × Sv)), l.all (fun p => q p.2) = true → ∀ t, q (tmGet (mkT n i l) t) = true
  | 0, _, _, _, t => by simpa [mkT, tmGet, nth] using hq
  | n + 1, i, [], h, t => by
    cases t with
    | zero => simpa [mkT, tmGet, nth] using hq
    | succ t => exact mkT_all hq n (i + 1) [] h t
  | n + 1, i, (k, s) :: r, h, t => by
    simp only [List.all_cons, Bool.and_eq_true] at h
    simp only [mkT]
    split
    · cases t with
      | zero => exact h.1
      | succ t => exact mkT_all hq n (i + 1) r h.2 t
    · cases t with
      | zero => simpa [tmGet, nth] using hq
      | succ t => exact mkT_all hq n (i + 1) ((k, s) :: r) (by simp [h.1, h.2]) t
def noGhB (kg : Nat) : Nat → Hp → Bool
  | _, [] => true
  | i, none :: r => noGhB kg (i + 1) r
  | i, some b :: r => (Nat.beq i kg || b.grow || !Nat.beq b.wd 0) && noGhB kg (i + 1) r
theorem noGhB_at {kg : Nat} : ∀ {hp : Hp} {i : Nat}, noGhB kg i hp = true → ∀ k blk, i + k ≠ kg → hp[k]? = some (some blk) → blk.grow = false → blk.wd ≠ 0
  | [], _, _, k, blk, _, hb, _ => by simp at hb
  | none :: r, i, h, k, blk, hk, hb, hg => by
    cases k with
    | zero => simp at hb
    | succ k => exact noGhB_at (i := i + 1) h k blk (by omega) (by simpa using hb) hg
  | some b :: r, i, h, k, blk, hk, hb, hg => by
    simp only [noGhB, Bool.and_eq_true, Bool.or_eq_true] at h
    cases k with
    | zero =>
      simp only [List.getElem?_cons_zero, Option.some.injEq] at hb
      subst hb
      rcases h.1 with (h1 | h1) | h1
      · exact absurd (Nat.eq_of_beq_eq_true h1) hk
      · rw [hg] at h1; cases h1
      · intro e
        rw [e] at h1
        cases h1
    | succ k => exact noGhB_at (i := i + 1) h.2 k blk (by omega) (by simpa using hb) hg
theorem NoGh.of {kg : Nat} {hp : Hp} (h : noGhB kg 0 hp = true) : NoGh kg hp := fun k blk hk hb hg => noGhB_at h k blk (by omega) hb hg
def othB (p sk : Nat → Bool) : Nat → Hp → Bool
  | _, [] => true
  | i, none :: r => othB p sk (i + 1) r
  | i, some b :: r => (match sk i with | true => true | false => match b.clean with | true => true | false => b.rows.all (Sv.all.allL p)) && othB p sk (i + 1) r
theorem othB_at {p sk : Nat → Bool} : ∀ {hp : Hp} {i : Nat}, othB p sk i hp = true → ∀ k blk, sk (i + k) = false → hp[k]? = some (some blk) → blk.clean = false → blk.rows.all (Sv.all.allL p) = true
  | [], _, _, k, blk, _, hb, _ => by simp at hb
  | none :: r, i, h, k, blk, hk, hb, hg => by
    cases k with
    | zero => simp at hb
    | succ k => exact othB_at (i := i + 1) h k blk (by rw [show i + 1 + k = i + (k + 1) by omega]; exact hk) (by simpa using hb) hg
  | some b :: r, i, h, k, blk, hk, hb, hg => by
    simp only [othB, Bool.and_eq_true] at h
    cases k with
    | zero =>
      simp only [List.getElem?_cons_zero, Option.some.injEq] at hb
      subst hb
      have h1 := h.1
      rw [Nat.add_zero] at hk
      rw [hk, hg] at h1
      exact h1
    | succ k => exact othB_at (i := i + 1) h.2 k blk (by rw [show i + 1 + k = i + (k + 1) by omega]; exact hk) (by simpa using hb) hg
theorem nwG_get {vs : List Value} {L : List (List Int)} {j : Nat} {x : Value} {l : List Int} (h1 : vs[j]? = some x) (h2 : L[j]? = some l) : (nwG vs L)[j]? = some (some (x, l)) := by
  unfold nwG
  rw [List.getElem?_zipWith, h1, h2]
theorem nwG_set {vs : List Value} {L : List (List Int)} (h : vs.length = L.length) (j : Nat) (x : Value) (l : List Int) : (nwG vs L).set j (some (x, l)) = nwG (vs.set j x) (L.set j l) := by
  refine List.ext_getElem? fun k => ?_
  unfold nwG
  rw [List.getElem?_set, List.getElem?_zipWith, List.getElem?_zipWith, List.getElem?_set, List.getElem?_set]
  by_cases hjk : j = k
  · subst hjk
    simp only [if_true, List.length_zipWith]
    by_cases hj : j < vs.length
    · rw [if_pos (by omega), if_pos hj, if_pos (by omega)]
    · rw [if_neg (by omega), if_neg hj]
  · simp only [if_neg hjk]
theorem valR_set (vs : List Value) (j : Nat) (x : Value) : (valR vs).set j [.val x] = valR (vs.set j x) := by simp [valR, List.map_set]
theorem valR_get {vs : List Value} {j : Nat} {x : Value} (h : vs[j]? = some x) : (valR vs)[j]? = some [.val x] := by simp [valR, h]
section
variable {w0 : World} {M : Frm} {c : Cx} {tm : List Sv} {a : Act} {ds : List Deferred} {ps : List Int} {cl : Bool} {vs : List Value} {L : List (List Int)}
/-- One list of a closed state is opened. -/
theorem openOne (hS : St w0 M c tm [some (intB ps), some (nearB cl (valR vs)), some (treeB ps.length), some (nsB (nwG vs L))] a ds) (hm : M.m = 0) (hJ : M.J = NsJ 3 w0) (hvl : vs.length = L.length) {i : Nat} (hi : i < L.length) :
    ∃ c', c'.w = c.w ∧ St w0 M c' tm [some (intB ps), some (nearB false ((valR vs).set i [.own 4 (L.getD i []).length])), some (treeB ps.length), some (nsB ((nwG vs L).set i none)), some (intB (L.getD i []))] a ds := by
  have h1 : vs[i]? = some vs[i] := List.getElem?_eq_getElem _
  have h2 : L[i]? = some (L.getD i []) := by simp [hi]
  exact hS.nsOpen hm hJ (kn := 1) (kg := 3) (by omega) (NoGh.of rfl) rfl rfl (valR_get h1) (nwG_get h1 h2)
theorem openTwo (hS : St w0 M c tm (closedH ps cl vs L) a ds) (hm : M.m = 0) (hJ : M.J = NsJ 3 w0) (hvl : vs.length = L.length) {i p : Nat} (hi : i < L.length) (hp : p < L.length) (hne : i ≠ p) :
    ∃ c', c'.w = c.w ∧ St w0 M c' tm (openH ps vs L i p) a ds := by
  obtain ⟨c1, w1, hS1⟩ := openOne hS hm hJ hvl hi
  have h1 : vs[p]? = some vs[p] := List.getElem?_eq_getElem _
  have h2 : L[p]? = some (L.getD p []) := by simp [hp]
  obtain ⟨c2, w2, hS2⟩ := hS1.nsOpen hm hJ (kn := 1) (kg := 3) (r := p) (x := vs[p]) (l := L.getD p []) (by omega) (NoGh.of rfl) rfl rfl (by rw [List.getElem?_set_ne hne]; exact valR_get h1) (by rw [List.getElem?_set_ne hne]; exact nwG_get h1 h2)
  exact ⟨c2, w2.trans w1, hS2⟩

theorem st_to {hp : Hp} (hS : St w0 M c tm hp a ds) {hp' : Hp} (h : hp = hp') : St w0 M c tm hp' a ds := h ▸ hS
/-- One list is closed. -/
theorem closeOne {i n : Nat} {l : List Int} (hS : St w0 M c tm [some (intB ps), some (nearB false ((valR vs).set i [.own 4 n])), some (treeB ps.length), some (nsB ((nwG vs L).set i none)), some (intB l)] a ds) (hm : M.m = 0) (hJ : M.J = NsJ 3 w0) (hMM : ∀ b, ¬ M.M b) (hvl : vs.length = L.length) (hi : i < L.length) (hn : n = l.length)
    (ht : ∀ t, (tmGet tm t).all (fun j => Nat.blt j 4) = true) :
    ∃ c' x, c'.w = c.w ∧ St w0 M c' tm (closedH ps false (vs.set i x) (L.set i l)) a ds := by
  have hlt : ∀ s : Sv, s.all (fun j => Nat.blt j 4) = true → s.all (fun j => j != 4) = true := fun s h => all_mono (fun k hk => by have := blt_lt hk; simp; omega) s h
  obtain ⟨c1, x, w1, hS1⟩ := hS.nsClose hm hJ hMM (kn := 1) (kg := 3) (k := 4) (r := i) (by omega) (by omega) (by omega) (NoGh.of rfl) rfl rfl rfl (List.getElem?_set_self (by simpa [valR, hvl] using hi)) hn (List.getElem?_set_self (by simpa [nwG, hvl] using hi)) (fun t => hlt _ (ht t))
    (fun j row hj hrow => by
      rw [List.getElem?_set_ne (fun e => hj e.symm)] at hrow
      unfold valR at hrow
      rw [List.getElem?_map] at hrow
      cases hv : vs[j]? with
      | none => rw [hv] at hrow; cases hrow
      | some y => rw [hv] at hrow; cases hrow; rfl)
    (fun j blk h1 h2 hb hc => othB_at (p := fun j => j != 4) (sk := fun j => Nat.beq j 1 || Nat.beq j 4) (i := 0) rfl j blk (by
      rw [Nat.zero_add, Bool.or_eq_false_iff]
      exact ⟨by cases hh : Nat.beq j 1 with | true => exact absurd (Nat.eq_of_beq_eq_true hh) h1 | false => rfl, by cases hh : Nat.beq j 4 with | true => exact absurd (Nat.eq_of_beq_eq_true hh) h2 | false => rfl⟩) hb hc)
  obtain ⟨c2, w2, hS2⟩ := hS1.trunc hm 4 ht (fun k blk hk hb hc => by
    match k, hk with
    | 0, _ => cases hb; cases hc
    | 1, _ =>
      cases hb
      rw [List.all_eq_true]
      intro row hrow
      rw [List.set_set, valR_set] at hrow
      simp only [valR, List.mem_map] at hrow
      obtain ⟨y, _, rfl⟩ := hrow
      rfl
    | 2, _ => cases hb; rfl
    | 3, _ => cases hb; cases hc)
  refine ⟨c2, x, w2.trans w1, st_to hS2 ?_⟩
  show [some (intB ps), some (nearB false (((valR vs).set i [.own 4 n]).set i [.val x])), some (treeB ps.length), some (nsB (((nwG vs L).set i none).set i (some (x, l))))] = _
  rw [List.set_set, List.set_set, valR_set, nwG_set hvl]
  rfl

theorem closeTwo {i p n m : Nat} {l k : List Int} (hS : St w0 M c tm [some (intB ps), some (nearB false (opR vs i p n m)), some (treeB ps.length), some (nsB (((nwG vs L).set i none).set p none)), some (intB l), some (intB k)] a ds) (hm : M.m = 0) (hJ : M.J = NsJ 3 w0) (hMM : ∀ b, ¬ M.M b) (hvl : vs.length = L.length) (hi : i < L.length) (hp : p < L.length) (hne : i ≠ p)
    (hn : n = l.length) (hk : m = k.length) (ht : ∀ t, (tmGet tm t).all (fun j => Nat.blt j 4) = true) :
    ∃ c' vs', c'.w = c.w ∧ vs'.length = vs.length ∧ St w0 M c' tm (closedH ps false vs' ((L.set i l).set p k)) a ds := by
  have hlt : ∀ s : Sv, s.all (fun j => Nat.blt j 4) = true → s.all (fun j => j != 5) = true := fun s h => all_mono (fun k hk => by have := blt_lt hk; simp; omega) s h
  have hlt5 : ∀ s : Sv, s.all (fun j => Nat.blt j 4) = true → s.all (fun j => Nat.blt j 5) = true := fun s h => all_mono (fun k hk => by have := blt_lt hk; rw [Nat.blt_eq]; omega) s h
  obtain ⟨c1, x, w1, hS1⟩ := hS.nsClose hm hJ hMM (kn := 1) (kg := 3) (k := 5) (r := p) (by omega) (by omega) (by omega) (NoGh.of rfl) rfl rfl rfl (List.getElem?_set_self (by simpa [valR, hvl] using hp)) hk (List.getElem?_set_self (by simpa [nwG, hvl] using hp)) (fun t => hlt _ (ht t))
    (fun j row hj hrow => by
      rw [opR, List.getElem?_set_ne (fun e => hj e.symm), List.getElem?_set] at hrow
      split at hrow
      · split at hrow
        · cases hrow; rfl
        · cases hrow
      · unfold valR at hrow
        rw [List.getElem?_map] at hrow
        cases hv : vs[j]? with
        | none => rw [hv] at hrow; cases hrow
        | some y => rw [hv] at hrow; cases hrow; rfl)
    (fun j blk h1 h2 hb hc => othB_at (p := fun j => j != 5) (sk := fun j => Nat.beq j 1 || Nat.beq j 5) (i := 0) rfl j blk (by
      rw [Nat.zero_add, Bool.or_eq_false_iff]
      exact ⟨by cases hh : Nat.beq j 1 with | true => exact absurd (Nat.eq_of_beq_eq_true hh) h1 | false => rfl, by cases hh : Nat.beq j 5 with | true => exact absurd (Nat.eq_of_beq_eq_true hh) h2 | false => rfl⟩) hb hc)
  obtain ⟨c2, w2, hS2⟩ := hS1.trunc hm 5 (fun t => hlt5 _ (ht t)) (fun k blk hk hb hc => by
    match k, hk with
    | 0, _ => cases hb; cases hc
    | 1, _ =>
      cases hb
      rw [List.all_eq_true]
      intro row hrow
      rw [opR, List.set_set] at hrow
      rcases List.mem_or_eq_of_mem_set hrow with hrow | rfl
      · rcases List.mem_or_eq_of_mem_set hrow with hrow | rfl
        · simp only [valR, List.mem_map] at hrow
          obtain ⟨y, _, rfl⟩ := hrow
          rfl
        · rfl
      · rfl
    | 2, _ => cases hb; rfl
    | 3, _ => cases hb; cases hc
    | 4, _ => cases hb; cases hc)
  have hS3 : St w0 M c2 tm [some (intB ps), some (nearB false ((valR (vs.set p x)).set i [.own 4 n])), some (treeB ps.length), some (nsB ((nwG (vs.set p x) (L.set p k)).set i none)), some (intB l)] a ds := st_to hS2 (by
    show [some (intB ps), some (nearB false ((opR vs i p n m).set p [.val x])), some (treeB ps.length), some (nsB ((((nwG vs L).set i none).set p none).set p (some (x, k)))), some (intB l)] = _
    rw [opR, List.set_set, List.set_set, List.set_comm _ _ hne, valR_set, List.set_comm _ _ hne, nwG_set hvl])
  obtain ⟨c3, y, w3, hS4⟩ := closeOne hS3 hm hJ hMM (by simpa using hvl) (by simpa using hi) hn ht
  exact ⟨c3, (vs.set p x).set i y, w3.trans (w2.trans w1), by simp, by rw [List.set_comm _ _ hne]; exact hS4⟩
end
end Go.Proofs.Ytobojnfhhobnkaa
