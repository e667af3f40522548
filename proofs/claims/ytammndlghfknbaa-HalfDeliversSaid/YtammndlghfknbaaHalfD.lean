/- half: the plain part of HalfDelivers. -/
import Derived.Test.YtammndlghfknbaaHalfL
import Derived.Test.YtammndlghfknbaaHalfHears
set_option linter.unusedSimpArgs false
set_option maxRecDepth 20000
set_option linter.unusedVariables false
namespace Go.Proofs.Ytammndlghfknbaa
open Go Go.Eng Go.RowKit

/-- The message that is pushed behind k others. -/
def pm (k : Nat) : Msg := ⟨1, 0, 0, 1 + k, 0⟩
def Pn (p : Nat) : List Msg := (List.range p).map pm
theorem Pn_len (p : Nat) : (Pn p).length = p := by simp [Pn]
theorem Pn_succ (p : Nat) : Pn (p + 1) = Pn p ++ [pm p] := by simp [Pn, List.range_succ]
theorem Pn_get {p k : Nat} (h : k < (Pn p).length) : (Pn p)[k] = pm k := by simp [Pn]
theorem Pn_drop {p b : Nat} (h : b < p) : (Pn p).drop b = pm b :: (Pn p).drop (b + 1) := by
  rw [List.drop_eq_getElem_cons (by rw [Pn_len]; exact h), Pn_get]
theorem pm_valid {k : Nat} (h : k ≤ 1024) : (pm k).valid = true := by
  have h1 : (1 : Int) ≤ 1 + (k : Int) := by omega
  have h2 : 1 + (k : Int) ≤ 1099511627776 := by omega
  simp [Msg.valid, inB, pm, h1, h2]
theorem Pn_valid {p : Nat} (h : p ≤ 1024) : ∀ m ∈ Pn p, m.valid = true := fun m hm => by
  simp only [Pn, List.mem_map, List.mem_range] at hm
  obtain ⟨k, hk, rfl⟩ := hm
  exact pm_valid (by omega)
def fromE (b p : Nat) : Edge := ⟨1, b, (Pn p).drop b, 0⟩
def toE (c : Nat) : Edge := ⟨0, 0, [], c⟩
theorem fromE_len (b p : Nat) : (fromE b p).out.length = p - b := by simp [fromE, Pn_len]
theorem fromE_good {b p : Nat} (h : b ≤ p) (hp : p ≤ 1024) : (fromE b p).good = true := by
  rw [good_iff]
  refine ⟨?_, fun m hm => Pn_valid hp m (List.mem_of_mem_drop hm)⟩
  unfold Edge.fit
  rw [fromE_len]
  simp only [fromE]
  omega
theorem toE_good {c : Nat} (h : c ≤ 1024) : (toE c).good = true := by
  rw [good_iff]
  refine ⟨?_, fun m hm => by simp [toE] at hm⟩
  unfold Edge.fit
  simp [toE]
  omega
theorem push_from {b p : Nat} (h : b ≤ p) (hp : p < 1024) : pushS (fromE b p) (pm p) = (fromE b (p + 1), 0) := by
  have h1 := fromE_good h (by omega)
  have h2 := pm_valid (k := p) (by omega)
  have h3 := fromE_len b p
  unfold pushS
  rw [if_neg (by simp [h1]), if_neg (by simp [h2]), if_neg (by rw [h3]; simp only [fromE]; omega)]
  simp only [fromE]
  rw [Pn_succ, List.drop_append_of_le_length (by rw [Pn_len]; exact h)]
theorem heard_from {b p : Nat} (w : Nat) (h : b ≤ p) (hp : p ≤ 1024) (hw : w ≤ p) : heardS (fromE b p) w = (fromE (max b w) p, 0) := by
  have h1 := fromE_good h hp
  have h3 := fromE_len b p
  unfold heardS
  rw [if_neg (by simp [h1])]
  by_cases hbw : b < w
  · rw [if_pos (by rw [h3]; simp only [fromE]; omega), Nat.max_eq_right (by omega)]
    simp only [fromE, List.drop_drop]
    rw [show b + ((w : Int) - b).toNat = w by omega]
  · rw [if_neg (by simp only [fromE]; omega), Nat.max_eq_left (by omega)]
theorem fits_to {c : Nat} (h : c ≤ 1024) (n : Int) : (toE c).fits n = (n == (c : Int) + 1) := by
  have h1 : (c : Int) < 1099511627776 := by omega
  unfold Edge.fits
  rw [toE_good h]
  simp [toE, h1]
theorem take_to {c : Nat} (h : c ≤ 1024) : takeS (toE c) = (toE (c + 1), 0) := by
  unfold takeS
  rw [if_neg (by simp [toE_good h]), if_neg (by simp only [toE]; omega)]
  simp [toE]
def lst (s p : Nat) : List (Int × Msg) := (List.range (p - s)).map fun (k : Nat) => ((s : Int) + 1 + k, pm (s + k))
theorem lst_len (s p : Nat) : (lst s p).length = p - s := by simp [lst]
theorem lst_get {s p j : Nat} (h : j < (lst s p).length) : (lst s p)[j] = ((s : Int) + 1 + j, pm (s + j)) := by simp [lst]
theorem lst_cons {s p : Nat} (h : s < p) : lst s p = ((s : Int) + 1, pm s) :: lst (s + 1) p := by
  refine List.ext_getElem (by simp [lst_len]; omega) fun j h1 h2 => ?_
  rw [lst_get]
  cases j with
  | zero => simp
  | succ j =>
    rw [List.getElem_cons_succ, lst_get]
    congr 1
    · omega
    · congr 1; omega
theorem leftFrom_hi (s : Int) (p : Nat) : ∀ (n b : Nat), p - b = n → s ≤ b → leftFrom s b ((Pn p).drop b) = lst b p
  | 0, b, h, _ => by
    rw [List.drop_eq_nil_of_le (by rw [Pn_len]; omega)]
    simp [leftFrom, lst, h]
  | n + 1, b, h, hs => by
    rw [Pn_drop (by omega), leftFrom, if_neg (by omega), lst_cons (by omega)]
    congr 1
    exact leftFrom_hi s p n (b + 1) (by omega) (by omega)
theorem leftFrom_lo (s p : Nat) : ∀ (n b : Nat), s - b = n → b ≤ s → s ≤ p → leftFrom s b ((Pn p).drop b) = lst s p
  | 0, b, h, h1, _ => by
    rw [show s = b by omega]
    exact leftFrom_hi b p _ b rfl (by omega)
  | n + 1, b, h, h1, h2 => by
    rw [Pn_drop (by omega), leftFrom, if_pos (by omega)]
    exact leftFrom_lo s p n (b + 1) (by omega) (by omega) h2
theorem left_from {b p s : Nat} (h : b ≤ s) (hs : s ≤ p) (hp : p ≤ 1024) : leftS (fromE b p) s = lst s p := by
  unfold leftS
  rw [if_pos (fromE_good (by omega) hp)]
  exact leftFrom_lo s p _ b rfl h hs
/-- What is under way: a message with its number, or (number 0) a word. -/
structure Car where
  seq : Int
  msg : Msg
  word : Int
def Car.row (x : Car) : List Sv := [I x.seq, I x.msg.kind, I x.msg.obj, I x.msg.node, I x.msg.num, I x.msg.whr, I x.word]
def carB (u : List Car) : Blk := mkB 48 7 (u.map Car.row)
def Car.ok (c p : Nat) (x : Car) : Prop := (x.seq = 0 ∧ ∃ w : Nat, x.word = w ∧ w ≤ c) ∨ ∃ k : Nat, x.seq = (k : Int) + 1 ∧ k < p ∧ x.msg = pm k
theorem Car.ok_mono {c p c1 p1 : Nat} {x : Car} (h : x.ok c p) (hc : c ≤ c1) (hp : p ≤ p1) : x.ok c1 p1 := by
  rcases h with ⟨h1, w, h2, h3⟩ | ⟨k, h1, h2, h3⟩
  · exact .inl ⟨h1, w, h2, by omega⟩
  · exact .inr ⟨k, h1, by omega, h3⟩
structure Dl where
  i : Nat
  b : Nat
  p : Nat
  c : Nat
  u : List Car
structure Dl.ok (s : Dl) : Prop where
  bc : s.b ≤ s.c
  cp : s.c ≤ s.p
  pi : s.p ≤ s.i
  ui : s.u.length ≤ s.i
  cars : ∀ x ∈ s.u, x.ok s.c s.p
structure Mv where
  kind : Int
  at_ : Int
  num : Int
def Mv.row (m : Mv) : List Sv := [I m.kind, I m.at_, I m.num]
end Go.Proofs.Ytammndlghfknbaa
