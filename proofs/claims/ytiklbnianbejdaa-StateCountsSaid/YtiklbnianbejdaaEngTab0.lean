/- The engine: a table of types, and what is looked at once. -/
import Derived.Test.YtiklbnianbejdaaEng1
set_option linter.unusedSimpArgs false
set_option maxRecDepth 20000
set_option linter.unusedVariables false
namespace Go.Eng
open Go Go.RowKit

def vEq : Value → Value → Bool
  | .bool a, .bool b => a == b
  | .int k a, .int l b => k == l && a == b
  | .string a, .string b => a.data.toList == b.data.toList
  | .pointer none, .pointer none => true
  | .slice none a b, .slice none c d => a == c && b == d
  | .nilFunc, .nilFunc => true
  | .nilIface, .nilIface => true
  | _, _ => false
theorem vEq_eq : ∀ {u v : Value}, vEq u v = true → u = v := by
  intro u v h
  unfold vEq at h
  split at h
  · simpa using h
  · simp only [Bool.and_eq_true, beq_iff_eq] at h; rw [h.1, h.2]
  · rename_i a b
    have := eq_of_beq h
    cases a with
    | mk a =>
      cases b with
      | mk b => simp only at this; rw [Array.toList_inj.1 this]
  · rfl
  · simp only [Bool.and_eq_true, beq_iff_eq] at h; rw [h.1, h.2]
  · rfl
  · rfl
  · cases h
def vEqs : List Value → List Value → Bool
  | [], [] => true
  | a :: as, b :: bs => vEq a b && vEqs as bs
  | _, _ => false
theorem vEqs_eq : ∀ {u v : List Value}, vEqs u v = true → u = v
  | [], [], _ => rfl
  | a :: as, b :: bs, h => by
    simp only [vEqs, Bool.and_eq_true] at h
    rw [vEq_eq h.1, vEqs_eq h.2]
  | [], _ :: _, h => by cases h
  | _ :: _, [], h => by cases h

def TK.fitsB : TK → TypeDesc → Bool
  | .other, _ => false
  | .bool, d => match d with | .bool => true | _ => false
  | .int k, d => match d with | .int l => k == l | _ => false
  | .str, d => match d with | .string => true | _ => false
  | .func, d => match d with | .func _ _ _ => true | _ => false
  | .struct fs, d => match d with | .struct F => F.toList.map (fun f => (f.offset, f.type)) == fs | _ => false
  | .slice e, d => match d with | .slice x => x == e | _ => false
  | .ptr e, d => match d with | .pointer x => x == e | _ => false
  | .arr n e, d => match d with | .array m x => m == n && x == e | _ => false
theorem TK.fitsB_fits {k : TK} {d : TypeDesc} (h : k.fitsB d = true) : k.fits d := by
  cases k <;> simp only [TK.fitsB] at h <;> simp only [TK.fits] <;> (try split at h) <;> simp_all

def chkOne (P : Program) (t : Nat) (i : TI) : Bool :=
  match P.info? t with
  | none => false
  | some I => I.size == i.size && I.bytes == i.bytes && (match I.zero with | none => false | some z => vEqs z.cells.toList i.zero) &&
    (match P.underlying t with | none => false | some d => i.kind.fitsB d)
theorem chkOne_ok {P : Program} {t : Nat} {i : TI} (h : chkOne P t i = true) : TIok P t i := by
  unfold chkOne at h
  cases hI : P.info? t with
  | none => rw [hI] at h; cases h
  | some I =>
    rw [hI] at h
    simp only [Bool.and_eq_true, beq_iff_eq] at h
    obtain ⟨⟨⟨h1, h2⟩, h3⟩, h4⟩ := h
    cases hz : I.zero with
    | none => rw [hz] at h3; cases h3
    | some z =>
      rw [hz] at h3
      cases hd : P.underlying t with
      | none => rw [hd] at h4; cases h4
      | some d =>
        rw [hd] at h4
        exact ⟨⟨I, hI, h1, h2, z, hz, by rw [← vEqs_eq h3]⟩, ⟨d, hd, TK.fitsB_fits h4⟩⟩

def chkTab (P : Program) : Nat → List (Option TI) → Bool
  | _, [] => true
  | t, none :: l => chkTab P (t + 1) l
  | t, some i :: l => chkOne P t i && chkTab P (t + 1) l
def tabAt (l : List (Option TI)) (t : Nat) : Option TI :=
  match nth l t with
  | some x => x
  | none => none
theorem chkTab_ok {P : Program} : ∀ (l : List (Option TI)) (t0 : Nat), chkTab P t0 l = true → ∀ t i, tabAt l t = some i → TIok P (t0 + t) i
  | [], t0, _, t, i, h => by simp [tabAt, nth] at h
  | x :: l, t0, hc, 0, i, h => by
    simp only [tabAt, nth] at h
    subst h
    simp only [chkTab, Bool.and_eq_true] at hc
    exact chkOne_ok hc.1
  | x :: l, t0, hc, t + 1, i, h => by
    have hc' : chkTab P (t0 + 1) l = true := by
      cases x with
      | none => simpa only [chkTab] using hc
      | some j => simp only [chkTab, Bool.and_eq_true] at hc; exact hc.2
    have := chkTab_ok l (t0 + 1) hc' t i h
    rw [show t0 + (t + 1) = t0 + 1 + t by omega]
    exact this
theorem tabAt_ok {P : Program} {l : List (Option TI)} (h : chkTab P 0 l = true) : ∀ t i, tabAt l t = some i → TIok P t i := fun t i hi => by
  have := chkTab_ok l 0 h t i hi
  rwa [Nat.zero_add] at this
end Go.Eng
