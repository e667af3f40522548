/- States: what they are; state.within, Homes, Meant, own's parts. -/
import Derived.Test.YtiklbnianbejdaaTreeEl
import Derived.Test.YtiklbnianbejdaaHalfR
import Derived.Test.YtiklbnianbejdaaChainE
set_option linter.unusedSimpArgs false
set_option maxRecDepth 20000
set_option linter.unusedVariables false
namespace Go.Proofs.Ytiklbnianbejdaa
open Go Go.Eng Go.RowKit

structure Ow where
  arrow : Int
  made : Int
  cells : List Ch.Cell
structure Asq where
  obj : Int
  num : Int
  deriving DecidableEq
structure Fnd where
  obj : Int
  num : Int
  whr : Int
  deriving DecidableEq
structure Sta where
  me : Int
  objs : List Ow
  edges : List Hf.Edge
  asked : Int
  asks : List Asq
  got : List Fnd
def Ow.row (f : Bool) (o : Ow) : List Sv := [I o.arrow, I o.made, Ch.cellX f o.cells]
def edRow (f : Bool) (e : Hf.Edge) : List Sv := [I e.peer, I e.base, .ext f 5 (e.out.map Hf.Msg.row), I e.seen]
def Asq.row (a : Asq) : List Sv := [I a.obj, I a.num]
def Fnd.row (a : Fnd) : List Sv := [I a.obj, I a.num, I a.whr]
def Sta.row (f : Bool) (s : Sta) : List Sv := [I s.me, .ext f 3 (s.objs.map (Ow.row f)), .ext f 4 (s.edges.map (edRow f)), I s.asked, .ext f 2 (s.asks.map Asq.row), .ext f 3 (s.got.map Fnd.row)]
theorem ow_fr (l : List Ow) : FrR (l.map (Ow.row true)) := FrR_map (Ow.row true) (fun o => ⟨trivial, trivial, ⟨rfl, Ch.cell_fr o.cells⟩, trivial⟩) l
theorem ed_fr (l : List Hf.Edge) : FrR (l.map (edRow true)) := FrR_map (edRow true) (fun e => ⟨trivial, trivial, ⟨rfl, Hf.msg_fr e.out⟩, trivial, trivial⟩) l
theorem asq_fr (l : List Asq) : FrR (l.map Asq.row) := FrR_map Asq.row (fun e => ⟨trivial, trivial, trivial⟩) l
theorem fnd_fr (l : List Fnd) : FrR (l.map Fnd.row) := FrR_map Fnd.row (fun e => ⟨trivial, trivial, trivial, trivial⟩) l
/-- The lists have room in memory. -/
structure Sta.sz (s : Sta) : Prop where
  objs : s.objs.length * 40 ≤ 140737488351232
  cells : ∀ o ∈ s.objs, o.cells.length * 32 ≤ 140737488351232
  edges : s.edges.length * 48 ≤ 140737488351232
  outs : ∀ e ∈ s.edges, e.out.length * 40 ≤ 140737488351232
  asks : s.asks.length * 16 ≤ 140737488351232
  got : s.got.length * 24 ≤ 140737488351232
/-! ### Lists, item by item -/
theorem all_no {α : Type} {p : α → Bool} {xs : List α} {i : Nat} (hi : i < xs.length) (h : p xs[i] = false) : xs.all p = false := by
  rw [List.all_eq_false]; exact ⟨_, List.getElem_mem hi, by simp [h]⟩
theorem all_yes {α : Type} {p : α → Bool} {xs : List α} (h : ∀ j (hj : j < xs.length), p xs[j] = true) : xs.all p = true := by
  rw [List.all_eq_true]
  intro x hx
  obtain ⟨j, hj, rfl⟩ := List.mem_iff_getElem.1 hx
  exact h j hj
theorem all_more {α : Type} {p : α → Bool} {xs : List α} {i : Nat} (hi : i < xs.length) (h : ∀ j (hj : j < xs.length), j < i → p xs[j] = true) (h1 : p xs[i] = true) : ∀ j (hj : j < xs.length), j < i + 1 → p xs[j] = true := fun j hj hji => by
  rcases Nat.lt_or_ge j i with h2 | h2
  · exact h j hj h2
  · have : j = i := by omega
    subst this; exact h1
theorem rows_get {α : Type} (it : α → List Sv) (xs : List α) {n k : Nat} (hn : n = k) (h : k < xs.length) : nth (xs.map it) n = some (it xs[k]) := by
  subst hn
  rw [nth_eq, List.getElem?_map, List.getElem?_eq_getElem h]
  rfl
/-! ### within, Homes, Meant -/
theorem swithin_pcon (a b c : Int) : PCon Try.prog 27 [I a, I b, I c] (Bo (Hf.inB a b c)) [] := by
  refine pcon_of (G := gm) Try.func27 rfl rfl rfl ?_
  refine W.go ?_
  exact RetP.v rfl
theorem home1_pcon (f : Bool) (ps : List Int) (L : List (List Int)) (h : Int) (hl : ps.length < 9223372036854775808) : PCon Try.prog 31 [I h, .ref false [treeX f ps L]] (Bo (!hasB ps h)) [] := by
  refine pcon_of (G := gm) Try.func31 rfl rfl rfl ?_
  refine W.c2 (size_pcon f ps L) (swithin_pcon h 0 (ps.length - 1)) ?_
  refine RetP.v (congrArg Value.bool (congrArg not ?_))
  unfold Hf.inB hasB
  rw [Bool.eq_iff_iff]
  simp
  omega
set_option maxHeartbeats 1000000 in
theorem intindexf_pcon (p : Int → Bool) (f : Nat) (caps : List Sv) (fr : Bool) (xs : List Int) (h : xs.length < 9223372036854775808) (hcl : ∃ t : List Sv, caps = [.ref false t]) (hf : ∀ x, PCon Try.prog f (I x :: caps) (Bo (p x)) []) :
    PCon Try.prog 60 [intX fr xs, .clo f caps] (I (match xs.findIdx? p with | some i => i | none => -1)) [] := by
  obtain ⟨t, rfl⟩ := hcl
  refine pcon_of (G := gm) Try.func60 rfl rfl rfl ?_
  refine W.go ?_
  refine LoopV.on (σ := Nat) rfl (fun i => [(0, intX fr xs), (1, .clo f [.ref false t]), (7, I xs.length), (8, I i)]) (fun _ => []) (fun i => i ≤ xs.length ∧ ∀ j (hj : j < xs.length), j < i → (fun x => !p x) xs[j] = true) (fun i => xs.length - i) 0 (AtS.v [] []) ⟨Nat.zero_le _, by simp⟩ ?_
  rintro i ⟨hi, hok⟩
  rcases Nat.lt_or_ge i xs.length with him | him
  · have hg := int_get xs i (Int.toNat_natCast i) him
    have hx : xs.getD i 0 = xs[i] := by simp [him]
    have hc := hf (xs.getD i 0)
    have hmore := all_more (p := fun x => !p x) him hok
    have hstop : p xs[i] = true → xs.findIdx? p = some i := fun hp => by
      rw [List.findIdx?_eq_some_iff_getElem]
      exact ⟨him, hp, fun j hj => by have := hok j (by omega) hj; simpa using this⟩
    rw [← hx] at hmore hstop
    clear hok hf
    cases hp : p (xs.getD i 0) with
    | true =>
      rw [hp] at hc
      rw [hstop hp]
      generalize xs.getD i 0 = x at *
      refine W.c2 hg hc ?_
      exact RetP.v rfl
    | false =>
      rw [hp] at hc
      replace hmore := hmore (by rw [hp]; rfl)
      clear hstop
      generalize xs.getD i 0 = x at *
      refine W.c2 hg hc ?_
      exact nx (i + 1) (by omega) ⟨by omega, hmore⟩ (AtS.v [] [])
  · have e : xs.findIdx? p = none := by
      rw [List.findIdx?_eq_none_iff]
      intro x hx
      obtain ⟨j, hj, rfl⟩ := List.mem_iff_getElem.1 hx
      have := hok j hj (by omega)
      simpa using this
    rw [e]
    clear hok hf
    refine W.go ?_
    exact RetP.v rfl
theorem intcontf_pcon (p : Int → Bool) (f : Nat) (caps : List Sv) (fr : Bool) (xs : List Int) (h : xs.length < 9223372036854775808) (hcl : ∃ t : List Sv, caps = [.ref false t]) (hf : ∀ x, PCon Try.prog f (I x :: caps) (Bo (p x)) []) :
    PCon Try.prog 30 [intX fr xs, .clo f caps] (Bo (xs.any p)) [] := by
  have c := intindexf_pcon p f caps fr xs h hcl hf
  obtain ⟨t, rfl⟩ := hcl
  refine pcon_of (G := gm) Try.func30 rfl rfl rfl ?_
  refine W.c1 c ?_
  refine RetP.v (congrArg Value.bool ?_)
  cases hx : xs.findIdx? p with
  | none =>
    rw [List.findIdx?_eq_none_iff] at hx
    rw [Bool.eq_iff_iff]
    simpa using hx
  | some i =>
    rw [List.findIdx?_eq_some_iff_getElem] at hx
    obtain ⟨h1, h2, _⟩ := hx
    simp [List.any_eq_true.2 ⟨_, List.getElem_mem h1, h2⟩]
/-- Whether these can be the objects' homes. -/
def homesB (ps hs : List Int) : Bool := Hf.inB hs.length 1 8 && hs.all (hasB ps)
theorem homesN_pcon (f : Bool) (hs : List Int) : PCon Try.prog 11 [treeN, intX f hs] (I 2) [] := by
  refine pcon_of (G := gm) Try.func11 rfl rfl rfl ?_
  refine W.go ?_
  exact RetP.v rfl
set_option maxHeartbeats 1000000 in
theorem homes_pcon (f g : Bool) (ps hs : List Int) (L : List (List Int)) (hl : ps.length < 9223372036854775808) (hh : hs.length < 9223372036854775808) : PCon Try.prog 11 [treeX f ps L, intX g hs] (I (if homesB ps hs = true then 0 else 1)) [] := by
  refine pcon_of (G := gm) Try.func11 rfl rfl rfl ?_
  have cw := swithin_pcon hs.length 1 8
  have cc := intcontf_pcon (fun h => !hasB ps h) 31 _ g hs hh ⟨_, rfl⟩ (fun x => home1_pcon f ps L x hl)
  unfold homesB
  have e : hs.any (fun h => !hasB ps h) = !hs.all (hasB ps) := by
    rw [List.any_eq_not_all_not]; simp
  rw [e] at cc
  clear e
  cases h1 : Hf.inB hs.length 1 8 with
  | false =>
    rw [h1] at cw
    refine W.d2 cw cc ?_
    exact RetP.v rfl
  | true =>
    rw [h1] at cw
    cases h2 : hs.all (hasB ps) with
    | false =>
      rw [h2] at cc
      refine W.d2 cw cc ?_
      exact RetP.v rfl
    | true =>
      rw [h2] at cc
      refine W.d2 cw cc ?_
      exact RetP.v rfl
end Go.Proofs.Ytiklbnianbejdaa
