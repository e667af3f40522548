/- chain: Succeed, Grant, Release; the reference's. -/
import Derived.Test.YtammndlghfknbaaCell
set_option linter.unusedSimpArgs false
set_option maxRecDepth 20000
set_option linter.unusedVariables false
namespace Go.Proofs.Ytammndlghfknbaa
open Go Go.Eng Go.RowKit

/-- A list and a word: what most of these answer. -/
abbrev cellsR (cs : List Cell) (b : Bool) : Sv := .tup [.own 0 cs.length, Bo b]
theorem RetP.cellsN {hp : Hp} {b : Bool} : RetP hp (.tup [.val (.slice none 0 0), Bo b]) (cellsR [] b) [cellB []] :=
  RetP.go [(61, 4)] [hp.length] (by simp) ⟨⟨_, hpGet_new, VwB.refl⟩, rfl⟩ ⟨⟨⟨_, rfl, nlB_new _⟩, rfl⟩, rfl, rfl⟩ (by (repeat' (first | exact trivial | exact rfl | with_reducible assumption | (refine ⟨_, rfl, ?_⟩) | (refine ⟨_, _, rfl, rfl, ?_⟩) | (refine And.intro ?_ ?_) | (refine Or.inl ⟨rfl, rfl, ?_⟩) | (refine Or.inl ⟨rfl, ?_⟩; focus (fail_if_success (refine And.intro ?_ ?_))) | (refine Or.inl (?_ : (_ : Nat) = _ ∧ _); refine ⟨?_, ?_⟩; focus (first | (simp only [List.length_map]; done) | (simp only [List.length_map, List.length_append, List.length_cons, List.length_nil]; done))) | exact Or.inl rfl | (refine Or.inr (Or.inr ⟨?_, ?_⟩)) | (refine Or.inr ⟨?_, ?_⟩) | (refine fun h => ?_; first | exact h | exact rfl | (cases h; done)) | (refine om8 ?_; simp only [← List.map_drop, ← List.map_take]; exact rfl) | ((first | refine om1 ?_ | refine om2 ?_ | refine om3 ?_ | refine om4 ?_ | refine om5 ?_ | refine om6 ?_ | refine om7 ?_); first | (simp only [List.length_map]; done) | (simp only [List.length_map]; omega) | omega)))) ⟨trivial, trivial⟩
theorem RetP.cells2 {hp : Hp} (cs : List Cell) {b : Bool} {k n : Nat} {rows : List (List Sv)} (hk : hpGet hp k = some ⟨61, 4, true, true, rows⟩) (hr : rows = cs.map Cell.row) (hn : n = cs.length) : RetP hp (.tup [.own k n, Bo b]) (cellsR cs b) [cellB cs] := by
  subst hr
  subst hn
  exact RetP.go [] [k] (by simp) ⟨⟨_, hpGet_app hk _, VwB.refl⟩, rfl⟩ ⟨⟨rfl, rfl⟩, rfl, rfl⟩ (by (repeat' (first | exact trivial | exact rfl | with_reducible assumption | (refine ⟨_, rfl, ?_⟩) | (refine ⟨_, _, rfl, rfl, ?_⟩) | (refine And.intro ?_ ?_) | (refine Or.inl ⟨rfl, rfl, ?_⟩) | (refine Or.inl ⟨rfl, ?_⟩; focus (fail_if_success (refine And.intro ?_ ?_))) | (refine Or.inl (?_ : (_ : Nat) = _ ∧ _); refine ⟨?_, ?_⟩; focus (first | (simp only [List.length_map]; done) | (simp only [List.length_map, List.length_append, List.length_cons, List.length_nil]; done))) | exact Or.inl rfl | (refine Or.inr (Or.inr ⟨?_, ?_⟩)) | (refine Or.inr ⟨?_, ?_⟩) | (refine fun h => ?_; first | exact h | exact rfl | (cases h; done)) | (refine om8 ?_; simp only [← List.map_drop, ← List.map_take]; exact rfl) | ((first | refine om1 ?_ | refine om2 ?_ | refine om3 ?_ | refine om4 ?_ | refine om5 ?_ | refine om6 ?_ | refine om7 ?_); first | (simp only [List.length_map]; done) | (simp only [List.length_map]; omega) | omega)))) ⟨cell_fr cs, trivial⟩
/-- The same, told by content. -/
abbrev cellsX (cs : List Cell) (b : Bool) : Sv := .tup [cellX true cs, Bo b]
theorem FrR_cells (cs : List Cell) : Sv.Fr (cellX true cs) := ⟨rfl, cell_fr cs⟩
theorem RetP.cellsXo {hp : Hp} (cs : List Cell) {b : Bool} {k n : Nat} {rows : List (List Sv)} (hk : hpGet hp k = some ⟨61, 4, true, true, rows⟩) (hr : rows = cs.map Cell.row) (hn : n = cs.length) : RetP hp (.tup [.own k n, Bo b]) (cellsX cs b) [] := by
  subst hr
  subst hn
  exact RetP.go [] [] (by simp) rfl ⟨⟨rfl, _, hpGet_app hk _, .inl ⟨by simp, rfl, .inl ⟨rfl, rfl⟩⟩⟩, rfl, rfl⟩ ⟨FrR_cells cs, trivial, trivial⟩ trivial
def succS (cs : List Cell) (node num : Int) : List Cell × Bool :=
  if h : cs = [] then ([], false) else if (cs.getLast h).state = 3 then (cs.dropLast, true) else (cs.set (cs.length - 1) ⟨(cs.getLast h).num, (cs.getLast h).state, node, num⟩, false)
theorem succ_pcon (f : Bool) (cs : List Cell) (node num : Int) (h : cs.length * 32 ≤ 140737488351232) : PCon Try.prog 32 [cellX f cs, I node, I num] (cellsR (succS cs node num).1 (succS cs node num).2) [cellB (succS cs node num).1] := by
  refine pcon_of (G := gm) Try.func32 rfl rfl rfl ?_
  by_cases h0 : cs = []
  · subst h0
    repeat' (conv => whnf
             first
             | (refine get_id ?_; first | refine Get.mk _ rfl ?_)
             | (refine need_id ?_; first | refine Need.a ?_)
             | (refine eqk_id ?_; first | refine EqK.a ?_)
             | (refine br_id ?_; first | refine Br.t ?_ | refine Br.f ?_ | (refine Br.pos ?_ ?_; focus (with_reducible assumption)) | (refine Br.neg ?_ ?_; focus (with_reducible assumption)) | (refine Br.dpos ?_ ?_; focus (first | with_reducible exact rfl | with_reducible exact Int.le_refl _ | with_reducible assumption)) | (refine Br.dneg ?_ ?_; focus (with_reducible assumption)) | (refine Br.d (fun _ => ?_) (fun _ => ?_)) | refine Br.n ?_ | (refine Br.s (fun _ => ?_) (fun _ => ?_)) | (refine Br.mk (fun _ => ?_) (fun _ => ?_)))
             | (refine regv_id ?_; first | refine RegV.d ?_)
             | refine NilB.mk (fun b hb => ?_)
             | (refine alv_and ?_ ?_; focus (first | rfl | done))
             | refine DrawV.mk [] ?_
             | (refine appc_id ?_; first | refine AppC.growA ?_ | refine AppC.place ?_)
             | (refine call_id ?_; first
                  | refine CallV.c (cellclone_pcon _ [] (by simp)) ?_
                  | refine CallV.e (cellclone_pcon _ [] (by simp)) ?_)
             | (refine calls_id ?_; first
                  | refine CallS.c (cellclone_pcon _ [] (by simp)) ?_
                  | refine CallS.e (cellclone_pcon _ [] (by simp)) ?_))
    all_goals (try (conv => whnf))
    exact RetP.cells2 [] rfl rfl rfl
  · have hl : 0 < cs.length := List.length_pos_iff.2 h0
    have hlast : cs[cs.length - 1] = cs.getLast h0 := by rw [List.getLast_eq_getElem]
    have hw : IntKind.i64.wrap ((cs.length : Int) - 1) = (cs.length : Int) - 1 := wrap64 (by omega) (by omega)
    repeat' (conv => whnf
             first
             | (refine get_id ?_; first | refine Get.mk _ rfl ?_ | refine Get.mk _ (nth_map Cell.row cs (cs.length - 1) (by omega) (by omega)) ?_ | refine Get.mk _ (nth_put (cs.map Cell.row) _ (cs.length - 1) (by omega) (by omega) (by simp; omega)) ?_)
             | (refine need_id ?_; first | refine Need.a ?_)
             | (refine eqk_id ?_; first | refine EqK.a ?_)
             | (refine br_id ?_; first | refine Br.t ?_ | refine Br.f ?_ | (refine Br.pos ?_ ?_; focus (with_reducible assumption)) | (refine Br.neg ?_ ?_; focus (with_reducible assumption)) | (refine Br.dpos ?_ ?_; focus (first | with_reducible exact rfl | with_reducible exact Int.le_refl _ | with_reducible assumption)) | (refine Br.dneg ?_ ?_; focus (with_reducible assumption)) | (refine Br.d (fun _ => ?_) (fun _ => ?_)) | refine Br.n ?_ | (refine Br.s (fun _ => ?_) (fun _ => ?_)) | (refine Br.mk (fun _ => ?_) (fun _ => ?_)))
             | (refine regv_id ?_; first | refine RegV.d ?_)
             | refine NilB.mk (fun b hb => ?_)
             | (refine alv_and ?_ ?_; focus (first | rfl | done))
             | refine DrawV.mk [] ?_
             | (refine appc_id ?_; first | refine AppC.growA ?_ | refine AppC.place ?_)
             | (refine call_id ?_; first
                  | refine CallV.c (cellclone_pcon _ cs (by omega)) ?_
                  | refine CallV.e (cellclone_pcon _ cs (by omega)) ?_)
             | (refine calls_id ?_; first
                  | refine CallS.c (cellclone_pcon _ cs (by omega)) ?_
                  | refine CallS.e (cellclone_pcon _ cs (by omega)) ?_))
    all_goals (try (conv => whnf))
    · exfalso; omega
    · rename_i hs
      rw [hlast] at hs
      rw [show succS cs node num = (cs.dropLast, true) by simp [succS, h0, hs]]
      refine RetP.cells2 cs.dropLast rfl ?_ ?_
      · rw [List.dropLast_eq_take, List.map_take]
        congr 1
        omega
      · simp
    · rename_i hs
      rw [hlast] at hs
      rw [show succS cs node num = (cs.set (cs.length - 1) ⟨(cs.getLast h0).num, (cs.getLast h0).state, node, num⟩, false) by simp [succS, h0, hs]]
      refine RetP.cells2 _ rfl ?_ (by simp)
      rw [List.set_set, List.map_set]
      simp only [Cell.row, hlast]
      rw [show ((cs.length : Int) - 1).toNat = cs.length - 1 by omega]
def isHeld (c : Cell) : Bool := c.state == 2
def waits (n : Int) (c : Cell) : Bool := c.num == n && c.state == 1
theorem waits_pcon (n : Int) (c : Cell) : PCon Try.prog 51 [.agg c.row, .ref false [I n]] (Bo (waits n c)) [] := by
  refine pcon_of (G := gm) Try.func51 rfl rfl rfl ?_
  repeat' (conv => whnf
           first
           | (refine get_id ?_; first | refine Get.mk _ rfl ?_)
           | (refine need_id ?_; first | refine Need.a ?_)
           | (refine eqk_id ?_; first | refine EqK.a ?_)
           | (refine br_id ?_; first | refine Br.t ?_ | refine Br.f ?_ | (refine Br.pos ?_ ?_; focus (with_reducible assumption)) | (refine Br.neg ?_ ?_; focus (with_reducible assumption)) | (refine Br.dpos ?_ ?_; focus (first | with_reducible exact rfl | with_reducible exact Int.le_refl _ | with_reducible assumption)) | (refine Br.dneg ?_ ?_; focus (with_reducible assumption)) | (refine Br.d (fun _ => ?_) (fun _ => ?_)) | refine Br.n ?_ | (refine Br.s (fun _ => ?_) (fun _ => ?_)) | (refine Br.mk (fun _ => ?_) (fun _ => ?_)))
           | (refine regv_id ?_; first | refine RegV.d ?_)
           | refine NilB.mk (fun b hb => ?_)
           | (refine alv_and ?_ ?_; focus (first | rfl | done))
           | refine DrawV.mk [] ?_
           | (refine appc_id ?_; first | refine AppC.growA ?_ | refine AppC.place ?_))
  all_goals (try (conv => whnf))
  all_goals exact RetP.v (by simp_all [waits])
theorem held_pcon (c : Cell) : PCon Try.prog 52 [.agg c.row] (Bo (isHeld c)) [] := by
  refine pcon_of (G := gm) Try.func52 rfl rfl rfl ?_
  repeat' (conv => whnf
           first
           | (refine get_id ?_; first | refine Get.mk _ rfl ?_)
           | (refine need_id ?_; first | refine Need.a ?_)
           | (refine eqk_id ?_; first | refine EqK.a ?_)
           | (refine br_id ?_; first | refine Br.t ?_ | refine Br.f ?_ | (refine Br.pos ?_ ?_; focus (with_reducible assumption)) | (refine Br.neg ?_ ?_; focus (with_reducible assumption)) | (refine Br.dpos ?_ ?_; focus (first | with_reducible exact rfl | with_reducible exact Int.le_refl _ | with_reducible assumption)) | (refine Br.dneg ?_ ?_; focus (with_reducible assumption)) | (refine Br.d (fun _ => ?_) (fun _ => ?_)) | refine Br.n ?_ | (refine Br.s (fun _ => ?_) (fun _ => ?_)) | (refine Br.mk (fun _ => ?_) (fun _ => ?_)))
           | (refine regv_id ?_; first | refine RegV.d ?_)
           | refine NilB.mk (fun b hb => ?_)
           | (refine alv_and ?_ ?_; focus (first | rfl | done))
           | refine DrawV.mk [] ?_
           | (refine appc_id ?_; first | refine AppC.growA ?_ | refine AppC.place ?_))
  all_goals (try (conv => whnf))
  exact RetP.v rfl
def grantS (cs : List Cell) (n : Int) : List Cell × Bool :=
  match cs.findIdx? (waits n) with
  | none => (cs, false)
  | some i => (cs.set i ⟨(cs.getD i default).num, 2, (cs.getD i default).node, (cs.getD i default).next⟩, true)
theorem grant_pcon (f : Bool) (cs : List Cell) (n : Int) (h : cs.length * 32 ≤ 140737488351232) : PCon Try.prog 34 [cellX f cs, I n] (cellsR (grantS cs n).1 (grantS cs n).2) [cellB (grantS cs n).1] := by
  refine pcon_of (G := gm) Try.func34 rfl rfl rfl ?_
  cases hx : cs.findIdx? (waits n) with
  | none =>
    have hi := cellindex_pcon (waits n) 51 [.ref false [I n]] false cs (by omega) (.inr ⟨n, rfl⟩) (waits_pcon n)
    rw [hx] at hi
    repeat' (conv => whnf
             first
             | (refine get_id ?_; first | refine Get.mk _ rfl ?_)
             | (refine need_id ?_; first | refine Need.a ?_)
             | (refine eqk_id ?_; first | refine EqK.a ?_)
             | (refine br_id ?_; first | refine Br.t ?_ | refine Br.f ?_ | (refine Br.pos ?_ ?_; focus (with_reducible assumption)) | (refine Br.neg ?_ ?_; focus (with_reducible assumption)) | (refine Br.dpos ?_ ?_; focus (first | with_reducible exact rfl | with_reducible exact Int.le_refl _ | with_reducible assumption)) | (refine Br.dneg ?_ ?_; focus (with_reducible assumption)) | (refine Br.d (fun _ => ?_) (fun _ => ?_)) | refine Br.n ?_ | (refine Br.s (fun _ => ?_) (fun _ => ?_)) | (refine Br.mk (fun _ => ?_) (fun _ => ?_)))
             | (refine regv_id ?_; first | refine RegV.d ?_)
             | refine NilB.mk (fun b hb => ?_)
             | (refine alv_and ?_ ?_; focus (first | rfl | done))
             | refine DrawV.mk [] ?_
             | (refine appc_id ?_; first | refine AppC.growA ?_ | refine AppC.place ?_)
             | (refine call_id ?_; first
                  | refine CallV.c (cellclone_pcon _ cs (by omega)) ?_
                  | refine CallV.c (hi) ?_
                  | refine CallV.e (cellclone_pcon _ cs (by omega)) ?_
                  | refine CallV.e (hi) ?_)
             | (refine calls_id ?_; first
                  | refine CallS.c (cellclone_pcon _ cs (by omega)) ?_
                  | refine CallS.c (hi) ?_
                  | refine CallS.e (cellclone_pcon _ cs (by omega)) ?_
                  | refine CallS.e (hi) ?_))
    all_goals (try (conv => whnf))
    rw [show grantS cs n = (cs, false) by simp [grantS, hx]]
    exact RetP.cells2 cs rfl rfl rfl
  | some i =>
    have hi := cellindex_pcon (waits n) 51 [.ref false [I n]] false cs (by omega) (.inr ⟨n, rfl⟩) (waits_pcon n)
    rw [hx] at hi
    simp only at hi
    have hil : i < cs.length := by
      rw [List.findIdx?_eq_some_iff_getElem] at hx
      exact hx.1
    repeat' (conv => whnf
             first
             | (refine get_id ?_; first | refine Get.mk _ rfl ?_ | refine Get.mk _ (nth_map Cell.row cs i (by omega) (by omega)) ?_)
             | (refine need_id ?_; first | refine Need.a ?_)
             | (refine eqk_id ?_; first | refine EqK.a ?_)
             | (refine br_id ?_; first | refine Br.t ?_ | refine Br.f ?_ | (refine Br.pos ?_ ?_; focus (with_reducible assumption)) | (refine Br.neg ?_ ?_; focus (with_reducible assumption)) | (refine Br.dpos ?_ ?_; focus (first | with_reducible exact rfl | with_reducible exact Int.le_refl _ | with_reducible assumption)) | (refine Br.dneg ?_ ?_; focus (with_reducible assumption)) | (refine Br.d (fun _ => ?_) (fun _ => ?_)) | refine Br.n ?_ | (refine Br.s (fun _ => ?_) (fun _ => ?_)) | (refine Br.mk (fun _ => ?_) (fun _ => ?_)))
             | (refine regv_id ?_; first | refine RegV.d ?_)
             | refine NilB.mk (fun b hb => ?_)
             | (refine alv_and ?_ ?_; focus (first | rfl | done))
             | refine DrawV.mk [] ?_
             | (refine appc_id ?_; first | refine AppC.growA ?_ | refine AppC.place ?_)
             | (refine call_id ?_; first
                  | refine CallV.c (cellclone_pcon _ cs (by omega)) ?_
                  | refine CallV.c (hi) ?_
                  | refine CallV.e (cellclone_pcon _ cs (by omega)) ?_
                  | refine CallV.e (hi) ?_)
             | (refine calls_id ?_; first
                  | refine CallS.c (cellclone_pcon _ cs (by omega)) ?_
                  | refine CallS.c (hi) ?_
                  | refine CallS.e (cellclone_pcon _ cs (by omega)) ?_
                  | refine CallS.e (hi) ?_))
    all_goals (try (conv => whnf))
    rw [show grantS cs n = (cs.set i ⟨cs[i].num, 2, cs[i].node, cs[i].next⟩, true) by simp [grantS, hx, hil]]
    exact RetP.cells2 _ rfl (by simp [List.map_set, Cell.row]) (by simp)
/-- The reference's Succeed. -/
theorem take_row (cs : List Cell) (i : Nat) (h : i < cs.length) : (cs.take i).map Cell.row ++ [Cell.row cs[i]] = (cs.take (i + 1)).map Cell.row := by
  rw [List.take_succ_eq_append_getElem h, List.map_append]
  rfl
theorem refsucc_pcon (f : Bool) (cs : List Cell) (node num : Int) (h : cs.length * 32 ≤ 140737488351232) : PCon Try.prog 33 [cellX f cs, I node, I num] (cellsX (succS cs node num).1 (succS cs node num).2) [] := by
  refine pcon_of (G := gm) Try.func33 rfl rfl rfl ?_
  have hw : IntKind.i64.wrap ((cs.length : Int) - 1) = (cs.length : Int) - 1 := wrap64 (by omega) (by omega)
  repeat' (conv => whnf
           first
           | (refine get_id ?_; first | refine Get.mk _ rfl ?_)
           | (refine need_id ?_; first | refine Need.a ?_)
           | (refine eqk_id ?_; first | refine EqK.a ?_)
           | (refine br_id ?_; first | refine Br.t ?_ | refine Br.f ?_ | (refine Br.pos ?_ ?_; focus (with_reducible assumption)) | (refine Br.neg ?_ ?_; focus (with_reducible assumption)) | (refine Br.dpos ?_ ?_; focus (first | with_reducible exact rfl | with_reducible exact Int.le_refl _ | with_reducible assumption)) | (refine Br.dneg ?_ ?_; focus (with_reducible assumption)) | (refine Br.d (fun _ => ?_) (fun _ => ?_)) | refine Br.n ?_ | (refine Br.s (fun _ => ?_) (fun _ => ?_)) | (refine Br.mk (fun _ => ?_) (fun _ => ?_)))
           | (refine regv_id ?_; first | refine RegV.d ?_)
           | refine NilB.mk (fun b hb => ?_)
           | (refine alv_and ?_ ?_; focus (first | rfl | done))
           | refine DrawV.mk [] ?_
           | (refine appc_id ?_; first | refine AppC.growA ?_ | refine AppC.place ?_))
  all_goals (try (conv => whnf))
  refine LoopV.on (σ := Nat × List Cell) rfl (fun s => [(0, cellX f cs), (1, I node), (2, I num), (8, .own 0 s.1), (11, cellX f cs), (12, I cs.length), (13, I s.1)]) (fun s => [some (cellB s.2)])
      (fun s => s.1 ≤ cs.length ∧ s.2.length = s.1 ∧ (s.1 < cs.length → s.2 = cs.take s.1) ∧ (s.1 = cs.length → succS cs node num = (s.2, false))) (fun s => cs.length - s.1) (0, []) ?_ ⟨Nat.zero_le _, rfl, fun _ => by simp, fun h0 => ?_⟩ ?_
  · refine AtS.mk [(61, 4)] [0] rfl (by simp) rfl ?_ ?_
    · (repeat' (first | exact trivial | exact rfl | with_reducible assumption | (refine ⟨_, rfl, ?_⟩) | (refine ⟨_, _, rfl, rfl, ?_⟩) | (refine And.intro ?_ ?_) | (refine Or.inl ⟨rfl, rfl, ?_⟩) | (refine Or.inl ⟨rfl, ?_⟩; focus (fail_if_success (refine And.intro ?_ ?_))) | (refine Or.inl (?_ : (_ : Nat) = _ ∧ _); refine ⟨?_, ?_⟩; focus (first | (simp only [List.length_map]; done) | (simp only [List.length_map, List.length_append, List.length_cons, List.length_nil]; done))) | exact Or.inl rfl | (refine Or.inr (Or.inr ⟨?_, ?_⟩)) | (refine Or.inr ⟨?_, ?_⟩) | (refine fun h => ?_; first | exact h | exact rfl | (cases h; done)) | (refine om8 ?_; simp only [← List.map_drop, ← List.map_take]; exact rfl) | ((first | refine om1 ?_ | refine om2 ?_ | refine om3 ?_ | refine om4 ?_ | refine om5 ?_ | refine om6 ?_ | refine om7 ?_); first | (simp only [List.length_map]; done) | (simp only [List.length_map]; omega) | omega)))
    · (repeat' (first | exact trivial | exact rfl | with_reducible assumption | (refine ⟨_, rfl, ?_⟩) | (refine ⟨_, _, rfl, rfl, ?_⟩) | (refine And.intro ?_ ?_) | (refine Or.inl ⟨rfl, rfl, ?_⟩) | (refine Or.inl ⟨rfl, ?_⟩; focus (fail_if_success (refine And.intro ?_ ?_))) | (refine Or.inl (?_ : (_ : Nat) = _ ∧ _); refine ⟨?_, ?_⟩; focus (first | (simp only [List.length_map]; done) | (simp only [List.length_map, List.length_append, List.length_cons, List.length_nil]; done))) | exact Or.inl rfl | (refine Or.inr (Or.inr ⟨?_, ?_⟩)) | (refine Or.inr ⟨?_, ?_⟩) | (refine fun h => ?_; first | exact h | exact rfl | (cases h; done)) | (refine om8 ?_; simp only [← List.map_drop, ← List.map_take]; exact rfl) | ((first | refine om1 ?_ | refine om2 ?_ | refine om3 ?_ | refine om4 ?_ | refine om5 ?_ | refine om6 ?_ | refine om7 ?_); first | (simp only [List.length_map]; done) | (simp only [List.length_map]; omega) | omega)))
  · have : cs = [] := List.length_eq_zero_iff.1 h0.symm
    simp [succS, this]
  rintro ⟨i, L⟩ ⟨hi, hL, hLt, hLe⟩
  simp only at hi hL hLt hLe
  have hlast : ∀ h0 : cs ≠ [], ∀ hk : i < cs.length, (i : Int) = cs.length - 1 → cs.getLast h0 = cs[i] := fun h0 hk h1 => by
    rw [List.getLast_eq_getElem]
    congr 1
    omega
  have hne : i < cs.length → cs ≠ [] := fun hk h0 => by simp [h0] at hk
  have htk : ∀ hk : i < cs.length, cs.take (i + 1) = cs.take i ++ [cs[i]] := fun hk => List.take_succ_eq_append_getElem hk
  repeat' (conv => whnf
           first
           | (refine get_id ?_; first | refine Get.mk _ rfl ?_ | refine Get.mk _ (nth_map Cell.row cs i rfl (by omega)) ?_)
           | (refine need_id ?_; first | refine Need.a ?_ | refine Need.mk (by (exact ⟨rfl, rfl, rfl, by simp [cellB]; omega, rfl, rfl⟩)) ?_)
           | (refine eqk_id ?_; first | refine EqK.a ?_)
           | (refine br_id ?_; first | refine Br.t ?_ | refine Br.f ?_ | (refine Br.pos ?_ ?_; focus (with_reducible assumption)) | (refine Br.neg ?_ ?_; focus (with_reducible assumption)) | (refine Br.dpos ?_ ?_; focus (first | with_reducible exact rfl | with_reducible exact Int.le_refl _ | with_reducible assumption)) | (refine Br.dneg ?_ ?_; focus (with_reducible assumption)) | (refine Br.d (fun _ => ?_) (fun _ => ?_)) | refine Br.n ?_ | (refine Br.s (fun _ => ?_) (fun _ => ?_)) | (refine Br.mk (fun _ => ?_) (fun _ => ?_)))
           | (refine regv_id ?_; first | refine RegV.d ?_)
           | refine NilB.mk (fun b hb => ?_)
           | (refine alv_and ?_ ?_; focus (first | rfl | done))
           | refine DrawV.mk [] ?_
           | (refine appc_id ?_; first | refine AppC.growA ?_ | refine AppC.grow (by (simp [cellB]; omega)) ?_ | refine AppC.place ?_))
  all_goals (try (conv => whnf))
  · rename_i h1 h2 h3
    have h0 := hne (by omega)
    have hg := hlast h0 (by omega) (by omega)
    rw [show succS cs node num = (cs.dropLast, true) by simp [succS, h0, hg, h3]]
    refine RetP.cellsXo cs.dropLast rfl ?_ (by simp; omega)
    rw [List.dropLast_eq_take, hLt (by omega), show cs.length - 1 = i by omega]
  · rename_i h1 h2 h3
    have h0 := hne (by omega)
    have hg := hlast h0 (by omega) (by omega)
    refine nx (i + 1, L ++ [⟨cs[i].num, cs[i].state, node, num⟩]) (by simp only; omega) ⟨by simp only; omega, by simp [hL], fun _ => by simp only at *; omega, fun _ => ?_⟩ (AtS.mk [] [3] rfl (by simp) rfl ⟨⟨_, rfl, rfl, rfl, rfl, .inl ⟨rfl, rfl, by simp [cellB, Cell.row]⟩⟩, rfl⟩ ?_)
    · have e1 : cs.set (cs.length - 1) ⟨cs[i].num, cs[i].state, node, num⟩ = L ++ [⟨cs[i].num, cs[i].state, node, num⟩] := by
        have e2 : cs.length - 1 = i := by omega
        have e3 : L = cs.take i := hLt (by omega)
        have e4 : cs.set i ⟨cs[i].num, cs[i].state, node, num⟩ = cs.take i ++ [⟨cs[i].num, cs[i].state, node, num⟩] := by
          rw [List.set_eq_take_append_cons_drop, if_pos (by omega), List.drop_of_length_le (by omega)]
        rw [e2, e4]
        exact congrArg (· ++ _) e3.symm
      simp [succS, h0, hg, h3, e1]
    · (repeat' (first | exact trivial | exact rfl | with_reducible assumption | (refine ⟨_, rfl, ?_⟩) | (refine ⟨_, _, rfl, rfl, ?_⟩) | (refine And.intro ?_ ?_) | (refine Or.inl ⟨rfl, rfl, ?_⟩) | (refine Or.inl ⟨rfl, ?_⟩; focus (fail_if_success (refine And.intro ?_ ?_))) | (refine Or.inl (?_ : (_ : Nat) = _ ∧ _); refine ⟨?_, ?_⟩; focus (first | (simp only [List.length_map]; done) | (simp only [List.length_map, List.length_append, List.length_cons, List.length_nil]; done))) | exact Or.inl rfl | (refine Or.inr (Or.inr ⟨?_, ?_⟩)) | (refine Or.inr ⟨?_, ?_⟩) | (refine fun h => ?_; first | exact h | exact rfl | (cases h; done)) | (refine om8 ?_; simp only [← List.map_drop, ← List.map_take]; exact rfl) | ((first | refine om1 ?_ | refine om2 ?_ | refine om3 ?_ | refine om4 ?_ | refine om5 ?_ | refine om6 ?_ | refine om7 ?_); first | (simp only [List.length_map]; done) | (simp only [List.length_map]; omega) | omega)))
  · refine nx (i + 1, L ++ [cs[i]]) (by simp only; omega) ⟨by simp only; omega, by simp [hL], fun hk => ?_, fun _ => by simp only at *; omega⟩ (AtS.mk [] [3] rfl (by simp) rfl ⟨⟨_, rfl, rfl, rfl, rfl, .inl ⟨rfl, rfl, by simp [cellB, Cell.row]⟩⟩, rfl⟩ ?_)
    · simp only
      rw [htk (by omega)]
      exact congrArg (· ++ _) (hLt (by omega))
    · (repeat' (first | exact trivial | exact rfl | with_reducible assumption | (refine ⟨_, rfl, ?_⟩) | (refine ⟨_, _, rfl, rfl, ?_⟩) | (refine And.intro ?_ ?_) | (refine Or.inl ⟨rfl, rfl, ?_⟩) | (refine Or.inl ⟨rfl, ?_⟩; focus (fail_if_success (refine And.intro ?_ ?_))) | (refine Or.inl (?_ : (_ : Nat) = _ ∧ _); refine ⟨?_, ?_⟩; focus (first | (simp only [List.length_map]; done) | (simp only [List.length_map, List.length_append, List.length_cons, List.length_nil]; done))) | exact Or.inl rfl | (refine Or.inr (Or.inr ⟨?_, ?_⟩)) | (refine Or.inr ⟨?_, ?_⟩) | (refine fun h => ?_; first | exact h | exact rfl | (cases h; done)) | (refine om8 ?_; simp only [← List.map_drop, ← List.map_take]; exact rfl) | ((first | refine om1 ?_ | refine om2 ?_ | refine om3 ?_ | refine om4 ?_ | refine om5 ?_ | refine om6 ?_ | refine om7 ?_); first | (simp only [List.length_map]; done) | (simp only [List.length_map]; omega) | omega)))
  · rw [hLe (by omega)]
    exact RetP.cellsXo L rfl rfl hL.symm
/-- One cell more. -/
theorem grantS_snoc (cs : List Cell) (c : Cell) (n : Int) : grantS (cs ++ [c]) n = if (grantS cs n).2 = true then ((grantS cs n).1 ++ [c], true) else if waits n c = true then ((grantS cs n).1 ++ [⟨c.num, 2, c.node, c.next⟩], true) else ((grantS cs n).1 ++ [c], false) := by
  unfold grantS
  rw [List.findIdx?_append]
  cases hx : cs.findIdx? (waits n) with
  | some i =>
    have hil : i < cs.length := by
      rw [List.findIdx?_eq_some_iff_getElem] at hx
      exact hx.1
    simp [List.getElem?_append_left hil, hil]
  | none =>
    cases hc : waits n c with
    | true => simp [List.findIdx?_cons, hc]
    | false => simp [List.findIdx?_cons, hc]
theorem grantS_len (cs : List Cell) (n : Int) : (grantS cs n).1.length = cs.length := by
  unfold grantS
  split <;> simp
theorem refgrant_pcon (f : Bool) (cs : List Cell) (n : Int) (h : cs.length * 32 ≤ 140737488351232) : PCon Try.prog 35 [cellX f cs, I n] (cellsX (grantS cs n).1 (grantS cs n).2) [] := by
  refine pcon_of (G := gm) Try.func35 rfl rfl rfl ?_
  repeat' (conv => whnf
           first
           | (refine get_id ?_; first | refine Get.mk _ rfl ?_)
           | (refine need_id ?_; first | refine Need.a ?_)
           | (refine eqk_id ?_; first | refine EqK.a ?_)
           | (refine br_id ?_; first | refine Br.t ?_ | refine Br.f ?_ | (refine Br.pos ?_ ?_; focus (with_reducible assumption)) | (refine Br.neg ?_ ?_; focus (with_reducible assumption)) | (refine Br.dpos ?_ ?_; focus (first | with_reducible exact rfl | with_reducible exact Int.le_refl _ | with_reducible assumption)) | (refine Br.dneg ?_ ?_; focus (with_reducible assumption)) | (refine Br.d (fun _ => ?_) (fun _ => ?_)) | refine Br.n ?_ | (refine Br.s (fun _ => ?_) (fun _ => ?_)) | (refine Br.mk (fun _ => ?_) (fun _ => ?_)))
           | (refine regv_id ?_; first | refine RegV.d ?_)
           | refine NilB.mk (fun b hb => ?_)
           | (refine alv_and ?_ ?_; focus (first | rfl | done))
           | refine DrawV.mk [] ?_
           | (refine appc_id ?_; first | refine AppC.growA ?_ | refine AppC.place ?_))
  all_goals (try (conv => whnf))
  refine LoopV.on (σ := Nat) rfl (fun i => [(0, cellX f cs), (1, I n), (6, .own 0 i), (7, Bo (grantS (cs.take i) n).2), (10, cellX f cs), (11, I cs.length), (12, I i)]) (fun i => [some (cellB (grantS (cs.take i) n).1)])
      (fun i => i ≤ cs.length) (fun i => cs.length - i) 0 ?_ (Nat.zero_le _) ?_
  · refine AtS.mk [(61, 4)] [0] rfl (by simp) rfl ?_ ?_
    · exact ⟨⟨_, rfl, rfl, rfl, rfl, .inl ⟨rfl, rfl, rfl⟩⟩, rfl⟩
    · (repeat' (first | exact trivial | exact rfl | with_reducible assumption | (refine ⟨_, rfl, ?_⟩) | (refine ⟨_, _, rfl, rfl, ?_⟩) | (refine And.intro ?_ ?_) | (refine Or.inl ⟨rfl, rfl, ?_⟩) | (refine Or.inl ⟨rfl, ?_⟩; focus (fail_if_success (refine And.intro ?_ ?_))) | (refine Or.inl (?_ : (_ : Nat) = _ ∧ _); refine ⟨?_, ?_⟩; focus (first | (simp only [List.length_map]; done) | (simp only [List.length_map, List.length_append, List.length_cons, List.length_nil]; done))) | exact Or.inl rfl | (refine Or.inr (Or.inr ⟨?_, ?_⟩)) | (refine Or.inr ⟨?_, ?_⟩) | (refine fun h => ?_; first | exact h | exact rfl | (cases h; done)) | (refine om8 ?_; simp only [← List.map_drop, ← List.map_take]; exact rfl) | ((first | refine om1 ?_ | refine om2 ?_ | refine om3 ?_ | refine om4 ?_ | refine om5 ?_ | refine om6 ?_ | refine om7 ?_); first | (simp only [List.length_map]; done) | (simp only [List.length_map]; omega) | omega)))
  rintro i hi
  have hgl : (grantS (cs.take i) n).1.length = i := by rw [grantS_len, List.length_take]; omega
  have hsn := fun hk : i < cs.length => (congrArg (fun l => grantS l n) (List.take_succ_eq_append_getElem hk)).trans (grantS_snoc _ _ _)
  repeat' (conv => whnf
           first
           | (refine get_id ?_; first | refine Get.mk _ rfl ?_ | refine Get.mk _ (nth_map Cell.row cs i rfl (by omega)) ?_)
           | (refine need_id ?_; first | refine Need.a ?_ | refine Need.mk (by (exact ⟨rfl, rfl, rfl, by simp [cellB]; omega, rfl, rfl⟩)) ?_)
           | (refine eqk_id ?_; first | refine EqK.a ?_)
           | (refine br_id ?_; first | refine Br.t ?_ | refine Br.f ?_ | (refine Br.pos ?_ ?_; focus (with_reducible assumption)) | (refine Br.neg ?_ ?_; focus (with_reducible assumption)) | (refine Br.dpos ?_ ?_; focus (first | with_reducible exact rfl | with_reducible exact Int.le_refl _ | with_reducible assumption)) | (refine Br.dneg ?_ ?_; focus (with_reducible assumption)) | (refine Br.d (fun _ => ?_) (fun _ => ?_)) | refine Br.n ?_ | (refine Br.s (fun _ => ?_) (fun _ => ?_)) | (refine Br.mk (fun _ => ?_) (fun _ => ?_)))
           | (refine regv_id ?_; first | refine RegV.d ?_)
           | refine NilB.mk (fun b hb => ?_)
           | (refine alv_and ?_ ?_; focus (first | rfl | done))
           | refine DrawV.mk [] ?_
           | (refine appc_id ?_; first | refine AppC.growA ?_ | refine AppC.grow (by (simp [cellB]; omega)) ?_ | refine AppC.place ?_))
  all_goals (try (conv => whnf))
  · rename_i h1 h2
    have h3 := hsn (by omega)
    rw [if_pos h2] at h3
    refine nx (i + 1) (by omega) (by omega) (AtS.mk [] [3] rfl (by simp) rfl ⟨⟨_, rfl, rfl, rfl, rfl, .inl ⟨rfl, rfl, by simp [cellB, Cell.row, h3]⟩⟩, rfl⟩ ?_)
    rw [h3, h2]
    (repeat' (first | exact trivial | exact rfl | with_reducible assumption | (refine ⟨_, rfl, ?_⟩) | (refine ⟨_, _, rfl, rfl, ?_⟩) | (refine And.intro ?_ ?_) | (refine Or.inl ⟨rfl, rfl, ?_⟩) | (refine Or.inl ⟨rfl, ?_⟩; focus (fail_if_success (refine And.intro ?_ ?_))) | (refine Or.inl (?_ : (_ : Nat) = _ ∧ _); refine ⟨?_, ?_⟩; focus (first | (simp only [List.length_map]; done) | (simp only [List.length_map, List.length_append, List.length_cons, List.length_nil]; done))) | exact Or.inl rfl | (refine Or.inr (Or.inr ⟨?_, ?_⟩)) | (refine Or.inr ⟨?_, ?_⟩) | (refine fun h => ?_; first | exact h | exact rfl | (cases h; done)) | (refine om8 ?_; simp only [← List.map_drop, ← List.map_take]; exact rfl) | ((first | refine om1 ?_ | refine om2 ?_ | refine om3 ?_ | refine om4 ?_ | refine om5 ?_ | refine om6 ?_ | refine om7 ?_); first | (simp only [List.length_map]; done) | (simp only [List.length_map]; omega) | omega)))
  · rename_i h1 h2 h4 h5
    have h3 := hsn (by omega)
    rw [if_neg (by simp [h2]), if_pos (by simp [waits, h4, h5])] at h3
    refine nx (i + 1) (by omega) (by omega) (AtS.mk [] [3] rfl (by simp) rfl ⟨⟨_, rfl, rfl, rfl, rfl, .inl ⟨rfl, rfl, by simp [cellB, Cell.row, h3]⟩⟩, rfl⟩ ?_)
    rw [h3]
    (repeat' (first | exact trivial | exact rfl | with_reducible assumption | (refine ⟨_, rfl, ?_⟩) | (refine ⟨_, _, rfl, rfl, ?_⟩) | (refine And.intro ?_ ?_) | (refine Or.inl ⟨rfl, rfl, ?_⟩) | (refine Or.inl ⟨rfl, ?_⟩; focus (fail_if_success (refine And.intro ?_ ?_))) | (refine Or.inl (?_ : (_ : Nat) = _ ∧ _); refine ⟨?_, ?_⟩; focus (first | (simp only [List.length_map]; done) | (simp only [List.length_map, List.length_append, List.length_cons, List.length_nil]; done))) | exact Or.inl rfl | (refine Or.inr (Or.inr ⟨?_, ?_⟩)) | (refine Or.inr ⟨?_, ?_⟩) | (refine fun h => ?_; first | exact h | exact rfl | (cases h; done)) | (refine om8 ?_; simp only [← List.map_drop, ← List.map_take]; exact rfl) | ((first | refine om1 ?_ | refine om2 ?_ | refine om3 ?_ | refine om4 ?_ | refine om5 ?_ | refine om6 ?_ | refine om7 ?_); first | (simp only [List.length_map]; done) | (simp only [List.length_map]; omega) | omega)))
  · rename_i h1 h2 h4 h5
    have h3 := hsn (by omega)
    rw [if_neg (by simp [h2]), if_neg (by simp [waits, h5])] at h3
    refine nx (i + 1) (by omega) (by omega) (AtS.mk [] [3] rfl (by simp) rfl ⟨⟨_, rfl, rfl, rfl, rfl, .inl ⟨rfl, rfl, by simp [cellB, Cell.row, h3]⟩⟩, rfl⟩ ?_)
    rw [h3, h2]
    (repeat' (first | exact trivial | exact rfl | with_reducible assumption | (refine ⟨_, rfl, ?_⟩) | (refine ⟨_, _, rfl, rfl, ?_⟩) | (refine And.intro ?_ ?_) | (refine Or.inl ⟨rfl, rfl, ?_⟩) | (refine Or.inl ⟨rfl, ?_⟩; focus (fail_if_success (refine And.intro ?_ ?_))) | (refine Or.inl (?_ : (_ : Nat) = _ ∧ _); refine ⟨?_, ?_⟩; focus (first | (simp only [List.length_map]; done) | (simp only [List.length_map, List.length_append, List.length_cons, List.length_nil]; done))) | exact Or.inl rfl | (refine Or.inr (Or.inr ⟨?_, ?_⟩)) | (refine Or.inr ⟨?_, ?_⟩) | (refine fun h => ?_; first | exact h | exact rfl | (cases h; done)) | (refine om8 ?_; simp only [← List.map_drop, ← List.map_take]; exact rfl) | ((first | refine om1 ?_ | refine om2 ?_ | refine om3 ?_ | refine om4 ?_ | refine om5 ?_ | refine om6 ?_ | refine om7 ?_); first | (simp only [List.length_map]; done) | (simp only [List.length_map]; omega) | omega)))
  · rename_i h1 h2 h4
    have h3 := hsn (by omega)
    rw [if_neg (by simp [h2]), if_neg (by simp [waits, h4])] at h3
    refine nx (i + 1) (by omega) (by omega) (AtS.mk [] [3] rfl (by simp) rfl ⟨⟨_, rfl, rfl, rfl, rfl, .inl ⟨rfl, rfl, by simp [cellB, Cell.row, h3]⟩⟩, rfl⟩ ?_)
    rw [h3, h2]
    (repeat' (first | exact trivial | exact rfl | with_reducible assumption | (refine ⟨_, rfl, ?_⟩) | (refine ⟨_, _, rfl, rfl, ?_⟩) | (refine And.intro ?_ ?_) | (refine Or.inl ⟨rfl, rfl, ?_⟩) | (refine Or.inl ⟨rfl, ?_⟩; focus (fail_if_success (refine And.intro ?_ ?_))) | (refine Or.inl (?_ : (_ : Nat) = _ ∧ _); refine ⟨?_, ?_⟩; focus (first | (simp only [List.length_map]; done) | (simp only [List.length_map, List.length_append, List.length_cons, List.length_nil]; done))) | exact Or.inl rfl | (refine Or.inr (Or.inr ⟨?_, ?_⟩)) | (refine Or.inr ⟨?_, ?_⟩) | (refine fun h => ?_; first | exact h | exact rfl | (cases h; done)) | (refine om8 ?_; simp only [← List.map_drop, ← List.map_take]; exact rfl) | ((first | refine om1 ?_ | refine om2 ?_ | refine om3 ?_ | refine om4 ?_ | refine om5 ?_ | refine om6 ?_ | refine om7 ?_); first | (simp only [List.length_map]; done) | (simp only [List.length_map]; omega) | omega)))
  · have hie : i = cs.length := by omega
    subst hie
    rw [List.take_length] at *
    exact RetP.cellsXo _ rfl rfl hgl.symm
end Go.Proofs.Ytammndlghfknbaa
