/- The engine, part Ns: lists of numbers that lie, each alone in its block, behind the cells of another block: opened (their blocks become local ones), closed again, and at last given up as content. -/
import Derived.Test.YtobojnfhhobnkaaEngK
set_option linter.unusedSimpArgs false
set_option maxRecDepth 20000
set_option linter.unusedVariables false
namespace Go.Eng
open Go Go.RowKit

abbrev intR (l : List Int) : List (List Sv) := l.map fun z => [.val (.int .i64 z)]
def IntsAt (w : World) (b : Nat) (l : List Int) : Prop := ∀ (j : Nat) (z : Int), l[j]? = some z → w.cell? ⟨b, j, none⟩ = some (.int .i64 z)
theorem RelR_ints {l : List Int} {c : Cx} {b : Nat} : RelR (intR l) c 1 b 0 ↔ IntsAt c.w b l := by
  rw [RelR_iff]
  constructor
  · intro h j z hz
    obtain ⟨_, hc⟩ := h j [.val (.int .i64 z)] (by rw [List.getElem?_map, hz]; rfl)
    simp only [RelC, Rel] at hc
    obtain ⟨⟨u, h1, _, rfl⟩, _⟩ := hc
    simpa using h1
  · intro h i r hr
    rw [List.getElem?_map] at hr
    cases hl : l[i]? with
    | none => rw [hl] at hr; cases hr
    | some z =>
      rw [hl] at hr
      simp only [Option.map_some, Option.some.injEq] at hr
      subst hr
      refine ⟨rfl, ?_⟩
      simp only [RelC, Rel]
      exact ⟨⟨_, by simpa using h i z hl, rfl, rfl⟩, trivial⟩
/-- A value that is a slice of these numbers, alone in a block that is new and marked (or nil). -/
def NsAt (n0 e : Nat) (A C : Nat → Prop) (w : World) (x : Value) (l : List Int) : Prop :=
  x = .slice none 0 0 ∧ l = [] ∨ ∃ (b cap : Nat) (arr : Array Value), x = .slice (some ⟨b, 0, none⟩) l.length cap ∧ A b ∧ C b ∧ n0 ≤ b ∧ w.heap[b]? = some (.cells arr e (0, 0)) ∧ l.length ≤ arr.size ∧ cap ≤ arr.size ∧ l.length ≤ cap ∧ cap ≤ maxLen ∧ IntsAt w b l
def blkOf : Value → Option Nat
  | .slice (some a) _ _ => some a.block
  | _ => none
structure NsG (n0 e : Nat) (A C : Nat → Prop) (w : World) (G : List (Option (Value × List Int))) : Prop where
  at_ : ∀ (j : Nat) x l, G[j]? = some (some (x, l)) → NsAt n0 e A C w x l
  inj : ∀ (i j : Nat) x y lx ly b, G[i]? = some (some (x, lx)) → G[j]? = some (some (y, ly)) → blkOf x = some b → blkOf y = some b → i = j
def nsRow : Option (Value × List Int) → List Sv
  | none => []
  | some (x, l) => [.val x, .ext true 1 (intR l)]
def nsRows (G : List (Option (Value × List Int))) : List (List Sv) := [.any] :: G.map nsRow
theorem intR_inj {l m : List Int} (h : intR l = intR m) : l = m := by
  unfold intR at h
  exact (List.map_inj_right (fun x y e => by simpa using e)).1 h
theorem nsRows_inj {G H : List (Option (Value × List Int))} (h : nsRows G = nsRows H) : G = H := by
  unfold nsRows at h
  simp only [List.cons.injEq, true_and] at h
  refine (List.map_inj_right (fun x y e => ?_)).1 h
  rcases x with _ | ⟨x, l⟩ <;> rcases y with _ | ⟨y, m⟩ <;> simp only [nsRow] at e
  · rfl
  · cases e
  · cases e
  · simp only [List.cons.injEq, Sv.val.injEq, Sv.ext.injEq, true_and, and_true] at e
    rw [e.1, intR_inj e.2]
def NsJ (e : Nat) (w0 : World) (_ : Nat) (rows : List (List Sv)) (A C : Nat → Prop) (w : World) : Prop := ∃ G, rows = nsRows G ∧ NsG w0.heap.size e A C w G
theorem NsAt.same {n0 e : Nat} {A C : Nat → Prop} {w w' : World} {x : Value} {l : List Int} (hw : ∀ b, C b → w'.heap[b]? = w.heap[b]?) (h : NsAt n0 e A C w x l) : NsAt n0 e A C w' x l := by
  rcases h with h | ⟨b, cap, arr, h1, h2, h3, h4, h5, h6, h7, h8, h9, h10⟩
  · exact .inl h
  · exact .inr ⟨b, cap, arr, h1, h2, h3, h4, (hw b h3).trans h5, h6, h7, h8, h9, fun j z hz => by rw [World.cell?_of_block (hw b h3)]; exact h10 j z hz⟩
theorem NsJ.js (e : Nat) : ∀ w0 st r A C w w', NsJ e w0 st r A C w → WSame C w w' → NsJ e w0 st r A C w' := by
  rintro w0 st r A C w w' ⟨G, h1, h2⟩ hw
  exact ⟨G, h1, ⟨fun j x l hj => (h2.at_ j x l hj).same hw.block, h2.inj⟩⟩

/-! ### The state, changed in ways that the world does not show -/
section
variable {w0 : World} {M : Frm} {c : Cx} {tm : List Sv} {hp : Hp} {a : Act} {ds : List Deferred} {e : Nat}

theorem St.reset (hS : St w0 M c tm hp a ds) {tm' : List Sv} (hl : tm'.length = tm.length) (h : ∀ t, tmGet tm' t = .any ∨ tmGet tm' t = tmGet tm t) : St w0 M c tm' hp a ds :=
  { inv := hS.inv, full := hS.full, rel := fun t => by
      rcases h t with h | h
      · rw [h]; trivial
      · rw [h]; exact hS.rel t
    size := by rw [hl]; exact hS.size, ds := hS.ds }

/-- No block but kg tells a tale. -/
def NoGh (kg : Nat) (hp : Hp) : Prop := ∀ (k : Nat) (blk : Blk), k ≠ kg → hp[k]? = some (some blk) → blk.grow = false → blk.wd ≠ 0
theorem NoGh.not {kg : Nat} (h : NoGh kg hp) (hI : Inv w0 M c hp) {k : Nat} {blk : Blk} (hk : k ≠ kg) (hD : c.D k) (hb : hp[k]? = some (some blk)) (hn : (c.E k).nil = true) (hg : blk.grow = false) : False := by
  obtain ⟨blk', hb', r⟩ := hI.dom k hD
  rw [hb] at hb'
  cases hb'
  rcases r.2.1 hn with ⟨h1, _⟩ | ⟨_, _, h1⟩
  · rw [hg] at h1; cases h1
  · exact h k blk hk hb hg h1

/-- The last blocks are given up (their numbers alone; nothing of them becomes content). -/
theorem St.trunc (hS : St w0 M c tm hp a ds) (hm : M.m = 0) (m : Nat) (ht : ∀ t, (tmGet tm t).all (fun k => Nat.blt k m) = true)
    (hr : ∀ (k : Nat) (blk : Blk), k < m → hp[k]? = some (some blk) → blk.clean = false → blk.rows.all (Sv.all.allL (fun k => Nat.blt k m)) = true) : ∃ c', c'.w = c.w ∧ St w0 M c' tm (hp.take m) a ds := by
  have hI := hS.inv
  have hle : c.Le (fun k => Nat.blt k m) { c with D := fun k => c.D k ∧ k < m } := ⟨fun k hk hD => ⟨⟨hD, blt_lt hk⟩, rfl⟩, fun _ h => h, fun _ _ h => h, fun _ _ => rfl⟩
  refine ⟨{ c with D := fun k => c.D k ∧ k < m }, rfl, { inv := ?_, full := fun k b hb => ?_, rel := fun t => Rel.le _ (ht t) hle (hS.rel t), size := hS.size, ds := hS.ds }⟩
  · exact {
      dom := fun k hk => by
        obtain ⟨blk, hb, r⟩ := hI.dom k hk.1
        exact ⟨blk, by rw [List.getElem?_take, if_pos hk.2]; exact hb, r.le hle rfl (fun _ => rfl) (fun hc => hr k blk hk.2 hb hc)⟩
      inj := fun k k' h h' => hI.inj k k' h.1 h'.1
      xsep := fun k b h => hI.xsep k b h.1
      xlt := hI.xlt, xY := hI.xY, bnd := hI.bnd, bndG := hI.bndG
      e0 := fun k hk => by omega
      mlen := by omega
      os := hI.os, tape := hI.tape, output := hI.output, size := hI.size, keep := hI.keep
      loc := fun k h => hI.loc k h.1
      x0 := hI.x0, ca := hI.ca
      cc := fun b hb => ⟨(hI.cc b hb).1, fun k h => (hI.cc b hb).2.1 k h.1, (hI.cc b hb).2.2⟩
      gh := fun k blk h hb => hI.gh k blk h.1 (by rw [List.getElem?_take, if_pos h.2] at hb; exact hb)
      zc := hI.zc, z0 := hI.z0, xk := hI.xk }
  · rw [List.getElem?_take] at hb
    split at hb
    · rename_i hk
      exact ⟨hS.full k b hb, hk⟩
    · cases hb

/-- A tale begins: n nil lists. -/
theorem St.nsInit (hS : St w0 M c tm hp a ds) (hm : M.m = 0) (hJ : M.J = NsJ e w0) (hno : NoGh hp.length hp) (n : Nat) : ∃ c', c'.w = c.w ∧ St w0 M c' tm (hp ++ [some ⟨0, 0, true, false, nsRows (List.replicate n (some (.slice none 0 0, [])))⟩]) a ds := by
  have hI := hS.inv
  have hlt : ∀ k, c.D k → k < hp.length := fun k hk => by obtain ⟨blk, hb, _⟩ := hI.dom k hk; exact (List.getElem?_eq_some_iff.1 hb).1
  have hnd : ¬ c.D hp.length := fun h => Nat.lt_irrefl _ (hlt _ h)
  have hE : ∀ k, c.D k → upd c.E hp.length ⟨0, 0, true, 0⟩ k = c.E k := fun k hk => upd_other (by have := hlt k hk; omega)
  have hle : c.Le (fun _ => true) (c.put hp.length ⟨0, 0, true, 0⟩ c.w) := Cx.Le.put hnd fun _ _ => rfl
  refine ⟨c.put hp.length ⟨0, 0, true, 0⟩ c.w, rfl, { inv := ?_, full := fun k b hb => ?_, rel := fun t => Rel.le _ (Sv.all_true _) hle (hS.rel t), size := hS.size, ds := hS.ds }⟩
  · exact {
      dom := fun k hk => by
        rcases hk with hk | rfl
        · obtain ⟨blk, hb, r⟩ := hI.dom k hk
          exact ⟨blk, by rw [List.getElem?_append_left (hlt k hk)]; exact hb, r.le hle (hE k hk) (fun _ => rfl) (fun _ => allR_true _)⟩
        · refine ⟨_, by simp; rfl, ?_⟩
          show BlkRel _ _ _
          unfold BlkRel
          rw [show (c.put hp.length ⟨0, 0, true, 0⟩ c.w).E hp.length = ⟨0, 0, true, 0⟩ from upd_same _ _ _]
          exact ⟨rfl, fun _ => .inr ⟨rfl, rfl, rfl⟩, fun h => by cases h⟩
      inj := fun k k' h h' hkk hn hn' => by
        rcases h with h | rfl <;> rcases h' with h' | rfl
        · rw [show (c.put hp.length ⟨0, 0, true, 0⟩ c.w).E k = c.E k from hE k h] at *
          rw [show (c.put hp.length ⟨0, 0, true, 0⟩ c.w).E k' = c.E k' from hE k' h'] at *
          exact hI.inj k k' h h' hkk hn hn'
        · rw [show (c.put hp.length ⟨0, 0, true, 0⟩ c.w).E hp.length = ⟨0, 0, true, 0⟩ from upd_same _ _ _] at hn'; cases hn'
        · rw [show (c.put hp.length ⟨0, 0, true, 0⟩ c.w).E hp.length = ⟨0, 0, true, 0⟩ from upd_same _ _ _] at hn; cases hn
        · exact absurd rfl hkk
      xsep := fun k b h hn => by
        rcases h with h | rfl
        · rw [show (c.put hp.length ⟨0, 0, true, 0⟩ c.w).E k = c.E k from hE k h] at *
          exact hI.xsep k b h hn
        · rw [show (c.put hp.length ⟨0, 0, true, 0⟩ c.w).E hp.length = ⟨0, 0, true, 0⟩ from upd_same _ _ _] at hn; cases hn
      xlt := hI.xlt, xY := hI.xY, bnd := hI.bnd, bndG := hI.bndG
      e0 := fun k hk => by omega
      mlen := by omega
      os := hI.os, tape := hI.tape, output := hI.output, size := hI.size, keep := hI.keep
      loc := fun k h hn => by
        rcases h with h | rfl
        · rw [show (c.put hp.length ⟨0, 0, true, 0⟩ c.w).E k = c.E k from hE k h] at *
          exact hI.loc k h hn
        · rw [show (c.put hp.length ⟨0, 0, true, 0⟩ c.w).E hp.length = ⟨0, 0, true, 0⟩ from upd_same _ _ _] at hn; cases hn
      x0 := hI.x0, ca := hI.ca
      cc := fun b hb => by
        refine ⟨(hI.cc b hb).1, fun k h hn => ?_, (hI.cc b hb).2.2⟩
        rcases h with h | rfl
        · rw [show (c.put hp.length ⟨0, 0, true, 0⟩ c.w).E k = c.E k from hE k h] at *
          exact (hI.cc b hb).2.1 k h hn
        · rw [show (c.put hp.length ⟨0, 0, true, 0⟩ c.w).E hp.length = ⟨0, 0, true, 0⟩ from upd_same _ _ _] at hn; cases hn
      gh := fun k blk h hb hn hg => by
        rcases h with h | rfl
        · rw [show (c.put hp.length ⟨0, 0, true, 0⟩ c.w).E k = c.E k from hE k h] at *
          rw [List.getElem?_append_left (hlt k h)] at hb
          exact (hno.not hI (by have := hlt k h; omega) h hb hn hg).elim
        · rw [List.getElem?_append_right (Nat.le_refl _), Nat.sub_self] at hb
          simp only [List.getElem?_cons_zero, Option.some.injEq] at hb
          subst hb
          refine ⟨fun _ => False, fun b hb => hb.elim, ?_⟩
          rw [hJ]
          refine ⟨_, rfl, ⟨fun j x l hj => ?_, fun i j x y lx ly b hi hj hx => ?_⟩⟩
          · rw [List.getElem?_replicate] at hj
            split at hj
            · simp only [Option.some.injEq, Prod.mk.injEq] at hj
              exact .inl ⟨hj.1.symm, hj.2.symm⟩
            · cases hj
          · rw [List.getElem?_replicate] at hi
            split at hi
            · simp only [Option.some.injEq, Prod.mk.injEq] at hi
              rw [← hi.1] at hx
              cases hx
            · cases hi
      zc := hI.zc, z0 := hI.z0, xk := hI.xk }
  · by_cases hk : k < hp.length
    · rw [List.getElem?_append_left hk] at hb
      exact .inl (hS.full k b hb)
    · have := (List.getElem?_eq_some_iff.1 hb).1
      simp at this
      exact .inr (by omega)

theorem set2_get {α : Type} {l : List α} {i j : Nat} {x y : α} {k : Nat} : ((l.set i x).set j y)[k]? = if k < l.length then (if j = k then some y else if i = k then some x else l[k]?) else none := by
  by_cases hk : k < l.length
  · rw [if_pos hk, List.getElem?_set]
    split
    · rw [if_pos (by simpa using by omega)]
    · rw [List.getElem?_set]
      split
      · rw [if_pos (by omega)]
      · rfl
  · rw [if_neg hk, List.getElem?_eq_none (by simpa using by omega)]

/-- A block of cells that are slices is no nil slice where it has a row. -/
theorem BlkRel.real {k t : Nat} {cl gr : Bool} {rows : List (List Sv)} {r : Nat} {x : List Sv} (h : BlkRel c k ⟨t, 1, cl, gr, rows⟩) (hr : rows[r]? = some x) : (c.E k).nil = false := by
  cases hn : (c.E k).nil with
  | false => rfl
  | true =>
    rcases h.2.1 hn with ⟨_, h1⟩ | ⟨_, _, h1⟩
    · rw [show rows = [] from h1] at hr
      simp at hr
    · cases h1
/-- A tale's block is no block of the machine. -/
theorem BlkRel.ghost {k : Nat} {G : List (Option (Value × List Int))} (h : BlkRel c k ⟨0, 0, true, false, nsRows G⟩) : (c.E k).nil = true := by
  cases hn : (c.E k).nil with
  | true => rfl
  | false =>
    obtain ⟨arr, _, h1, _⟩ := h.2.2 hn
    rw [RelR_iff] at h1
    have := (h1 0 [.any] rfl).1
    simp at this

/-- A list is opened: its block becomes the last local one. -/
theorem St.nsOpen (hS : St w0 M c tm hp a ds) (hm : M.m = 0) (hJ : M.J = NsJ e w0) {kn kg t : Nat} (hne : kn ≠ kg) (hno : NoGh kg hp) {cl gr : Bool} {rows : List (List Sv)} {G : List (Option (Value × List Int))}
    (hn : hp[kn]? = some (some ⟨t, 1, cl, gr, rows⟩)) (hg : hp[kg]? = some (some ⟨0, 0, true, false, nsRows G⟩)) {r : Nat} {x : Value} {l : List Int} (hr : rows[r]? = some [.val x]) (hG : G[r]? = some (some (x, l))) :
    ∃ c', c'.w = c.w ∧ St w0 M c' tm ((hp.set kn (some ⟨t, 1, false, gr, rows.set r [.own hp.length l.length]⟩)).set kg (some ⟨0, 0, true, false, nsRows (G.set r none)⟩) ++ [some ⟨e, 1, true, true, intR l⟩]) a ds := by
  have hI := hS.inv
  have hDn := hS.full _ _ hn
  have hDg := hS.full _ _ hg
  have hlt : ∀ k, c.D k → k < hp.length := fun k hk => by obtain ⟨blk, hb, _⟩ := hI.dom k hk; exact (List.getElem?_eq_some_iff.1 hb).1
  have hnd : ¬ c.D hp.length := fun h => Nat.lt_irrefl _ (hlt _ h)
  obtain ⟨bn, hbn, rn⟩ := hI.dom kn hDn
  rw [hn] at hbn
  cases hbn
  obtain ⟨bg, hbg, rg⟩ := hI.dom kg hDg
  rw [hg] at hbg
  cases hbg
  have nn := rn.real hr
  have ng := rg.ghost
  obtain ⟨C1, hC1, hj⟩ := hI.gh kg _ hDg hg ng rfl
  rw [hJ] at hj
  obtain ⟨G', hGG, hN⟩ := hj
  cases nsRows_inj hGG
  -- where the list lies
  obtain ⟨loc, hwd, hx, hloc, hblk⟩ : ∃ loc : Loc, loc.wd = 1 ∧ (loc.nil = true ∧ x = .slice none 0 0 ∧ l.length = 0 ∨ loc.nil = false ∧ x = .slice (some ⟨loc.b, 0, none⟩) l.length loc.cap ∧ l.length ≤ loc.cap) ∧ (loc.nil = false → c.A loc.b ∧ C1 loc.b ∧ w0.heap.size ≤ loc.b) ∧
      (loc.nil = true → l = []) ∧ (loc.nil = false → ∃ arr, c.w.heap[loc.b]? = some (.cells arr e (0, 0)) ∧ IntsAt c.w loc.b l ∧ l.length ≤ arr.size ∧ loc.cap ≤ arr.size ∧ l.length ≤ loc.cap ∧ loc.cap ≤ maxLen) := by
    rcases hN.at_ r x l hG with ⟨h1, h2⟩ | ⟨b, cap, arr, h1, h2, h3, h4, h5, h6, h7, h8, h9, h10⟩
    · exact ⟨⟨0, 0, true, 1⟩, rfl, .inl ⟨rfl, h1, (by rw [h2]; rfl)⟩, fun h => (by cases h), fun _ => h2, fun h => (by cases h)⟩
    · exact ⟨⟨b, cap, false, 1⟩, rfl, .inr ⟨rfl, h1, h8⟩, fun _ => ⟨h2, h3, h4⟩, fun h => (by cases h), fun _ => ⟨arr, h5, h10, h6, h7, h8, h9⟩⟩
  have hCl : loc.nil = false → c.C loc.b := fun h => (hC1 _ (hloc h).2.1).1
  have hsep : ∀ k, c.D k → (c.E k).nil = false → loc.nil = false → (c.E k).b ≠ loc.b := fun k hk hkn hln => (hI.cc _ (hCl hln)).2.1 k hk hkn
  let S : Nat → Prop := fun b => loc.nil = false ∧ b = loc.b
  let c' : Cx := { c with E := upd c.E hp.length loc, D := fun k => c.D k ∨ k = hp.length, A := fun b => c.A b ∧ ¬ S b, C := fun b => c.C b ∧ ¬ S b }
  have hE : ∀ k, c.D k → c'.E k = c.E k := fun k hk => upd_other (by have := hlt k hk; omega)
  have hEN : c'.E hp.length = loc := upd_same _ _ _
  have hle : c.Le (fun _ => true) c' := ⟨fun k _ hk => ⟨.inl hk, hE k hk⟩, fun _ h => h, fun _ _ h => h, fun _ _ => rfl⟩
  have hle0 : c.shut.Le (fun _ => true) c' := ⟨fun k _ hk => hk.elim, fun _ h => h, fun _ _ h => h, fun _ _ => rfl⟩
  have hZ : ∀ b, c.Z b → ¬ S b := fun b hb hs => (hI.zc b hb).2.1 (by rw [hs.2]; exact (hloc hs.1).1)
  have hget : ∀ k, k < hp.length → ((hp.set kn (some ⟨t, 1, false, gr, rows.set r [.own hp.length l.length]⟩)).set kg (some ⟨0, 0, true, false, nsRows (G.set r none)⟩) ++ [some ⟨e, 1, true, true, intR l⟩])[k]? = if kg = k then some (some ⟨0, 0, true, false, nsRows (G.set r none)⟩) else if kn = k then some (some ⟨t, 1, false, gr, rows.set r [.own hp.length l.length]⟩) else hp[k]? := fun k hk => by
    rw [List.getElem?_append_left (by simpa using hk), set2_get, if_pos hk]
  have hgetN : ((hp.set kn (some ⟨t, 1, false, gr, rows.set r [.own hp.length l.length]⟩)).set kg (some ⟨0, 0, true, false, nsRows (G.set r none)⟩) ++ [some ⟨e, 1, true, true, intR l⟩])[hp.length]? = some (some ⟨e, 1, true, true, intR l⟩) := by
    rw [List.getElem?_append_right (by simp)]; simp
  refine ⟨c', rfl, { inv := ?_, full := fun k b hb => ?_, rel := fun t => Rel.le _ (Sv.all_true _) hle (hS.rel t), size := hS.size, ds := ?_ }⟩
  · exact {
      dom := fun k hk => by
        rcases hk with hk | rfl
        · rw [hget k (hlt k hk)]
          by_cases h1 : kg = k
          · subst h1
            rw [if_pos rfl]
            refine ⟨_, rfl, ?_⟩
            unfold BlkRel
            rw [hE _ hk]
            exact ⟨rg.1, fun _ => .inr ⟨rfl, rfl, rfl⟩, fun h => by rw [ng] at h; cases h⟩
          rw [if_neg h1]
          by_cases h2 : kn = k
          · subst h2
            rw [if_pos rfl]
            refine ⟨_, rfl, ?_⟩
            unfold BlkRel
            rw [hE _ hk]
            refine ⟨rn.1, fun h => (by rw [nn] at h; cases h), fun _ => ?_⟩
            obtain ⟨arr, g1, g2, g3, g4⟩ := rn.2.2 nn
            refine ⟨arr, g1, ?_, by simpa using g3, fun h => by simpa using g4 h⟩
            show RelR (rows.set r [.own hp.length l.length]) c' 1 _ 0
            rw [RelR_iff] at g2 ⊢
            intro i row hrow
            rw [List.getElem?_set] at hrow
            split at hrow
            · rename_i hir
              subst hir
              split at hrow
              · cases hrow
                refine ⟨rfl, ?_⟩
                have h3 := (g2 r _ hr).2
                simp only [RelC] at h3 ⊢
                obtain ⟨⟨u, h4, h5, h6⟩, _⟩ := h3
                have h6 : u = x := by unfold Blk.cx at h6; simpa [Rel] using h6
                subst h6
                refine ⟨⟨u, ?_, h5, ?_⟩, trivial⟩
                · show c.w.cell? _ = _
                  unfold Blk.cx at h4
                  cases cl <;> exact h4
                · simp only [Rel]
                  rw [hEN]
                  exact ⟨.inr rfl, hx⟩
              · cases hrow
            · refine ⟨(g2 i row hrow).1, ?_⟩
              have h3 := (g2 i row hrow).2
              unfold Blk.cx at h3
              cases cl with
              | true => exact RelC.le _ (by simpa using allL_true row) hle0 rfl h3
              | false => exact RelC.le _ (by simpa using allL_true row) hle rfl h3
          · rw [if_neg h2]
            obtain ⟨blk, hb, rb⟩ := hI.dom k hk
            exact ⟨blk, hb, rb.le hle (hE k hk) (fun _ => rfl) (fun _ => allR_true _)⟩
        · refine ⟨_, hgetN, ?_⟩
          unfold BlkRel
          rw [hEN]
          refine ⟨hwd, fun h => .inl ⟨rfl, by show intR l = []; rw [hblk.1 h]; rfl⟩, fun h => ?_⟩
          obtain ⟨arr, g1, g2, g3, g4, g5, g6⟩ := hblk.2 h
          refine ⟨arr, g1, ?_, by simpa using g3, fun _ => ⟨by simpa using g4, by simpa using g5, g6⟩⟩
          exact RelR_ints.2 g2
      inj := fun k k' h h' hkk hn hn' => by
        rcases h with h | rfl <;> rcases h' with h' | rfl
        · rw [hE k h] at *
          rw [hE k' h'] at *
          exact hI.inj k k' h h' hkk hn hn'
        · rw [hE k h] at *
          rw [hEN] at *
          exact hsep k h hn hn'
        · rw [hE k' h'] at *
          rw [hEN] at *
          exact fun e => hsep k' h' hn' hn e.symm
        · exact absurd rfl hkk
      xsep := fun k b h hn hb => by
        rcases h with h | rfl
        · rw [hE k h] at *
          exact hI.xsep k b h hn hb
        · rw [hEN] at *
          intro e1
          subst e1
          exact (hI.ca _ (hloc hn).1).2.1 hb
      xlt := hI.xlt, xY := hI.xY, bnd := hI.bnd, bndG := hI.bndG
      e0 := fun k hk => by omega
      mlen := by omega
      os := hI.os, tape := hI.tape, output := hI.output, size := hI.size, keep := hI.keep
      loc := fun k h hn => by
        rcases h with h | rfl
        · rw [hE k h] at *
          exact hI.loc k h hn
        · rw [hEN] at *
          exact .inr (hloc hn).2.2
      x0 := hI.x0
      ca := fun b hb => ⟨⟨(hI.ca b hb.1).1, hb.2⟩, (hI.ca b hb.1).2⟩
      cc := fun b hb => by
        refine ⟨(hI.cc b hb.1).1, fun k h hn => ?_, (hI.cc b hb.1).2.2⟩
        rcases h with h | rfl
        · rw [hE k h] at *
          exact (hI.cc b hb.1).2.1 k h hn
        · rw [hEN] at *
          exact fun e1 => hb.2 ⟨hn, e1.symm⟩
      gh := fun k blk h hb hn hgr => by
        rcases h with h | rfl
        · rw [hget k (hlt k h)] at hb
          rw [hE k h] at hn
          by_cases h1 : kg = k
          · rw [if_pos h1] at hb
            cases hb
            refine ⟨fun b => C1 b ∧ ¬ S b, fun b hb => ⟨⟨(hC1 b hb.1).1, hb.2⟩, (hC1 b hb.1).2⟩, ?_⟩
            rw [hJ]
            refine ⟨_, rfl, ⟨fun j y m hj => ?_, fun i j y z ly lz b hi hj => ?_⟩⟩
            · rw [List.getElem?_set] at hj
              split at hj
              · split at hj <;> cases hj
              · rename_i hjr
                rcases hN.at_ j y m hj with h | ⟨b, cap, arr, g1, g2, g3, g4, g5⟩
                · exact .inl h
                · have hs : ¬ S b := by
                    rintro ⟨s1, s2⟩
                    refine hjr (hN.inj r j x y l m b hG hj ?_ (by rw [g1]; rfl))
                    rcases hx with ⟨h7, _⟩ | ⟨_, h7, _⟩
                    · rw [s1] at h7; cases h7
                    · rw [h7, s2]; rfl
                  exact .inr ⟨b, cap, arr, g1, ⟨g2, hs⟩, ⟨g3, hs⟩, g4, g5⟩
            · rw [List.getElem?_set] at hi hj
              split at hi
              · split at hi <;> cases hi
              · split at hj
                · split at hj <;> cases hj
                · exact hN.inj i j y z ly lz b hi hj
          · rw [if_neg h1] at hb
            by_cases h2 : kn = k
            · subst h2
              rw [nn] at hn; cases hn
            · rw [if_neg h2] at hb
              exact (hno.not hI (fun e1 => h1 e1.symm) h hb hn hgr).elim
        · rw [hgetN] at hb
          cases hb
          cases hgr
      zc := fun b hb => ⟨⟨(hI.zc b hb).1, hZ b hb⟩, fun h => (hI.zc b hb).2.1 h.1, (hI.zc b hb).2.2⟩
      z0 := hI.z0, xk := hI.xk }
  · by_cases hk : k < hp.length
    · rw [hget k hk] at hb
      by_cases h1 : kg = k
      · exact .inl (h1 ▸ hDg)
      · rw [if_neg h1] at hb
        by_cases h2 : kn = k
        · exact .inl (h2 ▸ hDn)
        · rw [if_neg h2] at hb
          exact .inl (hS.full k b hb)
    · have := (List.getElem?_eq_some_iff.1 hb).1
      simp at this
      exact .inr (by omega)
  · obtain ⟨ml, g1, g2, g3⟩ := hS.ds
    exact ⟨ml, g1, g2, fun b hb => ⟨(g3 b hb).1, (g3 b hb).2.1, ⟨(g3 b hb).2.2.1, hZ b (g3 b hb).2.1⟩, (g3 b hb).2.2.2⟩⟩

theorem set3_get {α : Type} {l : List α} {i j m : Nat} {x y z : α} {k : Nat} : (((l.set i x).set j y).set m z)[k]? = if k < l.length then (if m = k then some z else if j = k then some y else if i = k then some x else l[k]?) else none := by
  by_cases hk : k < l.length
  · rw [if_pos hk, List.getElem?_set]
    split
    · rw [if_pos (by simpa using by omega)]
    · rw [set2_get, if_pos hk]
  · rw [if_neg hk, List.getElem?_eq_none (by simpa using by omega)]

/-- A list is closed: its block is a local one no more. -/
theorem St.nsClose (hS : St w0 M c tm hp a ds) (hm : M.m = 0) (hJ : M.J = NsJ e w0) (hMM : ∀ b, ¬ M.M b) {kn kg k t : Nat} (hng : kn ≠ kg) (hnk : k ≠ kn) (hgk : k ≠ kg) (hno : NoGh kg hp) {gr : Bool} {rows : List (List Sv)} {G : List (Option (Value × List Int))}
    (hn : hp[kn]? = some (some ⟨t, 1, false, gr, rows⟩)) (hg : hp[kg]? = some (some ⟨0, 0, true, false, nsRows G⟩)) {l : List Int} (hk : hp[k]? = some (some ⟨e, 1, true, true, intR l⟩)) {r n : Nat} (hr : rows[r]? = some [.own k n]) (hnl : n = l.length) (hG : G[r]? = some none)
    (ht : ∀ t, (tmGet tm t).all (fun j => j != k) = true) (hrows : ∀ i row, i ≠ r → rows[i]? = some row → Sv.all.allL (fun j => j != k) row = true)
    (hoth : ∀ (j : Nat) (blk : Blk), j ≠ kn → j ≠ k → hp[j]? = some (some blk) → blk.clean = false → blk.rows.all (Sv.all.allL (fun j => j != k)) = true) :
    ∃ c' x, c'.w = c.w ∧ St w0 M c' tm (((hp.set kn (some ⟨t, 1, false, gr, rows.set r [.val x]⟩)).set kg (some ⟨0, 0, true, false, nsRows (G.set r (some (x, l)))⟩)).set k none) a ds := by
  subst hnl
  have hI := hS.inv
  have hDn := hS.full _ _ hn
  have hDg := hS.full _ _ hg
  have hDk := hS.full _ _ hk
  have hlt : ∀ k, c.D k → k < hp.length := fun k hk => by obtain ⟨blk, hb, _⟩ := hI.dom k hk; exact (List.getElem?_eq_some_iff.1 hb).1
  obtain ⟨bn, hbn, rn⟩ := hI.dom kn hDn
  rw [hn] at hbn
  cases hbn
  obtain ⟨bg, hbg, rg⟩ := hI.dom kg hDg
  rw [hg] at hbg
  cases hbg
  obtain ⟨bk, hbk, rk⟩ := hI.dom k hDk
  rw [hk] at hbk
  cases hbk
  have nn := rn.real hr
  have ng := rg.ghost
  obtain ⟨C1, hC1, hj⟩ := hI.gh kg _ hDg hg ng rfl
  rw [hJ] at hj
  obtain ⟨G', hGG, hN⟩ := hj
  cases nsRows_inj hGG
  -- the value that lies in the cell
  obtain ⟨arrn, n1, n2, n3, n4⟩ := rn.2.2 nn
  rw [RelR_iff] at n2
  have h3 := (n2 r _ hr).2
  simp only [RelC] at h3
  obtain ⟨⟨x, h4, h5, h6⟩, _⟩ := h3
  simp only [Blk.cx, Rel, Bool.false_eq_true, if_false] at h4 h6
  obtain ⟨_, h6⟩ := h6
  let S : Nat → Prop := fun b => (c.E k).nil = false ∧ b = (c.E k).b
  let c' : Cx := { c with D := fun j => c.D j ∧ j ≠ k, A := fun b => c.A b ∨ S b, C := fun b => c.C b ∨ S b }
  have hle : c.Le (fun j => j != k) c' := ⟨fun j hj hD => ⟨⟨hD, by simpa using hj⟩, rfl⟩, fun _ h => h, fun _ _ h => h, fun _ _ => rfl⟩
  have hfresh : ∀ b, S b → w0.heap.size ≤ b := fun b hb => by
    rcases hI.loc k hDk hb.1 with h | h
    · exact (hMM _ h).elim
    · rw [hb.2]; exact h
  have hCS : ∀ b, c.C b → ¬ S b := fun b hb hs => (hI.cc b hb).2.1 k hDk hs.1 hs.2.symm
  have hget : ∀ j, j < hp.length → (((hp.set kn (some ⟨t, 1, false, gr, rows.set r [.val x]⟩)).set kg (some ⟨0, 0, true, false, nsRows (G.set r (some (x, l)))⟩)).set k none)[j]? = if k = j then some none else if kg = j then some (some ⟨0, 0, true, false, nsRows (G.set r (some (x, l)))⟩) else if kn = j then some (some ⟨t, 1, false, gr, rows.set r [.val x]⟩) else hp[j]? := fun j hj => by
    rw [set3_get, if_pos hj]
  refine ⟨c', x, rfl, { inv := ?_, full := fun j b hb => ?_, rel := fun t => Rel.le _ (ht t) hle (hS.rel t), size := hS.size, ds := ?_ }⟩
  · exact {
      dom := fun j hj => by
        rw [hget j (hlt j hj.1), if_neg (fun e1 => hj.2 e1.symm)]
        by_cases h1 : kg = j
        · subst h1
          rw [if_pos rfl]
          exact ⟨_, rfl, rg.1, fun _ => .inr ⟨rfl, rfl, rfl⟩, fun h => by rw [show (c'.E kg).nil = (c.E kg).nil from rfl, ng] at h; cases h⟩
        rw [if_neg h1]
        by_cases h2 : kn = j
        · subst h2
          rw [if_pos rfl]
          refine ⟨_, rfl, rn.1, fun h => (by rw [show (c'.E kn).nil = (c.E kn).nil from rfl, nn] at h; cases h), fun _ => ⟨arrn, n1, ?_, by simpa using n3, fun h => by simpa using n4 h⟩⟩
          show RelR (rows.set r [.val x]) c' 1 _ 0
          rw [RelR_iff]
          intro i row hrow
          rw [List.getElem?_set] at hrow
          split at hrow
          · rename_i hir
            subst hir
            split at hrow
            · cases hrow
              refine ⟨rfl, ?_⟩
              simp only [RelC]
              exact ⟨⟨x, h4, h5, by simp [Rel]⟩, trivial⟩
            · cases hrow
          · rename_i hir
            refine ⟨(n2 i row hrow).1, ?_⟩
            have h7 := (n2 i row hrow).2
            simp only [Blk.cx, Bool.false_eq_true, if_false] at h7
            exact RelC.le _ (hrows i row (fun e1 => hir e1.symm) hrow) hle rfl h7
        · rw [if_neg h2]
          obtain ⟨blk, hb, rb⟩ := hI.dom j hj.1
          exact ⟨blk, hb, rb.le hle rfl (fun _ => rfl) (fun hc => hoth j blk (fun e1 => h2 e1.symm) hj.2 hb hc)⟩
      inj := fun i j h h' => hI.inj i j h.1 h'.1
      xsep := fun i b h => hI.xsep i b h.1
      xlt := hI.xlt, xY := hI.xY, bnd := hI.bnd, bndG := hI.bndG
      e0 := fun i hi => by omega
      mlen := by omega
      os := hI.os, tape := hI.tape, output := hI.output, size := hI.size, keep := hI.keep
      loc := fun i h => hI.loc i h.1
      x0 := hI.x0
      ca := fun b hb => by
        rcases hb with hb | hb
        · exact ⟨.inl (hI.ca b hb).1, (hI.ca b hb).2⟩
        · exact ⟨.inr hb, fun hx => hI.xsep k b hDk hb.1 hx hb.2.symm, .inl (hfresh b hb)⟩
      cc := fun b hb => by
        rcases hb with hb | hb
        · exact ⟨(hI.cc b hb).1, fun i h => (hI.cc b hb).2.1 i h.1, (hI.cc b hb).2.2⟩
        · refine ⟨by rw [hb.2]; exact rk.lt hb.1, fun i h hni => ?_, .inl (hfresh b hb)⟩
          rw [hb.2]
          exact hI.inj i k h.1 hDk h.2 hni hb.1
      gh := fun j blk h hb hnj hgr => by
        rw [hget j (hlt j h.1), if_neg (fun e1 => h.2 e1.symm)] at hb
        by_cases h1 : kg = j
        · rw [if_pos h1] at hb
          cases hb
          refine ⟨fun b => C1 b ∨ S b, fun b hb => ?_, ?_⟩
          · rcases hb with hb | hb
            · exact ⟨.inl (hC1 b hb).1, (hC1 b hb).2⟩
            · exact ⟨.inr hb, fun hz => hCS b (hI.zc b hz).1 hb⟩
          rw [hJ]
          have hx : NsAt w0.heap.size e (fun b => c.A b ∨ S b) (fun b => C1 b ∨ S b) c.w x l := by
            rcases h6 with ⟨f1, f2, f3⟩ | ⟨f1, f2, f3⟩
            · exact .inl ⟨f2, List.length_eq_zero_iff.1 f3⟩
            · obtain ⟨arr, k1, k2, k3, k4⟩ := rk.2.2 f1
              obtain ⟨k5, k6, k7⟩ := k4 rfl
              exact .inr ⟨_, _, arr, f2, .inr ⟨f1, rfl⟩, .inr ⟨f1, rfl⟩, hfresh _ ⟨f1, rfl⟩, k1, by simpa using k3, by simpa using k5, by simpa using k6, k7, (RelR_ints (c := c.shut)).1 k2⟩
          have hxb : ∀ b, blkOf x = some b → S b := fun b hb => by
            rcases h6 with ⟨f1, f2, f3⟩ | ⟨f1, f2, f3⟩
            · rw [f2] at hb; cases hb
            · rw [f2] at hb; cases hb; exact ⟨f1, rfl⟩
          have hob : ∀ (i : Nat) y m b, G[i]? = some (some (y, m)) → blkOf y = some b → ¬ S b := fun i y m b hi hb => by
            rcases hN.at_ i y m hi with h | ⟨b', cap, arr, g1, g2, g3, _⟩
            · rw [h.1] at hb; cases hb
            · rw [g1] at hb; cases hb; exact hCS _ (hC1 _ g3).1
          refine ⟨_, rfl, ⟨fun i y m hi => ?_, fun i j y z ly lz b hi hj hy hz => ?_⟩⟩
          · rw [List.getElem?_set] at hi
            split at hi
            · split at hi
              · cases hi; exact hx
              · cases hi
            · rcases hN.at_ i y m hi with h | ⟨b, cap, arr, g1, g2, g3, g4⟩
              · exact .inl h
              · exact .inr ⟨b, cap, arr, g1, .inl g2, .inl g3, g4⟩
          · rw [List.getElem?_set] at hi hj
            split at hi
            · rename_i hri
              split at hi
              · cases hi
                split at hj
                · rename_i hrj; omega
                · exact (hob j z lz b hj hz (hxb b hy)).elim
              · cases hi
            · split at hj
              · split at hj
                · cases hj
                  exact (hob i y ly b hi hy (hxb b hz)).elim
                · cases hj
              · exact hN.inj i j y z ly lz b hi hj hy hz
        · rw [if_neg h1] at hb
          by_cases h2 : kn = j
          · subst h2
            rw [show (c'.E kn).nil = (c.E kn).nil from rfl, nn] at hnj; cases hnj
          · rw [if_neg h2] at hb
            exact (hno.not hI (fun e1 => h1 e1.symm) h.1 hb hnj hgr).elim
      zc := fun b hb => ⟨.inl (hI.zc b hb).1, fun h => h.elim (hI.zc b hb).2.1 (hCS b (hI.zc b hb).1), (hI.zc b hb).2.2⟩
      z0 := hI.z0, xk := hI.xk }
  · have hj := (List.getElem?_eq_some_iff.1 hb).1
    simp only [List.length_set] at hj
    rw [hget j hj] at hb
    by_cases h0 : k = j
    · rw [if_pos h0] at hb; cases hb
    rw [if_neg h0] at hb
    refine ⟨?_, fun e1 => h0 e1.symm⟩
    by_cases h1 : kg = j
    · exact h1 ▸ hDg
    · rw [if_neg h1] at hb
      by_cases h2 : kn = j
      · exact h2 ▸ hDn
      · rw [if_neg h2] at hb
        exact hS.full j b hb
  · obtain ⟨ml, g1, g2, g3⟩ := hS.ds
    exact ⟨ml, g1, g2, fun b hb => ⟨(g3 b hb).1, (g3 b hb).2.1, .inl (g3 b hb).2.2.1, (g3 b hb).2.2.2⟩⟩

/-- All lists are given up as content. -/
theorem St.nsEnd (hS : St w0 M c tm hp a ds) (hm : M.m = 0) (hJ : M.J = NsJ e w0) {kn kg t : Nat} (hng : kn ≠ kg) (hno : NoGh kg hp) {cl gr : Bool} {G : List (Option (Value × List Int))} {vs : List Value} {L : List (List Int)}
    (hn : hp[kn]? = some (some ⟨t, 1, cl, gr, vs.map fun x => [.val x]⟩)) (hg : hp[kg]? = some (some ⟨0, 0, true, false, nsRows G⟩)) (hvL : vs.length = L.length) (hG : ∀ (j : Nat) x l, vs[j]? = some x → L[j]? = some l → G[j]? = some (some (x, l)))
    (hpos : 0 < vs.length) (ht : ∀ t, (tmGet tm t).all (fun j => j != kg) = true)
    (hoth : ∀ (j : Nat) (blk : Blk), j ≠ kg → hp[j]? = some (some blk) → blk.clean = false → blk.rows.all (Sv.all.allL (fun j => j != kg)) = true) :
    ∃ c', c'.w = c.w ∧ St w0 M c' tm ((hp.set kn (some ⟨t, 1, true, gr, L.map fun l => [.ext true 1 (intR l)]⟩)).set kg none) a ds := by
  have hI := hS.inv
  have hDn := hS.full _ _ hn
  have hDg := hS.full _ _ hg
  have hlt : ∀ k, c.D k → k < hp.length := fun k hk => by obtain ⟨blk, hb, _⟩ := hI.dom k hk; exact (List.getElem?_eq_some_iff.1 hb).1
  obtain ⟨bn, hbn, rn⟩ := hI.dom kn hDn
  rw [hn] at hbn
  cases hbn
  obtain ⟨bg, hbg, rg⟩ := hI.dom kg hDg
  rw [hg] at hbg
  cases hbg
  have nn := rn.real (r := 0) (x := [.val vs[0]]) (by simp [hpos])
  have ng := rg.ghost
  obtain ⟨C1, hC1, hj⟩ := hI.gh kg _ hDg hg ng rfl
  rw [hJ] at hj
  obtain ⟨G', hGG, hN⟩ := hj
  cases nsRows_inj hGG
  obtain ⟨arrn, n1, n2, n3, n4⟩ := rn.2.2 nn
  rw [RelR_iff] at n2
  let S : Nat → Prop := fun b => ∃ (j : Nat) (x : Value) (l : List Int), G[j]? = some (some (x, l)) ∧ blkOf x = some b
  have hSp : ∀ b, S b → c.A b ∧ c.C b ∧ ¬ c.Z b ∧ w0.heap.size ≤ b ∧ b < c.w.heap.size := by
    rintro b ⟨j, x, l, h1, h2⟩
    rcases hN.at_ j x l h1 with h | ⟨b', cap, arr, g1, g2, g3, g4, g5, _⟩
    · rw [h.1] at h2; cases h2
    · rw [g1] at h2; cases h2
      exact ⟨g2, (hC1 _ g3).1, (hC1 _ g3).2, g4, (Array.getElem?_eq_some_iff.1 g5).1⟩
  let c' : Cx := { c with D := fun j => c.D j ∧ j ≠ kg, X := fun b => c.X b ∨ S b, A := fun b => c.A b ∧ ¬ S b, C := fun b => c.C b ∧ ¬ S b }
  have hGS : ∀ b, S b → c.G b := fun b hb => by rw [hI.bnd]; exact hI.bndG.g b (.inl (hSp b hb).2.2.2.1)
  have hle : c.Le (fun j => j != kg) c' := ⟨fun j hj hD => ⟨⟨hD, by simpa using hj⟩, rfl⟩, fun _ h => .inl h, fun _ _ h => h, fun _ _ => rfl⟩
  have hget : ∀ j, j < hp.length → ((hp.set kn (some ⟨t, 1, true, gr, L.map fun l => [.ext true 1 (intR l)]⟩)).set kg none)[j]? = if kg = j then some none else if kn = j then some (some ⟨t, 1, true, gr, L.map fun l => [.ext true 1 (intR l)]⟩) else hp[j]? := fun j hj => by
    rw [set2_get, if_pos hj]
  refine ⟨c', rfl, { inv := ?_, full := fun j b hb => ?_, rel := fun t => Rel.le _ (ht t) hle (hS.rel t), size := hS.size, ds := ?_ }⟩
  · exact {
      dom := fun j hj => by
        rw [hget j (hlt j hj.1), if_neg (fun e1 => hj.2 e1.symm)]
        by_cases h2 : kn = j
        · subst h2
          rw [if_pos rfl]
          refine ⟨_, rfl, rn.1, fun h => (by rw [show (c'.E kn).nil = (c.E kn).nil from rfl, nn] at h; cases h), fun _ => ⟨arrn, n1, ?_, by simpa [hvL] using n3, fun h => by simpa [hvL] using n4 h⟩⟩
          show RelR _ c'.shut 1 _ 0
          rw [RelR_iff]
          intro i row hrow
          rw [List.getElem?_map] at hrow
          cases hl : L[i]? with
          | none => rw [hl] at hrow; cases hrow
          | some l =>
            rw [hl] at hrow
            simp only [Option.map_some, Option.some.injEq] at hrow
            subst hrow
            obtain ⟨x, hx⟩ : ∃ x, vs[i]? = some x := by
              have := (List.getElem?_eq_some_iff.1 hl).1
              exact ⟨vs[i]'(by omega), List.getElem?_eq_getElem _⟩
            have h7 := (n2 i [.val x] (by rw [List.getElem?_map, hx]; rfl)).2
            simp only [RelC, Rel] at h7
            obtain ⟨⟨u, h8, h9, rfl⟩, _⟩ := h7
            refine ⟨rfl, ?_⟩
            simp only [RelC]
            refine ⟨⟨u, ?_, h9, ?_⟩, trivial⟩
            · show c.w.cell? _ = _
              unfold Blk.cx at h8
              cases cl <;> exact h8
            · simp only [Rel]
              rcases hN.at_ i u l (hG i u l hx hl) with ⟨g1, g2⟩ | ⟨b, cap, arr, g1, g2, g3, g4, g5, g6, g7, g8, g9, g10⟩
              · exact ⟨none, 0, by rw [g1, g2]; rfl, by rw [g2]; exact Nat.le_refl _, .inl (by rw [g2]; rfl)⟩
              · have hs : S b := ⟨i, u, l, hG i u l hx hl, by rw [g1]; rfl⟩
                exact ⟨_, cap, by rw [g1]; simp, by simpa using g8, .inr ⟨b, 0, rfl, .inr hs, fun _ => hGS b hs, RelR_ints.2 g10⟩⟩
        · rw [if_neg h2]
          obtain ⟨blk, hb, rb⟩ := hI.dom j hj.1
          exact ⟨blk, hb, rb.le hle rfl (fun _ => rfl) (fun hc => hoth j blk hj.2 hb hc)⟩
      inj := fun i j h h' => hI.inj i j h.1 h'.1
      xsep := fun i b h hni hb => by
        rcases hb with hb | hb
        · exact hI.xsep i b h.1 hni hb
        · exact (hI.cc b (hSp b hb).2.1).2.1 i h.1 hni
      xlt := fun b hb => hb.elim (hI.xlt b) fun h => (hSp b h).2.2.2.2
      xY := fun b hb => hb.elim (hI.xY b) fun h hy => by have := (hI.bndG.y b hy).1; have := (hSp b h).2.2.2.1; omega
      bnd := hI.bnd, bndG := hI.bndG
      e0 := fun i hi => by omega
      mlen := by omega
      os := hI.os, tape := hI.tape, output := hI.output, size := hI.size, keep := hI.keep
      loc := fun i h => hI.loc i h.1
      x0 := fun b hb => hb.elim (hI.x0 b) fun h => .inl (hSp b h).2.2.2.1
      ca := fun b hb => ⟨⟨(hI.ca b hb.1).1, hb.2⟩, fun hx => hx.elim (hI.ca b hb.1).2.1 hb.2, (hI.ca b hb.1).2.2⟩
      cc := fun b hb => ⟨(hI.cc b hb.1).1, fun i h => (hI.cc b hb.1).2.1 i h.1, (hI.cc b hb.1).2.2⟩
      gh := fun j blk h hb hnj hgr => by
        rw [hget j (hlt j h.1), if_neg (fun e1 => h.2 e1.symm)] at hb
        by_cases h2 : kn = j
        · subst h2
          rw [show (c'.E kn).nil = (c.E kn).nil from rfl, nn] at hnj; cases hnj
        · rw [if_neg h2] at hb
          exact (hno.not hI h.2 h.1 hb hnj hgr).elim
      zc := fun b hb => ⟨⟨(hI.zc b hb).1, fun hs => (hSp b hs).2.2.1 hb⟩, fun h => (hI.zc b hb).2.1 h.1, fun h => h.elim (hI.zc b hb).2.2 fun hs => (hSp b hs).2.2.1 hb⟩
      z0 := hI.z0
      xk := fun b hb => .inl (hI.xk b hb) }
  · have hj := (List.getElem?_eq_some_iff.1 hb).1
    simp only [List.length_set] at hj
    rw [hget j hj] at hb
    by_cases h1 : kg = j
    · rw [if_pos h1] at hb; cases hb
    rw [if_neg h1] at hb
    refine ⟨?_, fun e1 => h1 e1.symm⟩
    by_cases h2 : kn = j
    · exact h2 ▸ hDn
    · rw [if_neg h2] at hb
      exact hS.full j b hb
  · obtain ⟨ml, g1, g2, g3⟩ := hS.ds
    exact ⟨ml, g1, g2, fun b hb => ⟨(g3 b hb).1, (g3 b hb).2.1, ⟨(g3 b hb).2.2.1, fun hs => (hSp b hs).2.2.1 (g3 b hb).2.1⟩, (g3 b hb).2.2.2⟩⟩
end
end Go.Eng
