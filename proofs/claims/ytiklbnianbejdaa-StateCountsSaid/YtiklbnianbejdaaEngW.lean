/- The engine, part W: what a statement's arguments hold, read out of the world; a walk's end as the rows ask for it. -/
import Derived.Test.YtiklbnianbejdaaEng6
import Derived.ChangeArms
import Derived.WideShapes
import Derived.SizedLaws
set_option linter.unusedSimpArgs false
set_option maxRecDepth 20000
set_option linter.unusedVariables false
namespace Go.Eng
open Go Go.RowKit

/-- A value of type t in a world's memory is read as content. -/
def Rd (P : Program) (t : TypeId) {α : Type} (Q : α → Prop) (enc : α → List Sv) : Prop :=
  ∀ (H : Type) (en : TypeId × Value → H) (c : Cx) (fuel : Nat) (cs : List Value) (x : DataW H × List MemPlace), (∀ b, b < c.w.heap.size → c.X b) →
    DataW.trod en P c.w 0 (fun _ => true) true fuel t cs = some x → (∀ n ∈ x.1.weights P t, n ≤ reachBytes) → ∃ a, Q a ∧ RelL (enc a) c cs

theorem Rd.map {P : Program} {t : TypeId} {α β : Type} {Q : α → Prop} {enc : α → List Sv} {Q' : β → Prop} {enc' : β → List Sv} (r : Rd P t Q enc) (f : α → β) (h : ∀ a, Q a → Q' (f a) ∧ enc' (f a) = enc a) : Rd P t Q' enc' := by
  intro H en c fuel cs x hX ht hw
  obtain ⟨a, hq, hr⟩ := r H en c fuel cs x hX ht hw
  obtain ⟨h1, h2⟩ := h a hq
  exact ⟨f a, h1, h2 ▸ hr⟩

theorem Rd.int {P : Program} {t : TypeId} {k : IntKind} (ht : P.underlying t = some (.int k)) : Rd P t (fun n : Int => k.min ≤ n ∧ n ≤ k.max) fun n => [.val (.int k n)] := by
  intro H en c fuel cs x hX h hw
  obtain ⟨n, rfl, rfl, hwf⟩ := DataW.trod_int ht h
  exact ⟨n, by simpa [Lit.wf] using hwf, _, _, rfl, rfl, by simp [Rel], rfl⟩
theorem Rd.i64 {P : Program} {t : TypeId} (ht : P.underlying t = some (.int .i64)) : Rd P t (fun n : Int => -9223372036854775808 ≤ n ∧ n < 9223372036854775808) fun n => [.val (.int .i64 n)] :=
  (Rd.int ht).map id fun n hn => ⟨by
    have h1 : IntKind.i64.min = -9223372036854775808 := rfl
    have h2 : IntKind.i64.max = 9223372036854775807 := rfl
    rw [h1, h2] at hn
    simp only [id]
    omega, rfl⟩
theorem Rd.u8 {P : Program} {t : TypeId} (ht : P.underlying t = some (.int .u8)) : Rd P t (fun n : Int => 0 ≤ n ∧ n < 256) fun n => [.val (.int .u8 n)] :=
  (Rd.int ht).map id fun n hn => ⟨by
    have h1 : IntKind.u8.min = 0 := rfl
    have h2 : IntKind.u8.max = 255 := rfl
    rw [h1, h2] at hn
    simp only [id]
    omega, rfl⟩
theorem Rd.bool {P : Program} {t : TypeId} (ht : P.underlying t = some .bool) : Rd P t (fun _ : Bool => True) fun b => [.val (.bool b)] := by
  intro H en c fuel cs x hX h hw
  obtain ⟨n, rfl, rfl⟩ := DataW.trod_bool ht h
  exact ⟨n, trivial, _, _, rfl, rfl, by simp [Rel], rfl⟩

theorem weightsAll_mem {H : Type} {P : Program} {e : TypeId} : ∀ {ds : List (DataW H)} {d : DataW H}, d ∈ ds → ∀ n ∈ d.weights P e, n ∈ DataW.weightsAll P e ds
  | d0 :: ds, d, h, n, hn => by
    simp only [DataW.weightsAll, List.mem_append]
    rcases List.mem_cons.1 h with rfl | h
    · exact .inl hn
    · exact .inr (weightsAll_mem h n hn)
  | [], _, h, _, _ => by cases h

theorem cell_lt {w : World} {a : Addr} {v : Value} (h : w.cell? a = some v) : a.block < w.heap.size := by
  rcases Nat.lt_or_ge a.block w.heap.size with h' | h'
  · exact h'
  · have : w.heap[a.block]? = none := Array.getElem?_eq_none h'
    have h2 := World.cell?_spot h
    simp [World.cell?, h2, this] at h

theorem choose_list {α : Type} : ∀ (n : Nat) (p : Nat → α → Prop), (∀ i, i < n → ∃ a, p i a) → ∃ as : List α, as.length = n ∧ ∀ i (hi : i < as.length), p i as[i]
  | 0, _, _ => ⟨[], rfl, fun i hi => by simp at hi⟩
  | n + 1, p, h => by
    obtain ⟨a, ha⟩ := h 0 (by omega)
    obtain ⟨as, hl, has⟩ := choose_list n (fun i => p (i + 1)) (fun i hi => h (i + 1) (by omega))
    refine ⟨a :: as, by simp [hl], fun i hi => ?_⟩
    cases i with
    | zero => exact ha
    | succ i => simpa using has i (by simpa using hi)

theorem Rd.slice {P : Program} {t e : TypeId} {α : Type} {Q : α → Prop} {enc : α → List Sv} (wd by_ : Nat) (ht : P.underlying t = some (.slice e)) (hc : P.cellsOf e = wd) (hb : P.bytesOf e = by_) (hpos : 0 < wd) (hl : ∀ a, (enc a).length = wd) (r : Rd P e Q enc) :
    Rd P t (fun as : List α => (∀ a ∈ as, Q a) ∧ as.length * by_ ≤ 140737488351232 ∧ as.length < 9223372036854775808) fun as => [.ext false wd (as.map enc)] := by
  intro H en c fuel cs x hX h hw
  rcases DataW.trod_slice ht h with ⟨rfl, rfl⟩ | ⟨a, len, cap, elems, rest, n, rfl, rfl, rfl, -, hlc, hcm, hel, hget, -, -⟩
  · exact ⟨[], ⟨by simp, by simp, by simp⟩, _, _, rfl, rfl, by simp [Rel], rfl⟩
  · have hwt : (elems.length + rest.length) * by_ ≤ reachBytes := hw _ (by simp [DataW.weights, ht, hb])
    have key : ∀ i, i < len → ∃ b : α, Q b ∧ ∃ vs, RelL (enc b) c.shut vs ∧ c.w.cells? 0 (a.add (i * wd)) wd = some vs := by
      intro i hi
      have hg := hget i hi
      rw [hc] at hg
      rw [List.getElem?_eq_getElem (by omega)] at hg
      obtain ⟨vs, hv, htr⟩ := Option.bind_eq_some_iff.1 hg
      obtain ⟨b, hq, hr⟩ := r H en c.shut n vs elems[i] hX htr (fun m hm => hw m (by
        simp only [DataW.weights, ht, List.mem_cons, List.mem_append]
        exact .inr (.inl (weightsAll_mem (List.mem_map.2 ⟨elems[i], List.getElem_mem _, rfl⟩) m hm))))
      exact ⟨b, hq, vs, hr, hv⟩
    obtain ⟨as, hal, has⟩ := choose_list len _ key
    refine ⟨as, ⟨fun b hb => ?_, ?_, ?_⟩, ?_⟩
    · obtain ⟨i, hi, rfl⟩ := List.getElem_of_mem hb
      exact (has i hi).1
    · have h3 : reachBytes = 140737488351232 := rfl
      have : as.length * by_ ≤ (elems.length + rest.length) * by_ := Nat.mul_le_mul_right _ (by omega)
      omega
    · have : maxLen = 9223372036854775807 := rfl
      omega
    · refine ⟨_, _, rfl, rfl, ?_, rfl⟩
      refine ⟨some a, cap, by simp [hal], by simp [hal]; exact hlc, ?_⟩
      by_cases h0 : as = []
      · exact .inl (by simp [h0])
      · right
        have hpos' : 0 < as.length := List.length_pos_iff.2 h0
        obtain ⟨-, vs, hr, hv⟩ := has 0 hpos'
        obtain ⟨-, hvl, hcell⟩ := World.cells?_some hv
        have h1 := hcell 0 hpos
        rw [List.getElem?_eq_getElem (by omega)] at h1
        have hsp := World.cell?_spot h1
        have hlt := cell_lt h1
        obtain ⟨b, off, spot⟩ := a
        simp only [Addr.add] at hsp hlt
        have hsp : spot = none := by
          cases spot with
          | none => rfl
          | some z => simp [Addr.add] at hsp
        subst hsp
        refine ⟨b, off, rfl, hX b (by simpa [Addr.add] using hlt), by simp, RelR_of _ fun i row hrow => ?_⟩
        rw [List.getElem?_map] at hrow
        obtain ⟨y, hy, rfl⟩ := Option.map_eq_some_iff.1 hrow
        obtain ⟨hi, rfl⟩ := List.getElem?_eq_some_iff.1 hy
        obtain ⟨-, vs, hr, hv⟩ := has i hi
        obtain ⟨-, hvl, hcell⟩ := World.cells?_some hv
        refine ⟨hl _, RelC_of_vals _ hr fun j u hj => ?_⟩
        have := hcell j (by have := (List.getElem?_eq_some_iff.1 hj).1; omega)
        rw [hj] at this
        rw [← this]
        rw [WideShapes.add_plain, WideShapes.add_plain]
        rfl

/-- Fields, from a place on. -/
def RdF (P : Program) (fs : List Field) (off tot : Nat) {α : Type} (Q : α → Prop) (enc : α → List Sv) : Prop :=
  ∀ (H : Type) (en : TypeId × Value → H) (c : Cx) (n : Nat) (cs : List Value), (∀ b, b < c.w.heap.size → c.X b) → cs.length = tot →
    (∀ f ∈ fs, ∃ x, DataW.trod en P c.w 0 (fun _ => true) true n f.type ((cs.drop f.offset).take (P.cellsOf f.type)) = some x ∧ ∀ m ∈ x.1.weights P f.type, m ≤ reachBytes) → ∃ a, Q a ∧ RelL (enc a) c (cs.drop off)
theorem RdF.nil {P : Program} {tot : Nat} : RdF P [] tot tot (fun _ : Unit => True) fun _ => [] := by
  intro H en c n cs hX hl h
  exact ⟨(), trivial, by simp [RelL, hl]⟩
theorem RdF.cons {P : Program} {f : Field} {fs : List Field} {off wd tot : Nat} {α β : Type} {Q : α → Prop} {enc : α → List Sv} {Q' : β → Prop} {enc' : β → List Sv} (ho : f.offset = off) (hc : P.cellsOf f.type = wd) (r : Rd P f.type Q enc) (rs : RdF P fs (off + wd) tot Q' enc') :
    RdF P (f :: fs) off tot (fun p : α × β => Q p.1 ∧ Q' p.2) fun p => enc p.1 ++ enc' p.2 := by
  intro H en c n cs hX hl h
  obtain ⟨x, hx, hw⟩ := h f (by simp)
  obtain ⟨a, ha, h1⟩ := r H en c n _ x hX hx hw
  obtain ⟨b, hb, h2⟩ := rs H en c n cs hX hl (fun g hg => h g (by simp [hg]))
  refine ⟨(a, b), ⟨ha, hb⟩, ?_⟩
  rw [ho, hc] at h1
  have := RelL_append _ h1 h2
  rwa [← List.drop_drop, List.take_append_drop] at this
theorem Rd.struct {P : Program} {t : TypeId} {fs : Array Field} {tot : Nat} {α : Type} {Q : α → Prop} {enc : α → List Sv} (ht : P.underlying t = some (.struct fs)) (hc : P.cellsOf t = tot) (r : RdF P fs.toList 0 tot Q enc) : Rd P t Q enc := by
  intro H en c fuel cs x hX h hw
  obtain ⟨xs, n, rfl, rfl, hl, hxl, hget⟩ := DataW.trod_struct ht h
  obtain ⟨a, ha, hr⟩ := r H en c n cs hX (hl.trans hc) fun f hf => by
    obtain ⟨i, hi, rfl⟩ := List.getElem_of_mem hf
    have hi' : i < fs.size := by simpa using hi
    have hg := hget i fs[i] (by simp [hi'])
    rw [List.getElem?_eq_getElem (by omega)] at hg
    refine ⟨xs[i], by simpa using hg, fun m hm => hw m ?_⟩
    simp only [DataW.weights, ht]
    refine DataW.weights_mem_each (j := i) (t := fs[i].type) (d := xs[i].1) ?_ ?_ m (by simpa using hm)
    · simp [hi']
    · simp [show i < xs.length by omega]
  exact ⟨a, ha, by simpa using hr⟩

/-! ### A statement's call -/
/-- The context in which a statement is called: no block is handed in, all that is there may be content. -/
def cx0 (W : World) : Cx := { E := fun _ => ⟨0, 0, false, 0⟩, D := fun _ => False, X := fun b => b < W.heap.size, G := fun b => W.heap.size ≤ b, w := W }
def frm0 (W : World) : Frm := { M := fun _ => False, G := fun b => W.heap.size ≤ b, Y := fun _ => False, m := 0, E0 := fun _ => ⟨0, 0, false, 0⟩ }

theorem Rd.open {P : Program} {t : TypeId} {α : Type} {Q : α → Prop} {enc : α → List Sv} (r : Rd P t Q enc) {H : Type} {en : TypeId × Value → H} {W : World} {v : Value} {d : DataW H} {ps : List MemPlace} (h : DataW.Trod en P W 0 (fun _ => true) true t v d ps)
    {ts : List TypeId} {ds : List (DataW H)} (hz : (DataW.weightsEach P ts ds).all (· ≤ reachBytes) = true) (j : Nat) (ht : ts[j]? = some t) (hd : ds[j]? = some d) : ∃ a, Q a ∧ RelL (enc a) (cx0 W) v.cells.toList := by
  obtain ⟨fuel, hf⟩ := h
  exact r H en (cx0 W) fuel _ _ (fun b hb => hb) hf fun n hn => by
    have := List.all_eq_true.1 hz _ (DataW.weights_mem_each ht hd n hn)
    simpa using this
theorem arg_agg {c : Cx} {ss : List Sv} {cs : Array Value} (h : RelL ss c (Value.agg cs).cells.toList) : Rel (.agg ss) c (.agg cs) := ⟨cs.toList, by simp, h⟩
theorem arg_one {c : Cx} {s : Sv} {v : Value} (h : RelL [s] c [v]) : Rel s c v := by
  simp only [RelL] at h
  obtain ⟨u, us, e, -, h, rfl⟩ := h
  cases e
  exact h

theorem law_calls {P : Program} {f : Nat} {args : List Sv} (h : PCon P f args (.val (.bool true)) []) (W : World) {vs : List Value} (hr : RelT args (cx0 W) vs) :
    Calls P f vs.toArray W fun e W' => e = .returned (.bool true) ∧ Below W.heap.size W W' := by
  refine (h.2 W (frm0 W) (cx0 W) vs rfl rfl (fun _ h => h) ?_ (fun k b hb => by simp at hb) hr).mono ?_
  · exact { dom := fun k hk => hk.elim, inj := fun k _ hk => hk.elim, xsep := fun k _ hk => hk.elim, xlt := fun b hb => hb, xY := fun b _ hy => hy, bnd := rfl, bndG := ⟨fun b hb => hb.elim id False.elim, fun b hb => hb.elim, fun _ _ _ _ _ _ h => h.elim⟩, e0 := fun k hk => (by cases hk),
            mlen := Nat.le_refl _, os := rfl, tape := rfl, output := rfl, size := Nat.le_refl _, keep := fun _ _ _ _ => rfl, loc := fun k hk => hk.elim, x0 := fun b _ => .inr (.inr trivial), ca := fun _ h => h.elim, cc := fun _ h => h.elim, zc := fun _ h => h.elim, z0 := fun _ h => h.elim, xk := fun _ h => h.elim, gh := fun k _ hk => hk.elim }
  · rintro e W' ⟨v, c', res, hp', rfl, ⟨rfl, rfl⟩, hE⟩
    have hv : v = .bool true := by simpa [Rel] using hE.rel
    have hw := hE.weq
    have hi := hE.inv
    subst hw
    exact ⟨by rw [hv], hi.os, hi.tape, hi.output, hi.size, fun j hj => hi.keep j hj id id⟩
end Go.Eng
