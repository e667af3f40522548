/- The engine, part K: loops. -/
import Derived.Test.YtobojnfhhobnkaaEngJ
set_option linter.unusedSimpArgs false
set_option maxRecDepth 20000
set_option linter.unusedVariables false
namespace Go.Eng
open Go Go.RowKit

/-- Slots, in a list of which the rest is forgotten. -/
def mkT : Nat → Nat → List (Nat × Sv) → List Sv
  | 0, _, _ => []
  | n + 1, i, [] => .any :: mkT n (i + 1) []
  | n + 1, i, (k, s) :: r => match Nat.beq i k with
    | true => s :: mkT n (i + 1) r
    | false => .any :: mkT n (i + 1) ((k, s) :: r)

theorem mkT_length : ∀ (n i : Nat) (l : List (Nat × Sv)), (mkT n i l).length = n
  | 0, _, _ => rfl
  | n + 1, i, [] => by simp [mkT, mkT_length n]
  | n + 1, i, (k, s) :: r => by
    simp only [mkT]
    split <;> simp [mkT_length n]

theorem mkT_rel {c : Cx} {vs : Nat → Value} : ∀ (n i : Nat) (l : List (Nat × Sv)), (∀ p ∈ l, Rel p.2 c (vs p.1)) → ∀ t, Rel (tmGet (mkT n i l) t) c (vs (i + t))
  | 0, _, _, _, t => by simp [mkT, tmGet, nth, Rel]
  | n + 1, i, [], h, t => by
    cases t with
    | zero => simp [mkT, tmGet, nth, Rel]
    | succ t => rw [show i + (t + 1) = i + 1 + t by omega]; exact mkT_rel n (i + 1) [] h t
  | n + 1, i, (k, s) :: r, h, t => by
    simp only [mkT]
    split
    · rename_i hk
      have := Nat.eq_of_beq_eq_true hk
      subst this
      cases t with
      | zero => exact h (i, s) (by simp)
      | succ t => rw [show i + (t + 1) = i + 1 + t by omega]; exact mkT_rel n (i + 1) r (fun p hp => h p (by simp [hp])) t
    · cases t with
      | zero => simp [tmGet, nth, Rel]
      | succ t => rw [show i + (t + 1) = i + 1 + t by omega]; exact mkT_rel n (i + 1) _ h t


/-- The slots of the spec hold what it says, seen through the view. -/
def VwT (hp : Hp) (nl : Nat → Bool) (sel : List Nat) (tm : List Sv) : List (Nat × Sv) → Prop
  | [] => True
  | (k, s) :: r => Vw hp nl sel (tmGet tm k) s ∧ VwT hp nl sel tm r
theorem VwT_mem {hp : Hp} {nl : Nat → Bool} {sel : List Nat} {tm : List Sv} : ∀ {l : List (Nat × Sv)}, VwT hp nl sel tm l → ∀ p ∈ l, Vw hp nl sel (tmGet tm p.1) p.2
  | [], _, p, h => by cases h
  | (k, s) :: r, hv, p, h => by
    simp only [VwT] at hv
    rcases List.mem_cons.1 h with rfl | h
    · exact hv.1
    · exact VwT_mem hv.2 p h

/-- **The state at a loop's head**: zs: nil slices that become blocks (elements' type, width); sel: which blocks live on, by their new places. -/
inductive AtS (m : Nat) (tm : List Sv) (hp : Hp) (n : Nat) (spec : List (Nat × Sv)) (hps : Hp) : Prop
  | mk (zs : List (Nat × Nat)) (sel : List Nat) : Nat.beq tm.length n = true → sel.Nodup → preB m 0 sel = true →
      VwBs (hp ++ zs.map fun p => some (nilB p)) (nlB hp.length (hp.length + zs.length)) sel sel hps →
      VwT (hp ++ zs.map fun p => some (nilB p)) (nlB hp.length (hp.length + zs.length)) sel tm spec → AtS m tm hp n spec hps

theorem AtS.weak {m : Nat} {tm : List Sv} {hp : Hp} {n : Nat} {spec : List (Nat × Sv)} {hps : Hp} (h : AtS m tm hp n spec hps) : Weak m tm hp (mkT n 0 spec) hps := by
  obtain ⟨zs, sel, hn, hnd, hpre, hbs, hvw⟩ := h
  intro w0 M c a ds hm hS
  have hl := Nat.eq_of_beq_eq_true hn
  obtain ⟨c1, ew, ex, eb, hle, hI, hD, hnil, hcq⟩ := hS.inv.nils zs hS.full
  have hk := hI.vk hnil hbs
  have hv := view_inv hk hD hnd (hm ▸ hpre) hbs
  refine ⟨c1.view sel hps, ew, { inv := hv, full := fun k b hb => ⟨b, hb⟩, rel := fun t => ?_, size := by rw [mkT_length, ← hl]; exact hS.size, ds := (hS.ds.cq hcq).cq ⟨rfl, rfl, rfl, fun _ _ => rfl⟩ }⟩
  have := mkT_rel (c := c1.view sel hps) (vs := fun t => a.tmps.getD t undef) n 0 spec (fun p hp => Vw.rel hk p.2 (VwT_mem hvw p hp) (Rel.le _ (Sv.all_true _) hle (hS.rel p.1))) t
  rwa [Nat.zero_add] at this

/-- A loop, with a state for each turn and a measure. -/
def AtI {σ : Type} (n : Nat) (spec : σ → List (Nat × Sv)) (hps : σ → Hp) (P : σ → Prop) (mu : σ → Nat) (m : Nat) (tm : List Sv) (hp : Hp) : Prop :=
  ∃ s, m = mu s ∧ P s ∧ tm = mkT n 0 (spec s) ∧ hp = hps s

theorem LoopV.on {J : Option (World → Nat → List (List Sv) → (Nat → Prop) → (Nat → Prop) → World → Prop)} {mm : Nat} {σ : Type} {body : List Sv → Hp → (Exit → List Sv → Hp → Prop) → Prop} {tm : List Sv} {hp : Hp} {K : Exit → List Sv → Hp → Prop} {n : Nat} (_ : tm.length = n) (spec : σ → List (Nat × Sv)) (hps : σ → Hp) (P : σ → Prop) (mu : σ → Nat) (s0 : σ)
    (h0 : AtS mm tm hp n (spec s0) (hps s0)) (hP : P s0)
    (step : ∀ s, P s → body (mkT n 0 (spec s)) (hps s) fun e tm' hp' => match e with | .normal => ∃ m, m < mu s ∧ Back mm tm' hp' (AtI n spec hps P mu m) | e => K e tm' hp') : LoopV J mm body tm hp K := by
  refine LoopV.mk (AtI n spec hps P mu) (mu s0) (Back.mk _ _ h0.weak ⟨s0, rfl, hP, rfl, rfl⟩) ?_
  rintro m tm hp ⟨s, rfl, h, rfl, rfl⟩
  exact step s h

theorem nx {mm : Nat} {σ : Type} {n : Nat} {spec : σ → List (Nat × Sv)} {hps : σ → Hp} {P : σ → Prop} {mu : σ → Nat} {m : Nat} {tm : List Sv} {hp : Hp} (s : σ) (h1 : mu s < m) (h2 : P s) (h3 : AtS mm tm hp n (spec s) (hps s)) :
    ∃ m', m' < m ∧ Back mm tm hp (AtI n spec hps P mu m') := ⟨mu s, h1, Back.mk _ _ h3.weak ⟨s, rfl, h2, rfl, rfl⟩⟩

/-! ### For use -/
theorem hpGet_new {hp : Hp} {b : Blk} : hpGet (hp ++ [some b]) hp.length = some b := by rw [hpGet_eq]; simp
theorem nlB_new (n : Nat) : nlB n (n + 1) n = true := by unfold nlB; simp
theorem VwB.refl {hp : Hp} {nl : Nat → Bool} {sel : List Nat} {e wd : Nat} {gr : Bool} {rows : List (List Sv)} : VwB hp nl sel ⟨e, wd, true, gr, rows⟩ ⟨e, wd, true, gr, rows⟩ := ⟨rfl, rfl, rfl, .inl ⟨rfl, rfl, rfl⟩⟩
theorem RetP.nil {hp : Hp} {e wd : Nat} : RetP hp (.val (.slice none 0 0)) (.own 0 0) [⟨e, wd, true, true, []⟩] :=
  RetP.go [(e, wd)] [hp.length] (by simp) ⟨⟨_, hpGet_new, VwB.refl⟩, rfl⟩ ⟨⟨_, rfl, nlB_new _⟩, rfl⟩ (by simp [Sv.Fr]) ⟨by simp [Sv.Fr.goR], trivial⟩
theorem hpGet_app {hp : Hp} {k : Nat} {b : Blk} (h : hpGet hp k = some b) (l : Hp) : hpGet (hp ++ l) k = some b := by
  rw [hpGet_eq] at h ⊢
  rw [List.getElem?_append_left (List.getElem?_eq_some_iff.1 h).1]
  exact h
theorem RetP.own {hp : Hp} {k n e wd : Nat} {gr : Bool} {rows : List (List Sv)} (h : hpGet hp k = some ⟨e, wd, true, gr, rows⟩) (hf : FrR rows) : RetP hp (.own k n) (.own 0 n) [⟨e, wd, true, gr, rows⟩] :=
  RetP.go [] [k] (by simp) ⟨⟨_, hpGet_app h _, VwB.refl⟩, rfl⟩ ⟨rfl, rfl⟩ (by simp [Sv.Fr]) ⟨hf, trivial⟩
theorem nth_map {α β : Type} (f : α → β) (l : List α) {n : Nat} (k : Nat) (hn : n = k) (h : k < l.length) : nth (l.map f) n = some (f l[k]) := by
  subst hn
  rw [nth_eq]
  simp [h]
theorem get_id {α : Type} {o : Option α} {k : α → Prop} (h : Get o k) : Get o k := h
theorem need_id {p k : Prop} (h : Need p k) : Need p k := h
theorem calls_id {P : Program} {tm : List Sv} {hp : Hp} {dst : Option Nat} {f : Nat} {args : List Sv} {K : List Sv → Hp → Prop} (h : CallS P tm hp dst f args K) : CallS P tm hp dst f args K := h
theorem call_id {P : Program} {hp : Hp} {f : Nat} {args : List Sv} {K : Sv → List Blk → List Nat → Prop} (h : CallV P hp f args K) : CallV P hp f args K := h
theorem eqk_id {α : Type} {a : α} {K : α → Prop} (h : EqK a K) : EqK a K := h
/-! ### Loops over functions -/
theorem alv_and {n : Nat} {hp : Hp} {k : Prop} (h : aliveN n hp = true) (hk : k) : aliveN n hp = true ∧ k := ⟨h, hk⟩
theorem RangeV.on {G : Gm} {ra rb : Nat → List Sv → Hp → (Exit → List Sv → Hp → Prop) → Prop} {f : Operand} {ps : List Nat} {tm : List Sv} {hp : Hp} {K : Exit → List Sv → Hp → Prop} {α σ : Type} {n : Nat} (_ : tm.length = n) (xs : List α) (it : α → List Sv) (mr g : Nat) (caps : List Sv)
    (spec : List (Nat × Sv)) (hps : σ → Hp) (P : Nat → σ → Prop) (s0 : σ) (hcon : ICon G.P g (fun y => .val y :: caps) (xs.map it)) (h0 : AtS G.m tm hp n spec (hps s0)) (hP : P 0 s0) (hf : evO (mkT n 0 spec) f = .clo g caps) (hcl : Sv.all.allL (fun _ => false) caps = true)
    (hits : ∀ x, (it x).length = ps.length ∧ Sv.all.allL (fun _ => false) (it x) = true) (hmr : G.m ≤ mr) (htm : Sv.all.allL (fun k => Nat.blt k mr) (mkT n 0 spec) = true) (hal : ∀ s, aliveN mr (hps s) = true)
    (step : ∀ i (hi : i < xs.length) s, P i s → setPK (mkT n 0 spec) ps (it xs[i]) fun tm => ra mr tm (hps s) (kAsg (rb mr) (kBody mr (mkT n 0 spec) (fun hp => ∃ s', P (i + 1) s' ∧ hp = hps s') K)))
    (done : ∀ s, P xs.length s → K .normal (mkT n 0 spec) (hps s)) : RangeV G ra rb f ps tm hp K := by
  refine .mk (xs.map it) mr g caps (fun i hp => ∃ s, P i s ∧ hp = hps s) (mkT n 0 spec) (hps s0) h0.weak hf hcl hcon ?_ hmr ⟨s0, hP, rfl⟩ htm ?_ ?_ ?_
  · intro x hx
    obtain ⟨y, _, rfl⟩ := List.mem_map.1 hx
    exact hits y
  · rintro i hp ⟨s, _, rfl⟩
    exact hal s
  · rintro i x hp hx ⟨s, hs, rfl⟩
    rw [List.getElem?_map] at hx
    cases hq : xs[i]? with
    | none => rw [hq] at hx; cases hx
    | some y =>
      rw [hq] at hx
      obtain ⟨hi, e⟩ := List.getElem?_eq_some_iff.1 hq
      simp only [Option.map_some, Option.some.injEq] at hx
      subst hx
      subst e
      exact step i hi s hs
  · rintro hp ⟨s, hs, rfl⟩
    exact done s (by simpa using hs)
/-- The end of a round that goes on. -/
theorem nxr {mr : Nat} {tm : List Sv} {hp : Hp} {σ : Type} {Q : σ → Prop} {hps : σ → Hp} (s : σ) (hP : Q s) (h : AtS mr tm hp tm.length [] (hps s)) : Back mr tm hp fun _ hp => ∃ s', Q s' ∧ hp = hps s' :=
  .mk _ _ h.weak ⟨s, hP, rfl⟩
theorem take_next {α : Type} (xs : List α) (f : α → List Sv) (i : Nat) (hi : i < xs.length) {r : List Sv} (h : r = f xs[i]) : (xs.map f).take i ++ [r] = (xs.map f).take (i + 1) := by
  rw [List.take_succ_eq_append_getElem (by simpa using hi)]
  simp [h]
theorem YieldV.next {its : List (List Sv)} {hp : Hp} {args : List Sv} {K : Sv → Hp → Prop} {α : Type} (xs : List α) (f : α → List Sv) (i : Nat) (hi : i < xs.length) (hits : its = xs.map f) (hb : hpGet hp 0 = some (gB ((xs.map f).take i))) (hone : oneG 0 0 hp) (hfr : FrL args) (hcl : Sv.all.allL (fun _ => false) args = true)
    (h : args = f xs[i]) (hT : K (.val (.bool true)) (hp.set 0 (some (gB ((xs.map f).take (i + 1)))))) (hF : K (.val (.bool false)) (hp.set 0 (some (gS ((xs.map f).take (i + 1)))))) : YieldV its hp args K :=
  .mk _ _ hb hone hfr hcl (take_next xs f i hi h) (by rw [hits]; exact List.take_prefix _ _) hT hF
abbrev postI (its : List (List Sv)) (_ : Sv) (hp : Hp) : Prop := hpGet hp 0 = some (gB its) ∨ ∃ pre, hpGet hp 0 = some (gS pre)
theorem RetI.all {hp : Hp} {r : Sv} {its rows : List (List Sv)} (hb : hpGet hp 0 = some (gB rows)) (hr : rows = its) (hf : FrR its) (r' : Sv := .tup []) (hrr : r = r' := by rfl) (hrf : r'.Fr := by trivial) (hrc : Sv.all (fun _ => false) r' = true := by rfl) (hvw : ∀ hp nl sel, Vw hp nl sel r' r' := by intro _ _ _; rfl) : RetM 1 hp r (postI its) := by
  subst hr
  subst hrr
  exact .mk [] [0] _ [some (gB rows)] (by simp) rfl ⟨⟨_, hpGet_app hb _, VwB.refl⟩, rfl⟩ (hvw _ _ _) hrf ⟨hf, trivial⟩ (.inl rfl)
theorem RetI.stop {hp : Hp} {r : Sv} {its rows : List (List Sv)} (hb : hpGet hp 0 = some (gS rows)) (hf : FrR rows) (r' : Sv := .tup []) (hrr : r = r' := by rfl) (hrf : r'.Fr := by trivial) (hvw : ∀ hp nl sel, Vw hp nl sel r' r' := by intro _ _ _; rfl) : RetM 1 hp r (postI its) := by
  subst hrr
  exact .mk [] [0] _ [some (gS rows)] (by simp) rfl ⟨⟨_, hpGet_app hb _, VwB.refl⟩, rfl⟩ (hvw _ _ _) hrf ⟨hf, trivial⟩ (.inr ⟨_, rfl⟩)
theorem br_id {b : Bool} {t e : Prop} (h : Br b t e) : Br b t e := h
theorem appc_id {c g p : Prop} (h : AppC c g p) : AppC c g p := h
theorem regv_id {G : Gm} {id : Nat} {dr : Bool} {ops : List Oper} {tm : List Sv} {hp : Hp} {K : List Sv → Hp → Prop} (h : RegV G id dr ops tm hp K) : RegV G id dr ops tm hp K := h
theorem regw_id {G : Gm} {id : Nat} {dr : Bool} {ops : List Oper} {tm : List Sv} {hp : Hp} {K : List Sv → Hp → Prop} (h : RegW G id dr ops tm hp K) : RegW G id dr ops tm hp K := h
theorem gds_id {f : (Sv → List Blk → List Nat → Prop) → Prop} {g : Prop → Prop} {K : Sv → Prop} (h : GdS f g K) : GdS f g K := h
theorem and_id {a b : Prop} (h : a ∧ b) : a ∧ b := h
/-! ### What is handed over, by its shape -/
structure H1 (hp : Hp) (sel : List Nat) (s s1 : Sv) : Prop where
  h : Cl hp sel s s1
structure HL (hp : Hp) (sel : List Nat) (ss ss1 : List Sv) : Prop where
  h : ClL hp sel ss ss1
section
variable {hp : Hp} {sel : List Nat}
theorem HL.nil : HL hp sel [] [] := ⟨by simp [ClL]⟩
theorem HL.cons {s s1 : Sv} {ss ss1 : List Sv} (h : H1 hp sel s s1) (t : HL hp sel ss ss1) : HL hp sel (s :: ss) (s1 :: ss1) := ⟨by simp only [ClL]; exact ⟨h.h, t.h⟩⟩
theorem H1.val {x : Value} : H1 hp sel (.val x) (.val x) := ⟨by simp [Cl]⟩
theorem H1.int {k : IntKind} {a b : Int} (h : a = b) : H1 hp sel (.val (.int k a)) (.val (.int k b)) := ⟨by simp [Cl, h]⟩
theorem H1.bool {a b : Bool} (h : a = b) : H1 hp sel (.val (.bool a)) (.val (.bool b)) := ⟨by simp [Cl, h]⟩
theorem H1.ext {fr : Bool} {wd : Nat} {rows : List (List Sv)} : H1 hp sel (.ext fr wd rows) (.ext false wd rows) := ⟨by simp [Cl]⟩
theorem H1.extt {fr : Bool} {wd : Nat} {rows : List (List Sv)} : H1 hp sel (.ext fr wd rows) (.ext fr wd rows) := ⟨by simp [Cl]⟩
theorem H1.extn {wd : Nat} {fr : Bool} : H1 hp sel (.val (.slice none 0 0)) (.ext fr wd []) := ⟨by simp [Cl]⟩
theorem H1.ownx {k m wd : Nat} {b : Blk} {rows : List (List Sv)} (h1 : memB k sel = false) (h2 : hpGet hp k = some b) (h3 : b.clean = true) (h4 : b.wd = wd) (h5 : b.rows = rows) (h6 : m = b.rows.length) : H1 hp sel (.own k m) (.ext false wd rows) := by
  refine ⟨?_⟩
  simp only [Cl]
  exact ⟨trivial, h1, b, h2, .inl ⟨h6, h4, .inl ⟨h3, h5⟩⟩⟩
theorem H1.ref {fr : Bool} {cs : List Sv} : H1 hp sel (.ref fr cs) (.ref false cs) := ⟨by simp [Cl]⟩
theorem H1.reft {fr : Bool} {cs : List Sv} : H1 hp sel (.ref fr cs) (.ref fr cs) := ⟨by simp [Cl]⟩
theorem H1.ownt {k m wd : Nat} {b : Blk} {rows : List (List Sv)} (h1 : memB k sel = false) (h2 : hpGet hp k = some b) (h3 : b.clean = true) (h4 : b.wd = wd) (h5 : b.rows.take m = rows) (h6 : m ≤ b.rows.length) : H1 hp sel (.own k m) (.ext false wd rows) := by
  refine ⟨?_⟩
  simp only [Cl]
  exact ⟨trivial, h1, b, h2, .inr ⟨h6, h4, h3, h5⟩⟩
theorem H1.ptrx {k r q : Nat} {b : Blk} {row cs : List Sv} (h1 : memB k sel = false) (h2 : hpGet hp k = some b) (h3 : nth b.rows r = some row) (h4 : b.clean = true) (h5 : row.drop q = cs) : H1 hp sel (.ptr k r q) (.ref false cs) := by
  refine ⟨?_⟩
  simp only [Cl]
  exact ⟨trivial, h1, b, row, h2, h3, .inl ⟨h4, h5⟩⟩
theorem H1.agg {cs cs1 : List Sv} (h : HL hp sel cs cs1) : H1 hp sel (.agg cs) (.agg cs1) := ⟨by simp only [Cl]; exact h.h⟩
theorem H1.clo {f : Nat} {cs cs1 : List Sv} (h : HL hp sel cs cs1) : H1 hp sel (.clo f cs) (.clo f cs1) := ⟨by simp only [Cl]; exact ⟨trivial, h.h⟩⟩
theorem H1.anyx {s : Sv} : H1 hp sel s .any := ⟨by simp [Cl]⟩
end
theorem CallV.mkH {P : Program} {hp : Hp} {f : Nat} {args : List Sv} {K : Sv → List Blk → List Nat → Prop} (args' : List Sv) (res : Sv) (nb : List Blk) (h : HL hp [] args args') (c : PCon P f args' res nb)
    (k : K (res.mv (rho [] hp.length)) (nb.map (Blk.mv (rho [] hp.length))) []) : CallV P hp f args K := .mk args' res nb h.h c k
theorem CallS.pureH {P : Program} {tm : List Sv} {hp : Hp} {dst : Option Nat} {f : Nat} {args : List Sv} {K : List Sv → Hp → Prop} (args' : List Sv) (res : Sv) (nb : List Blk) (h1 : HL hp [] args args') (h2 : PCon P f args' res nb)
    (h : setTK tm dst (res.mv (rho [] hp.length)) fun tm => addK [] hp (nb.map (Blk.mv (rho [] hp.length))) fun hp => K tm hp) : CallS P tm hp dst f args K := .pure args' res nb h1.h h2 h
theorem om1 {a b : Nat} (h : a ≤ b) : a ≤ b := h
theorem om2 {a b : Nat} (h : a < b) : a < b := h
theorem om3 {a b : Nat} (h : a = b) : a = b := h
theorem om4 {a b : Int} (h : a ≤ b) : a ≤ b := h
theorem om5 {a b : Int} (h : a < b) : a < b := h
theorem om6 {a b : Int} (h : a = b) : a = b := h
theorem om7 {a b : Nat} (h : a ≠ b) : a ≠ b := h
theorem om8 {a b : List (List Sv)} (h : a = b) : a = b := h
theorem takeAll {α : Type} {l : List α} {n : Nat} (h : l.length ≤ n) : l.take n = l := List.take_of_length_le h
end Go.Eng
