/- The engine, part R: a region that draws its order, walked once, is walked in every order. -/
import Derived.Test.YtobojnfhhobnkaaEngQ
set_option linter.unusedSimpArgs false
set_option maxRecDepth 20000
set_option linter.unusedVariables false
namespace Go.Eng
open Go Go.RowKit

theorem getD_tf {l : Array Bool} {i : Nat} (h : i < l.size) : l.getD i true = l.getD i false := by
  simp [Array.getD, h]
theorem getD_set_self {l : Array Bool} {i : Nat} (h : i < l.size) : (l.setIfInBounds i true).getD i false = true := by
  simp [Array.getD, h]

theorem ready_iff {ops : Array Oper} {listed : Array Bool} (hs : listed.size = ops.size) {i : Nat} : i ∈ Region.ready .any ops listed ↔ listed.getD i false = false ∧ ∃ o, ops[i]? = some o ∧ ∀ j ∈ edges o, listed.getD j false = true := by
  rw [mem_ready]
  constructor
  · rintro ⟨h1, o, ho, h2⟩
    have hlt := (Array.getElem?_eq_some_iff.1 ho).1
    refine ⟨by rw [← getD_tf (by omega)]; exact h1, o, ho, fun j hj => ?_⟩
    obtain ⟨e, he, hb, rfl⟩ := edges_iff.1 hj
    exact h2 e he hb
  · rintro ⟨h1, o, ho, h2⟩
    have hlt := (Array.getElem?_eq_some_iff.1 ho).1
    exact ⟨by rw [getD_tf (by omega)]; exact h1, o, ho, fun e he hb => h2 _ (edges_iff.2 ⟨e, he, hb, rfl⟩)⟩

theorem ready_all {ops : Array Oper} (hed : ∀ i o, ops[i]? = some o → ∀ j ∈ edges o, j < i) {listed : Array Bool} (hs : listed.size = ops.size) (hr : Region.ready .any ops listed = []) : ∀ i, i < ops.size → listed.getD i false = true := by
  intro i
  induction i using Nat.strongRecOn with
  | _ i ih =>
    intro hi
    cases h : listed.getD i false with
    | true => rfl
    | false =>
      have ho : ops[i]? = some ops[i] := Array.getElem?_eq_getElem hi
      have : i ∈ Region.ready .any ops listed := (ready_iff hs).2 ⟨h, _, ho, fun j hj => ih j (hed i _ ho j hj) (by have := hed i _ ho j hj; omega)⟩
      rw [hr] at this
      simp at this

theorem cnt_step {i : Nat} {p q : Nat → Bool} (hp : p i = true) (hq : q i = false) (h : ∀ j, j ≠ i → q j = p j) : ∀ (l : List Nat), l.Nodup → i ∈ l → (l.filter q).length + 1 = (l.filter p).length
  | x :: xs, hn, hi => by
    have hn := List.nodup_cons.1 hn
    by_cases hx : x = i
    · subst hx
      have : xs.filter q = xs.filter p := List.filter_congr fun j hj => h j (fun e => hn.1 (e ▸ hj))
      simp [List.filter_cons, hp, hq, this]
    · have hi' : i ∈ xs := by
        rcases List.mem_cons.1 hi with h1 | h1
        · exact absurd h1.symm hx
        · exact h1
      have ih := cnt_step hp hq h xs hn.2 hi'
      simp only [List.filter_cons, h x hx]
      split
      · simp only [List.length_cons]; omega
      · exact ih

theorem tail_sound {G : Gm} {ops : Array Oper} {F : Fence} (hF : Open F) {n : Nat} {Q : Exit → Act → World → Prop} {w0 : World} {M : Frm} {dfs : List Deferred} {K : List Sv → Hp → Prop}
    (hy : YdOk G.P w0 M G.l G.its) (hQ : ∀ a c tm hp, K tm hp → St w0 M c tm hp a dfs → Q .normal a c.w) (hed : ∀ i o, ops[i]? = some o → ∀ j ∈ edges o, j < i) {PT : List (List Nat)} (hPT : ∀ j o, ops.toList[j]? = some o → pre PT j = preOf (PT.take j) (edges o)) :
    ∀ (os : List Oper) (t fuel : Nat) (listed : Array Bool) (tm : List Sv) (hp : Hp) (c : Cx) (a : Act), ops.toList.drop t = os → os.length = fuel → listed.size = ops.size →
      (∀ j, j < ops.size → listed.getD j false = decide (j < t)) → tailOk PT os t = true → tailV G os tm hp K → St w0 M c tm hp a dfs → wpAnyIn F n G.P .any ops Q fuel listed a c.w
  | [], t, fuel, listed, tm, hp, c, a, hdrop, hfuel, hs, hl, _, h, hS => by
    have ht : ops.size ≤ t := by
      have := congrArg List.length hdrop
      simp at this
      omega
    subst hfuel
    refine ⟨?_, hQ a c tm hp h hS⟩
    rw [List.eq_nil_iff_forall_not_mem]
    intro i hi
    obtain ⟨h1, o, ho, _⟩ := (ready_iff hs).1 hi
    have hlt := (Array.getElem?_eq_some_iff.1 ho).1
    rw [hl i hlt] at h1
    simp at h1
    omega
  | o :: os, t, fuel, listed, tm, hp, c, a, hdrop, hfuel, hs, hl, hok, h, hS => by
    have hto : ops.toList[t]? = some o := by
      have : (ops.toList.drop t)[0]? = some o := by rw [hdrop]; rfl
      rw [List.getElem?_drop] at this
      simpa using this
    have hta : ops[t]? = some o := by simpa using hto
    have hlt := (Array.getElem?_eq_some_iff.1 hta).1
    have hdrop' : ops.toList.drop (t + 1) = os := by rw [← List.drop_drop, hdrop]; rfl
    simp only [List.length_cons] at hfuel
    subst hfuel
    refine ⟨fun hr => ?_, fun i hi => ?_⟩
    · have := ready_all hed hs hr t hlt
      rw [hl t hlt] at this
      simp at this
    · obtain ⟨h1, o', ho', h2⟩ := (ready_iff hs).1 hi
      have hil := (Array.getElem?_eq_some_iff.1 ho').1
      have hit : ¬ i < t := fun hc => by rw [hl i hil] at h1; simp [hc] at h1
      have hit2 : i = t := by
        rcases Nat.lt_or_ge t i with hgt | hge
        · have hj : (o :: os)[i - t]? = some o' := by
            rw [← hdrop, List.getElem?_drop, show t + (i - t) = i by omega]
            simpa using ho'
          have h3 := (tailOk_at hok (i - t) o' hj).1 t (by omega)
          rw [show t + (i - t) = i by omega] at h3
          have := pre_closed (os := ops.toList) hPT (X := fun k => listed.getD k false) (fun k o2 hk hx j hj => by
            have hk' : ops[k]? = some o2 := by simpa using hk
            have hkl := (Array.getElem?_eq_some_iff.1 hk').1
            have hjk := hed k o2 hk' j hj
            simp only [hl k hkl, decide_eq_true_eq] at hx
            simp only [hl j (by omega), decide_eq_true_eq]
            omega) i o' (by simpa using ho') h2 t h3
          rw [hl t hlt] at this
          simp at this
        · omega
      subst hit2
      rw [hta] at ho'
      cases ho'
      have hg := (tailOk_at hok 0 o rfl).2.2
      unfold wpOpIn
      rw [hta]
      have hw : Region.wanted o (yielded ops a.tmps) = true := by simp [Region.wanted, hg]
      simp only [hw, if_true]
      simp only [tailV] at h
      refine opS_sound h F n w0 M c a dfs _ Q hF hy hS fun tm' hp' a' c' hK hS' => ?_
      have hok' : tailOk PT os (i + 1) = true := by
        simp only [tailOk, Bool.and_eq_true] at hok
        exact hok.2
      refine tail_sound hF hy hQ hed hPT os (i + 1) os.length _ tm' hp' c' a' hdrop' rfl (by simp [hs]) (fun j hj => ?_) hok' hK hS'
      by_cases hji : j = i
      · subst hji
        rw [getD_set_self (by omega)]
        simp
      · rw [getD_set_ne false (fun e => hji e.symm), hl j hj]
        have : (j < i) ↔ (j < i + 1) := by omega
        simp [this]

/-- All have run: the state as it is told. -/
theorem Mid.finish {w0 : World} {M : Frm} {T : List Ent} {hp0 : Hp} {tm0 : List Sv} {ds : List Nat} {X : Nat → Bool} {c : Cx} {a : Act} {dfs : List Deferred} (hM : Mid w0 M T hp0 tm0 ds X c a dfs) (hX : ∀ j, j < T.length → X j = true) :
    St w0 M c (rawT T (fun _ => true) (bAt (avG (fun k => memB k (allK T)) 0 (rawH (fun _ => true) T hp0))) (fun _ => true) ds 0 tm0) (onlyH (bAt (avG (fun k => memB k (allK T)) 0 (rawH (fun _ => true) T hp0))) 0 (rawH (fun _ => true) T hp0)) a dfs := by
  have hraw : rawH X T hp0 = rawH (fun _ => true) T hp0 := by
    unfold rawH
    rw [extH_congr (p := X) (q := fun _ => true) T 0 fun j hj => hX _ (by omega)]
  have hav : avX T hp0 X = bAt (avG (fun k => memB k (allK T)) 0 (rawH (fun _ => true) T hp0)) := by
    funext k
    rw [Bool.eq_iff_iff, avX_iff, avG_iff, hraw, Nat.zero_add]
    have : killX X T 0 k = memB k (allK T) := by
      rw [Bool.eq_iff_iff, killX_iff, memB_allK]
      constructor
      · rintro ⟨i, e, h1, _, h2⟩; exact ⟨i, e, h1, h2⟩
      · rintro ⟨i, e, h1, h2⟩; exact ⟨i, e, h1, hX _ (by have := (List.getElem?_eq_some_iff.1 h1).1; omega), h2⟩
    rw [this]
  rw [← hav, ← hraw]
  refine { inv := hM.inv, full := fun k b hk => ?_, rel := fun t => ?_, size := by rw [rawT_length]; exact hM.size, ds := hM.dfs }
  · rw [onlyH_get] at hk
    obtain ⟨b0, _, h, _⟩ := hk
    rw [Nat.zero_add] at h
    exact (hM.dom k).2 h
  · rcases tmGet_rawT T (fun _ => true) (avX T hp0 X) (fun _ => true) ds 0 tm0 t with h | ⟨_, h⟩
    · rw [h]; trivial
    · rw [h, Nat.zero_add]
      have hr := hM.rel t
      unfold sAt at hr ⊢
      cases hs : slotE T 0 t with
      | none => rw [hs] at hr; exact hr
      | some r =>
        obtain ⟨j, s⟩ := r
        rw [hs] at hr
        obtain ⟨j', e, hj, he, _, _⟩ := slotE_some hs
        have : X j = true := hX j (by have := (List.getElem?_eq_some_iff.1 he).1; omega)
        simp only [this] at hr
        exact hr

section
variable {G : Gm} {ops : Array Oper} {F : Fence} {n : Nat} {Q : Exit → Act → World → Prop} {w0 : World} {M : Frm} {dfs : List Deferred} {K : List Sv → Hp → Prop}
  {nE : Nat} {T : List Ent} {hp0 : Hp} {tm0 : List Sv} {ds : List Nat} {ks : List (Nat × Nat)} {pt : List (List Nat)}

theorem mid_sound (hF : Open F) (hy : YdOk G.P w0 M G.l G.its) (hQ : ∀ a c tm hp, K tm hp → St w0 M c tm hp a dfs → Q .normal a c.w) (hed : ∀ i o, ops[i]? = some o → ∀ j ∈ edges o, j < i) (hnE : nE ≤ ops.size) (hTl : T.length = nE)
    (hT : ∀ i o, i < nE → ops[i]? = some o → ∃ e, T[i]? = some e ∧ EntOk G.P tm0 hp0 ds ks pt T i o e)
    (hu : ∀ (a b : Nat) (x y : Ent) (d : Nat), T[a]? = some x → T[b]? = some y → x.dst = some d → y.dst = some d → a = b) (hcov : ∀ e ∈ T, ∀ t, e.dst = some t → memB t ds = true)
    (hpt : ∀ j o, (ops.toList.take nE)[j]? = some o → pre pt j = preOf (pt.take j) (edges o))
    {PT : List (List Nat)} (hPT : ∀ j o, ops.toList[j]? = some o → pre PT j = preOf (PT.take j) (edges o)) (htail : tailOk PT (ops.toList.drop nE) nE = true)
    (hK : tailV G (ops.toList.drop nE) (rawT T (fun _ => true) (bAt (avG (fun k => memB k (allK T)) 0 (rawH (fun _ => true) T hp0))) (fun _ => true) ds 0 tm0) (onlyH (bAt (avG (fun k => memB k (allK T)) 0 (rawH (fun _ => true) T hp0))) 0 (rawH (fun _ => true) T hp0)) K) :
    ∀ (fuel : Nat) (listed : Array Bool) (c : Cx) (a : Act), listed.size = ops.size → (∀ i, listed.getD i false = true → i < nE) → (∀ i o, ops[i]? = some o → listed.getD i false = true → ∀ j ∈ edges o, listed.getD j false = true) →
      ((List.range nE).filter (fun i => !listed.getD i false)).length + (ops.size - nE) = fuel → Mid w0 M T hp0 tm0 ds (fun i => listed.getD i false) c a dfs → wpAnyIn F n G.P .any ops Q fuel listed a c.w := by
  intro fuel
  induction fuel with
  | zero =>
    intro listed c a hs hlt hcl hfuel hM
    have hall : ∀ j, j < nE → listed.getD j false = true := fun j hj => by
      cases h : listed.getD j false with
      | true => rfl
      | false =>
        have : j ∈ (List.range nE).filter (fun i => !listed.getD i false) := List.mem_filter.2 ⟨List.mem_range.2 hj, by rw [h]; rfl⟩
        have hpos := List.length_pos_of_mem this
        omega
    refine tail_sound hF hy hQ hed hPT _ nE 0 listed _ _ c a rfl (by simp; omega) hs (fun j hj => ?_) htail hK (hM.finish fun j hj => hall j (by omega))
    have : j < nE := by omega
    rw [hall j this]
    simp [this]
  | succ f ih =>
    intro listed c a hs hlt hcl hfuel hM
    by_cases hall : ∀ j, j < nE → listed.getD j false = true
    · have hnil : (List.range nE).filter (fun i => !listed.getD i false) = [] := by
        rw [List.filter_eq_nil_iff]
        intro j hj
        rw [hall j (List.mem_range.1 hj)]
        simp
      rw [hnil] at hfuel
      refine tail_sound hF hy hQ hed hPT _ nE (f + 1) listed _ _ c a rfl (by simp at hfuel ⊢; omega) hs (fun j hj => ?_) htail hK (hM.finish fun j hj => hall j (by omega))
      cases h : listed.getD j false with
      | true => simp [hlt j h]
      | false =>
        have : ¬ j < nE := fun hc => by rw [hall j hc] at h; cases h
        simp [this]
    · have ⟨j0, hj0, hj0f⟩ : ∃ j, j < nE ∧ listed.getD j false = false := by
        by_cases h : ∃ j, j < nE ∧ listed.getD j false = false
        · exact h
        · refine absurd (fun j hj => ?_) hall
          cases hx : listed.getD j false with
          | true => rfl
          | false => exact absurd ⟨j, hj, hx⟩ h
      refine ⟨fun hr => ?_, fun i hi => ?_⟩
      · have := ready_all hed hs hr j0 (by omega)
        rw [hj0f] at this
        cases this
      · obtain ⟨hui, o, ho, hei⟩ := (ready_iff hs).1 hi
        have hil := (Array.getElem?_eq_some_iff.1 ho).1
        have hiE : i < nE := by
          rcases Nat.lt_or_ge i nE with h | h
          · exact h
          · have hd : (ops.toList.drop nE)[i - nE]? = some o := by
              rw [List.getElem?_drop, show nE + (i - nE) = i by omega]
              simpa using ho
            have h3 := (tailOk_at htail (i - nE) o hd).1 j0 (by omega)
            rw [show nE + (i - nE) = i by omega] at h3
            have := pre_closed (os := ops.toList) hPT (X := fun k => listed.getD k false) (fun k o2 hk hx => hcl k o2 (by simpa using hk) hx) i o (by simpa using ho) hei j0 h3
            rw [hj0f] at this
            cases this
        obtain ⟨e, he, hok⟩ := hT i o hiE ho
        have htake : ∀ (j : Nat) (o' : Oper), (ops.toList.take nE)[j]? = some o' → j < nE ∧ ops[j]? = some o' := fun j o' hj => by
          rw [List.getElem?_take] at hj
          split at hj
          · exact ⟨by assumption, by simpa using hj⟩
          · cases hj
        have hotake : (ops.toList.take nE)[i]? = some o := by rw [List.getElem?_take, if_pos hiE]; simpa using ho
        have hpre : ∀ m, memB m (pre pt i) = true → listed.getD m false = true := pre_closed (os := ops.toList.take nE) hpt (X := fun i => listed.getD i false) (fun k o' hk hx => hcl k o' (htake k o' hk).2 hx) i o hotake hei
        have hfb : ∀ k, killX (fun i => listed.getD i false) T 0 k = true → memB k (fbOf pt i ks) = true := fun k hk => by
          obtain ⟨j, ej, h1, h2, h3⟩ := (killX_iff _ _ _ _).1 hk
          rw [Nat.zero_add] at h2
          have hjE := hlt j h2
          have hoj : ops[j]? = some (ops[j]'(by omega)) := Array.getElem?_eq_getElem (by omega)
          obtain ⟨ej', h1', hokj⟩ := hT j _ hjE hoj
          rw [h1] at h1'
          cases h1'
          have hmp := hokj.kl k h3
          refine memB_fbOf (j := j) (fun e => ?_) (fun ⟨_, hc⟩ => ?_) hmp
          · subst e; rw [hui] at h2; cases h2
          · have := pre_closed (os := ops.toList.take nE) hpt (X := fun i => listed.getD i false) (fun k o' hk hx => hcl k o' (htake k o' hk).2 hx) j (ops[j]'(by omega)) (by rw [List.getElem?_take, if_pos hjE]; simp) (hcl j _ hoj h2) i hc
            rw [hui] at this
            cases this
        -- what comes behind
        have next : ∀ a' c', Mid w0 M T hp0 tm0 ds (fun m => (listed.setIfInBounds i true).getD m false) c' a' dfs → wpAnyIn F n G.P .any ops Q f (listed.setIfInBounds i true) a' c'.w := by
          intro a' c' hM'
          refine ih _ c' a' (by simp [hs]) (fun k hk => ?_) (fun k o' hk hx j hj => ?_) ?_ hM'
          · by_cases hki : k = i
            · omega
            · rw [getD_set_ne false (fun e => hki e.symm)] at hk
              exact hlt k hk
          · have up : ∀ j, listed.getD j false = true → (listed.setIfInBounds i true).getD j false = true := fun j hj => by
              by_cases hji : j = i
              · subst hji; exact getD_set_self (by omega)
              · rw [getD_set_ne false (fun e => hji e.symm)]; exact hj
            by_cases hki : k = i
            · subst hki
              rw [ho] at hk
              cases hk
              exact up j (hei j hj)
            · rw [getD_set_ne false (fun e => hki e.symm)] at hx
              exact up j (hcl k o' hk hx j hj)
          · have := cnt_step (i := i) (p := fun k => !listed.getD k false) (q := fun k => !(listed.setIfInBounds i true).getD k false) (by simp [hui]) (by simp [getD_set_self (show i < listed.size by omega)]) (fun j hj => by rw [getD_set_ne false (fun e => hj e.symm)]) (List.range nE) List.nodup_range (List.mem_range.2 hiE)
            omega
        -- what a guard looks at
        have saysV : ∀ j v, SaysV tm0 pt T i j v → yielded ops a.tmps j = (match v with | .bool b => some b | _ => none) := by
          rintro j v ⟨hj, d, ej, hej, hdj, hdl, hsj⟩
          have hXj := hpre j hj
          have hjE := hlt j hXj
          have hoj : ops[j]? = some (ops[j]'(by omega)) := Array.getElem?_eq_getElem (by omega)
          obtain ⟨ej', h1', hokj⟩ := hT j _ hjE hoj
          rw [hej] at h1'
          cases h1'
          have hr := hM.rel d
          unfold sAt at hr
          rw [slotE_at hu hej hdj, hsj] at hr
          simp only [hXj, Sv.only, Rel] at hr
          have hds : d < a.tmps.size := by rw [hM.size]; exact hdl
          rw [Array.getD_eq_getD_getElem?, Array.getElem?_eq_getElem hds] at hr
          have hdd : (ops[j]'(by omega)).dst = some d := by rw [← hokj.dst]; exact hdj
          unfold yielded
          rw [hoj]
          simp only [Option.bind_some, hdd, Array.getElem?_eq_getElem hds]
          simp only [Option.getD_some] at hr
          rw [hr]
          cases v <;> rfl
        have says : ∀ j b, Says tm0 pt T i j b → yielded ops a.tmps j = some b := fun j b h => saysV j _ h
        have hX'i : (fun m => (listed.setIfInBounds i true).getD m false) i = true := getD_set_self (by omega)
        have hX'o : ∀ m, m ≠ i → (fun m => (listed.setIfInBounds i true).getD m false) m = (fun m => listed.getD m false) m := fun m hm => getD_set_ne false (fun e => hm e.symm)
        unfold wpOpIn
        rw [ho]
        simp only
        rcases hok.way with ⟨hg, hE⟩ | ⟨⟨j, w, v, hg, hsay, hvw⟩, rfl⟩
        · have hw : Region.wanted o (yielded ops a.tmps) = true := by
            rcases hg with hg | ⟨j, b, hg, hsay⟩
            · simp [Region.wanted, hg]
            · simp [Region.wanted, hg, says j b hsay]
          rw [if_pos hw]
          exact hM.step he hui hX'i hX'o hu hcov hpre hfb hok.dst hok.lt rfl rfl hE hF next
        · have hw : ¬ Region.wanted o (yielded ops a.tmps) = true := by
            simp only [Region.wanted, hg, saysV j v hsay]
            cases v
            case bool b =>
              simp only [beq_iff_eq, Option.some.injEq]
              intro e
              subst e
              exact hvw rfl
            all_goals simp
          rw [if_neg hw]
          refine ⟨fun f _ => hF.fn f, ?_⟩
          let o' : Oper := { o with op := .move (.const undef) }
          have hE : ∀ tm hp, EStep G.P o' tm hp (.val undef) [] [] := fun tm hp => PureS.estep (by simp [o']) fun w0 M c a hI ha => ⟨undef, by simp [execOp, o', Act.eval], by simp [Rel]⟩
          have := hM.step (o := o') (nd := fun _ => true) (Q := Q) (n := n) he hui hX'i hX'o hu hcov hpre hfb hok.dst hok.lt rfl rfl (hE _ _) hF next
          have h2 := this.2
          rw [Oper.semAt_eq _ _ _ (by simp [o'])] at h2
          have hrun : (execOp a.eval o').run G.P c.w = .ok (.value undef) c.w := by simp [execOp, o', Act.eval]
          rw [hrun] at h2
          exact h2
end

theorem draw_sound {G : Gm} {ops : Array Oper} {id : Nat} {F : Fence} (hF : Open F) {n : Nat} {Q : Exit → Act → World → Prop} {w0 : World} {M : Frm} {dfs : List Deferred} {K : List Sv → Hp → Prop}
    (hy : YdOk G.P w0 M G.l G.its) (hQ : ∀ a c tm hp, K tm hp → St w0 M c tm hp a dfs → Q .normal a c.w) {tm : List Sv} {hp : Hp} {c : Cx} {a : Act} (h : DrawV G ops.toList tm hp K) (hS : St w0 M c tm hp a dfs) : (Code.region id ops true).wpIn F n G.P Q a c.w := by
  obtain ⟨ks, h⟩ := h
  obtain ⟨PT, h, _, hPT⟩ := preTabK_sound h
  simp only [List.nil_append, List.length_nil, Nat.zero_add] at h hPT
  rw [litK_eq] at h
  generalize hn0 : nEnd PT ops.toList = nE at h
  have hnE : nE ≤ ops.size := by
    have := nEnd_le PT ops.toList
    simp at this
    omega
  obtain ⟨hdist, htail, h⟩ := h
  obtain ⟨pt, h, _, hpt⟩ := preTabK_sound h
  simp only [List.nil_append, List.length_nil, Nat.zero_add] at h hpt
  obtain ⟨T, h, hTl, hT⟩ := drawE_sound _ 0 [] _ rfl h
  simp only [List.nil_append, Nat.zero_add] at h hT
  simp only [hpK_eq, bitsK_eq, rowK_eq] at h
  have hTl : T.length = nE := by rw [hTl]; simp; omega
  have hat : ∀ i o, i < nE → ops[i]? = some o → (ops.toList.take nE)[i]? = some o := fun i o hi ho => by rw [List.getElem?_take, if_pos hi]; simpa using ho
  have hto : ∀ (i : Nat) (e : Ent), T[i]? = some e → ∃ o, (ops.toList.take nE)[i]? = some o ∧ e.dst = o.dst := fun i e he => by
    have hi : i < nE := by have := (List.getElem?_eq_some_iff.1 he).1; omega
    have ho : ops[i]? = some (ops[i]'(by omega)) := Array.getElem?_eq_getElem (by omega)
    obtain ⟨e', he', hok⟩ := hT i _ (hat i _ hi ho)
    rw [he] at he'
    cases he'
    exact ⟨_, hat i _ hi ho, hok.dst⟩
  have hed : ∀ i o, ops[i]? = some o → ∀ j ∈ edges o, j < i := fun i o ho => by
    rcases Nat.lt_or_ge i nE with hi | hi
    · obtain ⟨e, _, hok⟩ := hT i o (hat i o hi ho)
      exact hok.edge
    · have hd : (ops.toList.drop nE)[i - nE]? = some o := by
        rw [List.getElem?_drop, show nE + (i - nE) = i by omega]
        simpa using ho
      have := (tailOk_at htail (i - nE) o hd).2.1
      rwa [show nE + (i - nE) = i by omega] at this
  let w1 : World := { c.w with drawn := c.w.drawn + 1 }
  have hg : WGrow c.w w1 := ⟨rfl, rfl, rfl, Nat.le_refl _, fun _ _ => rfl⟩
  have hS1 : St w0 M { c with w := w1 } tm hp a dfs := { inv := hS.inv.grow hg, full := hS.full, rel := fun t => Rel.le _ (Sv.all_true _) (hS.inv.le_grow hg) (hS.rel t), size := hS.size, ds := hS.ds }
  have hrep : ∀ i, (Array.replicate ops.size false).getD i false = false := fun i => by
    rw [Array.getD_eq_getD_getElem?, Array.getElem?_replicate]
    split <;> rfl
  refine wpIn_region_any G.mix ?_
  refine mid_sound (tm0 := tm) (hp0 := hp) (nE := nE) (T := T) (ds := dstsOf (ops.toList.take nE)) (ks := ks) (pt := pt) hF hy hQ hed hnE hTl (fun i o hi ho => hT i o (hat i o hi ho)) ?_ ?_ hpt hPT htail h ops.size (Array.replicate ops.size false) { c with w := w1 } a (by simp) (fun i hi => by rw [hrep] at hi; cases hi) (fun i o ho hi => by rw [hrep] at hi; cases hi) ?_ ?_
  · intro x y ex ey d hx hy hdx hdy
    obtain ⟨ox, hox, e1⟩ := hto x ex hx
    obtain ⟨oy, hoy, e2⟩ := hto y ey hy
    exact distinctD_at hdist x y ox oy d hox hoy (e1 ▸ hdx) (e2 ▸ hdy)
  · intro e he t hd
    obtain ⟨i, hi⟩ := List.mem_iff_getElem?.1 he
    obtain ⟨o, ho, e1⟩ := hto i e hi
    exact memB_of_mem (mem_dstsOf (e1 ▸ hd) (List.mem_of_getElem? ho))
  · have : (List.range nE).filter (fun i => !(Array.replicate ops.size false).getD i false) = List.range nE := by
      rw [List.filter_eq_self]
      intro i _
      rw [hrep]
      rfl
    rw [this]
    simp
    omega
  · have hXf : (fun i => (Array.replicate ops.size false).getD i false) = fun _ => false := funext hrep
    rw [hXf]
    exact Mid.start hS1
end Go.Eng
