/- The engine, part J: what a function hands back; its contract out of its body. -/
import Derived.Test.YtobojnfhhobnkaaEngM
set_option linter.unusedSimpArgs false
set_option maxRecDepth 20000
set_option linter.unusedVariables false
namespace Go.Eng
open Go Go.RowKit

/-! ### What is handed back -/
def FrB : Hp → Prop
  | [] => True
  | none :: bs => FrB bs
  | some b :: bs => FrR b.rows ∧ FrB bs
theorem FrB_get : ∀ {bs : Hp}, FrB bs → ∀ (i : Nat) (b : Blk), bs[i]? = some (some b) → FrR b.rows
  | [], _, i, b, h => by simp at h
  | none :: bs, hf, i, b, h => by
    cases i with
    | zero => simp at h
    | succ i => exact FrB_get (bs := bs) hf i b (by simpa using h)
  | some q :: bs, hf, i, b, h => by
    cases i with
    | zero => simp at h; subst h; exact hf.1
    | succ i => exact FrB_get hf.2 i b (by simpa using h)

/-- zs: nil slices that become blocks of their own; sel: the blocks that go with the result, those that were handed in first. -/
inductive RetM (m : Nat) (hp : Hp) (r : Sv) (post : Sv → Hp → Prop) : Prop
  | mk (zs : List (Nat × Nat)) (sel : List Nat) (res : Sv) (bs : Hp) : sel.Nodup → preB m 0 sel = true → VwBs (hp ++ zs.map fun p => some (nilB p)) (nlB hp.length (hp.length + zs.length)) sel sel bs →
      Vw (hp ++ zs.map fun p => some (nilB p)) (nlB hp.length (hp.length + zs.length)) sel r res → res.Fr → FrB bs → post res bs → RetM m hp r post
abbrev RetP (hp : Hp) (r res : Sv) (nb : List Blk) : Prop := RetM 0 hp r fun r' h => r' = res ∧ h = nb.map some

theorem RetM.ends {m : Nat} {hp : Hp} {r : Sv} {post : Sv → Hp → Prop} (h : RetM m hp r post) {w0 : World} {M : Frm} (hm : M.m = m) (hxk : ∀ b, ¬ M.Xk b) {c : Cx} {v : Value} (hI : Inv w0 M c hp) (hD : ∀ (k : Nat) (b : Blk), hp[k]? = some (some b) → c.D k) (hr : Rel r c v) :
    ∃ c' res hp', post res hp' ∧ Ends w0 M c' c.w v res hp' := by
  obtain ⟨zs, sel, res, bs, hnd, hpre, hbs, hvw, hfr, hfb, hpost⟩ := h
  obtain ⟨c1, ew, ex, eb, hle, hI, hD, hnil, hcq⟩ := hI.nils zs hD
  have hr := Rel.le r (Sv.all_true _) hle hr
  have hk := hI.vk hnil hbs
  have hv := view_inv hk hD hnd (hm ▸ hpre) hbs
  have hres := Vw.rel hk res hvw hr
  rw [← ew]
  generalize hc1 : c1.view sel bs = c2 at *
  have hw2 : c2.w = c1.w := by rw [← hc1]; rfl
  let c' : Cx := { c2 with X := fun b => c2.X b ∧ c2.G b }
  have hfs : Fs c2.shut c'.shut := ⟨fun _ h => h, fun b hx hg => ⟨hx, hg⟩, rfl, rfl⟩
  have key : ∀ (s : Sv) (v : Value), s.Fr → Rel s c2 v → Rel s c' v := fun s v hf r => Rel.pick s hf r
  refine ⟨c', res, bs, hpost, hw2, ?_, fun k b hb => ?_, fun b hb => ?_, key _ _ hfr hres⟩
  · exact { hv with
      dom := fun k hk => by
        obtain ⟨blk, e, r⟩ := hv.dom k hk
        refine ⟨blk, e, ?_⟩
        unfold BlkRel at *
        refine ⟨r.1, r.2.1, fun hn => ?_⟩
        obtain ⟨arr, hh, hr, hl, hg⟩ := r.2.2 hn
        refine ⟨arr, hh, ?_, hl, hg⟩
        have hf := FrB_get hfb k blk e
        unfold Blk.cx at *
        cases hc : blk.clean with
        | true =>
          rw [hc] at hr
          exact RelR.fresh _ hf hfs hr
        | false =>
          rw [hc] at hr
          exact RelR.pick _ hf hr
      xsep := fun k b hk hn hx => hv.xsep k b hk hn hx.1
      xlt := fun b hx => hv.xlt b hx.1
      xY := fun b hx => hv.xY b hx.1
      x0 := fun b hx => hv.x0 b hx.1
      xk := fun b hb => absurd hb (hxk b)
      zc := fun b hb => ⟨(hv.zc b hb).1, (hv.zc b hb).2.1, fun hx => (hv.zc b hb).2.2 hx.1⟩
      ca := fun b hb => ⟨(hv.ca b hb).1, fun hx => (hv.ca b hb).2.1 hx.1, (hv.ca b hb).2.2⟩ }
  · show c2.D k
    rw [← hc1]
    exact ⟨b, hb⟩
  · have := hb.2
    rwa [hv.bnd] at this

/-- The results, read. -/
def resV (G : Gm) (tm : List Sv) (hp : Hp) : List ResultVar → (List Sv → Prop) → Prop
  | [], K => K []
  | .tmp t :: rs, K => resV G tm hp rs fun ss => K (tmGet tm t :: ss)
  | .cell a t :: rs, K => loadV G t hp (tmGet tm a) fun s => resV G tm hp rs fun ss => K (s :: ss)

def one? : List Sv → Sv
  | [s] => s
  | ss => .tup ss

/-- A result, laid bare. -/
def resK : Sv → (Sv → Prop) → Prop
  | .tup cs, K => deepK cs fun cs => K (.tup cs)
  | s, K => svK s K
theorem resK_eq (s : Sv) (K : Sv → Prop) : resK s K = K s := by
  cases s <;> simp [resK, svK_eq, deepK_eq]
def retV (G : Gm) (fn : Func) (tm : List Sv) (hp : Hp) (post : Sv → Hp → Prop) : Prop :=
  resV G tm hp fn.results.toList fun ss => resK (one? ss) fun r => RetM G.m hp r post

/-- One result, read. -/
def rdV (tmps : Array Value) : ResultVar → Sem Value
  | .tmp t => pure (tmps.getD t undef)
  | .cell x t => do loadVar t (← asAddr (tmps.getD x undef))

theorem results_eq (fn : Func) (tmps : Array Value) : results fn tmps = (do
    let vs ← fn.results.mapM (rdV tmps)
    pure (if h : vs.size = 1 then vs[0] else .tuple vs)) := by
  unfold results
  congr 1

theorem resV_sound {G : Gm} {tm : List Sv} {hp : Hp} : ∀ (rs : List ResultVar) (K : List Sv → Prop), resV G tm hp rs K → ∃ ss, K ss ∧ ss.length = rs.length ∧ ∀ (w0 : World) (M : Frm) (c : Cx) (a : Act) (ds : List Deferred), St w0 M c tm hp a ds →
    ∃ vs, RelT ss c vs ∧ (rs.mapM (rdV a.tmps)).run G.P c.w = Result.ok vs c.w
  | [], K, h => ⟨[], h, rfl, fun w0 M c a ds hS => ⟨[], by simp [RelT], rfl⟩⟩
  | .tmp t :: rs, K, h => by
    obtain ⟨ss, hK, hl, hs⟩ := resV_sound rs _ h
    refine ⟨_, hK, by simp [hl], fun w0 M c a ds hS => ?_⟩
    obtain ⟨vs, h1, h2⟩ := hs w0 M c a ds hS
    refine ⟨a.tmps.getD t undef :: vs, by simp only [RelT]; exact ⟨_, _, rfl, hS.rel t, h1⟩, ?_⟩
    simp only [List.mapM_cons, rdV, Sem.run_bind, Sem.run_pure, Result.andThen_ok, h2]
  | .cell x t :: rs, K, h => by
    let o : Oper := { dst := none, op := .load t (.tmp x), type := 0, pos := "", after := #[], guard := none }
    obtain ⟨s, h, hp1⟩ := loadV_sound (G := G) (tm := tm) (hp := hp) (o := o) (x := .tmp x) rfl h
    obtain ⟨ss, hK, hl, hs⟩ := resV_sound rs _ h
    refine ⟨_, hK, by simp [hl], fun w0 M c a ds hS => ?_⟩
    obtain ⟨vs, h1, h2⟩ := hs w0 M c a ds hS
    obtain ⟨v, hrun, hr⟩ := hp1 w0 M c a hS.inv (fun y _ => hS.opnd y)
    have hld : (do loadVar t (← asAddr (a.tmps.getD x undef)) : Sem Value).run G.P c.w = .ok v c.w := by
      have : (Instr.loadAt t (a.tmps.getD x undef)).run G.P c.w = .ok v c.w := by
        simp only [execOp, o, Act.eval, Sem.run_bind, Sem.run_pure] at hrun
        cases hx : (Instr.loadAt t (a.tmps.getD x undef)).run G.P c.w with
        | ok u w => rw [hx] at hrun; simp at hrun; obtain ⟨rfl, rfl⟩ := hrun; rfl
        | halt q w => rw [hx] at hrun; cases hrun
      unfold Instr.loadAt Instr.sureAddr at this
      cases hp : a.tmps.getD x undef with
      | pointer ad =>
        rw [hp] at this
        cases ad with
        | some ad => simpa [asAddr] using this
        | none => simp at this
      | _ => rw [hp] at this; simp at this
    refine ⟨v :: vs, by simp only [RelT]; exact ⟨_, _, rfl, hr, h1⟩, ?_⟩
    have hld' : (rdV a.tmps (.cell x t)).run G.P c.w = .ok v c.w := hld
    simp only [List.mapM_cons, Sem.run_bind, Sem.run_pure, hld', Result.andThen_ok, h2]

theorem results_run {G : Gm} {fn : Func} {tm : List Sv} {hp : Hp} {post : Sv → Hp → Prop} (h : retV G fn tm hp post) {w0 : World} {M : Frm} (hm : M.m = G.m) (hxk : ∀ b, ¬ M.Xk b) {c : Cx} {a : Act} {ds : List Deferred} (hS : St w0 M c tm hp a ds) :
    ∃ v c' res hp', (results fn a.tmps).run G.P c.w = .ok v c.w ∧ post res hp' ∧ Ends w0 M c' c.w v res hp' := by
  obtain ⟨ss, hK, hl, hs⟩ := resV_sound _ _ h
  obtain ⟨vs, hr, hrun⟩ := hs w0 _ c a ds hS
  have hvl : vs.length = ss.length := by
    have : ∀ (ss : List Sv) (vs : List Value), RelT ss c vs → vs.length = ss.length := by
      intro ss
      induction ss with
      | nil => intro vs h; simp only [RelT] at h; simp [h]
      | cons s ss ih => intro vs h; simp only [RelT] at h; obtain ⟨u, us, rfl, _, h⟩ := h; simp [ih us h]
    exact this ss vs hr
  have hres : ∃ v, (results fn a.tmps).run G.P c.w = .ok v c.w ∧ Rel (one? ss) c v := by
    have e1 : (fn.results.mapM (rdV a.tmps)).run G.P c.w = Result.ok vs.toArray c.w := by
      rw [Array.mapM_eq_mapM_toList]
      simp only [Sem.run_map, hrun, Result.andThen_ok]
    by_cases h1 : ∃ s, ss = [s]
    · obtain ⟨s, rfl⟩ := h1
      simp only [RelT] at hr
      obtain ⟨u, us, rfl, hs1, rfl⟩ := hr
      refine ⟨u, ?_, hs1⟩
      rw [results_eq]
      simp only [Sem.run_bind, e1, Result.andThen_ok]
      simp
    · have hone : one? ss = .tup ss := by
        unfold one?
        split
        · exact absurd ⟨_, rfl⟩ h1
        · rfl
      refine ⟨.tuple vs.toArray, ?_, by rw [hone]; simp only [Rel]; exact ⟨vs, rfl, hr⟩⟩
      have hne : vs.toArray.size ≠ 1 := fun e => by
        have : ss.length = 1 := by rw [← hvl]; simpa using e
        exact h1 (List.length_eq_one_iff.1 this)
      rw [results_eq]
      simp only [Sem.run_bind, e1, Result.andThen_ok]
      rw [dif_neg hne]
      rfl
  obtain ⟨v, hv, hrel⟩ := hres
  rw [resK_eq] at hK
  obtain ⟨c', res, hp', hp1, he⟩ := hK.ends hm hxk hS.inv hS.full hrel
  exact ⟨v, c', res, hp', hv, hp1, he⟩

/-- The state in which a function begins. -/
def tm0 (fn : Func) (args : List Sv) : List Sv := args ++ List.replicate (fn.ntmps - args.length) .any

theorem RelT_at : ∀ (ss : List Sv) {c : Cx} {vs : List Value}, RelT ss c vs → vs.length = ss.length ∧ ∀ (i : Nat) (s : Sv) (v : Value), ss[i]? = some s → vs[i]? = some v → Rel s c v
  | [], _, _, r => by simp only [RelT] at r; subst r; simp
  | s :: ss, _, _, r => by
    simp only [RelT] at r
    obtain ⟨u, us, rfl, hs, hl⟩ := r
    obtain ⟨h1, h2⟩ := RelT_at ss hl
    refine ⟨by simp [h1], fun i t v hi hv => ?_⟩
    cases i with
    | zero => simp at hi hv; subst hi; subst hv; exact hs
    | succ i => exact h2 i t v (by simpa using hi) (by simpa using hv)

def kRet (G : Gm) (fn : Func) (post : Sv → Hp → Prop) (e : Exit) (tm : List Sv) (hp : Hp) : Prop :=
  match e with
  | .normal => retV G fn tm hp post
  | .ret => retV G fn tm hp post
  | _ => False

/-- **A contract out of the body.** -/
theorem leaves_marks {G : Gm} {fn : Func} {F : Fence} {n : Nat} {w0 : World} {M : Frm} {tm : List Sv} {hp : Hp} {post : Sv → Hp → Prop} (hr : retV G fn tm hp post) (hm : M.m = G.m) (hxk : ∀ b, ¬ M.Xk b) (tmps : Array Value) :
    ∀ (ml : List Nat) (c : Cx), St w0 M c tm hp { tmps := tmps, defers := [] } [] → ml.Nodup → (∀ b ∈ ml, w0.heap.size ≤ b ∧ c.Z b ∧ c.C b ∧ c.w.heap[b]? = some (.deferred (some []))) →
      LeavesInM F n G.P fn tmps (fun e w' => ∃ v c' res hp', e = .returned v ∧ post res hp' ∧ Ends w0 M c' w' v res hp') (ml.map mkD) .returning c.w
  | [], c, hS, _, _ => by
    obtain ⟨v, c', res, hp', h1, h2, h3⟩ := results_run hr hm hxk hS
    exact ⟨v, h1, v, c', res, hp', rfl, h2, h3⟩
  | b :: ml, c, hS, hnd, hml => by
    obtain ⟨g1, g2, g3, g4⟩ := hml b (by simp)
    obtain ⟨hI, hle⟩ := hS.inv.putZ (.deferred none) g2 g1
    refine ⟨by simp, .inl ⟨b, _, rfl, run_takeDeferred g4, ?_⟩⟩
    refine leaves_marks hr hm hxk tmps ml { c with w := c.w.putObj b (.deferred none) } { inv := hI, full := hS.full, rel := fun t => Rel.le _ (Sv.all_true _) hle (hS.rel t), size := hS.size, ds := Marks.none } (List.nodup_cons.1 hnd).2 fun b' hb' => ?_
    obtain ⟨f1, f2, f3, f4⟩ := hml b' (by simp [hb'])
    exact ⟨f1, f2, f3, (World.putObj_heap_other (show b' ≠ b from fun e => (List.nodup_cons.1 hnd).1 (by rw [← e]; exact hb'))).trans f4⟩

theorem body_calls {G : Gm} {f : Nat} {fn : Func} {code : Code} {args : List Sv} {hpin : List Blk} {post : Sv → Hp → Prop} (hf : G.P.funcs[f]? = some fn) (hb : fn.body = some code)
    (h : spineK (tm0 fn args) fun tm => runC G code tm (hpin.map some) (kRet G fn post)) {M : Frm} {c : Cx} {vs : List Value} (hm : G.fits c.w M) (hxk : ∀ b, ¬ M.Xk b) (hy : YdOk G.P c.w M G.l G.its) (hInv : Inv c.w M c (hpin.map some))
    (hfull : ∀ (k : Nat) (b : Blk), (hpin.map some)[k]? = some (some b) → c.D k) (hargs : RelT args c vs) :
    Calls G.P f vs.toArray c.w fun e w' => ∃ v c' res hp', e = .returned v ∧ post res hp' ∧ Ends c.w M c' w' v res hp' := by
  rw [spineK_eq] at h
  rw [← callsIn_wide (n := 0)]
  obtain ⟨hvl, hvr⟩ := RelT_at _ hargs
  refine callsIn_of_wp_marks hf hb trivial ?_
  have hS : St c.w M c (tm0 fn args) (hpin.map some) { tmps := vs.toArray ++ Array.replicate (fn.ntmps - vs.toArray.size) undef, defers := [] } [] := by
    refine { inv := hInv, full := hfull, rel := fun t => ?_, size := by simp [tm0, hvl], ds := Marks.none }
    · unfold tmGet tm0
      rw [nth_eq]
      by_cases ht : t < args.length
      · rw [List.getElem?_append_left ht, List.getElem?_eq_getElem ht]
        have htv : t < vs.length := by omega
        have : (vs.toArray ++ Array.replicate (fn.ntmps - vs.toArray.size) undef).getD t undef = vs[t] := by
          rw [Array.getD_eq_getD_getElem?, Array.getElem?_append_left (by simpa using htv)]
          simp [htv]
        rw [this]
        exact hvr t _ _ (List.getElem?_eq_getElem ht) (List.getElem?_eq_getElem htv)
      · rw [List.getElem?_append_right (by omega), List.getElem?_replicate]
        split
        · rename_i heq
          by_cases hh : t - args.length < fn.ntmps - args.length
          · rw [if_pos hh] at heq
            injection heq with heq
            subst heq
            trivial
          · rw [if_neg hh] at heq; cases heq
        · trivial
  refine runC_sound code G Fence.wide 0 c.w M [] _ _ _ _ c _ open_wide hm hy (fun l0 h => by cases h) h ?_ hS
  intro e a c1 tm hp hk hs
  have fin : retV G fn tm hp post → LeavesInM Fence.wide 0 G.P fn a.tmps (fun e w' => ∃ v c' res hp', e = .returned v ∧ post res hp' ∧ Ends c.w M c' w' v res hp') a.defers .returning c1.w := fun hr => by
    obtain ⟨ml, e1, e2, e3⟩ := hs.ds
    rw [e1, List.append_nil]
    exact leaves_marks hr hm.1 hxk a.tmps ml c1 { inv := hs.inv, full := hs.full, rel := hs.rel, size := hs.size, ds := Marks.none } e2 e3
  cases e with
  | normal => exact fin hk
  | ret => exact fin hk
  | exit _ => exact hk.elim
  | goto _ => exact hk.elim
  | panic _ => exact hk.elim
  | outgrown => exact hk.elim

theorem mcon_of {G : Gm} {f : Nat} {fn : Func} {code : Code} {args : List Sv} {hpin : List Blk} {post : Sv → Hp → Prop} (hf : G.P.funcs[f]? = some fn) (hb : fn.body = some code) (hn : (fn.name == "runtime.NumGoroutine") = false) (hgm : G.m = hpin.length)
    (h : spineK (tm0 fn args) fun tm => runC G code tm (hpin.map some) (kRet G fn post)) (hits : G.its = [] := by rfl) (hJ : G.J = none := by rfl) : MCon G.P f args hpin post := by
  refine ⟨⟨fn, hf, hn, by rw [hb]; rfl⟩, fun w M c vs hcw hMm hxk hInv hfull hargs => ?_⟩
  subst hcw
  exact body_calls hf hb h ⟨hMm.trans hgm.symm, fun j e => by rw [hJ] at e; cases e⟩ hxk (by rw [hits]; exact YdOk.nil) hInv hfull hargs

/-- **The contract of a function that is ranged over, out of its body.** -/
theorem icon_of {G : Gm} {f : Nat} {fn : Func} {code : Code} {args : Value → List Sv} {its : List (List Sv)} (hf : G.P.funcs[f]? = some fn) (hb : fn.body = some code) (hn : (fn.name == "runtime.NumGoroutine") = false)
    (h : ∀ l, spineK (tm0 fn (args (.func (.yield l) #[] #[]))) fun tm => runC (G.it l its) code tm [some (gB [])] (kRet (G.it l its) fn fun _ hp => hpGet hp 0 = some (gB its) ∨ ∃ pre, hpGet hp 0 = some (gS pre))) : ICon G.P f args its := by
  refine ⟨⟨fn, hf, hn, by rw [hb]; rfl⟩, fun l M c vs hMm hxk hInv hD hy hargs => ?_⟩
  refine (body_calls (G := G.it l its) (hpin := [gB []]) hf hb (h l) ⟨hMm, fun j e => by cases e⟩ hxk hy hInv (fun k b hk => ?_) hargs).mono fun e w' hR => ?_
  · cases k with
    | zero => exact hD
    | succ k => simp at hk
  · obtain ⟨v, c', res, hp', h1, h2, h3⟩ := hR
    refine ⟨v, c', res, hp', h1, h3, ?_⟩
    rcases h2 with h2 | ⟨pre, h2⟩
    · exact .inl (hpGet_eq.1 h2)
    · exact .inr ⟨pre, hpGet_eq.1 h2⟩

theorem pcon_of {G : Gm} {f : Nat} {fn : Func} {code : Code} {args : List Sv} {res : Sv} {nb : List Blk} (hf : G.P.funcs[f]? = some fn) (hb : fn.body = some code) (hn : (fn.name == "runtime.NumGoroutine") = false) (hgm : G.m = 0)
    (h : spineK (tm0 fn args) fun tm => runC G code tm [] (kRet G fn fun r h => r = res ∧ h = nb.map some)) (hits : G.its = [] := by rfl) (hJ : G.J = none := by rfl) : PCon G.P f args res nb := mcon_of hf hb hn hgm h hits hJ

/-- A function that keeps a tale of blocks, and hands no block back. -/
theorem pcon_of_tale {G : Gm} {f : Nat} {fn : Func} {code : Code} {args : List Sv} {res : Sv} (J : World → Nat → List (List Sv) → (Nat → Prop) → (Nat → Prop) → World → Prop) (hf : G.P.funcs[f]? = some fn) (hb : fn.body = some code) (hn : (fn.name == "runtime.NumGoroutine") = false) (hgm : G.m = 0)
    (hjs : ∀ w0 st r A C w w', J w0 st r A C w → WSame C w w' → J w0 st r A C w')
    (h : spineK (tm0 fn args) fun tm => runC (G.tale J) code tm [] (kRet (G.tale J) fn fun r h => r = res ∧ h = [])) (hits : G.its = [] := by rfl) : PCon G.P f args res [] := by
  refine ⟨⟨fn, hf, hn, by rw [hb]; rfl⟩, fun w M c vs hcw hMm hxk hI hfull hargs => ?_⟩
  subst hcw
  have hI' : Inv c.w { M with J := J c.w, M := fun _ => False, X0 := fun b => M.M b ∨ M.X0 b } c ([] : Hp) := { dom := hI.dom, inj := hI.inj, xsep := hI.xsep, xlt := hI.xlt, xY := hI.xY, bnd := hI.bnd, bndG := ⟨fun b hb => hI.bndG.g b (hb.elim .inl fun h => h.elim), fun b hb => ⟨(hI.bndG.y b hb).1, fun h => h⟩, hjs c.w⟩, e0 := hI.e0, mlen := hI.mlen, os := hI.os, tape := hI.tape, output := hI.output, size := hI.size, keep := fun _ _ _ _ => rfl, loc := fun k hD _ => (by obtain ⟨blk, hb, _⟩ := hI.dom k hD; simp at hb), x0 := fun b hb => (hI.x0 b hb).elim .inl fun h => .inr (.inr h), ca := hI.ca, cc := fun b hb => ⟨(hI.cc b hb).1, (hI.cc b hb).2.1, by rcases (hI.cc b hb).2.2 with h | h | h; exact .inl h; exact .inr (.inl h); exact .inr (.inr (.inr h))⟩, gh := fun k blk _ hb => by simp at hb, zc := hI.zc, z0 := hI.z0, xk := hI.xk }
  refine (body_calls (G := G.tale J) (hpin := []) (M := { M with J := J c.w, M := fun _ => False, X0 := fun b => M.M b ∨ M.X0 b }) hf hb h ⟨hMm.trans hgm.symm, fun j e => by cases e; exact ⟨rfl, fun _ h => h⟩⟩ hxk (by show YdOk _ _ _ _ G.its; rw [hits]; exact YdOk.nil) hI' hfull hargs).mono fun e w' hR => ?_
  obtain ⟨v, c', r, hp', h1, ⟨h2, h3⟩, hE⟩ := hR
  subst h3
  have hi := hE.inv
  exact ⟨v, c', r, [], h1, ⟨h2, rfl⟩, { weq := hE.weq, inv := { dom := hi.dom, inj := hi.inj, xsep := hi.xsep, xlt := hi.xlt, xY := hi.xY, bnd := hi.bnd, bndG := hI.bndG, e0 := hi.e0, mlen := hi.mlen, os := hi.os, tape := hi.tape, output := hi.output, size := hi.size, keep := fun j hj _ hy => hi.keep j hj (fun h => h) hy, loc := fun k hD _ => (by obtain ⟨blk, hb, _⟩ := hi.dom k hD; simp at hb), x0 := fun b hb => by rcases hi.x0 b hb with h | h | h | h; exact .inl h; exact h.elim; exact .inr (.inl h); exact .inr (.inr h), ca := hi.ca, cc := fun b hb => ⟨(hi.cc b hb).1, (hi.cc b hb).2.1, by rcases (hi.cc b hb).2.2 with h | h | h | h | h; exact .inl h; exact .inr (.inl h); exact h.elim; exact .inr (.inr (.inl h)); exact .inr (.inr (.inr h))⟩, gh := fun k blk _ hb => by simp at hb, zc := hi.zc, z0 := hi.z0, xk := hi.xk }, full := hE.full, x := hE.x, rel := hE.rel }⟩

theorem RetP.v {hp : Hp} {v v' : Value} (h : v = v') : RetP hp (.val v) (.val v') [] := by
  subst h
  exact RetM.mk [] [] (.val v) [] List.nodup_nil rfl rfl (by simp [Vw]) (by simp [Sv.Fr]) trivial ⟨rfl, rfl⟩
theorem RetP.go {hp : Hp} {r res : Sv} {nb : List Blk} (zs : List (Nat × Nat)) (sel : List Nat) (h1 : sel.Nodup) (h2 : VwBs (hp ++ zs.map fun p => some (nilB p)) (nlB hp.length (hp.length + zs.length)) sel sel (nb.map some))
    (h3 : Vw (hp ++ zs.map fun p => some (nilB p)) (nlB hp.length (hp.length + zs.length)) sel r res) (h4 : res.Fr) (h5 : FrB (nb.map some)) : RetP hp r res nb :=
  RetM.mk zs sel res _ h1 rfl h2 h3 h4 h5 ⟨rfl, rfl⟩

/-! ### Ways -/
theorem Br.pos {b : Bool} {t e : Prop} (hb : b = true) (h : t) : Br b t e := ⟨fun _ => h, fun hn => by rw [hb] at hn; cases hn⟩
theorem Br.neg {b : Bool} {t e : Prop} (hb : b = false) (h : e) : Br b t e := ⟨fun hn => (by rw [hb] at hn; cases hn), fun _ => h⟩
theorem Br.dpos {p : Prop} [Decidable p] {t e : Prop} (hb : p) (h : t) : Br (decide p) t e := .pos (by simpa using hb) h
theorem Br.dneg {p : Prop} [Decidable p] {t e : Prop} (hb : ¬ p) (h : e) : Br (decide p) t e := .neg (by simpa using hb) h
theorem Br.d {p : Prop} [Decidable p] {t e : Prop} (h : p → t) (h' : ¬ p → e) : Br (decide p) t e := ⟨fun hb => h (by simpa using hb), fun hb => h' (by simpa using hb)⟩
theorem Br.n {b : Bool} {t e : Prop} (h : Br b e t) : Br (!b) t e := by
  obtain ⟨h1, h2⟩ := h
  exact ⟨fun hb => h2 (by simpa using hb), fun hb => h1 (by simpa using hb)⟩
end Go.Eng
