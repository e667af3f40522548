/- The engine, part J: what a function hands back; its contract out of its body. -/
import Derived.Test.YtammndlghfknbaaEngM
set_option linter.unusedSimpArgs false
set_option linter.unusedVariables false
namespace Go.Eng
open Go Go.RowKit

/-- All contents outside lie in new memory. -/
def Sv.Fr : Sv → Prop
  | .agg cs => go cs
  | .tup cs => go cs
  | .clo _ cs => go cs
  | .ext fr _ rows => fr = true ∧ goR rows
  | .ref _ => False
  | _ => True
where
  go : List Sv → Prop
    | [] => True
    | s :: ss => s.Fr ∧ go ss
  goR : List (List Sv) → Prop
    | [] => True
    | r :: rs => go r ∧ goR rs

abbrev FrL := Sv.Fr.go
abbrev FrR := Sv.Fr.goR

theorem FrR_map {α : Type} (f : α → List Sv) (h : ∀ x, FrL (f x)) : ∀ xs : List α, FrR (xs.map f)
  | [] => trivial
  | x :: xs => ⟨h x, FrR_map f h xs⟩
theorem FrR_append : ∀ {rs qs : List (List Sv)}, FrR rs → FrR qs → FrR (rs ++ qs)
  | [], _, _, h => h
  | _ :: _, _, h, g => ⟨h.1, FrR_append h.2 g⟩
theorem FrR_take : ∀ (n : Nat) {rs : List (List Sv)}, FrR rs → FrR (rs.take n)
  | 0, _, _ => by simp [Sv.Fr.goR]
  | n + 1, [], _ => by simp [Sv.Fr.goR]
  | n + 1, r :: rs, h => ⟨h.1, FrR_take n h.2⟩
theorem FrR_drop : ∀ (n : Nat) {rs : List (List Sv)}, FrR rs → FrR (rs.drop n)
  | 0, _, h => by simpa using h
  | n + 1, [], _ => by simp [Sv.Fr.goR]
  | n + 1, r :: rs, h => by simpa using FrR_drop n h.2

/-- Contents in new memory are kept where new memory is let in. -/
structure Fs (c c' : Cx) : Prop where
  d : ∀ k, ¬ c.D k
  x : ∀ b, c.X b → c.G b → c'.X b
  b : c'.G = c.G
  w : c'.w = c.w
theorem Fs.shut {c c' : Cx} (h : Fs c c') : Fs c.shut c'.shut := ⟨fun _ h => h, h.x, h.b, h.w⟩

mutual
theorem Rel.fresh : ∀ (s : Sv) {c c' : Cx} {v : Value}, s.Fr → Fs c c' → Rel s c v → Rel s c' v
  | .val _, _, _, _, _, _, r => by simpa [Rel] using r
  | .any, _, _, _, _, _, _ => by simp [Rel]
  | .ptr k _ _, _, _, _, _, h, r => by simp only [Rel] at r; exact (h.d k r.1).elim
  | .own k _, _, _, _, _, h, r => by simp only [Rel] at r; exact (h.d k r.1).elim
  | .sls k _ _, _, _, _, _, h, r => by simp only [Rel] at r; exact (h.d k r.1).elim
  | .agg cs, _, _, _, hf, h, r => by
    simp only [Rel, Sv.Fr] at r hf ⊢
    obtain ⟨vs, e, hl⟩ := r
    exact ⟨vs, e, RelL.fresh cs hf h hl⟩
  | .tup cs, _, _, _, hf, h, r => by
    simp only [Rel, Sv.Fr] at r hf ⊢
    obtain ⟨vs, e, hl⟩ := r
    exact ⟨vs, e, RelT.fresh cs hf h hl⟩
  | .ext fr wd rows, _, _, _, hf, h, r => by
    simp only [Rel, Sv.Fr] at r hf ⊢
    obtain ⟨a, cap, e, hc, hr⟩ := r
    refine ⟨a, cap, e, hc, hr.imp id ?_⟩
    rintro ⟨b, off, ea, hx, hb, hr⟩
    exact ⟨b, off, ea, h.x b hx (hb hf.1), fun e => by rw [h.b]; exact hb e, RelR.fresh rows hf.2 h.shut hr⟩
  | .ref _, _, _, _, hf, _, _ => by simp only [Sv.Fr] at hf
  | .clo f cs, _, _, _, hf, h, r => by
    simp only [Rel, Sv.Fr] at r hf ⊢
    obtain ⟨vs, e, hl⟩ := r
    exact ⟨vs, e, RelT.fresh cs hf h hl⟩
theorem RelL.fresh : ∀ (ss : List Sv) {c c' : Cx} {vs : List Value}, FrL ss → Fs c c' → RelL ss c vs → RelL ss c' vs
  | [], _, _, _, _, _, r => by simpa [RelL] using r
  | s :: ss, _, _, _, hf, h, r => by
    simp only [RelL, Sv.Fr.go] at r hf ⊢
    obtain ⟨u, us, e, h1, hs, hl⟩ := r
    exact ⟨u, us, e, h1, Rel.fresh s hf.1 h hs, RelL.fresh ss hf.2 h hl⟩
theorem RelT.fresh : ∀ (ss : List Sv) {c c' : Cx} {vs : List Value}, FrL ss → Fs c c' → RelT ss c vs → RelT ss c' vs
  | [], _, _, _, _, _, r => by simpa [RelT] using r
  | s :: ss, _, _, _, hf, h, r => by
    simp only [RelT, Sv.Fr.go] at r hf ⊢
    obtain ⟨u, us, e, hs, hl⟩ := r
    exact ⟨u, us, e, Rel.fresh s hf.1 h hs, RelT.fresh ss hf.2 h hl⟩
theorem RelC.fresh : ∀ (ss : List Sv) {c c' : Cx} {b off : Nat}, FrL ss → Fs c c' → RelC ss c b off → RelC ss c' b off
  | [], _, _, _, _, _, _, _ => by simp [RelC]
  | s :: ss, _, _, b, off, hf, h, r => by
    simp only [RelC, Sv.Fr.go] at r hf ⊢
    obtain ⟨⟨u, e, h1, hs⟩, hl⟩ := r
    exact ⟨⟨u, by rw [h.w]; exact e, h1, Rel.fresh s hf.1 h hs⟩, RelC.fresh ss hf.2 h hl⟩
theorem RelR.fresh : ∀ (rs : List (List Sv)) {c c' : Cx} {wd b off : Nat}, FrR rs → Fs c c' → RelR rs c wd b off → RelR rs c' wd b off
  | [], _, _, _, _, _, _, _, _ => by simp [RelR]
  | r :: rs, _, _, wd, b, off, hf, h, q => by
    simp only [RelR, Sv.Fr.goR] at q hf ⊢
    exact ⟨q.1, RelC.fresh r hf.1 h q.2.1, RelR.fresh rs hf.2 h q.2.2⟩
end


theorem FrR_all : ∀ {rs : List (List Sv)}, (∀ r ∈ rs, FrL r) → FrR rs
  | [], _ => by simp [Sv.Fr.goR]
  | r :: rs, h => by
    simp only [Sv.Fr.goR]
    exact ⟨h r (by simp), FrR_all fun q hq => h q (by simp [hq])⟩

/-- Contents for good are kept where only what is for good is let in; blocks stay. -/
def Cx.pick (c : Cx) : Cx := { c with X := fun b => c.X b ∧ c.G b }
theorem pick_shut (c : Cx) : Fs c.shut c.pick.shut := ⟨fun _ h => h, fun b hx hg => ⟨hx, hg⟩, rfl, rfl⟩
mutual
theorem Rel.pick : ∀ (s : Sv) {c : Cx} {v : Value}, s.Fr → Rel s c v → Rel s c.pick v
  | .val x, _, _, _, r => by simpa [Rel] using r
  | .any, _, _, _, _ => by simp [Rel]
  | .agg cs, _, _, hf, r => by
    simp only [Rel] at r ⊢
    obtain ⟨vs, e, hl⟩ := r
    exact ⟨vs, e, RelL.pick cs (by simpa [Sv.Fr] using hf) hl⟩
  | .tup cs, _, _, hf, r => by
    simp only [Rel] at r ⊢
    obtain ⟨vs, e, hl⟩ := r
    exact ⟨vs, e, RelT.pick cs (by simpa [Sv.Fr] using hf) hl⟩
  | .ptr _ _ _, _, _, _, r => by simp only [Rel] at r ⊢; exact r
  | .own _ _, _, _, _, r => by simp only [Rel] at r ⊢; exact r
  | .sls _ _ _, _, _, _, r => by simp only [Rel] at r ⊢; exact r
  | .ext fr wd rows, c, _, hf, r => by
    simp only [Sv.Fr] at hf
    simp only [Rel] at r ⊢
    obtain ⟨a, cap, e, hc, hr⟩ := r
    refine ⟨a, cap, e, hc, hr.imp id ?_⟩
    rintro ⟨b, off, ea, hx, hg, hr⟩
    exact ⟨b, off, ea, ⟨hx, hg hf.1⟩, hg, RelR.fresh _ hf.2 (pick_shut c) hr⟩
  | .ref _, _, _, hf, _ => by simp [Sv.Fr] at hf
  | .clo f cs, _, _, hf, r => by
    simp only [Rel] at r ⊢
    obtain ⟨vs, e, hl⟩ := r
    exact ⟨vs, e, RelT.pick cs (by simpa [Sv.Fr] using hf) hl⟩
theorem RelL.pick : ∀ (ss : List Sv) {c : Cx} {vs : List Value}, FrL ss → RelL ss c vs → RelL ss c.pick vs
  | [], _, _, _, r => by simpa [RelL] using r
  | s :: ss, _, _, hf, r => by
    simp only [Sv.Fr.go] at hf
    simp only [RelL] at r ⊢
    obtain ⟨u, us, e, h1, hs, hl⟩ := r
    exact ⟨u, us, e, h1, Rel.pick s hf.1 hs, RelL.pick ss hf.2 hl⟩
theorem RelT.pick : ∀ (ss : List Sv) {c : Cx} {vs : List Value}, FrL ss → RelT ss c vs → RelT ss c.pick vs
  | [], _, _, _, r => by simpa [RelT] using r
  | s :: ss, _, _, hf, r => by
    simp only [Sv.Fr.go] at hf
    simp only [RelT] at r ⊢
    obtain ⟨u, us, e, hs, hl⟩ := r
    exact ⟨u, us, e, Rel.pick s hf.1 hs, RelT.pick ss hf.2 hl⟩
end
theorem RelC.pick : ∀ (ss : List Sv) {c : Cx} {b off : Nat}, FrL ss → RelC ss c b off → RelC ss c.pick b off
  | [], _, _, _, _, _ => by simp [RelC]
  | s :: ss, c, b, off, hf, r => by
    simp only [Sv.Fr.go] at hf
    simp only [RelC] at r ⊢
    obtain ⟨⟨u, e, h1, hs⟩, hl⟩ := r
    exact ⟨⟨u, e, h1, Rel.pick s hf.1 hs⟩, RelC.pick ss hf.2 hl⟩
theorem RelR.pick : ∀ (rs : List (List Sv)) {c : Cx} {wd b off : Nat}, FrR rs → RelR rs c wd b off → RelR rs c.pick wd b off
  | [], _, _, _, _, _, _ => by simp [RelR]
  | r :: rs, _, _, _, _, hf, q => by
    simp only [Sv.Fr.goR] at hf
    simp only [RelR] at q ⊢
    exact ⟨q.1, RelC.pick r hf.1 q.2.1, RelR.pick rs hf.2 q.2.2⟩

/-! ### What is handed back -/
def FrB : Hp → Prop
  | [] => True
  | none :: bs => FrB bs
  | some b :: bs => FrR b.rows ∧ FrB bs
theorem FrB_get : ∀ {bs : Hp}, FrB bs → ∀ (i : Nat) (b : Blk), bs[i]? = some (some b) → FrR b.rows
  | [], _, i, b, h => by simp at h
  | none :: bs, hf, i, b, h => by
    cases i with
    | zero => simp at h
    | succ i => exact FrB_get (bs := bs) hf i b (by simpa using h)
  | some q :: bs, hf, i, b, h => by
    cases i with
    | zero => simp at h; subst h; exact hf.1
    | succ i => exact FrB_get hf.2 i b (by simpa using h)

/-- zs: nil slices that become blocks of their own; sel: the blocks that go with the result, those that were handed in first. -/
inductive RetM (m : Nat) (hp : Hp) (r : Sv) (post : Sv → Hp → Prop) : Prop
  | mk (zs : List (Nat × Nat)) (sel : List Nat) (res : Sv) (bs : Hp) : sel.Nodup → preB m 0 sel = true → VwBs (hp ++ zs.map fun p => some (nilB p)) (nlB hp.length (hp.length + zs.length)) sel sel bs →
      Vw (hp ++ zs.map fun p => some (nilB p)) (nlB hp.length (hp.length + zs.length)) sel r res → res.Fr → FrB bs → post res bs → RetM m hp r post
abbrev RetP (hp : Hp) (r res : Sv) (nb : List Blk) : Prop := RetM 0 hp r fun r' h => r' = res ∧ h = nb.map some

theorem RetM.ends {m : Nat} {hp : Hp} {r : Sv} {post : Sv → Hp → Prop} (h : RetM m hp r post) {w0 : World} {M : Frm} (hm : M.m = m) {c : Cx} {v : Value} (hI : Inv w0 M c hp) (hD : ∀ (k : Nat) (b : Blk), hp[k]? = some (some b) → c.D k) (hr : Rel r c v) :
    ∃ c' res hp', post res hp' ∧ Ends w0 M c' c.w v res hp' := by
  obtain ⟨zs, sel, res, bs, hnd, hpre, hbs, hvw, hfr, hfb, hpost⟩ := h
  obtain ⟨c1, ew, ex, eb, hle, hI, hD, hnil⟩ := hI.nils zs hD
  have hr := Rel.le r (Sv.all_true _) hle hr
  have hk := hI.vk hnil hbs
  have hv := view_inv hk hD hnd (hm ▸ hpre) hbs
  have hres := Vw.rel hk res hvw hr
  rw [← ew]
  generalize hc1 : c1.view sel bs = c2 at *
  have hw2 : c2.w = c1.w := by rw [← hc1]; rfl
  let c' : Cx := { c2 with X := fun b => c2.X b ∧ c2.G b }
  have hfs : Fs c2.shut c'.shut := ⟨fun _ h => h, fun b hx hg => ⟨hx, hg⟩, rfl, rfl⟩
  have key : ∀ (s : Sv) (v : Value), s.Fr → Rel s c2 v → Rel s c' v := fun s v hf r => Rel.pick s hf r
  refine ⟨c', res, bs, hpost, hw2, ?_, fun k b hb => ?_, fun b hb => ?_, key _ _ hfr hres⟩
  · exact { hv with
      dom := fun k hk => by
        obtain ⟨blk, e, r⟩ := hv.dom k hk
        refine ⟨blk, e, ?_⟩
        unfold BlkRel at *
        refine ⟨r.1, r.2.imp id ?_⟩
        rintro ⟨hn, arr, hh, hr, hl, hg⟩
        refine ⟨hn, arr, hh, ?_, hl, hg⟩
        have hf := FrB_get hfb k blk e
        unfold Blk.cx at *
        cases hc : blk.clean with
        | true =>
          rw [hc] at hr
          exact RelR.fresh _ hf hfs hr
        | false =>
          rw [hc] at hr
          exact RelR.pick _ hf hr
      xsep := fun k b hk hn hx => hv.xsep k b hk hn hx.1
      xlt := fun b hx => hv.xlt b hx.1
      xY := fun b hx => hv.xY b hx.1 }
  · show c2.D k
    rw [← hc1]
    exact ⟨b, hb⟩
  · have := hb.2
    rwa [hv.bnd] at this

/-- The results, read. -/
def resV (G : Gm) (tm : List Sv) (hp : Hp) : List ResultVar → (List Sv → Prop) → Prop
  | [], K => K []
  | .tmp t :: rs, K => resV G tm hp rs fun ss => K (tmGet tm t :: ss)
  | .cell a t :: rs, K => loadV G t hp (tmGet tm a) fun s => resV G tm hp rs fun ss => K (s :: ss)

def one? : List Sv → Sv
  | [s] => s
  | ss => .tup ss

/-- A result, laid bare. -/
def resK : Sv → (Sv → Prop) → Prop
  | .tup cs, K => deepK cs fun cs => K (.tup cs)
  | s, K => svK s K
theorem resK_eq (s : Sv) (K : Sv → Prop) : resK s K = K s := by
  cases s <;> simp [resK, svK_eq, deepK_eq]
def retV (G : Gm) (fn : Func) (tm : List Sv) (hp : Hp) (post : Sv → Hp → Prop) : Prop :=
  resV G tm hp fn.results.toList fun ss => resK (one? ss) fun r => RetM G.m hp r post

/-- One result, read. -/
def rdV (tmps : Array Value) : ResultVar → Sem Value
  | .tmp t => pure (tmps.getD t undef)
  | .cell x t => do loadVar t (← asAddr (tmps.getD x undef))

theorem results_eq (fn : Func) (tmps : Array Value) : results fn tmps = (do
    let vs ← fn.results.mapM (rdV tmps)
    pure (if h : vs.size = 1 then vs[0] else .tuple vs)) := by
  unfold results
  congr 1

theorem resV_sound {G : Gm} {tm : List Sv} {hp : Hp} : ∀ (rs : List ResultVar) (K : List Sv → Prop), resV G tm hp rs K → ∃ ss, K ss ∧ ss.length = rs.length ∧ ∀ (w0 : World) (M : Frm) (c : Cx) (a : Act) (ds : List Deferred), St w0 M c tm hp a ds →
    ∃ vs, RelT ss c vs ∧ (rs.mapM (rdV a.tmps)).run G.P c.w = Result.ok vs c.w
  | [], K, h => ⟨[], h, rfl, fun w0 M c a ds hS => ⟨[], by simp [RelT], rfl⟩⟩
  | .tmp t :: rs, K, h => by
    obtain ⟨ss, hK, hl, hs⟩ := resV_sound rs _ h
    refine ⟨_, hK, by simp [hl], fun w0 M c a ds hS => ?_⟩
    obtain ⟨vs, h1, h2⟩ := hs w0 M c a ds hS
    refine ⟨a.tmps.getD t undef :: vs, by simp only [RelT]; exact ⟨_, _, rfl, hS.rel t, h1⟩, ?_⟩
    simp only [List.mapM_cons, rdV, Sem.run_bind, Sem.run_pure, Result.andThen_ok, h2]
  | .cell x t :: rs, K, h => by
    let o : Oper := { dst := none, op := .load t (.tmp x), type := 0, pos := "", after := #[], guard := none }
    obtain ⟨s, h, hp1⟩ := loadV_sound (G := G) (tm := tm) (hp := hp) (o := o) (x := .tmp x) rfl h
    obtain ⟨ss, hK, hl, hs⟩ := resV_sound rs _ h
    refine ⟨_, hK, by simp [hl], fun w0 M c a ds hS => ?_⟩
    obtain ⟨vs, h1, h2⟩ := hs w0 M c a ds hS
    obtain ⟨v, hrun, hr⟩ := hp1 w0 M c a hS.inv (fun y _ => hS.opnd y)
    have hld : (do loadVar t (← asAddr (a.tmps.getD x undef)) : Sem Value).run G.P c.w = .ok v c.w := by
      have : (Instr.loadAt t (a.tmps.getD x undef)).run G.P c.w = .ok v c.w := by
        simp only [execOp, o, Act.eval, Sem.run_bind, Sem.run_pure] at hrun
        cases hx : (Instr.loadAt t (a.tmps.getD x undef)).run G.P c.w with
        | ok u w => rw [hx] at hrun; simp at hrun; obtain ⟨rfl, rfl⟩ := hrun; rfl
        | halt q w => rw [hx] at hrun; cases hrun
      unfold Instr.loadAt Instr.sureAddr at this
      cases hp : a.tmps.getD x undef with
      | pointer ad =>
        rw [hp] at this
        cases ad with
        | some ad => simpa [asAddr] using this
        | none => simp at this
      | _ => rw [hp] at this; simp at this
    refine ⟨v :: vs, by simp only [RelT]; exact ⟨_, _, rfl, hr, h1⟩, ?_⟩
    have hld' : (rdV a.tmps (.cell x t)).run G.P c.w = .ok v c.w := hld
    simp only [List.mapM_cons, Sem.run_bind, Sem.run_pure, hld', Result.andThen_ok, h2]

theorem results_run {G : Gm} {fn : Func} {tm : List Sv} {hp : Hp} {post : Sv → Hp → Prop} (h : retV G fn tm hp post) {w0 : World} {M : Frm} (hm : M.m = G.m) {c : Cx} {a : Act} {ds : List Deferred} (hS : St w0 M c tm hp a ds) :
    ∃ v c' res hp', (results fn a.tmps).run G.P c.w = .ok v c.w ∧ post res hp' ∧ Ends w0 M c' c.w v res hp' := by
  obtain ⟨ss, hK, hl, hs⟩ := resV_sound _ _ h
  obtain ⟨vs, hr, hrun⟩ := hs w0 _ c a ds hS
  have hvl : vs.length = ss.length := by
    have : ∀ (ss : List Sv) (vs : List Value), RelT ss c vs → vs.length = ss.length := by
      intro ss
      induction ss with
      | nil => intro vs h; simp only [RelT] at h; simp [h]
      | cons s ss ih => intro vs h; simp only [RelT] at h; obtain ⟨u, us, rfl, _, h⟩ := h; simp [ih us h]
    exact this ss vs hr
  have hres : ∃ v, (results fn a.tmps).run G.P c.w = .ok v c.w ∧ Rel (one? ss) c v := by
    have e1 : (fn.results.mapM (rdV a.tmps)).run G.P c.w = Result.ok vs.toArray c.w := by
      rw [Array.mapM_eq_mapM_toList]
      simp only [Sem.run_map, hrun, Result.andThen_ok]
    by_cases h1 : ∃ s, ss = [s]
    · obtain ⟨s, rfl⟩ := h1
      simp only [RelT] at hr
      obtain ⟨u, us, rfl, hs1, rfl⟩ := hr
      refine ⟨u, ?_, hs1⟩
      rw [results_eq]
      simp only [Sem.run_bind, e1, Result.andThen_ok]
      simp
    · have hone : one? ss = .tup ss := by
        unfold one?
        split
        · exact absurd ⟨_, rfl⟩ h1
        · rfl
      refine ⟨.tuple vs.toArray, ?_, by rw [hone]; simp only [Rel]; exact ⟨vs, rfl, hr⟩⟩
      have hne : vs.toArray.size ≠ 1 := fun e => by
        have : ss.length = 1 := by rw [← hvl]; simpa using e
        exact h1 (List.length_eq_one_iff.1 this)
      rw [results_eq]
      simp only [Sem.run_bind, e1, Result.andThen_ok]
      rw [dif_neg hne]
      rfl
  obtain ⟨v, hv, hrel⟩ := hres
  rw [resK_eq] at hK
  obtain ⟨c', res, hp', hp1, he⟩ := hK.ends hm hS.inv hS.full hrel
  exact ⟨v, c', res, hp', hv, hp1, he⟩

/-- The state in which a function begins. -/
def tm0 (fn : Func) (args : List Sv) : List Sv := args ++ List.replicate (fn.ntmps - args.length) .any

theorem RelT_at : ∀ (ss : List Sv) {c : Cx} {vs : List Value}, RelT ss c vs → vs.length = ss.length ∧ ∀ (i : Nat) (s : Sv) (v : Value), ss[i]? = some s → vs[i]? = some v → Rel s c v
  | [], _, _, r => by simp only [RelT] at r; subst r; simp
  | s :: ss, _, _, r => by
    simp only [RelT] at r
    obtain ⟨u, us, rfl, hs, hl⟩ := r
    obtain ⟨h1, h2⟩ := RelT_at ss hl
    refine ⟨by simp [h1], fun i t v hi hv => ?_⟩
    cases i with
    | zero => simp at hi hv; subst hi; subst hv; exact hs
    | succ i => exact h2 i t v (by simpa using hi) (by simpa using hv)

def kRet (G : Gm) (fn : Func) (post : Sv → Hp → Prop) (e : Exit) (tm : List Sv) (hp : Hp) : Prop :=
  match e with
  | .normal => retV G fn tm hp post
  | .ret => retV G fn tm hp post
  | _ => False

/-- **A contract out of the body.** -/
theorem mcon_of {G : Gm} {f : Nat} {fn : Func} {code : Code} {args : List Sv} {hpin : List Blk} {post : Sv → Hp → Prop} (hf : G.P.funcs[f]? = some fn) (hb : fn.body = some code) (hn : (fn.name == "runtime.NumGoroutine") = false) (hgm : G.m = hpin.length)
    (h : spineK (tm0 fn args) fun tm => runC G code tm (hpin.map some) (kRet G fn post)) : MCon G.P f args hpin post := by
  rw [spineK_eq] at h
  refine ⟨⟨fn, hf, hn, by rw [hb]; rfl⟩, fun w M c vs hcw hMm hInv hfull hargs => ?_⟩
  subst hcw
  rw [← callsIn_wide (n := 0)]
  obtain ⟨hvl, hvr⟩ := RelT_at _ hargs
  refine callsIn_of_wp hf hb trivial ?_
  have hm : M.m = G.m := hMm.trans hgm.symm
  have hS : St c.w M c (tm0 fn args) (hpin.map some) { tmps := vs.toArray ++ Array.replicate (fn.ntmps - vs.toArray.size) undef, defers := [] } [] := by
    refine { inv := hInv, full := hfull, rel := fun t => ?_, size := by simp [tm0, hvl], ds := rfl }
    · unfold tmGet tm0
      rw [nth_eq]
      by_cases ht : t < args.length
      · rw [List.getElem?_append_left ht, List.getElem?_eq_getElem ht]
        have htv : t < vs.length := by omega
        have : (vs.toArray ++ Array.replicate (fn.ntmps - vs.toArray.size) undef).getD t undef = vs[t] := by
          rw [Array.getD_eq_getD_getElem?, Array.getElem?_append_left (by simpa using htv)]
          simp [htv]
        rw [this]
        exact hvr t _ _ (List.getElem?_eq_getElem ht) (List.getElem?_eq_getElem htv)
      · rw [List.getElem?_append_right (by omega), List.getElem?_replicate]
        split
        · rename_i heq
          by_cases hh : t - args.length < fn.ntmps - args.length
          · rw [if_pos hh] at heq
            injection heq with heq
            subst heq
            trivial
          · rw [if_neg hh] at heq; cases heq
        · trivial
  refine runC_sound (G := G) (w0 := c.w) (M := M) (ds := []) open_wide hm code _ _ _ _ c _ h ?_ hS
  intro e a c1 tm hp hk hs
  have fin : retV G fn tm hp post → a.defers = [] ∧ ∃ v, (results fn a.tmps).run G.P c1.w = .ok v c1.w ∧ (∃ v' c' res hp', Ending.returned v = .returned v' ∧ post res hp' ∧ Ends c.w M c' c1.w v' res hp') := fun hr => by
    obtain ⟨v, c', res, hp', h1, h2, h3⟩ := results_run hr hm hs
    exact ⟨hs.ds, v, h1, v, c', res, hp', rfl, h2, h3⟩
  cases e with
  | normal => exact fin hk
  | ret => exact fin hk
  | exit _ => exact hk.elim
  | goto _ => exact hk.elim
  | panic _ => exact hk.elim
  | outgrown => exact hk.elim

theorem pcon_of {G : Gm} {f : Nat} {fn : Func} {code : Code} {args : List Sv} {res : Sv} {nb : List Blk} (hf : G.P.funcs[f]? = some fn) (hb : fn.body = some code) (hn : (fn.name == "runtime.NumGoroutine") = false) (hgm : G.m = 0)
    (h : spineK (tm0 fn args) fun tm => runC G code tm [] (kRet G fn fun r h => r = res ∧ h = nb.map some)) : PCon G.P f args res nb := mcon_of hf hb hn hgm h

theorem RetP.v {hp : Hp} {v v' : Value} (h : v = v') : RetP hp (.val v) (.val v') [] := by
  subst h
  exact RetM.mk [] [] (.val v) [] List.nodup_nil rfl rfl (by simp [Vw]) (by simp [Sv.Fr]) trivial ⟨rfl, rfl⟩
theorem RetP.go {hp : Hp} {r res : Sv} {nb : List Blk} (zs : List (Nat × Nat)) (sel : List Nat) (h1 : sel.Nodup) (h2 : VwBs (hp ++ zs.map fun p => some (nilB p)) (nlB hp.length (hp.length + zs.length)) sel sel (nb.map some))
    (h3 : Vw (hp ++ zs.map fun p => some (nilB p)) (nlB hp.length (hp.length + zs.length)) sel r res) (h4 : res.Fr) (h5 : FrB (nb.map some)) : RetP hp r res nb :=
  RetM.mk zs sel res _ h1 rfl h2 h3 h4 h5 ⟨rfl, rfl⟩

/-! ### Ways -/
theorem Br.pos {b : Bool} {t e : Prop} (hb : b = true) (h : t) : Br b t e := ⟨fun _ => h, fun hn => by rw [hb] at hn; cases hn⟩
theorem Br.neg {b : Bool} {t e : Prop} (hb : b = false) (h : e) : Br b t e := ⟨fun hn => (by rw [hb] at hn; cases hn), fun _ => h⟩
theorem Br.dpos {p : Prop} [Decidable p] {t e : Prop} (hb : p) (h : t) : Br (decide p) t e := .pos (by simpa using hb) h
theorem Br.dneg {p : Prop} [Decidable p] {t e : Prop} (hb : ¬ p) (h : e) : Br (decide p) t e := .neg (by simpa using hb) h
theorem Br.d {p : Prop} [Decidable p] {t e : Prop} (h : p → t) (h' : ¬ p → e) : Br (decide p) t e := ⟨fun hb => h (by simpa using hb), fun hb => h' (by simpa using hb)⟩
theorem Br.n {b : Bool} {t e : Prop} (h : Br b e t) : Br (!b) t e := by
  obtain ⟨h1, h2⟩ := h
  exact ⟨fun hb => h2 (by simpa using hb), fun hb => h1 (by simpa using hb)⟩
end Go.Eng
