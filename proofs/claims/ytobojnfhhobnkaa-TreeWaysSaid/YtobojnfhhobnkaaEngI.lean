/- The engine, part I: regions in the order of the text, code, loops; a function's contract out of its body. -/
import Derived.Test.YtobojnfhhobnkaaEngY
import Derived.Test.YtobojnfhhobnkaaEngMk
set_option linter.unusedSimpArgs false
set_option maxRecDepth 20000
set_option linter.unusedVariables false
namespace Go.Eng
open Go Go.RowKit

/-! ### One operation -/
def opV (G : Gm) (tm : List Sv) (hp : Hp) (o : Oper) (K : Sv → List Blk → List Nat → Prop) : Prop :=
  match o.op with
  | .move x => K (evO tm x) [] []
  | .assign x => K (evO tm x) [] []
  | .pick b x y => pickV tm b x y fun s => K s [] []
  | .load t x => loadV G t hp (evO tm x) fun s => K s [] []
  | .fieldAddr t x f => fieldV G t f (evO tm x) fun s => K s [] []
  | .indexAddr t x i => indexV G t hp (evO tm x) (evO tm i) fun s => K s [] []
  | .binOp op t x y _ => match evO tm x, evO tm y with
    | .agg cs, .agg ds => eqV G op t cs ds fun s => K s [] []
    | sx, sy => binV G op t sx sy fun s => K s [] []
  | .unOp op _ x => unV op (evO tm x) fun s => K s [] []
  | .convert s d x => convV G s d (evO tm x) fun s => K s [] []
  | .slice t x lo hi mx => match hi, mx with
    | none, some _ => False
    | some h, some m => match lo, evO tm x with
      | none, .own k _ => cut3V G tm hp t k h m fun s b kl => K s [b] kl
      | _, _ => cutV G tm hp t x lo (some h) (some m) fun s => K s [] []
    | hi, none => cutV G tm hp t x lo hi none fun s => K s [] []
  | .extract x i => extractV (evO tm x) i fun s => K s [] []
  | .makeFunc fn first cap => match fn, first.toList with
    | .func f, [] => K (.clo f (cap.toList.map (evO tm))) [] []
    | _, _ => False
  | .nilCheck x => nilCheckV (evO tm x) fun s => K s [] []
  | .build t ps => buildV G tm t ps fun s => K s [] []
  | .alloc e => allocV G hp e fun s b => blkR b fun b => K s [b] []
  | .box e x => boxV hp e (evO tm x) fun s b => blkR b fun b => K s [b] []
  | .buildSlice t n ps => litV G tm hp t n ps fun s b => blkR b fun b => K s [b] []
  | .makeSlice t l m => makeV G hp t (evO tm l) (evO tm m) fun s b => K s [b] []
  | .call c => match c.callee with
    | .builtin .len => match c.args.toList, c.argTypes.toList with
      | [x], [t] => lenV G t (evO tm x) fun s => K s [] []
      | _, _ => False
    | .builtin .min => match c.args.toList with
      | [x, y] => mmV false (evO tm x) (evO tm y) fun s => K s [] []
      | _ => False
    | .builtin .max => match c.args.toList with
      | [x, y] => mmV true (evO tm x) (evO tm y) fun s => K s [] []
      | _ => False
    | .builtin .append => match c.args.toList, c.argTypes.toList with
      | [x, y], [t, t'] => Need (t = t') <| appV G hp t (evO tm x) (evO tm y) fun s b kl => K s [b] kl
      | _, _ => False
    | .value g => match evO tm g with
      | .clo f caps => deepK (c.args.toList.map (evO tm) ++ caps) fun args => CallV G.P hp f args K
      | _ => False
    | _ => False
  | _ => False

theorem arr1 {α : Type} {a : Array α} {x : α} (h : a.toList = [x]) : a = #[x] := by apply Array.ext'; simpa using h
theorem arr0 {α : Type} {a : Array α} (h : a.toList = []) : a = #[] := by apply Array.ext'; simpa using h
theorem arr2 {α : Type} {a : Array α} {x y : α} (h : a.toList = [x, y]) : a = #[x, y] := by apply Array.ext'; simpa using h

section
variable {G : Gm} {tm : List Sv} {hp : Hp} {o : Oper}

theorem of_pure {K : Sv → List Blk → List Nat → Prop} (hd : ∀ c, o.op ≠ .defer c) (h : ∃ s, K s [] [] ∧ PureS G.P o tm hp s) : ∃ s nb kl, K s nb kl ∧ EStep G.P o tm hp s nb kl :=
  let ⟨s, h1, h2⟩ := h; ⟨s, [], [], h1, h2.estep hd⟩

theorem opV_sound {K : Sv → List Blk → List Nat → Prop} (h : opV G tm hp o K) : ∃ s nb kl, K s nb kl ∧ EStep G.P o tm hp s nb kl := by
  unfold opV at h
  split at h
  · rename_i x ho; exact of_pure (by rw [ho]; simp) (moveV_sound (.inl ho) h)
  · rename_i x ho; exact of_pure (by rw [ho]; simp) (moveV_sound (.inr ho) h)
  · rename_i b x y ho; exact of_pure (by rw [ho]; simp) (pickV_sound ho h)
  · rename_i t x ho; exact of_pure (by rw [ho]; simp) (loadV_sound ho h)
  · rename_i t x f ho; exact of_pure (by rw [ho]; simp) (fieldV_sound ho h)
  · rename_i t x i ho; exact of_pure (by rw [ho]; simp) (indexV_sound ho h)
  · rename_i op t x y yt ho
    split at h
    · rename_i cs ds hx hy
      exact of_pure (by rw [ho]; simp) (eqV_sound ho hx hy h)
    · exact of_pure (by rw [ho]; simp) (binV_sound ho h)
  · rename_i op t x ho; exact of_pure (by rw [ho]; simp) (unV_sound ho h)
  · rename_i s d x ho; exact of_pure (by rw [ho]; simp) (convV_sound ho h)
  · rename_i t x lo hi mx ho
    split at h
    · exact h.elim
    · split at h
      · rename_i k n hx
        obtain ⟨s, b, kl, h1, h2⟩ := cut3V_sound ho hx h
        exact ⟨s, [b], kl, h1, h2⟩
      · exact of_pure (by rw [ho]; simp) (cutV_sound (fun h => by cases h) ho h)
    · exact of_pure (by rw [ho]; simp) (cutV_sound (fun _ => rfl) ho h)
  · rename_i x i ho; exact of_pure (by rw [ho]; simp) (extractV_sound ho h)
  · rename_i fn first cap ho
    split at h
    · rename_i f hf
      rw [arr0 hf] at ho
      exact of_pure (by rw [ho]; simp) (funcV_sound ho h)
    · exact h.elim
  · rename_i x ho; exact of_pure (by rw [ho]; simp) (nilCheckV_sound ho h)
  · rename_i t ps ho; exact of_pure (by rw [ho]; simp) (buildV_sound ho h)
  · rename_i e ho
    obtain ⟨s, b, h1, h2⟩ := allocV_sound ho h
    rw [blkR_eq] at h1
    exact ⟨s, [b], [], h1, h2⟩
  · rename_i e x ho
    obtain ⟨s, b, h1, h2⟩ := boxV_sound ho h
    rw [blkR_eq] at h1
    exact ⟨s, [b], [], h1, h2⟩
  · rename_i t n ps ho
    obtain ⟨s, b, h1, h2⟩ := litV_sound ho h
    rw [blkR_eq] at h1
    exact ⟨s, [b], [], h1, h2⟩
  · rename_i t l m ho
    obtain ⟨s, b, h1, h2⟩ := makeV_sound ho h
    exact ⟨s, [b], [], h1, h2⟩
  · rename_i c ho
    obtain ⟨callee, args, tys⟩ := c
    simp only at h
    split at h
    · split at h
      · rename_i x t hx ht
        rw [arr1 hx, arr1 ht] at ho
        exact of_pure (by rw [ho]; simp) (lenV_sound ho h)
      · exact h.elim
    · split at h
      · rename_i x y hx
        rw [arr2 hx] at ho
        exact of_pure (by rw [ho]; simp) (mmV_sound (mx := false) ho h)
      · exact h.elim
    · split at h
      · rename_i x y hx
        rw [arr2 hx] at ho
        exact of_pure (by rw [ho]; simp) (mmV_sound (mx := true) ho h)
      · exact h.elim
    · split at h
      · rename_i x y t t' hx ht
        obtain ⟨rfl, h⟩ := h
        rw [arr2 hx, arr2 ht] at ho
        obtain ⟨s, b, kl, h1, h2⟩ := appV_sound ho h
        exact ⟨s, [b], kl, h1, h2⟩
      · exact h.elim
    · split at h
      · rename_i g f caps hg
        rw [deepK_eq] at h
        exact callV_sound ho hg h
      · exact h.elim
    · exact h.elim
  · exact h.elim

def addK (kl : List Nat) (hp : Hp) (nb : List Blk) (K : Hp → Prop) : Prop :=
  match kl, nb with
  | [], [] => K hp
  | [], b :: bs => blksH (b :: bs) fun nb => spineK (hp ++ nb.map some) K
  | _, _ => blksH nb fun nb => hpK (kill kl hp ++ nb.map some) K
theorem addK_eq (kl : List Nat) (hp : Hp) (nb : List Blk) (K : Hp → Prop) : addK kl hp nb K = K (kill kl hp ++ nb.map some) := by
  unfold addK
  split
  · simp [kill]
  · rw [blksH_eq, spineK_eq]; rfl
  · rw [blksH_eq, hpK_eq]
def forgetK (kl : List Nat) (tm : List Sv) (K : List Sv → Prop) : Prop :=
  match kl with
  | [] => K tm
  | k :: ks => deepK (forgetT (k :: ks) tm) K
theorem forgetK_eq (kl : List Nat) (tm : List Sv) (K : List Sv → Prop) : forgetK kl tm K = K (forgetT kl tm) := by
  cases kl with
  | nil => rfl
  | cons k ks => rw [forgetK, deepK_eq]

/-- One operation that is no store. -/
def opE (G : Gm) (tm : List Sv) (hp : Hp) (o : Oper) (K : Sv → List Blk → List Nat → Prop) : Prop :=
  match o.op with
  | .binOp op t x y yt => match isNil (evO tm y) with
    | true => Get (G.tab t) fun i => Need (nilFit i.kind (evO tm y) = true) <| nilV G op t (evO tm x) fun s => K s [] []
    | false => opV G tm hp o K
  | _ => opV G tm hp o K

def EStepK (P : Program) (o : Oper) (tm : List Sv) (hp : Hp) (K : Sv → List Blk → List Nat → Prop) : Prop :=
  ∀ (F : Fence) (n : Nat) (w0 : World) (M : Frm) (c : Cx) (a : Act) (next : Act → World → Prop) (Q : Exit → Act → World → Prop), Open F → Inv w0 M c hp → (∀ x ∈ o.op.operands, Rel (evO tm x) c (a.eval x)) →
    (∀ s nb kl v c', K s nb kl → EPost w0 M c c' hp nb kl → Rel s c' v → next (a.put o.dst v) c'.w) → o.wpIn F n P a c.w next Q

theorem EStepK.of {P : Program} {K : Sv → List Blk → List Nat → Prop} (h : ∃ s nb kl, K s nb kl ∧ EStep P o tm hp s nb kl) : EStepK P o tm hp K := by
  obtain ⟨s, nb, kl, hK, hs⟩ := h
  intro F n w0 M c a next Q hF hI ha hn
  exact hs F n w0 M c a next Q hF hI ha fun v c' hp' hr => hn s nb kl v c' hK hp' hr

theorem opE_sound {K : Sv → List Blk → List Nat → Prop} (h : opE G tm hp o K) : EStepK G.P o tm hp K := by
  unfold opE at h
  split at h
  · rename_i op t x y yt ho
    split at h
    · rename_i hy
      obtain ⟨i, hi, hfit, h⟩ := h
      have hp := nilV_sound (K := fun s => K s [] []) (tm := tm) (hp := hp) ho hy h (fun j hj => by
        rw [hi] at hj
        cases hj
        revert hfit
        unfold nilFit
        split <;> split <;> intro hfit <;> first | trivial | assumption | (cases hfit; done) | simp_all)
      intro F n w0 M c a next Q hF hI ha hn
      obtain ⟨s, v, hK, hrun, hr⟩ := hp w0 M c a hI ha
      refine Oper.wpIn_value hF (by rw [ho]; simp) hrun (hn s [] [] v c hK ?_ hr)
      exact EPost.same hI
    · exact .of (opV_sound h)
  · exact .of (opV_sound h)

/-! ### A call that may turn blocks -/
def aliveB (kl : List Nat) (hp' : Hp) : Nat → List Nat → Bool
  | _, [] => true
  | i, k :: ks => (match memB k kl with | true => true | false => match hpGet hp' i with | some _ => true | none => false) && aliveB kl hp' (i + 1) ks
def okBs (p : Nat → Bool) : Nat → Hp → Bool
  | _, [] => true
  | i, none :: bs => okBs p (i + 1) bs
  | i, some b :: bs => (match p i with | false => true | true => match b.clean with | true => true | false => b.rows.all (Sv.all.allL p)) && okBs p (i + 1) bs
/-- sel: the blocks that are handed over to be turned; kl: those of them that are gone behind the call. -/
inductive CallS (P : Program) (tm : List Sv) (hp : Hp) (dst : Option Nat) (f : Nat) (args : List Sv) (K : List Sv → Hp → Prop) : Prop
  | mk (sel kl : List Nat) (args' : List Sv) (hpin : List Blk) (post : Sv → Hp → Prop) : sel.Nodup → kl.all (fun k => memB k sel) = true → selIn hp sel sel hpin → ClL hp sel args args' → MCon P f args' hpin post →
      (∀ res hp', post res hp' → aliveB kl hp' 0 sel = true ∧ res.all (okI sel kl) = true ∧ okBs (okI sel kl) 0 hp' = true ∧
        forgetK kl tm fun tm => svK (res.mv (rho sel hp.length)) fun res => setTK tm dst res fun tm => hpK (mrgH hp sel kl hp') fun hp => K tm hp) → CallS P tm hp dst f args K
theorem CallS.pure {P : Program} {tm : List Sv} {hp : Hp} {dst : Option Nat} {f : Nat} {args : List Sv} {K : List Sv → Hp → Prop} (args' : List Sv) (res : Sv) (nb : List Blk) (h1 : ClL hp [] args args') (h2 : PCon P f args' res nb)
    (h : setTK tm dst (res.mv (rho [] hp.length)) fun tm => addK [] hp (nb.map (Blk.mv (rho [] hp.length))) fun hp => K tm hp) : CallS P tm hp dst f args K := by
  refine .mk [] [] args' [] _ List.nodup_nil rfl rfl h1 h2 ?_
  rintro r hp' ⟨rfl, rfl⟩
  refine ⟨rfl, by rw [okI_nil]; exact Sv.all_true _, ?_, ?_⟩
  · have : ∀ (nb : List Blk) (i : Nat), okBs (okI [] []) i (nb.map some) = true := by
      intro nb
      induction nb with
      | nil => intro i; rfl
      | cons b nb ih =>
        intro i
        have hi := ih (i + 1)
        rw [okI_nil] at hi ⊢
        simp only [List.map_cons, okBs, hi, Bool.and_true]
        cases b.clean with
        | true => rfl
        | false => exact allR_true _
    exact this nb 0
  · rw [setTK_eq, addK_eq] at h
    rw [forgetK_eq, svK_eq, setTK_eq, hpK_eq]
    have hH : mrgH hp [] [] (nb.map some) = kill [] hp ++ (nb.map (Blk.mv (rho [] hp.length))).map some := by
      unfold mrgH
      rw [mrgO_nil, ← mvO_some]
      rfl
    rw [hH]
    exact h
theorem aliveB_get {kl : List Nat} {hp' : Hp} : ∀ {ks : List Nat} {i : Nat}, aliveB kl hp' i ks = true → ∀ j k, ks[j]? = some k → memB k kl = false → ∃ b, hp'[i + j]? = some (some b)
  | [], _, _, j, k, h, _ => by simp at h
  | q :: ks, i, h, j, k, hj, hk => by
    simp only [aliveB, Bool.and_eq_true] at h
    cases j with
    | zero =>
      simp at hj
      subst hj
      rw [hk] at h
      cases hg : hpGet hp' i with
      | none => rw [hg] at h; cases h.1
      | some b => exact ⟨b, hpGet_eq.1 hg⟩
    | succ j =>
      rw [show i + (j + 1) = i + 1 + j by omega]
      exact aliveB_get h.2 j k (by simpa using hj) hk
theorem okBs_get {p : Nat → Bool} : ∀ {hp' : Hp} {i : Nat}, okBs p i hp' = true → ∀ (j : Nat) (b : Blk), hp'[j]? = some (some b) → p (i + j) = true → b.clean = false → b.rows.all (Sv.all.allL p) = true
  | [], _, _, j, b, h, _, _ => by simp at h
  | none :: bs, i, h, j, b, hj, hp, hc => by
    cases j with
    | zero => simp at hj
    | succ j => exact okBs_get (i := i + 1) (by simpa [okBs] using h) j b (by simpa using hj) (by rw [show i + 1 + j = i + (j + 1) by omega]; exact hp) hc
  | some q :: bs, i, h, j, b, hj, hp, hc => by
    simp only [okBs, Bool.and_eq_true] at h
    cases j with
    | zero =>
      simp at hj
      subst hj
      rw [Nat.add_zero] at hp
      rw [hp, hc] at h
      exact h.1
    | succ j => exact okBs_get (i := i + 1) h.2 j b (by simpa using hj) (by rw [show i + 1 + j = i + (j + 1) by omega]; exact hp) hc

def opS (G : Gm) (tm : List Sv) (hp : Hp) (o : Oper) (K : List Sv → Hp → Prop) : Prop :=
  match o.op with
  | .call cl => match cl.callee with
    | .value g => match evO tm g with
      | .clo f caps => deepK (cl.args.toList.map (evO tm) ++ caps) fun args => CallS G.P tm hp o.dst f args K
      | .val (.func (.yield l) first cap) => match first.toList, cap.toList with
        | [], [] => Need (l = G.l) <| deepK (cl.args.toList.map (evO tm)) fun args => YieldV G.its hp args fun s hp => setTK tm o.dst s fun tm => spineK hp fun hp => K tm hp
        | _, _ => False
      | _ => False
    | .builtin .append => match cl.args.toList, cl.argTypes.toList with
      | [x, y], [t, t'] => match evO tm x with
        | .own k n => Get (hpGet hp k) fun b => AppC (n = b.rows.length) (opE G tm hp o fun s nb kl => forgetK kl tm fun tm => setTK tm o.dst s fun tm => addK kl hp nb fun hp => K tm hp)
            (Need (t = t') <| appPV G hp t (.own k n) (evO tm y) fun s hp => setTK tm o.dst s fun tm => K tm hp)
        | _ => opE G tm hp o fun s nb kl => forgetK kl tm fun tm => setTK tm o.dst s fun tm => addK kl hp nb fun hp => K tm hp
      | _, _ => False
    | .builtin .clear => match cl.args.toList, cl.argTypes.toList with
      | [x], [t] => clearV G hp t (evO tm x) fun s hp => setTK tm o.dst s fun tm => K tm hp
      | _, _ => False
    | .builtin .copy => match cl.args.toList, cl.argTypes.toList with
      | [x, y], [t, _] => copyV G hp t (evO tm x) (evO tm y) fun s hp => setTK tm o.dst s fun tm => K tm hp
      | _, _ => False
    | _ => opE G tm hp o fun s nb kl => forgetK kl tm fun tm => setTK tm o.dst s fun tm => addK kl hp nb fun hp => K tm hp
  | .store t x y => match o.dst with
    | none => storeV G hp t (evO tm x) (evO tm y) fun hp' => K tm hp'
    | some _ => False
  | .assign x => setTK tm o.dst (evO tm x) fun tm => K tm hp
  | _ => opE G tm hp o fun s nb kl => forgetK kl tm fun tm => setTK tm o.dst s fun tm => addK kl hp nb fun hp => K tm hp

/-- What an operation does to a state, whatever follows. -/
def SStepK (G : Gm) (o : Oper) (tm : List Sv) (hp : Hp) (K : List Sv → Hp → Prop) : Prop :=
  ∀ (F : Fence) (n : Nat) (w0 : World) (M : Frm) (c : Cx) (a : Act) (ds : List Deferred) (next : Act → World → Prop) (Q : Exit → Act → World → Prop), Open F → YdOk G.P w0 M G.l G.its → St w0 M c tm hp a ds →
    (∀ tm' hp' a' c', K tm' hp' → St w0 M c' tm' hp' a' ds → next a' c'.w) → o.wpIn F n G.P a c.w next Q

theorem SStepK.of {K : List Sv → Hp → Prop} (h : ∃ tm' hp', K tm' hp' ∧ SStep G.P o tm hp tm' hp') : SStepK G o tm hp K := by
  obtain ⟨tm', hp', hK, hs⟩ := h
  intro F n w0 M c a ds next Q hF _ hS hn
  exact hs F n w0 M c a ds next Q hF hS fun a' c' hS' => hn tm' hp' a' c' hK hS'

theorem EStepK.sstep {K : List Sv → Hp → Prop} (h : EStepK G.P o tm hp fun s nb kl => K (setT (forgetT kl tm) o.dst s) (kill kl hp ++ nb.map some)) : SStepK G o tm hp K := by
  intro F n w0 M c a ds next Q hF _ hS hn
  refine h F n w0 M c a next Q hF hS.inv (fun x _ => hS.opnd x) fun s nb kl v c' hK hp' hr => hn _ _ _ c' hK ?_
  refine (hS.le hp'.le hp'.inv (hp'.cq hS.inv) fun k b hk => (hp'.dom k).2 ?_).put o.dst hr
  by_cases hlt : k < (kill kl hp).length
  · rw [List.getElem?_append_left hlt] at hk
    obtain ⟨h1, b0, h0⟩ := kill_some hk
    exact .inl ⟨hS.full k b0 h0, h1⟩
  · rw [List.getElem?_append_right (by omega)] at hk
    have hl := (List.getElem?_eq_some_iff.1 hk).1
    rw [kill_length] at hl hlt
    simp at hl
    right
    omega

theorem callS_sound {g : Operand} {xs : Array Operand} {tys : Array TypeId} {f : Nat} {caps : List Sv} {K : List Sv → Hp → Prop} (ho : o.op = .call { callee := .value g, args := xs, argTypes := tys }) (hg : evO tm g = .clo f caps)
    (h : CallS G.P tm hp o.dst f (xs.toList.map (evO tm) ++ caps) K) : SStepK G o tm hp K := by
  obtain ⟨sel, kl, args', hpin, post, hnd, hkl, hin, hcl, hcon, hK⟩ := h
  intro F n w0 M c a ds next Q hF _ hS hn
  refine call_walk ho hg hcon.1 hF (fun x _ => hS.opnd x) fun vs hvs => ?_
  obtain ⟨hs, hI1, hlen⟩ := hand_inv hS.inv hS.full hnd hin
  have hc := hcon.2 c.w (handM c sel) (c.hand sel) vs rfl hlen.symm (fun _ h => h) hI1 (fun k b h => by
    have := (List.getElem?_eq_some_iff.1 h).1
    show k < sel.length
    simp at this
    omega) ((ClL.rel args' hcl hS.inv hs).2.1 vs hvs)
  refine hc.mono fun e w' hR => ?_
  obtain ⟨v, c', r, hp', rfl, hpost, hE⟩ := hR
  refine ⟨v, rfl, ?_⟩
  obtain ⟨k1, k2, k3, k4⟩ := hK r hp' hpost
  rw [forgetK_eq, svK_eq, setTK_eq, hpK_eq] at k4
  have hkl' : ∀ k, memB k kl = true → memB k sel = true := fun k hk => by
    rw [List.all_eq_true] at hkl
    exact hkl k (memB_iff.1 hk)
  obtain ⟨h1, h2, h3, h4⟩ := call_post (kl := kl) hS.inv hnd hkl' hs (fun i k hk hkk => by
    have := aliveB_get k1 i k (by rw [← nth_eq]; exact hk) hkk
    rwa [Nat.zero_add] at this) hE k2 (fun i b hb hi hc => okBs_get k3 i b hb (by rw [Nat.zero_add]; exact hi) hc)
  have := hn _ _ _ _ k4 ((hS.le h3 h1 ⟨rfl, rfl, rfl, fun b hb => hE.inv.keep b (hS.inv.cc b hb).1 (by rintro ⟨j, hj, hjn, e⟩; exact (hS.inv.cc b hb).2.1 j (hs j hj) hjn e) (fun h => h)⟩ (h2 hS.full)).put o.dst h4)
  rwa [show (mrgC c c' hp.length sel kl).w = w' from hE.weq] at this

theorem yieldV_sound {g : Operand} {xs : Array Operand} {tys : Array TypeId} {K : List Sv → Hp → Prop} (ho : o.op = .call { callee := .value g, args := xs, argTypes := tys }) (hg : evO tm g = .val (.func (.yield G.l) #[] #[]))
    (h : YieldV G.its hp (xs.toList.map (evO tm)) fun s hp => setTK tm o.dst s fun tm => spineK hp fun hp => K tm hp) : SStepK G o tm hp K := by
  obtain ⟨pre, pre', hb, hone, hfr, hcl, hpre, hits, hT, hF'⟩ := h
  rw [setTK_eq, spineK_eq] at hT hF'
  intro F n w0 M c a ds next Q hF hy hS hn
  have hb' := hpGet_eq.1 hb
  have hD := hS.full 0 _ hb'
  have rg := hS.opnd g
  rw [hg] at rg
  simp only [Rel] at rg
  obtain ⟨hm, hnil0⟩ := hy.1 (fun e => by rw [e] at hits; obtain ⟨t, ht⟩ := hits; rw [← hpre] at ht; simp at ht)
  have hnil : (c.E 0).nil = true := by rw [hS.inv.e0 0 hm hD]; exact hnil0
  obtain ⟨C1, hC1, hJ⟩ := hS.inv.gh 0 _ hD hb' hnil rfl
  have hargs : RelT (xs.toList.map (evO tm)) c (xs.toList.map a.eval) := RelT_map _ fun x _ => hS.opnd x
  obtain ⟨fn, tmps, assign, body, hrun, hround⟩ := hy.2 F (n - 1) pre _ c hp _ C1 hF (by rw [hpre]; exact hits) hS.inv hC1 hJ (hargs.shutPick hfr hcl)
  have hxs : (xs.toList.map a.eval).toArray = xs.map a.eval := by apply Array.ext'; simp
  rw [hxs] at hrun
  refine ⟨fun f _ => hF.fn f, ?_⟩
  have hex : (execOp a.eval o).run G.P c.w = .ok (.round G.l fn tmps assign body) c.w := by
    simp [execOp, ho, resolve, rg, Deferred.ofValue, invoke, hrun]
  rw [Oper.semAt_eq _ _ _ (by rw [ho]; simp), hex, Oper.uponIn_round]
  refine ⟨fun h => (by rw [hF.depth] at h; cases h), hround.mono fun e w' hR => ?_⟩
  obtain ⟨A', C', hpost, hend⟩ := hR
  have h1 : ∀ k blk, c.D k → hp[k]? = some (some blk) → (c.E k).nil = true → blk.grow = false → k = 0 := fun k blk hk hbk hnk hgk => by
    by_cases h0 : k = 0
    · exact h0
    · obtain ⟨blk', e', r⟩ := hS.inv.dom k hk
      rw [hbk] at e'
      cases e'
      rcases r.2.1 hnk with ⟨g1, _⟩ | g
      · rw [hgk] at g1; cases g1
      · exact absurd g (Blk.ng_not (oneG_at hone k blk hbk (by omega)))
  have go : ∀ (st : Nat) (b : Bool), M.J st pre' A' C' w' → K (setT tm o.dst (.val (.bool b))) (hp.set 0 (some ⟨st, 0, true, false, pre'⟩)) → next (a.put o.dst (.bool b)) w' := by
    intro st b hJ' hK
    obtain ⟨c', e1, hI', hle, hDD, hZZ, hZ⟩ := hS.inv.yield hD hb' hnil h1 hC1 hpost hJ'
    rw [← e1]
    refine hn _ _ _ c' hK ?_
    have hS' : St w0 M c' tm (hp.set 0 (some ⟨st, 0, true, false, pre'⟩)) a ds := by
      refine { inv := hI', full := fun k bk hk => ?_, rel := fun t => Rel.le _ (Sv.all_true _) hle (hS.rel t), size := hS.size, ds := ?_ }
      · rw [hDD]
        by_cases h0 : k = 0
        · subst h0; exact hD
        · rw [List.getElem?_set_ne (fun e => h0 e.symm)] at hk
          exact hS.full k bk hk
      · obtain ⟨ml, g1, g2, g3⟩ := hS.ds
        refine ⟨ml, g1, g2, fun b hb => ?_⟩
        obtain ⟨f1, f2, f3, f4⟩ := g3 b hb
        obtain ⟨z1, z2⟩ := hZ b f2
        exact ⟨f1, by rw [hZZ]; exact f2, z1, by rw [e1, z2]; exact f4⟩
    exact hS'.put o.dst (by simp [Rel])
  rcases hend with ⟨rfl, hJ'⟩ | ⟨rfl, hJ'⟩
  · rw [hpre] at hJ'; exact go 0 true hJ' hT
  · rw [hpre] at hJ'; exact go 1 false hJ' hF'
theorem opS_sound {K : List Sv → Hp → Prop} (h : opS G tm hp o K) : SStepK G o tm hp K := by
  have hgen : (opE G tm hp o fun s nb kl => forgetK kl tm fun tm => setTK tm o.dst s fun tm => addK kl hp nb fun hp => K tm hp) → SStepK G o tm hp K := by
    intro h
    refine EStepK.sstep ?_
    have : ∀ s nb kl, (forgetK kl tm fun tm => setTK tm o.dst s fun tm => addK kl hp nb fun hp => K tm hp) = K (setT (forgetT kl tm) o.dst s) (kill kl hp ++ nb.map some) := fun s nb kl => by rw [forgetK_eq, setTK_eq, addK_eq]
    simp only [this] at h
    exact opE_sound h
  unfold opS at h
  split at h
  · rename_i cl ho
    obtain ⟨callee, xs, tys⟩ := cl
    simp only at h
    split at h
    · split at h
      · rename_i hg
        rw [deepK_eq] at h
        exact callS_sound ho hg h
      · rename_i g l first cap hg
        split at h
        · rename_i e1 e2
          have e1 := arr0 e1
          have e2 := arr0 e2
          subst e1 e2
          obtain ⟨rfl, h⟩ := h
          rw [deepK_eq] at h
          exact yieldV_sound ho hg h
        · exact h.elim
      · exact h.elim
    · split at h
      · rename_i x y t t' hxs hty
        have e1 := arr2 hxs
        have e2 := arr2 hty
        subst e1 e2
        split at h
        · rename_i k n hx
          obtain ⟨b, hb, h⟩ := h
          rcases h with ⟨_, h⟩ | h
          · exact hgen h
          · obtain ⟨rfl, h⟩ := h
            rw [← hx] at h
            obtain ⟨s, hp', h1, h2⟩ := appPV_sound ho h
            rw [setTK_eq] at h1
            exact .of ⟨_, _, h1, h2⟩
        · exact hgen h
      · exact h.elim
    · split at h
      · rename_i x t hxs hty
        have e1 := arr1 hxs
        have e2 := arr1 hty
        subst e1 e2
        obtain ⟨s, hp', h1, h2⟩ := clearV_sound ho h
        rw [setTK_eq] at h1
        exact .of ⟨_, _, h1, h2⟩
      · exact h.elim
    · split at h
      · rename_i x y t t' hxs hty
        have e1 := arr2 hxs
        have e2 := arr2 hty
        subst e1 e2
        obtain ⟨s, hp', h1, h2⟩ := copyV_sound ho h
        rw [setTK_eq] at h1
        exact .of ⟨_, _, h1, h2⟩
      · exact h.elim
    · exact hgen h
  · rename_i t x y ho
    split at h
    · rename_i hd
      obtain ⟨hp', h1, h2⟩ := storeV_sound ho hd h
      exact .of ⟨_, _, h1, h2⟩
    · exact h.elim
  · rename_i x ho
    rw [setTK_eq] at h
    obtain ⟨s, h1, h2⟩ := moveV_sound (G := G) (hp := hp) (K := fun s => K (setT tm o.dst s) hp) (.inr ho) h
    refine .of ⟨_, _, h1, ?_⟩
    have := (h2.estep (by rw [ho]; simp)).sstep
    simpa [kill, forgetT] using this
  · exact hgen h
end

/-! ### Regions in the order of the text -/
def runR (G : Gm) (all : List Oper) : List Oper → List Sv → Hp → (List Sv → Hp → Prop) → Prop
  | [], tm, hp, K => K tm hp
  | o :: rest, tm, hp, K =>
    match o.guard with
    | none => opS G tm hp o fun tm hp => runR G all rest tm hp K
    | some (j, want) => match nth all j with
      | some oj => match oj.dst with
        | some d => match tmGet tm d with
          | .val (.bool b) => Br b
              (match want with
                | true => setK tm d (.val (.bool true)) fun tm => opS G tm hp o fun tm hp => runR G all rest tm hp K
                | false => setK tm d (.val (.bool true)) fun tm => setTK tm o.dst .any fun tm => runR G all rest tm hp K)
              (match want with
                | false => setK tm d (.val (.bool false)) fun tm => opS G tm hp o fun tm hp => runR G all rest tm hp K
                | true => setK tm d (.val (.bool false)) fun tm => setTK tm o.dst .any fun tm => runR G all rest tm hp K)
          | _ => False
        | none => False
      | none => False

/-- A temporary that is known is known. -/
theorem St.know {w0 : World} {M : Frm} {c : Cx} {tm : List Sv} {hp : Hp} {a : Act} {ds : List Deferred} (h : St w0 M c tm hp a ds) {d : Nat} {v : Value} (hv : a.tmps[d]? = some v) : St w0 M c (tm.set d (.val v)) hp a ds := by
  refine { inv := h.inv, full := h.full, rel := fun t => ?_, size := by simp [h.size], ds := h.ds }
  rw [tmGet_set]
  by_cases ht : d = t ∧ t < tm.length
  · rw [if_pos ht]
    obtain ⟨rfl, _⟩ := ht
    simp [Rel, Array.getD_eq_getD_getElem?, hv]
  · rw [if_neg ht]
    exact h.rel t

theorem runR_sound {G : Gm} {ops : Array Oper} {F : Fence} (hF : Open F) {n : Nat} {Q : Exit → Act → World → Prop} {w0 : World} {M : Frm} {ds : List Deferred} {K : List Sv → Hp → Prop} (hyd : YdOk G.P w0 M G.l G.its)
    (hQ : ∀ a c tm hp, K tm hp → St w0 M c tm hp a ds → Q .normal a c.w) :
    ∀ (l : List Oper) (i : Nat) (tm : List Sv) (hp : Hp) (c : Cx) (a : Act), ops.toList.drop i = l → runR G ops.toList l tm hp K → St w0 M c tm hp a ds → wpOpsIn F n G.P ops Q (List.range' i l.length) a c.w
  | [], _, tm, hp, c, a, _, h, hS => hQ a c tm hp h hS
  | o :: rest, i, tm, hp, c, a, hdrop, h, hS => by
    have hi : ops[i]? = some o := by
      have : (ops.toList.drop i)[0]? = some o := by rw [hdrop]; rfl
      rw [List.getElem?_drop] at this
      simpa using this
    have hrest : ops.toList.drop (i + 1) = rest := by
      rw [← List.drop_drop, hdrop]
      rfl
    simp only [List.length_cons, List.range'_succ, wpOpsIn, hi]
    unfold runR at h
    split at h
    · rename_i hg
      have hw : Region.wanted o (yielded ops a.tmps) = true := by simp [Region.wanted, hg]
      rw [if_pos hw]
      exact opS_sound h F n w0 M c a ds _ Q hF hyd hS fun tm' hp' a' c' hK hS' => runR_sound hF hyd hQ rest (i + 1) tm' hp' c' a' hrest hK hS'
    · rename_i j want hg
      split at h
      case h_2 => exact h.elim
      rename_i oj hoj
      split at h
      case h_2 => exact h.elim
      rename_i d hd
      split at h
      case h_2 => exact h.elim
      rename_i b hb
      rw [nth_eq, Array.getElem?_toList] at hoj
      -- the temporary that the guard looks at
      have hv : a.tmps[d]? = some (.bool b) := by
        have hr := hS.rel d
        rw [hb] at hr
        simp only [Rel] at hr
        have hlt : d < tm.length := by
          unfold tmGet at hb
          rw [nth_eq] at hb
          cases hx : tm[d]? with
          | none => rw [hx] at hb; cases hb
          | some s => exact (List.getElem?_eq_some_iff.1 hx).1
        rw [Array.getD_eq_getD_getElem?, Array.getElem?_eq_getElem (by rw [hS.size]; exact hlt)] at hr
        rw [Array.getElem?_eq_getElem (by rw [hS.size]; exact hlt)]
        simpa using hr
      have hy : yielded ops a.tmps j = some b := by simp [yielded, hoj, hd, hv]
      have hwd : Region.wanted o (yielded ops a.tmps) = (b == want) := by
        simp [Region.wanted, hg, hy]
      have hS1 := hS.know hv
      obtain ⟨h1, h2⟩ := h
      have run : opS G (tm.set d (.val (.bool b))) hp o (fun tm hp => runR G ops.toList rest tm hp K) → (b == want) = true → (if Region.wanted o (yielded ops a.tmps) = true then Oper.wpIn F n G.P o a c.w (wpOpsIn F n G.P ops Q (List.range' (i + 1) rest.length)) Q else ((∀ f, o.about G.P c.w a.eval = some f → F.fn f) ∧ wpOpsIn F n G.P ops Q (List.range' (i + 1) rest.length) (a.put o.dst undef) c.w)) := fun hh hbw => by
        have hw : Region.wanted o (yielded ops a.tmps) = true := by rw [hwd]; exact hbw
        rw [if_pos hw]
        exact opS_sound hh F n w0 M c a ds _ Q hF hyd hS1 fun tm' hp' a' c' hK hS' => runR_sound hF hyd hQ rest (i + 1) tm' hp' c' a' hrest hK hS'
      have skip : runR G ops.toList rest (setT (tm.set d (.val (.bool b))) o.dst .any) hp K → (b == want) = false → (if Region.wanted o (yielded ops a.tmps) = true then Oper.wpIn F n G.P o a c.w (wpOpsIn F n G.P ops Q (List.range' (i + 1) rest.length)) Q else ((∀ f, o.about G.P c.w a.eval = some f → F.fn f) ∧ wpOpsIn F n G.P ops Q (List.range' (i + 1) rest.length) (a.put o.dst undef) c.w)) := fun hh hbw => by
        have hw : ¬ Region.wanted o (yielded ops a.tmps) = true := by rw [hwd, hbw]; simp
        rw [if_neg hw]
        exact ⟨fun f _ => hF.fn f, runR_sound hF hyd hQ rest (i + 1) _ hp c _ hrest hh (hS1.put o.dst (s := .any) (by simp [Rel]))⟩
      cases b with
      | true =>
        have h1 := h1 rfl
        cases want with
        | true => simp only [setK_eq] at h1; exact run h1 rfl
        | false => simp only [setK_eq, setTK_eq] at h1; exact skip h1 rfl
      | false =>
        have h2 := h2 rfl
        cases want with
        | true => simp only [setK_eq, setTK_eq] at h2; exact skip h2 rfl
        | false => simp only [setK_eq] at h2; exact run h2 rfl

end Go.Eng
