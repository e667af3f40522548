/- The engine, sixth part. -/
import Derived.Test.YtiklbnianbejdaaEng5
set_option linter.unusedSimpArgs false
set_option maxRecDepth 20000
set_option linter.unusedVariables false
/- The engine, part O: code and loops. -/
namespace Go.Eng
open Go Go.RowKit

/-! ### Code -/
inductive LoopV (J : Option (World → Nat → List (List Sv) → (Nat → Prop) → (Nat → Prop) → World → Prop)) (mm : Nat) (body : List Sv → Hp → (Exit → List Sv → Hp → Prop) → Prop) (tm : List Sv) (hp : Hp) (K : Exit → List Sv → Hp → Prop) : Prop
  | mk (I : Nat → List Sv → Hp → Prop) (n : Nat) : Back mm tm hp (I n) →
      (∀ n tm hp, I n tm hp → body tm hp fun e tm' hp' => match e with | .normal => ∃ m, m < n ∧ Back mm tm' hp' (I m) | e => K e tm' hp') → LoopV J mm body tm hp K
  | ns (I : Nat → List Sv → Hp → Prop) (n : Nat) : BackJ J mm tm hp (I n) →
      (∀ n tm hp, I n tm hp → body tm hp fun e tm' hp' => match e with | .normal => ∃ m, m < n ∧ BackJ J mm tm' hp' (I m) | e => K e tm' hp') → LoopV J mm body tm hp K

/-- What comes behind the first half of a sequence; behind a block; behind a scope. (As words of their own: the continuation stands in each of them once.) -/
def kSeq (r : List Sv → Hp → (Exit → List Sv → Hp → Prop) → Prop) (K : Exit → List Sv → Hp → Prop) (e : Exit) (tm : List Sv) (hp : Hp) : Prop :=
  match e with
  | .normal => r tm hp K
  | e => K e tm hp
def kBlock (id : Nat) (K : Exit → List Sv → Hp → Prop) (e : Exit) (tm : List Sv) (hp : Hp) : Prop :=
  match e with
  | .exit j => match Nat.beq j id with | true => K .normal tm hp | false => K (.exit j) tm hp
  | e => K e tm hp
def kScope (K : Exit → List Sv → Hp → Prop) (e : Exit) (tm : List Sv) (hp : Hp) : Prop :=
  match e with
  | .goto _ => False
  | e => K e tm hp
def kNormal (K : Exit → List Sv → Hp → Prop) (tm : List Sv) (hp : Hp) : Prop := K .normal tm hp
def kLoop (r : List Sv → Hp → (Exit → List Sv → Hp → Prop) → Prop) (tm : List Sv) (hp : Hp) (K : Exit → List Sv → Hp → Prop) : Prop := spineK tm fun tm => r tm hp K

def runC : Gm → Code → List Sv → Hp → (Exit → List Sv → Hp → Prop) → Prop
  | _, .skip, tm, hp, K => K .normal tm hp
  | _, .label _, tm, hp, K => K .normal tm hp
  | G, .region id ops dr, tm, hp, K => RegV G id dr ops.toList tm hp (kNormal K)
  | G, .seq x y, tm, hp, K => runC G x tm hp (kSeq (runC G y) K)
  | G, .cond c x y, tm, hp, K => match evO tm c with
    | .val (.bool b) => Br b (runC G x tm hp K) (runC G y tm hp K)
    | _ => False
  | G, .block id body, tm, hp, K => runC G body tm hp (kBlock id K)
  | G, .loop body, tm, hp, K => LoopV G.J G.m (kLoop (runC G body)) tm hp K
  | G, .rangeFunc f ps assign body, tm, hp, K => RangeV G (fun mr => runC (G.at mr) assign) (fun mr => runC (G.at mr) body) f ps.toList tm hp K
  | _, .exit id, tm, hp, K => K (.exit id) tm hp
  | _, .goto l, tm, hp, K => K (.goto l) tm hp
  | _, .ret, tm, hp, K => K .ret tm hp
  | G, .scope body, tm, hp, K => runC G body tm hp (kScope K)
  | _, .refuse _, _, _, _ => False

section scope
variable {P : Program} {F : Fence} {n : Nat} {Q : Exit → Act → World → Prop} {a : Act} {w : World}
theorem stepR_scope {b : Frame} {k : List Item} {cs : List Frame} {c : Code} : step P (lone (b.atR a (.code (.scope c) :: k)) cs w) = .next (lone (b.atR a (.code c :: .inScope c :: k)) cs w) :=
  step_lone_go (by simp [stepG, stepG.exec, Frame.atR])
theorem stepR_inScope {b : Frame} {k : List Item} {cs : List Frame} {c : Code} : step P (lone (b.atR a (.inScope c :: k)) cs w) = .next (lone (b.atR a k) cs w) :=
  step_lone_go (by simp [stepG, stepG.exec, Frame.atR])
theorem wpIn_scope {c : Code} (h : c.wpIn F n P (Exit.noGoto Q) a w) : (Code.scope c).wpIn F n P Q a w := by
  intro b k cs hro hb hr
  have h0 : (lone (b.atR a (.code (.scope c) :: k)) cs w).fenced P F := fenced_calm hb hr rfl
  obtain ⟨e, a₁, w₁, hq, harr⟩ := h b (.inScope c :: k) cs hro hb hr
  cases e with
  | normal => exact ⟨.normal, a₁, w₁, hq, .head h0 stepR_scope (StepsIn.trans harr (.one (fenced_calm hb hr rfl) stepR_inScope))⟩
  | exit id =>
    have hx : exitTo id (.inScope c :: k) = exitTo id k := by simp [exitTo]
    exact ⟨_, a₁, w₁, hq, fun k' hk => .head h0 stepR_scope (harr.1 k' (by rw [hx]; exact hk)),
      fun hr' hk => let ⟨k₁, h1, h2⟩ := harr.2 hr' (by rw [hx]; exact hk); ⟨k₁, h1, .head h0 stepR_scope h2⟩⟩
  | goto l => exact hq.elim
  | ret => exact ⟨_, a₁, w₁, hq, .of_steps (.one h0 stepR_scope) harr⟩
  | panic ch => exact ⟨_, a₁, w₁, hq, .of_steps (.one h0 stepR_scope) harr⟩
  | outgrown => exact ⟨_, a₁, w₁, hq, .of_steps (.one h0 stepR_scope) harr⟩
end scope

theorem least (p : Nat → Prop) : (∃ n, p n) → ∃ n, p n ∧ ∀ m, p m → n ≤ m := by
  rintro ⟨n, hn⟩
  induction n using Nat.strongRecOn with
  | _ n ih =>
    by_cases h : ∃ m, m < n ∧ p m
    · obtain ⟨m, hm, hp⟩ := h
      exact ih m hm hp
    · exact ⟨n, hn, fun m hm => by
        rcases Nat.lt_or_ge m n with h1 | h1
        · exact absurd ⟨m, h1, hm⟩ h
        · exact h1⟩
open Classical in
noncomputable def mu (p : Nat → Prop) : Nat := if h : ∃ n, p n then Classical.choose (least p h) else 0
theorem mu_spec {p : Nat → Prop} (h : ∃ n, p n) : p (mu p) := by
  unfold mu
  rw [dif_pos h]
  exact (Classical.choose_spec (least p h)).1
theorem mu_le {p : Nat → Prop} {m : Nat} (h : p m) : mu p ≤ m := by
  unfold mu
  rw [dif_pos ⟨m, h⟩]
  exact (Classical.choose_spec (least p ⟨m, h⟩)).2 m h

theorem runC_sound : ∀ (code : Code) (G : Gm), RunOk G code (runC G code)
  | .skip, _ => fun F n w0 M ds tm hp K Q c a hF hm hy hro h hQ hS => wpIn_skip (hQ _ a c tm hp h hS)
  | .label _, _ => fun F n w0 M ds tm hp K Q c a hF hm hy hro h hQ hS => wpIn_label (hQ _ a c tm hp h hS)
  | .region id ops dr, G => fun F n w0 M ds tm hp K Q c a hF hm hy hro h hQ hS => by
    simp only [runC] at h
    exact regv_sound hF hm.1 hy (fun a c tm hp hk hs => hQ .normal a c tm hp hk hs) h hS
  | .seq x y, G => fun F n w0 M ds tm hp K Q c a hF hm hy hro h hQ hS => by
    refine wpIn_seq (runC_sound x G F n w0 M ds tm hp _ _ c a hF hm hy hro h ?_ hS)
    intro e a c tm hp hk hs
    cases e with
    | normal => exact runC_sound y G F n w0 M ds tm hp K Q c a hF hm hy hro hk hQ hs
    | _ => exact hQ _ a c tm hp hk hs
  | .cond q x y, G => fun F n w0 M ds tm hp K Q c a hF hm hy hro h hQ hS => by
    simp only [runC] at h
    split at h
    · rename_i b hb
      have hr := hS.opnd q
      rw [hb] at hr
      simp only [Rel] at hr
      obtain ⟨h1, h2⟩ := h
      exact wpIn_cond_split hr (fun e => runC_sound x G F n w0 M ds tm hp K Q c a hF hm hy hro (h1 e) hQ hS) (fun e => runC_sound y G F n w0 M ds tm hp K Q c a hF hm hy hro (h2 e) hQ hS)
    · exact h.elim
  | .block id body, G => fun F n w0 M ds tm hp K Q c a hF hm hy hro h hQ hS => by
    refine wpIn_block (runC_sound body G F n w0 M ds tm hp _ _ c a hF hm hy hro h ?_ hS)
    intro e a c tm hp hk hs
    cases e with
    | exit j =>
      simp only [kBlock] at hk
      simp only [Exit.inBlock]
      cases hj : Nat.beq j id with
      | true =>
        rw [hj] at hk
        rw [if_pos (Nat.eq_of_beq_eq_true hj)]
        exact hQ _ a c tm hp hk hs
      | false =>
        rw [hj] at hk
        rw [if_neg (fun e => by rw [e, Nat.beq_refl] at hj; cases hj)]
        exact hQ _ a c tm hp hk hs
    | _ => exact hQ _ a c tm hp hk hs
  | .loop body, G => fun F n w0 M ds tm hp K Q c a hF hm hy hro h hQ hS => by
    rcases h with ⟨I, m, ⟨tm', hp', hw, hI⟩, step⟩ | ⟨I, m, hw, step⟩
    · obtain ⟨c', hcw, hS'⟩ := hw w0 M c a ds hm.1 hS
      refine wpIn_loop (fun a w => ∃ m c tm hp, c.w = w ∧ I m tm hp ∧ St w0 M c tm hp a ds) (fun a w => mu fun m => ∃ c tm hp, c.w = w ∧ I m tm hp ∧ St w0 M c tm hp a ds) ⟨m, c', tm', hp', hcw, hI, hS'⟩ ?_
      rintro a w ⟨m0, h0⟩
      obtain ⟨c1, tm1, hp1, rfl, hI1, hS1⟩ := mu_spec (p := fun m => ∃ c tm hp, c.w = w ∧ I m tm hp ∧ St w0 M c tm hp a ds) ⟨m0, h0⟩
      have step' := step _ _ _ hI1
      unfold kLoop at step'
      rw [spineK_eq] at step'
      refine runC_sound body G F n w0 M ds tm1 hp1 _ _ c1 a hF hm hy hro step' ?_ hS1
      intro e a2 c2 tm2 hp2 hk hs
      cases e with
      | normal =>
        obtain ⟨m', hlt, tm3, hp3, hw3, hI3⟩ := hk
        obtain ⟨c3, hc3, hS3⟩ := hw3 w0 M c2 a2 ds hm.1 hs
        exact ⟨⟨m', c3, tm3, hp3, hc3, hI3, hS3⟩, Nat.lt_of_le_of_lt (mu_le ⟨c3, tm3, hp3, hc3, hI3, hS3⟩) hlt⟩
      | _ => exact hQ _ a2 c2 tm2 hp2 hk hs
    · obtain ⟨c', tm', hp', hcw, hI, hS'⟩ := hw w0 M c a ds hm.1 hm.2 hS
      refine wpIn_loop (fun a w => ∃ m c tm hp, c.w = w ∧ I m tm hp ∧ St w0 M c tm hp a ds) (fun a w => mu fun m => ∃ c tm hp, c.w = w ∧ I m tm hp ∧ St w0 M c tm hp a ds) ⟨m, c', tm', hp', hcw, hI, hS'⟩ ?_
      rintro a w ⟨m0, h0⟩
      obtain ⟨c1, tm1, hp1, rfl, hI1, hS1⟩ := mu_spec (p := fun m => ∃ c tm hp, c.w = w ∧ I m tm hp ∧ St w0 M c tm hp a ds) ⟨m0, h0⟩
      have step' := step _ _ _ hI1
      unfold kLoop at step'
      rw [spineK_eq] at step'
      refine runC_sound body G F n w0 M ds tm1 hp1 _ _ c1 a hF hm hy hro step' ?_ hS1
      intro e a2 c2 tm2 hp2 hk hs
      cases e with
      | normal =>
        obtain ⟨m', hlt, hw3⟩ := hk
        obtain ⟨c3, tm3, hp3, hc3, hI3, hS3⟩ := hw3 w0 M c2 a2 ds hm.1 hm.2 hs
        exact ⟨⟨m', c3, tm3, hp3, hc3, hI3, hS3⟩, Nat.lt_of_le_of_lt (mu_le ⟨c3, tm3, hp3, hc3, hI3, hS3⟩) hlt⟩
      | _ => exact hQ _ a2 c2 tm2 hp2 hk hs
  | .rangeFunc f ps assign body, G => fun F n w0 M ds tm hp K Q c a hF hm hy hro h hQ hS =>
    range_sound (fun mr => runC_sound assign (G.at mr)) (fun mr => runC_sound body (G.at mr)) hF hm.1 hy hro h hQ hS
  | .exit id, _ => fun F n w0 M ds tm hp K Q c a hF hm hy hro h hQ hS => wpIn_exit (hQ _ a c tm hp h hS)
  | .goto l, _ => fun F n w0 M ds tm hp K Q c a hF hm hy hro h hQ hS => wpIn_goto (hQ _ a c tm hp h hS)
  | .ret, _ => fun F n w0 M ds tm hp K Q c a hF hm hy hro h hQ hS => wpIn_ret (hQ _ a c tm hp h hS)
  | .scope body, G => fun F n w0 M ds tm hp K Q c a hF hm hy hro h hQ hS => by
    refine wpIn_scope (runC_sound body G F n w0 M ds tm hp _ _ c a hF hm hy hro h ?_ hS)
    intro e a c tm hp hk hs
    cases e with
    | goto l => exact hk.elim
    | _ => exact hQ _ a c tm hp hk hs
  | .refuse _, _ => fun F n w0 M ds tm hp K Q c a hF hm hy hro h hQ hS => by simp only [runC] at h
end Go.Eng

/- The engine, part M: states seen as others that say less: nil slices as blocks of their own, blocks picked out and numbered anew, blocks that turn into contents. -/
namespace Go.Eng
open Go Go.RowKit

/-! ### Nil slices as blocks of their own -/
def nilB (p : Nat × Nat) : Blk := ⟨p.1, p.2, true, true, []⟩
def nilLoc (wd : Nat) : Loc := ⟨0, 0, true, wd⟩

theorem Inv.nil1 {w0 : World} {M : Frm} {c : Cx} {hp : Hp} (h : Inv w0 M c hp) (p : Nat × Nat) :
    Inv w0 M (c.put hp.length (nilLoc p.2) c.w) (hp ++ [some (nilB p)]) ∧ c.Le (fun _ => true) (c.put hp.length (nilLoc p.2) c.w) ∧ ¬ c.D hp.length := by
  have hn : ¬ c.D hp.length := fun hd => by
    obtain ⟨b, hb, _⟩ := h.dom _ hd
    have := (List.getElem?_eq_some_iff.1 hb).1
    omega
  refine ⟨?_, Cx.Le.put hn (fun _ _ => rfl), hn⟩
  refine h.new (hp' := hp ++ [some (nilB p)]) hn h.mlen (fun k hk => ?_) (blk := nilB p) (by simp) (l := nilLoc p.2) (WGrow.refl _) (fun h => by cases h) ?_ (fun _ => rfl)
  · obtain ⟨b, hb, _⟩ := h.dom k hk
    rw [List.getElem?_append_left (List.getElem?_eq_some_iff.1 hb).1]
  · unfold BlkRel
    simp [Cx.put, nilLoc, nilB]

theorem Inv.nils {w0 : World} {M : Frm} : ∀ (zs : List (Nat × Nat)) {c : Cx} {hp : Hp}, Inv w0 M c hp → (∀ (k : Nat) (b : Blk), hp[k]? = some (some b) → c.D k) →
    ∃ c', c'.w = c.w ∧ c'.X = c.X ∧ c'.G = c.G ∧ c.Le (fun _ => true) c' ∧ Inv w0 M c' (hp ++ zs.map fun p => some (nilB p)) ∧ (∀ (k : Nat) (b : Blk), (hp ++ zs.map fun p => some (nilB p))[k]? = some (some b) → c'.D k) ∧
      (∀ k, hp.length ≤ k → k < hp.length + zs.length → c'.D k ∧ (c'.E k).nil = true) ∧ c.Cq c'
  | [], c, hp, h, hf => ⟨c, rfl, rfl, rfl, ⟨fun _ _ h => ⟨h, rfl⟩, fun _ h => h, fun _ _ h => h, fun _ _ => rfl⟩, by simpa using h, by simpa using hf, fun k h1 h2 => by simp at h2; omega, rfl, rfl, rfl, fun _ _ => rfl⟩
  | p :: zs, c, hp, h, hf => by
    obtain ⟨h1, hle, hnd⟩ := h.nil1 p
    have hf1 : ∀ (k : Nat) (b : Blk), (hp ++ [some (nilB p)])[k]? = some (some b) → (c.put hp.length (nilLoc p.2) c.w).D k := fun k b hk => by
      by_cases hlt : k < hp.length
      · rw [List.getElem?_append_left hlt] at hk
        exact .inl (hf k b hk)
      · rw [List.getElem?_append_right (by omega)] at hk
        have : k - hp.length = 0 := by
          have := (List.getElem?_eq_some_iff.1 hk).1
          simp at this
          omega
        exact .inr (by omega)
    obtain ⟨c', e1, e2, e3, hle', hI, hf', hnil, hq⟩ := Inv.nils zs h1 hf1
    have happ : hp ++ (p :: zs).map (fun p => some (nilB p)) = hp ++ [some (nilB p)] ++ zs.map fun p => some (nilB p) := by simp
    rw [happ]
    refine ⟨c', e1, e2, e3, ?_, hI, hf', fun k h1 h2 => ?_, hq.cA, hq.cC, hq.cZ, hq.hb⟩
    · exact ⟨fun k hk hd => ⟨(hle'.ed k hk (hle.ed k hk hd).1).1, (hle'.ed k hk (hle.ed k hk hd).1).2.trans (hle.ed k hk hd).2⟩, fun b hb => hle'.x b (hle.x b hb), fun b hx hb => hle'.b b (hle.x b hx) (hle.b b hx hb), fun b hb => (hle'.heap b (hle.x b hb)).trans (hle.heap b hb)⟩
    · by_cases hk : k = hp.length
      · subst hk
        have := hle'.ed hp.length rfl (.inr rfl)
        exact ⟨this.1, by rw [this.2]; simp [Cx.put, nilLoc]⟩
      · simp at h2 
        exact hnil k (by simp; omega) (by simp; omega)


/-- Every nil slice may be seen as a block of its own: the numbers from n on, up to m. -/
def nlB (n m : Nat) (k : Nat) : Bool := Nat.ble n k && Nat.ble (k + 1) m

/-! ### Views -/
mutual
/-- The value s, seen as s1: blocks of sel under their places in sel; other blocks turn into contents for good; nl: nil slices. -/
def Vw (hp : Hp) (nl : Nat → Bool) (sel : List Nat) (s : Sv) : Sv → Prop
  | .any => True
  | .val x => s = .val x
  | .agg cs1 => match s with
    | .agg cs => VwL hp nl sel cs cs1
    | _ => False
  | .tup cs1 => match s with
    | .tup cs => VwL hp nl sel cs cs1
    | _ => False
  | .ptr i r q => match s with
    | .ptr k r' q' => nth sel i = some k ∧ r' = r ∧ q' = q
    | _ => False
  | .own i n => match s with
    | .own k n' => nth sel i = some k ∧ n' = n
    | .val (.slice none 0 0) => (∃ k, nth sel i = some k ∧ nl k = true) ∧ n = 0
    | _ => False
  | .sls i lo n => match s with
    | .sls k lo' n' => nth sel i = some k ∧ lo' = lo ∧ n' = n
    | .own k n' => nth sel i = some k ∧ lo = 0 ∧ n' = n
    | _ => False
  | .ext fr1 wd1 rows1 => match s with
    | .ext fr wd rows => (fr1 = true → fr = true) ∧ wd = wd1 ∧ rows = rows1
    | .own k m => memB k sel = false ∧ ∃ b, hpGet hp k = some b ∧ (m = b.rows.length ∧ b.wd = wd1 ∧ (b.clean = true ∧ b.rows = rows1 ∨ VwR hp nl sel b.rows rows1 ∧ rows1.all (Sv.all.allL fun _ => false) = true) ∨ m ≤ b.rows.length ∧ b.wd = wd1 ∧ b.clean = true ∧ b.rows.take m = rows1)
    | .sls k lo m => memB k sel = false ∧ ∃ b, hpGet hp k = some b ∧ lo + m ≤ b.rows.length ∧ b.wd = wd1 ∧ (b.clean = true ∧ (b.rows.drop lo).take m = rows1 ∨ VwR hp nl sel ((b.rows.drop lo).take m) rows1 ∧ rows1.all (Sv.all.allL fun _ => false) = true)
    | .val (.slice none 0 0) => rows1 = []
    | _ => False
  | .ref fr1 cs1 => match s with
    | .ref fr cs => (fr1 = true → fr = true) ∧ cs = cs1
    | .ptr k r q => memB k sel = false ∧ ∃ b row, hpGet hp k = some b ∧ nth b.rows r = some row ∧ (b.clean = true ∧ row.drop q = cs1 ∨ VwL hp nl sel (row.drop q) cs1 ∧ Sv.all.allL (fun _ => false) cs1 = true)
    | _ => False
  | .clo f cs1 => match s with
    | .clo g cs => g = f ∧ VwL hp nl sel cs cs1
    | _ => False
def VwL (hp : Hp) (nl : Nat → Bool) (sel : List Nat) (ss : List Sv) : List Sv → Prop
  | [] => ss = []
  | s1 :: ss1 => match ss with
    | s :: ss => Vw hp nl sel s s1 ∧ VwL hp nl sel ss ss1
    | [] => False
def VwR (hp : Hp) (nl : Nat → Bool) (sel : List Nat) (rs : List (List Sv)) : List (List Sv) → Prop
  | [] => rs = []
  | r1 :: rs1 => match rs with
    | r :: rs => VwL hp nl sel r r1 ∧ VwR hp nl sel rs rs1
    | [] => False
end
def VwB (hp : Hp) (nl : Nat → Bool) (sel : List Nat) (b b1 : Blk) : Prop :=
  b1.elem = b.elem ∧ b1.wd = b.wd ∧ b1.grow = b.grow ∧ (b.clean = true ∧ b1.clean = true ∧ b.rows = b1.rows ∨ b.clean = true ∧ b.grow = true ∧ b1.clean = true ∧ (∃ n, b1.rows = b.rows.take n) ∨ VwR hp nl sel b.rows b1.rows ∧ (b1.clean = false ∨ b1.rows.all (Sv.all.allL fun _ => false) = true) ∧ b.ng)
/-- The blocks, by their new places; a place may be empty. -/
def VwBs (hp : Hp) (nl : Nat → Bool) (sel : List Nat) : List Nat → Hp → Prop
  | [], bs => bs = []
  | k :: ks, bs => match bs with
    | none :: bs => hpGet hp k = none ∧ VwBs hp nl sel ks bs
    | some b1 :: bs => (∃ b, hpGet hp k = some b ∧ VwB hp nl sel b b1) ∧ VwBs hp nl sel ks bs
    | [] => False

def Cx.view (c : Cx) (sel : List Nat) (bs : Hp) : Cx :=
  { E := fun i => c.E (sel.getD i 0), D := fun i => ∃ b, bs[i]? = some (some b), X := fun b => c.X b ∨ ∃ k, c.D k ∧ memB k sel = false ∧ (c.E k).nil = false ∧ (c.E k).b = b, G := c.G, w := c.w, A := c.A, C := c.C, Z := c.Z }

section
variable {hp : Hp} {nl : Nat → Bool} {sel : List Nat} {bs : Hp} {w0 : World} {M : Frm} {c : Cx}

theorem view_shut : c.shut.Le (fun _ => true) (c.view sel bs).shut := ⟨fun _ _ h => h.elim, fun b hb => .inl hb, fun _ _ h => h, fun _ _ => rfl⟩

/-- What the views hang on. -/
structure Vk (hp : Hp) (nl : Nat → Bool) (sel : List Nat) (bs : Hp) (w0 : World) (M : Frm) (c : Cx) : Prop where
  inv : Inv w0 M c hp
  nl : ∀ k, nl k = true → c.D k ∧ (c.E k).nil = true
  at_ : ∀ i k, nth sel i = some k → c.D k → ∃ b, bs[i]? = some (some b)
  g : ∀ k, c.D k → (c.E k).nil = false → c.G (c.E k).b

theorem view_E {i k : Nat} (h : nth sel i = some k) : (c.view sel bs).E i = c.E k := by
  show c.E (sel.getD i 0) = _
  rw [(nth_getD h).2]

mutual
theorem Vw.rel (hk : Vk hp nl sel bs w0 M c) : ∀ (s1 : Sv) {s : Sv}, Vw hp nl sel s s1 → ∀ {v : Value}, Rel s c v → Rel s1 (c.view sel bs) v
  | .any, _, _, _, _ => by simp [Rel]
  | .val x, s, h, v, r => by
    simp only [Vw] at h
    subst h
    simpa [Rel] using r
  | .agg cs1, s, h, v, r => by
    simp only [Vw] at h
    split at h
    · simp only [Rel] at r ⊢
      obtain ⟨vs, e, hv⟩ := r
      exact ⟨vs, e, (VwL.rel hk cs1 h).1 vs hv⟩
    · exact h.elim
  | .tup cs1, s, h, v, r => by
    simp only [Vw] at h
    split at h
    · simp only [Rel] at r ⊢
      obtain ⟨vs, e, hv⟩ := r
      exact ⟨vs, e, (VwL.rel hk cs1 h).2.1 vs hv⟩
    · exact h.elim
  | .ptr i r0 q, s, h, v, r => by
    simp only [Vw] at h
    split at h
    · obtain ⟨hi, rfl, rfl⟩ := h
      simp only [Rel] at r ⊢
      rw [view_E hi]
      exact ⟨hk.at_ i _ hi r.1, r.2⟩
    · exact h.elim
  | .own i n, s, h, v, r => by
    simp only [Vw] at h
    split at h
    · obtain ⟨hi, rfl⟩ := h
      simp only [Rel] at r ⊢
      rw [view_E hi]
      exact ⟨hk.at_ i _ hi r.1, r.2⟩
    · obtain ⟨⟨k, hi, hn⟩, rfl⟩ := h
      simp only [Rel] at r ⊢
      rw [view_E hi]
      exact ⟨hk.at_ i _ hi (hk.nl k hn).1, .inl ⟨(hk.nl k hn).2, r, trivial⟩⟩
    · exact h.elim
  | .sls i lo n, s, h, v, r => by
    simp only [Vw] at h
    split at h
    · obtain ⟨hi, rfl, rfl⟩ := h
      simp only [Rel] at r ⊢
      rw [view_E hi]
      exact ⟨hk.at_ i _ hi r.1, r.2⟩
    · obtain ⟨hi, rfl, rfl⟩ := h
      simp only [Rel] at r ⊢
      rw [view_E hi]
      refine ⟨hk.at_ i _ hi r.1, ?_⟩
      rcases r.2 with ⟨_, rfl, h0⟩ | ⟨h1, rfl, h2⟩
      · exact ⟨none, 0, by rw [h0], by rw [h0]; exact Nat.le_refl _, .inl h0⟩
      · exact ⟨_, _, rfl, h2, .inr ⟨h1, by simp⟩⟩
    · exact h.elim
  | .ext fr1 wd1 rows1, s, h, v, r => by
    simp only [Vw] at h
    split at h
    · obtain ⟨hf, rfl, rfl⟩ := h
      simp only [Rel] at r ⊢
      obtain ⟨a, cap, e, hc, hr⟩ := r
      refine ⟨a, cap, e, hc, hr.imp id ?_⟩
      rintro ⟨b, off, ea, hx, hf', hr⟩
      exact ⟨b, off, ea, .inl hx, fun e => hf' (hf e), RelR.le _ (allR_true _) view_shut rfl hr⟩
    · rename_i k m
      obtain ⟨hkm, b, hb, ⟨hm, rfl, hrr⟩ | ⟨hm, rfl, hcl, rfl⟩⟩ := h
      case inr =>
        simp only [Rel] at r ⊢
        obtain ⟨hD, hv⟩ := r
        obtain ⟨_, hbl⟩ := hk.inv.block hD hb
        have hlen : (b.rows.take m).length = m := by rw [List.length_take]; omega
        rcases hv with ⟨hnil, rfl, h0⟩ | ⟨hnil, rfl, hc⟩
        · exact ⟨none, 0, by rw [hlen, h0], by rw [hlen, h0]; exact Nat.le_refl _, .inl (List.eq_nil_of_length_eq_zero (by omega))⟩
        · rcases hbl with ⟨_, h1⟩ | ⟨_, hlt, hr⟩
          · rw [hnil] at h1; cases h1
          · refine ⟨_, _, by rw [hlen], by rw [hlen]; exact hc, .inr ⟨_, _, rfl, .inr ⟨k, hD, hkm, hnil, rfl⟩, fun _ => hk.g k hD hnil, ?_⟩⟩
            simp only [Blk.cx, hcl] at hr
            exact RelR.le _ (allR_true _) view_shut rfl (RelR_take hr m)
      simp only [Rel] at r ⊢
      obtain ⟨hD, hv⟩ := r
      obtain ⟨_, hbl⟩ := hk.inv.block hD hb
      have hlen : rows1.length = b.rows.length := by
        rcases hrr with ⟨_, rfl⟩ | ⟨h, _⟩
        · rfl
        · exact (VwR.rel hk rows1 h).1
      rcases hv with ⟨hnil, rfl, h0⟩ | ⟨hnil, rfl, hc⟩
      · exact ⟨none, 0, by rw [hlen, ← hm, h0], by rw [hlen, ← hm, h0]; exact Nat.le_refl _, .inl (List.eq_nil_of_length_eq_zero (by omega))⟩
      · rcases hbl with ⟨_, h1⟩ | ⟨_, hlt, hr⟩
        · rw [hnil] at h1; cases h1
        · refine ⟨_, _, by rw [hlen, ← hm], by rw [hlen, ← hm]; exact hc, .inr ⟨_, _, rfl, .inr ⟨k, hD, hkm, hnil, rfl⟩, fun _ => hk.g k hD hnil, ?_⟩⟩
          rcases hrr with ⟨hcl, rfl⟩ | ⟨h, hall⟩
          · simp only [Blk.cx, hcl] at hr
            exact RelR.le _ (allR_true _) view_shut rfl hr
          · have h2 := (VwR.rel hk rows1 h).2 b.wd (c.E k).b 0 (RelR.le _ (allR_true _) (b.cx_le c) (by rw [b.cx_w c]) hr)
            exact RelR.le _ hall (c.view sel bs).le_shut rfl h2
    · rename_i k lo m
      obtain ⟨hkm, b, hb, hm, rfl, hrr⟩ := h
      have hlen' : ((b.rows.drop lo).take m).length = m := by rw [List.length_take, List.length_drop]; omega
      have hlen : rows1.length = m := by
        rcases hrr with ⟨_, rfl⟩ | ⟨h, _⟩
        · exact hlen'
        · exact ((VwR.rel hk rows1 h).1).trans hlen'
      simp only [Rel] at r ⊢
      obtain ⟨hD, a, cap, rfl, hc, hA⟩ := r
      obtain ⟨hwd, hbl⟩ := hk.inv.block hD hb
      refine ⟨a, cap, by rw [hlen], by rw [hlen]; exact hc, ?_⟩
      rcases hA with rfl | ⟨hnil, rfl⟩
      · exact .inl (List.eq_nil_of_length_eq_zero hlen)
      · rcases hbl with ⟨_, h1⟩ | ⟨_, hlt, hr⟩
        · rw [hnil] at h1; cases h1
        · have hr' := RelR_take (RelR_drop hr lo) m
          rw [Nat.zero_add] at hr'
          refine .inr ⟨_, _, rfl, .inr ⟨k, hD, hkm, hnil, rfl⟩, fun _ => hk.g k hD hnil, ?_⟩
          rw [hwd]
          rcases hrr with ⟨hcl, rfl⟩ | ⟨h, hall⟩
          · simp only [Blk.cx, hcl] at hr'
            exact RelR.le _ (allR_true _) view_shut rfl hr'
          · have h2 := (VwR.rel hk rows1 h).2 b.wd (c.E k).b _ (RelR.le _ (allR_true _) (b.cx_le c) (by rw [b.cx_w c]) hr')
            exact RelR.le _ hall (c.view sel bs).le_shut rfl h2
    · subst h
      simp only [Rel] at r ⊢
      exact ⟨none, 0, r, Nat.le_refl _, by simp⟩
    · exact h.elim
  | .ref fr1 cs1, s, h, v, r => by
    simp only [Vw] at h
    split at h
    · obtain ⟨hf, rfl⟩ := h
      simp only [Rel] at r ⊢
      obtain ⟨b, off, e, hx, hg, hr⟩ := r
      exact ⟨b, off, e, .inl hx, fun e => hg (hf e), RelC.le _ (allL_true _) view_shut rfl hr⟩
    · rename_i k r0 q
      obtain ⟨hkm, b, row, hb, hrow, hrr⟩ := h
      simp only [Rel] at r ⊢
      obtain ⟨hD, hnil, rfl⟩ := r
      obtain ⟨hwd, hbl⟩ := hk.inv.block hD hb
      rw [nth_eq] at hrow
      rcases hbl with ⟨_, h1⟩ | ⟨_, hlt, hrb⟩
      · rw [hnil] at h1; cases h1
      · refine ⟨_, _, rfl, .inr ⟨k, hD, hkm, hnil, rfl⟩, fun _ => hk.g k hD hnil, ?_⟩
        have hr' := RelC_drop q _ (RelR_get _ hrb r0 row hrow).2
        rw [Nat.zero_add] at hr'
        rw [hwd]
        rcases hrr with ⟨hcl, rfl⟩ | ⟨h, hall⟩
        · simp only [Blk.cx, hcl] at hr'
          exact RelC.le _ (allL_true _) view_shut rfl hr'
        · have h2 := (VwL.rel hk cs1 h).2.2.1 (c.E k).b _ (RelC.le _ (allL_true _) (b.cx_le c) (by rw [b.cx_w c]) hr')
          exact RelC.le _ hall (c.view sel bs).le_shut rfl h2
    · exact h.elim
  | .clo f cs1, s, h, v, r => by
    simp only [Vw] at h
    split at h
    · obtain ⟨rfl, h⟩ := h
      simp only [Rel] at r ⊢
      obtain ⟨vs, e, hv⟩ := r
      exact ⟨vs, e, (VwL.rel hk cs1 h).2.1 vs hv⟩
    · exact h.elim
theorem VwL.rel (hk : Vk hp nl sel bs w0 M c) : ∀ (ss1 : List Sv) {ss : List Sv}, VwL hp nl sel ss ss1 →
    (∀ vs, RelL ss c vs → RelL ss1 (c.view sel bs) vs) ∧ (∀ vs, RelT ss c vs → RelT ss1 (c.view sel bs) vs) ∧ (∀ b off, RelC ss c b off → RelC ss1 (c.view sel bs) b off) ∧ ss1.length = ss.length
  | [], ss, h => by
    simp only [VwL] at h
    subst h
    exact ⟨fun vs r => by simpa [RelL] using r, fun vs r => by simpa [RelT] using r, fun b off _ => by simp [RelC], rfl⟩
  | s1 :: ss1, ss, h => by
    simp only [VwL] at h
    split at h
    · obtain ⟨h1, h2⟩ := h
      have i1 := @Vw.rel hk s1 _ h1
      obtain ⟨a, b, d, e⟩ := VwL.rel hk ss1 h2
      refine ⟨fun vs r => ?_, fun vs r => ?_, fun bb off r => ?_, by simp [e]⟩
      · simp only [RelL] at r ⊢
        obtain ⟨u, us, eq, h1, h2, h3⟩ := r
        exact ⟨u, us, eq, h1, i1 h2, a us h3⟩
      · simp only [RelT] at r ⊢
        obtain ⟨u, us, eq, h2, h3⟩ := r
        exact ⟨u, us, eq, i1 h2, b us h3⟩
      · simp only [RelC] at r ⊢
        obtain ⟨⟨u, eq, h1, h2⟩, h3⟩ := r
        exact ⟨⟨u, eq, h1, i1 h2⟩, d bb _ h3⟩
    · exact h.elim
theorem VwR.rel (hk : Vk hp nl sel bs w0 M c) : ∀ (rs1 : List (List Sv)) {rs : List (List Sv)}, VwR hp nl sel rs rs1 →
    rs1.length = rs.length ∧ ∀ wd b off, RelR rs c wd b off → RelR rs1 (c.view sel bs) wd b off
  | [], rs, h => by
    simp only [VwR] at h
    subst h
    exact ⟨rfl, fun _ _ _ _ => by simp [RelR]⟩
  | r1 :: rs1, rs, h => by
    simp only [VwR] at h
    split at h
    · obtain ⟨h1, h2⟩ := h
      obtain ⟨_, _, d, e⟩ := VwL.rel hk r1 h1
      obtain ⟨a, b⟩ := VwR.rel hk rs1 h2
      refine ⟨by simp [a], fun wd bb off q => ?_⟩
      simp only [RelR] at q ⊢
      exact ⟨by rw [e]; exact q.1, d bb off q.2.1, b wd bb _ q.2.2⟩
    · exact h.elim
end

theorem VwBs_get : ∀ {ks : List Nat} {bs : Hp}, VwBs hp nl sel ks bs → bs.length = ks.length ∧ ∀ (i k : Nat) (b1 : Blk), ks[i]? = some k → bs[i]? = some (some b1) → ∃ b, hpGet hp k = some b ∧ VwB hp nl sel b b1
  | [], bs, h => by simp only [VwBs] at h; subst h; simp
  | k :: ks, bs, h => by
    simp only [VwBs] at h
    split at h
    · obtain ⟨h1, h2⟩ := VwBs_get h.2
      refine ⟨by simp [h1], fun i j b1 hi hb => ?_⟩
      cases i with
      | zero => simp at hb
      | succ i => exact h2 i j b1 (by simpa using hi) (by simpa using hb)
    · obtain ⟨⟨b, hb, hc⟩, h⟩ := h
      obtain ⟨h1, h2⟩ := VwBs_get h
      refine ⟨by simp [h1], fun i j b1 hi hb1 => ?_⟩
      cases i with
      | zero => simp at hi hb1; subst hi hb1; exact ⟨b, hb, hc⟩
      | succ i => exact h2 i j b1 (by simpa using hi) (by simpa using hb1)
    · exact h.elim

theorem VwBs_at : ∀ {ks : List Nat} {bs : Hp}, VwBs hp nl sel ks bs → ∀ (i k : Nat) {blk : Blk}, ks[i]? = some k → hpGet hp k = some blk → ∃ b1, bs[i]? = some (some b1)
  | [], bs, h, i, k, _, hi, _ => by simp at hi
  | j :: ks, bs, h, i, k, blk, hi, hb => by
    simp only [VwBs] at h
    split at h
    · cases i with
      | zero => simp at hi; subst hi; rw [h.1] at hb; cases hb
      | succ i => simpa using VwBs_at h.2 i k (by simpa using hi) hb
    · cases i with
      | zero => simp
      | succ i => simpa using VwBs_at h.2 i k (by simpa using hi) hb
    · exact h.elim

theorem view_blk (hk : Vk hp nl sel bs w0 M c) {i k : Nat} {b b1 : Blk} (hi : sel[i]? = some k) (hD : c.D k) (hb : hpGet hp k = some b) (hc : VwB hp nl sel b b1) : BlkRel (c.view sel bs) i b1 := by
  have hE : (c.view sel bs).E i = c.E k := view_E (by rw [nth_eq]; exact hi)
  obtain ⟨b', hb', r⟩ := hk.inv.dom k hD
  rw [hpGet_eq] at hb
  rw [hb] at hb'
  cases hb'
  obtain ⟨h1, h2, h3, h4⟩ := hc
  have hlen : b1.rows.length ≤ b.rows.length := by
    rcases h4 with ⟨_, _, h⟩ | ⟨_, _, _, n, h⟩ | ⟨h, _⟩
    · rw [h]; exact Nat.le_refl _
    · rw [h]; exact List.length_take_le' _ _
    · rw [(VwR.rel hk b1.rows h).1]; exact Nat.le_refl _
  unfold BlkRel at *
  rw [hE, h2, h3]
  refine ⟨r.1, fun hn => ?_, fun hn => ?_⟩
  · rcases r.2.1 hn with ⟨g1, g2⟩ | ⟨g1, g2, g3⟩
    · exact .inl ⟨g1, List.eq_nil_of_length_eq_zero (by rw [g2] at hlen; exact Nat.le_zero.1 hlen)⟩
    · refine .inr ⟨g1, ?_, g3⟩
      rcases h4 with ⟨_, h, _⟩ | ⟨_, h, _⟩ | ⟨_, _, h⟩
      · exact h
      · rw [g1] at h; cases h
      · exact absurd ⟨g1, g2, g3⟩ (Blk.ng_not h)
  obtain ⟨arr, hh, hr, hl, hg⟩ := r.2.2 hn
  refine ⟨arr, by rw [h1]; exact hh, ?_, Nat.le_trans (Nat.mul_le_mul_right _ hlen) hl, fun e => ⟨(hg e).1, Nat.le_trans hlen (hg e).2.1, (hg e).2.2⟩⟩
  rcases h4 with ⟨hc, hc1, h⟩ | ⟨hc, _, hc1, n, h⟩ | ⟨h, hq, _⟩
  · unfold Blk.cx at *
    rw [hc] at hr
    rw [hc1, ← h]
    exact RelR.le _ (allR_true _) view_shut rfl hr
  · unfold Blk.cx at *
    rw [hc] at hr
    rw [hc1, h]
    exact RelR.le _ (allR_true _) view_shut rfl (RelR_take hr n)
  · have h5 := (VwR.rel hk b1.rows h).2 b.wd (c.E k).b 0 (RelR.le _ (allR_true _) (b.cx_le c) (by rw [b.cx_w c]) hr)
    unfold Blk.cx
    cases hc1 : b1.clean with
    | false => exact h5
    | true =>
      rcases hq with hq | hq
      · rw [hc1] at hq; cases hq
      · exact RelR.le _ hq (c.view sel bs).le_shut rfl h5

/-- The blocks handed in keep their places. -/
def preB : Nat → Nat → List Nat → Bool
  | 0, _, _ => true
  | m + 1, i, k :: ks => match Nat.beq k i with | true => preB m (i + 1) ks | false => false
  | _ + 1, _, [] => false
theorem preB_get : ∀ {m i : Nat} {ks : List Nat}, preB m i ks = true → m ≤ ks.length ∧ ∀ j, j < m → ks[j]? = some (i + j)
  | 0, i, ks, _ => ⟨Nat.zero_le _, fun j h => by omega⟩
  | m + 1, i, [], h => by cases h
  | m + 1, i, k :: ks, h => by
    simp only [preB] at h
    split at h
    · rename_i he
      have := Nat.eq_of_beq_eq_true he
      subst this
      obtain ⟨h1, h2⟩ := preB_get h
      refine ⟨by simp; omega, fun j hj => ?_⟩
      cases j with
      | zero => simp
      | succ j => simp only [List.getElem?_cons_succ]; rw [h2 j (by omega)]; congr 1; omega
    · cases h

theorem view_inv (hk : Vk hp nl sel bs w0 M c) (hf : ∀ (k : Nat) (b : Blk), hp[k]? = some (some b) → c.D k) (hnd : sel.Nodup) (hpre : preB M.m 0 sel = true) (hbs : VwBs hp nl sel sel bs) : Inv w0 M (c.view sel bs) bs := by
  obtain ⟨hlen, hget⟩ := VwBs_get hbs
  obtain ⟨hm, hpre⟩ := preB_get hpre
  have hI := hk.inv
  have hat : ∀ i, (c.view sel bs).D i → ∃ k b b1, sel[i]? = some k ∧ bs[i]? = some (some b1) ∧ hpGet hp k = some b ∧ VwB hp nl sel b b1 ∧ c.D k ∧ (c.view sel bs).E i = c.E k := by
    rintro i ⟨b1, hb1⟩
    have hi : i < sel.length := by rw [← hlen]; exact (List.getElem?_eq_some_iff.1 hb1).1
    obtain ⟨b, hb, hc⟩ := hget i sel[i] b1 (List.getElem?_eq_getElem hi) hb1
    exact ⟨sel[i], b, b1, List.getElem?_eq_getElem hi, hb1, hb, hc, hf _ b (hpGet_eq.1 hb), view_E (by rw [nth_eq]; exact List.getElem?_eq_getElem hi)⟩
  refine { dom := ?_, inj := ?_, xsep := ?_, xlt := ?_, xY := ?_, bnd := hI.bnd, bndG := hI.bndG, e0 := ?_, mlen := by rw [hlen]; exact hm, os := hI.os, tape := hI.tape, output := hI.output, size := hI.size, keep := hI.keep, loc := ?_, x0 := ?_, ca := ?_, cc := ?_, gh := ?_, zc := ?_, z0 := hI.z0, xk := fun b hb => .inl (hI.xk b hb) }
  · intro i hi
    obtain ⟨k, b, b1, h1, h2, h3, h4, h5, _⟩ := hat i hi
    exact ⟨b1, h2, view_blk hk h1 h5 h3 h4⟩
  · intro i j hi hj hne h1 h2
    obtain ⟨k, _, _, g1, _, _, _, g5, g6⟩ := hat i hi
    obtain ⟨k', _, _, g1', _, _, _, g5', g6'⟩ := hat j hj
    rw [g6] at h1 ⊢
    rw [g6'] at h2 ⊢
    refine hI.inj k k' g5 g5' (fun e => hne ?_) h1 h2
    subst e
    exact nodup_at hnd g1 g1'
  · intro i b hi h1 hx
    obtain ⟨k, _, _, g1, _, _, _, g5, g6⟩ := hat i hi
    rw [g6] at h1 ⊢
    rcases hx with hx | ⟨k', hD', hm', hn', e⟩
    · exact hI.xsep k b g5 h1 hx
    · rw [← e]
      refine hI.inj k k' g5 hD' (fun e => ?_) h1 hn'
      subst e
      rw [memB_iff.2 (List.mem_of_getElem? g1)] at hm'
      cases hm'
  · rintro b (hx | ⟨k', hD', _, hn', e⟩)
    · exact hI.xlt b hx
    · obtain ⟨blk, _, r⟩ := hI.dom k' hD'
      rw [← e]
      exact r.lt hn'
  · rintro b (hx | ⟨k', hD', _, hn', e⟩) hy
    · exact hI.xY b hx hy
    · obtain ⟨y1, y2⟩ := hI.bndG.y b hy
      rcases hI.loc k' hD' hn' with h | h
      · exact y2 (e ▸ h)
      · omega
  · intro i hi hD
    obtain ⟨k, _, _, g1, _, _, _, g5, g6⟩ := hat i hD
    have := hpre i hi
    rw [g1, Nat.zero_add] at this
    cases this
    rw [g6]
    exact hI.e0 i hi g5
  · intro i hi h1
    obtain ⟨k, _, _, g1, _, _, _, g5, g6⟩ := hat i hi
    rw [g6] at h1 ⊢
    exact hI.loc k g5 h1
  · rintro b (hx | ⟨k', hD', _, hn', e⟩)
    · exact hI.x0 b hx
    · rw [← e]
      rcases hI.loc k' hD' hn' with h | h
      · exact .inr (.inl h)
      · exact .inl h
  · intro b hb
    obtain ⟨h1, h2, h3⟩ := hI.ca b hb
    refine ⟨h1, ?_, h3⟩
    rintro (hx | ⟨k', hD', _, hn', e⟩)
    · exact h2 hx
    · exact (hI.cc b h1).2.1 k' hD' hn' e
  · intro b hb
    obtain ⟨h1, h2, h3⟩ := hI.cc b hb
    refine ⟨h1, fun i hi hn => ?_, h3⟩
    obtain ⟨k, _, _, g1, _, _, _, g5, g6⟩ := hat i hi
    rw [g6] at hn ⊢
    exact h2 k g5 hn
  · intro i blk hi hb hn hg
    obtain ⟨k, b, b1, g1, g2, g3, g4, g5, g6⟩ := hat i hi
    rw [g2] at hb
    cases hb
    rw [g6] at hn
    obtain ⟨f1, f2, f3, f4⟩ := g4
    rw [f3] at hg
    obtain ⟨b', hb', r⟩ := hI.dom k g5
    rw [hpGet_eq.1 g3] at hb'
    cases hb'
    rcases r.2.1 hn with ⟨e1, _⟩ | e1
    · rw [hg] at e1; cases e1
    have hrows : blk.rows = b.rows := by
      rcases f4 with ⟨_, _, h⟩ | ⟨_, h, _⟩ | ⟨_, _, h⟩
      · exact h.symm
      · rw [hg] at h; cases h
      · exact absurd e1 (Blk.ng_not h)
    rw [hrows, f1]
    exact hI.gh k b g5 (hpGet_eq.1 g3) hn hg
  · intro b hb
    obtain ⟨h1, h2, h3⟩ := hI.zc b hb
    refine ⟨h1, h2, ?_⟩
    rintro (hx | ⟨k', hD', _, hn', e⟩)
    · exact h3 hx
    · exact (hI.cc b h1).2.1 k' hD' hn' e

theorem Inv.vk {zs : List (Nat × Nat)} (hI : Inv w0 M c (hp ++ zs.map fun p => some (nilB p))) (hnil : ∀ k, hp.length ≤ k → k < hp.length + zs.length → c.D k ∧ (c.E k).nil = true) (hbs : VwBs (hp ++ zs.map fun p => some (nilB p)) (nlB hp.length (hp.length + zs.length)) sel sel bs) :
    Vk (hp ++ zs.map fun p => some (nilB p)) (nlB hp.length (hp.length + zs.length)) sel bs w0 M c :=
  ⟨hI, fun k hk => by
    simp only [nlB, Bool.and_eq_true] at hk
    exact hnil k (Nat.le_of_ble_eq_true hk.1) (Nat.le_of_ble_eq_true hk.2), fun i k hi hD => by
    obtain ⟨blk, hb, _⟩ := hI.dom k hD
    exact VwBs_at hbs i k (by rw [← nth_eq]; exact hi) (hpGet_eq.2 hb), fun k hD hn => by
    rw [hI.bnd]
    exact hI.bndG.g _ (hI.loc k hD hn).symm⟩
end
end Go.Eng

/- The engine, part J: what a function hands back; its contract out of its body. -/
namespace Go.Eng
open Go Go.RowKit

/-! ### What is handed back -/
def FrB : Hp → Prop
  | [] => True
  | none :: bs => FrB bs
  | some b :: bs => FrR b.rows ∧ FrB bs
theorem FrB_get : ∀ {bs : Hp}, FrB bs → ∀ (i : Nat) (b : Blk), bs[i]? = some (some b) → FrR b.rows
  | [], _, i, b, h => by simp at h
  | none :: bs, hf, i, b, h => by
    cases i with
    | zero => simp at h
    | succ i => exact FrB_get (bs := bs) hf i b (by simpa using h)
  | some q :: bs, hf, i, b, h => by
    cases i with
    | zero => simp at h; subst h; exact hf.1
    | succ i => exact FrB_get hf.2 i b (by simpa using h)

/-- zs: nil slices that become blocks of their own; sel: the blocks that go with the result, those that were handed in first. -/
inductive RetM (m : Nat) (hp : Hp) (r : Sv) (post : Sv → Hp → Prop) : Prop
  | mk (zs : List (Nat × Nat)) (sel : List Nat) (res : Sv) (bs : Hp) : sel.Nodup → preB m 0 sel = true → VwBs (hp ++ zs.map fun p => some (nilB p)) (nlB hp.length (hp.length + zs.length)) sel sel bs →
      Vw (hp ++ zs.map fun p => some (nilB p)) (nlB hp.length (hp.length + zs.length)) sel r res → res.Fr → FrB bs → post res bs → RetM m hp r post
abbrev RetP (hp : Hp) (r res : Sv) (nb : List Blk) : Prop := RetM 0 hp r fun r' h => r' = res ∧ h = nb.map some

theorem RetM.ends {m : Nat} {hp : Hp} {r : Sv} {post : Sv → Hp → Prop} (h : RetM m hp r post) {w0 : World} {M : Frm} (hm : M.m = m) (hxk : ∀ b, M.Xk b → M.G b) {c : Cx} {v : Value} (hI : Inv w0 M c hp) (hD : ∀ (k : Nat) (b : Blk), hp[k]? = some (some b) → c.D k) (hr : Rel r c v) :
    ∃ c' res hp', post res hp' ∧ Ends w0 M c' c.w v res hp' := by
  obtain ⟨zs, sel, res, bs, hnd, hpre, hbs, hvw, hfr, hfb, hpost⟩ := h
  obtain ⟨c1, ew, ex, eb, hle, hI, hD, hnil, hcq⟩ := hI.nils zs hD
  have hr := Rel.le r (Sv.all_true _) hle hr
  have hk := hI.vk hnil hbs
  have hv := view_inv hk hD hnd (hm ▸ hpre) hbs
  have hres := Vw.rel hk res hvw hr
  rw [← ew]
  generalize hc1 : c1.view sel bs = c2 at *
  have hw2 : c2.w = c1.w := by rw [← hc1]; rfl
  let c' : Cx := { c2 with X := fun b => c2.X b ∧ c2.G b }
  have hfs : Fs c2.shut c'.shut := ⟨fun _ h => h, fun b hx hg => ⟨hx, hg⟩, rfl, rfl⟩
  have key : ∀ (s : Sv) (v : Value), s.Fr → Rel s c2 v → Rel s c' v := fun s v hf r => Rel.pick s hf r
  refine ⟨c', res, bs, hpost, hw2, ?_, fun k b hb => ?_, fun b hb => ?_, key _ _ hfr hres⟩
  · exact { hv with
      dom := fun k hk => by
        obtain ⟨blk, e, r⟩ := hv.dom k hk
        refine ⟨blk, e, ?_⟩
        unfold BlkRel at *
        refine ⟨r.1, r.2.1, fun hn => ?_⟩
        obtain ⟨arr, hh, hr, hl, hg⟩ := r.2.2 hn
        refine ⟨arr, hh, ?_, hl, hg⟩
        have hf := FrB_get hfb k blk e
        unfold Blk.cx at *
        cases hc : blk.clean with
        | true =>
          rw [hc] at hr
          exact RelR.fresh _ hf hfs hr
        | false =>
          rw [hc] at hr
          exact RelR.pick _ hf hr
      xsep := fun k b hk hn hx => hv.xsep k b hk hn hx.1
      xlt := fun b hx => hv.xlt b hx.1
      xY := fun b hx => hv.xY b hx.1
      x0 := fun b hx => hv.x0 b hx.1
      xk := fun b hb => ⟨hv.xk b hb, by rw [hv.bnd]; exact hxk b hb⟩
      zc := fun b hb => ⟨(hv.zc b hb).1, (hv.zc b hb).2.1, fun hx => (hv.zc b hb).2.2 hx.1⟩
      ca := fun b hb => ⟨(hv.ca b hb).1, fun hx => (hv.ca b hb).2.1 hx.1, (hv.ca b hb).2.2⟩ }
  · show c2.D k
    rw [← hc1]
    exact ⟨b, hb⟩
  · have := hb.2
    rwa [hv.bnd] at this

/-- The results, read. -/
def resV (G : Gm) (tm : List Sv) (hp : Hp) : List ResultVar → (List Sv → Prop) → Prop
  | [], K => K []
  | .tmp t :: rs, K => resV G tm hp rs fun ss => K (tmGet tm t :: ss)
  | .cell a t :: rs, K => loadV G t hp (tmGet tm a) fun s => resV G tm hp rs fun ss => K (s :: ss)

def one? : List Sv → Sv
  | [s] => s
  | ss => .tup ss

/-- A result, laid bare. -/
def resK : Sv → (Sv → Prop) → Prop
  | .tup cs, K => deepK cs fun cs => K (.tup cs)
  | s, K => svK s K
theorem resK_eq (s : Sv) (K : Sv → Prop) : resK s K = K s := by
  cases s <;> simp [resK, svK_eq, deepK_eq]
def retV (G : Gm) (fn : Func) (tm : List Sv) (hp : Hp) (post : Sv → Hp → Prop) : Prop :=
  resV G tm hp fn.results.toList fun ss => resK (one? ss) fun r => RetM G.m hp r post

/-- One result, read. -/
def rdV (tmps : Array Value) : ResultVar → Sem Value
  | .tmp t => pure (tmps.getD t undef)
  | .cell x t => do loadVar t (← asAddr (tmps.getD x undef))

theorem results_eq (fn : Func) (tmps : Array Value) : results fn tmps = (do
    let vs ← fn.results.mapM (rdV tmps)
    pure (if h : vs.size = 1 then vs[0] else .tuple vs)) := by
  unfold results
  congr 1

theorem resV_sound {G : Gm} {tm : List Sv} {hp : Hp} : ∀ (rs : List ResultVar) (K : List Sv → Prop), resV G tm hp rs K → ∃ ss, K ss ∧ ss.length = rs.length ∧ ∀ (w0 : World) (M : Frm) (c : Cx) (a : Act) (ds : List Deferred), St w0 M c tm hp a ds →
    ∃ vs, RelT ss c vs ∧ (rs.mapM (rdV a.tmps)).run G.P c.w = Result.ok vs c.w
  | [], K, h => ⟨[], h, rfl, fun w0 M c a ds hS => ⟨[], by simp [RelT], rfl⟩⟩
  | .tmp t :: rs, K, h => by
    obtain ⟨ss, hK, hl, hs⟩ := resV_sound rs _ h
    refine ⟨_, hK, by simp [hl], fun w0 M c a ds hS => ?_⟩
    obtain ⟨vs, h1, h2⟩ := hs w0 M c a ds hS
    refine ⟨a.tmps.getD t undef :: vs, by simp only [RelT]; exact ⟨_, _, rfl, hS.rel t, h1⟩, ?_⟩
    simp only [List.mapM_cons, rdV, Sem.run_bind, Sem.run_pure, Result.andThen_ok, h2]
  | .cell x t :: rs, K, h => by
    let o : Oper := { dst := none, op := .load t (.tmp x), type := 0, pos := "", after := #[], guard := none }
    obtain ⟨s, h, hp1⟩ := loadV_sound (G := G) (tm := tm) (hp := hp) (o := o) (x := .tmp x) rfl h
    obtain ⟨ss, hK, hl, hs⟩ := resV_sound rs _ h
    refine ⟨_, hK, by simp [hl], fun w0 M c a ds hS => ?_⟩
    obtain ⟨vs, h1, h2⟩ := hs w0 M c a ds hS
    obtain ⟨v, hrun, hr⟩ := hp1 w0 M c a hS.inv (fun y _ => hS.opnd y)
    have hld : (do loadVar t (← asAddr (a.tmps.getD x undef)) : Sem Value).run G.P c.w = .ok v c.w := by
      have : (Instr.loadAt t (a.tmps.getD x undef)).run G.P c.w = .ok v c.w := by
        simp only [execOp, o, Act.eval, Sem.run_bind, Sem.run_pure] at hrun
        cases hx : (Instr.loadAt t (a.tmps.getD x undef)).run G.P c.w with
        | ok u w => rw [hx] at hrun; simp at hrun; obtain ⟨rfl, rfl⟩ := hrun; rfl
        | halt q w => rw [hx] at hrun; cases hrun
      unfold Instr.loadAt Instr.sureAddr at this
      cases hp : a.tmps.getD x undef with
      | pointer ad =>
        rw [hp] at this
        cases ad with
        | some ad => simpa [asAddr] using this
        | none => simp at this
      | _ => rw [hp] at this; simp at this
    refine ⟨v :: vs, by simp only [RelT]; exact ⟨_, _, rfl, hr, h1⟩, ?_⟩
    have hld' : (rdV a.tmps (.cell x t)).run G.P c.w = .ok v c.w := hld
    simp only [List.mapM_cons, Sem.run_bind, Sem.run_pure, hld', Result.andThen_ok, h2]

theorem results_run {G : Gm} {fn : Func} {tm : List Sv} {hp : Hp} {post : Sv → Hp → Prop} (h : retV G fn tm hp post) {w0 : World} {M : Frm} (hm : M.m = G.m) (hxk : ∀ b, M.Xk b → M.G b) {c : Cx} {a : Act} {ds : List Deferred} (hS : St w0 M c tm hp a ds) :
    ∃ v c' res hp', (results fn a.tmps).run G.P c.w = .ok v c.w ∧ post res hp' ∧ Ends w0 M c' c.w v res hp' := by
  obtain ⟨ss, hK, hl, hs⟩ := resV_sound _ _ h
  obtain ⟨vs, hr, hrun⟩ := hs w0 _ c a ds hS
  have hvl : vs.length = ss.length := by
    have : ∀ (ss : List Sv) (vs : List Value), RelT ss c vs → vs.length = ss.length := by
      intro ss
      induction ss with
      | nil => intro vs h; simp only [RelT] at h; simp [h]
      | cons s ss ih => intro vs h; simp only [RelT] at h; obtain ⟨u, us, rfl, _, h⟩ := h; simp [ih us h]
    exact this ss vs hr
  have hres : ∃ v, (results fn a.tmps).run G.P c.w = .ok v c.w ∧ Rel (one? ss) c v := by
    have e1 : (fn.results.mapM (rdV a.tmps)).run G.P c.w = Result.ok vs.toArray c.w := by
      rw [Array.mapM_eq_mapM_toList]
      simp only [Sem.run_map, hrun, Result.andThen_ok]
    by_cases h1 : ∃ s, ss = [s]
    · obtain ⟨s, rfl⟩ := h1
      simp only [RelT] at hr
      obtain ⟨u, us, rfl, hs1, rfl⟩ := hr
      refine ⟨u, ?_, hs1⟩
      rw [results_eq]
      simp only [Sem.run_bind, e1, Result.andThen_ok]
      simp
    · have hone : one? ss = .tup ss := by
        unfold one?
        split
        · exact absurd ⟨_, rfl⟩ h1
        · rfl
      refine ⟨.tuple vs.toArray, ?_, by rw [hone]; simp only [Rel]; exact ⟨vs, rfl, hr⟩⟩
      have hne : vs.toArray.size ≠ 1 := fun e => by
        have : ss.length = 1 := by rw [← hvl]; simpa using e
        exact h1 (List.length_eq_one_iff.1 this)
      rw [results_eq]
      simp only [Sem.run_bind, e1, Result.andThen_ok]
      rw [dif_neg hne]
      rfl
  obtain ⟨v, hv, hrel⟩ := hres
  rw [resK_eq] at hK
  obtain ⟨c', res, hp', hp1, he⟩ := hK.ends hm hxk hS.inv hS.full hrel
  exact ⟨v, c', res, hp', hv, hp1, he⟩

/-- The state in which a function begins. -/
def tm0 (fn : Func) (args : List Sv) : List Sv := args ++ List.replicate (fn.ntmps - args.length) .any

theorem RelT_at : ∀ (ss : List Sv) {c : Cx} {vs : List Value}, RelT ss c vs → vs.length = ss.length ∧ ∀ (i : Nat) (s : Sv) (v : Value), ss[i]? = some s → vs[i]? = some v → Rel s c v
  | [], _, _, r => by simp only [RelT] at r; subst r; simp
  | s :: ss, _, _, r => by
    simp only [RelT] at r
    obtain ⟨u, us, rfl, hs, hl⟩ := r
    obtain ⟨h1, h2⟩ := RelT_at ss hl
    refine ⟨by simp [h1], fun i t v hi hv => ?_⟩
    cases i with
    | zero => simp at hi hv; subst hi; subst hv; exact hs
    | succ i => exact h2 i t v (by simpa using hi) (by simpa using hv)

def kRet (G : Gm) (fn : Func) (post : Sv → Hp → Prop) (e : Exit) (tm : List Sv) (hp : Hp) : Prop :=
  match e with
  | .normal => retV G fn tm hp post
  | .ret => retV G fn tm hp post
  | _ => False

/-- **A contract out of the body.** -/
theorem leaves_marks {G : Gm} {fn : Func} {F : Fence} {n : Nat} {w0 : World} {M : Frm} {tm : List Sv} {hp : Hp} {post : Sv → Hp → Prop} (hr : retV G fn tm hp post) (hm : M.m = G.m) (hxk : ∀ b, M.Xk b → M.G b) (tmps : Array Value) :
    ∀ (ml : List Nat) (c : Cx), St w0 M c tm hp { tmps := tmps, defers := [] } [] → ml.Nodup → (∀ b ∈ ml, w0.heap.size ≤ b ∧ c.Z b ∧ c.C b ∧ c.w.heap[b]? = some (.deferred (some []))) →
      LeavesInM F n G.P fn tmps (fun e w' => ∃ v c' res hp', e = .returned v ∧ post res hp' ∧ Ends w0 M c' w' v res hp') (ml.map mkD) .returning c.w
  | [], c, hS, _, _ => by
    obtain ⟨v, c', res, hp', h1, h2, h3⟩ := results_run hr hm hxk hS
    exact ⟨v, h1, v, c', res, hp', rfl, h2, h3⟩
  | b :: ml, c, hS, hnd, hml => by
    obtain ⟨g1, g2, g3, g4⟩ := hml b (by simp)
    obtain ⟨hI, hle⟩ := hS.inv.putZ (.deferred none) g2 g1
    refine ⟨by simp, .inl ⟨b, _, rfl, run_takeDeferred g4, ?_⟩⟩
    refine leaves_marks hr hm hxk tmps ml { c with w := c.w.putObj b (.deferred none) } { inv := hI, full := hS.full, rel := fun t => Rel.le _ (Sv.all_true _) hle (hS.rel t), size := hS.size, ds := Marks.none } (List.nodup_cons.1 hnd).2 fun b' hb' => ?_
    obtain ⟨f1, f2, f3, f4⟩ := hml b' (by simp [hb'])
    exact ⟨f1, f2, f3, (World.putObj_heap_other (show b' ≠ b from fun e => (List.nodup_cons.1 hnd).1 (by rw [← e]; exact hb'))).trans f4⟩

theorem body_calls {G : Gm} {f : Nat} {fn : Func} {code : Code} {args : List Sv} {hpin : List Blk} {post : Sv → Hp → Prop} (hf : G.P.funcs[f]? = some fn) (hb : fn.body = some code)
    (h : spineK (tm0 fn args) fun tm => runC G code tm (hpin.map some) (kRet G fn post)) {M : Frm} {c : Cx} {vs : List Value} (hm : G.fits c.w M) (hxk : ∀ b, M.Xk b → M.G b) (hy : YdOk G.P c.w M G.l G.its) (hInv : Inv c.w M c (hpin.map some))
    (hfull : ∀ (k : Nat) (b : Blk), (hpin.map some)[k]? = some (some b) → c.D k) (hargs : RelT args c vs) :
    Calls G.P f vs.toArray c.w fun e w' => ∃ v c' res hp', e = .returned v ∧ post res hp' ∧ Ends c.w M c' w' v res hp' := by
  rw [spineK_eq] at h
  rw [← callsIn_wide (n := 0)]
  obtain ⟨hvl, hvr⟩ := RelT_at _ hargs
  refine callsIn_of_wp_marks hf hb trivial ?_
  have hS : St c.w M c (tm0 fn args) (hpin.map some) { tmps := vs.toArray ++ Array.replicate (fn.ntmps - vs.toArray.size) undef, defers := [] } [] := by
    refine { inv := hInv, full := hfull, rel := fun t => ?_, size := by simp [tm0, hvl], ds := Marks.none }
    · unfold tmGet tm0
      rw [nth_eq]
      by_cases ht : t < args.length
      · rw [List.getElem?_append_left ht, List.getElem?_eq_getElem ht]
        have htv : t < vs.length := by omega
        have : (vs.toArray ++ Array.replicate (fn.ntmps - vs.toArray.size) undef).getD t undef = vs[t] := by
          rw [Array.getD_eq_getD_getElem?, Array.getElem?_append_left (by simpa using htv)]
          simp [htv]
        rw [this]
        exact hvr t _ _ (List.getElem?_eq_getElem ht) (List.getElem?_eq_getElem htv)
      · rw [List.getElem?_append_right (by omega), List.getElem?_replicate]
        split
        · rename_i heq
          by_cases hh : t - args.length < fn.ntmps - args.length
          · rw [if_pos hh] at heq
            injection heq with heq
            subst heq
            trivial
          · rw [if_neg hh] at heq; cases heq
        · trivial
  refine runC_sound code G Fence.wide 0 c.w M [] _ _ _ _ c _ open_wide hm hy (fun l0 h => by cases h) h ?_ hS
  intro e a c1 tm hp hk hs
  have fin : retV G fn tm hp post → LeavesInM Fence.wide 0 G.P fn a.tmps (fun e w' => ∃ v c' res hp', e = .returned v ∧ post res hp' ∧ Ends c.w M c' w' v res hp') a.defers .returning c1.w := fun hr => by
    obtain ⟨ml, e1, e2, e3⟩ := hs.ds
    rw [e1, List.append_nil]
    exact leaves_marks hr hm.1 hxk a.tmps ml c1 { inv := hs.inv, full := hs.full, rel := hs.rel, size := hs.size, ds := Marks.none } e2 e3
  cases e with
  | normal => exact fin hk
  | ret => exact fin hk
  | exit _ => exact hk.elim
  | goto _ => exact hk.elim
  | panic _ => exact hk.elim
  | outgrown => exact hk.elim

theorem mcon_of {G : Gm} {f : Nat} {fn : Func} {code : Code} {args : List Sv} {hpin : List Blk} {post : Sv → Hp → Prop} (hf : G.P.funcs[f]? = some fn) (hb : fn.body = some code) (hn : (fn.name == "runtime.NumGoroutine") = false) (hgm : G.m = hpin.length)
    (h : spineK (tm0 fn args) fun tm => runC G code tm (hpin.map some) (kRet G fn post)) (hits : G.its = [] := by rfl) (hJ : G.J = none := by rfl) : MCon G.P f args hpin post := by
  refine ⟨⟨fn, hf, hn, by rw [hb]; rfl⟩, fun w M c vs hcw hMm hxk hInv hfull hargs => ?_⟩
  subst hcw
  exact body_calls hf hb h ⟨hMm.trans hgm.symm, fun j e => by rw [hJ] at e; cases e⟩ (fun b hb => absurd hb (hxk b)) (by rw [hits]; exact YdOk.nil) hInv hfull hargs

/-- **The contract of a function that is ranged over, out of its body.** -/
theorem icon_of {G : Gm} {f : Nat} {fn : Func} {code : Code} {args : Value → List Sv} {its : List (List Sv)} (hf : G.P.funcs[f]? = some fn) (hb : fn.body = some code) (hn : (fn.name == "runtime.NumGoroutine") = false)
    (h : ∀ l, spineK (tm0 fn (args (.func (.yield l) #[] #[]))) fun tm => runC (G.it l its) code tm [some (gB [])] (kRet (G.it l its) fn fun _ hp => hpGet hp 0 = some (gB its) ∨ ∃ pre, hpGet hp 0 = some (gS pre))) : ICon G.P f args its := by
  refine ⟨⟨fn, hf, hn, by rw [hb]; rfl⟩, fun l M c vs hMm hxk hInv hD hy hargs => ?_⟩
  refine (body_calls (G := G.it l its) (hpin := [gB []]) hf hb (h l) ⟨hMm, fun j e => by cases e⟩ (fun b hb => absurd hb (hxk b)) hy hInv (fun k b hk => ?_) hargs).mono fun e w' hR => ?_
  · cases k with
    | zero => exact hD
    | succ k => simp at hk
  · obtain ⟨v, c', res, hp', h1, h2, h3⟩ := hR
    refine ⟨v, c', res, hp', h1, h3, ?_⟩
    rcases h2 with h2 | ⟨pre, h2⟩
    · exact .inl (hpGet_eq.1 h2)
    · exact .inr ⟨pre, hpGet_eq.1 h2⟩

theorem YdOk.pre {P : Program} {w0 : World} {M : Frm} {l : Nat} {its all : List (List Sv)} (h : YdOk P w0 M l all) (hp : its <+: all) : YdOk P w0 M l its := by
  refine ⟨fun hne => h.1 fun e => hne ?_, fun F n pre x c hp' vs C1 hF hpre => h.2 F n pre x c hp' vs C1 hF (hpre.trans hp)⟩
  rw [e] at hp
  simpa using hp
/-- The frame of a function to which a loop's body is handed on. -/
def Frm.lent (M : Frm) (c : Cx) (C1 : Nat → Prop) : Frm := { M := fun _ => False, G := c.G, Y := c.A, m := 1, E0 := fun _ => ⟨0, 0, true, 0⟩, J := M.J, C0 := fun b => C1 b ∨ c.A b, X0 := fun b => c.X b ∧ c.G b, Xk := fun b => c.X b ∧ c.G b }
theorem YdOk.lent {P : Program} {w0 : World} {M : Frm} {l : Nat} {all : List (List Sv)} {c : Cx} {hp : Hp} {C1 : Nat → Prop} (hy : YdOk P w0 M l all) (hI : Inv w0 M c hp) (hC1 : ∀ b, C1 b → c.C b ∧ ¬ c.Z b) : YdOk P c.w (M.lent c C1) l all := by
  refine ⟨fun _ => ⟨Nat.zero_lt_one, rfl⟩, fun F n pre x c2 hp2 vs C2 hF hpre hI2 hC2 hJ hr => ?_⟩
  have hZx : ∀ b, c.Z b → b < c.w.heap.size := fun b hb => (hI.cc b (hI.zc b hb).1).1
  have hxo : ∀ b, c2.X b → c.w.heap.size ≤ b ∨ c.X b := fun b hb => by
    rcases hI2.x0 b hb with h | h | h
    · exact .inl h
    · exact h.elim
    · exact .inr h.1
  have hGG : c2.G = c.G := hI2.bnd
  let c3 : Cx := { E := c.E, D := fun _ => False, X := fun b => c2.X b ∨ c.X b, G := c2.G, w := c2.w, A := c2.A, C := fun b => c2.C b ∨ c.Z b, Z := c.Z }
  have hAo : ∀ b, c2.A b → c2.C b ∧ ¬ c2.X b ∧ (c.w.heap.size ≤ b ∨ c.A b) := fun b hb => hI2.ca b hb
  have hCo : ∀ b, c2.C b → b < c2.w.heap.size ∧ (c.w.heap.size ≤ b ∨ C1 b ∨ c.A b ∨ c.X b ∧ c.G b) := fun b hb => by
    obtain ⟨h1, _, h2⟩ := hI2.cc b hb
    refine ⟨h1, ?_⟩
    rcases h2 with h | (h | h) | h | h
    · exact .inl h
    · exact .inr (.inl h)
    · exact .inr (.inr (.inl h))
    · exact h.elim
    · exact .inr (.inr (.inr h))
  have hZC : ∀ b, c2.C b → ¬ c.Z b := fun b hb hz => by
    obtain ⟨g1, g2, g3⟩ := hI.zc b hz
    rcases (hCo b hb).2 with h | h | h | h
    · have := hZx b hz; omega
    · exact (hC1 b h).2 hz
    · exact g2 h
    · exact g3 h.1
  have hI3 : Inv w0 M c3 hp := {
    dom := fun k hk => hk.elim
    inj := fun k k' hk => hk.elim
    xsep := fun k b hk => hk.elim
    xlt := fun b hb => hb.elim (hI2.xlt b) fun h => Nat.lt_of_lt_of_le (hI.xlt b h) hI2.size
    xY := fun b hb hY => by
      rcases hb with hb | hb
      · rcases hxo b hb with h | h
        · have := (hI.bndG.y b hY).1
          have := hI.size
          omega
        · exact hI.xY b h hY
      · exact hI.xY b hb hY
    bnd := hGG.trans hI.bnd
    bndG := hI.bndG
    e0 := fun k _ hk => hk.elim
    mlen := hI.mlen
    os := hI2.os.trans hI.os
    tape := hI2.tape.trans hI.tape
    output := hI2.output.trans hI.output
    size := Nat.le_trans hI.size hI2.size
    keep := fun j hj hm hY => (hI2.keep j (Nat.lt_of_lt_of_le hj hI.size) (fun h => h) (fun ha => by
      rcases (hI.ca j ha).2.2 with h | h
      · omega
      · exact hY h)).trans (hI.keep j hj hm hY)
    loc := fun k hk => hk.elim
    x0 := fun b hb => by
      rcases hb with hb | hb
      · rcases hxo b hb with h | h
        · exact .inl (Nat.le_trans hI.size h)
        · exact hI.x0 b h
      · exact hI.x0 b hb
    ca := fun b hb => by
      obtain ⟨h1, h2, h3⟩ := hAo b hb
      refine ⟨.inl h1, fun hx => ?_, ?_⟩
      · rcases hx with hx | hx
        · exact h2 hx
        · rcases h3 with h | h
          · have := hI.xlt b hx; omega
          · exact (hI.ca b h).2.1 hx
      · rcases h3 with h | h
        · exact .inl (Nat.le_trans hI.size h)
        · exact (hI.ca b h).2.2
    cc := fun b hb => by
      rcases hb with hb | hb
      · refine ⟨(hCo b hb).1, fun k hk => hk.elim, ?_⟩
        rcases (hCo b hb).2 with h | h | h | h
        · exact .inl (Nat.le_trans hI.size h)
        · exact (hI.cc b (hC1 b h).1).2.2
        · exact (hI.cc b (hI.ca b h).1).2.2
        · rcases hI.x0 b h.1 with h | h | h
          · exact .inl h
          · exact .inr (.inr (.inl h))
          · exact .inr (.inr (.inr h))
      · exact ⟨Nat.lt_of_lt_of_le (hZx b hb) hI2.size, fun k hk => hk.elim, (hI.cc b (hI.zc b hb).1).2.2⟩
    gh := fun k blk hk => hk.elim
    zc := fun b hb => by
      obtain ⟨g1, g2, g3⟩ := hI.zc b hb
      refine ⟨.inr hb, fun ha => hZC b (hAo b ha).1 hb, fun hx => ?_⟩
      rcases hx with hx | hx
      · rcases hxo b hx with h | h
        · have := hZx b hb; omega
        · exact g3 h
      · exact g3 hx
    z0 := hI.z0
    xk := fun b hb => .inr (hI.xk b hb) }
  have hle : c2.pick.shut.Le (fun _ => true) c3.pick.shut := ⟨fun _ _ h => h.elim, fun b hb => ⟨.inl hb.1, hb.2⟩, fun _ _ h => h, fun _ _ => rfl⟩
  obtain ⟨fn, tmps, assign, body, h1, h2⟩ := hy.2 F n pre x c3 hp vs C2 hF hpre hI3 (fun b hb => ⟨.inl (hC2 b hb).1, hZC b (hC2 b hb).1⟩) hJ (RelT.le _ (allL_true _) hle hr)
  refine ⟨fn, tmps, assign, body, h1, h2.mono fun e w' hR => ?_⟩
  obtain ⟨A', C', hp1, hp2⟩ := hR
  refine ⟨A', C', { os := hp1.os, tape := hp1.tape, output := hp1.output, size := hp1.size, keep := hp1.keep, a := hp1.a, c := fun b hb => ?_ }, hp2⟩
  obtain ⟨k1, k2⟩ := hp1.c b hb
  refine ⟨k1, ?_⟩
  rcases k2 with h | h | ⟨h, hg⟩
  · exact .inl h
  · exact .inr (.inl h)
  · rcases h with h | h
    · exact .inr (.inr ⟨h, hg⟩)
    · exact .inr (.inr ⟨hI2.xk b ⟨h, by rw [← hGG]; exact hg⟩, hg⟩)
/-- **The contract of a function to which a loop's body is handed on, out of its body.** -/
theorem wcon_of {G : Gm} {f : Nat} {fn : Func} {code : Code} {args : Value → List Sv} {its : List (List Sv)} (hf : G.P.funcs[f]? = some fn) (hb : fn.body = some code) (hn : (fn.name == "runtime.NumGoroutine") = false)
    (h : ∀ l pre, FrR pre → spineK (tm0 fn (args (.func (.yield l) #[] #[]))) fun tm => runC (G.it l (pre ++ its)) code tm [some (gB pre)] (kRet (G.it l (pre ++ its)) fn fun r hp => r = .val (.bool true) ∧ hpGet hp 0 = some (gB (pre ++ its)) ∨ ∃ q, FrR q ∧ r = .val (.bool false) ∧ hpGet hp 0 = some (gS q))) : WCon G.P f args its := by
  refine ⟨⟨fn, hf, hn, by rw [hb]; rfl⟩, fun l w0 M c hp vs pre all C1 hfp hy hpre hI hC1 hJ hargs => ?_⟩
  have hy2 := (hy.lent hI hC1).pre hpre
  let cx : Cx := { E := fun _ => ⟨0, 0, true, 0⟩, D := fun k => k = 0, X := fun b => c.X b ∧ c.G b, G := c.G, w := c.w, A := c.A, C := fun b => C1 b ∨ c.A b }
  have hfit : (M.lent c C1).Fit c.w := ⟨fun b hb => hb.elim (fun hb => by show c.G b; rw [hI.bnd]; exact hI.bndG.g b (.inl (Nat.le_trans hI.size hb))) fun hb => hb.elim, fun b hb => ⟨(hI.cc b (hI.ca b hb).1).1, fun h => h⟩, hI.bndG.js⟩
  have hIx : Inv c.w (M.lent c C1) cx ([gB pre].map some) := {
    dom := fun k hk => by
      cases hk
      exact ⟨_, rfl, rfl, fun _ => .inr ⟨rfl, rfl, rfl⟩, fun h => by cases h⟩
    inj := fun k k' hk hk' hne => by cases hk; cases hk'; exact absurd rfl hne
    xsep := fun k b hk hn => by cases hn
    xlt := fun b hb => hI.xlt b hb.1
    xY := fun b hb ha => (hI.ca b ha).2.1 hb.1
    bnd := rfl, bndG := hfit
    e0 := fun k _ _ => rfl
    mlen := Nat.le_refl _
    os := rfl, tape := rfl, output := rfl, size := Nat.le_refl _
    keep := fun _ _ _ _ => rfl
    loc := fun k hk hn => by cases hn
    x0 := fun b hb => .inr (.inr hb)
    ca := fun b hb => ⟨.inr hb, fun hx => (hI.ca b hb).2.1 hx.1, .inr hb⟩
    cc := fun b hb => by
      refine ⟨?_, fun k hk hn => (by cases hn), .inr (.inl hb)⟩
      rcases hb with hb | hb
      · exact (hI.cc b (hC1 b hb).1).1
      · exact (hI.cc b (hI.ca b hb).1).1
    gh := fun k blk hk hbk _ _ => by
      cases hk
      cases hbk
      exact ⟨C1, fun b hb => ⟨.inl hb, fun h => h⟩, hJ⟩
    zc := fun b hb => hb.elim
    z0 := fun b hb => hb.elim
    xk := fun b hb => hb }
  have hle : c.pick.shut.Le (fun _ => true) cx := ⟨fun _ _ h => h.elim, fun b hb => hb, fun _ _ h => h, fun _ _ => rfl⟩
  have hargs2 : RelT (args (.func (.yield l) #[] #[])) cx vs := RelT.le _ (allL_true _) hle hargs
  refine (body_calls (G := G.it l (pre ++ its)) (hpin := [gB pre]) (M := M.lent c C1) (c := cx) hf hb (h l pre hfp) ⟨rfl, fun j e => by cases e⟩ (fun b hb => hb.2) hy2 hIx (fun k b hk => ?_) hargs2).mono fun e w' hR => ?_
  · have := (List.getElem?_eq_some_iff.1 hk).1
    simp at this
    exact this
  · obtain ⟨v, c', res, hp', h1, h2, hE⟩ := hR
    have hi := hE.inv
    have hw := hE.weq
    subst hw
    have main : ∀ (st : Nat) (q : List (List Sv)), hpGet hp' 0 = some ⟨st, 0, true, false, q⟩ → ∃ A' C', WPost c C1 c'.w A' C' ∧ M.J st q A' C' c'.w := fun st q hq => by
      have hq' := hpGet_eq.1 hq
      have hD := hE.full 0 _ hq'
      have hnil : (c'.E 0).nil = true := by rw [hi.e0 0 Nat.zero_lt_one hD]; rfl
      obtain ⟨C2, hC2, hJ2⟩ := hi.gh 0 _ hD hq' hnil rfl
      refine ⟨c'.A, C2, { os := hi.os, tape := hi.tape, output := hi.output, size := hi.size, keep := fun b hb hA => hi.keep b hb (fun h => h) hA, a := fun b hb => ?_, c := fun b hb => ?_ }, hJ2⟩
      · obtain ⟨k1, _, k3⟩ := hi.ca b hb
        exact ⟨k3.symm, (hi.cc b k1).1⟩
      · obtain ⟨k1, _, k3⟩ := hi.cc b (hC2 b hb).1
        refine ⟨k1, ?_⟩
        rcases k3 with h | (h | h) | h | h
        · exact .inr (.inr (.inl h))
        · exact .inl h
        · exact .inr (.inl h)
        · exact h.elim
        · exact .inr (.inr (.inr h))
    have hr := hE.rel
    rcases h2 with ⟨rfl, h2⟩ | ⟨q, hq, rfl, h2⟩
    · obtain ⟨A', C', p1, p2⟩ := main _ _ h2
      simp only [Rel] at hr
      exact ⟨A', C', p1, .inl ⟨by rw [h1, hr], p2⟩⟩
    · obtain ⟨A', C', p1, p2⟩ := main _ _ h2
      simp only [Rel] at hr
      exact ⟨A', C', p1, .inr ⟨q, hq, by rw [h1, hr], p2⟩⟩

theorem pcon_of {G : Gm} {f : Nat} {fn : Func} {code : Code} {args : List Sv} {res : Sv} {nb : List Blk} (hf : G.P.funcs[f]? = some fn) (hb : fn.body = some code) (hn : (fn.name == "runtime.NumGoroutine") = false) (hgm : G.m = 0)
    (h : spineK (tm0 fn args) fun tm => runC G code tm [] (kRet G fn fun r h => r = res ∧ h = nb.map some)) (hits : G.its = [] := by rfl) (hJ : G.J = none := by rfl) : PCon G.P f args res nb := mcon_of hf hb hn hgm h hits hJ

/-- A function that keeps a tale of blocks, and hands no block back. -/
theorem pcon_of_tale {G : Gm} {f : Nat} {fn : Func} {code : Code} {args : List Sv} {res : Sv} (J : World → Nat → List (List Sv) → (Nat → Prop) → (Nat → Prop) → World → Prop) (hf : G.P.funcs[f]? = some fn) (hb : fn.body = some code) (hn : (fn.name == "runtime.NumGoroutine") = false) (hgm : G.m = 0)
    (hjs : ∀ w0 st r A C w w', J w0 st r A C w → WSame C w w' → J w0 st r A C w')
    (h : spineK (tm0 fn args) fun tm => runC (G.tale J) code tm [] (kRet (G.tale J) fn fun r h => r = res ∧ h = [])) (hits : G.its = [] := by rfl) : PCon G.P f args res [] := by
  refine ⟨⟨fn, hf, hn, by rw [hb]; rfl⟩, fun w M c vs hcw hMm hxk hI hfull hargs => ?_⟩
  subst hcw
  have hI' : Inv c.w { M with J := J c.w, M := fun _ => False, X0 := fun b => M.M b ∨ M.X0 b } c ([] : Hp) := { dom := hI.dom, inj := hI.inj, xsep := hI.xsep, xlt := hI.xlt, xY := hI.xY, bnd := hI.bnd, bndG := ⟨fun b hb => hI.bndG.g b (hb.elim .inl fun h => h.elim), fun b hb => ⟨(hI.bndG.y b hb).1, fun h => h⟩, hjs c.w⟩, e0 := hI.e0, mlen := hI.mlen, os := hI.os, tape := hI.tape, output := hI.output, size := hI.size, keep := fun _ _ _ _ => rfl, loc := fun k hD _ => (by obtain ⟨blk, hb, _⟩ := hI.dom k hD; simp at hb), x0 := fun b hb => (hI.x0 b hb).elim .inl fun h => .inr (.inr h), ca := hI.ca, cc := fun b hb => ⟨(hI.cc b hb).1, (hI.cc b hb).2.1, by rcases (hI.cc b hb).2.2 with h | h | h; exact .inl h; exact .inr (.inl h); exact .inr (.inr (.inr h))⟩, gh := fun k blk _ hb => by simp at hb, zc := hI.zc, z0 := hI.z0, xk := hI.xk }
  refine (body_calls (G := G.tale J) (hpin := []) (M := { M with J := J c.w, M := fun _ => False, X0 := fun b => M.M b ∨ M.X0 b }) hf hb h ⟨hMm.trans hgm.symm, fun j e => by cases e; exact ⟨rfl, fun _ h => h⟩⟩ (fun b hb => absurd hb (hxk b)) (by show YdOk _ _ _ _ G.its; rw [hits]; exact YdOk.nil) hI' hfull hargs).mono fun e w' hR => ?_
  obtain ⟨v, c', r, hp', h1, ⟨h2, h3⟩, hE⟩ := hR
  subst h3
  have hi := hE.inv
  exact ⟨v, c', r, [], h1, ⟨h2, rfl⟩, { weq := hE.weq, inv := { dom := hi.dom, inj := hi.inj, xsep := hi.xsep, xlt := hi.xlt, xY := hi.xY, bnd := hi.bnd, bndG := hI.bndG, e0 := hi.e0, mlen := hi.mlen, os := hi.os, tape := hi.tape, output := hi.output, size := hi.size, keep := fun j hj _ hy => hi.keep j hj (fun h => h) hy, loc := fun k hD _ => (by obtain ⟨blk, hb, _⟩ := hi.dom k hD; simp at hb), x0 := fun b hb => by rcases hi.x0 b hb with h | h | h | h; exact .inl h; exact h.elim; exact .inr (.inl h); exact .inr (.inr h), ca := hi.ca, cc := fun b hb => ⟨(hi.cc b hb).1, (hi.cc b hb).2.1, by rcases (hi.cc b hb).2.2 with h | h | h | h | h; exact .inl h; exact .inr (.inl h); exact h.elim; exact .inr (.inr (.inl h)); exact .inr (.inr (.inr h))⟩, gh := fun k blk _ hb => by simp at hb, zc := hi.zc, z0 := hi.z0, xk := hi.xk }, full := hE.full, x := hE.x, rel := hE.rel }⟩

theorem RetP.v {hp : Hp} {v v' : Value} (h : v = v') : RetP hp (.val v) (.val v') [] := by
  subst h
  exact RetM.mk [] [] (.val v) [] List.nodup_nil rfl rfl (by simp [Vw]) (by simp [Sv.Fr]) trivial ⟨rfl, rfl⟩
theorem RetP.go {hp : Hp} {r res : Sv} {nb : List Blk} (zs : List (Nat × Nat)) (sel : List Nat) (h1 : sel.Nodup) (h2 : VwBs (hp ++ zs.map fun p => some (nilB p)) (nlB hp.length (hp.length + zs.length)) sel sel (nb.map some))
    (h3 : Vw (hp ++ zs.map fun p => some (nilB p)) (nlB hp.length (hp.length + zs.length)) sel r res) (h4 : res.Fr) (h5 : FrB (nb.map some)) : RetP hp r res nb :=
  RetM.mk zs sel res _ h1 rfl h2 h3 h4 h5 ⟨rfl, rfl⟩

/-! ### Ways -/
theorem Br.pos {b : Bool} {t e : Prop} (hb : b = true) (h : t) : Br b t e := ⟨fun _ => h, fun hn => by rw [hb] at hn; cases hn⟩
theorem Br.neg {b : Bool} {t e : Prop} (hb : b = false) (h : e) : Br b t e := ⟨fun hn => (by rw [hb] at hn; cases hn), fun _ => h⟩
theorem Br.dpos {p : Prop} [Decidable p] {t e : Prop} (hb : p) (h : t) : Br (decide p) t e := .pos (by simpa using hb) h
theorem Br.dneg {p : Prop} [Decidable p] {t e : Prop} (hb : ¬ p) (h : e) : Br (decide p) t e := .neg (by simpa using hb) h
theorem Br.d {p : Prop} [Decidable p] {t e : Prop} (h : p → t) (h' : ¬ p → e) : Br (decide p) t e := ⟨fun hb => h (by simpa using hb), fun hb => h' (by simpa using hb)⟩
theorem Br.n {b : Bool} {t e : Prop} (h : Br b e t) : Br (!b) t e := by
  obtain ⟨h1, h2⟩ := h
  exact ⟨fun hb => h2 (by simpa using hb), fun hb => h1 (by simpa using hb)⟩
end Go.Eng

/- The engine, part K: loops. -/
namespace Go.Eng
open Go Go.RowKit

/-- Slots, in a list of which the rest is forgotten. -/
def mkT : Nat → Nat → List (Nat × Sv) → List Sv
  | 0, _, _ => []
  | n + 1, i, [] => .any :: mkT n (i + 1) []
  | n + 1, i, (k, s) :: r => match Nat.beq i k with
    | true => s :: mkT n (i + 1) r
    | false => .any :: mkT n (i + 1) ((k, s) :: r)

theorem mkT_length : ∀ (n i : Nat) (l : List (Nat × Sv)), (mkT n i l).length = n
  | 0, _, _ => rfl
  | n + 1, i, [] => by simp [mkT, mkT_length n]
  | n + 1, i, (k, s) :: r => by
    simp only [mkT]
    split <;> simp [mkT_length n]

theorem mkT_rel {c : Cx} {vs : Nat → Value} : ∀ (n i : Nat) (l : List (Nat × Sv)), (∀ p ∈ l, Rel p.2 c (vs p.1)) → ∀ t, Rel (tmGet (mkT n i l) t) c (vs (i + t))
  | 0, _, _, _, t => by simp [mkT, tmGet, nth, Rel]
  | n + 1, i, [], h, t => by
    cases t with
    | zero => simp [mkT, tmGet, nth, Rel]
    | succ t => rw [show i + (t + 1) = i + 1 + t by omega]; exact mkT_rel n (i + 1) [] h t
  | n + 1, i, (k, s) :: r, h, t => by
    simp only [mkT]
    split
    · rename_i hk
      have := Nat.eq_of_beq_eq_true hk
      subst this
      cases t with
      | zero => exact h (i, s) (by simp)
      | succ t => rw [show i + (t + 1) = i + 1 + t by omega]; exact mkT_rel n (i + 1) r (fun p hp => h p (by simp [hp])) t
    · cases t with
      | zero => simp [tmGet, nth, Rel]
      | succ t => rw [show i + (t + 1) = i + 1 + t by omega]; exact mkT_rel n (i + 1) _ h t


/-- The slots of the spec hold what it says, seen through the view. -/
def VwT (hp : Hp) (nl : Nat → Bool) (sel : List Nat) (tm : List Sv) : List (Nat × Sv) → Prop
  | [] => True
  | (k, s) :: r => Vw hp nl sel (tmGet tm k) s ∧ VwT hp nl sel tm r
theorem VwT_mem {hp : Hp} {nl : Nat → Bool} {sel : List Nat} {tm : List Sv} : ∀ {l : List (Nat × Sv)}, VwT hp nl sel tm l → ∀ p ∈ l, Vw hp nl sel (tmGet tm p.1) p.2
  | [], _, p, h => by cases h
  | (k, s) :: r, hv, p, h => by
    simp only [VwT] at hv
    rcases List.mem_cons.1 h with rfl | h
    · exact hv.1
    · exact VwT_mem hv.2 p h

/-- **The state at a loop's head**: zs: nil slices that become blocks (elements' type, width); sel: which blocks live on, by their new places. -/
inductive AtS (m : Nat) (tm : List Sv) (hp : Hp) (n : Nat) (spec : List (Nat × Sv)) (hps : Hp) : Prop
  | mk (zs : List (Nat × Nat)) (sel : List Nat) : Nat.beq tm.length n = true → sel.Nodup → preB m 0 sel = true →
      VwBs (hp ++ zs.map fun p => some (nilB p)) (nlB hp.length (hp.length + zs.length)) sel sel hps →
      VwT (hp ++ zs.map fun p => some (nilB p)) (nlB hp.length (hp.length + zs.length)) sel tm spec → AtS m tm hp n spec hps

theorem AtS.weak {m : Nat} {tm : List Sv} {hp : Hp} {n : Nat} {spec : List (Nat × Sv)} {hps : Hp} (h : AtS m tm hp n spec hps) : Weak m tm hp (mkT n 0 spec) hps := by
  obtain ⟨zs, sel, hn, hnd, hpre, hbs, hvw⟩ := h
  intro w0 M c a ds hm hS
  have hl := Nat.eq_of_beq_eq_true hn
  obtain ⟨c1, ew, ex, eb, hle, hI, hD, hnil, hcq⟩ := hS.inv.nils zs hS.full
  have hk := hI.vk hnil hbs
  have hv := view_inv hk hD hnd (hm ▸ hpre) hbs
  refine ⟨c1.view sel hps, ew, { inv := hv, full := fun k b hb => ⟨b, hb⟩, rel := fun t => ?_, size := by rw [mkT_length, ← hl]; exact hS.size, ds := (hS.ds.cq hcq).cq ⟨rfl, rfl, rfl, fun _ _ => rfl⟩ }⟩
  have := mkT_rel (c := c1.view sel hps) (vs := fun t => a.tmps.getD t undef) n 0 spec (fun p hp => Vw.rel hk p.2 (VwT_mem hvw p hp) (Rel.le _ (Sv.all_true _) hle (hS.rel p.1))) t
  rwa [Nat.zero_add] at this

/-- A loop, with a state for each turn and a measure. -/
def AtI {σ : Type} (n : Nat) (spec : σ → List (Nat × Sv)) (hps : σ → Hp) (P : σ → Prop) (mu : σ → Nat) (m : Nat) (tm : List Sv) (hp : Hp) : Prop :=
  ∃ s, m = mu s ∧ P s ∧ tm = mkT n 0 (spec s) ∧ hp = hps s

theorem LoopV.on {J : Option (World → Nat → List (List Sv) → (Nat → Prop) → (Nat → Prop) → World → Prop)} {mm : Nat} {σ : Type} {body : List Sv → Hp → (Exit → List Sv → Hp → Prop) → Prop} {tm : List Sv} {hp : Hp} {K : Exit → List Sv → Hp → Prop} {n : Nat} (_ : tm.length = n) (spec : σ → List (Nat × Sv)) (hps : σ → Hp) (P : σ → Prop) (mu : σ → Nat) (s0 : σ)
    (h0 : AtS mm tm hp n (spec s0) (hps s0)) (hP : P s0)
    (step : ∀ s, P s → body (mkT n 0 (spec s)) (hps s) fun e tm' hp' => match e with | .normal => ∃ m, m < mu s ∧ Back mm tm' hp' (AtI n spec hps P mu m) | e => K e tm' hp') : LoopV J mm body tm hp K := by
  refine LoopV.mk (AtI n spec hps P mu) (mu s0) (Back.mk _ _ h0.weak ⟨s0, rfl, hP, rfl, rfl⟩) ?_
  rintro m tm hp ⟨s, rfl, h, rfl, rfl⟩
  exact step s h

theorem nx {mm : Nat} {σ : Type} {n : Nat} {spec : σ → List (Nat × Sv)} {hps : σ → Hp} {P : σ → Prop} {mu : σ → Nat} {m : Nat} {tm : List Sv} {hp : Hp} (s : σ) (h1 : mu s < m) (h2 : P s) (h3 : AtS mm tm hp n (spec s) (hps s)) :
    ∃ m', m' < m ∧ Back mm tm hp (AtI n spec hps P mu m') := ⟨mu s, h1, Back.mk _ _ h3.weak ⟨s, rfl, h2, rfl, rfl⟩⟩

/-! ### For use -/
theorem hpGet_new {hp : Hp} {b : Blk} : hpGet (hp ++ [some b]) hp.length = some b := by rw [hpGet_eq]; simp
theorem nlB_new (n : Nat) : nlB n (n + 1) n = true := by unfold nlB; simp
theorem VwB.refl {hp : Hp} {nl : Nat → Bool} {sel : List Nat} {e wd : Nat} {gr : Bool} {rows : List (List Sv)} : VwB hp nl sel ⟨e, wd, true, gr, rows⟩ ⟨e, wd, true, gr, rows⟩ := ⟨rfl, rfl, rfl, .inl ⟨rfl, rfl, rfl⟩⟩
theorem RetP.nil {hp : Hp} {e wd : Nat} : RetP hp (.val (.slice none 0 0)) (.own 0 0) [⟨e, wd, true, true, []⟩] :=
  RetP.go [(e, wd)] [hp.length] (by simp) ⟨⟨_, hpGet_new, VwB.refl⟩, rfl⟩ ⟨⟨_, rfl, nlB_new _⟩, rfl⟩ (by simp [Sv.Fr]) ⟨by simp [Sv.Fr.goR], trivial⟩
theorem hpGet_app {hp : Hp} {k : Nat} {b : Blk} (h : hpGet hp k = some b) (l : Hp) : hpGet (hp ++ l) k = some b := by
  rw [hpGet_eq] at h ⊢
  rw [List.getElem?_append_left (List.getElem?_eq_some_iff.1 h).1]
  exact h
theorem RetP.own {hp : Hp} {k n e wd : Nat} {gr : Bool} {rows : List (List Sv)} (h : hpGet hp k = some ⟨e, wd, true, gr, rows⟩) (hf : FrR rows) : RetP hp (.own k n) (.own 0 n) [⟨e, wd, true, gr, rows⟩] :=
  RetP.go [] [k] (by simp) ⟨⟨_, hpGet_app h _, VwB.refl⟩, rfl⟩ ⟨rfl, rfl⟩ (by simp [Sv.Fr]) ⟨hf, trivial⟩
theorem nth_map {α β : Type} (f : α → β) (l : List α) {n : Nat} (k : Nat) (hn : n = k) (h : k < l.length) : nth (l.map f) n = some (f l[k]) := by
  subst hn
  rw [nth_eq]
  simp [h]
theorem get_id {α : Type} {o : Option α} {k : α → Prop} (h : Get o k) : Get o k := h
theorem need_id {p k : Prop} (h : Need p k) : Need p k := h
theorem calls_id {P : Program} {l : Nat} {its : List (List Sv)} {tm : List Sv} {hp : Hp} {dst : Option Nat} {f : Nat} {args : List Sv} {K : List Sv → Hp → Prop} (h : CallL P l its tm hp dst f args K) : CallL P l its tm hp dst f args K := h
theorem call_id {P : Program} {hp : Hp} {f : Nat} {args : List Sv} {K : Sv → List Blk → List Nat → Prop} (h : CallV P hp f args K) : CallV P hp f args K := h
theorem eqk_id {α : Type} {a : α} {K : α → Prop} (h : EqK a K) : EqK a K := h
/-! ### Loops over functions -/
theorem alv_and {n : Nat} {hp : Hp} {k : Prop} (h : aliveN n hp = true) (hk : k) : aliveN n hp = true ∧ k := ⟨h, hk⟩
theorem RangeV.on {G : Gm} {ra rb : Nat → List Sv → Hp → (Exit → List Sv → Hp → Prop) → Prop} {f : Operand} {ps : List Nat} {tm : List Sv} {hp : Hp} {K : Exit → List Sv → Hp → Prop} {α σ : Type} {n : Nat} (_ : tm.length = n) (xs : List α) (it : α → List Sv) (mr g : Nat) (caps : List Sv)
    (spec : List (Nat × Sv)) (hps : σ → Hp) (P : Nat → σ → Prop) (s0 : σ) (hcon : ICon G.P g (fun y => .val y :: caps) (xs.map it)) (h0 : AtS G.m tm hp n spec (hps s0)) (hP : P 0 s0) (hf : evO (mkT n 0 spec) f = .clo g caps) (hcl : Sv.all.allL (fun _ => false) caps = true)
    (hits : ∀ x, (it x).length = ps.length ∧ Sv.all.allL (fun _ => false) (it x) = true) (hmr : G.m ≤ mr) (htm : Sv.all.allL (fun k => Nat.blt k mr) (mkT n 0 spec) = true) (hal : ∀ s, aliveN mr (hps s) = true)
    (step : ∀ i (hi : i < xs.length) s, P i s → setPK (mkT n 0 spec) ps (it xs[i]) fun tm => ra mr tm (hps s) (kAsg (rb mr) (kBody mr (mkT n 0 spec) (fun hp => ∃ s', P (i + 1) s' ∧ hp = hps s') K)))
    (done : ∀ s, P xs.length s → K .normal (mkT n 0 spec) (hps s)) : RangeV G ra rb f ps tm hp K := by
  refine .mk (xs.map it) mr g caps (fun i hp => ∃ s, P i s ∧ hp = hps s) (mkT n 0 spec) (hps s0) h0.weak hf hcl hcon ?_ hmr ⟨s0, hP, rfl⟩ htm ?_ ?_ ?_
  · intro x hx
    obtain ⟨y, _, rfl⟩ := List.mem_map.1 hx
    exact hits y
  · rintro i hp ⟨s, _, rfl⟩
    exact hal s
  · rintro i x hp hx ⟨s, hs, rfl⟩
    rw [List.getElem?_map] at hx
    cases hq : xs[i]? with
    | none => rw [hq] at hx; cases hx
    | some y =>
      rw [hq] at hx
      obtain ⟨hi, e⟩ := List.getElem?_eq_some_iff.1 hq
      simp only [Option.map_some, Option.some.injEq] at hx
      subst hx
      subst e
      exact step i hi s hs
  · rintro hp ⟨s, hs, rfl⟩
    exact done s (by simpa using hs)
/-- The end of a round that goes on. -/
theorem nxr {mr : Nat} {tm : List Sv} {hp : Hp} {σ : Type} {Q : σ → Prop} {hps : σ → Hp} (s : σ) (hP : Q s) (h : AtS mr tm hp tm.length [] (hps s)) : Back mr tm hp fun _ hp => ∃ s', Q s' ∧ hp = hps s' :=
  .mk _ _ h.weak ⟨s, hP, rfl⟩
theorem take_next {α : Type} (xs : List α) (f : α → List Sv) (i : Nat) (hi : i < xs.length) {r : List Sv} (h : r = f xs[i]) : (xs.map f).take i ++ [r] = (xs.map f).take (i + 1) := by
  rw [List.take_succ_eq_append_getElem (by simpa using hi)]
  simp [h]
theorem YieldV.next {its : List (List Sv)} {hp : Hp} {args : List Sv} {K : Sv → Hp → Prop} {α : Type} (xs : List α) (f : α → List Sv) (i : Nat) (hi : i < xs.length) (hits : its = xs.map f) (hb : hpGet hp 0 = some (gB ((xs.map f).take i))) (hone : oneG 0 0 hp) (hfr : FrL args) (hcl : Sv.all.allL (fun _ => false) args = true)
    (h : args = f xs[i]) (hT : K (.val (.bool true)) (hp.set 0 (some (gB ((xs.map f).take (i + 1)))))) (hF : K (.val (.bool false)) (hp.set 0 (some (gS ((xs.map f).take (i + 1)))))) : YieldV its hp args K :=
  .mk _ _ hb hone hfr hcl (take_next xs f i hi h) (by rw [hits]; exact List.take_prefix _ _) hT hF
abbrev postI (its : List (List Sv)) (_ : Sv) (hp : Hp) : Prop := hpGet hp 0 = some (gB its) ∨ ∃ pre, hpGet hp 0 = some (gS pre)
theorem RetI.all {hp : Hp} {r : Sv} {its rows : List (List Sv)} (hb : hpGet hp 0 = some (gB rows)) (hr : rows = its) (hf : FrR its) (r' : Sv := .tup []) (hrr : r = r' := by rfl) (hrf : r'.Fr := by trivial) (hrc : Sv.all (fun _ => false) r' = true := by rfl) (hvw : ∀ hp nl sel, Vw hp nl sel r' r' := by intro _ _ _; rfl) : RetM 1 hp r (postI its) := by
  subst hr
  subst hrr
  exact .mk [] [0] _ [some (gB rows)] (by simp) rfl ⟨⟨_, hpGet_app hb _, VwB.refl⟩, rfl⟩ (hvw _ _ _) hrf ⟨hf, trivial⟩ (.inl rfl)
theorem RetI.stop {hp : Hp} {r : Sv} {its rows : List (List Sv)} (hb : hpGet hp 0 = some (gS rows)) (hf : FrR rows) (r' : Sv := .tup []) (hrr : r = r' := by rfl) (hrf : r'.Fr := by trivial) (hvw : ∀ hp nl sel, Vw hp nl sel r' r' := by intro _ _ _; rfl) : RetM 1 hp r (postI its) := by
  subst hrr
  exact .mk [] [0] _ [some (gS rows)] (by simp) rfl ⟨⟨_, hpGet_app hb _, VwB.refl⟩, rfl⟩ (hvw _ _ _) hrf ⟨hf, trivial⟩ (.inr ⟨_, rfl⟩)
theorem br_id {b : Bool} {t e : Prop} (h : Br b t e) : Br b t e := h
theorem appc_id {c g p : Prop} (h : AppC c g p) : AppC c g p := h
theorem regv_id {G : Gm} {id : Nat} {dr : Bool} {ops : List Oper} {tm : List Sv} {hp : Hp} {K : List Sv → Hp → Prop} (h : RegV G id dr ops tm hp K) : RegV G id dr ops tm hp K := h
theorem regw_id {G : Gm} {id : Nat} {dr : Bool} {ops : List Oper} {tm : List Sv} {hp : Hp} {K : List Sv → Hp → Prop} (h : RegW G id dr ops tm hp K) : RegW G id dr ops tm hp K := h
theorem gds_id {f : (Sv → List Blk → List Nat → Prop) → Prop} {g : Prop → Prop} {K : Sv → Prop} (h : GdS f g K) : GdS f g K := h
theorem and_id {a b : Prop} (h : a ∧ b) : a ∧ b := h
/-! ### What is handed over, by its shape -/
structure H1 (hp : Hp) (sel : List Nat) (s s1 : Sv) : Prop where
  h : Cl hp sel s s1
structure HL (hp : Hp) (sel : List Nat) (ss ss1 : List Sv) : Prop where
  h : ClL hp sel ss ss1
section
variable {hp : Hp} {sel : List Nat}
theorem HL.nil : HL hp sel [] [] := ⟨by simp [ClL]⟩
theorem HL.cons {s s1 : Sv} {ss ss1 : List Sv} (h : H1 hp sel s s1) (t : HL hp sel ss ss1) : HL hp sel (s :: ss) (s1 :: ss1) := ⟨by simp only [ClL]; exact ⟨h.h, t.h⟩⟩
theorem H1.val {x : Value} : H1 hp sel (.val x) (.val x) := ⟨by simp [Cl]⟩
theorem H1.int {k : IntKind} {a b : Int} (h : a = b) : H1 hp sel (.val (.int k a)) (.val (.int k b)) := ⟨by simp [Cl, h]⟩
theorem H1.bool {a b : Bool} (h : a = b) : H1 hp sel (.val (.bool a)) (.val (.bool b)) := ⟨by simp [Cl, h]⟩
theorem H1.ext {fr : Bool} {wd : Nat} {rows : List (List Sv)} : H1 hp sel (.ext fr wd rows) (.ext false wd rows) := ⟨by simp [Cl]⟩
theorem H1.extt {fr : Bool} {wd : Nat} {rows : List (List Sv)} : H1 hp sel (.ext fr wd rows) (.ext fr wd rows) := ⟨by simp [Cl]⟩
theorem H1.extn {wd : Nat} {fr : Bool} : H1 hp sel (.val (.slice none 0 0)) (.ext fr wd []) := ⟨by simp [Cl]⟩
theorem H1.ownx {k m wd : Nat} {b : Blk} {rows : List (List Sv)} (h1 : memB k sel = false) (h2 : hpGet hp k = some b) (h3 : b.clean = true) (h4 : b.wd = wd) (h5 : b.rows = rows) (h6 : m = b.rows.length) : H1 hp sel (.own k m) (.ext false wd rows) := by
  refine ⟨?_⟩
  simp only [Cl]
  exact ⟨trivial, h1, b, h2, .inl ⟨h6, h4, .inl ⟨h3, h5⟩⟩⟩
theorem H1.ref {fr : Bool} {cs : List Sv} : H1 hp sel (.ref fr cs) (.ref false cs) := ⟨by simp [Cl]⟩
theorem H1.reft {fr : Bool} {cs : List Sv} : H1 hp sel (.ref fr cs) (.ref fr cs) := ⟨by simp [Cl]⟩
theorem H1.ownt {k m wd : Nat} {b : Blk} {rows : List (List Sv)} (h1 : memB k sel = false) (h2 : hpGet hp k = some b) (h3 : b.clean = true) (h4 : b.wd = wd) (h5 : b.rows.take m = rows) (h6 : m ≤ b.rows.length) : H1 hp sel (.own k m) (.ext false wd rows) := by
  refine ⟨?_⟩
  simp only [Cl]
  exact ⟨trivial, h1, b, h2, .inr ⟨h6, h4, h3, h5⟩⟩
theorem H1.ptrx {k r q : Nat} {b : Blk} {row cs : List Sv} (h1 : memB k sel = false) (h2 : hpGet hp k = some b) (h3 : nth b.rows r = some row) (h4 : b.clean = true) (h5 : row.drop q = cs) : H1 hp sel (.ptr k r q) (.ref false cs) := by
  refine ⟨?_⟩
  simp only [Cl]
  exact ⟨trivial, h1, b, row, h2, h3, .inl ⟨h4, h5⟩⟩
theorem H1.agg {cs cs1 : List Sv} (h : HL hp sel cs cs1) : H1 hp sel (.agg cs) (.agg cs1) := ⟨by simp only [Cl]; exact h.h⟩
theorem H1.clo {f : Nat} {cs cs1 : List Sv} (h : HL hp sel cs cs1) : H1 hp sel (.clo f cs) (.clo f cs1) := ⟨by simp only [Cl]; exact ⟨trivial, h.h⟩⟩
theorem H1.anyx {s : Sv} : H1 hp sel s .any := ⟨by simp [Cl]⟩
end
theorem CallV.mkH {P : Program} {hp : Hp} {f : Nat} {args : List Sv} {K : Sv → List Blk → List Nat → Prop} (args' : List Sv) (res : Sv) (nb : List Blk) (h : HL hp [] args args') (c : PCon P f args' res nb)
    (k : K (res.mv (rho [] hp.length)) (nb.map (Blk.mv (rho [] hp.length))) []) : CallV P hp f args K := .mk args' res nb h.h c k
theorem CallS.pureH {P : Program} {tm : List Sv} {hp : Hp} {dst : Option Nat} {f : Nat} {args : List Sv} {K : List Sv → Hp → Prop} (args' : List Sv) (res : Sv) (nb : List Blk) (h1 : HL hp [] args args') (h2 : PCon P f args' res nb)
    (h : setTK tm dst (res.mv (rho [] hp.length)) fun tm => addK [] hp (nb.map (Blk.mv (rho [] hp.length))) fun hp => K tm hp) : CallS P tm hp dst f args K := .pure args' res nb h1.h h2 h
theorem om1 {a b : Nat} (h : a ≤ b) : a ≤ b := h
theorem om2 {a b : Nat} (h : a < b) : a < b := h
theorem om3 {a b : Nat} (h : a = b) : a = b := h
theorem om4 {a b : Int} (h : a ≤ b) : a ≤ b := h
theorem om5 {a b : Int} (h : a < b) : a < b := h
theorem om6 {a b : Int} (h : a = b) : a = b := h
theorem om7 {a b : Nat} (h : a ≠ b) : a ≠ b := h
theorem om8 {a b : List (List Sv)} (h : a = b) : a = b := h
theorem takeAll {α : Type} {l : List α} {n : Nat} (h : l.length ≤ n) : l.take n = l := List.take_of_length_le h
end Go.Eng

/- The engine, part Ns: lists of numbers that lie, each alone in its block, behind the cells of another block: opened (their blocks become local ones), closed again, and at last given up as content. -/
namespace Go.Eng
open Go Go.RowKit

abbrev intR (l : List Int) : List (List Sv) := l.map fun z => [.val (.int .i64 z)]
def IntsAt (w : World) (b : Nat) (l : List Int) : Prop := ∀ (j : Nat) (z : Int), l[j]? = some z → w.cell? ⟨b, j, none⟩ = some (.int .i64 z)
theorem RelR_ints {l : List Int} {c : Cx} {b : Nat} : RelR (intR l) c 1 b 0 ↔ IntsAt c.w b l := by
  rw [RelR_iff]
  constructor
  · intro h j z hz
    obtain ⟨_, hc⟩ := h j [.val (.int .i64 z)] (by rw [List.getElem?_map, hz]; rfl)
    simp only [RelC, Rel] at hc
    obtain ⟨⟨u, h1, _, rfl⟩, _⟩ := hc
    simpa using h1
  · intro h i r hr
    rw [List.getElem?_map] at hr
    cases hl : l[i]? with
    | none => rw [hl] at hr; cases hr
    | some z =>
      rw [hl] at hr
      simp only [Option.map_some, Option.some.injEq] at hr
      subst hr
      refine ⟨rfl, ?_⟩
      simp only [RelC, Rel]
      exact ⟨⟨_, by simpa using h i z hl, rfl, rfl⟩, trivial⟩
/-- A value that is a slice of these numbers, alone in a block that is new and marked (or nil). -/
def NsAt (n0 e : Nat) (A C : Nat → Prop) (w : World) (x : Value) (l : List Int) : Prop :=
  x = .slice none 0 0 ∧ l = [] ∨ ∃ (b cap : Nat) (arr : Array Value), x = .slice (some ⟨b, 0, none⟩) l.length cap ∧ A b ∧ C b ∧ n0 ≤ b ∧ w.heap[b]? = some (.cells arr e (0, 0)) ∧ l.length ≤ arr.size ∧ cap ≤ arr.size ∧ l.length ≤ cap ∧ cap ≤ maxLen ∧ IntsAt w b l
def blkOf : Value → Option Nat
  | .slice (some a) _ _ => some a.block
  | _ => none
structure NsG (n0 e : Nat) (A C : Nat → Prop) (w : World) (G : List (Option (Value × List Int))) : Prop where
  at_ : ∀ (j : Nat) x l, G[j]? = some (some (x, l)) → NsAt n0 e A C w x l
  inj : ∀ (i j : Nat) x y lx ly b, G[i]? = some (some (x, lx)) → G[j]? = some (some (y, ly)) → blkOf x = some b → blkOf y = some b → i = j
def nsRow : Option (Value × List Int) → List Sv
  | none => []
  | some (x, l) => [.val x, .ext true 1 (intR l)]
def nsRows (G : List (Option (Value × List Int))) : List (List Sv) := [.any] :: G.map nsRow
theorem intR_inj {l m : List Int} (h : intR l = intR m) : l = m := by
  unfold intR at h
  exact (List.map_inj_right (fun x y e => by simpa using e)).1 h
theorem nsRows_inj {G H : List (Option (Value × List Int))} (h : nsRows G = nsRows H) : G = H := by
  unfold nsRows at h
  simp only [List.cons.injEq, true_and] at h
  refine (List.map_inj_right (fun x y e => ?_)).1 h
  rcases x with _ | ⟨x, l⟩ <;> rcases y with _ | ⟨y, m⟩ <;> simp only [nsRow] at e
  · rfl
  · cases e
  · cases e
  · simp only [List.cons.injEq, Sv.val.injEq, Sv.ext.injEq, true_and, and_true] at e
    rw [e.1, intR_inj e.2]
def NsJ (e : Nat) (w0 : World) (_ : Nat) (rows : List (List Sv)) (A C : Nat → Prop) (w : World) : Prop := ∃ G, rows = nsRows G ∧ NsG w0.heap.size e A C w G
theorem NsAt.same {n0 e : Nat} {A C : Nat → Prop} {w w' : World} {x : Value} {l : List Int} (hw : ∀ b, C b → w'.heap[b]? = w.heap[b]?) (h : NsAt n0 e A C w x l) : NsAt n0 e A C w' x l := by
  rcases h with h | ⟨b, cap, arr, h1, h2, h3, h4, h5, h6, h7, h8, h9, h10⟩
  · exact .inl h
  · exact .inr ⟨b, cap, arr, h1, h2, h3, h4, (hw b h3).trans h5, h6, h7, h8, h9, fun j z hz => by rw [World.cell?_of_block (hw b h3)]; exact h10 j z hz⟩
theorem NsJ.js (e : Nat) : ∀ w0 st r A C w w', NsJ e w0 st r A C w → WSame C w w' → NsJ e w0 st r A C w' := by
  rintro w0 st r A C w w' ⟨G, h1, h2⟩ hw
  exact ⟨G, h1, ⟨fun j x l hj => (h2.at_ j x l hj).same hw.block, h2.inj⟩⟩

/-! ### The state, changed in ways that the world does not show -/
section
variable {w0 : World} {M : Frm} {c : Cx} {tm : List Sv} {hp : Hp} {a : Act} {ds : List Deferred} {e : Nat}

theorem St.reset (hS : St w0 M c tm hp a ds) {tm' : List Sv} (hl : tm'.length = tm.length) (h : ∀ t, tmGet tm' t = .any ∨ tmGet tm' t = tmGet tm t) : St w0 M c tm' hp a ds :=
  { inv := hS.inv, full := hS.full, rel := fun t => by
      rcases h t with h | h
      · rw [h]; trivial
      · rw [h]; exact hS.rel t
    size := by rw [hl]; exact hS.size, ds := hS.ds }

/-- No block but kg tells a tale. -/
def NoGh (kg : Nat) (hp : Hp) : Prop := ∀ (k : Nat) (blk : Blk), k ≠ kg → hp[k]? = some (some blk) → blk.grow = false → blk.wd ≠ 0
theorem NoGh.not {kg : Nat} (h : NoGh kg hp) (hI : Inv w0 M c hp) {k : Nat} {blk : Blk} (hk : k ≠ kg) (hD : c.D k) (hb : hp[k]? = some (some blk)) (hn : (c.E k).nil = true) (hg : blk.grow = false) : False := by
  obtain ⟨blk', hb', r⟩ := hI.dom k hD
  rw [hb] at hb'
  cases hb'
  rcases r.2.1 hn with ⟨h1, _⟩ | ⟨_, _, h1⟩
  · rw [hg] at h1; cases h1
  · exact h k blk hk hb hg h1

/-- The last blocks are given up (their numbers alone; nothing of them becomes content). -/
theorem St.trunc (hS : St w0 M c tm hp a ds) (hm : M.m = 0) (m : Nat) (ht : ∀ t, (tmGet tm t).all (fun k => Nat.blt k m) = true)
    (hr : ∀ (k : Nat) (blk : Blk), k < m → hp[k]? = some (some blk) → blk.clean = false → blk.rows.all (Sv.all.allL (fun k => Nat.blt k m)) = true) : ∃ c', c'.w = c.w ∧ St w0 M c' tm (hp.take m) a ds := by
  have hI := hS.inv
  have hle : c.Le (fun k => Nat.blt k m) { c with D := fun k => c.D k ∧ k < m } := ⟨fun k hk hD => ⟨⟨hD, blt_lt hk⟩, rfl⟩, fun _ h => h, fun _ _ h => h, fun _ _ => rfl⟩
  refine ⟨{ c with D := fun k => c.D k ∧ k < m }, rfl, { inv := ?_, full := fun k b hb => ?_, rel := fun t => Rel.le _ (ht t) hle (hS.rel t), size := hS.size, ds := hS.ds }⟩
  · exact {
      dom := fun k hk => by
        obtain ⟨blk, hb, r⟩ := hI.dom k hk.1
        exact ⟨blk, by rw [List.getElem?_take, if_pos hk.2]; exact hb, r.le hle rfl (fun _ => rfl) (fun hc => hr k blk hk.2 hb hc)⟩
      inj := fun k k' h h' => hI.inj k k' h.1 h'.1
      xsep := fun k b h => hI.xsep k b h.1
      xlt := hI.xlt, xY := hI.xY, bnd := hI.bnd, bndG := hI.bndG
      e0 := fun k hk => by omega
      mlen := by omega
      os := hI.os, tape := hI.tape, output := hI.output, size := hI.size, keep := hI.keep
      loc := fun k h => hI.loc k h.1
      x0 := hI.x0, ca := hI.ca
      cc := fun b hb => ⟨(hI.cc b hb).1, fun k h => (hI.cc b hb).2.1 k h.1, (hI.cc b hb).2.2⟩
      gh := fun k blk h hb => hI.gh k blk h.1 (by rw [List.getElem?_take, if_pos h.2] at hb; exact hb)
      zc := hI.zc, z0 := hI.z0, xk := hI.xk }
  · rw [List.getElem?_take] at hb
    split at hb
    · rename_i hk
      exact ⟨hS.full k b hb, hk⟩
    · cases hb

/-- A tale begins: n nil lists. -/
theorem St.nsInit (hS : St w0 M c tm hp a ds) (hm : M.m = 0) (hJ : M.J = NsJ e w0) (hno : NoGh hp.length hp) (n : Nat) : ∃ c', c'.w = c.w ∧ St w0 M c' tm (hp ++ [some ⟨0, 0, true, false, nsRows (List.replicate n (some (.slice none 0 0, [])))⟩]) a ds := by
  have hI := hS.inv
  have hlt : ∀ k, c.D k → k < hp.length := fun k hk => by obtain ⟨blk, hb, _⟩ := hI.dom k hk; exact (List.getElem?_eq_some_iff.1 hb).1
  have hnd : ¬ c.D hp.length := fun h => Nat.lt_irrefl _ (hlt _ h)
  have hE : ∀ k, c.D k → upd c.E hp.length ⟨0, 0, true, 0⟩ k = c.E k := fun k hk => upd_other (by have := hlt k hk; omega)
  have hle : c.Le (fun _ => true) (c.put hp.length ⟨0, 0, true, 0⟩ c.w) := Cx.Le.put hnd fun _ _ => rfl
  refine ⟨c.put hp.length ⟨0, 0, true, 0⟩ c.w, rfl, { inv := ?_, full := fun k b hb => ?_, rel := fun t => Rel.le _ (Sv.all_true _) hle (hS.rel t), size := hS.size, ds := hS.ds }⟩
  · exact {
      dom := fun k hk => by
        rcases hk with hk | rfl
        · obtain ⟨blk, hb, r⟩ := hI.dom k hk
          exact ⟨blk, by rw [List.getElem?_append_left (hlt k hk)]; exact hb, r.le hle (hE k hk) (fun _ => rfl) (fun _ => allR_true _)⟩
        · refine ⟨_, by simp; rfl, ?_⟩
          show BlkRel _ _ _
          unfold BlkRel
          rw [show (c.put hp.length ⟨0, 0, true, 0⟩ c.w).E hp.length = ⟨0, 0, true, 0⟩ from upd_same _ _ _]
          exact ⟨rfl, fun _ => .inr ⟨rfl, rfl, rfl⟩, fun h => by cases h⟩
      inj := fun k k' h h' hkk hn hn' => by
        rcases h with h | rfl <;> rcases h' with h' | rfl
        · rw [show (c.put hp.length ⟨0, 0, true, 0⟩ c.w).E k = c.E k from hE k h] at *
          rw [show (c.put hp.length ⟨0, 0, true, 0⟩ c.w).E k' = c.E k' from hE k' h'] at *
          exact hI.inj k k' h h' hkk hn hn'
        · rw [show (c.put hp.length ⟨0, 0, true, 0⟩ c.w).E hp.length = ⟨0, 0, true, 0⟩ from upd_same _ _ _] at hn'; cases hn'
        · rw [show (c.put hp.length ⟨0, 0, true, 0⟩ c.w).E hp.length = ⟨0, 0, true, 0⟩ from upd_same _ _ _] at hn; cases hn
        · exact absurd rfl hkk
      xsep := fun k b h hn => by
        rcases h with h | rfl
        · rw [show (c.put hp.length ⟨0, 0, true, 0⟩ c.w).E k = c.E k from hE k h] at *
          exact hI.xsep k b h hn
        · rw [show (c.put hp.length ⟨0, 0, true, 0⟩ c.w).E hp.length = ⟨0, 0, true, 0⟩ from upd_same _ _ _] at hn; cases hn
      xlt := hI.xlt, xY := hI.xY, bnd := hI.bnd, bndG := hI.bndG
      e0 := fun k hk => by omega
      mlen := by omega
      os := hI.os, tape := hI.tape, output := hI.output, size := hI.size, keep := hI.keep
      loc := fun k h hn => by
        rcases h with h | rfl
        · rw [show (c.put hp.length ⟨0, 0, true, 0⟩ c.w).E k = c.E k from hE k h] at *
          exact hI.loc k h hn
        · rw [show (c.put hp.length ⟨0, 0, true, 0⟩ c.w).E hp.length = ⟨0, 0, true, 0⟩ from upd_same _ _ _] at hn; cases hn
      x0 := hI.x0, ca := hI.ca
      cc := fun b hb => by
        refine ⟨(hI.cc b hb).1, fun k h hn => ?_, (hI.cc b hb).2.2⟩
        rcases h with h | rfl
        · rw [show (c.put hp.length ⟨0, 0, true, 0⟩ c.w).E k = c.E k from hE k h] at *
          exact (hI.cc b hb).2.1 k h hn
        · rw [show (c.put hp.length ⟨0, 0, true, 0⟩ c.w).E hp.length = ⟨0, 0, true, 0⟩ from upd_same _ _ _] at hn; cases hn
      gh := fun k blk h hb hn hg => by
        rcases h with h | rfl
        · rw [show (c.put hp.length ⟨0, 0, true, 0⟩ c.w).E k = c.E k from hE k h] at *
          rw [List.getElem?_append_left (hlt k h)] at hb
          exact (hno.not hI (by have := hlt k h; omega) h hb hn hg).elim
        · rw [List.getElem?_append_right (Nat.le_refl _), Nat.sub_self] at hb
          simp only [List.getElem?_cons_zero, Option.some.injEq] at hb
          subst hb
          refine ⟨fun _ => False, fun b hb => hb.elim, ?_⟩
          rw [hJ]
          refine ⟨_, rfl, ⟨fun j x l hj => ?_, fun i j x y lx ly b hi hj hx => ?_⟩⟩
          · rw [List.getElem?_replicate] at hj
            split at hj
            · simp only [Option.some.injEq, Prod.mk.injEq] at hj
              exact .inl ⟨hj.1.symm, hj.2.symm⟩
            · cases hj
          · rw [List.getElem?_replicate] at hi
            split at hi
            · simp only [Option.some.injEq, Prod.mk.injEq] at hi
              rw [← hi.1] at hx
              cases hx
            · cases hi
      zc := hI.zc, z0 := hI.z0, xk := hI.xk }
  · by_cases hk : k < hp.length
    · rw [List.getElem?_append_left hk] at hb
      exact .inl (hS.full k b hb)
    · have := (List.getElem?_eq_some_iff.1 hb).1
      simp at this
      exact .inr (by omega)

theorem set2_get {α : Type} {l : List α} {i j : Nat} {x y : α} {k : Nat} : ((l.set i x).set j y)[k]? = if k < l.length then (if j = k then some y else if i = k then some x else l[k]?) else none := by
  by_cases hk : k < l.length
  · rw [if_pos hk, List.getElem?_set]
    split
    · rw [if_pos (by simpa using by omega)]
    · rw [List.getElem?_set]
      split
      · rw [if_pos (by omega)]
      · rfl
  · rw [if_neg hk, List.getElem?_eq_none (by simpa using by omega)]

/-- A block of cells that are slices is no nil slice where it has a row. -/
theorem BlkRel.real {k t : Nat} {cl gr : Bool} {rows : List (List Sv)} {r : Nat} {x : List Sv} (h : BlkRel c k ⟨t, 1, cl, gr, rows⟩) (hr : rows[r]? = some x) : (c.E k).nil = false := by
  cases hn : (c.E k).nil with
  | false => rfl
  | true =>
    rcases h.2.1 hn with ⟨_, h1⟩ | ⟨_, _, h1⟩
    · rw [show rows = [] from h1] at hr
      simp at hr
    · cases h1
/-- A tale's block is no block of the machine. -/
theorem BlkRel.ghost {k : Nat} {G : List (Option (Value × List Int))} (h : BlkRel c k ⟨0, 0, true, false, nsRows G⟩) : (c.E k).nil = true := by
  cases hn : (c.E k).nil with
  | true => rfl
  | false =>
    obtain ⟨arr, _, h1, _⟩ := h.2.2 hn
    rw [RelR_iff] at h1
    have := (h1 0 [.any] rfl).1
    simp at this

/-- A list is opened: its block becomes the last local one. -/
theorem St.nsOpen (hS : St w0 M c tm hp a ds) (hm : M.m = 0) (hJ : M.J = NsJ e w0) {kn kg t : Nat} (hne : kn ≠ kg) (hno : NoGh kg hp) {cl gr : Bool} {rows : List (List Sv)} {G : List (Option (Value × List Int))}
    (hn : hp[kn]? = some (some ⟨t, 1, cl, gr, rows⟩)) (hg : hp[kg]? = some (some ⟨0, 0, true, false, nsRows G⟩)) {r : Nat} {x : Value} {l : List Int} (hr : rows[r]? = some [.val x]) (hG : G[r]? = some (some (x, l))) :
    ∃ c', c'.w = c.w ∧ St w0 M c' tm ((hp.set kn (some ⟨t, 1, false, gr, rows.set r [.own hp.length l.length]⟩)).set kg (some ⟨0, 0, true, false, nsRows (G.set r none)⟩) ++ [some ⟨e, 1, true, true, intR l⟩]) a ds := by
  have hI := hS.inv
  have hDn := hS.full _ _ hn
  have hDg := hS.full _ _ hg
  have hlt : ∀ k, c.D k → k < hp.length := fun k hk => by obtain ⟨blk, hb, _⟩ := hI.dom k hk; exact (List.getElem?_eq_some_iff.1 hb).1
  have hnd : ¬ c.D hp.length := fun h => Nat.lt_irrefl _ (hlt _ h)
  obtain ⟨bn, hbn, rn⟩ := hI.dom kn hDn
  rw [hn] at hbn
  cases hbn
  obtain ⟨bg, hbg, rg⟩ := hI.dom kg hDg
  rw [hg] at hbg
  cases hbg
  have nn := rn.real hr
  have ng := rg.ghost
  obtain ⟨C1, hC1, hj⟩ := hI.gh kg _ hDg hg ng rfl
  rw [hJ] at hj
  obtain ⟨G', hGG, hN⟩ := hj
  cases nsRows_inj hGG
  -- where the list lies
  obtain ⟨loc, hwd, hx, hloc, hblk⟩ : ∃ loc : Loc, loc.wd = 1 ∧ (loc.nil = true ∧ x = .slice none 0 0 ∧ l.length = 0 ∨ loc.nil = false ∧ x = .slice (some ⟨loc.b, 0, none⟩) l.length loc.cap ∧ l.length ≤ loc.cap) ∧ (loc.nil = false → c.A loc.b ∧ C1 loc.b ∧ w0.heap.size ≤ loc.b) ∧
      (loc.nil = true → l = []) ∧ (loc.nil = false → ∃ arr, c.w.heap[loc.b]? = some (.cells arr e (0, 0)) ∧ IntsAt c.w loc.b l ∧ l.length ≤ arr.size ∧ loc.cap ≤ arr.size ∧ l.length ≤ loc.cap ∧ loc.cap ≤ maxLen) := by
    rcases hN.at_ r x l hG with ⟨h1, h2⟩ | ⟨b, cap, arr, h1, h2, h3, h4, h5, h6, h7, h8, h9, h10⟩
    · exact ⟨⟨0, 0, true, 1⟩, rfl, .inl ⟨rfl, h1, (by rw [h2]; rfl)⟩, fun h => (by cases h), fun _ => h2, fun h => (by cases h)⟩
    · exact ⟨⟨b, cap, false, 1⟩, rfl, .inr ⟨rfl, h1, h8⟩, fun _ => ⟨h2, h3, h4⟩, fun h => (by cases h), fun _ => ⟨arr, h5, h10, h6, h7, h8, h9⟩⟩
  have hCl : loc.nil = false → c.C loc.b := fun h => (hC1 _ (hloc h).2.1).1
  have hsep : ∀ k, c.D k → (c.E k).nil = false → loc.nil = false → (c.E k).b ≠ loc.b := fun k hk hkn hln => (hI.cc _ (hCl hln)).2.1 k hk hkn
  let S : Nat → Prop := fun b => loc.nil = false ∧ b = loc.b
  let c' : Cx := { c with E := upd c.E hp.length loc, D := fun k => c.D k ∨ k = hp.length, A := fun b => c.A b ∧ ¬ S b, C := fun b => c.C b ∧ ¬ S b }
  have hE : ∀ k, c.D k → c'.E k = c.E k := fun k hk => upd_other (by have := hlt k hk; omega)
  have hEN : c'.E hp.length = loc := upd_same _ _ _
  have hle : c.Le (fun _ => true) c' := ⟨fun k _ hk => ⟨.inl hk, hE k hk⟩, fun _ h => h, fun _ _ h => h, fun _ _ => rfl⟩
  have hle0 : c.shut.Le (fun _ => true) c' := ⟨fun k _ hk => hk.elim, fun _ h => h, fun _ _ h => h, fun _ _ => rfl⟩
  have hZ : ∀ b, c.Z b → ¬ S b := fun b hb hs => (hI.zc b hb).2.1 (by rw [hs.2]; exact (hloc hs.1).1)
  have hget : ∀ k, k < hp.length → ((hp.set kn (some ⟨t, 1, false, gr, rows.set r [.own hp.length l.length]⟩)).set kg (some ⟨0, 0, true, false, nsRows (G.set r none)⟩) ++ [some ⟨e, 1, true, true, intR l⟩])[k]? = if kg = k then some (some ⟨0, 0, true, false, nsRows (G.set r none)⟩) else if kn = k then some (some ⟨t, 1, false, gr, rows.set r [.own hp.length l.length]⟩) else hp[k]? := fun k hk => by
    rw [List.getElem?_append_left (by simpa using hk), set2_get, if_pos hk]
  have hgetN : ((hp.set kn (some ⟨t, 1, false, gr, rows.set r [.own hp.length l.length]⟩)).set kg (some ⟨0, 0, true, false, nsRows (G.set r none)⟩) ++ [some ⟨e, 1, true, true, intR l⟩])[hp.length]? = some (some ⟨e, 1, true, true, intR l⟩) := by
    rw [List.getElem?_append_right (by simp)]; simp
  refine ⟨c', rfl, { inv := ?_, full := fun k b hb => ?_, rel := fun t => Rel.le _ (Sv.all_true _) hle (hS.rel t), size := hS.size, ds := ?_ }⟩
  · exact {
      dom := fun k hk => by
        rcases hk with hk | rfl
        · rw [hget k (hlt k hk)]
          by_cases h1 : kg = k
          · subst h1
            rw [if_pos rfl]
            refine ⟨_, rfl, ?_⟩
            unfold BlkRel
            rw [hE _ hk]
            exact ⟨rg.1, fun _ => .inr ⟨rfl, rfl, rfl⟩, fun h => by rw [ng] at h; cases h⟩
          rw [if_neg h1]
          by_cases h2 : kn = k
          · subst h2
            rw [if_pos rfl]
            refine ⟨_, rfl, ?_⟩
            unfold BlkRel
            rw [hE _ hk]
            refine ⟨rn.1, fun h => (by rw [nn] at h; cases h), fun _ => ?_⟩
            obtain ⟨arr, g1, g2, g3, g4⟩ := rn.2.2 nn
            refine ⟨arr, g1, ?_, by simpa using g3, fun h => by simpa using g4 h⟩
            show RelR (rows.set r [.own hp.length l.length]) c' 1 _ 0
            rw [RelR_iff] at g2 ⊢
            intro i row hrow
            rw [List.getElem?_set] at hrow
            split at hrow
            · rename_i hir
              subst hir
              split at hrow
              · cases hrow
                refine ⟨rfl, ?_⟩
                have h3 := (g2 r _ hr).2
                simp only [RelC] at h3 ⊢
                obtain ⟨⟨u, h4, h5, h6⟩, _⟩ := h3
                have h6 : u = x := by unfold Blk.cx at h6; simpa [Rel] using h6
                subst h6
                refine ⟨⟨u, ?_, h5, ?_⟩, trivial⟩
                · show c.w.cell? _ = _
                  unfold Blk.cx at h4
                  cases cl <;> exact h4
                · simp only [Rel]
                  rw [hEN]
                  exact ⟨.inr rfl, hx⟩
              · cases hrow
            · refine ⟨(g2 i row hrow).1, ?_⟩
              have h3 := (g2 i row hrow).2
              unfold Blk.cx at h3
              cases cl with
              | true => exact RelC.le _ (by simpa using allL_true row) hle0 rfl h3
              | false => exact RelC.le _ (by simpa using allL_true row) hle rfl h3
          · rw [if_neg h2]
            obtain ⟨blk, hb, rb⟩ := hI.dom k hk
            exact ⟨blk, hb, rb.le hle (hE k hk) (fun _ => rfl) (fun _ => allR_true _)⟩
        · refine ⟨_, hgetN, ?_⟩
          unfold BlkRel
          rw [hEN]
          refine ⟨hwd, fun h => .inl ⟨rfl, by show intR l = []; rw [hblk.1 h]; rfl⟩, fun h => ?_⟩
          obtain ⟨arr, g1, g2, g3, g4, g5, g6⟩ := hblk.2 h
          refine ⟨arr, g1, ?_, by simpa using g3, fun _ => ⟨by simpa using g4, by simpa using g5, g6⟩⟩
          exact RelR_ints.2 g2
      inj := fun k k' h h' hkk hn hn' => by
        rcases h with h | rfl <;> rcases h' with h' | rfl
        · rw [hE k h] at *
          rw [hE k' h'] at *
          exact hI.inj k k' h h' hkk hn hn'
        · rw [hE k h] at *
          rw [hEN] at *
          exact hsep k h hn hn'
        · rw [hE k' h'] at *
          rw [hEN] at *
          exact fun e => hsep k' h' hn' hn e.symm
        · exact absurd rfl hkk
      xsep := fun k b h hn hb => by
        rcases h with h | rfl
        · rw [hE k h] at *
          exact hI.xsep k b h hn hb
        · rw [hEN] at *
          intro e1
          subst e1
          exact (hI.ca _ (hloc hn).1).2.1 hb
      xlt := hI.xlt, xY := hI.xY, bnd := hI.bnd, bndG := hI.bndG
      e0 := fun k hk => by omega
      mlen := by omega
      os := hI.os, tape := hI.tape, output := hI.output, size := hI.size, keep := hI.keep
      loc := fun k h hn => by
        rcases h with h | rfl
        · rw [hE k h] at *
          exact hI.loc k h hn
        · rw [hEN] at *
          exact .inr (hloc hn).2.2
      x0 := hI.x0
      ca := fun b hb => ⟨⟨(hI.ca b hb.1).1, hb.2⟩, (hI.ca b hb.1).2⟩
      cc := fun b hb => by
        refine ⟨(hI.cc b hb.1).1, fun k h hn => ?_, (hI.cc b hb.1).2.2⟩
        rcases h with h | rfl
        · rw [hE k h] at *
          exact (hI.cc b hb.1).2.1 k h hn
        · rw [hEN] at *
          exact fun e1 => hb.2 ⟨hn, e1.symm⟩
      gh := fun k blk h hb hn hgr => by
        rcases h with h | rfl
        · rw [hget k (hlt k h)] at hb
          rw [hE k h] at hn
          by_cases h1 : kg = k
          · rw [if_pos h1] at hb
            cases hb
            refine ⟨fun b => C1 b ∧ ¬ S b, fun b hb => ⟨⟨(hC1 b hb.1).1, hb.2⟩, (hC1 b hb.1).2⟩, ?_⟩
            rw [hJ]
            refine ⟨_, rfl, ⟨fun j y m hj => ?_, fun i j y z ly lz b hi hj => ?_⟩⟩
            · rw [List.getElem?_set] at hj
              split at hj
              · split at hj <;> cases hj
              · rename_i hjr
                rcases hN.at_ j y m hj with h | ⟨b, cap, arr, g1, g2, g3, g4, g5⟩
                · exact .inl h
                · have hs : ¬ S b := by
                    rintro ⟨s1, s2⟩
                    refine hjr (hN.inj r j x y l m b hG hj ?_ (by rw [g1]; rfl))
                    rcases hx with ⟨h7, _⟩ | ⟨_, h7, _⟩
                    · rw [s1] at h7; cases h7
                    · rw [h7, s2]; rfl
                  exact .inr ⟨b, cap, arr, g1, ⟨g2, hs⟩, ⟨g3, hs⟩, g4, g5⟩
            · rw [List.getElem?_set] at hi hj
              split at hi
              · split at hi <;> cases hi
              · split at hj
                · split at hj <;> cases hj
                · exact hN.inj i j y z ly lz b hi hj
          · rw [if_neg h1] at hb
            by_cases h2 : kn = k
            · subst h2
              rw [nn] at hn; cases hn
            · rw [if_neg h2] at hb
              exact (hno.not hI (fun e1 => h1 e1.symm) h hb hn hgr).elim
        · rw [hgetN] at hb
          cases hb
          cases hgr
      zc := fun b hb => ⟨⟨(hI.zc b hb).1, hZ b hb⟩, fun h => (hI.zc b hb).2.1 h.1, (hI.zc b hb).2.2⟩
      z0 := hI.z0, xk := hI.xk }
  · by_cases hk : k < hp.length
    · rw [hget k hk] at hb
      by_cases h1 : kg = k
      · exact .inl (h1 ▸ hDg)
      · rw [if_neg h1] at hb
        by_cases h2 : kn = k
        · exact .inl (h2 ▸ hDn)
        · rw [if_neg h2] at hb
          exact .inl (hS.full k b hb)
    · have := (List.getElem?_eq_some_iff.1 hb).1
      simp at this
      exact .inr (by omega)
  · obtain ⟨ml, g1, g2, g3⟩ := hS.ds
    exact ⟨ml, g1, g2, fun b hb => ⟨(g3 b hb).1, (g3 b hb).2.1, ⟨(g3 b hb).2.2.1, hZ b (g3 b hb).2.1⟩, (g3 b hb).2.2.2⟩⟩

theorem set3_get {α : Type} {l : List α} {i j m : Nat} {x y z : α} {k : Nat} : (((l.set i x).set j y).set m z)[k]? = if k < l.length then (if m = k then some z else if j = k then some y else if i = k then some x else l[k]?) else none := by
  by_cases hk : k < l.length
  · rw [if_pos hk, List.getElem?_set]
    split
    · rw [if_pos (by simpa using by omega)]
    · rw [set2_get, if_pos hk]
  · rw [if_neg hk, List.getElem?_eq_none (by simpa using by omega)]

/-- A list is closed: its block is a local one no more. -/
theorem St.nsClose (hS : St w0 M c tm hp a ds) (hm : M.m = 0) (hJ : M.J = NsJ e w0) (hMM : ∀ b, ¬ M.M b) {kn kg k t : Nat} (hng : kn ≠ kg) (hnk : k ≠ kn) (hgk : k ≠ kg) (hno : NoGh kg hp) {gr : Bool} {rows : List (List Sv)} {G : List (Option (Value × List Int))}
    (hn : hp[kn]? = some (some ⟨t, 1, false, gr, rows⟩)) (hg : hp[kg]? = some (some ⟨0, 0, true, false, nsRows G⟩)) {l : List Int} (hk : hp[k]? = some (some ⟨e, 1, true, true, intR l⟩)) {r n : Nat} (hr : rows[r]? = some [.own k n]) (hnl : n = l.length) (hG : G[r]? = some none)
    (ht : ∀ t, (tmGet tm t).all (fun j => j != k) = true) (hrows : ∀ i row, i ≠ r → rows[i]? = some row → Sv.all.allL (fun j => j != k) row = true)
    (hoth : ∀ (j : Nat) (blk : Blk), j ≠ kn → j ≠ k → hp[j]? = some (some blk) → blk.clean = false → blk.rows.all (Sv.all.allL (fun j => j != k)) = true) :
    ∃ c' x, c'.w = c.w ∧ St w0 M c' tm (((hp.set kn (some ⟨t, 1, false, gr, rows.set r [.val x]⟩)).set kg (some ⟨0, 0, true, false, nsRows (G.set r (some (x, l)))⟩)).set k none) a ds := by
  subst hnl
  have hI := hS.inv
  have hDn := hS.full _ _ hn
  have hDg := hS.full _ _ hg
  have hDk := hS.full _ _ hk
  have hlt : ∀ k, c.D k → k < hp.length := fun k hk => by obtain ⟨blk, hb, _⟩ := hI.dom k hk; exact (List.getElem?_eq_some_iff.1 hb).1
  obtain ⟨bn, hbn, rn⟩ := hI.dom kn hDn
  rw [hn] at hbn
  cases hbn
  obtain ⟨bg, hbg, rg⟩ := hI.dom kg hDg
  rw [hg] at hbg
  cases hbg
  obtain ⟨bk, hbk, rk⟩ := hI.dom k hDk
  rw [hk] at hbk
  cases hbk
  have nn := rn.real hr
  have ng := rg.ghost
  obtain ⟨C1, hC1, hj⟩ := hI.gh kg _ hDg hg ng rfl
  rw [hJ] at hj
  obtain ⟨G', hGG, hN⟩ := hj
  cases nsRows_inj hGG
  -- the value that lies in the cell
  obtain ⟨arrn, n1, n2, n3, n4⟩ := rn.2.2 nn
  rw [RelR_iff] at n2
  have h3 := (n2 r _ hr).2
  simp only [RelC] at h3
  obtain ⟨⟨x, h4, h5, h6⟩, _⟩ := h3
  simp only [Blk.cx, Rel, Bool.false_eq_true, if_false] at h4 h6
  obtain ⟨_, h6⟩ := h6
  let S : Nat → Prop := fun b => (c.E k).nil = false ∧ b = (c.E k).b
  let c' : Cx := { c with D := fun j => c.D j ∧ j ≠ k, A := fun b => c.A b ∨ S b, C := fun b => c.C b ∨ S b }
  have hle : c.Le (fun j => j != k) c' := ⟨fun j hj hD => ⟨⟨hD, by simpa using hj⟩, rfl⟩, fun _ h => h, fun _ _ h => h, fun _ _ => rfl⟩
  have hfresh : ∀ b, S b → w0.heap.size ≤ b := fun b hb => by
    rcases hI.loc k hDk hb.1 with h | h
    · exact (hMM _ h).elim
    · rw [hb.2]; exact h
  have hCS : ∀ b, c.C b → ¬ S b := fun b hb hs => (hI.cc b hb).2.1 k hDk hs.1 hs.2.symm
  have hget : ∀ j, j < hp.length → (((hp.set kn (some ⟨t, 1, false, gr, rows.set r [.val x]⟩)).set kg (some ⟨0, 0, true, false, nsRows (G.set r (some (x, l)))⟩)).set k none)[j]? = if k = j then some none else if kg = j then some (some ⟨0, 0, true, false, nsRows (G.set r (some (x, l)))⟩) else if kn = j then some (some ⟨t, 1, false, gr, rows.set r [.val x]⟩) else hp[j]? := fun j hj => by
    rw [set3_get, if_pos hj]
  refine ⟨c', x, rfl, { inv := ?_, full := fun j b hb => ?_, rel := fun t => Rel.le _ (ht t) hle (hS.rel t), size := hS.size, ds := ?_ }⟩
  · exact {
      dom := fun j hj => by
        rw [hget j (hlt j hj.1), if_neg (fun e1 => hj.2 e1.symm)]
        by_cases h1 : kg = j
        · subst h1
          rw [if_pos rfl]
          exact ⟨_, rfl, rg.1, fun _ => .inr ⟨rfl, rfl, rfl⟩, fun h => by rw [show (c'.E kg).nil = (c.E kg).nil from rfl, ng] at h; cases h⟩
        rw [if_neg h1]
        by_cases h2 : kn = j
        · subst h2
          rw [if_pos rfl]
          refine ⟨_, rfl, rn.1, fun h => (by rw [show (c'.E kn).nil = (c.E kn).nil from rfl, nn] at h; cases h), fun _ => ⟨arrn, n1, ?_, by simpa using n3, fun h => by simpa using n4 h⟩⟩
          show RelR (rows.set r [.val x]) c' 1 _ 0
          rw [RelR_iff]
          intro i row hrow
          rw [List.getElem?_set] at hrow
          split at hrow
          · rename_i hir
            subst hir
            split at hrow
            · cases hrow
              refine ⟨rfl, ?_⟩
              simp only [RelC]
              exact ⟨⟨x, h4, h5, by simp [Rel]⟩, trivial⟩
            · cases hrow
          · rename_i hir
            refine ⟨(n2 i row hrow).1, ?_⟩
            have h7 := (n2 i row hrow).2
            simp only [Blk.cx, Bool.false_eq_true, if_false] at h7
            exact RelC.le _ (hrows i row (fun e1 => hir e1.symm) hrow) hle rfl h7
        · rw [if_neg h2]
          obtain ⟨blk, hb, rb⟩ := hI.dom j hj.1
          exact ⟨blk, hb, rb.le hle rfl (fun _ => rfl) (fun hc => hoth j blk (fun e1 => h2 e1.symm) hj.2 hb hc)⟩
      inj := fun i j h h' => hI.inj i j h.1 h'.1
      xsep := fun i b h => hI.xsep i b h.1
      xlt := hI.xlt, xY := hI.xY, bnd := hI.bnd, bndG := hI.bndG
      e0 := fun i hi => by omega
      mlen := by omega
      os := hI.os, tape := hI.tape, output := hI.output, size := hI.size, keep := hI.keep
      loc := fun i h => hI.loc i h.1
      x0 := hI.x0
      ca := fun b hb => by
        rcases hb with hb | hb
        · exact ⟨.inl (hI.ca b hb).1, (hI.ca b hb).2⟩
        · exact ⟨.inr hb, fun hx => hI.xsep k b hDk hb.1 hx hb.2.symm, .inl (hfresh b hb)⟩
      cc := fun b hb => by
        rcases hb with hb | hb
        · exact ⟨(hI.cc b hb).1, fun i h => (hI.cc b hb).2.1 i h.1, (hI.cc b hb).2.2⟩
        · refine ⟨by rw [hb.2]; exact rk.lt hb.1, fun i h hni => ?_, .inl (hfresh b hb)⟩
          rw [hb.2]
          exact hI.inj i k h.1 hDk h.2 hni hb.1
      gh := fun j blk h hb hnj hgr => by
        rw [hget j (hlt j h.1), if_neg (fun e1 => h.2 e1.symm)] at hb
        by_cases h1 : kg = j
        · rw [if_pos h1] at hb
          cases hb
          refine ⟨fun b => C1 b ∨ S b, fun b hb => ?_, ?_⟩
          · rcases hb with hb | hb
            · exact ⟨.inl (hC1 b hb).1, (hC1 b hb).2⟩
            · exact ⟨.inr hb, fun hz => hCS b (hI.zc b hz).1 hb⟩
          rw [hJ]
          have hx : NsAt w0.heap.size e (fun b => c.A b ∨ S b) (fun b => C1 b ∨ S b) c.w x l := by
            rcases h6 with ⟨f1, f2, f3⟩ | ⟨f1, f2, f3⟩
            · exact .inl ⟨f2, List.length_eq_zero_iff.1 f3⟩
            · obtain ⟨arr, k1, k2, k3, k4⟩ := rk.2.2 f1
              obtain ⟨k5, k6, k7⟩ := k4 rfl
              exact .inr ⟨_, _, arr, f2, .inr ⟨f1, rfl⟩, .inr ⟨f1, rfl⟩, hfresh _ ⟨f1, rfl⟩, k1, by simpa using k3, by simpa using k5, by simpa using k6, k7, (RelR_ints (c := c.shut)).1 k2⟩
          have hxb : ∀ b, blkOf x = some b → S b := fun b hb => by
            rcases h6 with ⟨f1, f2, f3⟩ | ⟨f1, f2, f3⟩
            · rw [f2] at hb; cases hb
            · rw [f2] at hb; cases hb; exact ⟨f1, rfl⟩
          have hob : ∀ (i : Nat) y m b, G[i]? = some (some (y, m)) → blkOf y = some b → ¬ S b := fun i y m b hi hb => by
            rcases hN.at_ i y m hi with h | ⟨b', cap, arr, g1, g2, g3, _⟩
            · rw [h.1] at hb; cases hb
            · rw [g1] at hb; cases hb; exact hCS _ (hC1 _ g3).1
          refine ⟨_, rfl, ⟨fun i y m hi => ?_, fun i j y z ly lz b hi hj hy hz => ?_⟩⟩
          · rw [List.getElem?_set] at hi
            split at hi
            · split at hi
              · cases hi; exact hx
              · cases hi
            · rcases hN.at_ i y m hi with h | ⟨b, cap, arr, g1, g2, g3, g4⟩
              · exact .inl h
              · exact .inr ⟨b, cap, arr, g1, .inl g2, .inl g3, g4⟩
          · rw [List.getElem?_set] at hi hj
            split at hi
            · rename_i hri
              split at hi
              · cases hi
                split at hj
                · rename_i hrj; omega
                · exact (hob j z lz b hj hz (hxb b hy)).elim
              · cases hi
            · split at hj
              · split at hj
                · cases hj
                  exact (hob i y ly b hi hy (hxb b hz)).elim
                · cases hj
              · exact hN.inj i j y z ly lz b hi hj hy hz
        · rw [if_neg h1] at hb
          by_cases h2 : kn = j
          · subst h2
            rw [show (c'.E kn).nil = (c.E kn).nil from rfl, nn] at hnj; cases hnj
          · rw [if_neg h2] at hb
            exact (hno.not hI (fun e1 => h1 e1.symm) h.1 hb hnj hgr).elim
      zc := fun b hb => ⟨.inl (hI.zc b hb).1, fun h => h.elim (hI.zc b hb).2.1 (hCS b (hI.zc b hb).1), (hI.zc b hb).2.2⟩
      z0 := hI.z0, xk := hI.xk }
  · have hj := (List.getElem?_eq_some_iff.1 hb).1
    simp only [List.length_set] at hj
    rw [hget j hj] at hb
    by_cases h0 : k = j
    · rw [if_pos h0] at hb; cases hb
    rw [if_neg h0] at hb
    refine ⟨?_, fun e1 => h0 e1.symm⟩
    by_cases h1 : kg = j
    · exact h1 ▸ hDg
    · rw [if_neg h1] at hb
      by_cases h2 : kn = j
      · exact h2 ▸ hDn
      · rw [if_neg h2] at hb
        exact hS.full j b hb
  · obtain ⟨ml, g1, g2, g3⟩ := hS.ds
    exact ⟨ml, g1, g2, fun b hb => ⟨(g3 b hb).1, (g3 b hb).2.1, .inl (g3 b hb).2.2.1, (g3 b hb).2.2.2⟩⟩

/-- All lists are given up as content. -/
theorem St.nsEnd (hS : St w0 M c tm hp a ds) (hm : M.m = 0) (hJ : M.J = NsJ e w0) {kn kg t : Nat} (hng : kn ≠ kg) (hno : NoGh kg hp) {cl gr : Bool} {G : List (Option (Value × List Int))} {vs : List Value} {L : List (List Int)}
    (hn : hp[kn]? = some (some ⟨t, 1, cl, gr, vs.map fun x => [.val x]⟩)) (hg : hp[kg]? = some (some ⟨0, 0, true, false, nsRows G⟩)) (hvL : vs.length = L.length) (hG : ∀ (j : Nat) x l, vs[j]? = some x → L[j]? = some l → G[j]? = some (some (x, l)))
    (hpos : 0 < vs.length) (ht : ∀ t, (tmGet tm t).all (fun j => j != kg) = true)
    (hoth : ∀ (j : Nat) (blk : Blk), j ≠ kg → hp[j]? = some (some blk) → blk.clean = false → blk.rows.all (Sv.all.allL (fun j => j != kg)) = true) :
    ∃ c', c'.w = c.w ∧ St w0 M c' tm ((hp.set kn (some ⟨t, 1, true, gr, L.map fun l => [.ext true 1 (intR l)]⟩)).set kg none) a ds := by
  have hI := hS.inv
  have hDn := hS.full _ _ hn
  have hDg := hS.full _ _ hg
  have hlt : ∀ k, c.D k → k < hp.length := fun k hk => by obtain ⟨blk, hb, _⟩ := hI.dom k hk; exact (List.getElem?_eq_some_iff.1 hb).1
  obtain ⟨bn, hbn, rn⟩ := hI.dom kn hDn
  rw [hn] at hbn
  cases hbn
  obtain ⟨bg, hbg, rg⟩ := hI.dom kg hDg
  rw [hg] at hbg
  cases hbg
  have nn := rn.real (r := 0) (x := [.val vs[0]]) (by simp [hpos])
  have ng := rg.ghost
  obtain ⟨C1, hC1, hj⟩ := hI.gh kg _ hDg hg ng rfl
  rw [hJ] at hj
  obtain ⟨G', hGG, hN⟩ := hj
  cases nsRows_inj hGG
  obtain ⟨arrn, n1, n2, n3, n4⟩ := rn.2.2 nn
  rw [RelR_iff] at n2
  let S : Nat → Prop := fun b => ∃ (j : Nat) (x : Value) (l : List Int), G[j]? = some (some (x, l)) ∧ blkOf x = some b
  have hSp : ∀ b, S b → c.A b ∧ c.C b ∧ ¬ c.Z b ∧ w0.heap.size ≤ b ∧ b < c.w.heap.size := by
    rintro b ⟨j, x, l, h1, h2⟩
    rcases hN.at_ j x l h1 with h | ⟨b', cap, arr, g1, g2, g3, g4, g5, _⟩
    · rw [h.1] at h2; cases h2
    · rw [g1] at h2; cases h2
      exact ⟨g2, (hC1 _ g3).1, (hC1 _ g3).2, g4, (Array.getElem?_eq_some_iff.1 g5).1⟩
  let c' : Cx := { c with D := fun j => c.D j ∧ j ≠ kg, X := fun b => c.X b ∨ S b, A := fun b => c.A b ∧ ¬ S b, C := fun b => c.C b ∧ ¬ S b }
  have hGS : ∀ b, S b → c.G b := fun b hb => by rw [hI.bnd]; exact hI.bndG.g b (.inl (hSp b hb).2.2.2.1)
  have hle : c.Le (fun j => j != kg) c' := ⟨fun j hj hD => ⟨⟨hD, by simpa using hj⟩, rfl⟩, fun _ h => .inl h, fun _ _ h => h, fun _ _ => rfl⟩
  have hget : ∀ j, j < hp.length → ((hp.set kn (some ⟨t, 1, true, gr, L.map fun l => [.ext true 1 (intR l)]⟩)).set kg none)[j]? = if kg = j then some none else if kn = j then some (some ⟨t, 1, true, gr, L.map fun l => [.ext true 1 (intR l)]⟩) else hp[j]? := fun j hj => by
    rw [set2_get, if_pos hj]
  refine ⟨c', rfl, { inv := ?_, full := fun j b hb => ?_, rel := fun t => Rel.le _ (ht t) hle (hS.rel t), size := hS.size, ds := ?_ }⟩
  · exact {
      dom := fun j hj => by
        rw [hget j (hlt j hj.1), if_neg (fun e1 => hj.2 e1.symm)]
        by_cases h2 : kn = j
        · subst h2
          rw [if_pos rfl]
          refine ⟨_, rfl, rn.1, fun h => (by rw [show (c'.E kn).nil = (c.E kn).nil from rfl, nn] at h; cases h), fun _ => ⟨arrn, n1, ?_, by simpa [hvL] using n3, fun h => by simpa [hvL] using n4 h⟩⟩
          show RelR _ c'.shut 1 _ 0
          rw [RelR_iff]
          intro i row hrow
          rw [List.getElem?_map] at hrow
          cases hl : L[i]? with
          | none => rw [hl] at hrow; cases hrow
          | some l =>
            rw [hl] at hrow
            simp only [Option.map_some, Option.some.injEq] at hrow
            subst hrow
            obtain ⟨x, hx⟩ : ∃ x, vs[i]? = some x := by
              have := (List.getElem?_eq_some_iff.1 hl).1
              exact ⟨vs[i]'(by omega), List.getElem?_eq_getElem _⟩
            have h7 := (n2 i [.val x] (by rw [List.getElem?_map, hx]; rfl)).2
            simp only [RelC, Rel] at h7
            obtain ⟨⟨u, h8, h9, rfl⟩, _⟩ := h7
            refine ⟨rfl, ?_⟩
            simp only [RelC]
            refine ⟨⟨u, ?_, h9, ?_⟩, trivial⟩
            · show c.w.cell? _ = _
              unfold Blk.cx at h8
              cases cl <;> exact h8
            · simp only [Rel]
              rcases hN.at_ i u l (hG i u l hx hl) with ⟨g1, g2⟩ | ⟨b, cap, arr, g1, g2, g3, g4, g5, g6, g7, g8, g9, g10⟩
              · exact ⟨none, 0, by rw [g1, g2]; rfl, by rw [g2]; exact Nat.le_refl _, .inl (by rw [g2]; rfl)⟩
              · have hs : S b := ⟨i, u, l, hG i u l hx hl, by rw [g1]; rfl⟩
                exact ⟨_, cap, by rw [g1]; simp, by simpa using g8, .inr ⟨b, 0, rfl, .inr hs, fun _ => hGS b hs, RelR_ints.2 g10⟩⟩
        · rw [if_neg h2]
          obtain ⟨blk, hb, rb⟩ := hI.dom j hj.1
          exact ⟨blk, hb, rb.le hle rfl (fun _ => rfl) (fun hc => hoth j blk hj.2 hb hc)⟩
      inj := fun i j h h' => hI.inj i j h.1 h'.1
      xsep := fun i b h hni hb => by
        rcases hb with hb | hb
        · exact hI.xsep i b h.1 hni hb
        · exact (hI.cc b (hSp b hb).2.1).2.1 i h.1 hni
      xlt := fun b hb => hb.elim (hI.xlt b) fun h => (hSp b h).2.2.2.2
      xY := fun b hb => hb.elim (hI.xY b) fun h hy => by have := (hI.bndG.y b hy).1; have := (hSp b h).2.2.2.1; omega
      bnd := hI.bnd, bndG := hI.bndG
      e0 := fun i hi => by omega
      mlen := by omega
      os := hI.os, tape := hI.tape, output := hI.output, size := hI.size, keep := hI.keep
      loc := fun i h => hI.loc i h.1
      x0 := fun b hb => hb.elim (hI.x0 b) fun h => .inl (hSp b h).2.2.2.1
      ca := fun b hb => ⟨⟨(hI.ca b hb.1).1, hb.2⟩, fun hx => hx.elim (hI.ca b hb.1).2.1 hb.2, (hI.ca b hb.1).2.2⟩
      cc := fun b hb => ⟨(hI.cc b hb.1).1, fun i h => (hI.cc b hb.1).2.1 i h.1, (hI.cc b hb.1).2.2⟩
      gh := fun j blk h hb hnj hgr => by
        rw [hget j (hlt j h.1), if_neg (fun e1 => h.2 e1.symm)] at hb
        by_cases h2 : kn = j
        · subst h2
          rw [show (c'.E kn).nil = (c.E kn).nil from rfl, nn] at hnj; cases hnj
        · rw [if_neg h2] at hb
          exact (hno.not hI h.2 h.1 hb hnj hgr).elim
      zc := fun b hb => ⟨⟨(hI.zc b hb).1, fun hs => (hSp b hs).2.2.1 hb⟩, fun h => (hI.zc b hb).2.1 h.1, fun h => h.elim (hI.zc b hb).2.2 fun hs => (hSp b hs).2.2.1 hb⟩
      z0 := hI.z0
      xk := fun b hb => .inl (hI.xk b hb) }
  · have hj := (List.getElem?_eq_some_iff.1 hb).1
    simp only [List.length_set] at hj
    rw [hget j hj] at hb
    by_cases h1 : kg = j
    · rw [if_pos h1] at hb; cases hb
    rw [if_neg h1] at hb
    refine ⟨?_, fun e1 => h1 e1.symm⟩
    by_cases h2 : kn = j
    · exact h2 ▸ hDn
    · rw [if_neg h2] at hb
      exact hS.full j b hb
  · obtain ⟨ml, g1, g2, g3⟩ := hS.ds
    exact ⟨ml, g1, g2, fun b hb => ⟨(g3 b hb).1, (g3 b hb).2.1, ⟨(g3 b hb).2.2.1, fun hs => (hSp b hs).2.2.1 (g3 b hb).2.1⟩, (g3 b hb).2.2.2⟩⟩
end
end Go.Eng
