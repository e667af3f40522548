/- The engine, part M: states seen as others that say less: nil slices as blocks of their own, blocks picked out and numbered anew, blocks that turn into contents. -/
import Derived.Test.YtobojnfhhobnkaaEngO
set_option linter.unusedSimpArgs false
set_option maxRecDepth 20000
set_option linter.unusedVariables false
namespace Go.Eng
open Go Go.RowKit

/-! ### Nil slices as blocks of their own -/
def nilB (p : Nat × Nat) : Blk := ⟨p.1, p.2, true, true, []⟩
def nilLoc (wd : Nat) : Loc := ⟨0, 0, true, wd⟩

theorem Inv.nil1 {w0 : World} {M : Frm} {c : Cx} {hp : Hp} (h : Inv w0 M c hp) (p : Nat × Nat) :
    Inv w0 M (c.put hp.length (nilLoc p.2) c.w) (hp ++ [some (nilB p)]) ∧ c.Le (fun _ => true) (c.put hp.length (nilLoc p.2) c.w) ∧ ¬ c.D hp.length := by
  have hn : ¬ c.D hp.length := fun hd => by
    obtain ⟨b, hb, _⟩ := h.dom _ hd
    have := (List.getElem?_eq_some_iff.1 hb).1
    omega
  refine ⟨?_, Cx.Le.put hn (fun _ _ => rfl), hn⟩
  refine h.new (hp' := hp ++ [some (nilB p)]) hn h.mlen (fun k hk => ?_) (blk := nilB p) (by simp) (l := nilLoc p.2) (WGrow.refl _) (fun h => by cases h) ?_ (fun _ => rfl)
  · obtain ⟨b, hb, _⟩ := h.dom k hk
    rw [List.getElem?_append_left (List.getElem?_eq_some_iff.1 hb).1]
  · unfold BlkRel
    simp [Cx.put, nilLoc, nilB]

theorem Inv.nils {w0 : World} {M : Frm} : ∀ (zs : List (Nat × Nat)) {c : Cx} {hp : Hp}, Inv w0 M c hp → (∀ (k : Nat) (b : Blk), hp[k]? = some (some b) → c.D k) →
    ∃ c', c'.w = c.w ∧ c'.X = c.X ∧ c'.G = c.G ∧ c.Le (fun _ => true) c' ∧ Inv w0 M c' (hp ++ zs.map fun p => some (nilB p)) ∧ (∀ (k : Nat) (b : Blk), (hp ++ zs.map fun p => some (nilB p))[k]? = some (some b) → c'.D k) ∧
      (∀ k, hp.length ≤ k → k < hp.length + zs.length → c'.D k ∧ (c'.E k).nil = true) ∧ c.Cq c'
  | [], c, hp, h, hf => ⟨c, rfl, rfl, rfl, ⟨fun _ _ h => ⟨h, rfl⟩, fun _ h => h, fun _ _ h => h, fun _ _ => rfl⟩, by simpa using h, by simpa using hf, fun k h1 h2 => by simp at h2; omega, rfl, rfl, rfl, fun _ _ => rfl⟩
  | p :: zs, c, hp, h, hf => by
    obtain ⟨h1, hle, hnd⟩ := h.nil1 p
    have hf1 : ∀ (k : Nat) (b : Blk), (hp ++ [some (nilB p)])[k]? = some (some b) → (c.put hp.length (nilLoc p.2) c.w).D k := fun k b hk => by
      by_cases hlt : k < hp.length
      · rw [List.getElem?_append_left hlt] at hk
        exact .inl (hf k b hk)
      · rw [List.getElem?_append_right (by omega)] at hk
        have : k - hp.length = 0 := by
          have := (List.getElem?_eq_some_iff.1 hk).1
          simp at this
          omega
        exact .inr (by omega)
    obtain ⟨c', e1, e2, e3, hle', hI, hf', hnil, hq⟩ := Inv.nils zs h1 hf1
    have happ : hp ++ (p :: zs).map (fun p => some (nilB p)) = hp ++ [some (nilB p)] ++ zs.map fun p => some (nilB p) := by simp
    rw [happ]
    refine ⟨c', e1, e2, e3, ?_, hI, hf', fun k h1 h2 => ?_, hq.cA, hq.cC, hq.cZ, hq.hb⟩
    · exact ⟨fun k hk hd => ⟨(hle'.ed k hk (hle.ed k hk hd).1).1, (hle'.ed k hk (hle.ed k hk hd).1).2.trans (hle.ed k hk hd).2⟩, fun b hb => hle'.x b (hle.x b hb), fun b hx hb => hle'.b b (hle.x b hx) (hle.b b hx hb), fun b hb => (hle'.heap b (hle.x b hb)).trans (hle.heap b hb)⟩
    · by_cases hk : k = hp.length
      · subst hk
        have := hle'.ed hp.length rfl (.inr rfl)
        exact ⟨this.1, by rw [this.2]; simp [Cx.put, nilLoc]⟩
      · simp at h2 
        exact hnil k (by simp; omega) (by simp; omega)


/-- Every nil slice may be seen as a block of its own: the numbers from n on, up to m. -/
def nlB (n m : Nat) (k : Nat) : Bool := Nat.ble n k && Nat.ble (k + 1) m

/-! ### Views -/
mutual
/-- The value s, seen as s1: blocks of sel under their places in sel; other blocks turn into contents for good; nl: nil slices. -/
def Vw (hp : Hp) (nl : Nat → Bool) (sel : List Nat) (s : Sv) : Sv → Prop
  | .any => True
  | .val x => s = .val x
  | .agg cs1 => match s with
    | .agg cs => VwL hp nl sel cs cs1
    | _ => False
  | .tup cs1 => match s with
    | .tup cs => VwL hp nl sel cs cs1
    | _ => False
  | .ptr i r q => match s with
    | .ptr k r' q' => nth sel i = some k ∧ r' = r ∧ q' = q
    | _ => False
  | .own i n => match s with
    | .own k n' => nth sel i = some k ∧ n' = n
    | .val (.slice none 0 0) => (∃ k, nth sel i = some k ∧ nl k = true) ∧ n = 0
    | _ => False
  | .sls i lo n => match s with
    | .sls k lo' n' => nth sel i = some k ∧ lo' = lo ∧ n' = n
    | .own k n' => nth sel i = some k ∧ lo = 0 ∧ n' = n
    | _ => False
  | .ext fr1 wd1 rows1 => match s with
    | .ext fr wd rows => (fr1 = true → fr = true) ∧ wd = wd1 ∧ rows = rows1
    | .own k m => memB k sel = false ∧ ∃ b, hpGet hp k = some b ∧ (m = b.rows.length ∧ b.wd = wd1 ∧ (b.clean = true ∧ b.rows = rows1 ∨ VwR hp nl sel b.rows rows1 ∧ rows1.all (Sv.all.allL fun _ => false) = true) ∨ m ≤ b.rows.length ∧ b.wd = wd1 ∧ b.clean = true ∧ b.rows.take m = rows1)
    | .sls k lo m => memB k sel = false ∧ ∃ b, hpGet hp k = some b ∧ lo + m ≤ b.rows.length ∧ b.wd = wd1 ∧ (b.clean = true ∧ (b.rows.drop lo).take m = rows1 ∨ VwR hp nl sel ((b.rows.drop lo).take m) rows1 ∧ rows1.all (Sv.all.allL fun _ => false) = true)
    | .val (.slice none 0 0) => rows1 = []
    | _ => False
  | .ref fr1 cs1 => match s with
    | .ref fr cs => (fr1 = true → fr = true) ∧ cs = cs1
    | .ptr k r q => memB k sel = false ∧ ∃ b row, hpGet hp k = some b ∧ nth b.rows r = some row ∧ (b.clean = true ∧ row.drop q = cs1 ∨ VwL hp nl sel (row.drop q) cs1 ∧ Sv.all.allL (fun _ => false) cs1 = true)
    | _ => False
  | .clo f cs1 => match s with
    | .clo g cs => g = f ∧ VwL hp nl sel cs cs1
    | _ => False
def VwL (hp : Hp) (nl : Nat → Bool) (sel : List Nat) (ss : List Sv) : List Sv → Prop
  | [] => ss = []
  | s1 :: ss1 => match ss with
    | s :: ss => Vw hp nl sel s s1 ∧ VwL hp nl sel ss ss1
    | [] => False
def VwR (hp : Hp) (nl : Nat → Bool) (sel : List Nat) (rs : List (List Sv)) : List (List Sv) → Prop
  | [] => rs = []
  | r1 :: rs1 => match rs with
    | r :: rs => VwL hp nl sel r r1 ∧ VwR hp nl sel rs rs1
    | [] => False
end
def VwB (hp : Hp) (nl : Nat → Bool) (sel : List Nat) (b b1 : Blk) : Prop :=
  b1.elem = b.elem ∧ b1.wd = b.wd ∧ b1.grow = b.grow ∧ (b.clean = true ∧ b1.clean = true ∧ b.rows = b1.rows ∨ b.clean = true ∧ b.grow = true ∧ b1.clean = true ∧ (∃ n, b1.rows = b.rows.take n) ∨ VwR hp nl sel b.rows b1.rows ∧ (b1.clean = false ∨ b1.rows.all (Sv.all.allL fun _ => false) = true) ∧ b.ng)
/-- The blocks, by their new places; a place may be empty. -/
def VwBs (hp : Hp) (nl : Nat → Bool) (sel : List Nat) : List Nat → Hp → Prop
  | [], bs => bs = []
  | k :: ks, bs => match bs with
    | none :: bs => hpGet hp k = none ∧ VwBs hp nl sel ks bs
    | some b1 :: bs => (∃ b, hpGet hp k = some b ∧ VwB hp nl sel b b1) ∧ VwBs hp nl sel ks bs
    | [] => False

def Cx.view (c : Cx) (sel : List Nat) (bs : Hp) : Cx :=
  { E := fun i => c.E (sel.getD i 0), D := fun i => ∃ b, bs[i]? = some (some b), X := fun b => c.X b ∨ ∃ k, c.D k ∧ memB k sel = false ∧ (c.E k).nil = false ∧ (c.E k).b = b, G := c.G, w := c.w, A := c.A, C := c.C, Z := c.Z }

section
variable {hp : Hp} {nl : Nat → Bool} {sel : List Nat} {bs : Hp} {w0 : World} {M : Frm} {c : Cx}

theorem view_shut : c.shut.Le (fun _ => true) (c.view sel bs).shut := ⟨fun _ _ h => h.elim, fun b hb => .inl hb, fun _ _ h => h, fun _ _ => rfl⟩

/-- What the views hang on. -/
structure Vk (hp : Hp) (nl : Nat → Bool) (sel : List Nat) (bs : Hp) (w0 : World) (M : Frm) (c : Cx) : Prop where
  inv : Inv w0 M c hp
  nl : ∀ k, nl k = true → c.D k ∧ (c.E k).nil = true
  at_ : ∀ i k, nth sel i = some k → c.D k → ∃ b, bs[i]? = some (some b)
  g : ∀ k, c.D k → (c.E k).nil = false → c.G (c.E k).b

theorem view_E {i k : Nat} (h : nth sel i = some k) : (c.view sel bs).E i = c.E k := by
  show c.E (sel.getD i 0) = _
  rw [(nth_getD h).2]

mutual
theorem Vw.rel (hk : Vk hp nl sel bs w0 M c) : ∀ (s1 : Sv) {s : Sv}, Vw hp nl sel s s1 → ∀ {v : Value}, Rel s c v → Rel s1 (c.view sel bs) v
  | .any, _, _, _, _ => by simp [Rel]
  | .val x, s, h, v, r => by
    simp only [Vw] at h
    subst h
    simpa [Rel] using r
  | .agg cs1, s, h, v, r => by
    simp only [Vw] at h
    split at h
    · simp only [Rel] at r ⊢
      obtain ⟨vs, e, hv⟩ := r
      exact ⟨vs, e, (VwL.rel hk cs1 h).1 vs hv⟩
    · exact h.elim
  | .tup cs1, s, h, v, r => by
    simp only [Vw] at h
    split at h
    · simp only [Rel] at r ⊢
      obtain ⟨vs, e, hv⟩ := r
      exact ⟨vs, e, (VwL.rel hk cs1 h).2.1 vs hv⟩
    · exact h.elim
  | .ptr i r0 q, s, h, v, r => by
    simp only [Vw] at h
    split at h
    · obtain ⟨hi, rfl, rfl⟩ := h
      simp only [Rel] at r ⊢
      rw [view_E hi]
      exact ⟨hk.at_ i _ hi r.1, r.2⟩
    · exact h.elim
  | .own i n, s, h, v, r => by
    simp only [Vw] at h
    split at h
    · obtain ⟨hi, rfl⟩ := h
      simp only [Rel] at r ⊢
      rw [view_E hi]
      exact ⟨hk.at_ i _ hi r.1, r.2⟩
    · obtain ⟨⟨k, hi, hn⟩, rfl⟩ := h
      simp only [Rel] at r ⊢
      rw [view_E hi]
      exact ⟨hk.at_ i _ hi (hk.nl k hn).1, .inl ⟨(hk.nl k hn).2, r, trivial⟩⟩
    · exact h.elim
  | .sls i lo n, s, h, v, r => by
    simp only [Vw] at h
    split at h
    · obtain ⟨hi, rfl, rfl⟩ := h
      simp only [Rel] at r ⊢
      rw [view_E hi]
      exact ⟨hk.at_ i _ hi r.1, r.2⟩
    · obtain ⟨hi, rfl, rfl⟩ := h
      simp only [Rel] at r ⊢
      rw [view_E hi]
      refine ⟨hk.at_ i _ hi r.1, ?_⟩
      rcases r.2 with ⟨_, rfl, h0⟩ | ⟨h1, rfl, h2⟩
      · exact ⟨none, 0, by rw [h0], by rw [h0]; exact Nat.le_refl _, .inl h0⟩
      · exact ⟨_, _, rfl, h2, .inr ⟨h1, by simp⟩⟩
    · exact h.elim
  | .ext fr1 wd1 rows1, s, h, v, r => by
    simp only [Vw] at h
    split at h
    · obtain ⟨hf, rfl, rfl⟩ := h
      simp only [Rel] at r ⊢
      obtain ⟨a, cap, e, hc, hr⟩ := r
      refine ⟨a, cap, e, hc, hr.imp id ?_⟩
      rintro ⟨b, off, ea, hx, hf', hr⟩
      exact ⟨b, off, ea, .inl hx, fun e => hf' (hf e), RelR.le _ (allR_true _) view_shut rfl hr⟩
    · rename_i k m
      obtain ⟨hkm, b, hb, ⟨hm, rfl, hrr⟩ | ⟨hm, rfl, hcl, rfl⟩⟩ := h
      case inr =>
        simp only [Rel] at r ⊢
        obtain ⟨hD, hv⟩ := r
        obtain ⟨_, hbl⟩ := hk.inv.block hD hb
        have hlen : (b.rows.take m).length = m := by rw [List.length_take]; omega
        rcases hv with ⟨hnil, rfl, h0⟩ | ⟨hnil, rfl, hc⟩
        · exact ⟨none, 0, by rw [hlen, h0], by rw [hlen, h0]; exact Nat.le_refl _, .inl (List.eq_nil_of_length_eq_zero (by omega))⟩
        · rcases hbl with ⟨_, h1⟩ | ⟨_, hlt, hr⟩
          · rw [hnil] at h1; cases h1
          · refine ⟨_, _, by rw [hlen], by rw [hlen]; exact hc, .inr ⟨_, _, rfl, .inr ⟨k, hD, hkm, hnil, rfl⟩, fun _ => hk.g k hD hnil, ?_⟩⟩
            simp only [Blk.cx, hcl] at hr
            exact RelR.le _ (allR_true _) view_shut rfl (RelR_take hr m)
      simp only [Rel] at r ⊢
      obtain ⟨hD, hv⟩ := r
      obtain ⟨_, hbl⟩ := hk.inv.block hD hb
      have hlen : rows1.length = b.rows.length := by
        rcases hrr with ⟨_, rfl⟩ | ⟨h, _⟩
        · rfl
        · exact (VwR.rel hk rows1 h).1
      rcases hv with ⟨hnil, rfl, h0⟩ | ⟨hnil, rfl, hc⟩
      · exact ⟨none, 0, by rw [hlen, ← hm, h0], by rw [hlen, ← hm, h0]; exact Nat.le_refl _, .inl (List.eq_nil_of_length_eq_zero (by omega))⟩
      · rcases hbl with ⟨_, h1⟩ | ⟨_, hlt, hr⟩
        · rw [hnil] at h1; cases h1
        · refine ⟨_, _, by rw [hlen, ← hm], by rw [hlen, ← hm]; exact hc, .inr ⟨_, _, rfl, .inr ⟨k, hD, hkm, hnil, rfl⟩, fun _ => hk.g k hD hnil, ?_⟩⟩
          rcases hrr with ⟨hcl, rfl⟩ | ⟨h, hall⟩
          · simp only [Blk.cx, hcl] at hr
            exact RelR.le _ (allR_true _) view_shut rfl hr
          · have h2 := (VwR.rel hk rows1 h).2 b.wd (c.E k).b 0 (RelR.le _ (allR_true _) (b.cx_le c) (by rw [b.cx_w c]) hr)
            exact RelR.le _ hall (c.view sel bs).le_shut rfl h2
    · rename_i k lo m
      obtain ⟨hkm, b, hb, hm, rfl, hrr⟩ := h
      have hlen' : ((b.rows.drop lo).take m).length = m := by rw [List.length_take, List.length_drop]; omega
      have hlen : rows1.length = m := by
        rcases hrr with ⟨_, rfl⟩ | ⟨h, _⟩
        · exact hlen'
        · exact ((VwR.rel hk rows1 h).1).trans hlen'
      simp only [Rel] at r ⊢
      obtain ⟨hD, a, cap, rfl, hc, hA⟩ := r
      obtain ⟨hwd, hbl⟩ := hk.inv.block hD hb
      refine ⟨a, cap, by rw [hlen], by rw [hlen]; exact hc, ?_⟩
      rcases hA with rfl | ⟨hnil, rfl⟩
      · exact .inl (List.eq_nil_of_length_eq_zero hlen)
      · rcases hbl with ⟨_, h1⟩ | ⟨_, hlt, hr⟩
        · rw [hnil] at h1; cases h1
        · have hr' := RelR_take (RelR_drop hr lo) m
          rw [Nat.zero_add] at hr'
          refine .inr ⟨_, _, rfl, .inr ⟨k, hD, hkm, hnil, rfl⟩, fun _ => hk.g k hD hnil, ?_⟩
          rw [hwd]
          rcases hrr with ⟨hcl, rfl⟩ | ⟨h, hall⟩
          · simp only [Blk.cx, hcl] at hr'
            exact RelR.le _ (allR_true _) view_shut rfl hr'
          · have h2 := (VwR.rel hk rows1 h).2 b.wd (c.E k).b _ (RelR.le _ (allR_true _) (b.cx_le c) (by rw [b.cx_w c]) hr')
            exact RelR.le _ hall (c.view sel bs).le_shut rfl h2
    · subst h
      simp only [Rel] at r ⊢
      exact ⟨none, 0, r, Nat.le_refl _, by simp⟩
    · exact h.elim
  | .ref fr1 cs1, s, h, v, r => by
    simp only [Vw] at h
    split at h
    · obtain ⟨hf, rfl⟩ := h
      simp only [Rel] at r ⊢
      obtain ⟨b, off, e, hx, hg, hr⟩ := r
      exact ⟨b, off, e, .inl hx, fun e => hg (hf e), RelC.le _ (allL_true _) view_shut rfl hr⟩
    · rename_i k r0 q
      obtain ⟨hkm, b, row, hb, hrow, hrr⟩ := h
      simp only [Rel] at r ⊢
      obtain ⟨hD, hnil, rfl⟩ := r
      obtain ⟨hwd, hbl⟩ := hk.inv.block hD hb
      rw [nth_eq] at hrow
      rcases hbl with ⟨_, h1⟩ | ⟨_, hlt, hrb⟩
      · rw [hnil] at h1; cases h1
      · refine ⟨_, _, rfl, .inr ⟨k, hD, hkm, hnil, rfl⟩, fun _ => hk.g k hD hnil, ?_⟩
        have hr' := RelC_drop q _ (RelR_get _ hrb r0 row hrow).2
        rw [Nat.zero_add] at hr'
        rw [hwd]
        rcases hrr with ⟨hcl, rfl⟩ | ⟨h, hall⟩
        · simp only [Blk.cx, hcl] at hr'
          exact RelC.le _ (allL_true _) view_shut rfl hr'
        · have h2 := (VwL.rel hk cs1 h).2.2.1 (c.E k).b _ (RelC.le _ (allL_true _) (b.cx_le c) (by rw [b.cx_w c]) hr')
          exact RelC.le _ hall (c.view sel bs).le_shut rfl h2
    · exact h.elim
  | .clo f cs1, s, h, v, r => by
    simp only [Vw] at h
    split at h
    · obtain ⟨rfl, h⟩ := h
      simp only [Rel] at r ⊢
      obtain ⟨vs, e, hv⟩ := r
      exact ⟨vs, e, (VwL.rel hk cs1 h).2.1 vs hv⟩
    · exact h.elim
theorem VwL.rel (hk : Vk hp nl sel bs w0 M c) : ∀ (ss1 : List Sv) {ss : List Sv}, VwL hp nl sel ss ss1 →
    (∀ vs, RelL ss c vs → RelL ss1 (c.view sel bs) vs) ∧ (∀ vs, RelT ss c vs → RelT ss1 (c.view sel bs) vs) ∧ (∀ b off, RelC ss c b off → RelC ss1 (c.view sel bs) b off) ∧ ss1.length = ss.length
  | [], ss, h => by
    simp only [VwL] at h
    subst h
    exact ⟨fun vs r => by simpa [RelL] using r, fun vs r => by simpa [RelT] using r, fun b off _ => by simp [RelC], rfl⟩
  | s1 :: ss1, ss, h => by
    simp only [VwL] at h
    split at h
    · obtain ⟨h1, h2⟩ := h
      have i1 := @Vw.rel hk s1 _ h1
      obtain ⟨a, b, d, e⟩ := VwL.rel hk ss1 h2
      refine ⟨fun vs r => ?_, fun vs r => ?_, fun bb off r => ?_, by simp [e]⟩
      · simp only [RelL] at r ⊢
        obtain ⟨u, us, eq, h1, h2, h3⟩ := r
        exact ⟨u, us, eq, h1, i1 h2, a us h3⟩
      · simp only [RelT] at r ⊢
        obtain ⟨u, us, eq, h2, h3⟩ := r
        exact ⟨u, us, eq, i1 h2, b us h3⟩
      · simp only [RelC] at r ⊢
        obtain ⟨⟨u, eq, h1, h2⟩, h3⟩ := r
        exact ⟨⟨u, eq, h1, i1 h2⟩, d bb _ h3⟩
    · exact h.elim
theorem VwR.rel (hk : Vk hp nl sel bs w0 M c) : ∀ (rs1 : List (List Sv)) {rs : List (List Sv)}, VwR hp nl sel rs rs1 →
    rs1.length = rs.length ∧ ∀ wd b off, RelR rs c wd b off → RelR rs1 (c.view sel bs) wd b off
  | [], rs, h => by
    simp only [VwR] at h
    subst h
    exact ⟨rfl, fun _ _ _ _ => by simp [RelR]⟩
  | r1 :: rs1, rs, h => by
    simp only [VwR] at h
    split at h
    · obtain ⟨h1, h2⟩ := h
      obtain ⟨_, _, d, e⟩ := VwL.rel hk r1 h1
      obtain ⟨a, b⟩ := VwR.rel hk rs1 h2
      refine ⟨by simp [a], fun wd bb off q => ?_⟩
      simp only [RelR] at q ⊢
      exact ⟨by rw [e]; exact q.1, d bb off q.2.1, b wd bb _ q.2.2⟩
    · exact h.elim
end

theorem VwBs_get : ∀ {ks : List Nat} {bs : Hp}, VwBs hp nl sel ks bs → bs.length = ks.length ∧ ∀ (i k : Nat) (b1 : Blk), ks[i]? = some k → bs[i]? = some (some b1) → ∃ b, hpGet hp k = some b ∧ VwB hp nl sel b b1
  | [], bs, h => by simp only [VwBs] at h; subst h; simp
  | k :: ks, bs, h => by
    simp only [VwBs] at h
    split at h
    · obtain ⟨h1, h2⟩ := VwBs_get h.2
      refine ⟨by simp [h1], fun i j b1 hi hb => ?_⟩
      cases i with
      | zero => simp at hb
      | succ i => exact h2 i j b1 (by simpa using hi) (by simpa using hb)
    · obtain ⟨⟨b, hb, hc⟩, h⟩ := h
      obtain ⟨h1, h2⟩ := VwBs_get h
      refine ⟨by simp [h1], fun i j b1 hi hb1 => ?_⟩
      cases i with
      | zero => simp at hi hb1; subst hi hb1; exact ⟨b, hb, hc⟩
      | succ i => exact h2 i j b1 (by simpa using hi) (by simpa using hb1)
    · exact h.elim

theorem VwBs_at : ∀ {ks : List Nat} {bs : Hp}, VwBs hp nl sel ks bs → ∀ (i k : Nat) {blk : Blk}, ks[i]? = some k → hpGet hp k = some blk → ∃ b1, bs[i]? = some (some b1)
  | [], bs, h, i, k, _, hi, _ => by simp at hi
  | j :: ks, bs, h, i, k, blk, hi, hb => by
    simp only [VwBs] at h
    split at h
    · cases i with
      | zero => simp at hi; subst hi; rw [h.1] at hb; cases hb
      | succ i => simpa using VwBs_at h.2 i k (by simpa using hi) hb
    · cases i with
      | zero => simp
      | succ i => simpa using VwBs_at h.2 i k (by simpa using hi) hb
    · exact h.elim

theorem view_blk (hk : Vk hp nl sel bs w0 M c) {i k : Nat} {b b1 : Blk} (hi : sel[i]? = some k) (hD : c.D k) (hb : hpGet hp k = some b) (hc : VwB hp nl sel b b1) : BlkRel (c.view sel bs) i b1 := by
  have hE : (c.view sel bs).E i = c.E k := view_E (by rw [nth_eq]; exact hi)
  obtain ⟨b', hb', r⟩ := hk.inv.dom k hD
  rw [hpGet_eq] at hb
  rw [hb] at hb'
  cases hb'
  obtain ⟨h1, h2, h3, h4⟩ := hc
  have hlen : b1.rows.length ≤ b.rows.length := by
    rcases h4 with ⟨_, _, h⟩ | ⟨_, _, _, n, h⟩ | ⟨h, _⟩
    · rw [h]; exact Nat.le_refl _
    · rw [h]; exact List.length_take_le' _ _
    · rw [(VwR.rel hk b1.rows h).1]; exact Nat.le_refl _
  unfold BlkRel at *
  rw [hE, h2, h3]
  refine ⟨r.1, fun hn => ?_, fun hn => ?_⟩
  · rcases r.2.1 hn with ⟨g1, g2⟩ | ⟨g1, g2, g3⟩
    · exact .inl ⟨g1, List.eq_nil_of_length_eq_zero (by rw [g2] at hlen; exact Nat.le_zero.1 hlen)⟩
    · refine .inr ⟨g1, ?_, g3⟩
      rcases h4 with ⟨_, h, _⟩ | ⟨_, h, _⟩ | ⟨_, _, h⟩
      · exact h
      · rw [g1] at h; cases h
      · exact absurd ⟨g1, g2, g3⟩ (Blk.ng_not h)
  obtain ⟨arr, hh, hr, hl, hg⟩ := r.2.2 hn
  refine ⟨arr, by rw [h1]; exact hh, ?_, Nat.le_trans (Nat.mul_le_mul_right _ hlen) hl, fun e => ⟨(hg e).1, Nat.le_trans hlen (hg e).2.1, (hg e).2.2⟩⟩
  rcases h4 with ⟨hc, hc1, h⟩ | ⟨hc, _, hc1, n, h⟩ | ⟨h, hq, _⟩
  · unfold Blk.cx at *
    rw [hc] at hr
    rw [hc1, ← h]
    exact RelR.le _ (allR_true _) view_shut rfl hr
  · unfold Blk.cx at *
    rw [hc] at hr
    rw [hc1, h]
    exact RelR.le _ (allR_true _) view_shut rfl (RelR_take hr n)
  · have h5 := (VwR.rel hk b1.rows h).2 b.wd (c.E k).b 0 (RelR.le _ (allR_true _) (b.cx_le c) (by rw [b.cx_w c]) hr)
    unfold Blk.cx
    cases hc1 : b1.clean with
    | false => exact h5
    | true =>
      rcases hq with hq | hq
      · rw [hc1] at hq; cases hq
      · exact RelR.le _ hq (c.view sel bs).le_shut rfl h5

/-- The blocks handed in keep their places. -/
def preB : Nat → Nat → List Nat → Bool
  | 0, _, _ => true
  | m + 1, i, k :: ks => match Nat.beq k i with | true => preB m (i + 1) ks | false => false
  | _ + 1, _, [] => false
theorem preB_get : ∀ {m i : Nat} {ks : List Nat}, preB m i ks = true → m ≤ ks.length ∧ ∀ j, j < m → ks[j]? = some (i + j)
  | 0, i, ks, _ => ⟨Nat.zero_le _, fun j h => by omega⟩
  | m + 1, i, [], h => by cases h
  | m + 1, i, k :: ks, h => by
    simp only [preB] at h
    split at h
    · rename_i he
      have := Nat.eq_of_beq_eq_true he
      subst this
      obtain ⟨h1, h2⟩ := preB_get h
      refine ⟨by simp; omega, fun j hj => ?_⟩
      cases j with
      | zero => simp
      | succ j => simp only [List.getElem?_cons_succ]; rw [h2 j (by omega)]; congr 1; omega
    · cases h

theorem view_inv (hk : Vk hp nl sel bs w0 M c) (hf : ∀ (k : Nat) (b : Blk), hp[k]? = some (some b) → c.D k) (hnd : sel.Nodup) (hpre : preB M.m 0 sel = true) (hbs : VwBs hp nl sel sel bs) : Inv w0 M (c.view sel bs) bs := by
  obtain ⟨hlen, hget⟩ := VwBs_get hbs
  obtain ⟨hm, hpre⟩ := preB_get hpre
  have hI := hk.inv
  have hat : ∀ i, (c.view sel bs).D i → ∃ k b b1, sel[i]? = some k ∧ bs[i]? = some (some b1) ∧ hpGet hp k = some b ∧ VwB hp nl sel b b1 ∧ c.D k ∧ (c.view sel bs).E i = c.E k := by
    rintro i ⟨b1, hb1⟩
    have hi : i < sel.length := by rw [← hlen]; exact (List.getElem?_eq_some_iff.1 hb1).1
    obtain ⟨b, hb, hc⟩ := hget i sel[i] b1 (List.getElem?_eq_getElem hi) hb1
    exact ⟨sel[i], b, b1, List.getElem?_eq_getElem hi, hb1, hb, hc, hf _ b (hpGet_eq.1 hb), view_E (by rw [nth_eq]; exact List.getElem?_eq_getElem hi)⟩
  refine { dom := ?_, inj := ?_, xsep := ?_, xlt := ?_, xY := ?_, bnd := hI.bnd, bndG := hI.bndG, e0 := ?_, mlen := by rw [hlen]; exact hm, os := hI.os, tape := hI.tape, output := hI.output, size := hI.size, keep := hI.keep, loc := ?_, x0 := ?_, ca := ?_, cc := ?_, gh := ?_, zc := ?_, z0 := hI.z0, xk := fun b hb => .inl (hI.xk b hb) }
  · intro i hi
    obtain ⟨k, b, b1, h1, h2, h3, h4, h5, _⟩ := hat i hi
    exact ⟨b1, h2, view_blk hk h1 h5 h3 h4⟩
  · intro i j hi hj hne h1 h2
    obtain ⟨k, _, _, g1, _, _, _, g5, g6⟩ := hat i hi
    obtain ⟨k', _, _, g1', _, _, _, g5', g6'⟩ := hat j hj
    rw [g6] at h1 ⊢
    rw [g6'] at h2 ⊢
    refine hI.inj k k' g5 g5' (fun e => hne ?_) h1 h2
    subst e
    exact nodup_at hnd g1 g1'
  · intro i b hi h1 hx
    obtain ⟨k, _, _, g1, _, _, _, g5, g6⟩ := hat i hi
    rw [g6] at h1 ⊢
    rcases hx with hx | ⟨k', hD', hm', hn', e⟩
    · exact hI.xsep k b g5 h1 hx
    · rw [← e]
      refine hI.inj k k' g5 hD' (fun e => ?_) h1 hn'
      subst e
      rw [memB_iff.2 (List.mem_of_getElem? g1)] at hm'
      cases hm'
  · rintro b (hx | ⟨k', hD', _, hn', e⟩)
    · exact hI.xlt b hx
    · obtain ⟨blk, _, r⟩ := hI.dom k' hD'
      rw [← e]
      exact r.lt hn'
  · rintro b (hx | ⟨k', hD', _, hn', e⟩) hy
    · exact hI.xY b hx hy
    · obtain ⟨y1, y2⟩ := hI.bndG.y b hy
      rcases hI.loc k' hD' hn' with h | h
      · exact y2 (e ▸ h)
      · omega
  · intro i hi hD
    obtain ⟨k, _, _, g1, _, _, _, g5, g6⟩ := hat i hD
    have := hpre i hi
    rw [g1, Nat.zero_add] at this
    cases this
    rw [g6]
    exact hI.e0 i hi g5
  · intro i hi h1
    obtain ⟨k, _, _, g1, _, _, _, g5, g6⟩ := hat i hi
    rw [g6] at h1 ⊢
    exact hI.loc k g5 h1
  · rintro b (hx | ⟨k', hD', _, hn', e⟩)
    · exact hI.x0 b hx
    · rw [← e]
      rcases hI.loc k' hD' hn' with h | h
      · exact .inr (.inl h)
      · exact .inl h
  · intro b hb
    obtain ⟨h1, h2, h3⟩ := hI.ca b hb
    refine ⟨h1, ?_, h3⟩
    rintro (hx | ⟨k', hD', _, hn', e⟩)
    · exact h2 hx
    · exact (hI.cc b h1).2.1 k' hD' hn' e
  · intro b hb
    obtain ⟨h1, h2, h3⟩ := hI.cc b hb
    refine ⟨h1, fun i hi hn => ?_, h3⟩
    obtain ⟨k, _, _, g1, _, _, _, g5, g6⟩ := hat i hi
    rw [g6] at hn ⊢
    exact h2 k g5 hn
  · intro i blk hi hb hn hg
    obtain ⟨k, b, b1, g1, g2, g3, g4, g5, g6⟩ := hat i hi
    rw [g2] at hb
    cases hb
    rw [g6] at hn
    obtain ⟨f1, f2, f3, f4⟩ := g4
    rw [f3] at hg
    obtain ⟨b', hb', r⟩ := hI.dom k g5
    rw [hpGet_eq.1 g3] at hb'
    cases hb'
    rcases r.2.1 hn with ⟨e1, _⟩ | e1
    · rw [hg] at e1; cases e1
    have hrows : blk.rows = b.rows := by
      rcases f4 with ⟨_, _, h⟩ | ⟨_, h, _⟩ | ⟨_, _, h⟩
      · exact h.symm
      · rw [hg] at h; cases h
      · exact absurd e1 (Blk.ng_not h)
    rw [hrows, f1]
    exact hI.gh k b g5 (hpGet_eq.1 g3) hn hg
  · intro b hb
    obtain ⟨h1, h2, h3⟩ := hI.zc b hb
    refine ⟨h1, h2, ?_⟩
    rintro (hx | ⟨k', hD', _, hn', e⟩)
    · exact h3 hx
    · exact (hI.cc b h1).2.1 k' hD' hn' e

theorem Inv.vk {zs : List (Nat × Nat)} (hI : Inv w0 M c (hp ++ zs.map fun p => some (nilB p))) (hnil : ∀ k, hp.length ≤ k → k < hp.length + zs.length → c.D k ∧ (c.E k).nil = true) (hbs : VwBs (hp ++ zs.map fun p => some (nilB p)) (nlB hp.length (hp.length + zs.length)) sel sel bs) :
    Vk (hp ++ zs.map fun p => some (nilB p)) (nlB hp.length (hp.length + zs.length)) sel bs w0 M c :=
  ⟨hI, fun k hk => by
    simp only [nlB, Bool.and_eq_true] at hk
    exact hnil k (Nat.le_of_ble_eq_true hk.1) (Nat.le_of_ble_eq_true hk.2), fun i k hi hD => by
    obtain ⟨blk, hb, _⟩ := hI.dom k hD
    exact VwBs_at hbs i k (by rw [← nth_eq]; exact hi) (hpGet_eq.2 hb), fun k hD hn => by
    rw [hI.bnd]
    exact hI.bndG.g _ (hI.loc k hD hn).symm⟩
end
end Go.Eng
