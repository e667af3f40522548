/- The engine, part Fz: an own block turns into content for good. -/
import Derived.Test.YtobojnfhhobnkaaEngT
import Derived.RangeFuncSeq
set_option linter.unusedSimpArgs false
set_option maxRecDepth 20000
set_option linter.unusedVariables false
namespace Go.Eng
open Go Go.RowKit

/-- The value, with block k as content. -/
def Sv.frz (k wd : Nat) (rows : List (List Sv)) : Sv → Sv
  | .agg cs => .agg (go k wd rows cs)
  | .tup cs => .tup (go k wd rows cs)
  | .clo f cs => .clo f (go k wd rows cs)
  | .ptr j r q => match Nat.beq j k with | true => .any | false => .ptr j r q
  | .own j n => match Nat.beq j k with | true => .ext true wd rows | false => .own j n
  | .sls j l n => match Nat.beq j k with | true => .any | false => .sls j l n
  | s => s
where go (k wd : Nat) (rows : List (List Sv)) : List Sv → List Sv
  | [] => []
  | s :: ss => s.frz k wd rows :: go k wd rows ss
/-- How long the block is where it is named. -/
def Sv.ow (k : Nat) : Sv → List Nat → List Nat
  | .agg cs, l => go k cs l
  | .tup cs, l => go k cs l
  | .clo _ cs, l => go k cs l
  | .own j n, l => match Nat.beq j k with | true => n :: l | false => l
  | _, l => l
where go (k : Nat) : List Sv → List Nat → List Nat
  | [], l => l
  | s :: ss, l => s.ow k (go k ss l)
def owR (k : Nat) : List (List Sv) → List Nat → List Nat
  | [], l => l
  | r :: rs, l => Sv.ow.go k r (owR k rs l)
def owH (k : Nat) : Hp → List Nat → List Nat
  | [], l => l
  | none :: bs, l => owH k bs l
  | some b :: bs, l => match b.clean with
    | true => owH k bs l
    | false => owR k b.rows (owH k bs l)
def allEq (m : Nat) : List Nat → Prop
  | [] => True
  | n :: ns => n = m ∧ allEq m ns
def frzH (k wd : Nat) (rows : List (List Sv)) : Nat → Hp → Hp
  | _, [] => []
  | i, none :: bs => none :: frzH k wd rows (i + 1) bs
  | i, some b :: bs => (match Nat.beq i k with
    | true => none
    | false => match b with
      | ⟨e, w, true, gr, rs⟩ => some ⟨e, w, true, gr, rs⟩
      | ⟨e, w, false, gr, rs⟩ => some ⟨e, w, false, gr, rs.map (Sv.frz.go k wd rows)⟩) :: frzH k wd rows (i + 1) bs
def frzK (m k : Nat) (tm : List Sv) (hp : Hp) (K : List Sv → Hp → Prop) : Prop :=
  match hpGet hp k with
  | some b => chk (Nat.ble m k && b.clean && b.grow) <| Need (allEq b.rows.length (Sv.ow.go k tm (owH k hp []))) <| deepK (Sv.frz.go k b.wd b.rows tm) fun tm => hpK (frzH k b.wd b.rows 0 hp) fun hp => K tm hp
  | none => False
def frzKs (m : Nat) : List Nat → List Sv → Hp → (List Sv → Hp → Prop) → Prop
  | [], tm, hp, K => K tm hp
  | k :: ks, tm, hp, K => frzK m k tm hp fun tm hp => frzKs m ks tm hp K

theorem allEq_mem {m : Nat} : ∀ {l : List Nat}, allEq m l → ∀ n ∈ l, n = m
  | x :: l, h, n, hn => by
    rcases List.mem_cons.1 hn with rfl | hn
    · exact h.1
    · exact allEq_mem h.2 n hn
mutual
theorem ow_sub (k : Nat) : ∀ (s : Sv) (l : List Nat), ∀ n ∈ l, n ∈ s.ow k l
  | .val _, l, n, h | .any, l, n, h | .ext _ _ _, l, n, h | .ref _ _, l, n, h | .ptr _ _ _, l, n, h | .sls _ _ _, l, n, h => h
  | .own j m, l, n, h => by
    simp only [Sv.ow]
    split
    · exact List.mem_cons_of_mem _ h
    · exact h
  | .agg cs, l, n, h => owL_sub k cs l n h
  | .tup cs, l, n, h => owL_sub k cs l n h
  | .clo _ cs, l, n, h => owL_sub k cs l n h
theorem owL_sub (k : Nat) : ∀ (ss : List Sv) (l : List Nat), ∀ n ∈ l, n ∈ Sv.ow.go k ss l
  | [], l, n, h => h
  | s :: ss, l, n, h => by simp only [Sv.ow.go]; exact ow_sub k s _ n (owL_sub k ss l n h)
end
/-- What holds between the state ahead and behind. -/
structure FzH (k wd : Nat) (rows : List (List Sv)) (c c' : Cx) : Prop where
  le : c.Le (fun j => !Nat.beq j k) c'
  own : ∀ v, Rel (.own k rows.length) c v → Rel (.ext true wd rows) c' v
mutual
theorem frz_rel {k wd : Nat} {rows : List (List Sv)} {c c' : Cx} (H : FzH k wd rows c c') : ∀ (s : Sv) (l : List Nat) {v : Value}, allEq rows.length (s.ow k l) → Rel s c v → Rel (s.frz k wd rows) c' v
  | .val x, _, _, _, r => r
  | .any, _, _, _, r => r
  | .ext fr w rs, _, _, _, r => Rel.le (.ext fr w rs) rfl H.le r
  | .ref fr cs, _, _, _, r => Rel.le (.ref fr cs) rfl H.le r
  | .ptr j r0 q, _, _, _, r => by
    simp only [Sv.frz]
    split
    · simp [Rel]
    · rename_i hb
      exact Rel.le _ (by simp [Sv.all, hb]) H.le r
  | .sls j l0 n, _, _, _, r => by
    simp only [Sv.frz]
    split
    · simp [Rel]
    · rename_i hb
      exact Rel.le _ (by simp [Sv.all, hb]) H.le r
  | .own j n, l, v, ha, r => by
    simp only [Sv.frz]
    split
    · rename_i hb
      have := Nat.eq_of_beq_eq_true hb
      subst this
      simp only [Sv.ow, hb] at ha
      have hn := ha.1
      rw [hn] at r
      exact H.own v r
    · rename_i hb
      exact Rel.le _ (by simp [Sv.all, hb]) H.le r
  | .agg cs, l, v, ha, r => by
    simp only [Sv.frz, Rel] at r ⊢
    obtain ⟨vs, e, hl⟩ := r
    exact ⟨vs, e, frzL_rel H cs l ha hl⟩
  | .tup cs, l, v, ha, r => by
    simp only [Sv.frz, Rel] at r ⊢
    obtain ⟨vs, e, hl⟩ := r
    exact ⟨vs, e, frzT_rel H cs l ha hl⟩
  | .clo f cs, l, v, ha, r => by
    simp only [Sv.frz, Rel] at r ⊢
    obtain ⟨vs, e, hl⟩ := r
    exact ⟨vs, e, frzT_rel H cs l ha hl⟩
theorem frzL_rel {k wd : Nat} {rows : List (List Sv)} {c c' : Cx} (H : FzH k wd rows c c') : ∀ (ss : List Sv) (l : List Nat) {vs : List Value}, allEq rows.length (Sv.ow.go k ss l) → RelL ss c vs → RelL (Sv.frz.go k wd rows ss) c' vs
  | [], _, _, _, r => by simpa [Sv.frz.go, RelL] using r
  | s :: ss, l, _, ha, r => by
    simp only [Sv.frz.go, Sv.ow.go, RelL] at ha r ⊢
    obtain ⟨u, us, e, h1, hs, hl⟩ := r
    exact ⟨u, us, e, h1, frz_rel H s _ ha hs, frzL_rel H ss l (allEq_sub (ow_sub k s _) ha) hl⟩
theorem frzT_rel {k wd : Nat} {rows : List (List Sv)} {c c' : Cx} (H : FzH k wd rows c c') : ∀ (ss : List Sv) (l : List Nat) {vs : List Value}, allEq rows.length (Sv.ow.go k ss l) → RelT ss c vs → RelT (Sv.frz.go k wd rows ss) c' vs
  | [], _, _, _, r => by simpa [Sv.frz.go, RelT] using r
  | s :: ss, l, _, ha, r => by
    simp only [Sv.frz.go, Sv.ow.go, RelT] at ha r ⊢
    obtain ⟨u, us, e, hs, hl⟩ := r
    exact ⟨u, us, e, frz_rel H s _ ha hs, frzT_rel H ss l (allEq_sub (ow_sub k s _) ha) hl⟩
theorem frzC_rel {k wd : Nat} {rows : List (List Sv)} {c c' : Cx} (H : FzH k wd rows c c') {b : Nat} (hb : c'.w.heap[b]? = c.w.heap[b]?) : ∀ (ss : List Sv) (l : List Nat) {off : Nat}, allEq rows.length (Sv.ow.go k ss l) → RelC ss c b off → RelC (Sv.frz.go k wd rows ss) c' b off
  | [], _, _, _, _ => by simp [Sv.frz.go, RelC]
  | s :: ss, l, off, ha, r => by
    simp only [Sv.frz.go, Sv.ow.go, RelC] at ha r ⊢
    obtain ⟨⟨u, e, h1, hs⟩, hl⟩ := r
    exact ⟨⟨u, (World.cell?_of_block (a := ⟨b, off, none⟩) hb).trans e, h1, frz_rel H s _ ha hs⟩, frzC_rel H hb ss l (allEq_sub (ow_sub k s _) ha) hl⟩
theorem allEq_sub {m : Nat} {l l' : List Nat} (h : ∀ n ∈ l, n ∈ l') (ha : allEq m l') : allEq m l := by
  have h1 := allEq_mem ha
  clear ha
  induction l with
  | nil => trivial
  | cons x l ih => exact ⟨h1 x (h x (by simp)), ih fun n hn => h n (by simp [hn])⟩
end

theorem frzGo_length {k wd : Nat} {rows : List (List Sv)} : ∀ ss : List Sv, (Sv.frz.go k wd rows ss).length = ss.length
  | [] => rfl
  | s :: ss => by simp [Sv.frz.go, frzGo_length ss]
theorem owR_sub (k : Nat) : ∀ (rs : List (List Sv)) (l : List Nat), ∀ n ∈ l, n ∈ owR k rs l
  | [], l, n, h => h
  | r :: rs, l, n, h => owL_sub k r _ n (owR_sub k rs l n h)
theorem owH_sub (k : Nat) : ∀ (hp : Hp) (l : List Nat), ∀ n ∈ l, n ∈ owH k hp l
  | [], l, n, h => h
  | none :: bs, l, n, h => owH_sub k bs l n h
  | some b :: bs, l, n, h => by
    simp only [owH]
    split
    · exact owH_sub k bs l n h
    · exact owR_sub k _ _ n (owH_sub k bs l n h)
theorem owH_get (k : Nat) {m : Nat} : ∀ (hp : Hp) (l : List Nat), allEq m (owH k hp l) → ∀ (j : Nat) (b : Blk), hp[j]? = some (some b) → b.clean = false → ∃ l', allEq m (owR k b.rows l')
  | x :: bs, l, h, j, b, hj, hc => by
    cases j with
    | zero =>
      simp only [List.getElem?_cons_zero, Option.some.injEq] at hj
      subst hj
      simp only [owH, hc] at h
      exact ⟨_, h⟩
    | succ j =>
      simp only [List.getElem?_cons_succ] at hj
      cases x with
      | none => exact owH_get k bs l h j b hj hc
      | some y =>
        simp only [owH] at h
        split at h
        · exact owH_get k bs l h j b hj hc
        · exact owH_get k bs l (allEq_sub (owR_sub k _ _) h) j b hj hc
  | [], _, _, j, b, hj, _ => by simp at hj
theorem frzR_rel {k wd : Nat} {rows : List (List Sv)} {c c' : Cx} (H : FzH k wd rows c c') {b : Nat} (hb : c'.w.heap[b]? = c.w.heap[b]?) : ∀ (rs : List (List Sv)) (l : List Nat) {w off : Nat}, allEq rows.length (owR k rs l) → RelR rs c w b off → RelR (rs.map (Sv.frz.go k wd rows)) c' w b off
  | [], _, _, _, _, _ => by simp [RelR]
  | r :: rs, l, w, off, ha, h => by
    simp only [List.map_cons, RelR, owR] at ha h ⊢
    exact ⟨by rw [frzGo_length]; exact h.1, frzC_rel H hb r _ ha h.2.1, frzR_rel H hb rs l (allEq_sub (owL_sub k r _) ha) h.2.2⟩
/-- Another block, told anew. -/
def Blk.frz (k wd : Nat) (rows : List (List Sv)) (b : Blk) : Blk :=
  match b with
  | ⟨e, w, true, gr, rs⟩ => ⟨e, w, true, gr, rs⟩
  | ⟨e, w, false, gr, rs⟩ => ⟨e, w, false, gr, rs.map (Sv.frz.go k wd rows)⟩
theorem frzH_get {k wd : Nat} {rows : List (List Sv)} : ∀ (hp : Hp) (i j : Nat), (frzH k wd rows i hp)[j]? = (hp[j]?).map fun x => match x with | none => none | some b => match Nat.beq (i + j) k with | true => none | false => some (b.frz k wd rows)
  | [], _, _ => by simp [frzH]
  | none :: bs, i, 0 => by simp [frzH]
  | some b :: bs, i, 0 => by
    simp only [frzH, List.getElem?_cons_zero, Option.map_some, Nat.add_zero]
    cases Nat.beq i k with
    | true => rfl
    | false => cases b with | mk e w cl gr rs => cases cl <;> rfl
  | none :: bs, i, j + 1 => by
    simp only [frzH, List.getElem?_cons_succ]
    rw [frzH_get bs (i + 1) j, show i + 1 + j = i + (j + 1) by omega]
  | some b :: bs, i, j + 1 => by
    simp only [frzH, List.getElem?_cons_succ]
    rw [frzH_get bs (i + 1) j, show i + 1 + j = i + (j + 1) by omega]
theorem frzT_get {k wd : Nat} {rows : List (List Sv)} : ∀ (tm : List Sv) (t : Nat), tmGet (Sv.frz.go k wd rows tm) t = (tmGet tm t).frz k wd rows
  | [], t => by simp [Sv.frz.go, tmGet, nth, Sv.frz]
  | s :: ss, 0 => by simp [Sv.frz.go, tmGet, nth]
  | s :: ss, t + 1 => frzT_get ss t
theorem owT_get (k : Nat) {m : Nat} : ∀ (tm : List Sv) (l : List Nat), allEq m (Sv.ow.go k tm l) → ∀ t, ∃ l', allEq m ((tmGet tm t).ow k l')
  | [], l, h, t => ⟨[], by simp [tmGet, nth, Sv.ow, allEq]⟩
  | s :: ss, l, h, 0 => ⟨_, by simpa [tmGet, nth, Sv.ow.go] using h⟩
  | s :: ss, l, h, t + 1 => owT_get k ss l (allEq_sub (ow_sub k s _) (by simpa only [Sv.ow.go] using h)) t

theorem frzK_sound {w0 : World} {M : Frm} {c : Cx} {tm : List Sv} {hp : Hp} {a : Act} {ds : List Deferred} (hS : St w0 M c tm hp a ds) {k : Nat} {K : List Sv → Hp → Prop} (h : frzK M.m k tm hp K) :
    ∃ tm' hp' c', K tm' hp' ∧ c'.w = c.w ∧ St w0 M c' tm' hp' a ds := by
  unfold frzK at h
  split at h
  case h_2 => exact h.elim
  rename_i b hb
  rw [chk_iff] at h
  obtain ⟨hch, hall, h⟩ := h
  rw [deepK_eq, hpK_eq] at h
  simp only [Bool.and_eq_true] at hch
  obtain ⟨⟨hmk, hcl⟩, hgr⟩ := hch
  have hmk := Nat.le_of_ble_eq_true hmk
  have hb' := hpGet_eq.1 hb
  have hI := hS.inv
  have hDk := hS.full k b hb'
  obtain ⟨b2, hb2, hbr⟩ := hI.dom k hDk
  rw [hb'] at hb2
  cases hb2
  let S : Nat → Prop := fun x => (c.E k).nil = false ∧ x = (c.E k).b
  let c' : Cx := { c with D := fun j => c.D j ∧ j ≠ k, X := fun x => c.X x ∨ S x }
  have hSl : ∀ x, S x → x < c.w.heap.size ∧ (w0.heap.size ≤ x ∨ M.M x) := fun x hx => by
    obtain ⟨h1, rfl⟩ := hx
    exact ⟨hbr.lt h1, (hI.loc k hDk h1).symm⟩
  have hle : c.Le (fun j => !Nat.beq j k) c' := ⟨fun j hj hd => ⟨⟨hd, fun e => by subst e; simp at hj⟩, rfl⟩, fun _ h => .inl h, fun _ _ h => h, fun _ _ => rfl⟩
  have hles : c.shut.Le (fun _ => true) c'.shut := ⟨fun _ _ hk => hk.elim, fun _ h => .inl h, fun _ _ h => h, fun _ _ => rfl⟩
  have H : FzH k b.wd b.rows c c' := by
    refine ⟨hle, fun v r => ?_⟩
    simp only [Rel] at r ⊢
    obtain ⟨_, ⟨hn, rfl, h0⟩ | ⟨hn, rfl, hc⟩⟩ := r
    · exact ⟨none, 0, by rw [h0], by omega, .inl (List.eq_nil_of_length_eq_zero h0)⟩
    · refine ⟨_, _, rfl, hc, .inr ⟨_, _, rfl, .inr ⟨hn, rfl⟩, fun _ => ?_, ?_⟩⟩
      · show c.G _
        rw [hI.bnd]
        exact hI.bndG.g _ (hSl _ ⟨hn, rfl⟩).2
      · obtain ⟨arr, hh, hr, _⟩ := hbr.2.2 hn
        simp only [Blk.cx, hcl] at hr
        exact RelR.le _ (allR_true _) hles rfl hr
  have hget : ∀ j bj, hp[j]? = some (some bj) → j ≠ k → (frzH k b.wd b.rows 0 hp)[j]? = some (some (bj.frz k b.wd b.rows)) := fun j bj hj hne => by
    rw [frzH_get, hj]
    simp only [Option.map_some, Nat.zero_add]
    cases hx : Nat.beq j k with
    | true => exact absurd (Nat.eq_of_beq_eq_true hx) hne
    | false => rfl
  have hpos : ∀ j bj, (frzH k b.wd b.rows 0 hp)[j]? = some (some bj) → j ≠ k ∧ ∃ b0, hp[j]? = some (some b0) ∧ bj = b0.frz k b.wd b.rows := fun j bj hj => by
    rw [frzH_get] at hj
    cases hx : hp[j]? with
    | none => rw [hx] at hj; cases hj
    | some x =>
      rw [hx] at hj
      simp only [Option.map_some, Option.some.injEq, Nat.zero_add] at hj
      cases x with
      | none => cases hj
      | some b0 =>
        simp only at hj
        cases hbe : Nat.beq j k with
        | true => rw [hbe] at hj; cases hj
        | false =>
          rw [hbe] at hj
          simp only [Option.some.injEq] at hj
          exact ⟨fun e => (by rw [e, Nat.beq_refl] at hbe; cases hbe), b0, rfl, hj.symm⟩
  have hfe : ∀ b0 : Blk, (b0.frz k b.wd b.rows).elem = b0.elem ∧ (b0.frz k b.wd b.rows).grow = b0.grow ∧ (b0.frz k b.wd b.rows).wd = b0.wd ∧ (b0.frz k b.wd b.rows).clean = b0.clean ∧ (b0.frz k b.wd b.rows).rows.length = b0.rows.length ∧ (b0.clean = true → (b0.frz k b.wd b.rows) = b0) := fun b0 => by
    cases b0 with
    | mk e w cl gr rs => cases cl <;> simp [Blk.frz]
  have hallT : allEq b.rows.length (Sv.ow.go k tm (owH k hp [])) := hall
  have hallH : allEq b.rows.length (owH k hp []) := allEq_sub (owL_sub k tm _) hallT
  refine ⟨_, _, c', h, rfl, { inv := ?_, full := fun j bj hj => ?_, rel := fun t => ?_, size := by rw [frzGo_length]; exact hS.size, ds := hS.ds.cq ⟨rfl, rfl, rfl, fun _ _ => rfl⟩ }⟩
  · exact { hI with
      dom := fun j hj => by
        obtain ⟨bj, ej, rj⟩ := hI.dom j hj.1
        refine ⟨_, hget j bj ej hj.2, ?_⟩
        obtain ⟨f1, f2, f3, f4, f5, f6⟩ := hfe bj
        cases hc : bj.clean with
        | true =>
          rw [f6 hc]
          exact rj.le (p := fun j => !Nat.beq j k) hle rfl (fun _ => rfl) (fun h => by rw [hc] at h; cases h)
        | false =>
          obtain ⟨l', hl'⟩ := owH_get k hp [] hallH j bj ej hc
          unfold BlkRel at rj ⊢
          refine ⟨by rw [f3]; exact rj.1, fun hn => ?_, fun hn => ?_⟩
          · rcases rj.2.1 hn with ⟨h1, h2⟩ | ⟨_, h2, _⟩
            · exact .inl ⟨by rw [f2]; exact h1, List.eq_nil_of_length_eq_zero (by rw [f5, h2]; rfl)⟩
            · rw [hc] at h2; cases h2
          · obtain ⟨arr, hh, hr, hl, hg⟩ := rj.2.2 hn
            refine ⟨arr, by rw [f1]; exact hh, ?_, by rw [f3, f5]; exact hl, fun h => by rw [f3, f5]; exact hg (by rw [f2] at h; exact h)⟩
            simp only [Blk.cx, hc] at hr
            simp only [Blk.cx, f4, hc, f3]
            have := frzR_rel H (b := (c.E j).b) rfl bj.rows l' hl' hr
            cases bj with
            | mk e w cl gr rs =>
              simp only at hc
              subst hc
              exact this
      inj := fun j j' hj hj' => hI.inj j j' hj.1 hj'.1
      xsep := fun j x hj hn hx => hx.elim (hI.xsep j x hj.1 hn) fun ⟨hn2, e⟩ => by
        subst e
        exact hI.inj j k hj.1 hDk hj.2 hn hn2
      xlt := fun x hx => hx.elim (hI.xlt x) fun hs => (hSl x hs).1
      xY := fun x hx hy => hx.elim (fun h => hI.xY x h hy) fun hs => by
        have h1 := hI.bndG.y x hy
        rcases (hSl x hs).2 with h2 | h2
        · omega
        · exact h1.2 h2
      e0 := fun j hj hd => hI.e0 j hj hd.1
      mlen := by
        have : ∀ (l : Hp) (i : Nat), (frzH k b.wd b.rows i l).length = l.length := by
          intro l
          induction l with
          | nil => intro i; rfl
          | cons x l ih => intro i; cases x <;> simp [frzH, ih]
        rw [this]
        exact hI.mlen
      loc := fun j hj => hI.loc j hj.1
      x0 := fun x hx => hx.elim (hI.x0 x) fun hs => (hSl x hs).2.elim .inl (fun h => .inr (.inl h))
      xk := fun x hx => .inl (hI.xk x hx)
      ca := fun x hx => ⟨(hI.ca x hx).1, fun hX => hX.elim (hI.ca x hx).2.1 fun ⟨hn, e⟩ => (hI.cc x (hI.ca x hx).1).2.1 k hDk hn e.symm, (hI.ca x hx).2.2⟩
      cc := fun x hx => ⟨(hI.cc x hx).1, fun j hj => (hI.cc x hx).2.1 j hj.1, (hI.cc x hx).2.2⟩
      zc := fun x hx => ⟨(hI.zc x hx).1, (hI.zc x hx).2.1, fun hX => hX.elim (hI.zc x hx).2.2 fun ⟨hn, e⟩ => (hI.cc x (hI.zc x hx).1).2.1 k hDk hn e.symm⟩
      gh := fun j bj hj hbj hn hg => by
        obtain ⟨_, b0, e0, e1⟩ := hpos j bj hbj
        obtain ⟨f1, f2, f3, f4, f5, f6⟩ := hfe b0
        subst e1
        rw [f2] at hg
        have hc : b0.clean = true := by
          obtain ⟨b3, e3, r3⟩ := hI.dom j hj.1
          rw [e0] at e3
          cases e3
          rcases r3.2.1 hn with ⟨h1, _⟩ | ⟨_, h1, _⟩
          · rw [hg] at h1; cases h1
          · exact h1
        rw [f6 hc]
        exact hI.gh j b0 hj.1 e0 hn hg }
  · obtain ⟨hne, b0, e0, _⟩ := hpos j bj hj
    exact ⟨hS.full j b0 e0, hne⟩
  · rw [frzT_get]
    obtain ⟨l', hl'⟩ := owT_get k tm _ hallT t
    exact frz_rel H _ l' hl' (hS.rel t)
theorem frzKs_sound {w0 : World} {M : Frm} : ∀ (ks : List Nat) {c : Cx} {tm : List Sv} {hp : Hp} {a : Act} {ds : List Deferred}, St w0 M c tm hp a ds → ∀ {K : List Sv → Hp → Prop}, frzKs M.m ks tm hp K → ∃ tm' hp' c', K tm' hp' ∧ c'.w = c.w ∧ St w0 M c' tm' hp' a ds
  | [], c, tm, hp, a, ds, hS, K, h => ⟨tm, hp, c, h, rfl, hS⟩
  | k :: ks, c, tm, hp, a, ds, hS, K, h => by
    obtain ⟨tm1, hp1, c1, h1, e1, hS1⟩ := frzK_sound hS h
    obtain ⟨tm2, hp2, c2, h2, e2, hS2⟩ := frzKs_sound ks hS1 h1
    exact ⟨tm2, hp2, c2, h2, e2.trans e1, hS2⟩

/-- A region: at once, or behind blocks that turn into content. -/
inductive RegV (G : Gm) (id : Nat) (dr : Bool) (ops : List Oper) (tm : List Sv) (hp : Hp) (K : List Sv → Hp → Prop) : Prop
  | d : (match dr with | true => DrawV G ops tm hp K | false => runR G ops ops tm hp K) → RegV G id dr ops tm hp K
  | q : (litK (quietN ops) fun nQ => match dr with | true => preTabK ops [] fun PT => regQ G dr PT ops nQ tm hp K | false => regQ G dr [] ops nQ tm hp K) → RegV G id dr ops tm hp K
  | f (ks : List Nat) : frzKs G.m ks tm hp (fun tm hp => RegW G id dr ops tm hp K) → RegV G id dr ops tm hp K
theorem regv_sound {G : Gm} {ops : Array Oper} {id id' : Nat} {dr : Bool} {F : Fence} (hF : Open F) {n : Nat} {Q : Exit → Act → World → Prop} {w0 : World} {M : Frm} {dfs : List Deferred} {K : List Sv → Hp → Prop} (hm : M.m = G.m)
    (hy : YdOk G.P w0 M G.l G.its) (hQ : ∀ a c tm hp, K tm hp → St w0 M c tm hp a dfs → Q .normal a c.w) {tm : List Sv} {hp : Hp} {c : Cx} {a : Act} (h : RegV G id' dr ops.toList tm hp K) (hS : St w0 M c tm hp a dfs) : (Code.region id ops dr).wpIn F n G.P Q a c.w := by
  rcases h with h | h | ⟨ks, h⟩
  · exact reg_sound hF hy hQ (id' := id') (.d h) hS
  · exact reg_sound hF hy hQ (id' := id') (.q h) hS
  · rw [← hm] at h
    obtain ⟨tm', hp', c', h', e, hS'⟩ := frzKs_sound ks hS h
    rw [← e]
    exact reg_sound hF hy hQ h' hS'
end Go.Eng
