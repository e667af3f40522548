/- The engine, part L: slices against nil; pointers and functions against nil; structs against structs. -/
import Derived.Test.YtobojnfhhobnkaaEngU
import Derived.Laws.StructEq
set_option linter.unusedSimpArgs false
set_option maxRecDepth 20000
set_option linter.unusedVariables false
namespace Go.Eng
open Go Go.RowKit

/-! ### Slices against nil -/
inductive NilB (n : Nat) (k : Bool → Prop) : Prop
  | mk : (∀ b, (n ≠ 0 → b = false) → k b) → NilB n k

def nilK (op : BinOp) (n : Nat) (K : Sv → Prop) : Prop :=
  match op with
  | .eql => NilB n fun b => K (.val (.bool b))
  | .neq => NilB n fun b => K (.val (.bool (!b)))
  | _ => False

def nilV (G : Gm) (op : BinOp) (t : Nat) (x : Sv) (K : Sv → Prop) : Prop :=
  Get (G.tab t) fun i => match i.kind with
    | .slice _ => match x with
      | .own _ n => nilK op n K
      | .sls _ _ n => nilK op n K
      | .ext _ _ rows => nilK op rows.length K
      | .val (.slice none 0 0) => match op with
        | .eql => K (.val (.bool true))
        | .neq => K (.val (.bool false))
        | _ => False
      | _ => False
    | .func => match x with
      | .clo _ _ => match op with
        | .eql => K (.val (.bool false))
        | .neq => K (.val (.bool true))
        | _ => False
      | .val .nilFunc => match op with
        | .eql => K (.val (.bool true))
        | .neq => K (.val (.bool false))
        | _ => False
      | _ => False
    | .ptr _ => match x with
      | .ptr _ _ _ => match op with
        | .eql => K (.val (.bool false))
        | .neq => K (.val (.bool true))
        | _ => False
      | .ref _ _ => match op with
        | .eql => K (.val (.bool false))
        | .neq => K (.val (.bool true))
        | _ => False
      | .val (.pointer none) => match op with
        | .eql => K (.val (.bool true))
        | .neq => K (.val (.bool false))
        | _ => False
      | _ => False
    | _ => False

/-- Is this the literal nil? -/
def isNil : Sv → Bool
  | .val (.slice none 0 0) => true
  | .val .nilFunc => true
  | .val (.pointer none) => true
  | _ => false

def nilFit (k : TK) (s : Sv) : Bool :=
  match k, s with
  | .slice _, .val (.slice none 0 0) => true
  | .func, .val .nilFunc => true
  | .ptr _, .val (.pointer none) => true
  | _, _ => false

section
variable {G : Gm} {tm : List Sv} {hp : Hp} {o : Oper}

/-- What an operation leaves that only looks: some value of which K is known. -/
def PureK (P : Program) (o : Oper) (tm : List Sv) (hp : Hp) (K : Sv → Prop) : Prop :=
  ∀ (w0 : World) (M : Frm) (c : Cx) (a : Act), Inv w0 M c hp → (∀ x ∈ o.op.operands, Rel (evO tm x) c (a.eval x)) →
    ∃ s v, K s ∧ (execOp a.eval o).run P c.w = .ok (.value v) c.w ∧ Rel s c v

theorem run_eq_slice {P : Program} {t e : Nat} (hd : P.underlying t = some (.slice e)) (a : Option Addr) (n m : Nat) (w : World) : (Op.equal t (.slice a n m) (.slice none 0 0)).run P w = .ok a.isNone w := by
  have h : ∀ d : Nat, (Op.equalIn (d + 1) t (.slice a n m) (.slice none 0 0)).run P w = .ok a.isNone w := fun d => by
    cases a <;> simp [Op.equalIn, run_underlying hd]
  exact h 9999
theorem run_eq_ptr {P : Program} {t e : Nat} (hd : P.underlying t = some (.pointer e)) (a : Option Addr) (w : World) : (Op.equal t (.pointer a) (.pointer none)).run P w = .ok a.isNone w := by
  have h : ∀ d : Nat, (Op.equalIn (d + 1) t (.pointer a) (.pointer none)).run P w = .ok a.isNone w := fun d => by
    cases a <;> simp [Op.equalIn, run_underlying hd]
  exact h 9999
theorem run_eq_func {P : Program} {t : Nat} {p q : Array Nat} {v : Bool} (hd : P.underlying t = some (.func p q v)) (f : Fn) (xs ys : Array Value) (w : World) : (Op.equal t (.func f xs ys) .nilFunc).run P w = .ok false w := by
  have h : ∀ d : Nat, (Op.equalIn (d + 1) t (.func f xs ys) .nilFunc).run P w = .ok false w := fun d => by
    simp [Op.equalIn, run_underlying hd]
  exact h 9999
theorem run_eq_nilFunc {P : Program} {t : Nat} {p q : Array Nat} {v : Bool} (hd : P.underlying t = some (.func p q v)) (w : World) : (Op.equal t .nilFunc .nilFunc).run P w = .ok true w := by
  have h : ∀ d : Nat, (Op.equalIn (d + 1) t .nilFunc .nilFunc).run P w = .ok true w := fun d => by
    simp [Op.equalIn, run_underlying hd]
  exact h 9999

theorem nilK_sound {op : BinOp} {n : Nat} {K : Sv → Prop} (h : nilK op n K) (b : Bool) (hb : n ≠ 0 → b = false) : (op = .eql ∧ K (.val (.bool b))) ∨ (op = .neq ∧ K (.val (.bool (!b)))) := by
  unfold nilK at h
  split at h
  · obtain ⟨h⟩ := h; exact .inl ⟨rfl, h b hb⟩
  · obtain ⟨h⟩ := h; exact .inr ⟨rfl, h b hb⟩
  · exact h.elim

theorem det_sound {op : BinOp} {b : Bool} {K : Sv → Prop} (h : match op with | .eql => K (.val (.bool b)) | .neq => K (.val (.bool (!b))) | _ => False) : (op = .eql ∧ K (.val (.bool b))) ∨ (op = .neq ∧ K (.val (.bool (!b)))) := by
  split at h
  · exact .inl ⟨rfl, h⟩
  · exact .inr ⟨rfl, h⟩
  · exact h.elim

theorem nilV_sound {op : BinOp} {t yt : Nat} {x y : Operand} {K : Sv → Prop} (ho : o.op = .binOp op t x y yt) (hy : isNil (evO tm y) = true) (h : nilV G op t (evO tm x) K)
    (hk : ∀ i, G.tab t = some i → match i.kind with | .slice _ => evO tm y = .val (.slice none 0 0) | .func => evO tm y = .val .nilFunc | .ptr _ => evO tm y = .val (.pointer none) | _ => True) : PureK G.P o tm hp K := by
  obtain ⟨i, hi, h⟩ := h
  obtain ⟨d, hd, hf⟩ := (G.ok t i hi).desc
  have hk := hk i hi
  intro w0 M c A hI ha
  have h1 := ha x (by rw [ho]; simp [Op.operands])
  have h2 := ha y (by rw [ho]; simp [Op.operands])
  have fin : ∀ (u v : Value) (b : Bool), A.eval x = u → A.eval y = v → (∀ w, (eqGuard op t x y u v).run G.P w = .ok () w) → (Op.equal t u v).run G.P c.w = .ok b c.w → (∀ cp, (∀ k n, u ≠ .int k n) ∧ (∀ s, u ≠ .string s) ∧ (∀ k n, u ≠ .float k n) ∧ (∀ k n m, u ≠ .complex k n m) ∨ cp = false) →
      ((op = .eql ∧ K (.val (.bool b))) ∨ (op = .neq ∧ K (.val (.bool (!b))))) → ∃ s v, K s ∧ (execOp A.eval o).run G.P c.w = .ok (.value v) c.w ∧ Rel s c v := by
    intro u v b e1 e2 hg he hne hh
    have hne := (hne true).resolve_right (by simp)
    obtain ⟨n1, n2, n3, n4⟩ := hne
    rcases hh with ⟨rfl, hK⟩ | ⟨rfl, hK⟩
    · refine ⟨_, .bool b, hK, ?_, by simp [Rel]⟩
      have hrun : (binOp .eql t u v).run G.P c.w = .ok (.bool b) c.w := by
        cases u <;> first | (exact absurd rfl (n1 _ _)) | (exact absurd rfl (n2 _)) | (exact absurd rfl (n3 _ _)) | (exact absurd rfl (n4 _ _ _)) | simp [binOp, he]
      simp [execOp, ho, e1, e2, hg, hrun]
    · refine ⟨_, .bool (!b), hK, ?_, by simp [Rel]⟩
      have hrun : (binOp .neq t u v).run G.P c.w = .ok (.bool (!b)) c.w := by
        cases u <;> first | (exact absurd rfl (n1 _ _)) | (exact absurd rfl (n2 _)) | (exact absurd rfl (n3 _ _)) | (exact absurd rfl (n4 _ _ _)) | simp [binOp, he]
      simp [execOp, ho, e1, e2, hg, hrun]
  have gs : ∀ a n m w, (eqGuard op t x y (.slice a n m) (.slice none 0 0)).run G.P w = .ok () w := fun a n m w => by unfold eqGuard; cases op <;> rfl
  have gp : ∀ a w, (eqGuard op t x y (.pointer a) (.pointer none)).run G.P w = .ok () w := fun a w => by unfold eqGuard; cases op <;> rfl
  have gf : ∀ f a b w, (eqGuard op t x y (.func f a b) .nilFunc).run G.P w = .ok () w := fun f a b w => by unfold eqGuard; cases op <;> rfl
  have gn : ∀ w, (eqGuard op t x y .nilFunc .nilFunc).run G.P w = .ok () w := fun w => by unfold eqGuard; cases op <;> rfl
  split at h
  · rename_i e hkd
    rw [hkd] at hf hk
    simp only [TK.fits] at hf hk
    subst hf
    rw [hk] at h2
    simp only [Rel] at h2
    split at h
    · rename_i k n hx
      rw [hx] at h1
      simp only [Rel] at h1
      obtain ⟨_, ⟨_, hv, hn⟩ | ⟨_, hv, _⟩⟩ := h1
      · exact fin _ _ _ hv h2 (gs _ _ _) (run_eq_slice hd _ _ _ _) (fun _ => .inl (by simp)) (nilK_sound h _ (fun hne => absurd hn hne))
      · exact fin _ _ _ hv h2 (gs _ _ _) (run_eq_slice hd _ _ _ _) (fun _ => .inl (by simp)) (nilK_sound h _ (fun _ => rfl))
    · rename_i k lo n hx
      rw [hx] at h1
      simp only [Rel] at h1
      obtain ⟨_, a, cap, hv, _, h3⟩ := h1
      exact fin _ _ _ hv h2 (gs _ _ _) (run_eq_slice hd _ _ _ _) (fun _ => .inl (by simp)) (nilK_sound h _ (fun hne => by rcases h3 with h3 | ⟨_, rfl⟩; exact absurd h3 hne; rfl))
    · rename_i fr wd rows hx
      rw [hx] at h1
      simp only [Rel] at h1
      obtain ⟨a, cap, hv, _, h3⟩ := h1
      exact fin _ _ _ hv h2 (gs _ _ _) (run_eq_slice hd _ _ _ _) (fun _ => .inl (by simp)) (nilK_sound h _ (fun hne => by rcases h3 with h3 | ⟨_, _, rfl, _⟩; (rw [h3] at hne; exact absurd rfl hne); rfl))
    · rename_i hx
      rw [hx] at h1
      simp only [Rel] at h1
      exact fin _ _ true h1 h2 (gs _ _ _) (run_eq_slice hd _ _ _ _) (fun _ => .inl (by simp)) (det_sound (b := true) h)
    · exact h.elim
  · rename_i hkd
    rw [hkd] at hf hk
    simp only [TK.fits] at hf hk
    obtain ⟨p, q, v, rfl⟩ := hf
    rw [hk] at h2
    simp only [Rel] at h2
    split at h
    · rename_i f caps hx
      rw [hx] at h1
      simp only [Rel] at h1
      obtain ⟨vs, hv, _⟩ := h1
      exact fin _ _ false hv h2 (gf _ _ _) (run_eq_func hd _ _ _ _) (fun _ => .inl (by simp)) (det_sound (b := false) h)
    · rename_i hx
      rw [hx] at h1
      simp only [Rel] at h1
      exact fin _ _ true h1 h2 gn (run_eq_nilFunc hd _) (fun _ => .inl (by simp)) (det_sound (b := true) h)
    · exact h.elim
  · rename_i e hkd
    rw [hkd] at hf hk
    simp only [TK.fits] at hf hk
    subst hf
    rw [hk] at h2
    simp only [Rel] at h2
    split at h
    · rename_i k r q hx
      rw [hx] at h1
      simp only [Rel] at h1
      obtain ⟨_, _, hv⟩ := h1
      exact fin _ _ false hv h2 (gp _) (run_eq_ptr hd _ _) (fun _ => .inl (by simp)) (det_sound (b := false) h)
    · rename_i cs hx
      rw [hx] at h1
      simp only [Rel] at h1
      obtain ⟨b, off, hv, _⟩ := h1
      exact fin _ _ false hv h2 (gp _) (run_eq_ptr hd _ _) (fun _ => .inl (by simp)) (det_sound (b := false) h)
    · rename_i hx
      rw [hx] at h1
      simp only [Rel] at h1
      exact fin _ _ true h1 h2 (gp _) (run_eq_ptr hd _ _) (fun _ => .inl (by simp)) (det_sound (b := true) h)
    · exact h.elim
  · exact h.elim

/-! ### Structs against structs -/
/-- What the machine looks at besides the fields. -/
def eqOk (P : Program) (t : Nat) : Bool :=
  P.eqGuardType P.depth t == false && P.stoodInHeld t == false && match P.underlying t with | some (.struct F) => F.toList.all (fun f => !(f.name == "_")) | _ => false

def valB (k : TK) (x y : Sv) (K : Bool → Prop) : Prop :=
  match k, x, y with
  | .int k, .val (.int k1 a), .val (.int k2 b) => Need (k1 = k ∧ k2 = k) (K (a == b))
  | .bool, .val (.bool a), .val (.bool b) => K (a == b)
  | _, _, _ => False

def eqFs (G : Gm) (cs ds : List Sv) : List (Nat × Nat) → (Bool → Prop) → Prop
  | [], K => K true
  | (off, t) :: fs, K => Get (G.tab t) fun i => Get (nth cs off) fun x => Get (nth ds off) fun y => valB i.kind x y fun b => match fs with
      | [] => K b
      | f :: fs => eqFs G cs ds (f :: fs) fun r => K (b && r)

def eqV (G : Gm) (op : BinOp) (t : Nat) (cs ds : List Sv) (K : Sv → Prop) : Prop :=
  Get (G.tab t) fun i => match i.kind with
    | .struct fs => Need (eqOk G.P t = true) <| eqFs G cs ds fs fun b => match op with
      | .eql => K (.val (.bool b))
      | .neq => K (.val (.bool (!b)))
      | _ => False
    | _ => False

theorem run_equal_int {P : Program} {t : Nat} {k : IntKind} (hd : P.underlying t = some (.int k)) (d : Nat) (a b : Int) (w : World) : (Op.equalIn (d + 1) t (.int k a) (.int k b)).run P w = .ok (a == b) w := by
  simp [Op.equalIn, run_underlying hd]
theorem run_equal_boolIn {P : Program} {t : Nat} (hd : P.underlying t = some .bool) (d : Nat) (a b : Bool) (w : World) : (Op.equalIn (d + 1) t (.bool a) (.bool b)).run P w = .ok (a == b) w := by
  simp [Op.equalIn, run_underlying hd]

theorem eqFs_sound {cs ds : List Sv} : ∀ (fs : List Field) (K : Bool → Prop), fs.all (fun f => !(f.name == "_")) = true → eqFs G cs ds (fs.map fun f => (f.offset, f.type)) K →
    ∃ b, K b ∧ ∀ (c : Cx) (us vs : List Value), RelL cs c us → RelL ds c vs → ∀ d, (Op.eqFields (d + 1) us.toArray vs.toArray fs).run G.P c.w = .ok b c.w
  | [], K, _, h => ⟨true, h, fun c us vs _ _ d => by simp [Op.eqFields]⟩
  | f :: fs, K, hn, h => by
    simp only [List.all_cons, Bool.and_eq_true] at hn
    obtain ⟨hn1, hn2⟩ := hn
    have hn' : f.name ≠ "_" := by simpa using hn1
    simp only [List.map_cons] at h
    unfold eqFs at h
    obtain ⟨i, hi, x, hx, y, hy, h⟩ := h
    have ht := G.ok _ _ hi
    rw [nth_eq] at hx hy
    -- the field's own comparison
    have field : ∀ {K' : Bool → Prop}, valB i.kind x y K' → ∃ b, K' b ∧ ∀ (c : Cx) (us vs : List Value), RelL cs c us → RelL ds c vs → ∀ d,
        ∃ a a', (part f.type us.toArray f.offset).run G.P c.w = .ok a c.w ∧ (part f.type vs.toArray f.offset).run G.P c.w = .ok a' c.w ∧ (Op.equalIn (d + 1) f.type a a').run G.P c.w = .ok b c.w := by
      intro K' hv
      have getp : ∀ {zs : List Sv} {z : Sv} {c : Cx} {us : List Value} {v : Value}, i.kind.agg = false → zs[f.offset]? = some z → RelL zs c us → z = .val v → (part f.type us.toArray f.offset).run G.P c.w = .ok v c.w := by
        intro zs z c us v hagg hz hr hzv
        have hlt := (List.getElem?_eq_some_iff.1 hz).1
        have hlen := RelL_len _ hr
        have := RelL_get _ hr f.offset z us[f.offset] hz (List.getElem?_eq_getElem (by omega))
        rw [hzv] at this
        simp only [Rel] at this
        unfold part
        simp only [Sem.run_bind, ht.run_isAgg, hagg, Result.andThen_ok]
        simp [this, show f.offset < us.length by omega]
      unfold valB at hv
      split at hv
      · rename_i k k1 a k2 b hk
        obtain ⟨⟨rfl, rfl⟩, hv⟩ := hv
        obtain ⟨D, hD, hf⟩ := ht.desc
        rw [hk] at hf
        simp only [TK.fits] at hf
        subst hf
        exact ⟨_, hv, fun c us vs hu hv d => ⟨_, _, getp (by rw [hk]; rfl) hx hu rfl, getp (by rw [hk]; rfl) hy hv rfl, run_equal_int hD d a b c.w⟩⟩
      · rename_i a b hk
        obtain ⟨D, hD, hf⟩ := ht.desc
        rw [hk] at hf
        simp only [TK.fits] at hf
        subst hf
        exact ⟨_, hv, fun c us vs hu hv d => ⟨_, _, getp (by rw [hk]; rfl) hx hu rfl, getp (by rw [hk]; rfl) hy hv rfl, run_equal_boolIn hD d a b c.w⟩⟩
      · exact hv.elim
    obtain ⟨b, h, hb⟩ := field h
    cases hfs : fs with
    | nil =>
      subst hfs
      refine ⟨b, h, fun c us vs hu hv d => ?_⟩
      obtain ⟨a, a', h1, h2, h3⟩ := hb c us vs hu hv d
      simp only [Op.eqFields, if_pos hn', Sem.run_bind, h1, h2, h3, Result.andThen_ok]
      cases b <;> simp
    | cons g gs =>
      subst hfs
      simp only [List.map_cons] at h
      obtain ⟨r, hK, hr⟩ := eqFs_sound (g :: gs) _ hn2 h
      refine ⟨b && r, hK, fun c us vs hu hv d => ?_⟩
      obtain ⟨a, a', h1, h2, h3⟩ := hb c us vs hu hv d
      rw [Op.eqFields]
      simp only [if_pos hn', Sem.run_bind, h1, h2, h3, Result.andThen_ok]
      cases b
      · simp
      · simpa using hr c us vs hu hv d

theorem eqV_sound {op : BinOp} {t yt : Nat} {x y : Operand} {cs ds : List Sv} {K : Sv → Prop} (ho : o.op = .binOp op t x y yt) (hx : evO tm x = .agg cs) (hy : evO tm y = .agg ds) (h : eqV G op t cs ds K) : ∃ s, K s ∧ PureS G.P o tm hp s := by
  obtain ⟨i, hi, h⟩ := h
  obtain ⟨d, hd, hf⟩ := (G.ok t i hi).desc
  split at h
  · rename_i fs hkd
    rw [hkd] at hf
    obtain ⟨F, rfl, hF⟩ := hf
    obtain ⟨hok, h⟩ := h
    unfold eqOk at hok
    rw [hd] at hok
    simp only [Bool.and_eq_true, beq_iff_eq] at hok
    obtain ⟨⟨hg1, hst⟩, hnm⟩ := hok
    rw [← hF] at h
    obtain ⟨b, h, hb⟩ := eqFs_sound F.toList _ hnm h
    have hfld : G.P.fieldsOf t = F := by simp [Program.fieldsOf, hd]
    have he : ∀ (c : Cx) (us vs : List Value), RelL cs c us → RelL ds c vs → (Op.equal t (.agg us.toArray) (.agg vs.toArray)).run G.P c.w = .ok b c.w := by
      intro c us vs hu hv
      have := run_equalIn_struct (P := G.P) (w := c.w) 9999 t us.toArray vs.toArray (by rw [hfld]; exact hd) hst
      rw [hfld, hb c us vs hu hv 9998] at this
      exact this
    have hg : ∀ (us vs : Array Value) w, (eqGuard op t x y (.agg us) (.agg vs)).run G.P w = .ok () w := by
      intro us vs w
      unfold eqGuard
      cases op <;> first | rfl | simp [run_program, hg1]
    split at h
    · refine ⟨_, h, fun w0 M c A hI ha => ⟨.bool b, ?_, by simp [Rel]⟩⟩
      have h1 := ha x (by rw [ho]; simp [Op.operands])
      have h2 := ha y (by rw [ho]; simp [Op.operands])
      rw [hx] at h1
      rw [hy] at h2
      simp only [Rel] at h1 h2
      obtain ⟨us, e1, hu⟩ := h1
      obtain ⟨vs, e2, hv⟩ := h2
      simp [execOp, ho, e1, e2, hg, binOp, he c us vs hu hv]
    · refine ⟨_, h, fun w0 M c A hI ha => ⟨.bool (!b), ?_, by simp [Rel]⟩⟩
      have h1 := ha x (by rw [ho]; simp [Op.operands])
      have h2 := ha y (by rw [ho]; simp [Op.operands])
      rw [hx] at h1
      rw [hy] at h2
      simp only [Rel] at h1 h2
      obtain ⟨us, e1, hu⟩ := h1
      obtain ⟨vs, e2, hv⟩ := h2
      simp [execOp, ho, e1, e2, hg, binOp, he c us vs hu hv]
    · exact h.elim
  · exact h.elim
end
theorem EPost.same {w0 : World} {M : Frm} {c : Cx} {hp : Hp} (hI : Inv w0 M c hp) : EPost w0 M c c hp [] [] :=
  { inv := by simpa [kill] using hI
    le := ⟨fun _ _ h => ⟨h, rfl⟩, fun _ h => h, fun _ _ h => h, fun _ _ => rfl⟩
    dom := fun k => by simp [memB]; omega
    keep := fun _ _ _ => rfl
    xdom := fun _ h => .inl h
    size := Nat.le_refl _
    fresh := fun k hk hD _ => by
      obtain ⟨blk, e, _⟩ := hI.dom k hD
      have := (List.getElem?_eq_some_iff.1 e).1
      omega
    cA := rfl
    cC := rfl
    cZ := rfl
    nnil := fun j b h => by simp at h }
end Go.Eng
