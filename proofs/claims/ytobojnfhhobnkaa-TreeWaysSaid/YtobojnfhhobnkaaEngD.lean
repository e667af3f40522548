/- The engine, part D: further operations that only compute or read; all of them under one name. -/
import Derived.Test.YtobojnfhhobnkaaEngC
import Derived.Lib.SliceRun
import Derived.WalkSpells
set_option linter.unusedSimpArgs false
set_option maxRecDepth 20000
set_option linter.unusedVariables false
namespace Go.Eng
open Go Go.RowKit
section
variable {G : Gm} {tm : List Sv} {hp : Hp} {o : Oper}

theorem opnd_rel {c : Cx} {a : Act} {x : Operand} {s : Sv} (ha : ∀ x ∈ o.op.operands, Rel (evO tm x) c (a.eval x)) (hx : x ∈ o.op.operands) (e : evO tm x = s) : Rel s c (a.eval x) := e ▸ ha x hx

/-! ### One operand -/
def unV (op : UnOp) (x : Sv) (K : Sv → Prop) : Prop :=
  match op, x with
  | .not, .val (.bool b) => K (.val (.bool (!b)))
  | .neg, .val (.int k n) => EqK (k.wrap (0 - n)) fun m => K (.val (.int k m))
  | _, _ => False

theorem unV_sound {op : UnOp} {t : Nat} {x : Operand} {K : Sv → Prop} (ho : o.op = .unOp op t x) (h : unV op (evO tm x) K) : ∃ s, K s ∧ PureS G.P o tm hp s := by
  unfold unV at h
  split at h
  · rename_i b hx
    refine ⟨_, h, fun w0 M c a hI ha => ⟨.bool (!b), ?_, by simp only [Rel]⟩⟩
    have := opnd_rel ha (by rw [ho]; simp [Op.operands]) hx
    simp only [Rel] at this
    simp [execOp, ho, this, Op.unary]
  · rename_i k n hx
    refine ⟨_, h.go, fun w0 M c a hI ha => ⟨.int k (k.wrap (0 - n)), ?_, by simp only [Rel]⟩⟩
    have := opnd_rel ha (by rw [ho]; simp [Op.operands]) hx
    simp only [Rel] at this
    simp [execOp, ho, this, Op.unary, Op.intArith]
  · exact h.elim

def convV (G : Gm) (src dst : Nat) (x : Sv) (K : Sv → Prop) : Prop :=
  Get (G.tab src) fun _ => Get (G.tab dst) fun j =>
    match j.kind, x with
    | .int k, .val (.int _ n) => EqK (k.wrap n) fun m => K (.val (.int k m))
    | _, _ => False

theorem convV_sound {src dst : Nat} {x : Operand} {K : Sv → Prop} (ho : o.op = .convert src dst x) (h : convV G src dst (evO tm x) K) : ∃ s, K s ∧ PureS G.P o tm hp s := by
  obtain ⟨i, hi, j, hj, h⟩ := h
  split at h
  · rename_i k q n hk hx
    obtain ⟨d, hd, _⟩ := (G.ok src i hi).desc
    obtain ⟨d', hd', hf⟩ := (G.ok dst j hj).desc
    rw [hk] at hf
    simp only [TK.fits] at hf
    subst hf
    refine ⟨_, h.go, fun w0 M c a hI ha => ⟨.int k (k.wrap n), ?_, by simp only [Rel]⟩⟩
    have := opnd_rel ha (by rw [ho]; simp [Op.operands]) hx
    simp only [Rel] at this
    simp [execOp, ho, this, convert, run_underlying hd, run_underlying hd', Conv.intToInt]
  · exact h.elim

def lenV (G : Gm) (t : Nat) (x : Sv) (K : Sv → Prop) : Prop :=
  Get (G.tab t) fun i =>
    match i.kind, x with
    | .slice _, .own _ n => K (.val (.int .i64 (n : Int)))
    | .slice _, .sls _ _ n => K (.val (.int .i64 (n : Int)))
    | .slice _, .ext _ _ rows => EqK rows.length fun n => K (.val (.int .i64 (n : Int)))
    | .slice _, .val (.slice _ n _) => K (.val (.int .i64 (n : Int)))
    | .str, .val (.string s) => K (.val (.int .i64 (s.size : Int)))
    | _, _ => False

theorem run_len_slice {P : Program} {t e : Nat} (h : P.underlying t = some (.slice e)) (a : Option Addr) (n cap : Nat) (w : World) (ty : Nat) :
    (Builtin.len_ #[t] ty #[.slice a n cap]).run P w = .ok (.int .i64 (n : Int)) w := by
  simp [Builtin.len_, run_underlying h, goInt]

theorem lenV_sound {t : Nat} {x : Operand} {K : Sv → Prop} (ho : o.op = .call { callee := .builtin .len, args := #[x], argTypes := #[t] }) (h : lenV G t (evO tm x) K) : ∃ s, K s ∧ PureS G.P o tm hp s := by
  obtain ⟨i, hi, h⟩ := h
  have fin : ∀ {e n : Nat}, i.kind = .slice e → K (.val (.int .i64 (n : Int))) → (∀ (c : Cx) (v : Value), Rel (evO tm x) c v → ∃ a cap, v = .slice a n cap) → ∃ s, K s ∧ PureS G.P o tm hp s := by
    intro e n hk hK hv
    refine ⟨_, hK, fun w0 M c a hI ha => ⟨.int .i64 (n : Int), ?_, by simp only [Rel]⟩⟩
    obtain ⟨d, hd, hf⟩ := (G.ok t i hi).desc
    rw [hk] at hf
    simp only [TK.fits] at hf
    subst hf
    obtain ⟨A, cap, hv⟩ := hv c _ (ha x (by rw [ho]; simp [Op.operands, Call.operands]))
    simp [execOp, ho, resolve, invoke, builtin, hv, run_len_slice hd]
  split at h
  · rename_i e k n hk hx
    refine fin hk h fun c v r => ?_
    rw [hx] at r
    simp only [Rel] at r
    obtain ⟨_, ⟨_, rfl, rfl⟩ | ⟨_, rfl, _⟩⟩ := r
    · exact ⟨_, _, rfl⟩
    · exact ⟨_, _, rfl⟩
  · rename_i e k lo n hk hx
    refine fin hk h fun c v r => ?_
    rw [hx] at r
    simp only [Rel] at r
    obtain ⟨_, A, cap, rfl, _⟩ := r
    exact ⟨_, _, rfl⟩
  · rename_i e fr wd rows hk hx
    refine fin hk h.go fun c v r => ?_
    rw [hx] at r
    simp only [Rel] at r
    obtain ⟨A, cap, rfl, _⟩ := r
    exact ⟨_, _, rfl⟩
  · rename_i e A n cap hk hx
    refine fin hk h fun c v r => ?_
    rw [hx] at r
    simp only [Rel] at r
    exact ⟨_, _, r⟩
  · rename_i s hk hx
    refine ⟨_, h, fun w0 M c a hI ha => ⟨.int .i64 (s.size : Int), ?_, by simp only [Rel]⟩⟩
    obtain ⟨d, hd, hf⟩ := (G.ok t i hi).desc
    rw [hk] at hf
    simp only [TK.fits] at hf
    subst hf
    have := opnd_rel ha (by rw [ho]; simp [Op.operands, Call.operands]) hx
    simp only [Rel] at this
    simp [execOp, ho, resolve, invoke, builtin, this, Builtin.len_, run_underlying hd, goInt]
  · exact h.elim

def extractV (x : Sv) (i : Nat) (K : Sv → Prop) : Prop :=
  match x with
  | .tup cs => Get (nth cs i) K
  | _ => False

theorem RelT_get : ∀ (ss : List Sv) {c : Cx} {vs : List Value}, RelT ss c vs → ∀ (i : Nat) (s : Sv), ss[i]? = some s → ∃ v, vs[i]? = some v ∧ Rel s c v
  | [], _, _, _, _, _, h => by simp at h
  | t :: ss, _, _, r, i, s, h => by
    simp only [RelT] at r
    obtain ⟨u, us, e, hs, hl⟩ := r
    subst e
    cases i with
    | zero => simp at h; subst h; exact ⟨u, rfl, hs⟩
    | succ i => exact RelT_get ss hl i s (by simpa using h)

theorem RelT_map {tm : List Sv} {c : Cx} {a : Act} : ∀ (xs : List Operand), (∀ x ∈ xs, Rel (evO tm x) c (a.eval x)) → RelT (xs.map (evO tm)) c (xs.map a.eval)
  | [], _ => by simp [RelT]
  | x :: xs, h => by
    simp only [List.map_cons, RelT]
    exact ⟨_, _, rfl, h x (by simp), RelT_map xs fun y hy => h y (by simp [hy])⟩

theorem extractV_sound {x : Operand} {i : Nat} {K : Sv → Prop} (ho : o.op = .extract x i) (h : extractV (evO tm x) i K) : ∃ s, K s ∧ PureS G.P o tm hp s := by
  unfold extractV at h
  split at h
  · rename_i cs hx
    obtain ⟨s, hs, h⟩ := h
    refine ⟨s, h, fun w0 M c a hI ha => ?_⟩
    have r := opnd_rel ha (by rw [ho]; simp [Op.operands]) hx
    simp only [Rel] at r
    obtain ⟨vs, hv, hl⟩ := r
    rw [nth_eq] at hs
    obtain ⟨v, hg, hr⟩ := RelT_get cs hl i s hs
    exact ⟨v, by simp [execOp, ho, hv, Instr.extract, hg], hr⟩
  · exact h.elim

theorem funcV_sound {f : Nat} {cap : Array Operand} {K : Sv → Prop} (ho : o.op = .makeFunc (.func f) #[] cap) (h : K (.clo f (cap.toList.map (evO tm)))) : ∃ s, K s ∧ PureS G.P o tm hp s := by
  refine ⟨_, h, fun w0 M c a hI ha => ⟨.func (.func f) #[] (cap.map a.eval), ?_, ?_⟩⟩
  · simp [execOp, ho, Instr.makeFunc]
  · simp only [Rel]
    refine ⟨cap.toList.map a.eval, ?_, RelT_map _ fun x hx => ha x (by rw [ho]; simp [Op.operands]; simpa using hx)⟩
    congr 1
    apply Array.ext'
    simp

def nilCheckV (x : Sv) (K : Sv → Prop) : Prop :=
  match x with
  | .ptr k r c => K (.ptr k r c)
  | .ref fr cs => K (.ref fr cs)
  | .clo f cs => K (.clo f cs)
  | _ => False

theorem nilCheckV_sound {x : Operand} {K : Sv → Prop} (ho : o.op = .nilCheck x) (h : nilCheckV (evO tm x) K) : ∃ s, K s ∧ PureS G.P o tm hp s := by
  unfold nilCheckV at h
  split at h
  · rename_i k r q hx
    refine ⟨_, h, fun w0 M c a hI ha => ⟨a.eval x, ?_, opnd_rel ha (by rw [ho]; simp [Op.operands]) hx⟩⟩
    have r := opnd_rel ha (by rw [ho]; simp [Op.operands]) hx
    simp only [Rel] at r
    simp [execOp, ho, r.2.2]
  · rename_i cs hx
    refine ⟨_, h, fun w0 M c a hI ha => ⟨a.eval x, ?_, opnd_rel ha (by rw [ho]; simp [Op.operands]) hx⟩⟩
    have r := opnd_rel ha (by rw [ho]; simp [Op.operands]) hx
    simp only [Rel] at r
    obtain ⟨b, off, hv, _⟩ := r
    simp [execOp, ho, hv]
  · rename_i f cs hx
    refine ⟨_, h, fun w0 M c a hI ha => ⟨a.eval x, ?_, opnd_rel ha (by rw [ho]; simp [Op.operands]) hx⟩⟩
    have r := opnd_rel ha (by rw [ho]; simp [Op.operands]) hx
    simp only [Rel] at r
    obtain ⟨vs, hv, _⟩ := r
    simp [execOp, ho, hv]
  · exact h.elim

/-! ### A part of a slice -/
def bd (tm : List Sv) (x : Option Operand) (d : Int) (K : Int → Prop) : Prop :=
  match x with
  | none => K d
  | some y => match evO tm y with
    | .val (.int _ n) => K n
    | _ => False

def cutV (G : Gm) (tm : List Sv) (hp : Hp) (t : Nat) (x : Operand) (lo hi mx : Option Operand) (K : Sv → Prop) : Prop :=
  Get (G.tab t) fun i => match i.kind with
    | .slice e => Get (G.tab e) fun j =>
      match evO tm x with
      | .own k n => Get (hpGet hp k) fun b => Need (b.wd = j.size) <| match lo, mx with
        | none, none => bd tm hi n fun h => Need (0 ≤ h ∧ (h ≤ (n : Int) ∨ b.grow = true ∧ h ≤ (b.rows.length : Int))) (EqK h.toNat fun m' => K (.own k m'))
        | _, _ => bd tm lo 0 fun l => bd tm hi n fun h => bd tm mx h fun m => Need (0 ≤ l ∧ l ≤ h ∧ h ≤ m ∧ (m ≤ (n : Int) ∨ b.grow = true ∧ m ≤ (b.rows.length : Int))) (EqK l.toNat fun l' => EqK (h.toNat - l.toNat) fun m' => K (.sls k l' m'))
      | .sls k q n => Get (hpGet hp k) fun b => Need (b.wd = j.size) <| bd tm lo 0 fun l => bd tm hi n fun h => bd tm mx n fun m => Need (0 ≤ l ∧ l ≤ h ∧ h ≤ m ∧ m ≤ (n : Int)) (EqK (q + l.toNat) fun l' => EqK (h.toNat - l.toNat) fun m' => K (.sls k l' m'))
      | .ext fr wd rows => Need (wd = j.size) <| bd tm lo 0 fun l => EqK rows.length fun n' => bd tm hi n' fun h => bd tm mx n' fun m => Need (0 ≤ l ∧ l ≤ h ∧ h ≤ m ∧ m ≤ (n' : Int)) (EqK ((rows.take h.toNat).drop l.toNat) fun r => K (.ext fr wd r))
      | _ => False
    | _ => False

theorem bd_spec {x : Option Operand} {d : Int} {K : Int → Prop} (h : bd tm x d K) : ∃ n, K n ∧ (x = none ∧ n = d ∨ ∃ y k, x = some y ∧ evO tm y = .val (.int k n)) := by
  unfold bd at h
  split at h
  · exact ⟨d, h, .inl ⟨rfl, rfl⟩⟩
  · rename_i y
    split at h
    · rename_i k n hy
      exact ⟨n, h, .inr ⟨y, k, rfl, hy⟩⟩
    · exact h.elim

theorem run_sliceBound {P : Program} (k : IntKind) (n : Int) (y : Nat) (code : BoundsCode) (h0 : 0 ≤ n) (h1 : n ≤ (y : Int)) (w : World) : (Instr.sliceBound (.int k n) y code).run P w = .ok n.toNat w := by
  simp [Instr.sliceBound, asIntOf, h0, h1]

/-- What a cut of a slice comes to. -/
theorem run_cut {P : Program} {t e : Nat} {i j : TI} (ht : TIok P t i) (hk : i.kind = .slice e) (hj : TIok P e j) (A : Option Addr) (n cap : Nat) (hcap : n ≤ cap) (lo hi mx : Option Value) (l h m : Int)
    (hl : lo = none ∧ l = 0 ∨ ∃ k, lo = some (.int k l)) (hh : hi = none ∧ h = n ∧ mx = none ∨ ∃ k, hi = some (.int k h)) (hm : mx = none ∨ ∃ k, mx = some (.int k m)) (b : 0 ≤ l ∧ l ≤ h ∧ h ≤ m ∧ m ≤ (cap : Int)) (w : World) :
    ∃ A' cap', (Instr.sliceAt t (.slice A n cap) lo hi mx).run P w = .ok (.slice A' (h.toNat - l.toNat) cap') w ∧ h.toNat - l.toNat ≤ cap' ∧ (h.toNat - l.toNat = 0 ∨ A' = A.map (·.add (l.toNat * j.size))) ∧ (mx = none → l = 0 → (A' = A ∨ A' = A.map (·.add 0)) ∧ cap' = cap) := by
  obtain ⟨d, hd, hf⟩ := ht.desc
  rw [hk] at hf
  simp only [TK.fits] at hf
  subst hf
  have key : ∃ m', (Instr.sliceBounds true n cap lo hi mx).run P w = .ok (l.toNat, h.toNat, m') w ∧ h.toNat ≤ m' ∧ (mx = none → m' = cap) := by
    rcases hm with rfl | ⟨km, rfl⟩
    · rcases hh with ⟨rfl, rfl, _⟩ | ⟨kh, rfl⟩
      · rcases hl with ⟨rfl, rfl⟩ | ⟨kl, rfl⟩
        · exact ⟨cap, by simp [Instr.sliceBounds], by omega, fun _ => rfl⟩
        · exact ⟨cap, by simp [Instr.sliceBounds, run_sliceBound kl l n _ b.1 (by omega)], by omega, fun _ => rfl⟩
      · rcases hl with ⟨rfl, rfl⟩ | ⟨kl, rfl⟩
        · exact ⟨cap, by simp [Instr.sliceBounds, run_sliceBound kh h cap _ (by omega) (by omega)], by omega, fun _ => rfl⟩
        · exact ⟨cap, by simp [Instr.sliceBounds, run_sliceBound kh h cap _ (by omega) (by omega), run_sliceBound kl l h.toNat _ b.1 (by omega)], by omega, fun _ => rfl⟩
    · rcases hh with ⟨_, _, h0⟩ | ⟨kh, rfl⟩
      · cases h0
      · rcases hl with ⟨rfl, rfl⟩ | ⟨kl, rfl⟩
        · exact ⟨m.toNat, by simp [Instr.sliceBounds, run_sliceBound km m cap _ (by omega) (by omega), run_sliceBound kh h m.toNat _ (by omega) (by omega)], by omega, fun h => by cases h⟩
        · exact ⟨m.toNat, by simp [Instr.sliceBounds, run_sliceBound km m cap _ (by omega) (by omega), run_sliceBound kh h m.toNat _ (by omega) (by omega), run_sliceBound kl l h.toNat _ b.1 (by omega)], by omega, fun h => by cases h⟩
  obtain ⟨m', hrun, hle, hmc⟩ := key
  refine ⟨if m' = l.toNat then A else A.map (·.add (l.toNat * j.size)), m' - l.toNat, ?_, by omega, ?_, ?_⟩
  · simp [Instr.sliceAt, Instr.slice, run_underlying hd, hrun, hj.run_sizeOf]
  · by_cases e : m' = l.toNat
    · left; omega
    · right; rw [if_neg e]
  · intro h1 h2
    subst h2
    refine ⟨?_, by rw [hmc h1]; simp⟩
    split
    · exact .inl rfl
    · right; simp

theorem cutV_sound {t : Nat} {x : Operand} {lo hi mx : Option Operand} {K : Sv → Prop} (hhm : hi = none → mx = none) (ho : o.op = .slice t x lo hi mx) (h : cutV G tm hp t x lo hi mx K) : ∃ s, K s ∧ PureS G.P o tm hp s := by
  obtain ⟨i, hi', h⟩ := h
  have ht := G.ok t i hi'
  split at h
  case h_2 => exact h.elim
  rename_i e hk
  obtain ⟨j, hj', h⟩ := h
  have hj := G.ok e j hj'
  -- the bounds' values
  have bnd : ∀ {c : Cx} {a : Act} {y : Option Operand} {n d : Int}, (∀ x ∈ o.op.operands, Rel (evO tm x) c (a.eval x)) → (∀ z, y = some z → z ∈ o.op.operands) → (y = none ∧ n = d ∨ ∃ z k, y = some z ∧ evO tm z = .val (.int k n)) → (y.map a.eval = none ∧ n = d ∨ ∃ k, y.map a.eval = some (.int k n)) := by
    intro c a y n d ha hy hn
    rcases hn with ⟨rfl, rfl⟩ | ⟨z, k, rfl, hz⟩
    · exact .inl ⟨rfl, rfl⟩
    · have := opnd_rel ha (hy z rfl) hz
      simp only [Rel] at this
      exact .inr ⟨k, by simp [this]⟩
  have hlo : ∀ z, lo = some z → z ∈ o.op.operands := by rintro z rfl; rw [ho]; simp [Op.operands]
  have hhi : ∀ z, hi = some z → z ∈ o.op.operands := by rintro z rfl; rw [ho]; simp [Op.operands]
  have hmx : ∀ z, mx = some z → z ∈ o.op.operands := by rintro z rfl; rw [ho]; simp [Op.operands]
  have hx0 : x ∈ o.op.operands := by rw [ho]; simp [Op.operands]
  have hh3 : ∀ {a : Act} {q n : Int}, (hi.map a.eval = none ∧ q = n ∨ ∃ k, hi.map a.eval = some (.int k q)) → (hi.map a.eval = none ∧ q = n ∧ mx.map a.eval = none ∨ ∃ k, hi.map a.eval = some (.int k q)) := by
    intro a q n h
    rcases h with ⟨h1, h2⟩ | h
    · refine .inl ⟨h1, h2, ?_⟩
      cases hi with
      | none => rw [hhm rfl]; rfl
      | some z => cases h1
    · exact .inr h
  have hmn : ∀ {a : Act} {q n : Int}, (mx.map a.eval = none ∧ q = n ∨ ∃ k, mx.map a.eval = some (.int k q)) → (mx.map a.eval = none ∨ ∃ k, mx.map a.eval = some (.int k q)) := fun h => h.imp And.left id
  split at h
  · rename_i k n hx
    obtain ⟨b, hb, hw, h⟩ := h
    split at h
    · -- no low bound: the same block's first rows
      obtain ⟨q, h, hq⟩ := bd_spec h
      obtain ⟨⟨hq0, hbd⟩, h⟩ := h
      refine ⟨_, h.go, fun w0 M c a hI ha => ?_⟩
      have r := opnd_rel ha hx0 hx
      simp only [Rel] at r
      obtain ⟨hD, hv⟩ := r
      obtain ⟨b', hb', hwd, hrel⟩ := hI.dom k hD
      rw [hpGet_eq] at hb
      rw [hb] at hb'
      cases hb'
      rcases hv with ⟨hnil, e, h0⟩ | ⟨hnil, e, hc⟩
      · have hq1 : q = 0 := by
          rcases hrel.1 hnil with ⟨_, h1⟩ | ⟨h1, _⟩
          · rw [h1] at hbd; simp only [List.length_nil] at hbd; omega
          · rcases hbd with h | ⟨h, _⟩
            · omega
            · rw [h1] at h; cases h
        subst hq1
        obtain ⟨A', cap', hrun, hc', hA', hA2⟩ := run_cut ht hk hj none 0 0 (Nat.le_refl _) none (hi.map a.eval) none 0 0 0 (.inl ⟨rfl, rfl⟩) (by have := hh3 (bnd ha hhi hq); rw [h0] at this; exact this) (.inl rfl) ⟨by omega, by omega, by omega, by simp⟩ c.w
        obtain ⟨hA3, rfl⟩ := hA2 rfl rfl
        have hA4 : A' = none := by rcases hA3 with h | h <;> simpa using h
        subst hA4
        refine ⟨_, by simp [execOp, ho, e, hrun]; rfl, ?_⟩
        simp only [Rel]
        exact ⟨hD, .inl ⟨hnil, by simp, rfl⟩⟩
      · have hqc : q ≤ ((c.E k).cap : Int) := by
          rcases hbd with h1 | ⟨hg, h1⟩
          · omega
          · obtain ⟨arr, _, _, _, hgr⟩ := hrel.2 hnil
            have := (hgr hg).2.1; omega
        obtain ⟨A', cap', hrun, hc', hA', hA2⟩ := run_cut ht hk hj (some ⟨(c.E k).b, 0, none⟩) n (c.E k).cap hc none (hi.map a.eval) none 0 q q (.inl ⟨rfl, rfl⟩) (hh3 (bnd ha hhi hq)) (.inl rfl) ⟨by omega, hq0, by omega, hqc⟩ c.w
        obtain ⟨hA3, rfl⟩ := hA2 rfl rfl
        have hA4 : A' = some ⟨(c.E k).b, 0, none⟩ := by rcases hA3 with h | h <;> simpa [Addr.add_lit] using h
        subst hA4
        refine ⟨_, by simp [execOp, ho, e, hrun]; rfl, ?_⟩
        simp only [Rel]
        exact ⟨hD, .inr ⟨hnil, by simp, by simpa using hc'⟩⟩
    · obtain ⟨l, h, hl⟩ := bd_spec h
      obtain ⟨q, h, hq⟩ := bd_spec h
      obtain ⟨m, h, hm⟩ := bd_spec h
      obtain ⟨hbd, h⟩ := h
      refine ⟨_, h.go.go, fun w0 M c a hI ha => ?_⟩
      have r := opnd_rel ha hx0 hx
      simp only [Rel] at r
      obtain ⟨hD, hv⟩ := r
      obtain ⟨b', hb', hwd, hrel⟩ := hI.dom k hD
      rw [hpGet_eq] at hb
      rw [hb] at hb'
      cases hb'
      have hv' : ∃ A cap, a.eval x = .slice A n cap ∧ n ≤ cap ∧ m ≤ (cap : Int) ∧ (q.toNat - l.toNat = 0 ∨ (c.E k).nil = false ∧ A = some ⟨(c.E k).b, 0, none⟩) := by
        rcases hv with ⟨hnil, e, h0⟩ | ⟨hn, e, hc⟩
        · have hm0 : m ≤ 0 := by
            rcases hbd.2.2.2 with h1 | ⟨hg, h1⟩
            · omega
            · rcases hrel.1 hnil with ⟨_, h2⟩ | ⟨h2, _⟩
              · rw [h2] at h1; simpa using h1
              · rw [h2] at hg; cases hg
          exact ⟨_, _, by rw [e, h0], by omega, by omega, .inl (by omega)⟩
        · refine ⟨_, _, e, hc, ?_, .inr ⟨hn, rfl⟩⟩
          rcases hbd.2.2.2 with h1 | ⟨hg, h1⟩
          · omega
          · obtain ⟨arr, _, _, _, hgr⟩ := hrel.2 hn
            have := (hgr hg).2.1; omega
      obtain ⟨A, cap, hv, hc, hmc, hA⟩ := hv'
      obtain ⟨A', cap', hrun, hc', hA', _⟩ := run_cut ht hk hj A n cap hc (lo.map a.eval) (hi.map a.eval) (mx.map a.eval) l q m (bnd ha hlo hl) (hh3 (bnd ha hhi hq)) (hmn (bnd ha hmx hm)) ⟨hbd.1, hbd.2.1, hbd.2.2.1, hmc⟩ c.w
      refine ⟨_, by simp [execOp, ho, hv, hrun]; rfl, ?_⟩
      simp only [Rel]
      refine ⟨hD, A', cap', rfl, hc', ?_⟩
      rcases hA' with h0 | rfl
      · exact .inl h0
      · rcases hA with h0 | ⟨hn, rfl⟩
        · exact .inl h0
        · exact .inr ⟨hn, by simp [Addr.add_lit, hwd, hw]⟩
  · rename_i k p n hx
    obtain ⟨b, hb, hw, h⟩ := h
    obtain ⟨l, h, hl⟩ := bd_spec h
    obtain ⟨q, h, hq⟩ := bd_spec h
    obtain ⟨m, h, hm⟩ := bd_spec h
    obtain ⟨hbd, h⟩ := h
    refine ⟨_, h.go.go, fun w0 M c a hI ha => ?_⟩
    have r := opnd_rel ha hx0 hx
    simp only [Rel] at r
    obtain ⟨hD, A, cap, hv, hc, hA⟩ := r
    obtain ⟨A', cap', hrun, hc', hA', _⟩ := run_cut ht hk hj A n cap hc (lo.map a.eval) (hi.map a.eval) (mx.map a.eval) l q m (bnd ha hlo hl) (hh3 (bnd ha hhi hq)) (hmn (bnd ha hmx hm)) ⟨hbd.1, hbd.2.1, hbd.2.2.1, by omega⟩ c.w
    refine ⟨_, by simp [execOp, ho, hv, hrun]; rfl, ?_⟩
    simp only [Rel]
    refine ⟨hD, A', cap', rfl, hc', ?_⟩
    rcases hA' with h0 | rfl
    · exact .inl h0
    · rcases hA with rfl | ⟨hn, rfl⟩
      · left; omega
      · right
        obtain ⟨b', hb', hwd, _⟩ := hI.dom k hD
        rw [hpGet_eq] at hb
        rw [hb] at hb'
        cases hb'
        exact ⟨hn, by simp [Addr.add_lit, hwd, hw, Nat.add_mul]⟩
  · rename_i fr wd rows hx
    obtain ⟨hw, h⟩ := h
    obtain ⟨l, h, hl⟩ := bd_spec h
    have h := h.go
    obtain ⟨q, h, hq⟩ := bd_spec h
    obtain ⟨m, h, hm⟩ := bd_spec h
    obtain ⟨hbd, h⟩ := h
    refine ⟨_, h.go, fun w0 M c a hI ha => ?_⟩
    have r := opnd_rel ha hx0 hx
    simp only [Rel] at r
    obtain ⟨A, cap, hv, hc, hA⟩ := r
    obtain ⟨A', cap', hrun, hc', hA', _⟩ := run_cut ht hk hj A rows.length cap hc (lo.map a.eval) (hi.map a.eval) (mx.map a.eval) l q m (bnd ha hlo hl) (hh3 (bnd ha hhi hq)) (hmn (bnd ha hmx hm)) ⟨hbd.1, hbd.2.1, hbd.2.2.1, by omega⟩ c.w
    have hlen : ((rows.take q.toNat).drop l.toNat).length = q.toNat - l.toNat := by
      rw [List.length_drop, List.length_take]
      omega
    refine ⟨_, by simp [execOp, ho, hv, hrun]; rfl, ?_⟩
    simp only [Rel]
    refine ⟨A', cap', by rw [hlen], by rw [hlen]; exact hc', ?_⟩
    rcases hA' with h0 | rfl
    · exact .inl (List.eq_nil_of_length_eq_zero (by omega))
    · rcases hA with rfl | ⟨b, off, rfl, hX, hfr, hR⟩
      · left; simp
      · right
        refine ⟨b, off + l.toNat * wd, by simp [Addr.add_lit, hw], hX, hfr, RelR_drop (RelR_take hR _) _⟩
  · exact h.elim

/-! ### A struct put together -/
def putL {α : Type} (l : List α) (i : Nat) (xs : List α) : List α := l.take i ++ (xs ++ l.drop (i + xs.length))

def Sv.parts : Sv → Option (List Sv)
  | .agg cs => some cs
  | .any => none
  | .tup _ => none
  | s => match s.one with
    | true => some [s]
    | false => none

theorem Rel.parts {s : Sv} {cs : List Sv} {c : Cx} {v : Value} (h : s.parts = some cs) (r : Rel s c v) : ∃ vs : List Value, v.cells = vs.toArray ∧ RelL cs c vs := by
  by_cases ha : ∃ ds, s = .agg ds
  · obtain ⟨ds, rfl⟩ := ha
    simp only [Sv.parts, Option.some.injEq] at h
    subst h
    simp only [Rel] at r
    obtain ⟨vs, rfl, hl⟩ := r
    exact ⟨vs, rfl, hl⟩
  · have hs : s.one = true ∧ cs = [s] := by
      cases s <;> simp only [Sv.parts] at h <;> first
        | (exact absurd ⟨_, rfl⟩ ha)
        | (cases h; done)
        | (split at h <;> first | (cases h; done) | (rename_i h1; exact ⟨h1, by simpa using h.symm⟩))
    obtain ⟨h1, rfl⟩ := hs
    have ho := r.one h1
    refine ⟨[v], ?_, by simp only [RelL]; exact ⟨v, [], rfl, ho, r, rfl⟩⟩
    cases v <;> first | rfl | (simp [Value.oneCell'] at ho)

def fillS (G : Gm) (fs : List (Nat × Nat)) : List Sv → List (Nat × Sv) → (List Sv → Prop) → Prop
  | cells, [], K => K cells
  | cells, (i, x) :: rest, K => Get (nth fs i) fun p => Get (G.tab p.2) fun j => Get x.parts fun xs => Need (xs.length = j.size ∧ p.1 + xs.length ≤ cells.length) (fillS G fs (putL cells p.1 xs) rest K)

theorem RelL_put {cells xs : List Sv} {c : Cx} {vs us : List Value} (h : RelL cells c vs) (hx : RelL xs c us) (i : Nat) : RelL (putL cells i xs) c (putL vs i us) := by
  unfold putL
  rw [← RelL_len xs hx]
  exact RelL_append _ (RelL_take i _ h) (RelL_append _ hx (RelL_drop _ _ h))

theorem fold_set : ∀ (us : List Value) (off i : Nat) (cells : Array Value), off + i + us.length ≤ cells.size →
    ((us.zipIdx i).foldl (fun (cs : Array Value) (x : Value × Nat) => cs.setIfInBounds (off + x.2) x.1) cells).toList = putL cells.toList (off + i) us
  | [], off, i, cells, _ => by simp [putL]
  | u :: us, off, i, cells, h => by
    have hlen : off + (i + 1) + us.length ≤ (cells.setIfInBounds (off + i) u).size := by simp at h ⊢; omega
    have ih := fold_set us off (i + 1) (cells.setIfInBounds (off + i) u) hlen
    simp only [List.zipIdx_cons, List.foldl_cons]
    rw [ih]
    unfold putL
    simp only [Array.toList_setIfInBounds]
    have hi : off + i < cells.toList.length := by simp at h ⊢; omega
    rw [show off + (i + 1) = off + i + 1 by omega]
    have h1 : (cells.toList.set (off + i) u).take (off + i + 1) = cells.toList.take (off + i) ++ [u] := by
      rw [List.take_succ_eq_append_getElem (by simpa using hi)]
      simp [List.take_set_of_le]
    have h2 : (cells.toList.set (off + i) u).drop (off + i + 1 + us.length) = cells.toList.drop (off + i + (us.length + 1)) := by
      rw [List.drop_set_of_lt (by omega)]
      congr 1
      omega
    rw [h1, h2]
    simp

theorem fill_sound {G : Gm} {fs : List (Nat × Nat)} :
    ∀ (parts : List (Nat × Sv)) (cells : List Sv) (K : List Sv → Prop), fillS G fs cells parts K → ∃ cs, K cs ∧ ∀ (places : Array (Nat × Nat)),
      (∀ i p j, nth fs i = some p → G.tab p.2 = some j → places[i]? = some (p.1, j.size)) → ∀ (c : Cx) (vs : List Value) (vparts : List (Nat × Value)), RelL cells c vs →
      vparts.map (·.1) = parts.map (·.1) → (∀ (i n : Nat) (s : Sv) (u : Value), parts[i]? = some (n, s) → vparts[i]? = some (n, u) → Rel s c u) →
      ∃ us : List Value, Instr.fill (fun i => places[i]?) vs.toArray vparts = some us.toArray ∧ RelL cs c us
  | [], cells, K, h => ⟨cells, h, fun places _ c vs vparts hv hm _ => by
      have : vparts = [] := by simpa using hm
      subst this
      exact ⟨vs, rfl, hv⟩⟩
  | (i, x) :: rest, cells, K, h => by
    obtain ⟨p, hp, j, hj, xs, hx, ⟨hl, hb⟩, h⟩ := h
    obtain ⟨cs, hK, ih⟩ := fill_sound rest _ K h
    refine ⟨cs, hK, fun places hpl c vs vparts hv hm hr => ?_⟩
    cases vparts with
    | nil => simp at hm
    | cons q vrest =>
      obtain ⟨n, u⟩ := q
      simp only [List.map_cons, List.cons.injEq] at hm
      obtain ⟨rfl, hm⟩ := hm
      have hu := hr 0 n x u rfl rfl
      obtain ⟨us, hus, hul⟩ := hu.parts hx
      have hlu := RelL_len _ hul
      have hlv := RelL_len _ hv
      obtain ⟨ws, hw, hwl⟩ := ih places hpl c (putL vs p.1 us) vrest (RelL_put hv hul p.1) hm (fun i n s u h1 h2 => hr (i + 1) n s u h1 h2)
      refine ⟨ws, ?_, hwl⟩
      have hpp := hpl n p j hp hj
      simp only [Instr.fill, hpp, hus]
      rw [if_neg (by simp; omega)]
      have := fold_set us p.1 0 vs.toArray (by simp; omega)
      rw [← hw]
      congr 1
      apply Array.ext'
      simpa using this

def buildV (G : Gm) (tm : List Sv) (t : Nat) (parts : Array (Nat × Operand)) (K : Sv → Prop) : Prop :=
  Get (G.tab t) fun i => match i.kind with
    | .struct fs => Need (fs.all (fun p => (G.tab p.2).isSome) = true) <| Need (i.zero.all Value.oneCell' = true) <|
        fillS G fs (i.zero.map .val) (parts.toList.map fun p => (p.1, evO tm p.2)) fun cs => K (.agg cs)
    | _ => False

theorem RelL_vals (c : Cx) : ∀ (vs : List Value), (∀ v ∈ vs, v.oneCell' = true) → RelL (vs.map .val) c vs
  | [], _ => by simp [RelL]
  | v :: vs, h => by
    simp only [List.map_cons, RelL]
    exact ⟨v, vs, rfl, h v (by simp), by simp [Rel], RelL_vals c vs fun u hu => h u (by simp [hu])⟩

theorem TIok.run_zero {P : Program} {t : Nat} {i : TI} (h : TIok P t i) (w : World) : ∃ z : Value, (zeroValue t).run P w = .ok z w ∧ z.cells = i.zero.toArray := by
  obtain ⟨I, hI, _, _, z, hz, hc⟩ := h.info
  exact ⟨z, by simp [zeroValue, typeInfo, hI, hz], hc⟩

theorem run_places {G : Gm} (w : World) : ∀ (F : List Field), (∀ f ∈ F, (G.tab f.type).isSome = true) →
    ∃ ps : List (Nat × Nat), (F.mapM (fun f => (do pure (f.offset, ← sizeOf f.type) : Sem (Nat × Nat)))).run G.P w = .ok ps w ∧ ∀ i p j, nth (F.map (fun f => (f.offset, f.type))) i = some p → G.tab p.2 = some j → ps[i]? = some (p.1, j.size)
  | [], _ => ⟨[], by simp, fun i p j h => by simp [nth] at h⟩
  | f :: F, h => by
    obtain ⟨ps, hr, hp⟩ := run_places w F fun g hg => h g (by simp [hg])
    obtain ⟨j, hj⟩ := Option.isSome_iff_exists.1 (h f (by simp))
    refine ⟨(f.offset, j.size) :: ps, ?_, fun i p j' hi hj' => ?_⟩
    · simp only [List.mapM_cons, Sem.run_bind, (G.ok f.type j hj).run_sizeOf, Result.andThen_ok, Sem.run_pure]
      rw [hr]
      simp
    · cases i with
      | zero => simp [nth] at hi; subst hi; simp only at hj'; rw [hj] at hj'; cases hj'; rfl
      | succ i => exact hp i p j' (by simpa [nth] using hi) hj'

theorem buildV_sound {t : Nat} {parts : Array (Nat × Operand)} {K : Sv → Prop} (ho : o.op = .build t parts) (h : buildV G tm t parts K) : ∃ s, K s ∧ PureS G.P o tm hp s := by
  obtain ⟨i, hi, h⟩ := h
  have ht := G.ok t i hi
  split at h
  · rename_i fs hk
    obtain ⟨hall, hone, h⟩ := h
    obtain ⟨d, hd, hf⟩ := ht.desc
    rw [hk] at hf
    obtain ⟨F, rfl, hF⟩ := hf
    have hsome : ∀ f ∈ F.toList, (G.tab f.type).isSome = true := by
      intro f hf
      rw [List.all_eq_true] at hall
      exact hall (f.offset, f.type) (by rw [← hF]; exact List.mem_map.2 ⟨f, hf, rfl⟩)
    have hps' : ∀ w : World, ∃ qs : List (Nat × Nat), (F.mapM (fun f => (do pure (f.offset, ← sizeOf f.type) : Sem (Nat × Nat)))).run G.P w = .ok qs.toArray w ∧ ∀ i p j, nth fs i = some p → G.tab p.2 = some j → qs.toArray[i]? = some (p.1, j.size) := by
      intro w
      obtain ⟨qs, hq, hql⟩ := run_places (G := G) w F.toList hsome
      refine ⟨qs, ?_, fun i p j h1 h2 => by simpa using hql i p j (by rw [hF]; exact h1) h2⟩
      rw [Array.mapM_eq_mapM_toList]
      simp only [Sem.run_map, hq, Result.andThen_ok]
    obtain ⟨cs, hK, hfill⟩ := fill_sound _ _ _ h
    refine ⟨_, hK, fun w0 M c a hI ha => ?_⟩
    obtain ⟨qs, hq, hql⟩ := hps' c.w
    obtain ⟨z, hz, hzc⟩ := ht.run_zero c.w
    rw [List.all_eq_true] at hone
    obtain ⟨us, hus, hul⟩ := hfill qs.toArray hql c i.zero ((parts.map fun p => (p.1, a.eval p.2)).toList) (RelL_vals c _ hone) (by simp) (fun m n s u h1 h2 => by
      simp only [List.getElem?_map, Array.toList_map, Option.map_eq_some_iff] at h1 h2
      obtain ⟨q, hq1, hq2⟩ := h1
      obtain ⟨q', hq1', hq2'⟩ := h2
      rw [hq1] at hq1'
      cases hq1'
      cases hq2
      cases hq2'
      exact ha _ (by rw [ho]; simp only [Op.operands]; simp; exact ⟨q.1, by have := List.mem_of_getElem? hq1; simpa using this⟩))
    refine ⟨.agg us.toArray, ?_, by simp only [Rel]; exact ⟨us, rfl, hul⟩⟩
    simp only [Array.toList_map, List.getElem?_toArray] at hus
    have hq' : (F.mapM (fun f => Prod.mk f.offset <$> sizeOf f.type)).run G.P c.w = .ok qs.toArray c.w := by simpa using hq
    simp [execOp, ho, Instr.build, hz, run_underlying hd, hq', hzc, hus]
  · exact h.elim

/-! ### The lesser and the greater one -/
def mmV (mx : Bool) (x y : Sv) (K : Sv → Prop) : Prop :=
  match x, y with
  | .val (.int k a), .val (.int _ b) => match mx with
    | true => EqK (if b > a then b else a) fun n => K (.val (.int k n))
    | false => EqK (if b < a then b else a) fun n => K (.val (.int k n))
  | _, _ => False
theorem mmV_sound {mx : Bool} {x y : Operand} {tys : Array TypeId} {K : Sv → Prop} (ho : o.op = .call { callee := .builtin (if mx then .max else .min), args := #[x, y], argTypes := tys }) (h : mmV mx (evO tm x) (evO tm y) K) : ∃ s, K s ∧ PureS G.P o tm hp s := by
  unfold mmV at h
  split at h
  · rename_i k a k' b hx hy
    have hx0 : x ∈ o.op.operands := by rw [ho]; simp [Op.operands, Call.operands]
    have hy0 : y ∈ o.op.operands := by rw [ho]; simp [Op.operands, Call.operands]
    cases mx with
    | true =>
      refine ⟨_, h.go, fun w0 M c ac hI ha => ⟨_, ?_, rfl⟩⟩
      have r1 := opnd_rel ha hx0 hx
      have r2 := opnd_rel ha hy0 hy
      simp only [Rel] at r1 r2
      simp [execOp, ho, resolve, invoke, builtin, r1, r2, Builtin.max_, Builtin.max2]
    | false =>
      refine ⟨_, h.go, fun w0 M c ac hI ha => ⟨_, ?_, rfl⟩⟩
      have r1 := opnd_rel ha hx0 hx
      have r2 := opnd_rel ha hy0 hy
      simp only [Rel] at r1 r2
      simp [execOp, ho, resolve, invoke, builtin, r1, r2, Builtin.min_, Builtin.min2]
  · exact h.elim
end
end Go.Eng
