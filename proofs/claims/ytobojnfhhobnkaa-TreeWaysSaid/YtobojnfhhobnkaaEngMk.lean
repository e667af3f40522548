/- The engine, part Mk: make of a slice. -/
import Derived.Test.YtobojnfhhobnkaaEngX
import Derived.Laws.MakeOwn
set_option linter.unusedSimpArgs false
set_option maxRecDepth 20000
set_option linter.unusedVariables false
namespace Go.Eng
open Go Go.RowKit
section
variable {G : Gm} {tm : List Sv} {hp : Hp} {o : Oper}
def makeV (G : Gm) (hp : Hp) (t : Nat) (l m : Sv) (K : Sv → Blk → Prop) : Prop :=
  Get (G.tab t) fun i => match i.kind, l, m with
  | .slice e, .val (.int _ l), .val (.int _ m) => Get (G.tab e) fun j => Need (j.size ≠ 0 ∧ j.zero.length = j.size ∧ j.zero.all Value.oneCell' = true) <|
      Need (0 ≤ l ∧ l = m ∧ (j.bytes : Int) * m ≤ 281474976710656 ∧ m ≤ 9223372036854775807) <| EqK l.toNat fun n => K (.own hp.length n) ⟨e, j.size, true, true, List.replicate n (j.zero.map Sv.val)⟩
  | _, _, _ => False
theorem makeV_sound {t : Nat} {l m : Operand} {K : Sv → Blk → Prop} (ho : o.op = .makeSlice t l m) (h : makeV G hp t (evO tm l) (evO tm m) K) : ∃ s b, K s b ∧ EStep G.P o tm hp s [b] [] := by
  obtain ⟨i, hi, h⟩ := h
  have ht := G.ok t i hi
  split at h
  case h_2 => exact h.elim
  rename_i e kl li km mi hk hl hm
  obtain ⟨j, hj, ⟨h0, hz0, hone⟩, ⟨p1, p2, p3, p4⟩, n, hn, h⟩ := h
  have hje := G.ok e j hj
  refine ⟨_, _, h, estep_new (by rw [ho]; simp) fun w0 M c a hI ha => ?_⟩
  obtain ⟨d, hd, hft⟩ := ht.desc
  rw [hk] at hft
  simp only [TK.fits] at hft
  subst hft
  obtain ⟨I, hJ, hIs, hIb, z, hIz, hzc⟩ := hje.info
  have hvl : a.eval l = .int kl li := by
    have := ha l (by rw [ho]; simp [Op.operands])
    rw [hl] at this
    simpa [Rel] using this
  have hvm : a.eval m = .int km mi := by
    have := ha m (by rw [ho]; simp [Op.operands])
    rw [hm] at this
    simpa [Rel] using this
  subst p2
  have hr := run_make c.w t e I z hd hJ hIz kl km li li p1 (Int.le_refl _) (by rw [hIb]; exact p3) p4
  rw [List.all_eq_true] at hone
  have hcells : madeCells z.cells (li.toNat * I.size) = (List.replicate n j.zero).flatten.toArray := by
    apply Array.ext'
    have := zeros_eq j.zero n (by omega)
    unfold madeCells
    rw [hzc, hIs, hn, ← this, hz0]
    simp [hz0]
  rw [hcells, hn] at hr
  have hrel : ∀ k, RelL (List.replicate k (j.zero.map Sv.val)).flatten c.shut (List.replicate k j.zero).flatten := by
    intro k
    induction k with
    | zero => simp [RelL]
    | succ k ih => simp only [List.replicate_succ, List.flatten_cons]; exact RelL_append _ (RelL_vals c.shut _ hone) ih
  have hfl : (List.replicate n j.zero).flatten.length = n * j.size := by simp [hz0]
  refine ⟨.slice (some ⟨c.w.heap.size, 0, none⟩) n n, ⟨c.w.heap.size, n, false, j.size⟩, c.w.alloc (.cells (List.replicate n j.zero).flatten.toArray e), ?_, WGrow.alloc _ _, ⟨rfl, Nat.le_refl _⟩, ?_, ?_⟩
  · simp [execOp, ho, hvl, hvm, hr]
  · refine BlkRel.new hI (fun r hr => by rw [List.eq_of_mem_replicate hr]; simpa using hz0) ?_ (by rw [hfl]; simp) (fun _ => ⟨by rw [hfl]; exact Nat.le_refl _, by simp, by unfold maxLen; omega⟩)
    rw [List.take_of_length_le (by rw [hfl]; simp)]
    exact hrel n
  · simp only [Rel, putE]
    exact ⟨.inr rfl, .inr ⟨trivial, trivial, Nat.le_refl _⟩⟩
end
end Go.Eng
