/- slices.Sort; New; the law TreeChecks. -/
import Derived.Test.YtiklbnianbejdaaTree2
import Derived.Test.YtiklbnianbejdaaLaySort
set_option linter.unusedSimpArgs false
set_option maxRecDepth 20000
set_option linter.unusedVariables false
/- slices.Sort at int: the shelf's contract, as one of the engine's. -/
namespace Go.Proofs.Ytiklbnianbejdaa
open Go Go.Eng Go.RowKit Go.Sort

theorem ends_ints {w0 : World} {M : Frm} {c : Cx} {l : List Int} (hI : Inv w0 M c [some (intB l)]) (hD : c.D 0) (hxk : ∀ b, ¬ M.Xk b) (hm : M.m = 1) : Go.Eng.Ends w0 M { c with X := fun b => c.X b ∧ M.G b } c.w (.tuple #[]) (.tup []) [some (intB l)] := by
  have hlt : ∀ k, c.D k → k = 0 := fun k hk => by
    obtain ⟨blk, hb, _⟩ := hI.dom k hk
    have := (List.getElem?_eq_some_iff.1 hb).1
    simp at this
    exact this
  refine { weq := rfl, inv := ?_, full := fun k b hb => ?_, x := fun b hb => hb.2, rel := ⟨[], rfl, rfl⟩ }
  · exact {
      dom := fun k hk => by
        obtain ⟨blk, hb, r⟩ := hI.dom k hk
        have h0 := hlt k hk
        subst h0
        cases hb
        refine ⟨_, rfl, r.1, r.2.1, fun hn => ?_⟩
        obtain ⟨arr, h1, h2, h3⟩ := r.2.2 hn
        exact ⟨arr, h1, RelR_ints.2 ((RelR_ints (c := c.shut)).1 h2), h3⟩
      inj := hI.inj
      xsep := fun k b h hn hb => hI.xsep k b h hn hb.1
      xlt := fun b hb => hI.xlt b hb.1
      xY := fun b hb => hI.xY b hb.1
      bnd := hI.bnd, bndG := hI.bndG, e0 := hI.e0, mlen := hI.mlen, os := hI.os, tape := hI.tape, output := hI.output, size := hI.size, keep := hI.keep, loc := hI.loc
      x0 := fun b hb => hI.x0 b hb.1
      ca := fun b hb => ⟨(hI.ca b hb).1, fun hx => (hI.ca b hb).2.1 hx.1, (hI.ca b hb).2.2⟩
      cc := hI.cc
      gh := fun k blk h hb hn hg => by
        have h0 := hlt k h
        subst h0
        cases hb
        cases hg
      zc := fun b hb => ⟨(hI.zc b hb).1, (hI.zc b hb).2.1, fun hx => (hI.zc b hb).2.2 hx.1⟩
      z0 := hI.z0
      xk := fun b hb => (hxk b hb).elim }
  · have := (List.getElem?_eq_some_iff.1 hb).1
    simp at this
    subst this
    exact hD
theorem flat_ints : ∀ l : List Int, (Go.Eng.intR l).flatten = (l.map (Value.int .i64)).map .val
  | [] => rfl
  | z :: l => by
    have := flat_ints l
    simp only [Go.Eng.intR, List.map_cons, List.flatten_cons] at this ⊢
    rw [this]; rfl
theorem sort_nil : sortI [] = [] := by simp [sortI]
theorem sort_ok : SortOk := by
  intro l hl
  refine ⟨⟨_, Try.func34, rfl, rfl⟩, fun w M c vs hcw hMm hxk hI hfull hargs => ?_⟩
  subst hcw
  have hD := hfull 0 _ rfl
  obtain ⟨blk, hb, rel⟩ := hI.dom 0 hD
  cases hb
  simp only [RelT] at hargs
  obtain ⟨v, us, rfl, hr, rfl⟩ := hargs
  simp only [Rel] at hr
  obtain ⟨_, hr⟩ := hr
  rcases hr with ⟨hn, rfl, h0⟩ | ⟨hn, rfl, hc⟩
  · have : l = [] := List.length_eq_zero_iff.1 h0
    subst this
    refine (Any.slices_Sort_int_none Try.lays189 none 0 c.w).mono fun e w' ⟨he, hw⟩ => ?_
    subst hw
    exact ⟨.tuple #[], _, .tup [], _, he, ⟨rfl, by rw [sort_nil]⟩, ends_ints hI hD hxk hMm⟩
  · obtain ⟨arr, h1, h2, h3, h4⟩ := rel.2.2 hn
    have h2 : IntsAt c.w (c.E 0).b l := (RelR_ints (c := c.shut)).1 h2
    have hH : Holds (Value.int .i64) c.w (c.E 0).b 0 l.toArray := fun j hj => by
      have hj' : j < l.length := by simpa using hj
      refine ⟨?_, ?_⟩
      · rw [Nat.zero_add, h2 j l[j] (List.getElem?_eq_getElem hj')]
        simp [hj']
      · show World.frozen? _ _ = false
        unfold World.frozen?
        rw [h1]
        simp
    have hsl := sortI_len l
    obtain ⟨arr1, arr', g1, g2, _, g3, g4⟩ := hI.storeRows (k := 0) (lo := 0) (b := intB l) (news := intR (sortI l)) (vs := (sortI l).map (Value.int .i64)) hD hn rfl rfl (fun r hr => by
      simp only [intR, List.mem_map] at hr
      obtain ⟨z, _, rfl⟩ := hr
      rfl) (by
      rw [show (Go.Eng.intR (sortI l)).flatten = ((sortI l).map (Value.int .i64)).map .val from flat_ints _]
      exact RelL_vals _ _ fun v hv => by
        obtain ⟨z, _, rfl⟩ := List.mem_map.1 hv
        rfl) (by simp [intB, mkB, intR, hsl]) Try.prog
    have harr : arr1 = arr := by rw [g1] at h1; cases h1; rfl
    subst harr
    have hblk : (c.E 0).b < c.w.heap.size := (Array.getElem?_eq_some_iff.1 h1).1
    refine (Any.slices_Sort_int Try.lays189 (c.E 0).b 0 (c.E 0).cap l c.w hH hblk (by omega)).mono fun e w' ⟨he, n, os, hw⟩ => ?_
    have hput : putL (intB l).rows 0 (Go.Eng.intR (sortI l)) = (intB (sortI l)).rows := by
      unfold putL
      simp [intB, mkB, intR, Go.Eng.intR, hsl]
    have hI2 : Inv c.w M { c with w := c.w.setRow (c.E 0).b arr' } [some (intB (sortI l))] := by
      have := g3
      rw [hput] at this
      exact this
    have hcells : putCells (Value.int .i64) 0 (sortI l).toArray arr1 = arr' := by
      refine Array.ext_getElem? fun j => ?_
      rw [← g2]
      unfold putCells
      have h5 : l.length ≤ arr1.size := by simpa [intB, mkB, intR] using h3
      rw [Array.getElem?_mapIdx]
      by_cases hj : j < l.length
      · have hj2 : j < arr1.size := by omega
        simp [hj, hj2, hsl, List.getElem?_append_left]
        done
      · simp only [hsl, List.size_toArray, Nat.zero_add, hj, and_false, if_false]
        simp only [List.getElem?_toArray, Nat.zero_mul, List.take_zero, List.nil_append, List.length_map, hsl, Nat.zero_add]
        rw [List.getElem?_append_right (by simpa [hsl] using hj), List.length_map, hsl, List.getElem?_drop, show l.length + (j - l.length) = j by omega]
        simp
    have hg : WGrow (c.w.setRow (c.E 0).b arr') w' := by
      subst hw
      have hh : ∀ j, j < c.w.heap.size → (grow (putRow (Value.int .i64) (Sort.ahead c.w n) (c.E 0).b 0 (sortI l).toArray) os).heap[j]? = (c.w.setRow (c.E 0).b arr').heap[j]? := fun j hj => by
        unfold grow putRow mapBlock Sort.ahead
        simp only
        rw [Array.getElem?_append_left (by simpa using hj)]
        by_cases hjb : (c.E 0).b = j
        · subst hjb
          rw [setRow_heap _ _ _ _ _ _ h1, Array.getElem?_modify, if_pos rfl, h1]
          simp only [Option.map_some, onCells, hcells]
        · rw [setRow_other _ _ _ _ (fun e => hjb e.symm), Array.getElem?_modify, if_neg hjb]
      have hsz : (c.w.setRow (c.E 0).b arr').heap.size = c.w.heap.size := by simp [World.setRow]
      refine ⟨rfl, rfl, rfl, ?_, fun j hj => hh j (by omega)⟩
      rw [hsz]
      simp [grow, putRow, mapBlock, Sort.ahead]
    have hI3 := hI2.grow hg
    exact ⟨.tuple #[], _, .tup [], _, he, ⟨rfl, rfl⟩, ends_ints hI3 hD hxk hMm⟩
end Go.Proofs.Ytiklbnianbejdaa

/- tree.New's answer; what a tree must do; the law TreeChecks. -/
namespace Go.Proofs.Ytiklbnianbejdaa
open Go Go.Eng Go.RowKit

/-- The lists of the neighbours, rising. -/
def nearOf (ps : List Int) : List (List Int) := (nwL ps ps.length).map sortI
theorem nearOf_length (ps : List Int) : (nearOf ps).length = ps.length := by simp [nearOf, nwL_length]
theorem new_ok (f : Bool) (ps : List Int) (h : Tr1 ps) : PCon Try.prog 12 [intX f ps] (.tup [treeX true ps (nearOf ps), I 0]) [] := new_pcon sort_ok f ps h
theorem new_bad (f : Bool) (ps : List Int) (hl : ps.length < 9223372036854775808) (h : (checkS ps).2 ≠ 0) : PCon Try.prog 12 [intX f ps] (.tup [treeN, I (checkS ps).2]) [] := by
  refine pcon_of (G := gm) Try.func12 rfl rfl rfl ?_
  have hc := check_pcon f ps hl
  generalize checkS ps = r at hc h
  obtain ⟨r1, r2⟩ := r
  repeat' (conv => whnf
           first
           | (refine get_id ?_; first | refine Get.mk _ rfl ?_)
           | (refine need_id ?_; first | refine Need.a ?_)
           | (refine eqk_id ?_; first | refine EqK.a ?_)
           | (refine br_id ?_; first | refine Br.t ?_ | refine Br.f ?_ | (refine Br.pos ?_ ?_; focus (with_reducible assumption)) | (refine Br.neg ?_ ?_; focus (with_reducible assumption)) | (refine Br.dpos ?_ ?_; focus (first | with_reducible exact rfl | with_reducible exact Int.le_refl _ | with_reducible assumption)) | (refine Br.dneg ?_ ?_; focus (with_reducible assumption)) | (refine Br.d (fun _ => ?_) (fun _ => ?_) <;> (first | (exfalso; omega; done) | skip)) | refine Br.n ?_ | (refine Br.s (fun _ => ?_) (fun _ => ?_) <;> (first | (exfalso; omega; done) | skip)) | (refine Br.mk (fun _ => ?_) (fun _ => ?_) <;> (first | (exfalso; omega; done) | skip)))
           | (refine regv_id ?_; first | refine RegV.d ?_)
           | refine NilB.mk (fun b hb => ?_)
           | (refine alv_and ?_ ?_; focus (first | rfl | done))
           | refine DrawV.mk [] ?_
           | (refine appc_id ?_; first | refine AppC.growA ?_ | refine AppC.place ?_)
           | (refine call_id ?_; first
                | refine CallV.c (hc) ?_
                | refine CallV.e (hc) ?_)
           | (refine calls_id ?_; first
                | refine CallS.c (hc) ?_
                | refine CallS.e (hc) ?_))
  all_goals (try (conv => whnf))
  exact RetM.mk [] [] (.tup [treeN, I r2]) [] List.nodup_nil rfl rfl (by (repeat' (first | exact trivial | exact rfl | with_reducible assumption | (refine And.intro ?_ ?_) | (refine Exists.intro _ (And.intro rfl ?_)) | (refine Exists.intro _ (Exists.intro _ (And.intro rfl (And.intro rfl ?_)))) | (refine Or.inl ⟨rfl, rfl, ?_⟩) | (refine Or.inl ⟨rfl, ?_⟩; focus (fail_if_success (refine And.intro ?_ ?_))) | (refine Or.inl (?_ : (_ : Nat) = _ ∧ _); refine ⟨?_, ?_⟩; focus (first | (simp only [List.length_map]; done) | (simp only [List.length_map, List.length_append, List.length_cons, List.length_nil]; done))) | exact Or.inl rfl | (refine Or.inr (Or.inr ⟨?_, ?_⟩)) | (refine Or.inr ⟨?_, ?_⟩) | (refine fun h => ?_; first | exact h | exact rfl | (cases h; done)) | (refine om8 ?_; simp only [← List.map_drop, ← List.map_take]; exact rfl) | ((first | refine om1 ?_ | refine om2 ?_ | refine om3 ?_ | refine om4 ?_ | refine om5 ?_ | refine om6 ?_ | refine om7 ?_); first | (simp only [List.length_map]; done) | (simp only [List.length_map]; omega) | omega)))) (by simp [Sv.Fr, Sv.Fr.go]) trivial ⟨rfl, rfl⟩
def p0 : List Int := [-1, 0, 0, 1]
theorem p0_tr : Tr1 p0 := (tr1_iff p0).1 (by decide)
end Go.Proofs.Ytiklbnianbejdaa
