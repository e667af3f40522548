/- state: Meant, own, edges, Open; the reference's Meant and Open. -/
import Derived.Test.YtiklbnianbejdaaSt1
set_option linter.unusedSimpArgs false
set_option maxRecDepth 20000
set_option linter.unusedVariables false
namespace Go.Proofs.Ytiklbnianbejdaa
open Go Go.Eng Go.RowKit

def meantB (n k : Int) (m : Hf.Msg) : Bool := decide (m.obj ≥ 0) && decide (m.obj < k) && Hf.inB m.node 0 (n - 1) && Hf.inB m.whr 0 (n - 1)
theorem meant_pcon (f : Bool) (ps : List Int) (L : List (List Int)) (k : Int) (m : Hf.Msg) (hl : ps.length < 9223372036854775808) : PCon Try.prog 20 [treeX f ps L, I k, .agg m.row] (Bo (meantB ps.length k m)) [] := by
  refine pcon_of (G := gm) Try.func20 rfl rfl rfl ?_
  refine W.c3 (size_pcon f ps L) (swithin_pcon m.node 0 (ps.length - 1)) (swithin_pcon m.whr 0 (ps.length - 1)) ?_
  exact RetP.v rfl
theorem meantN_pcon (k : Int) (m : Hf.Msg) : PCon Try.prog 20 [treeN, I k, .agg m.row] (Bo false) [] := by
  refine pcon_of (G := gm) Try.func20 rfl rfl rfl ?_
  refine W.c3 sizeN_pcon (swithin_pcon m.node 0 (-1)) (swithin_pcon m.whr 0 (-1)) ?_
  refine RetP.v (congrArg Value.bool ?_)
  have : Hf.inB m.node 0 (-1) = false := by unfold Hf.inB; simp; omega
  rw [this]
  simp
theorem refmeant_pcon (n k : Int) (m : Hf.Msg) : PCon Try.prog 21 [I n, I k, .agg m.row] (Bo (meantB n k m)) [] := by
  refine pcon_of (G := gm) Try.func21 rfl rfl rfl ?_
  refine W.go ?_
  refine RetP.v (congrArg Value.bool ?_)
  unfold meantB Hf.inB
  rw [Bool.eq_iff_iff]
  simp
  omega
/-! ### Open -/
/-- How many acquires are open; the machine's sum. -/
def opS (l : List Ow) : Nat → Int
  | 0 => 0
  | i + 1 => IntKind.i64.wrap (opS l i + Ch.openS (l.getD i ⟨0, 0, []⟩).cells)
theorem getDo {α : Type} {l : List α} {j : Nat} (d : α) (h : j < l.length) : l.getD j d = l[j] := by simp [h]
set_option maxHeartbeats 1000000 in
theorem sopen_pcon (f : Bool) (s : Sta) (h : s.sz) : PCon Try.prog 17 [.agg (s.row f)] (I (opS s.objs s.objs.length)) [] := by
  refine pcon_of (G := gm) Try.func17 rfl rfl rfl ?_
  obtain ⟨me, objs, edges, asked, asks, got⟩ := s
  obtain ⟨h1, h2, -, -, -, -⟩ := h
  dsimp only at h1 h2
  refine W.go ?_
  refine LoopV.on (σ := Nat) rfl (fun i => [(3, I (opS objs i)), (7, .ext f 3 (objs.map (Ow.row f))), (8, I objs.length), (9, I i)]) (fun _ => []) (fun i => i ≤ objs.length) (fun i => objs.length - i) 0 (AtS.v [] []) (Nat.zero_le _) ?_
  intro i hi
  rcases Nat.lt_or_ge i objs.length with him | him
  · have hg := rows_get (Ow.row f) objs (Int.toNat_natCast i) him
    have ho := Ch.open_pcon f objs[i].cells (by have := h2 _ (List.getElem_mem him); omega)
    have hs : opS objs (i + 1) = IntKind.i64.wrap (opS objs i + Ch.openS objs[i].cells) := by rw [opS, getDo _ him]
    generalize objs[i] = o at *
    obtain ⟨oa, om, oc⟩ := o
    dsimp only at ho hs
    generalize Ch.openS oc = x at *
    generalize opS objs i = y at *
    refine W.c2 hg ho ?_
    refine nx (i + 1) (by omega) (by omega) ?_
    rw [hs]
    exact AtS.v [] []
  · have e : i = objs.length := by omega
    subst e
    refine W.go ?_
    exact RetP.v rfl
/-! ### own -/
def lastB (o : Ow) : Bool := decide (o.cells.length = 0) || decide ((o.cells.getD (o.cells.length - 1) default).num ≤ o.made)
/-- Whether this can be what a node knows of an object. -/
def ownB (ps : List Int) (me : Int) (o : Ow) : Bool :=
  !(o.arrow != me && !(nbr ps me).contains o.arrow || !Hf.inB o.made 0 1099511627776 || !Ch.goodC o.cells me (o.arrow == me)) && (o.cells.all (fun c => decide (c.node < ps.length)) && lastB o)
theorem cell_dget (cs : List Ch.Cell) {n : Nat} (k : Nat) (hn : n = k) (h : k < cs.length) : nth (cs.map Ch.Cell.row) n = some (Ch.Cell.row (cs.getD k default)) := by
  rw [rows_get _ cs hn h, getDo _ h]
set_option maxHeartbeats 2000000 in
theorem own_pcon (f : Bool) (ps : List Int) (me : Int) (o : Ow) (h : Tr1 ps) (ho : o.cells.length * 32 ≤ 140737488351232) : PCon Try.prog 39 [treeX true ps (nearOf ps), I me, .agg (o.row f)] (Bo (ownB ps me o)) [] := by
  refine pcon_of (G := gm) Try.func39 rfl rfl rfl ?_
  have hle := h.le
  obtain ⟨oa, om, oc⟩ := o
  dsimp only at ho
  have c1 := PCon.x (neighAll_pcon ps me h) (by simp) (int_fr _)
  have c2 := contains_pcon true (nbr ps me) oa (by unfold nbr; split; have := nearTo_le ps me.toNat ps.length; omega; simp)
  have c3 := swithin_pcon om 0 1099511627776
  have c4 := Ch.good_pcon f oc me (oa == me) (by omega)
  have cs := size_pcon true ps (nearOf ps)
  unfold ownB lastB
  dsimp only
  generalize (nbr ps me).contains oa = b1 at *
  generalize Hf.inB om 0 1099511627776 = b2 at *
  generalize Ch.goodC oc me (oa == me) = b3 at *
  generalize nbr ps me = N at *
  generalize nearOf ps = L at *
  refine W.c4 c1 c2 c3 c4 ?_
  refine Br.mk (fun hb => ?_) (fun hb => ?_)
  · rw [hb]
    refine W.go ?_
    exact RetP.v rfl
  rw [hb]
  clear hb c1 c2 c3 c4
  rw [Bool.not_false, Bool.true_and]
  refine W.go ?_
  refine LoopV.on (σ := Nat) rfl (fun i => [(0, treeX true ps L), (1, I me), (5, .ptr 0 0 0), (41, Ch.cellX f oc), (42, I oc.length), (43, I i)]) (fun _ => [some ⟨55, 3, false, false, [[I oa, I om, Ch.cellX f oc]]⟩]) (fun i => i ≤ oc.length ∧ ∀ j (hj : j < oc.length), j < i → (fun c : Ch.Cell => decide (c.node < ps.length)) oc[j] = true) (fun i => oc.length - i) 0 (AtS.v [] [0]) ⟨Nat.zero_le _, by simp⟩ ?_
  rintro i ⟨hi, hok⟩
  rcases Nat.lt_or_ge i oc.length with him | him
  · have hg := rows_get Ch.Cell.row oc (Int.toNat_natCast i) him
    have hmore := all_more (p := fun c : Ch.Cell => decide (c.node < ps.length)) him hok
    have hno := all_no (p := fun c : Ch.Cell => decide (c.node < ps.length)) him
    clear hok
    by_cases hc : oc[i].node < ps.length
    · replace hmore := hmore (by simpa using hc)
      clear hno
      generalize oc[i] = c at *
      refine W.c2 hg cs ?_
      exact nx (i + 1) (by omega) ⟨by omega, hmore⟩ (AtS.v [] [0])
    · rw [hno (by simpa using hc)]
      clear hmore hno
      generalize oc[i] = c at *
      refine W.c2 hg cs ?_
      exact RetP.v rfl
  · rw [all_yes (p := fun c : Ch.Cell => decide (c.node < ps.length)) fun j hj => hok j hj (by omega)]
    have e : i = oc.length := by omega
    subst e
    clear hok
    rw [Bool.true_and]
    rcases Nat.eq_zero_or_pos oc.length with h0 | h0
    · refine W.d0 ?_
      exact RetP.v (congrArg Value.bool (by simp [h0]))
    · have hg := cell_dget oc (n := ((oc.length : Int) - 1).toNat) (oc.length - 1) (by omega) (by omega)
      generalize oc.getD (oc.length - 1) default = c at *
      refine W.d1 hg ?_
      have h00 : decide (oc.length = 0) = false := decide_eq_false (by omega)
      exact RetP.v (congrArg Value.bool (by rw [h00]; rfl))
/-! ### edges -/
/-- Whether this can be a side of the edge to a neighbour, over n nodes and k objects. -/
def edB (n k : Int) (v : Int) (e : Hf.Edge) : Bool := decide (e.peer = v) && (e.good && e.out.all (meantB n k))
def edAt (n k : Int) (N : List Int) (E : List Hf.Edge) (i : Nat) : Bool := edB n k (N.getD i 0) (E.getD i Hf.Edge.zero)
theorem allr_no {p : Nat → Bool} {n i : Nat} (hi : i < n) (h : p i = false) : (List.range n).all p = false := by
  rw [List.all_eq_false]; exact ⟨i, by simpa using hi, by simp [h]⟩
theorem allr_yes {p : Nat → Bool} {n : Nat} (h : ∀ j, j < n → p j = true) : (List.range n).all p = true := by
  rw [List.all_eq_true]; exact fun x hx => h x (by simpa using hx)
theorem upto_more {p : Nat → Bool} {i : Nat} (h : ∀ j, j < i → p j = true) (h1 : p i = true) : ∀ j, j < i + 1 → p j = true := fun j hj => by
  rcases Nat.lt_or_ge j i with h2 | h2
  · exact h j h2
  · rw [show j = i by omega]; exact h1
def edsB (ps : List Int) (s : Sta) : Bool := decide ((nbr ps s.me).length = s.edges.length) && (List.range s.edges.length).all (edAt ps.length s.objs.length (nbr ps s.me) s.edges)
theorem notmeant_pcon (f g : Bool) (ps : List Int) (L : List (List Int)) (s : Sta) (m : Hf.Msg) (hl : ps.length < 9223372036854775808) (hs : s.objs.length < 9223372036854775808) : PCon Try.prog 69 [.agg m.row, .ref false [treeX f ps L], .ref false (s.row g)] (Bo (!meantB ps.length s.objs.length m)) [] := by
  refine pcon_of (G := gm) Try.func69 rfl rfl rfl ?_
  obtain ⟨me, objs, edges, asked, asks, got⟩ := s
  have cm := meant_pcon f ps L objs.length m hl
  dsimp only at hs ⊢
  generalize meantB ps.length objs.length m = b at *
  refine W.c1 cm ?_
  exact RetP.v rfl
theorem msgindexf_pcon (p : Hf.Msg → Bool) (f : Nat) (t u : List Sv) (fr : Bool) (ms : List Hf.Msg) (h : ms.length * 40 ≤ 140737488355328) (hf : ∀ m : Hf.Msg, PCon Try.prog f [.agg m.row, .ref false t, .ref false u] (Bo (p m)) []) :
    PCon Try.prog 87 [.ext fr 5 (ms.map Hf.Msg.row), .clo f [.ref false t, .ref false u]] (I (match ms.findIdx? p with | some i => i | none => -1)) [] := by
  refine pcon_of (G := gm) Try.func87 rfl rfl rfl ?_
  refine W.go ?_
  refine LoopV.on (σ := Nat) rfl (fun i => [(0, .ext fr 5 (ms.map Hf.Msg.row)), (1, .clo f [.ref false t, .ref false u]), (7, I ms.length), (8, I i)]) (fun _ => []) (fun i => i ≤ ms.length ∧ ∀ j (hj : j < ms.length), j < i → (fun x => !p x) ms[j] = true) (fun i => ms.length - i) 0 (AtS.v [] []) ⟨Nat.zero_le _, by simp⟩ ?_
  rintro i ⟨hi, hok⟩
  rcases Nat.lt_or_ge i ms.length with him | him
  · have hg := rows_get Hf.Msg.row ms (Int.toNat_natCast i) him
    have hc := hf ms[i]
    have hmore := all_more (p := fun x => !p x) him hok
    have hstop : p ms[i] = true → ms.findIdx? p = some i := fun hp => by
      rw [List.findIdx?_eq_some_iff_getElem]
      exact ⟨him, hp, fun j hj => by have := hok j (by omega) hj; simpa using this⟩
    clear hok hf
    generalize ms[i] = m at *
    cases hp : p m with
    | true =>
      rw [hp] at hc
      rw [hstop hp]
      refine W.c2 hg hc ?_
      exact RetP.v rfl
    | false =>
      rw [hp] at hc
      replace hmore := hmore (by rw [hp]; rfl)
      clear hstop
      refine W.c2 hg hc ?_
      exact nx (i + 1) (by omega) ⟨by omega, hmore⟩ (AtS.v [] [])
  · have e : ms.findIdx? p = none := by
      rw [List.findIdx?_eq_none_iff]
      intro x hx
      obtain ⟨j, hj, rfl⟩ := List.mem_iff_getElem.1 hx
      have := hok j hj (by omega)
      simpa using this
    rw [e]
    clear hok hf
    refine W.go ?_
    exact RetP.v rfl
theorem msgcontf_pcon (p : Hf.Msg → Bool) (f : Nat) (t u : List Sv) (fr : Bool) (ms : List Hf.Msg) (h : ms.length * 40 ≤ 140737488355328) (hf : ∀ m : Hf.Msg, PCon Try.prog f [.agg m.row, .ref false t, .ref false u] (Bo (p m)) []) :
    PCon Try.prog 68 [.ext fr 5 (ms.map Hf.Msg.row), .clo f [.ref false t, .ref false u]] (Bo (ms.any p)) [] := by
  have c := msgindexf_pcon p f t u fr ms h hf
  refine pcon_of (G := gm) Try.func68 rfl rfl rfl ?_
  refine W.c1 c ?_
  refine RetP.v (congrArg Value.bool ?_)
  cases hx : ms.findIdx? p with
  | none =>
    rw [List.findIdx?_eq_none_iff] at hx
    rw [Bool.eq_iff_iff]
    simpa using hx
  | some i =>
    rw [List.findIdx?_eq_some_iff_getElem] at hx
    obtain ⟨h1, h2, _⟩ := hx
    simp [List.any_eq_true.2 ⟨_, List.getElem_mem h1, h2⟩]
set_option maxHeartbeats 2000000 in
theorem sedges_pcon (f : Bool) (ps : List Int) (s : Sta) (h : Tr1 ps) (hs : s.sz) : PCon Try.prog 40 [treeX true ps (nearOf ps), .agg (s.row f)] (Bo (edsB ps s)) [] := by
  refine pcon_of (G := gm) Try.func40 rfl rfl rfl ?_
  have hle := h.le
  have c1 := neighAll_pcon ps s.me h
  have hcm := fun (e : Hf.Edge) (he : e.out.length * 40 ≤ 140737488351232) => msgcontf_pcon (fun m => !meantB ps.length s.objs.length m) 69 _ _ f e.out (by omega) (fun m => notmeant_pcon true f ps (nearOf ps) s m (by omega) (by have := hs.objs; omega))
  obtain ⟨me, objs, edges, asked, asks, got⟩ := s
  obtain ⟨h1, -, h3, h4, -, -⟩ := hs
  have hnl : (nbr ps me).length ≤ 32 := by unfold nbr; split; have := nearTo_le ps me.toNat ps.length; omega; simp
  dsimp only at h1 h3 h4 c1 hcm
  unfold edsB
  dsimp only
  have hgn := fun j (hj : j < (nbr ps me).length) => int_get (nbr ps me) (n := ((j : Nat) : Int).toNat) j (Int.toNat_natCast j) hj
  generalize nbr ps me = N at *
  by_cases hn : N.length = edges.length
  case neg =>
    rw [decide_eq_false hn]
    clear hcm hgn
    refine W.c1 c1 ?_
    exact RetP.v rfl
  rw [decide_eq_true hn, Bool.true_and]
  refine W.c1 c1 ?_
  refine LoopV.on (σ := Nat) rfl (fun i => [(2, .ptr 0 0 0), (3, .ptr 1 0 0), (5, .own 2 N.length), (19, .ext f 4 (edges.map (edRow f))), (20, I edges.length), (21, I i)]) (fun _ => [some ⟨24, 1, false, false, [[treeX true ps (nearOf ps)]]⟩, some ⟨30, 6, false, false, [Sta.row f ⟨me, objs, edges, asked, asks, got⟩]⟩, some (intB N)]) (fun i => i ≤ edges.length ∧ ∀ j, j < i → edAt ps.length objs.length N edges j = true) (fun i => edges.length - i) 0 (AtS.v [] [0, 1, 2]) ⟨Nat.zero_le _, by simp⟩ ?_
  rintro i ⟨hi, hok⟩
  rcases Nat.lt_or_ge i edges.length with him | him
  · have hg := rows_get (edRow f) edges (Int.toNat_natCast i) him
    have hg2 := hgn i (by omega)
    have hmore := upto_more hok
    have hno := allr_no (p := edAt ps.length objs.length N edges) him
    clear hok
    have hE : edAt ps.length objs.length N edges i = (decide (edges[i].peer = N.getD i 0) && (edges[i].good && edges[i].out.all (meantB ps.length objs.length))) := by rw [edAt, getDo _ him, edB]
    rw [hE] at hmore hno
    have he := h4 _ (List.getElem_mem him)
    have cg := Hf.good_pcon edges[i] f (by omega)
    have cm := hcm edges[i] he
    have ea : edges[i].out.any (fun m => !meantB ps.length objs.length m) = !edges[i].out.all (meantB ps.length objs.length) := by
      rw [List.any_eq_not_all_not]; simp
    rw [ea] at cm
    clear ea hE hcm h4 hgn
    generalize edges[i] = e at *
    generalize N.getD i 0 = v at *
    generalize e.out.all (meantB ps.length objs.length) = b1 at *
    generalize e.good = b2 at *
    obtain ⟨ep, eb, eo, es⟩ := e
    dsimp only at *
    refine W.c4 hg hg2 cg cm ?_
    refine Br.mk (fun hb => ?_) (fun hb => ?_)
    · rw [hno (by revert hb; cases b1 <;> cases b2 <;> simp)]
      refine W.go ?_
      exact RetP.v rfl
    · replace hmore := hmore (by revert hb; cases b1 <;> cases b2 <;> simp)
      clear hno
      refine W.go ?_
      exact nx (i + 1) (by omega) ⟨by omega, hmore⟩ (AtS.v [] [0, 1, 2])
  · rw [allr_yes fun j hj => hok j (by omega)]
    clear hok hcm hgn
    refine W.go ?_
    exact RetP.v rfl
end Go.Proofs.Ytiklbnianbejdaa
