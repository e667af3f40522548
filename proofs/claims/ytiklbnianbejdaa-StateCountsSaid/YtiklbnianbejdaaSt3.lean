/- state.Good. -/
import Derived.Test.YtiklbnianbejdaaSt2
set_option linter.unusedSimpArgs false
set_option maxRecDepth 20000
set_option linter.unusedVariables false
namespace Go.Proofs.Ytiklbnianbejdaa
open Go Go.Eng Go.RowKit

def lastN (A : List Asq) : Nat → Int
  | 0 => 0
  | i + 1 => (A.getD i ⟨0, 0⟩).num
def askAt (k asked : Int) (A : List Asq) (i : Nat) : Bool := !(!Hf.inB (A.getD i ⟨0, 0⟩).obj 0 (k - 1) || decide ((A.getD i ⟨0, 0⟩).num ≤ lastN A i) || decide ((A.getD i ⟨0, 0⟩).num > asked))
def gotB (k asked n : Int) (x : Fnd) : Bool := !(!Hf.inB x.obj 0 (k - 1) || !Hf.inB x.num 1 asked || !Hf.inB x.whr 0 (n - 1))
def frontB (ps : List Int) (s : Sta) : Bool := !Hf.inB s.me 0 (ps.length - 1) || !Hf.inB s.objs.length 1 8 || !Hf.inB s.asked 0 1099511627776 || decide ((s.asks.length : Int) > 4) || decide ((s.got.length : Int) > 4)
/-- Whether a state can be. -/
def goodS (ps : List Int) (s : Sta) : Bool :=
  !frontB ps s && (s.objs.all (ownB ps s.me) && ((List.range s.asks.length).all (askAt s.objs.length s.asked s.asks) && (s.got.all (gotB s.objs.length s.asked ps.length) && (edsB ps s && decide (opS s.objs s.objs.length ≤ 8)))))
theorem goodN_pcon (f : Bool) (s : Sta) : PCon Try.prog 16 [treeN, .agg (s.row f)] (Bo false) [] := by
  refine pcon_of (G := gm) Try.func16 rfl rfl rfl ?_
  obtain ⟨me, objs, edges, asked, asks, got⟩ := s
  have c2 := swithin_pcon objs.length 1 8
  have c3 := swithin_pcon asked 0 1099511627776
  refine W.c4 sizeN_pcon (swithin_pcon me 0 (-1)) c2 c3 ?_
  exact RetP.v rfl
set_option maxHeartbeats 4000000 in
theorem sgood_pcon (f : Bool) (ps : List Int) (s : Sta) (h : Tr1 ps) (hs : s.sz) : PCon Try.prog 16 [treeX true ps (nearOf ps), .agg (s.row f)] (Bo (goodS ps s)) [] := by
  refine pcon_of (G := gm) Try.func16 rfl rfl rfl ?_
  have hle := h.le
  have ct := size_pcon true ps (nearOf ps)
  have c1 := swithin_pcon s.me 0 (ps.length - 1)
  have c2 := swithin_pcon s.objs.length 1 8
  have c3 := swithin_pcon s.asked 0 1099511627776
  have ce := sedges_pcon f ps s h hs
  have co := sopen_pcon f s hs
  have cw := fun o ho => own_pcon f ps s.me o h ho
  obtain ⟨me, objs, edges, asked, asks, got⟩ := s
  obtain ⟨h1, h2, h3, h4, h5, h6⟩ := hs
  dsimp only at h1 h2 h3 h4 h5 h6 c1 c2 c3 cw
  unfold goodS frontB
  dsimp only
  generalize hb1 : Hf.inB me 0 (ps.length - 1) = b1 at *
  generalize hb2 : Hf.inB objs.length 1 8 = b2 at *
  generalize hb3 : Hf.inB asked 0 1099511627776 = b3 at *
  clear h3 h4
  refine W.c4 ct c1 c2 c3 ?_
  refine Br.mk (fun hb => ?_) (fun hb => ?_)
  · rw [show (!b1 || !b2 || !b3 || decide ((asks.length : Int) > 4) || decide ((got.length : Int) > 4)) = true by simpa using hb]
    refine W.go ?_
    exact RetP.v rfl
  rw [show (!b1 || !b2 || !b3 || decide ((asks.length : Int) > 4) || decide ((got.length : Int) > 4)) = false by simpa using hb]
  rw [Bool.not_false, Bool.true_and]
  clear hb c1 c2 c3
  refine W.go ?_
  refine LoopV.on (σ := Nat) rfl (fun i => [(0, treeX true ps (nearOf ps)), (3, .ptr 0 0 0), (49, .ext f 3 (objs.map (Ow.row f))), (50, I objs.length), (51, I i)]) (fun _ => [some ⟨30, 6, false, false, [Sta.row f ⟨me, objs, edges, asked, asks, got⟩]⟩]) (fun i => i ≤ objs.length ∧ ∀ j (hj : j < objs.length), j < i → ownB ps me objs[j] = true) (fun i => objs.length - i) 0 (AtS.v [] [0]) ⟨Nat.zero_le _, by simp⟩ ?_
  rintro i ⟨hi, hok⟩
  rcases Nat.lt_or_ge i objs.length with him | him
  · have hg := rows_get (Ow.row f) objs (Int.toNat_natCast i) him
    have hmore := all_more him hok
    have hno := all_no (p := ownB ps me) him
    have cw := cw objs[i] (h2 _ (List.getElem_mem him))
    clear hok h2
    generalize objs[i] = o at *
    cases hc : ownB ps me o with
    | true =>
      replace hmore := hmore hc
      rw [hc] at cw
      obtain ⟨oa, om, oc⟩ := o
      refine W.c2 hg cw ?_
      exact nx (i + 1) (by omega) ⟨by omega, hmore⟩ (AtS.v [] [0])
    | false =>
      rw [hno hc]
      rw [hc] at cw
      obtain ⟨oa, om, oc⟩ := o
      refine W.c2 hg cw ?_
      exact RetP.v rfl
  rw [all_yes fun j hj => hok j hj (by omega)]
  have e : i = objs.length := by omega
  subst e
  clear hok h2 cw
  rw [Bool.true_and]
  have cwa := fun x => swithin_pcon x 0 ((objs.length : Int) - 1)
  refine W.go ?_
  refine LoopV.on (σ := Nat) rfl (fun i => [(0, treeX true ps (nearOf ps)), (3, .ptr 0 0 0), (7, I (lastN asks i)), (63, .ext f 2 (asks.map Asq.row)), (64, I asks.length), (65, I i)]) (fun _ => [some ⟨30, 6, false, false, [Sta.row f ⟨me, objs, edges, asked, asks, got⟩]⟩]) (fun i => i ≤ asks.length ∧ ∀ j, j < i → askAt objs.length asked asks j = true) (fun i => asks.length - i) 0 (AtS.v [] [0]) ⟨Nat.zero_le _, by simp⟩ ?_
  rintro i ⟨hi, hok⟩
  rcases Nat.lt_or_ge i asks.length with him | him
  · have hg := rows_get Asq.row asks (Int.toNat_natCast i) him
    have hmore := upto_more hok
    have hno := allr_no (p := askAt objs.length asked asks) him
    have hl : lastN asks (i + 1) = asks[i].num := by rw [lastN, getDo _ him]
    have cwa := cwa asks[i].obj
    have hE : askAt objs.length asked asks i = !(!Hf.inB asks[i].obj 0 (objs.length - 1) || decide (asks[i].num ≤ lastN asks i) || decide (asks[i].num > asked)) := by unfold askAt; rw [getDo _ him]
    rw [hE] at hmore hno
    clear hok hE
    generalize asks[i] = a at *
    generalize Hf.inB a.obj 0 (objs.length - 1) = b at *
    obtain ⟨ao, an⟩ := a
    dsimp only at *
    refine W.c2 hg cwa ?_
    refine Br.mk (fun hb => ?_) (fun hb => ?_)
    · rw [hno (by rw [hb]; rfl)]
      refine W.go ?_
      exact RetP.v rfl
    · replace hmore := hmore (by rw [hb]; rfl)
      clear hno
      refine W.go ?_
      refine nx (i + 1) (by omega) ⟨by omega, hmore⟩ ?_
      rw [hl]
      exact AtS.v [] [0]
  rw [allr_yes fun j hj => hok j (by omega)]
  have e : i = asks.length := by omega
  subst e
  clear hok
  rw [Bool.true_and]
  have cwn := fun x => swithin_pcon x 1 asked
  have cww := fun x => swithin_pcon x 0 ((ps.length : Int) - 1)
  refine W.go ?_
  refine LoopV.on (σ := Nat) rfl (fun i => [(0, treeX true ps (nearOf ps)), (3, .ptr 0 0 0), (94, .ext f 3 (got.map Fnd.row)), (95, I got.length), (96, I i)]) (fun _ => [some ⟨30, 6, false, false, [Sta.row f ⟨me, objs, edges, asked, asks, got⟩]⟩]) (fun i => i ≤ got.length ∧ ∀ j (hj : j < got.length), j < i → gotB objs.length asked ps.length got[j] = true) (fun i => got.length - i) 0 (AtS.v [] [0]) ⟨Nat.zero_le _, by simp⟩ ?_
  rintro i ⟨hi, hok⟩
  rcases Nat.lt_or_ge i got.length with him | him
  · have hg := rows_get Fnd.row got (Int.toNat_natCast i) him
    have hmore := all_more (p := gotB objs.length asked ps.length) him hok
    have hno := all_no (p := gotB objs.length asked ps.length) him
    have d1 := cwa got[i].obj
    have d2 := cwn got[i].num
    have d3 := cww got[i].whr
    have hE : gotB objs.length asked ps.length got[i] = !(!Hf.inB got[i].obj 0 (objs.length - 1) || !Hf.inB got[i].num 1 asked || !Hf.inB got[i].whr 0 (ps.length - 1)) := rfl
    rw [hE] at hmore hno
    clear hok hE
    generalize got[i] = a at *
    generalize Hf.inB a.obj 0 (objs.length - 1) = x1 at *
    generalize Hf.inB a.num 1 asked = x2 at *
    generalize Hf.inB a.whr 0 (ps.length - 1) = x3 at *
    obtain ⟨ao, an, aw⟩ := a
    dsimp only at *
    refine W.c5 hg ct d1 d2 d3 ?_
    refine Br.mk (fun hb => ?_) (fun hb => ?_)
    · rw [hno (by rw [hb]; rfl)]
      refine W.go ?_
      exact RetP.v rfl
    · replace hmore := hmore (by rw [hb]; rfl)
      clear hno
      refine W.go ?_
      exact nx (i + 1) (by omega) ⟨by omega, hmore⟩ (AtS.v [] [0])
  rw [all_yes fun j hj => hok j hj (by omega)]
  have e : i = got.length := by omega
  subst e
  clear hok
  rw [Bool.true_and]
  refine W.c2 ce co ?_
  exact RetP.v rfl
end Go.Proofs.Ytiklbnianbejdaa
