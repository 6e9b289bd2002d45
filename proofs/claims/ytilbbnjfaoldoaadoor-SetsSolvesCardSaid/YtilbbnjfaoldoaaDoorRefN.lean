/- The reference: run. -/
import Derived.Test.YtilbbnjfaoldoaaDoorPlainD
import Derived.Test.YtilbbnjfaoldoaaDoorRefW
import Derived.Test.YtilbbnjfaoldoaaDoorPlainF
namespace Go.Proofs.YtilbbnjfaoldoaaDoor
open Go Go.RowKit
attribute [local go_sem] cell_grow u64_sAnd u64_sOr u64_sDiff sDiff_all zeqI zneI sAnd_bit_zero sAnd_bit_zeroN sAnd_bit_nonzero rowOf_grow rowOk_grow rowOf_alloc rowOk_alloc

/-- What stays true while the reference runs: st is the program's state, all and fs are the reference's own. -/
structure RunAt (p : Prob) (rs : Bool) (w : World) (bv rv : Value) (st : St) (all : List Bnd) (fs : List Fact) (av lv : Value) (W : World) : Prop where
  eq : st.1 = padB all
  good : Good p st
  alen : all.length = p.bounds.length
  facts : rs = true → fs = st.2
  few : fs.length + openN st.1 ≤ 96
  fit : ∀ i, i < fs.length → FitN p.bounds.length (fget fs i)
  short : ∀ i, i < fs.length → (fget fs i).why.length ≤ 96
  alls : W.ownsRow (w.heap.size + 1) 67 2 av all.length (bCells all)
  own : FOwn W (w.heap.size + 1) lv fs
  box : W.heap[w.heap.size]? = some (.cells #[bv, rv] 25 (0, 0))
  low : Below w.heap.size w W
theorem RunAt.below {p : Prob} {rs : Bool} {w : World} {bv rv : Value} {st : St} {all : List Bnd} {fs : List Fact} {av lv : Value} {W W' : World} (h : RunAt p rs w bv rv st all fs av lv W) (hb : Below W.heap.size W W') : RunAt p rs w bv rv st all fs av lv W' :=
  ⟨h.eq, h.good, h.alen, h.facts, h.few, h.fit, h.short, own_ck h.alls (CK.below hb), h.own.ck (CK.below hb), heap_later h.box hb (Array.getElem?_eq_some_iff.1 h.box).1, h.low.trans (hb.mono h.low.size)⟩
theorem RunAt.alen8 {p : Prob} {rs : Bool} {w : World} {bv rv : Value} {st : St} {all : List Bnd} {fs : List Fact} {av lv : Value} {W : World} (h : RunAt p rs w bv rv st all fs av lv W) : all.length ≤ 8 := by
  have := h.good.len; rw [h.eq] at this; unfold padB at this; simp at this; omega
theorem RunAt.bnds {p : Prob} {rs : Bool} {w : World} {bv rv : Value} {st : St} {all : List Bnd} {fs : List Fact} {av lv : Value} {W : World} (h : RunAt p rs w bv rv st all fs av lv W) : Bnds W W.heap.size av all :=
  bnds_own h.alls rfl (by have := h.alen8; omega)
theorem tryE_pad (r : Rl) (all : List Bnd) (v e : Nat) (hv : v < all.length) : tryE r (padB all) v e = if !possB (withB all v e false) r then some true else if !possB (withB all v e true) r then some false else none := by
  unfold tryE; rw [padB_with e false hv, padB_with e true hv, (BEq2.pad _).poss, (BEq2.pad _).poss]
theorem RunAt.step {p : Prob} {rs : Bool} {w : World} {bv rv : Value} {st : St} {all : List Bnd} {fs : List Fact} {av lv : Value} {W : World} (h : RunAt p rs w bv rv st all fs av lv W) {v e j : Nat} {inn : Bool} {y : List Int} {av' lv' : Value} {W' : World} (hv : v < all.length) (he : e < 12) (ho : (openE (bget st.1 v)).testBit e = true) (ht : tryE (rget p.rules j) st.1 v e = some inn) (hy : y = if rs then whyOf p fs ⟨v, e, inn, j, []⟩ else [])
    (hf : FOwn W' (w.heap.size + 1) lv' (fs ++ [⟨v, e, inn, j, y⟩])) (ha : W'.ownsRow (w.heap.size + 1) 67 2 av' all.length (bCells (withB all v e inn))) (hb : W'.heap[w.heap.size]? = some (.cells #[bv, rv] 25 (0, 0))) (hl : Below w.heap.size w W') :
    RunAt p rs w bv rv (stepE p rs j v st e) (withB all v e inn) (fs ++ [⟨v, e, inn, j, y⟩]) av' lv' W' ∧ openN (stepE p rs j v st e).1 < openN st.1 := by
  have hst : stepE p rs j v st e = (withB st.1 v e inn, if rs then st.2 ++ [⟨v, e, inn, j, whyOf p st.2 ⟨v, e, inn, j, []⟩⟩] else st.2) := by unfold stepE; rw [ht]
  have hv8 : v < 8 := by have := h.alen8; omega
  have hn := openN_withB st.1 v e inn (by rw [h.good.len]; exact hv8) he ho
  have hg := (h.good.step (rs := rs) (j := j) hv8 he ho).1
  have hfew := h.few
  refine ⟨⟨by rw [hst]; show withB st.1 v e inn = _; rw [h.eq]; exact padB_with e inn hv, hg, by rw [withB_length]; exact h.alen, fun hrs => ?_, ?_, fun i hi => ?_, fun i hi => ?_, by rw [withB_length]; exact ha, hf, hb, hl⟩, by rw [hst]; show openN (withB st.1 v e inn) < _; omega⟩
  · subst hrs; rw [hst, hy]; simp only [if_true]; rw [h.facts rfl]
  · rw [hst]; simp only [List.length_append, List.length_cons, List.length_nil]; omega
  · rw [fget_snoc]
    split
    · exact h.fit i (by assumption)
    · rw [if_pos (by simp at hi; omega)]
      exact ⟨v, e, rfl, by rw [← h.alen]; exact hv, rfl, he⟩
  · rw [fget_snoc]
    split
    · exact h.short i (by assumption)
    · rw [if_pos (by simp at hi; omega)]
      show y.length ≤ 96
      rw [hy]
      cases rs
      · simp
      · simp only [if_true]; exact Nat.le_trans (whyOf_length _ _ _) (by omega)
theorem RunAt.poss {p : Prob} {rs : Bool} {w : World} {bv rv : Value} {st : St} {all : List Bnd} {fs : List Fact} {av lv : Value} {W : World} (h : RunAt p rs w bv rv st all fs av lv W) (r : Rl) : possB st.1 r = possB all r := by
  rw [h.eq]; exact (BEq2.pad all).poss r
theorem S12.of_pad {b : List Bnd} (h : S12 (padB b)) : S12 b := fun x hx => h x (by unfold padB; exact List.mem_append_left _ hx)
theorem RunAt.s12 {p : Prob} {rs : Bool} {w : World} {bv rv : Value} {st : St} {all : List Bnd} {fs : List Fact} {av lv : Value} {W : World} (h : RunAt p rs w bv rv st all fs av lv W) : S12 all := by
  have := h.good.s12; rw [h.eq] at this; exact S12.of_pad this
theorem Ints.via {w w1 w2 : World} {B N : Nat} {v : Value} {xs : List Int} (h : Ints w1 B v xs) (h1 : Below N w w1) (h2 : Below N w w2) (hB : B ≤ N) : Ints w2 B v xs := by
  obtain ⟨hn, a, cap, hv, hc, hm, hr⟩ := h
  refine ⟨hn, a, cap, hv, hc, hm, fun h0 => ?_⟩
  obtain ⟨b, off, ha, hbB, hcell⟩ := hr h0
  exact ⟨b, off, ha, hbB, fun i hi => (h2.cell (p := ⟨b, off + i, none⟩) (Nat.lt_of_lt_of_le hbB hB)).trans ((h1.cell (p := ⟨b, off + i, none⟩) (Nat.lt_of_lt_of_le hbB hB)).symm.trans (hcell i hi))⟩
/-- The reference's run, read off the program's. -/
def refRes (p : Prob) (rs : Bool) : St × Int := runR p rs (padB p.bounds, [])
def RunPost (p : Prob) (rs : Bool) (w : World) (e : Ending) (w' : World) : Prop := ∃ av lv all fs, e = .returned (.tuple #[av, lv, .int .i64 (refRes p rs).2]) ∧ (refRes p rs).1.1 = padB all ∧ all.length = p.bounds.length ∧ (rs = true → fs = (refRes p rs).1.2) ∧ (Bnds w' w'.heap.size av all ∧ w'.ownsRow w.heap.size 67 2 av all.length (bCells all)) ∧ Fcts w' w'.heap.size lv fs ∧ Below w.heap.size w w'
/-- The flag 'changed', and what it says. -/
structure ChR (st st' : St) (ch : Bool) : Prop where
  flag : ch = decide (openN st'.1 < openN st.1)
  le : openN st'.1 ≤ openN st.1
  same : ¬ openN st'.1 < openN st.1 → st'.1 = st.1
theorem ChR.refl (st : St) : ChR st st false := ⟨by rw [decide_eq_false (Nat.lt_irrefl _)], Nat.le_refl _, fun _ => rfl⟩
theorem ChR.down {st st' st2 : St} {ch : Bool} (h : ChR st st' ch) (hd : openN st2.1 < openN st'.1) : ChR st st2 true := by
  have := h.le
  exact ⟨by rw [decide_eq_true (by omega)], by omega, fun hh => absurd (by omega) hh⟩
set_option maxRecDepth 100000 in
set_option maxHeartbeats 8000000 in
theorem refRun_any (p : Prob) (hpo : probOk p = true) (rs : Bool) (bv rv : Value) (w : World) {B : Nat} (hbv : Bnds w B bv p.bounds) (hrv : Rls w B rv p.rules) (hB : B ≤ w.heap.size) :
    Calls Tryd.prog 71 #[.agg #[bv, rv], .bool rs] w (RunPost p rs w) := by
  have HBV := Lib.hid hbv; have HRV := Lib.hid hrv; have HPO := Lib.hid hpo
  have hfit := probOk_fit hpo
  have hn8 := hfit.2.1
  have hr12 := hfit.2.2.1
  have hn1 := hfit.1
  have HFIT := Lib.hid hfit
  obtain ⟨ba, bc, rfl⟩ := hbv.slice
  obtain ⟨ra, rc, rfl⟩ := hrv.slice
  obtain ⟨i67, hi67, hz0, hz1, hz2⟩ := info_parts Tryd.info67
  clear hbv hrv hpo hfit
  have K0 := Lib.hid (heap_new0 w (.cells #[.slice ba p.bounds.length bc, .slice ra p.rules.length rc] 25)); have HB0 := Lib.hid (Below.new1 w (.cells #[.slice ba p.bounds.length bc, .slice ra p.rules.length rc] 25))
  have HBR : Hid (Row (w.alloc (.cells #[.slice ba p.bounds.length bc, .slice ra p.rules.length rc] 25)) B 2 (.slice ba p.bounds.length bc) p.bounds.length (bcellAt p.bounds)) := Lib.hid (HBV.out.below HB0.out hB)
  go_enter Tryd.func71, Tryd.ntmps71
  go_wp2_with (at_builtin; refine wpList_append_row rfl _ _ 22 rfl (w.heap.size + 1) 67 i67 (.agg #[.int .u64 0, .int .u64 0]) 2 16 Tryd.underlying22 hi67 hz0 hz1 hz2 rfl (by decide) (.slice none 0 0) 0 [] rfl (World.ownsRow_nil _ _ _ _) (.slice ba p.bounds.length bc) p.bounds.length _ B rfl HBR.out (bCells p.bounds) (bCells_length _) ?c1 (bCells_one _) ?c3 ?c4 ?c5 ?_)
  case c1 => exact fun j hj => bCells_get _ _ hj
  case c3 => unfold maxLen; omega
  case c4 => omega
  case c5 => simp
  intro v1 w1 hown hgrow _
  have hb1 := HB0.out.grown hgrow (by simp) (fun q hq => by simp [Value.ownBlock] at hq)
  try simp only [Nat.zero_add, List.nil_append] at hown
  have k1 := (hgrow.block w.heap.size (by simp) (by simp [Value.ownBlock])).trans K0.out
  have hst0 : RunAt p rs w (.slice ba p.bounds.length bc) (.slice ra p.rules.length rc) (padB p.bounds, []) p.bounds [] v1 (.slice none 0 0) w1 :=
    ⟨rfl, Good.first HPO.out, rfl, fun _ => rfl, (Good.first HPO.out).few, fun i hi => absurd hi (Nat.not_lt_zero _), fun i hi => absurd hi (Nat.not_lt_zero _), hown, FOwn.nil _ _, k1, hb1⟩
  obtain ⟨a1, n1, c1, rfl⟩ := own_form hown
  have HST := Lib.hid hst0
  clear hown hgrow hb1 k1 hst0 K0 HB0 HBR hi67 hz0 hz1 hz2 i67
  go_wp2_with fail
  go_loopg [7, 8, 9] (openN (padB p.bounds) + 1) (fun g av lv chv wr => ∃ (st : St) (all : List Bnd) (fs : List Fact) (ch : Bool), chv = .bool ch ∧ RunAt p rs w (.slice ba p.bounds.length bc) (.slice ra p.rules.length rc) st all fs av lv wr ∧
    (ch = true → runSt p rs g st = refRes p rs ∧ openN st.1 < g) ∧ (ch = false → (st, (-1 : Int)) = refRes p rs))
  case atStart => exact ⟨_, _, _, true, rfl, HST.out, fun _ => ⟨rfl, Nat.lt_succ_self _⟩, fun h => by cases h⟩
  case round =>
    clear HST
    obtain ⟨st, all, fs, ch, rfl, hra, hc1, hc2⟩ := hrel
    have HRA := Lib.hid hra
    cases ch
    case false =>
      have hfin : RunPost p rs w (.returned (.tuple #[u7, u8, .int .i64 (-1)])) wr := by
        have he := hc2 rfl
        refine ⟨_, _, all, fs, by rw [← he], by rw [← he]; exact hra.eq, hra.alen, fun h => by rw [← he]; exact hra.facts h, ⟨hra.bnds, own_mono hra.alls (Nat.le_succ _)⟩, hra.own.fcts (by have := hra.few; omega) (fun i hi => by have := hra.short i hi; omega), hra.low⟩
      have HFIN := Lib.hid hfin
      clear hra hc1 hc2 hfin
      go_wp2
      go_ret3
      exact HFIN.out
    case true =>
      have HC := Lib.hid (hc1 rfl)
      clear hra hc1 hc2
      go_wp2_with fail
      go_loopw [7, 8, 9, 10] (fun av lv chv iv wr => ∃ (j : Nat) (stj : St) (allj : List Bnd) (fsj : List Fact) (ch : Bool), j ≤ p.rules.length ∧ iv = .int .i64 j ∧ chv = .bool ch ∧ RunAt p rs w (.slice ba p.bounds.length bc) (.slice ra p.rules.length rc) stj allj fsj av lv wr ∧
        rulesSt p rs (p.rules.length - j) j stj = rulesSt p rs p.rules.length 0 st ∧ ChR st stj ch) (fun _ _ _ iv _ => p.rules.length - (intOf iv).toNat)
      case atStart => exact ⟨0, _, _, _, false, Nat.zero_le _, rfl, rfl, HRA.out, rfl, ChR.refl _⟩
      case round =>
        clear HRA
        obtain ⟨j, stj, allj, fsj, ch, hj, rfl, rfl, hraj, hrj, hch⟩ := hrel
        have HRA := Lib.hid hraj; have HRJ := Lib.hid hrj; have HCH := Lib.hid hch
        have c0 : wr.cell? ⟨w.heap.size, 0, none⟩ = some (.slice ba p.bounds.length bc) := by rw [cell_of_row _ _ _ _ _ _ hraj.box]; rfl
        have c1 : wr.cell? ⟨w.heap.size, 1, none⟩ = some (.slice ra p.rules.length rc) := by rw [cell_of_row _ _ _ _ _ _ hraj.box]; rfl
        have z0 : w.heap.size < wr.heap.size := (Array.getElem?_eq_some_iff.1 hraj.box).1
        by_cases hlt : j < p.rules.length
        · obtain ⟨rb, ro, vv, hrae, hrb, hvv, q0, q1, q2, q3⟩ := (HRV.out.below hraj.low hB).cells hlt
          subst hrae
          obtain ⟨va, vc, rfl⟩ := hvv.slice
          obtain ⟨wo, rfl⟩ : ∃ wo : World, wo = wr := ⟨_, rfl⟩
          have HVV := Lib.hid hvv; have HLO := Lib.hid hraj.low
          have hn1w := Below.new1 wo (.cells #[.int .i64 (rget p.rules j).kind, .slice va (rget p.rules j).vars.length vc, .int .i64 (rget p.rules j).low, .int .i64 (rget p.rules j).high] 63)
          have HNW := Lib.hid hn1w
          have HKW := Lib.hid (heap_new0 wo (.cells #[.int .i64 (rget p.rules j).kind, .slice va (rget p.rules j).vars.length vc, .int .i64 (rget p.rules j).low, .int .i64 (rget p.rules j).high] 63))
          clear hraj hrj hch hvv hn1w
          go_wp2_with fail
          refine (refCan_any allj HRA.out.s12 (rget p.rules j) (HFIT.out.2.2.2.1 j hlt) (fun i hi => by rw [HRA.out.alen]; exact probOk_range HPO.out j hlt i hi) _ _ _ (B := wo.heap.size) ((HVV.out.mono (by omega)).below HNW.out (Nat.le_refl _)) (HRA.out.bnds.below HNW.out (Nat.le_refl _)) (by simp)).mono ?_
          rintro e w2 ⟨rfl, hb2⟩
          have hb3 := HNW.out.trans (hb2.mono (by simp))
          have HB3 := Lib.hid hb3
          have HRA2 := Lib.hid (HRA.out.below hb3); have HRB2 := Lib.hid (heap_later HKW.out hb2 (by simp))
          have hps := HRA.out.poss (rget p.rules j)
          have HPS := Lib.hid hps
          clear hb2 hb3 hps q0 q1 q2 q3 c0 c1
          cases hpb : possB allj (rget p.rules j)
          case false =>
            have hrun : refRes p rs = (stj, (j : Int)) := by
              obtain ⟨g, hg⟩ : ∃ g, gk = g + 1 := ⟨gk - 1, by have := HC.out.2; omega⟩
              rw [← HC.out.1, hg]
              unfold runSt
              rw [← HRJ.out, show p.rules.length - j = (p.rules.length - (j + 1)) + 1 by omega]
              unfold rulesSt
              rw [HPS.out, hpb]; rfl
            have hfin : ∀ av lv, RunAt p rs w (.slice ba p.bounds.length bc) (.slice (some ⟨rb, ro, none⟩) p.rules.length rc) stj allj fsj av lv w2 → RunPost p rs w (.returned (.tuple #[av, lv, .int .i64 j])) w2 := fun av lv h => by
              refine ⟨av, lv, allj, fsj, by rw [hrun], by rw [hrun]; exact h.eq, h.alen, fun hh => by rw [hrun]; exact h.facts hh, ⟨h.bnds, own_mono h.alls (Nat.le_succ _)⟩, h.own.fcts (by have := h.few; omega) (fun i hi => by have := h.short i hi; omega), h.low⟩
            have HFIN := Lib.hid (hfin _ _ HRA2.out)
            clear hpb hrun hfin
            go_wp2
            go_ret3
            exact HFIN.out
          case true =>
            have HPB := Lib.hid (HPS.out.trans hpb)
            clear hpb
            have y1 : wo.heap.size < w2.heap.size := (Array.getElem?_eq_some_iff.1 HRB2.out).1
            have e1 : w2.cell? ⟨wo.heap.size, 1, none⟩ = some (.slice va (rget p.rules j).vars.length vc) := by rw [cell_of_row _ _ _ _ _ _ HRB2.out]; rfl
            go_wp2_with fail
            clear e1
            go_loopw [7, 8, 9, 12] (fun av lv chv iv wr => ∃ (i : Nat) (sti : St) (alli : List Bnd) (fsi : List Fact) (ch : Bool), i ≤ (rget p.rules j).vars.length ∧ iv = .int .i64 i ∧ chv = .bool ch ∧ RunAt p rs w (.slice ba p.bounds.length bc) (.slice (some ⟨rb, ro, none⟩) p.rules.length rc) sti alli fsi av lv wr ∧
              stV p rs j sti ((rget p.rules j).vars.drop i) = ruleSt p rs j stj ∧ ChR st sti ch ∧ wr.heap[wo.heap.size]? = some (.cells #[.int .i64 (rget p.rules j).kind, .slice va (rget p.rules j).vars.length vc, .int .i64 (rget p.rules j).low, .int .i64 (rget p.rules j).high] 63 (0, 0))) (fun _ _ _ iv _ => (rget p.rules j).vars.length - (intOf iv).toNat)
            case atStart => exact ⟨0, _, _, _, ch, Nat.zero_le _, rfl, rfl, HRA2.out, by rw [List.drop_zero]; rfl, HCH.out, HRB2.out⟩
            case round =>
              clear HRA2 HRB2 HCH y1 HRA HKW HNW HB3
              obtain ⟨i, sti, alli, fsi, ch, hi, rfl, rfl, hrai, hri, hch, hrbk⟩ := hrel
              have HRA := Lib.hid hrai; have HRI := Lib.hid hri; have HCH := Lib.hid hch; have HRK := Lib.hid hrbk
              have e1 : wr.cell? ⟨wo.heap.size, 1, none⟩ = some (.slice va (rget p.rules j).vars.length vc) := by rw [cell_of_row _ _ _ _ _ _ hrbk]; rfl
              have y1 : wo.heap.size < wr.heap.size := (Array.getElem?_eq_some_iff.1 hrbk).1
              have hlow := hrai.low
              clear hri hch hrbk
              by_cases hit : i < (rget p.rules j).vars.length
              · obtain ⟨_, a', c', hae, _, _, hrow⟩ := HVV.out.via HLO.out hlow hB
                cases hae
                obtain ⟨vb, vo, rfl, hvB, hvcell⟩ := hrow (by omega)
                have hrk := probOk_range HPO.out j hlt i hit
                obtain ⟨v, hve⟩ : ∃ v : Nat, iget (rget p.rules j).vars i = v := ⟨(iget (rget p.rules j).vars i).toNat, by omega⟩
                have hvn : v < p.bounds.length := by omega
                have d0 : wr.cell? ⟨vb, vo + i, none⟩ = some (.int .i64 (v : Int)) := by rw [hvcell i (by omega)]; show some (Value.int .i64 (iget (rget p.rules j).vars i)) = _; rw [hve]
                have HVE := Lib.hid hve
                clear hvcell hrow hrk hve hrai hlow
                go_wp2_with fail
                clear d0 e1
                have hstv : stV p rs j (stepV p rs j sti (v : Int)) ((rget p.rules j).vars.drop (i + 1)) = ruleSt p rs j stj := by
                  rw [← HRI.out, List.drop_eq_getElem_cons hit, show (rget p.rules j).vars[i] = (v : Int) by rw [← HVE.out]; simp [iget, hit]]
                  rfl
                have HSV := Lib.hid hstv
                have hv8 : v < 8 := by omega
                have HRG := Lib.hid (stepV_r p rs j v hv8 sti HRA.out.good)
                obtain ⟨sto, hsto⟩ : ∃ sto, sto = stepV p rs j sti (v : Int) := ⟨_, rfl⟩
                rw [← hsto] at HSV HRG
                clear hstv hsto
                go_loopw [7, 8, 9, 14] (fun av lv chv ev wr => ∃ (e : Nat) (ste : St) (alle : List Bnd) (fse : List Fact) (ch : Bool), e ≤ 12 ∧ ev = .int .i64 e ∧ chv = .bool ch ∧ RunAt p rs w (.slice ba p.bounds.length bc) (.slice (some ⟨rb, ro, none⟩) p.rules.length rc) ste alle fse av lv wr ∧
                  ((List.range 12).drop e).foldl (rstepE p rs j v) ste = sto ∧ ChR st ste ch ∧ wr.heap[wo.heap.size]? = some (.cells #[.int .i64 (rget p.rules j).kind, .slice (some ⟨vb, vo, none⟩) (rget p.rules j).vars.length vc, .int .i64 (rget p.rules j).low, .int .i64 (rget p.rules j).high] 63 (0, 0))) (fun _ _ _ ev _ => 12 - (intOf ev).toNat)
                case atStart => exact ⟨0, _, _, _, ch, Nat.zero_le _, rfl, rfl, HRA.out, by rw [List.drop_zero]; exact HRG.out.symm, HCH.out, HRK.out⟩
                case round =>
                  clear HRA HCH HRK y1 HRG HRI
                  obtain ⟨e, ste, alle, fse, ch, he, rfl, rfl, hrae, hre, hch, hrbk⟩ := hrel
                  have HRA := Lib.hid hrae; have HRE := Lib.hid hre; have HCH := Lib.hid hch; have HRK := Lib.hid hrbk
                  clear hre hch
                  by_cases het : e < 12
                  · have hal := HRA.out.alen
                    obtain ⟨ga, ca, cura, rfl, hga, hgac, -, -, hcur⟩ := own_some HRA.out.alls (by rw [hal]; omega)
                    have hva : v < alle.length := by omega
                    have s0 : wr.cell? ⟨ga, v * 2, none⟩ = some (.int .u64 ((bget alle v).inn : Nat)) := by rw [cell_of_row _ _ _ _ _ _ hgac, hcur _ (by omega), bCells_get _ _ (by omega), bcellAt_inn]
                    have s1 : wr.cell? ⟨ga, v * 2 + 1, none⟩ = some (.int .u64 ((bget alle v).can : Nat)) := by rw [cell_of_row _ _ _ _ _ _ hgac, hcur _ (by omega), bCells_get _ _ (by omega), bcellAt_can]
                    have zg : ga < wr.heap.size := (Array.getElem?_eq_some_iff.1 hgac).1
                    have hu := HRA.out.s12.u64.get v
                    have HG1 := Lib.hid (has_any (bget alle v).can e wr hu.2 het)
                    have HG2 := Lib.hid (has_any (bget alle v).inn e wr hu.1 het)
                    have HOP : Hid ((openE (bget ste.1 v)).testBit e = (bitB (bget alle v).can e && !bitB (bget alle v).inn e)) := Lib.hid (by rw [HRA.out.eq, bget_pad, openE_testBit]; rfl)
                    have HR2 : Hid (((List.range 12).drop (e + 1)).foldl (rstepE p rs j v) (rstepE p rs j v ste e) = sto) := Lib.hid (by rw [← HRE.out, range_drop e het]; rfl)
                    have HLT : Hid (∀ q, u8.ownBlock = some q → q < wr.heap.size) := Lib.hid (by
                      obtain ⟨csl, hcl, _⟩ := HRA.out.own
                      exact fun q hq => (hcl.lt q hq).2)
                    have HSA := Lib.hid s0; have HSB := Lib.hid s1
                    clear hcur hgac hga hu hrae hrbk hal s0 s1
                    obtain ⟨w3, rfl⟩ : ∃ w3 : World, w3 = wr := ⟨_, rfl⟩
                    have s1 := HSB.out
                    go_wp2_with fail
                    refine (HG1.out).mono ?_
                    rintro e1 w4 ⟨rfl, rfl⟩
                    clear s1 HG1
                    cases hcb : bitB (bget alle v).can e
                    case false =>
                      rw [show rstepE p rs j v ste e = ste by unfold rstepE; rw [HOP.out, hcb]; rfl] at HR2
                      clear hcb HG2 HSA HSB
                      go_wp2
                      go_roundw
                      case rel => exact ⟨e + 1, ste, alle, fse, ch, by omega, by go_num, rfl, HRA.out, HR2.out, HCH.out, HRK.out⟩
                      case measure => simp [intOf]; omega
                    case true =>
                      have s0 := HSA.out
                      go_wp2_with fail
                      refine (HG2.out).mono ?_
                      rintro e1 w5 ⟨rfl, rfl⟩
                      clear s0 HG2 HSA HSB
                      cases hib : bitB (bget alle v).inn e
                      case true =>
                        rw [show rstepE p rs j v ste e = ste by unfold rstepE; rw [HOP.out, hcb, hib]; rfl] at HR2
                        clear hcb hib
                        go_wp2
                        go_roundw
                        case rel => exact ⟨e + 1, ste, alle, fse, ch, by omega, by go_num, rfl, HRA.out, HR2.out, HCH.out, HRK.out⟩
                        case measure => simp [intOf]; omega
                      case false =>
                        obtain ⟨w3, rfl⟩ : ∃ w3 : World, w3 = w5 := ⟨_, rfl⟩
                        have HTRY : Hid (tryE (rget p.rules j) ste.1 v e = if !possB (withB alle v e false) (rget p.rules j) then some true else if !possB (withB alle v e true) (rget p.rules j) then some false else none) := Lib.hid (by rw [HRA.out.eq, tryE_pad _ _ _ _ hva])
                        have hn4 := Below.new1 w3 (.cells #[.int .i64 v, .int .i64 e, .bool true, .int .i64 j, .slice none 0 0] 56)
                        have HN4 := Lib.hid hn4; have HK4 := Lib.hid (heap_new0 w3 (.cells #[.int .i64 v, .int .i64 e, .bool true, .int .i64 j, .slice none 0 0] 56))
                        have HR4 := Lib.hid (heap_later HRK.out hn4 (Array.getElem?_eq_some_iff.1 HRK.out).1)
                        clear hn4
                        have y3 : wo.heap.size < w3.heap.size := (Array.getElem?_eq_some_iff.1 HRK.out).1
                        have r0 : w3.cell? ⟨wo.heap.size, 0, none⟩ = some (.int .i64 (rget p.rules j).kind) := by rw [cell_of_row _ _ _ _ _ _ HRK.out]; rfl
                        have r1 : w3.cell? ⟨wo.heap.size, 1, none⟩ = some (.slice (some ⟨vb, vo, none⟩) (rget p.rules j).vars.length vc) := by rw [cell_of_row _ _ _ _ _ _ HRK.out]; rfl
                        have r2 : w3.cell? ⟨wo.heap.size, 2, none⟩ = some (.int .i64 (rget p.rules j).low) := by rw [cell_of_row _ _ _ _ _ _ HRK.out]; rfl
                        have r3 : w3.cell? ⟨wo.heap.size, 3, none⟩ = some (.int .i64 (rget p.rules j).high) := by rw [cell_of_row _ _ _ _ _ _ HRK.out]; rfl
                        go_wp2_with fail
                        refine (refFollows_any alle HRA.out.s12 (rget p.rules j) (HFIT.out.2.2.2.1 j hlt) (fun i hi => by rw [HRA.out.alen]; exact probOk_range HPO.out j hlt i hi) HRA.out.alen8 v e hva het true j none 0 0 _ _ _ (B := w3.heap.size) (((HVV.out.via HLO.out HRA.out.low hB).mono (by have := HRA.out.low.size; omega)).below HN4.out (Nat.le_refl _)) (HRA.out.bnds.below HN4.out (Nat.le_refl _)) (by simp)).mono ?_
                        rintro e1 w7 ⟨rfl, hb⟩
                        have HB7 := Lib.hid (HN4.out.trans (hb.mono HN4.out.size)); have HK7 := Lib.hid (heap_later HK4.out hb (by simp)); have HR7 := Lib.hid (heap_later HR4.out hb (by simp; omega))
                        have HR4x := HRK
                        clear hb HN4 HK4 HR4 r0 r1 r2 r3 HRK
                        have y7 : wo.heap.size < w7.heap.size := (Array.getElem?_eq_some_iff.1 HR7.out).1
                        have x7 : w3.heap.size < w7.heap.size := (Array.getElem?_eq_some_iff.1 HK7.out).1
                        cases hp1 : possB (withB alle v e (!true)) (rget p.rules j)
                        case false =>
                          have HTR : Hid (tryE (rget p.rules j) ste.1 v e = some true) := Lib.hid (by have h2 : possB (withB alle v e false) (rget p.rules j) = false := hp1; rw [HTRY.out, h2]; rfl)
                          clear hp1
                          have HOP2 : Hid ((openE (bget ste.1 v)).testBit e = true) := Lib.hid (by rw [HOP.out, hcb, hib]; rfl)
                          rw [show rstepE p rs j v ste e = stepE p rs j v ste e by unfold rstepE; rw [HOP2.out]; rfl] at HR2
                          cases rs
                          case false =>
                            obtain ⟨yl, hyl⟩ : ∃ yl : List Int, yl = [] := ⟨_, rfl⟩
                            have HY7 : Hid (w7.ownsRow (w.heap.size + 1) 3 1 (.slice none 0 0) yl.length (intsV yl)) := Lib.hid (by rw [hyl]; exact World.ownsRow_nil _ _ _ _)
                            have HYE : Hid (yl = if false = true then whyOf p fse ⟨v, e, true, j, []⟩ else []) := Lib.hid (by rw [hyl]; rfl)
                            clear hyl
                            have d0 : w7.cell? ⟨w3.heap.size, 0, none⟩ = some (.int .i64 (v : Int)) := by rw [cell_of_row _ _ _ _ _ _ HK7.out]; rfl
                            have d1 : w7.cell? ⟨w3.heap.size, 1, none⟩ = some (.int .i64 (e : Int)) := by rw [cell_of_row _ _ _ _ _ _ HK7.out]; rfl
                            have d2 : w7.cell? ⟨w3.heap.size, 2, none⟩ = some (.bool true) := by rw [cell_of_row _ _ _ _ _ _ HK7.out]; rfl
                            have d3 : w7.cell? ⟨w3.heap.size, 3, none⟩ = some (.int .i64 (j : Int)) := by rw [cell_of_row _ _ _ _ _ _ HK7.out]; rfl
                            have d4 : w7.cell? ⟨w3.heap.size, 4, none⟩ = some (.slice none 0 0) := by rw [cell_of_row _ _ _ _ _ _ HK7.out]; rfl
                            have hra7 := HRA.out.below HB7.out
                            obtain ⟨cs, hc0, hc2⟩ := hra7.own
                            obtain ⟨i56, hi56, hz0, hz1, hz2⟩ := info_parts Tryd.info56
                            have hck := CK.below (Below.new1 w7 (.cells #[.int .i64 v, .int .i64 e, .bool true, .int .i64 j, .slice none 0 0] 56))
                            have hc1 := own_ck hc0 hck
                            have hnw : (w7.alloc (.cells #[.int .i64 v, .int .i64 e, .bool true, .int .i64 j, .slice none 0 0] 56)).heap[w7.heap.size]? = some (.cells #[.int .i64 v, .int .i64 e, .bool true, .int .i64 j, .slice none 0 0] 56 (0, 0)) := by
                              have h1 := heap_new0 w7 (.cells #[.int .i64 v, .int .i64 e, .bool true, .int .i64 j, .slice none 0 0] 56)
                              have h2 : w7.heap.size = w7.heap.size := by first | rfl | simp [World.setCell]
                              rwa [h2] at h1
                            have hfew := hra7.few
                            have hsz7 := HB7.out.size
                            have hlo7 := hra7.low.size
                            have z7 : w3.heap.size < w7.heap.size := (Array.getElem?_eq_some_iff.1 HK7.out).1
                            go_wp2_with (at_builtin; refine wpList_append_own _ rfl _ _ 35 rfl (w.heap.size + 1) 56 i56 _ 5 56 Tryd.underlying35 hi56 hz0 hz1 hz2 rfl (by decide) _ _ _ rfl hc1 ⟨w7.heap.size, 0, none⟩ 1 1 [.int .i64 v, .int .i64 e, .bool true, .int .i64 j, .slice none 0 0] rfl rfl ?c1 ?c2 ?c3 ?c4 ?c5 ?_)
                            case c1 =>
                              intro q u hq
                              rw [Addr.add_lit, Nat.zero_add, cell_of_row _ _ _ _ _ _ hnw, List.getElem?_toArray]; exact hq
                            case c2 =>
                              intro u hu
                              simp only [List.mem_cons, List.not_mem_nil, or_false] at hu
                              rcases hu with rfl | rfl | rfl | rfl | rfl <;> rfl
                            case c3 => unfold maxLen; omega
                            case c4 => omega
                            case c5 => simp; omega
                            intro v' wg hown8 hgrow8 _
                            have hb1 := Below.new1 w7 (.cells #[.int .i64 v, .int .i64 e, .bool true, .int .i64 j, .slice none 0 0] 56)
                            have hk1 := heap_later HK7.out hb1 z7
                            have hr1 := heap_later HR7.out hb1 (Array.getElem?_eq_some_iff.1 HR7.out).1
                            have hp1 := heap_later hra7.box hb1 (Array.getElem?_eq_some_iff.1 hra7.box).1
                            have hk8 := (hgrow8.block w3.heap.size (Array.getElem?_eq_some_iff.1 hk1).1 (fun hh => by have := HLT.out _ hh.symm; omega)).trans hk1
                            have hr8 := (hgrow8.block wo.heap.size (Array.getElem?_eq_some_iff.1 hr1).1 (fun hh => own_apart hc1 hr1 (by decide) _ hh.symm rfl)).trans hr1
                            have hp8 := (hgrow8.block w.heap.size (Array.getElem?_eq_some_iff.1 hp1).1 (fun hh => own_apart hc1 hp1 (by decide) _ hh.symm rfl)).trans hp1
                            have hf8 : FOwn wg (w.heap.size + 1) v' (fse ++ [⟨v, e, true, j, yl⟩]) := FOwn.appended hc1 hgrow8 (fun i hi => by
                              obtain ⟨e1, e2, e3, e4, yv, e5, e6⟩ := hc2 i hi
                              exact ⟨e1, e2, e3, e4, yv, e5, own_ck e6 hck⟩) (own_ck HY7.out hck) hown8
                            have ha1 := own_ck hra7.alls hck
                            have ha8 := ha1.kept hgrow8 (own_own ha1 hc1 (by decide))
                            have hl8 := (hra7.low.alloc hra7.low.size (.cells #[.int .i64 v, .int .i64 e, .bool true, .int .i64 j, .slice none 0 0] 56)).grown hgrow8 (by simp; omega) (fun q hq => by have := (hc1.lt q hq).1; omega)
                            have HK8 := Lib.hid hk8; have HR8 := Lib.hid hr8; have HP8 := Lib.hid hp8; have HF8 := Lib.hid hf8; have HA8 := Lib.hid ha8; have HL8 := Lib.hid hl8
                            have z8 : w3.heap.size < wg.heap.size := (Array.getElem?_eq_some_iff.1 hk8).1
                            obtain ⟨g5, cp, rfl⟩ := Slice.own_succ hown8
                            clear hnw hown8 hgrow8 hb1 hk1 hr1 hp1 hk8 hr8 hp8 hf8 ha1 ha8 hl8 hc0 hc1 hc2 hck cs hi56 hz0 hz1 hz2 d0 d1 d2 d3 d4 HB7 HK7 HR7 HY7 hra7 z7
                            have d2 : wg.cell? ⟨w3.heap.size, 2, none⟩ = some (.bool true) := by rw [cell_of_row _ _ _ _ _ _ HK8.out]; rfl
                            go_wp2_with fail
                            refine (refWithOwn_any alle v e true _ wg (B := wg.heap.size) (bnds_own HA8.out rfl (by have := HRA.out.alen8; omega)) (Nat.le_refl _) (by have := HRA.out.alen8; omega) hva (by omega) HRA.out.s12.u64).mono ?_
                            rintro e1 w9 ⟨bv', rfl, hbo, hb9⟩
                            have hck9 := CK.below hb9
                            have hst := HRA.out.step (y := yl) (av' := bv') (lv' := .slice (some ⟨g5, 0, none⟩) (fse.length + 1) cp) (W' := w9) hva het HOP2.out HTR.out HYE.out (HF8.out.ck hck9) (own_mono hbo (by have := HL8.out.size; have := HP8.out; have := (Array.getElem?_eq_some_iff.1 HP8.out).1; omega)) (heap_later HP8.out hb9 (Array.getElem?_eq_some_iff.1 HP8.out).1) (HL8.out.trans (hb9.mono HL8.out.size))
                            have HST := Lib.hid hst.1; have HDN := Lib.hid (HCH.out.down hst.2); have HR9 := Lib.hid (heap_later HR8.out hb9 (Array.getElem?_eq_some_iff.1 HR8.out).1)
                            obtain ⟨b9, n9, c9, rfl⟩ : ∃ a n c, bv' = .slice a n c := by obtain ⟨a, c, h⟩ := own_form hbo; exact ⟨_, _, _, h⟩
                            clear hst hbo hck9 hb9 d2
                            go_wp2
                            go_roundw
                            case rel => exact ⟨e + 1, stepE p false j v ste e, withB alle v e true, fse ++ [⟨v, e, true, j, yl⟩], true, by omega, by go_num, rfl, HST.out, HR2.out, HDN.out, HR9.out⟩
                            case measure => simp [intOf]; omega
                          case true =>
                            have hra7 := HRA.out.below HB7.out
                            have c0 : w7.cell? ⟨w.heap.size, 0, none⟩ = some (.slice ba p.bounds.length bc) := by rw [cell_of_row _ _ _ _ _ _ hra7.box]; rfl
                            have c1 : w7.cell? ⟨w.heap.size, 1, none⟩ = some (.slice (some ⟨rb, ro, none⟩) p.rules.length rc) := by rw [cell_of_row _ _ _ _ _ _ hra7.box]; rfl
                            have xw7 : w.heap.size < w7.heap.size := (Array.getElem?_eq_some_iff.1 hra7.box).1
                            have d0 : w7.cell? ⟨w3.heap.size, 0, none⟩ = some (.int .i64 (v : Int)) := by rw [cell_of_row _ _ _ _ _ _ HK7.out]; rfl
                            have d1 : w7.cell? ⟨w3.heap.size, 1, none⟩ = some (.int .i64 (e : Int)) := by rw [cell_of_row _ _ _ _ _ _ HK7.out]; rfl
                            have d2 : w7.cell? ⟨w3.heap.size, 2, none⟩ = some (.bool true) := by rw [cell_of_row _ _ _ _ _ _ HK7.out]; rfl
                            have d3 : w7.cell? ⟨w3.heap.size, 3, none⟩ = some (.int .i64 (j : Int)) := by rw [cell_of_row _ _ _ _ _ _ HK7.out]; rfl
                            have d4 : w7.cell? ⟨w3.heap.size, 4, none⟩ = some (.slice none 0 0) := by rw [cell_of_row _ _ _ _ _ _ HK7.out]; rfl
                            have hfe := hra7.few
                            have HWY := Lib.hid (refWhy_any p HPO.out fse hra7.fit (by omega) v e j true hvn het hlt none 0 0 _ _ _ w7 (B := w7.heap.size) ((HBV.out.below hra7.low hB).mono (by omega)) ((HRV.out.below hra7.low hB).mono (by omega)) (hra7.own.fcts (by omega) (fun i hi => by have := hra7.short i hi; omega)) (Nat.le_refl _))
                            clear hra7 hfe
                            go_wp2_with fail
                            refine HWY.out.mono ?_
                            rintro e1 w8 ⟨yv, rfl, hyo, hb8⟩
                            clear c0 c1 d0 d1 d2 d3 d4 HWY
                            obtain ⟨yl, hyl⟩ : ∃ yl : List Int, yl = whyOf p fse ⟨v, e, true, j, []⟩ := ⟨_, rfl⟩
                            rw [← hyl] at hyo
                            have HYE : Hid (yl = if true = true then whyOf p fse ⟨v, e, true, j, []⟩ else []) := Lib.hid hyl
                            obtain ⟨ya, yc, rfl⟩ := own_form hyo
                            have HB8 := Lib.hid (HB7.out.trans (hb8.mono HB7.out.size)); have HK8 := Lib.hid (heap_later HK7.out hb8 x7); have HR8 := Lib.hid (heap_later HR7.out hb8 y7)
                            have x8 : w3.heap.size < w8.heap.size := (Array.getElem?_eq_some_iff.1 HK8.out).1
                            have d0 : w8.cell? ⟨w3.heap.size, 0, none⟩ = some (.int .i64 (v : Int)) := by rw [cell_of_row _ _ _ _ _ _ HK8.out]; rfl
                            have d1 : w8.cell? ⟨w3.heap.size, 1, none⟩ = some (.int .i64 (e : Int)) := by rw [cell_of_row _ _ _ _ _ _ HK8.out]; rfl
                            have d2 : w8.cell? ⟨w3.heap.size, 2, none⟩ = some (.bool true) := by rw [cell_of_row _ _ _ _ _ _ HK8.out]; rfl
                            have d3 : w8.cell? ⟨w3.heap.size, 3, none⟩ = some (.int .i64 (j : Int)) := by rw [cell_of_row _ _ _ _ _ _ HK8.out]; rfl
                            have d4 : w8.cell? ⟨w3.heap.size, 4, none⟩ = some (.slice none 0 0) := by rw [cell_of_row _ _ _ _ _ _ HK8.out]; rfl
                            have f4 : w8.frozen? ⟨w3.heap.size, 4, none⟩ = false := by simp [World.frozen?, HK8.out]
                            have nr4 : wo.heap.size ≠ w3.heap.size := by have := (Array.getElem?_eq_some_iff.1 HR4x.out).1; omega
                            have hb7 := HB8.out.setCell (p := ⟨w3.heap.size, 4, none⟩) (Nat.le_refl _) (.slice ya yl.length yc)
                            have hk7 : (w8.setCell ⟨w3.heap.size, 4, none⟩ (.slice ya yl.length yc)).heap[w3.heap.size]? = some (.cells #[.int .i64 v, .int .i64 e, .bool true, .int .i64 j, .slice ya yl.length yc] 56 (0, 0)) := set_row HK8.out
                            have hr7 := (Below.heap_setCell w8 ⟨w3.heap.size, 4, none⟩ (.slice ya yl.length yc) _ nr4).trans HR8.out
                            have hy7 : (w8.setCell ⟨w3.heap.size, 4, none⟩ (.slice ya yl.length yc)).ownsRow (w.heap.size + 1) 3 1 (.slice ya yl.length yc) yl.length (intsV yl) := own_type (own_mono hyo (by omega)) (fun k c hk => (Below.heap_setCell w8 ⟨w3.heap.size, 4, none⟩ (.slice ya yl.length yc) _ (fun hh => by have hh' : k = w3.heap.size := hh; rw [hh', HK8.out] at hk; simp only [Option.some.injEq, Obj.cells.injEq] at hk; exact absurd hk.2.1 (by decide))).trans hk)
                            clear HB8 HK8 HR8 nr4 hyo hb8 HB7 HK7 HR7 x7 y7 hyl xw7
                            have HB7 := Lib.hid hb7; have HK7 := Lib.hid hk7; have HR7 := Lib.hid hr7; have HY7 := Lib.hid hy7
                            clear hb7 hk7 hr7 hy7
                            have hra7 := HRA.out.below HB7.out
                            obtain ⟨cs, hc0, hc2⟩ := hra7.own
                            obtain ⟨i56, hi56, hz0, hz1, hz2⟩ := info_parts Tryd.info56
                            have hck := CK.below (Below.new1 (w8.setCell ⟨w3.heap.size, 4, none⟩ (.slice ya yl.length yc)) (.cells #[.int .i64 v, .int .i64 e, .bool true, .int .i64 j, .slice ya yl.length yc] 56))
                            have hc1 := own_ck hc0 hck
                            have hnw : ((w8.setCell ⟨w3.heap.size, 4, none⟩ (.slice ya yl.length yc)).alloc (.cells #[.int .i64 v, .int .i64 e, .bool true, .int .i64 j, .slice ya yl.length yc] 56)).heap[w8.heap.size]? = some (.cells #[.int .i64 v, .int .i64 e, .bool true, .int .i64 j, .slice ya yl.length yc] 56 (0, 0)) := by
                              have h1 := heap_new0 (w8.setCell ⟨w3.heap.size, 4, none⟩ (.slice ya yl.length yc)) (.cells #[.int .i64 v, .int .i64 e, .bool true, .int .i64 j, .slice ya yl.length yc] 56)
                              have h2 : (w8.setCell ⟨w3.heap.size, 4, none⟩ (.slice ya yl.length yc)).heap.size = w8.heap.size := by first | rfl | simp [World.setCell]
                              rwa [h2] at h1
                            have hfew := hra7.few
                            have hsz7 := HB7.out.size
                            have hlo7 := hra7.low.size
                            have z7 : w3.heap.size < (w8.setCell ⟨w3.heap.size, 4, none⟩ (.slice ya yl.length yc)).heap.size := (Array.getElem?_eq_some_iff.1 HK7.out).1
                            go_wp2_with (at_builtin; refine wpList_append_own _ rfl _ _ 35 rfl (w.heap.size + 1) 56 i56 _ 5 56 Tryd.underlying35 hi56 hz0 hz1 hz2 rfl (by decide) _ _ _ rfl hc1 ⟨w8.heap.size, 0, none⟩ 1 1 [.int .i64 v, .int .i64 e, .bool true, .int .i64 j, .slice ya yl.length yc] rfl rfl ?c1 ?c2 ?c3 ?c4 ?c5 ?_)
                            case c1 =>
                              intro q u hq
                              rw [Addr.add_lit, Nat.zero_add, cell_of_row _ _ _ _ _ _ hnw, List.getElem?_toArray]; exact hq
                            case c2 =>
                              intro u hu
                              simp only [List.mem_cons, List.not_mem_nil, or_false] at hu
                              rcases hu with rfl | rfl | rfl | rfl | rfl <;> rfl
                            case c3 => unfold maxLen; omega
                            case c4 => omega
                            case c5 => simp; omega
                            intro v' wg hown8 hgrow8 _
                            have hb1 := Below.new1 (w8.setCell ⟨w3.heap.size, 4, none⟩ (.slice ya yl.length yc)) (.cells #[.int .i64 v, .int .i64 e, .bool true, .int .i64 j, .slice ya yl.length yc] 56)
                            have hk1 := heap_later HK7.out hb1 z7
                            have hr1 := heap_later HR7.out hb1 (Array.getElem?_eq_some_iff.1 HR7.out).1
                            have hp1 := heap_later hra7.box hb1 (Array.getElem?_eq_some_iff.1 hra7.box).1
                            have hk8 := (hgrow8.block w3.heap.size (Array.getElem?_eq_some_iff.1 hk1).1 (fun hh => by have := HLT.out _ hh.symm; omega)).trans hk1
                            have hr8 := (hgrow8.block wo.heap.size (Array.getElem?_eq_some_iff.1 hr1).1 (fun hh => own_apart hc1 hr1 (by decide) _ hh.symm rfl)).trans hr1
                            have hp8 := (hgrow8.block w.heap.size (Array.getElem?_eq_some_iff.1 hp1).1 (fun hh => own_apart hc1 hp1 (by decide) _ hh.symm rfl)).trans hp1
                            have hf8 : FOwn wg (w.heap.size + 1) v' (fse ++ [⟨v, e, true, j, yl⟩]) := FOwn.appended hc1 hgrow8 (fun i hi => by
                              obtain ⟨e1, e2, e3, e4, yv, e5, e6⟩ := hc2 i hi
                              exact ⟨e1, e2, e3, e4, yv, e5, own_ck e6 hck⟩) (own_ck HY7.out hck) hown8
                            have ha1 := own_ck hra7.alls hck
                            have ha8 := ha1.kept hgrow8 (own_own ha1 hc1 (by decide))
                            have hl8 := (hra7.low.alloc hra7.low.size (.cells #[.int .i64 v, .int .i64 e, .bool true, .int .i64 j, .slice ya yl.length yc] 56)).grown hgrow8 (by simp; omega) (fun q hq => by have := (hc1.lt q hq).1; omega)
                            have HK8 := Lib.hid hk8; have HR8 := Lib.hid hr8; have HP8 := Lib.hid hp8; have HF8 := Lib.hid hf8; have HA8 := Lib.hid ha8; have HL8 := Lib.hid hl8
                            have z8 : w3.heap.size < wg.heap.size := (Array.getElem?_eq_some_iff.1 hk8).1
                            obtain ⟨g5, cp, rfl⟩ := Slice.own_succ hown8
                            clear hnw hown8 hgrow8 hb1 hk1 hr1 hp1 hk8 hr8 hp8 hf8 ha1 ha8 hl8 hc0 hc1 hc2 hck cs hi56 hz0 hz1 hz2 d0 d1 d2 d3 d4 HB7 HK7 HR7 HY7 hra7 z7
                            have d2 : wg.cell? ⟨w3.heap.size, 2, none⟩ = some (.bool true) := by rw [cell_of_row _ _ _ _ _ _ HK8.out]; rfl
                            go_wp2_with fail
                            refine (refWithOwn_any alle v e true _ wg (B := wg.heap.size) (bnds_own HA8.out rfl (by have := HRA.out.alen8; omega)) (Nat.le_refl _) (by have := HRA.out.alen8; omega) hva (by omega) HRA.out.s12.u64).mono ?_
                            rintro e1 w9 ⟨bv', rfl, hbo, hb9⟩
                            have hck9 := CK.below hb9
                            have hst := HRA.out.step (y := yl) (av' := bv') (lv' := .slice (some ⟨g5, 0, none⟩) (fse.length + 1) cp) (W' := w9) hva het HOP2.out HTR.out HYE.out (HF8.out.ck hck9) (own_mono hbo (by have := HL8.out.size; have := HP8.out; have := (Array.getElem?_eq_some_iff.1 HP8.out).1; omega)) (heap_later HP8.out hb9 (Array.getElem?_eq_some_iff.1 HP8.out).1) (HL8.out.trans (hb9.mono HL8.out.size))
                            have HST := Lib.hid hst.1; have HDN := Lib.hid (HCH.out.down hst.2); have HR9 := Lib.hid (heap_later HR8.out hb9 (Array.getElem?_eq_some_iff.1 HR8.out).1)
                            obtain ⟨b9, n9, c9, rfl⟩ : ∃ a n c, bv' = .slice a n c := by obtain ⟨a, c, h⟩ := own_form hbo; exact ⟨_, _, _, h⟩
                            clear hst hbo hck9 hb9 d2
                            go_wp2
                            go_roundw
                            case rel => exact ⟨e + 1, stepE p true j v ste e, withB alle v e true, fse ++ [⟨v, e, true, j, yl⟩], true, by omega, by go_num, rfl, HST.out, HR2.out, HDN.out, HR9.out⟩
                            case measure => simp [intOf]; omega
                        case true =>
                          have HP1 : Hid (possB (withB alle v e false) (rget p.rules j) = true) := Lib.hid hp1
                          clear hp1
                          have r0 : w7.cell? ⟨wo.heap.size, 0, none⟩ = some (.int .i64 (rget p.rules j).kind) := by rw [cell_of_row _ _ _ _ _ _ HR7.out]; rfl
                          have r1 : w7.cell? ⟨wo.heap.size, 1, none⟩ = some (.slice (some ⟨vb, vo, none⟩) (rget p.rules j).vars.length vc) := by rw [cell_of_row _ _ _ _ _ _ HR7.out]; rfl
                          have r2 : w7.cell? ⟨wo.heap.size, 2, none⟩ = some (.int .i64 (rget p.rules j).low) := by rw [cell_of_row _ _ _ _ _ _ HR7.out]; rfl
                          have r3 : w7.cell? ⟨wo.heap.size, 3, none⟩ = some (.int .i64 (rget p.rules j).high) := by rw [cell_of_row _ _ _ _ _ _ HR7.out]; rfl
                          have d0 : w7.cell? ⟨w3.heap.size, 0, none⟩ = some (.int .i64 (v : Int)) := by rw [cell_of_row _ _ _ _ _ _ HK7.out]; rfl
                          have d1 : w7.cell? ⟨w3.heap.size, 1, none⟩ = some (.int .i64 (e : Int)) := by rw [cell_of_row _ _ _ _ _ _ HK7.out]; rfl
                          have d2 : w7.cell? ⟨w3.heap.size, 2, none⟩ = some (.bool true) := by rw [cell_of_row _ _ _ _ _ _ HK7.out]; rfl
                          have d3 : w7.cell? ⟨w3.heap.size, 3, none⟩ = some (.int .i64 (j : Int)) := by rw [cell_of_row _ _ _ _ _ _ HK7.out]; rfl
                          have d4 : w7.cell? ⟨w3.heap.size, 4, none⟩ = some (.slice none 0 0) := by rw [cell_of_row _ _ _ _ _ _ HK7.out]; rfl
                          have f2 : w7.frozen? ⟨w3.heap.size, 2, none⟩ = false := by simp [World.frozen?, HK7.out]
                          have hst7 := HB7.out.setCell (p := ⟨w3.heap.size, 2, none⟩) (Nat.le_refl _) (.bool false)
                          have hra8 := HRA.out.below hst7
                          have HFL := Lib.hid (refFollows_any alle HRA.out.s12 (rget p.rules j) (HFIT.out.2.2.2.1 j hlt) (fun i hi => by rw [HRA.out.alen]; exact probOk_range HPO.out j hlt i hi) HRA.out.alen8 v e hva het false j none 0 0 _ _ (w7.setCell ⟨w3.heap.size, 2, none⟩ (.bool false)) (B := (w7.setCell ⟨w3.heap.size, 2, none⟩ (.bool false)).heap.size) ((HVV.out.via HLO.out hra8.low hB).mono (by have := hra8.low.size; omega)) hra8.bnds (Nat.le_refl _))
                          have HS7 := Lib.hid hst7
                          clear hst7 hra8
                          go_wp2_with fail
                          refine HFL.out.mono ?_
                          rintro e1 w9 ⟨rfl, hb9⟩
                          have nr4 : wo.heap.size ≠ w3.heap.size := by have := (Array.getElem?_eq_some_iff.1 HR4x.out).1; omega
                          have hk9 : (w7.setCell ⟨w3.heap.size, 2, none⟩ (.bool false)).heap[w3.heap.size]? = some (.cells #[.int .i64 v, .int .i64 e, .bool false, .int .i64 j, .slice none 0 0] 56 (0, 0)) := set_row HK7.out
                          have hr9 := (Below.heap_setCell w7 ⟨w3.heap.size, 2, none⟩ (.bool false) _ nr4).trans HR7.out
                          have HB9 := Lib.hid (HS7.out.trans (hb9.mono HS7.out.size)); have HK9 := Lib.hid (heap_later hk9 hb9 (Array.getElem?_eq_some_iff.1 hk9).1); have HR9 := Lib.hid (heap_later hr9 hb9 (Array.getElem?_eq_some_iff.1 hr9).1)
                          clear hb9 hk9 hr9 nr4 HB7 HK7 HR7 HS7 HFL x7 y7 f2 d0 d1 d2 d3 d4 r0 r1 r2 r3
                          obtain ⟨w7, rfl⟩ : ∃ w7 : World, w7 = w9 := ⟨_, rfl⟩
                          have HB7 := HB9; have HK7 := HK9; have HR7 := HR9
                          clear HB9 HK9 HR9
                          have y7 : wo.heap.size < w7.heap.size := (Array.getElem?_eq_some_iff.1 HR7.out).1
                          have x7 : w3.heap.size < w7.heap.size := (Array.getElem?_eq_some_iff.1 HK7.out).1
                          cases hp2 : possB (withB alle v e (!false)) (rget p.rules j)
                          case false =>
                            have HTR : Hid (tryE (rget p.rules j) ste.1 v e = some false) := Lib.hid (by have h2 : possB (withB alle v e true) (rget p.rules j) = false := hp2; rw [HTRY.out, HP1.out, h2]; rfl)
                            clear hp2
                            have HOP2 : Hid ((openE (bget ste.1 v)).testBit e = true) := Lib.hid (by rw [HOP.out, hcb, hib]; rfl)
                            rw [show rstepE p rs j v ste e = stepE p rs j v ste e by unfold rstepE; rw [HOP2.out]; rfl] at HR2
                            cases rs
                            case false =>
                              obtain ⟨yl, hyl⟩ : ∃ yl : List Int, yl = [] := ⟨_, rfl⟩
                              have HY7 : Hid (w7.ownsRow (w.heap.size + 1) 3 1 (.slice none 0 0) yl.length (intsV yl)) := Lib.hid (by rw [hyl]; exact World.ownsRow_nil _ _ _ _)
                              have HYE : Hid (yl = if false = true then whyOf p fse ⟨v, e, false, j, []⟩ else []) := Lib.hid (by rw [hyl]; rfl)
                              clear hyl
                              have d0 : w7.cell? ⟨w3.heap.size, 0, none⟩ = some (.int .i64 (v : Int)) := by rw [cell_of_row _ _ _ _ _ _ HK7.out]; rfl
                              have d1 : w7.cell? ⟨w3.heap.size, 1, none⟩ = some (.int .i64 (e : Int)) := by rw [cell_of_row _ _ _ _ _ _ HK7.out]; rfl
                              have d2 : w7.cell? ⟨w3.heap.size, 2, none⟩ = some (.bool false) := by rw [cell_of_row _ _ _ _ _ _ HK7.out]; rfl
                              have d3 : w7.cell? ⟨w3.heap.size, 3, none⟩ = some (.int .i64 (j : Int)) := by rw [cell_of_row _ _ _ _ _ _ HK7.out]; rfl
                              have d4 : w7.cell? ⟨w3.heap.size, 4, none⟩ = some (.slice none 0 0) := by rw [cell_of_row _ _ _ _ _ _ HK7.out]; rfl
                              have hra7 := HRA.out.below HB7.out
                              obtain ⟨cs, hc0, hc2⟩ := hra7.own
                              obtain ⟨i56, hi56, hz0, hz1, hz2⟩ := info_parts Tryd.info56
                              have hck := CK.below (Below.new1 w7 (.cells #[.int .i64 v, .int .i64 e, .bool false, .int .i64 j, .slice none 0 0] 56))
                              have hc1 := own_ck hc0 hck
                              have hnw : (w7.alloc (.cells #[.int .i64 v, .int .i64 e, .bool false, .int .i64 j, .slice none 0 0] 56)).heap[w7.heap.size]? = some (.cells #[.int .i64 v, .int .i64 e, .bool false, .int .i64 j, .slice none 0 0] 56 (0, 0)) := by
                                have h1 := heap_new0 w7 (.cells #[.int .i64 v, .int .i64 e, .bool false, .int .i64 j, .slice none 0 0] 56)
                                have h2 : w7.heap.size = w7.heap.size := by first | rfl | simp [World.setCell]
                                rwa [h2] at h1
                              have hfew := hra7.few
                              have hsz7 := HB7.out.size
                              have hlo7 := hra7.low.size
                              have z7 : w3.heap.size < w7.heap.size := (Array.getElem?_eq_some_iff.1 HK7.out).1
                              go_wp2_with (at_builtin; refine wpList_append_own _ rfl _ _ 35 rfl (w.heap.size + 1) 56 i56 _ 5 56 Tryd.underlying35 hi56 hz0 hz1 hz2 rfl (by decide) _ _ _ rfl hc1 ⟨w7.heap.size, 0, none⟩ 1 1 [.int .i64 v, .int .i64 e, .bool false, .int .i64 j, .slice none 0 0] rfl rfl ?c1 ?c2 ?c3 ?c4 ?c5 ?_)
                              case c1 =>
                                intro q u hq
                                rw [Addr.add_lit, Nat.zero_add, cell_of_row _ _ _ _ _ _ hnw, List.getElem?_toArray]; exact hq
                              case c2 =>
                                intro u hu
                                simp only [List.mem_cons, List.not_mem_nil, or_false] at hu
                                rcases hu with rfl | rfl | rfl | rfl | rfl <;> rfl
                              case c3 => unfold maxLen; omega
                              case c4 => omega
                              case c5 => simp; omega
                              intro v' wg hown8 hgrow8 _
                              have hb1 := Below.new1 w7 (.cells #[.int .i64 v, .int .i64 e, .bool false, .int .i64 j, .slice none 0 0] 56)
                              have hk1 := heap_later HK7.out hb1 z7
                              have hr1 := heap_later HR7.out hb1 (Array.getElem?_eq_some_iff.1 HR7.out).1
                              have hp1 := heap_later hra7.box hb1 (Array.getElem?_eq_some_iff.1 hra7.box).1
                              have hk8 := (hgrow8.block w3.heap.size (Array.getElem?_eq_some_iff.1 hk1).1 (fun hh => by have := HLT.out _ hh.symm; omega)).trans hk1
                              have hr8 := (hgrow8.block wo.heap.size (Array.getElem?_eq_some_iff.1 hr1).1 (fun hh => own_apart hc1 hr1 (by decide) _ hh.symm rfl)).trans hr1
                              have hp8 := (hgrow8.block w.heap.size (Array.getElem?_eq_some_iff.1 hp1).1 (fun hh => own_apart hc1 hp1 (by decide) _ hh.symm rfl)).trans hp1
                              have hf8 : FOwn wg (w.heap.size + 1) v' (fse ++ [⟨v, e, false, j, yl⟩]) := FOwn.appended hc1 hgrow8 (fun i hi => by
                                obtain ⟨e1, e2, e3, e4, yv, e5, e6⟩ := hc2 i hi
                                exact ⟨e1, e2, e3, e4, yv, e5, own_ck e6 hck⟩) (own_ck HY7.out hck) hown8
                              have ha1 := own_ck hra7.alls hck
                              have ha8 := ha1.kept hgrow8 (own_own ha1 hc1 (by decide))
                              have hl8 := (hra7.low.alloc hra7.low.size (.cells #[.int .i64 v, .int .i64 e, .bool false, .int .i64 j, .slice none 0 0] 56)).grown hgrow8 (by simp; omega) (fun q hq => by have := (hc1.lt q hq).1; omega)
                              have HK8 := Lib.hid hk8; have HR8 := Lib.hid hr8; have HP8 := Lib.hid hp8; have HF8 := Lib.hid hf8; have HA8 := Lib.hid ha8; have HL8 := Lib.hid hl8
                              have z8 : w3.heap.size < wg.heap.size := (Array.getElem?_eq_some_iff.1 hk8).1
                              obtain ⟨g5, cp, rfl⟩ := Slice.own_succ hown8
                              clear hnw hown8 hgrow8 hb1 hk1 hr1 hp1 hk8 hr8 hp8 hf8 ha1 ha8 hl8 hc0 hc1 hc2 hck cs hi56 hz0 hz1 hz2 d0 d1 d2 d3 d4 HB7 HK7 HR7 HY7 hra7 z7
                              have d2 : wg.cell? ⟨w3.heap.size, 2, none⟩ = some (.bool false) := by rw [cell_of_row _ _ _ _ _ _ HK8.out]; rfl
                              go_wp2_with fail
                              refine (refWithOwn_any alle v e false _ wg (B := wg.heap.size) (bnds_own HA8.out rfl (by have := HRA.out.alen8; omega)) (Nat.le_refl _) (by have := HRA.out.alen8; omega) hva (by omega) HRA.out.s12.u64).mono ?_
                              rintro e1 w9 ⟨bv', rfl, hbo, hb9⟩
                              have hck9 := CK.below hb9
                              have hst := HRA.out.step (y := yl) (av' := bv') (lv' := .slice (some ⟨g5, 0, none⟩) (fse.length + 1) cp) (W' := w9) hva het HOP2.out HTR.out HYE.out (HF8.out.ck hck9) (own_mono hbo (by have := HL8.out.size; have := HP8.out; have := (Array.getElem?_eq_some_iff.1 HP8.out).1; omega)) (heap_later HP8.out hb9 (Array.getElem?_eq_some_iff.1 HP8.out).1) (HL8.out.trans (hb9.mono HL8.out.size))
                              have HST := Lib.hid hst.1; have HDN := Lib.hid (HCH.out.down hst.2); have HR9 := Lib.hid (heap_later HR8.out hb9 (Array.getElem?_eq_some_iff.1 HR8.out).1)
                              obtain ⟨b9, n9, c9, rfl⟩ : ∃ a n c, bv' = .slice a n c := by obtain ⟨a, c, h⟩ := own_form hbo; exact ⟨_, _, _, h⟩
                              clear hst hbo hck9 hb9 d2
                              go_wp2
                              go_roundw
                              case rel => exact ⟨e + 1, stepE p false j v ste e, withB alle v e false, fse ++ [⟨v, e, false, j, yl⟩], true, by omega, by go_num, rfl, HST.out, HR2.out, HDN.out, HR9.out⟩
                              case measure => simp [intOf]; omega
                            case true =>
                              have hra7 := HRA.out.below HB7.out
                              have c0 : w7.cell? ⟨w.heap.size, 0, none⟩ = some (.slice ba p.bounds.length bc) := by rw [cell_of_row _ _ _ _ _ _ hra7.box]; rfl
                              have c1 : w7.cell? ⟨w.heap.size, 1, none⟩ = some (.slice (some ⟨rb, ro, none⟩) p.rules.length rc) := by rw [cell_of_row _ _ _ _ _ _ hra7.box]; rfl
                              have xw7 : w.heap.size < w7.heap.size := (Array.getElem?_eq_some_iff.1 hra7.box).1
                              have d0 : w7.cell? ⟨w3.heap.size, 0, none⟩ = some (.int .i64 (v : Int)) := by rw [cell_of_row _ _ _ _ _ _ HK7.out]; rfl
                              have d1 : w7.cell? ⟨w3.heap.size, 1, none⟩ = some (.int .i64 (e : Int)) := by rw [cell_of_row _ _ _ _ _ _ HK7.out]; rfl
                              have d2 : w7.cell? ⟨w3.heap.size, 2, none⟩ = some (.bool false) := by rw [cell_of_row _ _ _ _ _ _ HK7.out]; rfl
                              have d3 : w7.cell? ⟨w3.heap.size, 3, none⟩ = some (.int .i64 (j : Int)) := by rw [cell_of_row _ _ _ _ _ _ HK7.out]; rfl
                              have d4 : w7.cell? ⟨w3.heap.size, 4, none⟩ = some (.slice none 0 0) := by rw [cell_of_row _ _ _ _ _ _ HK7.out]; rfl
                              have hfe := hra7.few
                              have HWY := Lib.hid (refWhy_any p HPO.out fse hra7.fit (by omega) v e j false hvn het hlt none 0 0 _ _ _ w7 (B := w7.heap.size) ((HBV.out.below hra7.low hB).mono (by omega)) ((HRV.out.below hra7.low hB).mono (by omega)) (hra7.own.fcts (by omega) (fun i hi => by have := hra7.short i hi; omega)) (Nat.le_refl _))
                              clear hra7 hfe
                              go_wp2_with fail
                              refine HWY.out.mono ?_
                              rintro e1 w8 ⟨yv, rfl, hyo, hb8⟩
                              clear c0 c1 d0 d1 d2 d3 d4 HWY
                              obtain ⟨yl, hyl⟩ : ∃ yl : List Int, yl = whyOf p fse ⟨v, e, false, j, []⟩ := ⟨_, rfl⟩
                              rw [← hyl] at hyo
                              have HYE : Hid (yl = if true = true then whyOf p fse ⟨v, e, false, j, []⟩ else []) := Lib.hid hyl
                              obtain ⟨ya, yc, rfl⟩ := own_form hyo
                              have HB8 := Lib.hid (HB7.out.trans (hb8.mono HB7.out.size)); have HK8 := Lib.hid (heap_later HK7.out hb8 x7); have HR8 := Lib.hid (heap_later HR7.out hb8 y7)
                              have x8 : w3.heap.size < w8.heap.size := (Array.getElem?_eq_some_iff.1 HK8.out).1
                              have d0 : w8.cell? ⟨w3.heap.size, 0, none⟩ = some (.int .i64 (v : Int)) := by rw [cell_of_row _ _ _ _ _ _ HK8.out]; rfl
                              have d1 : w8.cell? ⟨w3.heap.size, 1, none⟩ = some (.int .i64 (e : Int)) := by rw [cell_of_row _ _ _ _ _ _ HK8.out]; rfl
                              have d2 : w8.cell? ⟨w3.heap.size, 2, none⟩ = some (.bool false) := by rw [cell_of_row _ _ _ _ _ _ HK8.out]; rfl
                              have d3 : w8.cell? ⟨w3.heap.size, 3, none⟩ = some (.int .i64 (j : Int)) := by rw [cell_of_row _ _ _ _ _ _ HK8.out]; rfl
                              have d4 : w8.cell? ⟨w3.heap.size, 4, none⟩ = some (.slice none 0 0) := by rw [cell_of_row _ _ _ _ _ _ HK8.out]; rfl
                              have f4 : w8.frozen? ⟨w3.heap.size, 4, none⟩ = false := by simp [World.frozen?, HK8.out]
                              have nr4 : wo.heap.size ≠ w3.heap.size := by have := (Array.getElem?_eq_some_iff.1 HR4x.out).1; omega
                              have hb7 := HB8.out.setCell (p := ⟨w3.heap.size, 4, none⟩) (Nat.le_refl _) (.slice ya yl.length yc)
                              have hk7 : (w8.setCell ⟨w3.heap.size, 4, none⟩ (.slice ya yl.length yc)).heap[w3.heap.size]? = some (.cells #[.int .i64 v, .int .i64 e, .bool false, .int .i64 j, .slice ya yl.length yc] 56 (0, 0)) := set_row HK8.out
                              have hr7 := (Below.heap_setCell w8 ⟨w3.heap.size, 4, none⟩ (.slice ya yl.length yc) _ nr4).trans HR8.out
                              have hy7 : (w8.setCell ⟨w3.heap.size, 4, none⟩ (.slice ya yl.length yc)).ownsRow (w.heap.size + 1) 3 1 (.slice ya yl.length yc) yl.length (intsV yl) := own_type (own_mono hyo (by omega)) (fun k c hk => (Below.heap_setCell w8 ⟨w3.heap.size, 4, none⟩ (.slice ya yl.length yc) _ (fun hh => by have hh' : k = w3.heap.size := hh; rw [hh', HK8.out] at hk; simp only [Option.some.injEq, Obj.cells.injEq] at hk; exact absurd hk.2.1 (by decide))).trans hk)
                              clear HB8 HK8 HR8 nr4 hyo hb8 HB7 HK7 HR7 x7 y7 hyl xw7
                              have HB7 := Lib.hid hb7; have HK7 := Lib.hid hk7; have HR7 := Lib.hid hr7; have HY7 := Lib.hid hy7
                              clear hb7 hk7 hr7 hy7
                              have hra7 := HRA.out.below HB7.out
                              obtain ⟨cs, hc0, hc2⟩ := hra7.own
                              obtain ⟨i56, hi56, hz0, hz1, hz2⟩ := info_parts Tryd.info56
                              have hck := CK.below (Below.new1 (w8.setCell ⟨w3.heap.size, 4, none⟩ (.slice ya yl.length yc)) (.cells #[.int .i64 v, .int .i64 e, .bool false, .int .i64 j, .slice ya yl.length yc] 56))
                              have hc1 := own_ck hc0 hck
                              have hnw : ((w8.setCell ⟨w3.heap.size, 4, none⟩ (.slice ya yl.length yc)).alloc (.cells #[.int .i64 v, .int .i64 e, .bool false, .int .i64 j, .slice ya yl.length yc] 56)).heap[w8.heap.size]? = some (.cells #[.int .i64 v, .int .i64 e, .bool false, .int .i64 j, .slice ya yl.length yc] 56 (0, 0)) := by
                                have h1 := heap_new0 (w8.setCell ⟨w3.heap.size, 4, none⟩ (.slice ya yl.length yc)) (.cells #[.int .i64 v, .int .i64 e, .bool false, .int .i64 j, .slice ya yl.length yc] 56)
                                have h2 : (w8.setCell ⟨w3.heap.size, 4, none⟩ (.slice ya yl.length yc)).heap.size = w8.heap.size := by first | rfl | simp [World.setCell]
                                rwa [h2] at h1
                              have hfew := hra7.few
                              have hsz7 := HB7.out.size
                              have hlo7 := hra7.low.size
                              have z7 : w3.heap.size < (w8.setCell ⟨w3.heap.size, 4, none⟩ (.slice ya yl.length yc)).heap.size := (Array.getElem?_eq_some_iff.1 HK7.out).1
                              go_wp2_with (at_builtin; refine wpList_append_own _ rfl _ _ 35 rfl (w.heap.size + 1) 56 i56 _ 5 56 Tryd.underlying35 hi56 hz0 hz1 hz2 rfl (by decide) _ _ _ rfl hc1 ⟨w8.heap.size, 0, none⟩ 1 1 [.int .i64 v, .int .i64 e, .bool false, .int .i64 j, .slice ya yl.length yc] rfl rfl ?c1 ?c2 ?c3 ?c4 ?c5 ?_)
                              case c1 =>
                                intro q u hq
                                rw [Addr.add_lit, Nat.zero_add, cell_of_row _ _ _ _ _ _ hnw, List.getElem?_toArray]; exact hq
                              case c2 =>
                                intro u hu
                                simp only [List.mem_cons, List.not_mem_nil, or_false] at hu
                                rcases hu with rfl | rfl | rfl | rfl | rfl <;> rfl
                              case c3 => unfold maxLen; omega
                              case c4 => omega
                              case c5 => simp; omega
                              intro v' wg hown8 hgrow8 _
                              have hb1 := Below.new1 (w8.setCell ⟨w3.heap.size, 4, none⟩ (.slice ya yl.length yc)) (.cells #[.int .i64 v, .int .i64 e, .bool false, .int .i64 j, .slice ya yl.length yc] 56)
                              have hk1 := heap_later HK7.out hb1 z7
                              have hr1 := heap_later HR7.out hb1 (Array.getElem?_eq_some_iff.1 HR7.out).1
                              have hp1 := heap_later hra7.box hb1 (Array.getElem?_eq_some_iff.1 hra7.box).1
                              have hk8 := (hgrow8.block w3.heap.size (Array.getElem?_eq_some_iff.1 hk1).1 (fun hh => by have := HLT.out _ hh.symm; omega)).trans hk1
                              have hr8 := (hgrow8.block wo.heap.size (Array.getElem?_eq_some_iff.1 hr1).1 (fun hh => own_apart hc1 hr1 (by decide) _ hh.symm rfl)).trans hr1
                              have hp8 := (hgrow8.block w.heap.size (Array.getElem?_eq_some_iff.1 hp1).1 (fun hh => own_apart hc1 hp1 (by decide) _ hh.symm rfl)).trans hp1
                              have hf8 : FOwn wg (w.heap.size + 1) v' (fse ++ [⟨v, e, false, j, yl⟩]) := FOwn.appended hc1 hgrow8 (fun i hi => by
                                obtain ⟨e1, e2, e3, e4, yv, e5, e6⟩ := hc2 i hi
                                exact ⟨e1, e2, e3, e4, yv, e5, own_ck e6 hck⟩) (own_ck HY7.out hck) hown8
                              have ha1 := own_ck hra7.alls hck
                              have ha8 := ha1.kept hgrow8 (own_own ha1 hc1 (by decide))
                              have hl8 := (hra7.low.alloc hra7.low.size (.cells #[.int .i64 v, .int .i64 e, .bool false, .int .i64 j, .slice ya yl.length yc] 56)).grown hgrow8 (by simp; omega) (fun q hq => by have := (hc1.lt q hq).1; omega)
                              have HK8 := Lib.hid hk8; have HR8 := Lib.hid hr8; have HP8 := Lib.hid hp8; have HF8 := Lib.hid hf8; have HA8 := Lib.hid ha8; have HL8 := Lib.hid hl8
                              have z8 : w3.heap.size < wg.heap.size := (Array.getElem?_eq_some_iff.1 hk8).1
                              obtain ⟨g5, cp, rfl⟩ := Slice.own_succ hown8
                              clear hnw hown8 hgrow8 hb1 hk1 hr1 hp1 hk8 hr8 hp8 hf8 ha1 ha8 hl8 hc0 hc1 hc2 hck cs hi56 hz0 hz1 hz2 d0 d1 d2 d3 d4 HB7 HK7 HR7 HY7 hra7 z7
                              have d2 : wg.cell? ⟨w3.heap.size, 2, none⟩ = some (.bool false) := by rw [cell_of_row _ _ _ _ _ _ HK8.out]; rfl
                              go_wp2_with fail
                              refine (refWithOwn_any alle v e false _ wg (B := wg.heap.size) (bnds_own HA8.out rfl (by have := HRA.out.alen8; omega)) (Nat.le_refl _) (by have := HRA.out.alen8; omega) hva (by omega) HRA.out.s12.u64).mono ?_
                              rintro e1 w9 ⟨bv', rfl, hbo, hb9⟩
                              have hck9 := CK.below hb9
                              have hst := HRA.out.step (y := yl) (av' := bv') (lv' := .slice (some ⟨g5, 0, none⟩) (fse.length + 1) cp) (W' := w9) hva het HOP2.out HTR.out HYE.out (HF8.out.ck hck9) (own_mono hbo (by have := HL8.out.size; have := HP8.out; have := (Array.getElem?_eq_some_iff.1 HP8.out).1; omega)) (heap_later HP8.out hb9 (Array.getElem?_eq_some_iff.1 HP8.out).1) (HL8.out.trans (hb9.mono HL8.out.size))
                              have HST := Lib.hid hst.1; have HDN := Lib.hid (HCH.out.down hst.2); have HR9 := Lib.hid (heap_later HR8.out hb9 (Array.getElem?_eq_some_iff.1 HR8.out).1)
                              obtain ⟨b9, n9, c9, rfl⟩ : ∃ a n c, bv' = .slice a n c := by obtain ⟨a, c, h⟩ := own_form hbo; exact ⟨_, _, _, h⟩
                              clear hst hbo hck9 hb9 d2
                              go_wp2
                              go_roundw
                              case rel => exact ⟨e + 1, stepE p true j v ste e, withB alle v e false, fse ++ [⟨v, e, false, j, yl⟩], true, by omega, by go_num, rfl, HST.out, HR2.out, HDN.out, HR9.out⟩
                              case measure => simp [intOf]; omega
                          case true =>
                            rw [show rstepE p rs j v ste e = ste by
                              have h2 : possB (withB alle v e true) (rget p.rules j) = true := hp2
                              unfold rstepE
                              rw [HOP.out, hcb, hib]
                              exact stepE_none (by rw [HTRY.out, HP1.out, h2]; rfl)] at HR2
                            clear hp2 hcb hib
                            have hra9 := HRA.out.below HB7.out
                            have HRA9 := Lib.hid hra9
                            clear hra9
                            go_wp2
                            go_roundw
                            case rel => exact ⟨e + 1, ste, alle, fse, ch, by omega, by go_num, rfl, HRA9.out, HR2.out, HCH.out, HR7.out⟩
                            case measure => simp [intOf]; omega
                  · have he2 : e = 12 := by omega
                    subst he2
                    have hend : ste = sto := by have := HRE.out; rw [List.drop_of_length_le (by simp)] at this; exact this
                    have HE := Lib.hid hend
                    clear hend hrae hrbk
                    go_wp2
                    go_roundw
                    case rel => exact ⟨i + 1, ste, alle, fse, ch, by omega, by go_num, rfl, HRA.out, by rw [HE.out]; exact HSV.out, HCH.out, HRK.out⟩
                    case measure => simp [intOf]; omega
              · have hi2 : i = (rget p.rules j).vars.length := by omega
                subst hi2
                have hend : sti = ruleSt p rs j stj := by have := HRI.out; rw [List.drop_length] at this; exact this
                have hrnext : rulesSt p rs (p.rules.length - (j + 1)) (j + 1) sti = rulesSt p rs p.rules.length 0 st := by
                  rw [← HRJ.out, show p.rules.length - j = (p.rules.length - (j + 1)) + 1 by omega, hend]
                  conv => rhs; unfold rulesSt
                  rw [HPB.out]; rfl
                have HRN := Lib.hid hrnext
                clear hend hrnext hrai hlow
                go_wp2
                go_roundw
                case rel => exact ⟨j + 1, sti, alli, fsi, ch, by omega, by go_num, rfl, HRA.out, HRN.out, HCH.out⟩
                case measure => simp [intOf]; omega
        · have hj2 : j = p.rules.length := by omega
          subst hj2
          have hst : rulesSt p rs p.rules.length 0 st = (stj, none) := by rw [← hrj, Nat.sub_self]; rfl
          have HST := Lib.hid hst
          clear hraj hrj hch hst
          go_wp2
          go_roundg (gk - 1)
          case measure => have := HC.out.2; omega
          case rel =>
            obtain ⟨g, hg⟩ : ∃ g, gk = g + 1 := ⟨gk - 1, by have := HC.out.2; omega⟩
            have hrun : (if stj.1 = st.1 then (stj, (-1 : Int)) else runSt p rs g stj) = refRes p rs := by
              rw [← HC.out.1, hg]
              conv => rhs; unfold runSt
              rw [HST.out]
            subst hg
            refine ⟨stj, allj, fsj, ch, rfl, HRA.out, fun h => ?_, fun h => ?_⟩
            · have hl : openN stj.1 < openN st.1 := by have := HCH.out.flag; rw [h] at this; simpa using this.symm
              rw [if_neg (fun he => by rw [he] at hl; omega)] at hrun
              exact ⟨hrun, by have := HC.out.2; show openN stj.1 < g + 1 - 1; omega⟩
            · have hl : ¬ openN stj.1 < openN st.1 := by have := HCH.out.flag; rw [h] at this; simpa using this.symm
              rw [if_pos (HCH.out.same hl)] at hrun
              exact hrun
end Go.Proofs.YtilbbnjfaoldoaaDoor
