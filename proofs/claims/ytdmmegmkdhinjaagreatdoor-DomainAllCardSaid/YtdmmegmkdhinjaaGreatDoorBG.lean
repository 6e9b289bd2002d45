/- Package domain: run. · Package domain: Propagate. · Package domain: right cuts, Verify. · Package domain: Verify. -/
import Derived.Test.YtdmmegmkdhinjaaGreatDoorBF
namespace Go.Proofs.YtdmmegmkdhinjaaGreatDoor
open Go Go.RowKit
attribute [local go_sem] cell_grow u64_sAnd u64_sOr u64_sDiff sDiff_all zeqI zneI sAnd_bit_zero sAnd_bit_zeroN sAnd_bit_nonzero Oper.semAt_some wide_fn wide_depth

theorem nget_take {l : List Nat} {n i : Nat} (h : i < n) : nget (l.take n) i = nget l i := by unfold nget; rw [List.getElem?_take, if_pos h]
theorem prop_us {W : World} {x n : Nat} {t : TypeId} {bv rv lv : Value} {f : List Nat} {rs : Bool} (h8 : f.length = 8) (h : W.heap[x]? = some (.cells (propC bv rv f lv rs).toArray t (0, 0))) (hn : n ≤ 8) : Us W W.heap.size (.slice (some ⟨x, 2, none⟩) n 8) (f.take n) := by
  have hl : (f.take n).length = n := by rw [List.length_take, h8]; omega
  refine ⟨by omega, some ⟨x, 2, none⟩, 8, by rw [hl], by omega, by decide, fun _ => ⟨x, 2, rfl, (Array.getElem?_eq_some_iff.1 h).1, fun i hi => ?_⟩⟩
  rw [hl, Nat.mul_one] at hi
  show W.cell? ⟨x, 2 + i, none⟩ = some (.int .u64 (nget (f.take n) i : Nat))
  rw [nget_take hi]
  exact (propC_cells h8 h).2.2.1 i (by omega)
theorem quiet_eql {C : World → Prop} {a : Act} {o : Oper} {K : Act → Prop} (x y : Operand) (T : TypeId) {f g : List Nat} {r : Value} (ho : o.op = .binOp .eql 77 x y T) (hx : a.eval x = fieldV f) (hy : a.eval y = fieldV g)
    (hr : ∀ w, (binOp .eql 77 (fieldV f) (fieldV g)).run Tryz.prog w = .ok r w) (h : K (a.put o.dst r)) : o.quiet Tryz.prog a C K := by
  refine ⟨r, fun w hw => ?_, h⟩
  have hg := run_eqGuard_agg (P := Tryz.prog) (w := w) .eql 77 x y (natsV f).toArray (natsV g).toArray Tryz.eqGuardType77
  have hg' : (eqGuard .eql 77 x y (fieldV f) (fieldV g)).run Tryz.prog w = .ok () w := hg
  unfold Oper.quietAt execOp
  simp only [ho, hx, hy, Sem.run_bind, hg', hr, Result.andThen_ok, Sem.run_pure, Oper.quietUpon]
  exact ⟨trivial, trivial⟩
set_option maxRecDepth 100000 in
set_option maxHeartbeats 2000000 in
theorem empty_any (p : Dp) (f : List Nat) (rs : Bool) (da : Option Addr) (dc : Nat) (rv lv : Value) (x : Nat) (w : World) (hx : w.heap[x]? = some (.cells (propC (.slice da p.doms.length dc) rv f lv rs).toArray 80 (0, 0))) (h8 : f.length = 8) (hd8 : p.doms.length ≤ 8) :
    Gives Tryz.prog 74 #[.pointer (some ⟨x, 0, none⟩)] w (.bool ((f.take p.doms.length).contains 0)) := by
  unfold Gives
  have zx : x < w.heap.size := (Array.getElem?_eq_some_iff.1 hx).1
  have x0 := (propC_cells h8 hx).1
  have hc : ∀ d os, Gives Tryz.prog 60 #[.slice (some ⟨x, 2, none⟩) p.doms.length 8, .int .u64 0] (Go.Sort.grow (redrawn w d) os) (.bool ((f.take p.doms.length).contains 0)) := fun d os =>
    Gives.of_same (contains_us _ _ 0 _ ((prop_us h8 hx hd8).below (below_regrown w d os) (Nat.le_refl _)))
  have HC := Lib.hid hc
  have hdI : ((p.doms.length : Nat) : Int) ≤ 8 := by omega
  clear hc hx
  go_enter Tryz.func74, Tryz.ntmps74
  go_wp2_with fail
  refine wp_region_qb (by kernel_rfl) (by kernel_rfl) ?_
  repeat go_big_quiet_step ((with_reducible exact Gives.quiet (HC.out _ _)))
  refine wpQuiet_nil ?_
  intro w2 hb2
  go_wp2
  go_ret
  exact ⟨rfl, hb2⟩
theorem placesD_cons (p : Dp) (rs : Bool) (n i : Nat) (is : List Nat) (st : Sd) : placesD p rs n (i :: is) st = if nget (sweepD p rs n i st).1 (iget (drget p.rules n).vars i).toNat = 0 then (sweepD p rs n i st, false) else placesD p rs n is (sweepD p rs n i st) := rfl
theorem rulesD_cons (p : Dp) (rs : Bool) (n : Nat) (ns : List Nat) (st : Sd) : rulesD p rs (n :: ns) st = if (placesD p rs n (List.range (drget p.rules n).vars.length) st).2 then rulesD p rs ns (placesD p rs n (List.range (drget p.rules n).vars.length) st).1 else placesD p rs n (List.range (drget p.rules n).vars.length) st := rfl
theorem roundsD_succ (p : Dp) (rs : Bool) (k : Nat) (st : Sd) : roundsD p rs (k + 1) st = if (rulesD p rs (List.range p.rules.length) st).2 then (if (rulesD p rs (List.range p.rules.length) st).1.1 = st.1 then (rulesD p rs (List.range p.rules.length) st).1 else roundsD p rs k (rulesD p rs (List.range p.rules.length) st).1) else (rulesD p rs (List.range p.rules.length) st).1 := rfl
theorem range_cons (n k : Nat) : List.range' n (k + 1) = n :: List.range' (n + 1) k := rfl
set_option maxRecDepth 100000 in
set_option maxHeartbeats 4000000 in
theorem run_any (p : Dp) (rs : Bool) (f : List Nat) (dv rv lv : Value) (x : Nat) (w : World) {B base : Nat} (hdv : Us w B dv p.doms) (hrv : DRls w B rv p.rules) (hB0 : 0 < B) (hB : B ≤ x) (hBb : B ≤ base)
    (hx : w.heap[x]? = some (.cells (propC dv rv f lv rs).toArray 80 (0, 0))) (hf : COwn w base lv []) (hbase : base ≤ w.heap.size) (hfo : Fok f) (hpo : probD p = true) (hT : Tab w) :
    Calls Tryz.prog 44 #[.pointer (some ⟨x, 0, none⟩)] w fun e w' =>
      (∃ v, e = .returned v) ∧ ∃ lv', w'.heap[x]? = some (.cells (propC dv rv (runD p rs f).1 lv' rs).toArray 80 (0, 0)) ∧ COwn w' base lv' (runD p rs f).2 ∧ KeptT 73 (One x) base w w' := by
  have HDV := Lib.hid hdv; have HRV := Lib.hid hrv; have HT := Lib.hid hT; have HX := Lib.hid hx; have HF := Lib.hid hf; have HPO := Lib.hid hpo; have HPP := Lib.hid (probD_parts hpo); have HFO := Lib.hid hfo
  obtain ⟨da, dc, rfl⟩ := hdv.slice
  obtain ⟨ra, rc, rfl⟩ := hrv.slice
  have hxl : x < w.heap.size := (Array.getElem?_eq_some_iff.1 hx).1
  have hrl12 := HPP.out.2.2.1
  have hem := empty_any p f rs da dc _ lv x w hx hfo.len HPP.out.2.1
  have HEM := Lib.hid hem
  clear hdv hrv hT hx hf hpo hem hfo
  go_enter Tryz.func44, Tryz.ntmps44
  go_wp2_with fail
  refine HEM.out.mono ?_
  rintro e w1 ⟨rfl, hb1⟩
  have hx1 := heap_later HX.out hb1 hxl
  have hc1 := HF.out.ck (CK.below hb1)
  have HX1 := Lib.hid hx1; have HC1 := Lib.hid hc1; have HB1 := Lib.hid hb1
  clear hx1 hc1 hb1 HX HF HEM
  cases hem : (f.take p.doms.length).contains 0
  case true =>
    have HR : Hid (runD p rs f = (f, [])) := Lib.hid (by unfold runD; rw [if_pos hem])
    clear hem
    have HRES := HR
    go_wp2
    refine bodyPost_ret (results_none rfl _ _ _) rfl ⟨⟨_, rfl⟩, ?_⟩
    rw [HRES.out]
    exact ⟨_, HX1.out, HC1.out, KeptT.of_below HB1.out⟩
  case false =>
    have HR : Hid (runD p rs f = roundsD p rs (totalD f + 1) (f, [])) := Lib.hid (by unfold runD; rw [if_neg (by rw [hem]; decide)])
    clear hem
    go_wp2_with fail
    go_loopg [] (totalD f + 1) (fun g wr => ∃ st lv, totalD st.1 < g ∧ Good st ∧ roundsD p rs g st = runD p rs f ∧ wr.heap[x]? = some (.cells (propC (.slice da p.doms.length dc) (.slice ra p.rules.length rc) st.1 lv rs).toArray 80 (0, 0)) ∧
      COwn wr base lv st.2 ∧ KeptT 73 (One x) base w wr)
    case atStart => exact ⟨(f, []), _, Nat.lt_succ_self _, Good.start HFO.out, HR.out.symm, HX1.out, HC1.out, KeptT.of_below HB1.out⟩
    case round =>
      obtain ⟨wo, rfl⟩ : ∃ wo : World, wo = wr := ⟨_, rfl⟩
      obtain ⟨st, lv', hgk, hg, hrun, hxr, hcr, hkp⟩ := hrel
      have hxs : x < wo.heap.size := (Array.getElem?_eq_some_iff.1 hxr).1
      have RG := Lib.hid (prop_range hg.f.len hxr)
      have HG := Lib.hid hg; have HRUN := Lib.hid hrun; have HXR := Lib.hid hxr; have HCR := Lib.hid hcr; have HKP := Lib.hid hkp
      have hn0 := heap_new0 wo (.cells (natsV zero8).toArray 77)
      have HSF := Lib.hid (field_store HG.out.f.len hn0 rfl)
      clear hg hrun hxr hcr hkp hn0 HX1 HC1 HB1
      have RI : Hid ((Tryz.prog.info? 77).map (·.size) = some (natsV st.1).length) := Lib.hid (by rw [natsV_length, HG.out.f.len]; kernel_rfl)
      go_wp2_with (first | (refine wpList_load_mid rfl 77 _ rfl _ _ rfl _ _ RG.out Tryz.underlying77 rfl RI.out ?_) | (
                 refine wpList_store_mid rfl 77 _ _ rfl _ _ _ rfl rfl HSF.out.1 HSF.out.2.1 (all_oneCell_toArray (natsV_one _)) ?_
                 generalize hW2 : World.setCells _ _ _ _ = W2
                 have k2 : W2.heap[wo.heap.size]? = some (.cells (natsV st.1).toArray 77 (0, 0)) := by rw [← hW2]; exact HSF.out.2.2
                 have hb2 : Below wo.heap.size wo W2 := by rw [← hW2]; exact below_setCells (Nat.le_refl _) _ _ _ (Below.new1 _ _)
                 have hs2 : wo.heap.size + 1 ≤ W2.heap.size := by have := (Array.getElem?_eq_some_iff.1 k2).1; omega
                 clear hW2
                 have x1 : W2.cell? ⟨x, 1, none⟩ = some (.slice ra p.rules.length rc) := (propC_cells HG.out.f.len (heap_later HXR.out hb2 hxs)).2.1))
      have hx2 := heap_later HXR.out hb2 hxs
      have hc2 := HCR.out.ck (CK.below hb2)
      have hkp2 := HKP.out.below hb2
      have HK2 := Lib.hid k2; have HX2 := Lib.hid hx2; have HC2 := Lib.hid hc2; have HKP2 := Lib.hid hkp2
      have hs2' := hs2
      clear k2 hb2 x1 hx2 hc2 hkp2 RG RI HXR HCR HKP HSF
      go_loopw [18] (fun i wr => ∃ (n : Nat) (stn : Sd) (ln : Value), n ≤ p.rules.length ∧ i = .int .i64 n ∧ Good stn ∧ Dec st stn ∧ rulesD p rs (List.range' n (p.rules.length - n)) stn = rulesD p rs (List.range p.rules.length) st ∧
        wr.heap[x]? = some (.cells (propC (.slice da p.doms.length dc) (.slice ra p.rules.length rc) stn.1 ln rs).toArray 80 (0, 0)) ∧ COwn wr base ln stn.2 ∧ KeptT 73 (One x) base w wr ∧
        wr.heap[wo.heap.size]? = some (.cells (natsV st.1).toArray 77 (0, 0))) (fun i _ => p.rules.length - (intOf i).toNat)
      case atStart => exact ⟨0, st, lv', Nat.zero_le _, rfl, HG.out, Dec.refl _, by rw [Nat.sub_zero, List.range_eq_range'], HX2.out, HC2.out, HKP2.out, HK2.out⟩
      case round =>
        obtain ⟨n, stn, ln, hn, rfl, hgn, hdn, hrn, hxn, hcn, hkn, hbn⟩ := hrel
        have hxs3 : x < wr.heap.size := (Array.getElem?_eq_some_iff.1 hxn).1
        have hwsz : w.heap.size ≤ wr.heap.size := hkn.size
        have hlow : Below B w wr := hkn.toBelow hBb (by omega) (fun q hq h => by unfold One at h; omega)
        have HGN := Lib.hid hgn; have HDN := Lib.hid hdn; have HRN := Lib.hid hrn; have HXN := Lib.hid hxn; have HCN := Lib.hid hcn; have HKN := Lib.hid hkn; have HBN := Lib.hid hbn; have HLOW := Lib.hid hlow
        clear hgn hdn hrn hxn hcn hkn hbn hlow HX2 HC2 HKP2 HK2
        obtain ⟨g, rfl⟩ : ∃ g, gk = g + 1 := ⟨gk - 1, by omega⟩
        by_cases hlt : n < p.rules.length
        · obtain ⟨rb, ro, vv, nv, hae, hrb, hra, q0, q1, q2, q3⟩ := (HRV.out.below HLOW.out (Nat.le_refl _)).cells hlt
          subst hae
          obtain ⟨va, vc, rfl⟩ := hra.vars.slice
          obtain ⟨na, nc, rfl⟩ := hra.nums.slice
          obtain ⟨m, hm⟩ : ∃ m, m = (drget p.rules n).vars.length := ⟨_, rfl⟩
          have hm4 : m ≤ 4 := by rw [hm]; exact (ruleD_parts (HPP.out.2.2.2.2 n hlt)).2.1
          rw [← hm] at q1
          have HM := Lib.hid hm
          clear hra hm
          go_wp2_with fail
          refine abs_wp (fun Y => Below wr.heap.size wr Y) (Below.new1 _ _) ?_
          rintro Y hbY
          have hY1 : x < Y.heap.size := by have := hbY.size; omega
          have HXY := Lib.hid (heap_later HXN.out hbY hxs3); have HCY := Lib.hid (HCN.out.ck (CK.below hbY)); have HKY := Lib.hid (HKN.out.below hbY); have HBY := Lib.hid (heap_later HBN.out hbY (Array.getElem?_eq_some_iff.1 HBN.out).1)
          clear hbY q0 q1 q2 q3 HXN HCN HKN HBN HLOW
          go_loopw [26] (fun i wr => ∃ (k : Nat) (sk : Sd) (lk : Value), k ≤ m ∧ i = .int .i64 k ∧ Good sk ∧ Dec st sk ∧ placesD p rs n (List.range' k (m - k)) sk = placesD p rs n (List.range m) stn ∧
            wr.heap[x]? = some (.cells (propC (.slice da p.doms.length dc) (.slice (some ⟨rb, ro, none⟩) p.rules.length rc) sk.1 lk rs).toArray 80 (0, 0)) ∧ COwn wr base lk sk.2 ∧ KeptT 73 (One x) base w wr ∧
            wr.heap[wo.heap.size]? = some (.cells (natsV st.1).toArray 77 (0, 0))) (fun i _ => m - (intOf i).toNat)
          case atStart => exact ⟨0, stn, ln, Nat.zero_le _, rfl, HGN.out, HDN.out, by rw [Nat.sub_zero, List.range_eq_range'], HXY.out, HCY.out, HKY.out, HBY.out⟩
          case round =>
            obtain ⟨k, sk, lk, hk, rfl, hgs, hds, hps, hxk, hck, hkk, hbk⟩ := hrel
            have hxs4 : x < wr.heap.size := (Array.getElem?_eq_some_iff.1 hxk).1
            have hws4 : w.heap.size ≤ wr.heap.size := hkk.size
            have hlow : Below B w wr := hkk.toBelow hBb (by omega) (fun q hq h => by unfold One at h; omega)
            have HGS := Lib.hid hgs; have HDS := Lib.hid hds; have HPS := Lib.hid hps; have HXK := Lib.hid hxk; have HCK := Lib.hid hck; have HKK := Lib.hid hkk; have HBK := Lib.hid hbk; have HLOW := Lib.hid hlow
            clear hgs hds hps hxk hck hkk hbk hlow HXY HCY HKY HBY
            by_cases hlt2 : k < m
            · have hkv : k < (drget p.rules n).vars.length := by rw [← HM.out]; exact hlt2
              have hvx := probD_varsIn HPO.out n hlt k hkv
              have hxv : iget (drget p.rules n).vars k = ((iget (drget p.rules n).vars k).toNat : Int) := by omega
              have HSW := Lib.hid (sweep_step p rs n k sk _ _ lk x wr (HDV.out.below HLOW.out (Nat.le_refl _)) (HRV.out.below HLOW.out (Nat.le_refl _)) hB0 hB hBb HXK.out HCK.out (by omega) HGS.out HPO.out hlt hkv (HT.out.below HLOW.out hB0))
              have hg2 := HGS.out.sweep (p := p) (rs := rs) (n := n) (i := k) hxv (by omega)
              have hd2 := HDS.out.trans (Dec.sweep (p := p) (rs := rs) (n := n) (i := k) HGS.out hxv (by omega))
              have hps2 := HPS.out
              rw [show m - k = (m - (k + 1)) + 1 by omega, range_cons, placesD_cons] at hps2
              have HG2 := Lib.hid hg2; have HD2 := Lib.hid hd2; have HPS2 := Lib.hid hps2
              clear hg2 hd2 hps2 hvx hxv
              go_wp2_with fail
              refine HSW.out.mono ?_
              rintro e w2 ⟨rfl, lv2, hx2, hc2, hk2⟩
              have hb2' := hk2.same _ _ HBK.out (by show ¬ wo.heap.size = x; omega) (.inr (nT (by decide)))
              have HX2 := Lib.hid hx2; have HC2 := Lib.hid hc2; have HK2 := Lib.hid (HKK.out.trans hk2); have HB2 := Lib.hid hb2'
              clear hx2 hc2 hk2 hb2' HSW HXK HCK HKK HBK HLOW HPS
              obtain ⟨s2, hs2⟩ : ∃ s2, s2 = sweepD p rs n k sk := ⟨_, rfl⟩
              rw [← hs2] at HG2 HD2 HPS2 HX2 HC2 ⊢
              cases hz : (nget s2.1 (iget (drget p.rules n).vars k).toNat == 0)
              case true =>
                have hz' := beq_iff_eq.1 hz
                have HRES : Hid (runD p rs f = s2) := Lib.hid (by
                  have h1 := HPS2.out
                  rw [if_pos hz'] at h1
                  have h2 := HRN.out
                  rw [show p.rules.length - n = (p.rules.length - (n + 1)) + 1 by omega, range_cons, rulesD_cons, ← HM.out, ← h1] at h2
                  have h4 : rulesD p rs (List.range p.rules.length) st = (s2, false) := h2.symm
                  have h3 := HRUN.out
                  rw [roundsD_succ, h4] at h3
                  exact h3.symm)
                clear hz'
                go_wp2
                refine bodyPost_ret (results_none rfl _ _ _) rfl ⟨⟨_, rfl⟩, ?_⟩
                rw [HRES.out]
                exact ⟨_, HX2.out, HC2.out, HK2.out⟩
              case false =>
                have hz' : ¬ nget s2.1 (iget (drget p.rules n).vars k).toNat = 0 := by rw [← beq_iff_eq, hz]; decide
                have HPS3 : Hid (placesD p rs n (List.range' (k + 1) (m - (k + 1))) s2 = placesD p rs n (List.range m) stn) := Lib.hid (by have h1 := HPS2.out; rw [if_neg hz'] at h1; exact h1)
                clear hz'
                go_wp2
                go_roundw
                case rel => exact ⟨k + 1, s2, lv2, by omega, by go_num, HG2.out, HD2.out, HPS3.out, HX2.out, HC2.out, HK2.out, HB2.out⟩
                case measure => simp [intOf]; omega
            · have hkm : k = m := by omega
              subst hkm
              have HR2 : Hid (rulesD p rs (List.range' (n + 1) (p.rules.length - (n + 1))) sk = rulesD p rs (List.range p.rules.length) st) := Lib.hid (by
                have h1 := HPS.out
                rw [Nat.sub_self] at h1
                have h2 := HRN.out
                rw [show p.rules.length - n = (p.rules.length - (n + 1)) + 1 by omega, range_cons, rulesD_cons, ← HM.out, ← h1] at h2
                exact h2)
              go_wp2
              go_roundw
              case rel => exact ⟨n + 1, sk, lk, by omega, by go_num, HGS.out, HDS.out, HR2.out, HXK.out, HCK.out, HKK.out, HBK.out⟩
              case measure => simp [intOf]; omega
        · have hnL : n = p.rules.length := by omega
          subst hnL
          have HRS : Hid (rulesD p rs (List.range p.rules.length) st = (stn, true)) := Lib.hid (by rw [← HRN.out, Nat.sub_self]; rfl)
          have HPR := Lib.hid (prop_range HGN.out.f.len HXN.out)
          have HBR := Lib.hid (row_rangeL HBN.out)
          have zb : wo.heap.size < wr.heap.size := (Array.getElem?_eq_some_iff.1 HBN.out).1
          have heq := run_eql_fields stn.1 st.1 HGN.out.f.len HG.out.f.len
          have hl1 := HGN.out.f.len
          have hl2 := HG.out.f.len
          have hxz := hxs3
          have hrun := HRUN.out
          rw [roundsD_succ, HRS.out] at hrun
          have hrun : (if stn.1 = st.1 then stn else roundsD p rs g stn) = runD p rs f := hrun
          by_cases he : stn.1 = st.1
          · rw [if_pos he] at hrun
            rw [he] at heq
            simp only [decide_true] at heq
            have HRES := Lib.hid hrun.symm
            have HE := Lib.hid he
            rw [← he] at heq HBR hl2
            clear hrun he
            go_wp2_with fail
            refine wp_region_qb (by kernel_rfl) (by kernel_rfl) ?_
            repeat (first | (go_big_quiet_want; refine quiet_loadF _ hl1 rfl rfl (rangeQ HPR.out hxz) ?_; simp only [Act.put, List.setIfInBounds_toArray, List.set_cons_zero, List.set_cons_succ]; go_big_quiet_on) | (go_big_quiet_want; refine quiet_loadF _ hl2 rfl rfl (rangeQ HBR.out zb) ?_; simp only [Act.put, List.setIfInBounds_toArray, List.set_cons_zero, List.set_cons_succ]; go_big_quiet_on) | go_big_quiet_step (fail))
            go_big_quiet_want
            refine quiet_eql _ _ _ rfl rfl rfl heq ?_
            simp only [Act.put, List.setIfInBounds_toArray, List.set_cons_zero, List.set_cons_succ]
            go_big_quiet_on
            refine wpQuiet_nil ?_
            intro w4 hb4
            have HX4 := Lib.hid (heap_later HXN.out hb4 hxs3); have HC4 := Lib.hid (HCN.out.ck (CK.below hb4)); have HK4 := Lib.hid (HKN.out.below hb4)
            clear hb4 heq
            go_wp2
            refine bodyPost_ret (results_none rfl _ _ _) rfl ⟨⟨_, rfl⟩, ?_⟩
            rw [HRES.out]
            exact ⟨_, HX4.out, HC4.out, HK4.out⟩
          · rw [if_neg he] at hrun
            simp only [he, decide_false] at heq
            have hlt2 : totalD stn.1 < g := by
              rcases HDN.out with h | h
              · exact absurd h he
              · omega
            have HRES := Lib.hid hrun
            clear hrun he
            go_wp2_with fail
            refine wp_region_qb (by kernel_rfl) (by kernel_rfl) ?_
            repeat (first | (go_big_quiet_want; refine quiet_loadF _ hl1 rfl rfl (rangeQ HPR.out hxz) ?_; simp only [Act.put, List.setIfInBounds_toArray, List.set_cons_zero, List.set_cons_succ]; go_big_quiet_on) | (go_big_quiet_want; refine quiet_loadF _ hl2 rfl rfl (rangeQ HBR.out zb) ?_; simp only [Act.put, List.setIfInBounds_toArray, List.set_cons_zero, List.set_cons_succ]; go_big_quiet_on) | go_big_quiet_step (fail))
            go_big_quiet_want
            refine quiet_eql _ _ _ rfl rfl rfl heq ?_
            simp only [Act.put, List.setIfInBounds_toArray, List.set_cons_zero, List.set_cons_succ]
            go_big_quiet_on
            refine wpQuiet_nil ?_
            intro w4 hb4
            have HX4 := Lib.hid (heap_later HXN.out hb4 hxs3); have HC4 := Lib.hid (HCN.out.ck (CK.below hb4)); have HK4 := Lib.hid (HKN.out.below hb4)
            clear heq hb4
            go_wp2
            go_roundg g
            case rel => exact ⟨stn, ln, hlt2, HGN.out, HRES.out, HX4.out, HC4.out, HK4.out⟩
            case measure => omega
end Go.Proofs.YtdmmegmkdhinjaaGreatDoor

namespace Go.Proofs.YtdmmegmkdhinjaaGreatDoor
open Go Go.RowKit
attribute [local go_sem] cell_grow u64_sAnd u64_sOr u64_sDiff sDiff_all zeqI zneI sAnd_bit_zero sAnd_bit_zeroN sAnd_bit_nonzero

set_option maxRecDepth 100000 in
set_option maxHeartbeats 1000000 in
theorem clone_us (b : List Nat) (v : Value) (w : World) {B : Nat} (h : Us w B v b) (hsm : b.length ≤ 1000) (h0 : 0 < b.length) :
    Calls Tryz.prog 45 #[v] w fun e w' => ∃ g c, e = .returned (.slice (some ⟨g, 0, none⟩) b.length c) ∧ w'.ownsRow w.heap.size 56 1 (.slice (some ⟨g, 0, none⟩) b.length c) b.length (natsV b) ∧ Below w.heap.size w w' := by
  obtain ⟨_, a', c', hv, hnc, hcm, hrr⟩ := h
  subst hv
  obtain ⟨b', off', rfl, hbB, hcell⟩ := hrr h0
  obtain ⟨i0, hi, hz0, hz1, hz2⟩ := info_parts infoU
  have q22 : ∀ (w : World) (a : Option Addr) (n c n' c' : Nat), (binOp .eql 22 (.slice a n c) (.slice none n' c')).run Tryz.prog w = .ok (.bool a.isNone) w := fun w a n c n' c' => Lib.run_eql_slice_nil w _ _ a n c n' c' Tryz.underlying22
  have HC := Lib.hid hcell
  clear hrr hcell
  go_enter Tryz.func45, Tryz.ntmps45
  go_wp2_with (at_builtin; refine wpList_append_own _ rfl _ _ 22 rfl w.heap.size 56 i0 (.int .u64 0) 1 8 Tryz.underlying22 hi hz0 hz1 hz2 rfl (by decide) _ _ _ rfl (World.ownsRow_made w #[] 0 (Nat.le_refl _) (Nat.zero_le _) rfl) ⟨b', off', none⟩ b.length c' (natsV b) rfl (by rw [natsV_length, Nat.mul_one]) ?qc2 ?qc3 ?qc4 ?qc5 (by simp) ?_)
  case qc2 =>
    intro j u hj
    have hjl : j < b.length := by have := (List.getElem?_eq_some_iff.1 hj).1; rwa [natsV_length] at this
    rw [natsV_get b j hjl] at hj
    cases hj
    try rw [Addr.add_lit]
    exact ((Below.new1 w _).cell (p := ⟨b', off' + j, none⟩) (World.block_lt_of_cell? w ⟨b', off' + j, none⟩ (HC.out j (by omega)))).trans (HC.out j (by omega))
  case qc3 => exact natsV_one b
  case qc4 => unfold maxLen; omega
  case qc5 => omega
  intro v' w1 hown hgrow _
  have hb := (Below.new1 w (.cells #[] 56)).grown hgrow (by simp) (fun q hq => by simp [Value.ownBlock] at hq; omega)
  try simp only [Nat.zero_add, List.nil_append] at hown
  obtain ⟨g, cp, cur, rfl, _⟩ := own_some hown h0
  have HOW := Lib.hid hown; have HB := Lib.hid hb
  clear hgrow hown hb
  go_wp2
  go_ret
  exact ⟨_, _, rfl, HOW.out, HB.out⟩
theorem list8 (b : List Nat) (h : b.length = 8) : ∃ b0 b1 b2 b3 b4 b5 b6 b7, b = [b0, b1, b2, b3, b4, b5, b6, b7] := by
  match b, h with
  | [b0, b1, b2, b3, b4, b5, b6, b7], _ => exact ⟨_, _, _, _, _, _, _, _, rfl⟩
set_option maxRecDepth 100000 in
theorem build_prop (ba : Option Addr) (bn bc : Nat) (ra : Option Addr) (rn rc : Nat) (b : List Nat) (h8 : b.length = 8) (w : World) :
    (Instr.build 80 #[(0, .agg #[.slice ba bn bc, .slice ra rn rc]), (1, fieldV b), (3, .bool true)]).run Tryz.prog w = .ok (.agg (propC (.slice ba bn bc) (.slice ra rn rc) b (.slice none 0 0) true).toArray) w := by
  obtain ⟨b0, b1, b2, b3, b4, b5, b6, b7, rfl⟩ := list8 b h8
  exact run_build w _ _ _ (by kernel_rfl)
set_option maxRecDepth 100000 in
theorem build_prop0 (ba : Option Addr) (bn bc : Nat) (ra : Option Addr) (rn rc : Nat) (b : List Nat) (h8 : b.length = 8) (w : World) :
    (Instr.build 80 #[(0, .agg #[.slice ba bn bc, .slice ra rn rc]), (1, fieldV b)]).run Tryz.prog w = .ok (.agg (propC (.slice ba bn bc) (.slice ra rn rc) b (.slice none 0 0) false).toArray) w := by
  obtain ⟨b0, b1, b2, b3, b4, b5, b6, b7, rfl⟩ := list8 b h8
  exact run_build w _ _ _ (by kernel_rfl)
/-- What Propagate hands back. -/
def PropP (p : Dp) (w : World) (e : Ending) (w' : World) : Prop :=
  Below w.heap.size w w' ∧ ((probD p = false ∧ e = .returned (.tuple #[.slice none 0 0, .slice none 0 0, .int .i64 2])) ∨
    (probD p = true ∧ ∃ fv cv, e = .returned (.tuple #[fv, cv, .int .i64 0]) ∧ w'.ownsRow w.heap.size 56 1 fv p.doms.length (natsV ((propD p).1.take p.doms.length)) ∧ COwn w' w.heap.size cv (propD p).2))
set_option maxRecDepth 100000 in
set_option maxHeartbeats 2000000 in
theorem propagate_any (p : Dp) (dv rv : Value) (w : World) {B : Nat} (hdv : Us w B dv p.doms) (hrv : DRls w B rv p.rules) (hB0 : 0 < B) (hB : B ≤ w.heap.size) (hT : Tab w) :
    Calls Tryz.prog 9 #[.agg #[dv, rv]] w (PropP p w) := by
  have HDV := Lib.hid hdv; have HRV := Lib.hid hrv; have HT := Lib.hid hT
  obtain ⟨da, dc, rfl⟩ := hdv.slice
  obtain ⟨ra, rc, rfl⟩ := hrv.slice
  clear hdv hrv hT
  go_enter Tryz.func9, Tryz.ntmps9
  go_wp2_with fail
  refine (check_any p _ _ _ (HDV.out.below (Below.new1 _ _) hB) (HRV.out.below (Below.new1 _ _) hB) (by simp; omega)).mono ?_
  rintro e w2 ⟨rfl, hb2⟩
  have hbw2 := (Below.new1 w (.cells #[.slice da p.doms.length dc, .slice ra p.rules.length rc] 25)).trans (hb2.mono (by simp))
  have k0 := heap_later (heap_new0 w (.cells #[.slice da p.doms.length dc, .slice ra p.rules.length rc] 25)) hb2 (by simp)
  have z0 : w.heap.size < w2.heap.size := (Array.getElem?_eq_some_iff.1 k0).1
  have c0 : w2.cell? ⟨w.heap.size, 0, none⟩ = some (.slice da p.doms.length dc) := by rw [cell_of_row _ _ _ _ _ _ k0]; rfl
  have c1 : w2.cell? ⟨w.heap.size, 1, none⟩ = some (.slice ra p.rules.length rc) := by rw [cell_of_row _ _ _ _ _ _ k0]; rfl
  have K0 := Lib.hid k0; have HB2 := Lib.hid hbw2
  clear k0 hb2 hbw2
  cases hok : probD p
  case false =>
    have HOK := Lib.hid hok
    unfold errOf
    go_wp2
    refine bodyPost_ret (v := .tuple #[.slice none 0 0, .slice none 0 0, .int .i64 2]) (by simp [results, Tryz.results9, go_sem]) rfl ⟨HB2.out, .inl ⟨HOK.out, rfl⟩⟩
  case true =>
    have HOK := Lib.hid hok
    have HF := Lib.hid (probD_parts hok)
    unfold errOf
    clear hok
    have h1 : ∀ d os, Gives Tryz.prog 43 #[.agg #[.slice da p.doms.length dc, .slice ra p.rules.length rc]] (Go.Sort.grow (redrawn w2 d) os) (fieldV (padD p.doms)) := fun d os =>
      fieldOf_any p _ _ _ (HDV.out.below (below_grow HB2.out d os) hB) (Nat.le_trans hB (below_grow HB2.out d os).size) HF.out.1 HF.out.2.1 _ _ _ rfl
    have H1 := Lib.hid h1
    have hbp := build_prop da p.doms.length dc ra p.rules.length rc (padD p.doms) (padD_length HF.out.2.1)
    clear h1
    go_wp2_with fail
    refine wp_region_qbt 3 (by kernel_rfl) (by kernel_rfl) ?_
    simp only [List.take_succ_cons, List.take_zero, List.drop_succ_cons, List.drop_zero]
    repeat go_big_quiet_step ((with_reducible exact Gives.quiet (H1.out _ _)))
    refine wpQuiet_nil ?_
    intro w3 hb3
    refine wpList_ran rfl _ (exec_build 80 #[(0, .tmp 9), (1, .tmp 11), (3, .const (.bool true))] rfl (by simp [Act.eval]) (hbp w3)) ?_
    simp only [Act.put, List.setIfInBounds_toArray, List.set_cons_zero, List.set_cons_succ]
    clear hbp
    have k3 := heap_later K0.out hb3 z0
    have hb3w := HB2.out.trans (hb3.mono HB2.out.size)
    have K3 := Lib.hid k3; have HB3 := Lib.hid hb3w
    have z3 : w.heap.size < w3.heap.size := (Array.getElem?_eq_some_iff.1 k3).1
    clear k3 hb3 hb3w c0 c1
    go_wp2_with fail
    have hx4 := heap_new0 w3 (.cells (propC (.slice da p.doms.length dc) (.slice ra p.rules.length rc) (padD p.doms) (.slice none 0 0) true).toArray 80)
    have hn4 := Below.new1 w3 (.cells (propC (.slice da p.doms.length dc) (.slice ra p.rules.length rc) (padD p.doms) (.slice none 0 0) true).toArray 80)
    have hb4 := HB3.out.trans (hn4.mono (by omega))
    have k4 := heap_later K3.out hn4 z3
    refine (run_any p true (padD p.doms) _ _ _ w3.heap.size _ (base := w3.heap.size) (HDV.out.below hb4 hB) (HRV.out.below hb4 hB) hB0 (by omega) (by omega) hx4 (COwn.nil _ _) (by simp) (padD_ok HOK.out) HOK.out (HT.out.below hb4 (by omega))).mono ?_
    rintro e w5 ⟨⟨rv5, rfl⟩, lv, hx5, hc5, hk5⟩
    have hgood := run_good (rs := true) HOK.out (padD_ok HOK.out)
    have hb5 : Below w.heap.size w w5 := hb4.trans (hk5.toBelow (by omega) (by simp; omega) (fun q hq h => by unfold One at h; omega))
    have k5 := hk5.same _ _ k4 (by show ¬ w.heap.size = w3.heap.size; omega) (.inr (nT (by decide)))
    have hl8 := hgood.f.len
    have c0 : w5.cell? ⟨w.heap.size, 0, none⟩ = some (.slice da p.doms.length dc) := by rw [cell_of_row _ _ _ _ _ _ k5]; rfl
    have x10 := (propC_cells hl8 hx5).2.2.2.1
    have hus := prop_us hl8 hx5 HF.out.2.1
    have HC5 := Lib.hid hc5; have HB5 := Lib.hid hb5; have HUS := Lib.hid hus; have HG := Lib.hid hgood
    have z5 : w.heap.size < w5.heap.size := (Array.getElem?_eq_some_iff.1 k5).1
    have z53 : w3.heap.size < w5.heap.size := (Array.getElem?_eq_some_iff.1 hx5).1
    obtain ⟨la, lc, rfl⟩ : ∃ a c, lv = .slice a (runD p true (padD p.doms)).2.length c := by obtain ⟨cs, h, _⟩ := hc5; exact own_form h
    clear k4 k5 hx4 hn4 hb4 hx5 hc5 hk5 hb5 hus hgood
    have hle8 : p.doms.length ≤ 8 := HF.out.2.1
    have hle8i : ((p.doms.length : Nat) : Int) ≤ 8 := by omega
    have hge0i : (0 : Int) ≤ ((p.doms.length : Nat) : Int) := by omega
    have he : ((propD p).1.take p.doms.length).length = p.doms.length := by
      rw [List.length_take]; exact Nat.min_eq_left (by rw [show (propD p).1.length = 8 from HG.out.f.len]; exact hle8)
    have HE := Lib.hid he
    clear he hl8
    go_wp2_with fail
    go_region_held3 (fun V => V.cell? ⟨w.heap.size, 0, none⟩ = some (.slice da p.doms.length dc) ∧ V.cell? ⟨w3.heap.size, 10, none⟩ = some (.slice la (runD p true (padD p.doms)).2.length lc)) (first | exact ⟨c0, x10⟩ | exact HKP.out | go_keep) (first | (
      go_at_call 45
      refine (clone_us ((propD p).1.take p.doms.length) (.slice (some ⟨w3.heap.size, 2, none⟩) p.doms.length 8) _ (HUS.out.below (Below.drewn (Below.refl _ _)) (Nat.le_refl _)) (by rw [HE.out]; omega) (by rw [HE.out]; have := HF.out.1; omega)).mono ?_
      rintro e w6 ⟨g, cc, rfl, hown, hb6⟩
      rw [HE.out] at hown ⊢
      have HKP := Lib.hid (show _ ∧ _ from ⟨((bcell hb6).1 _ _ (by simp; omega)).trans c0, ((bcell hb6).1 _ _ (by simp; omega)).trans x10⟩)
      have HOWN := Lib.hid hown; have HB6 := Lib.hid hb6
      clear hown hb6))
    have hw6 : Below w5.heap.size w5 w6 := (Below.drewn (Below.refl _ _)).trans HB6.out
    have hfin : PropP p w (.returned (.tuple #[.slice (some ⟨g, 0, none⟩) p.doms.length cc, .slice la (runD p true (padD p.doms)).2.length lc, .int .i64 0])) w6 :=
      ⟨HB5.out.trans (hw6.mono (by omega)), .inr ⟨HOK.out, _, _, rfl, own_mono HOWN.out (by simp; omega), by
        obtain ⟨cs, h1, h2⟩ := HC5.out.ck (CK.below hw6)
        exact ⟨cs, own_mono h1 (by have := HB3.out.size; omega), fun i hi => by obtain ⟨a1, a2, a3, yv, a5, a6⟩ := h2 i hi; exact ⟨a1, a2, a3, yv, a5, own_mono a6 (by have := HB3.out.size; omega)⟩⟩⟩⟩
    have HFIN := Lib.hid hfin
    clear hfin hw6
    go_wp2
    exact bodyPost_ret (v := .tuple #[.slice (some ⟨g, 0, none⟩) p.doms.length cc, .slice la (runD p true (padD p.doms)).2.length lc, .int .i64 0]) (by simp [results, Tryz.results9, go_sem]) rfl HFIN.out
end Go.Proofs.YtdmmegmkdhinjaaGreatDoor

namespace Go.Proofs.YtdmmegmkdhinjaaGreatDoor
open Go Go.RowKit
attribute [local go_sem] cell_grow u64_sAnd u64_sOr u64_sDiff sDiff_all zeqI zneI sAnd_bit_zero sAnd_bit_zeroN sAnd_bit_nonzero

def sameCut (o c : Cut) : Bool := (o.var == c.var) && (o.value == c.value)
theorem right1_any (o c : Cut) (r3 : Value) (q : Nat) (w : World) (h0 : w.cell? ⟨q, 0, none⟩ = some (.int .i64 c.var)) (h1 : w.cell? ⟨q, 1, none⟩ = some (.int .i64 c.value)) (hr3 : ∃ a n k, r3 = .slice a n k) :
    Gives Tryz.prog 84 #[.agg #[.int .i64 o.var, .int .i64 o.value, .int .i64 o.rule, r3], .pointer (some ⟨q, 0, none⟩)] w (.bool (sameCut o c)) := by
  unfold Gives sameCut
  obtain ⟨a, n, k, rfl⟩ := hr3
  obtain ⟨ov, hov⟩ : ∃ ov, ov = o.var := ⟨_, rfl⟩
  obtain ⟨oe, hoe⟩ : ∃ oe, oe = o.value := ⟨_, rfl⟩
  rw [← hov, ← hoe]
  have zq : q < w.heap.size := World.block_lt_of_cell? w ⟨q, 0, none⟩ h0
  have hne : q ≠ w.heap.size := by omega
  have hb := Below.new1 w (.cells #[.int .i64 ov, .int .i64 oe, .int .i64 o.rule, .slice a n k] 73)
  have e0 := (hb.cell (p := ⟨q, 0, none⟩) zq).trans h0
  have e1 := (hb.cell (p := ⟨q, 1, none⟩) zq).trans h1
  have HB := Lib.hid hb
  clear hov hoe h0 h1 hb
  cases hv : (ov == c.var)
  · go_enter Tryz.func84, Tryz.ntmps84
    go_wp2
    go_ret
    exact ⟨rfl, HB.out⟩
  · go_enter Tryz.func84, Tryz.ntmps84
    go_wp2
    go_ret
    exact ⟨by simp, HB.out⟩
theorem allB_nat {l : List Int} {n : Nat} (h : allB l 0 ((n : Int) - 1) = true) (i : Nat) (hi : i < l.length) : ∃ k : Nat, iget l i = k ∧ k < n := by
  have := allB_get h hi
  exact ⟨(iget l i).toNat, by omega, by omega⟩
theorem inB_nat {x : Int} {n : Nat} (h : inB x 0 ((n : Int) - 1) = true) : ∃ k : Nat, x = k ∧ k < n := by
  unfold inB at h
  simp only [Bool.and_eq_true, decide_eq_true_eq] at h
  exact ⟨x.toNat, by omega, by omega⟩
theorem any_range (l : List Cut) (c : Cut) : ((List.range l.length).any fun k => sameCut (cget l k) c) = l.any fun o => o.var == c.var && o.value == c.value := by
  rw [Bool.eq_iff_iff, List.any_eq_true, List.any_eq_true]
  constructor
  · rintro ⟨k, hk, h⟩
    have hk' := List.mem_range.1 hk
    refine ⟨l[k], List.getElem_mem hk', ?_⟩
    have : cget l k = l[k] := by simp [cget, hk']
    rw [this] at h; exact h
  · rintro ⟨o, ho, h⟩
    obtain ⟨k, hk, rfl⟩ := List.mem_iff_getElem.1 ho
    refine ⟨k, List.mem_range.2 hk, ?_⟩
    have : cget l k = l[k] := by simp [cget, hk]
    rw [this]; exact h
set_option maxRecDepth 100000 in
set_option maxHeartbeats 4000000 in
theorem right_any (p : Dp) (l : List Cut) (c : Cut) (dv rv lv yv : Value) (w : World) {B : Nat} (hdv : Us w B dv p.doms) (hrv : DRls w B rv p.rules) (hlv : Cts w B lv l) (hyv : Ints w B yv c.why) (hB0 : 0 < B) (hB : B ≤ w.heap.size)
    (hpo : probD p = true) (hl : ∀ i, i < l.length → CFit (cget l i)) (hT : Tab w) :
    Gives Tryz.prog 49 #[.agg #[dv, rv], lv, .agg #[.int .i64 c.var, .int .i64 c.value, .int .i64 c.rule, yv]] w (.bool (rightD p l c)) := by
  unfold Gives
  have HDV := Lib.hid hdv; have HRV := Lib.hid hrv; have HLV := Lib.hid hlv; have HYV := Lib.hid hyv; have HT := Lib.hid hT; have HL := Lib.hid hl; have HPO := Lib.hid hpo; have HPP := Lib.hid (probD_parts hpo)
  have hrl := hrv.len
  have hll := hlv.len
  obtain ⟨da, dc, rfl⟩ := hdv.slice
  obtain ⟨ra, rc, rfl⟩ := hrv.slice
  obtain ⟨la, lc, rfl⟩ := hlv.slice
  obtain ⟨ya, yc, rfl⟩ := hyv.slice
  obtain ⟨cv, hcv⟩ : ∃ cv, cv = c.var := ⟨_, rfl⟩
  obtain ⟨ce, hce⟩ : ∃ ce, ce = c.value := ⟨_, rfl⟩
  obtain ⟨cr, hcr⟩ : ∃ cr, cr = c.rule := ⟨_, rfl⟩
  rw [← hcv, ← hce, ← hcr]
  have HCV := Lib.hid hcv; have HCE := Lib.hid hce; have HCR := Lib.hid hcr
  have HRD : Hid (rightD p l c = (inB cr 0 (p.rules.length - 1) && ihas (drget p.rules cr.toNat).vars cv && hasD (nget p.doms cv.toNat) ce && allB c.why 0 (l.length - 1) &&
    !l.any (fun o => o.var == c.var && o.value == c.value) && (List.range (c.why.length - 1)).all (fun i => decide (iget c.why i < iget c.why (i + 1))) && explD p l c)) := Lib.hid (by unfold rightD; rw [hcv, hce, hcr])
  clear hdv hrv hlv hyv hT hl hpo hcv hce hcr
  go_enter Tryz.func49, Tryz.ntmps49
  go_wp2_with fail
  refine abs_wp (fun W => W.heap[w.heap.size]? = some (.cells #[.slice da p.doms.length dc, .slice ra p.rules.length rc] 25 (0, 0)) ∧ W.heap[w.heap.size + 1]? = some (.cells #[.int .i64 cv, .int .i64 ce, .int .i64 cr, .slice ya c.why.length yc] 73 (0, 0)) ∧ Below w.heap.size w W) ⟨(heap_new2 _ _ _).1, (heap_new2 _ _ _).2, Below.new2 _ _ _⟩ ?_
  rintro W ⟨k0, k1, hb⟩
  have p0 : W.cell? ⟨w.heap.size, 0, none⟩ = some (.slice da p.doms.length dc) := by rw [cell_of_row _ _ _ _ _ _ k0]; rfl
  have p1 : W.cell? ⟨w.heap.size, 1, none⟩ = some (.slice ra p.rules.length rc) := by rw [cell_of_row _ _ _ _ _ _ k0]; rfl
  have d0 : W.cell? ⟨w.heap.size + 1, 0, none⟩ = some (.int .i64 cv) := by rw [cell_of_row _ _ _ _ _ _ k1]; rfl
  have d1 : W.cell? ⟨w.heap.size + 1, 1, none⟩ = some (.int .i64 ce) := by rw [cell_of_row _ _ _ _ _ _ k1]; rfl
  have d2 : W.cell? ⟨w.heap.size + 1, 2, none⟩ = some (.int .i64 cr) := by rw [cell_of_row _ _ _ _ _ _ k1]; rfl
  have d3 : W.cell? ⟨w.heap.size + 1, 3, none⟩ = some (.slice ya c.why.length yc) := by rw [cell_of_row _ _ _ _ _ _ k1]; rfl
  have z1 : w.heap.size + 1 < W.heap.size := (Array.getElem?_eq_some_iff.1 k1).1
  have z0 : w.heap.size < W.heap.size := by omega
  have K0 := Lib.hid k0; have K1 := Lib.hid k1; have HB := Lib.hid hb
  have H1 := Lib.hid (fun (d : Nat) (os : Array Obj) => Gives.of_same (within_any cr 0 (p.rules.length - 1) (Go.Sort.grow (redrawn W d) os)))
  clear k0 k1 hb
  cases hin : inB cr 0 (p.rules.length - 1) <;> rw [hin] at H1
  case false =>
    have HF : Hid (rightD p l c = false) := Lib.hid (by rw [HRD.out, hin]; rfl)
    clear hin
    refine wp_region_qb (by kernel_rfl) (by kernel_rfl) ?_
    repeat go_big_quiet_step ((with_reducible exact Gives.quiet (H1.out _ _)))
    refine wpQuiet_nil ?_
    intro w2 hb2
    go_wp2
    go_ret
    exact ⟨by rw [HF.out]; rfl, HB.out.trans (hb2.mono HB.out.size)⟩
  case true =>
    obtain ⟨j, rfl, hjl⟩ := inB_nat hin
    have HIN := Lib.hid hin
    clear hin
    obtain ⟨rb, ro, vv, nv, rfl, hrb, hra, _, q1, _, _⟩ := HRV.out.cells hjl
    obtain ⟨va, vc, rfl⟩ := hra.vars.slice
    have q1 := (HB.out.cell (p := ⟨rb, ro + j * 4 + 1, none⟩) (by show rb < w.heap.size; omega)).trans q1
    have z2 : rb < W.heap.size := by omega
    have H2 := Lib.hid (fun (d : Nat) (os : Array Obj) => Gives.of_same (contains_ints _ _ cv (Go.Sort.grow (redrawn W d) os) (hra.vars.below (below_grow HB.out d os) hB)))
    have hvx := probD_varsIn HPO.out j hjl
    have hrd := (ruleD_parts (HPP.out.2.2.2.2 j hjl)).2.2.1
    have HRR := Lib.hid (And.intro hvx hrd)
    clear hra hvx hrd
    cases hih : ihas (drget p.rules j).vars cv <;> rw [hih] at H2
    case false =>
      have HF : Hid (rightD p l c = false) := Lib.hid (by rw [HRD.out, HIN.out, Int.toNat_natCast, hih]; rfl)
      clear hih
      refine wp_region_qb (by kernel_rfl) (by kernel_rfl) ?_
      repeat go_big_quiet_step ((first | (with_reducible exact Gives.quiet (H1.out _ _)) | (with_reducible exact Gives.quiet (H2.out _ _))))
      refine wpQuiet_nil ?_
      intro w2 hb2
      go_wp2
      go_ret
      exact ⟨by rw [HF.out]; rfl, HB.out.trans (hb2.mono HB.out.size)⟩
    case true =>
      have hmem : cv ∈ (drget p.rules j).vars := by unfold ihas at hih; exact List.contains_iff_mem.1 hih
      obtain ⟨xv, rfl, hxd⟩ : ∃ xv : Nat, cv = xv ∧ xv < p.doms.length := by
        obtain ⟨i, hi, he⟩ := List.mem_iff_getElem.1 hmem
        have h := HRR.out.2 i hi
        rw [show iget (drget p.rules j).vars i = cv by unfold iget; rw [List.getElem?_eq_getElem hi]; exact he] at h
        exact ⟨cv.toNat, by omega, by omega⟩
      obtain ⟨_, a', c', hae, _, _, hdr⟩ := HDV.out
      cases hae
      obtain ⟨db, doff, rfl, hdb, hdcell⟩ := hdr (by omega)
      have e0 := (HB.out.cell (p := ⟨db, doff + xv, none⟩) (by show db < w.heap.size; omega)).trans (hdcell xv (by omega))
      have z3 : db < W.heap.size := by omega
      have hdu : U64 (nget p.doms xv) := Nat.lt_trans (HPP.out.2.2.2.1 xv) (by decide)
      have H3 := Lib.hid (fun (d : Nat) (os : Array Obj) => Gives.of_same (hasd_any (nget p.doms xv) ce (Go.Sort.grow (redrawn W d) os) hdu))
      have HIH := Lib.hid hih; have HMEM := Lib.hid hmem
      have hxdI : ((xv : Nat) : Int) < ((p.doms.length : Nat) : Int) := by omega
      clear hih hmem hdr hdcell
      cases hhd : hasD (nget p.doms xv) ce <;> rw [hhd] at H3
      case false =>
        have HF : Hid (rightD p l c = false) := Lib.hid (by rw [HRD.out, HIN.out, Int.toNat_natCast, HIH.out, Int.toNat_natCast, hhd]; rfl)
        clear hhd
        refine wp_region_qb (by kernel_rfl) (by kernel_rfl) ?_
        repeat go_big_quiet_step ((first | (with_reducible exact Gives.quiet (H1.out _ _)) | (with_reducible exact Gives.quiet (H2.out _ _)) | (with_reducible exact Gives.quiet (H3.out _ _))))
        refine wpQuiet_nil ?_
        intro w2 hb2
        go_wp2
        go_ret
        exact ⟨by rw [HF.out]; rfl, HB.out.trans (hb2.mono HB.out.size)⟩
      case true =>
        have H4 := Lib.hid (fun (d : Nat) (os : Array Obj) => every_any c.why 0 (l.length - 1) _ (Go.Sort.grow (redrawn W d) os) (HYV.out.below (below_grow HB.out d os) hB) (Nat.le_trans hB (below_grow HB.out d os).size))
        have HHD := Lib.hid hhd
        clear hhd
        cases hev : allB c.why 0 (l.length - 1) <;> rw [hev] at H4
        case false =>
          have HF : Hid (rightD p l c = false) := Lib.hid (by rw [HRD.out, HIN.out, Int.toNat_natCast, HIH.out, Int.toNat_natCast, HHD.out, hev]; rfl)
          clear hev
          refine wp_region_qb (by kernel_rfl) (by kernel_rfl) ?_
          repeat go_big_quiet_step ((first | (with_reducible exact Gives.quiet (H1.out _ _)) | (with_reducible exact Gives.quiet (H2.out _ _)) | (with_reducible exact Gives.quiet (H3.out _ _)) | (with_reducible exact Gives.quiet (H4.out _ _))))
          refine wpQuiet_nil ?_
          intro w2 hb2
          go_wp2
          go_ret
          exact ⟨by rw [HF.out]; rfl, HB.out.trans (hb2.mono HB.out.size)⟩
        case true =>
          have HRD2 : Hid (rightD p l c = (!l.any (fun o => o.var == c.var && o.value == c.value) && (List.range (c.why.length - 1)).all (fun i => decide (iget c.why i < iget c.why (i + 1))) && explD p l c)) := Lib.hid (by rw [HRD.out, HIN.out, Int.toNat_natCast, HIH.out, Int.toNat_natCast, HHD.out, hev]; rfl)
          have HEV := Lib.hid hev
          clear hev
          refine wp_region_qb (by kernel_rfl) (by kernel_rfl) ?_
          repeat go_big_quiet_step ((first | (with_reducible exact Gives.quiet (H1.out _ _)) | (with_reducible exact Gives.quiet (H2.out _ _)) | (with_reducible exact Gives.quiet (H3.out _ _)) | (with_reducible exact Gives.quiet (H4.out _ _))))
          refine wpQuiet_nil ?_
          intro w2 hb2
          have HB2 := Lib.hid (HB.out.trans (hb2.mono HB.out.size)); have hz2 := hb2.size
          have HK0 := Lib.hid (heap_later K0.out hb2 z0); have HK1 := Lib.hid (heap_later K1.out hb2 z1)
          have hlc := HLV.out.below HB2.out hB
          obtain ⟨cf, hrow, hcf⟩ := hlc
          have hhas := hasC _ l.length cf 84 #[.pointer (some ⟨w.heap.size + 1, 0, none⟩)] (fun k => sameCut (cget l k) c) w2 hrow (by omega) (enters_of Tryz.func84 (by kernel_rfl) rfl) (fun k hk w' hb' => by
            obtain ⟨e1, e2, e3, e4⟩ := hcf k hk
            rw [e1, e2, e3]
            have hkk := heap_later HK1.out hb' (by omega)
            exact right1_any (cget l k) c _ (w.heap.size + 1) w' (by rw [← HCV.out, cell_of_row _ _ _ _ _ _ hkk]; rfl) (by rw [← HCE.out, cell_of_row _ _ _ _ _ _ hkk]; rfl) (by obtain ⟨a, k, h⟩ := e4.slice; exact ⟨a, _, k, h⟩))
          rw [any_range] at hhas
          have HHAS := Lib.hid hhas
          clear hhas hrow hcf hb2 q1 e0 p0 p1 d0 d1 d2 d3 H1 H2 H3 H4 K0 K1
          go_wp2_with fail
          refine HHAS.out.mono ?_
          rintro e w3 ⟨rfl, hb3⟩
          have HB3 := Lib.hid (HB2.out.trans (hb3.mono HB2.out.size)); have hz3 := hb3.size
          have HK0' := Lib.hid (heap_later HK0.out hb3 (by omega)); have HK1' := Lib.hid (heap_later HK1.out hb3 (by omega))
          clear hb3 HHAS HK0 HK1
          cases hany : l.any fun o => o.var == c.var && o.value == c.value
          case true =>
            have HF : Hid (rightD p l c = false) := Lib.hid (by rw [HRD2.out, hany]; rfl)
            clear hany
            go_wp2
            go_ret
            exact ⟨by rw [HF.out]; rfl, HB3.out⟩
          case false =>
            have HRD3 : Hid (rightD p l c = ((List.range (c.why.length - 1)).all (fun i => decide (iget c.why i < iget c.why (i + 1))) && explD p l c)) := Lib.hid (by rw [HRD2.out, hany]; rfl)
            clear hany
            go_wp2_with fail
            go_loopw [7] (fun iv wr => ∃ k : Nat, iv = .int .i64 ((k + 1 : Nat) : Int) ∧ (k + 1 ≤ c.why.length ∨ k = 0) ∧ (∀ m, m < k → iget c.why m < iget c.why (m + 1)) ∧ Below w3.heap.size w3 wr) (fun iv _ => c.why.length - (intOf iv).toNat)
            case atStart => exact ⟨0, rfl, .inr rfl, fun m hm => absurd hm (Nat.not_lt_zero _), Below.refl _ _⟩
            case round =>
              obtain ⟨k, rfl, hkl, hall, hb⟩ := hrel
              have kk1 := heap_later HK1'.out hb (by omega)
              have kk0 := heap_later HK0'.out hb (by omega)
              have hsz := hb.size
              have d3 : wr.cell? ⟨w.heap.size + 1, 3, none⟩ = some (.slice ya c.why.length yc) := by rw [cell_of_row _ _ _ _ _ _ kk1]; rfl
              have z1 : w.heap.size + 1 < wr.heap.size := (Array.getElem?_eq_some_iff.1 kk1).1
              have HALL := Lib.hid hall; have HBR := Lib.hid (HB3.out.trans (hb.mono (by have := HB3.out.size; omega))); have HBL := Lib.hid hb
              clear hall hb
              by_cases hlt : k + 1 < c.why.length
              · obtain ⟨_, a', c', hae, _, _, hrow⟩ := HYV.out.below HBR.out hB
                cases hae
                obtain ⟨yb, yo, rfl, hyb, hycell⟩ := hrow (by omega)
                have y0 : wr.cell? ⟨yb, yo + k, none⟩ = some (.int .i64 (iget c.why k)) := hycell k (by omega)
                have y1 : wr.cell? ⟨yb, yo + (k + 1), none⟩ = some (.int .i64 (iget c.why (k + 1))) := hycell (k + 1) (by omega)
                have z2 : yb < wr.heap.size := by have := HBR.out.size; omega
                clear hrow hycell kk0 kk1
                obtain ⟨a0, ha0⟩ : ∃ a0, a0 = iget c.why k := ⟨_, rfl⟩
                obtain ⟨a1, ha1⟩ : ∃ a1, a1 = iget c.why (k + 1) := ⟨_, rfl⟩
                rw [← ha0] at y0
                rw [← ha1] at y1
                have HA0 := Lib.hid ha0; have HA1 := Lib.hid ha1
                clear ha0 ha1
                by_cases hle : a1 ≤ a0
                · have HF : Hid (rightD p l c = false) := Lib.hid (by
                    rw [HRD3.out]
                    have : ((List.range (c.why.length - 1)).all fun i => decide (iget c.why i < iget c.why (i + 1))) = false := by
                      rw [Bool.eq_false_iff]
                      intro hc
                      have := of_decide_eq_true (List.all_eq_true.1 hc k (List.mem_range.2 (by omega)))
                      rw [← HA0.out, ← HA1.out] at this
                      omega
                    rw [this]; rfl)
                  go_wp2_with fail
                  refine wp_region_qb (by kernel_rfl) (by kernel_rfl) ?_
                  repeat go_big_quiet_step (fail)
                  refine wpQuiet_nil ?_
                  intro w4 hb4
                  go_wp2
                  go_ret
                  exact ⟨by rw [HF.out]; rfl, HBR.out.trans (hb4.mono HBR.out.size)⟩
                · go_wp2_with fail
                  refine wp_region_qb (by kernel_rfl) (by kernel_rfl) ?_
                  repeat go_big_quiet_step (fail)
                  refine wpQuiet_nil ?_
                  intro w4 hb4
                  have HB4 := Lib.hid (HBL.out.trans (hb4.mono hsz))
                  clear hb4
                  have HLT := Lib.hid (show a0 < a1 by omega)
                  go_wp2
                  go_roundw
                  case rel => exact ⟨k + 1, by go_num, .inl (by omega), fun m hm => if h : m = k then by subst h; rw [← HA0.out, ← HA1.out]; exact HLT.out else HALL.out m (by omega), HB4.out⟩
                  case measure => simp [intOf]; omega
              · have hso : (List.range (c.why.length - 1)).all (fun i => decide (iget c.why i < iget c.why (i + 1))) = true := by
                  rw [List.all_eq_true]
                  intro m hm
                  exact decide_eq_true (HALL.out m (by have := List.mem_range.1 hm; omega))
                have HF : Hid (rightD p l c = explD p l c) := Lib.hid (by rw [HRD3.out, hso]; rfl)
                have p0 : wr.cell? ⟨w.heap.size, 0, none⟩ = some (.slice (some ⟨db, doff, none⟩) p.doms.length dc) := by rw [cell_of_row _ _ _ _ _ _ kk0]; rfl
                have p1 : wr.cell? ⟨w.heap.size, 1, none⟩ = some (.slice (some ⟨rb, ro, none⟩) p.rules.length rc) := by rw [cell_of_row _ _ _ _ _ _ kk0]; rfl
                have d0 : wr.cell? ⟨w.heap.size + 1, 0, none⟩ = some (.int .i64 xv) := by rw [cell_of_row _ _ _ _ _ _ kk1]; rfl
                have d1 : wr.cell? ⟨w.heap.size + 1, 1, none⟩ = some (.int .i64 ce) := by rw [cell_of_row _ _ _ _ _ _ kk1]; rfl
                have d2 : wr.cell? ⟨w.heap.size + 1, 2, none⟩ = some (.int .i64 j) := by rw [cell_of_row _ _ _ _ _ _ kk1]; rfl
                have HEX := Lib.hid (explained_any p l c _ _ _ _ wr (HDV.out.below HBR.out hB) (HRV.out.below HBR.out hB) (HLV.out.below HBR.out hB) (HYV.out.below HBR.out hB) hB0 (Nat.le_trans hB HBR.out.size) HPO.out HL.out (allB_nat HEV.out) j HCR.out.symm hjl (by rw [← HCV.out]; exact HMEM.out) (HT.out.below HBR.out (by omega)))
                rw [← HCV.out, ← HCE.out, ← HCR.out] at HEX
                clear hso kk0 kk1
                go_wp2_with fail
                refine HEX.out.mono ?_
                rintro e w5 ⟨rfl, hb5⟩
                have HB5 := Lib.hid (HBR.out.trans (hb5.mono HBR.out.size))
                clear hb5
                go_wp2
                go_ret
                exact ⟨by rw [HF.out]; rfl, HB5.out⟩
end Go.Proofs.YtdmmegmkdhinjaaGreatDoor

namespace Go.Proofs.YtdmmegmkdhinjaaGreatDoor
open Go Go.RowKit
attribute [local go_sem] cell_grow u64_sAnd u64_sOr u64_sDiff sDiff_all zeqI zneI sAnd_bit_zero sAnd_bit_zeroN sAnd_bit_nonzero

/-- What a right cut says. -/
theorem rightD_parts {p : Dp} {l : List Cut} {c : Cut} (hp : probD p = true) (h : rightD p l c = true) : CFit c ∧ (∃ j : Nat, c.rule = j ∧ j < p.rules.length) ∧ (∀ i, i < c.why.length → ∃ k : Nat, iget c.why i = k ∧ k < l.length) := by
  unfold rightD at h
  simp only [Bool.and_eq_true] at h
  obtain ⟨⟨⟨⟨⟨⟨h1, h2⟩, h3⟩, h4⟩, _⟩, _⟩, _⟩ := h
  obtain ⟨j, hj, hjl⟩ := inB_nat h1
  rw [hj, Int.toNat_natCast] at h2
  have hmem : c.var ∈ (drget p.rules j).vars := by unfold ihas at h2; exact List.contains_iff_mem.1 h2
  have hxv : 0 ≤ c.var ∧ c.var < 8 := by
    obtain ⟨i, hi, he⟩ := List.mem_iff_getElem.1 hmem
    have h := probD_varsIn hp j hjl i hi
    rw [show iget (drget p.rules j).vars i = c.var by unfold iget; rw [List.getElem?_eq_getElem hi]; exact he] at h
    exact h
  obtain ⟨m, hm, hm16⟩ := hasD_nat h3
  exact ⟨⟨c.var.toNat, m, by omega, by omega, hm, hm16⟩, ⟨j, hj, hjl⟩, allB_nat h4⟩
theorem wrongD_none {p : Dp} {l : List Cut} (h : ∀ i, i < l.length → rightD p (l.take i) (cget l i) = true) : wrongD p l = -1 := by
  unfold wrongD
  have : (List.range l.length).find? (fun i => !rightD p (l.take i) (cget l i)) = none := List.find?_eq_none.2 fun i hi => by rw [h i (List.mem_range.1 hi)]; decide
  rw [this]
theorem wrongD_some {p : Dp} {l : List Cut} {k : Nat} (hk : k < l.length) (h : ∀ i, i < k → rightD p (l.take i) (cget l i) = true) (h0 : rightD p (l.take k) (cget l k) = false) : wrongD p l = k := by
  unfold wrongD
  have : (List.range l.length).find? (fun i => !rightD p (l.take i) (cget l i)) = some k := by
    rw [List.find?_range_eq_some]
    exact ⟨by rw [h0]; rfl, List.mem_range.2 hk, fun j hj => by rw [h j hj]; rfl⟩
  rw [this]
def verE (p : Dp) (l : List Cut) : Int := if probD p then (if 0 ≤ wrongD p l then 7 else 0) else 2
def verN (p : Dp) (l : List Cut) : Int := if probD p then (if 0 ≤ wrongD p l then wrongD p l else 0) else 0
set_option maxRecDepth 100000 in
set_option maxHeartbeats 2000000 in
theorem verify_any (p : Dp) (l : List Cut) (dv rv lv : Value) (w : World) {B : Nat} (hdv : Us w B dv p.doms) (hrv : DRls w B rv p.rules) (hlv : Cts w B lv l) (_ : 0 < B) (hB : B ≤ w.heap.size) (hT : Tab w) :
    Gives Tryz.prog 15 #[.agg #[dv, rv], lv] w (.tuple #[.int .i64 (verN p l), .int .i64 (verE p l)]) := by
  unfold Gives
  have HDV := Lib.hid hdv; have HRV := Lib.hid hrv; have HLV := Lib.hid hlv; have HT := Lib.hid hT
  have hll := hlv.len
  obtain ⟨da, dc, rfl⟩ := hdv.slice
  obtain ⟨ra, rc, rfl⟩ := hrv.slice
  obtain ⟨la, lc, rfl⟩ := hlv.slice
  clear hdv hrv hlv hT
  go_enter Tryz.func15, Tryz.ntmps15
  go_wp2_with fail
  refine (check_any p _ _ _ (HDV.out.below (Below.new1 _ _) hB) (HRV.out.below (Below.new1 _ _) hB) (by simp; omega)).mono ?_
  rintro e w2 ⟨rfl, hb2⟩
  have hbw2 := (Below.new1 w (.cells #[.slice da p.doms.length dc, .slice ra p.rules.length rc] 25)).trans (hb2.mono (by simp))
  have k0 := heap_later (heap_new0 w (.cells #[.slice da p.doms.length dc, .slice ra p.rules.length rc] 25)) hb2 (by simp)
  have z0 : w.heap.size < w2.heap.size := (Array.getElem?_eq_some_iff.1 k0).1
  have K0 := Lib.hid k0; have HB2 := Lib.hid hbw2
  clear k0 hb2 hbw2
  cases hok : probD p
  case false =>
    have HF : Hid (verN p l = 0 ∧ verE p l = 2) := Lib.hid (by unfold verN verE; rw [hok]; exact ⟨rfl, rfl⟩)
    unfold errOf
    go_wp2
    go_ret2
    exact ⟨by rw [HF.out.1, HF.out.2]; rfl, HB2.out⟩
  case true =>
    have HOK := Lib.hid hok
    unfold errOf
    go_wp2_with fail
    go_loopw [13] (fun iv wr => ∃ k : Nat, k ≤ l.length ∧ iv = .int .i64 k ∧ (∀ i, i < k → rightD p (l.take i) (cget l i) = true) ∧ Below w2.heap.size w2 wr) (fun iv _ => l.length - (intOf iv).toNat)
    case atStart => exact ⟨0, Nat.zero_le _, rfl, fun i hi => absurd hi (Nat.not_lt_zero _), Below.refl _ _⟩
    case round =>
      obtain ⟨k, hk, rfl, hall, hb⟩ := hrel
      have HALL := Lib.hid hall; have HBL := Lib.hid hb; have HBW := Lib.hid (HB2.out.trans (hb.mono HB2.out.size))
      have hsz := hb.size
      clear hall hb
      by_cases hlt : k < l.length
      · obtain ⟨lb, lo, yv, rfl, hlb, hyv, l0, l1, l2, l3⟩ := (HLV.out.below HBW.out hB).cells hlt
        obtain ⟨ya, yc, rfl⟩ := hyv.slice
        have HYV := Lib.hid hyv
        clear hyv
        obtain ⟨c, hc⟩ : ∃ c, c = cget l k := ⟨_, rfl⟩
        rw [← hc] at HYV l0 l1 l2 l3
        have HC := Lib.hid hc
        clear hc
        go_wp2_with fail
        refine abs_wp (fun V => V.heap[wr.heap.size]? = some (.cells #[.int .i64 c.var, .int .i64 c.value, .int .i64 c.rule, .slice ya c.why.length yc] 73 (0, 0)) ∧ Below wr.heap.size wr V) ⟨by first | exact heap_new0 _ _ | (rw [HC.out]; exact heap_new0 _ _), Below.new1 _ _⟩ ?_
        rintro V ⟨kv, hbv⟩
        have kp := heap_later (heap_later K0.out HBL.out z0) hbv (by omega)
        have p0 : V.cell? ⟨w.heap.size, 0, none⟩ = some (.slice da p.doms.length dc) := by rw [cell_of_row _ _ _ _ _ _ kp]; rfl
        have p1 : V.cell? ⟨w.heap.size, 1, none⟩ = some (.slice ra p.rules.length rc) := by rw [cell_of_row _ _ _ _ _ _ kp]; rfl
        have t0 : V.cell? ⟨wr.heap.size, 0, none⟩ = some (.int .i64 c.var) := by rw [cell_of_row _ _ _ _ _ _ kv]; rfl
        have t1 : V.cell? ⟨wr.heap.size, 1, none⟩ = some (.int .i64 c.value) := by rw [cell_of_row _ _ _ _ _ _ kv]; rfl
        have t2 : V.cell? ⟨wr.heap.size, 2, none⟩ = some (.int .i64 c.rule) := by rw [cell_of_row _ _ _ _ _ _ kv]; rfl
        have t3 : V.cell? ⟨wr.heap.size, 3, none⟩ = some (.slice ya c.why.length yc) := by rw [cell_of_row _ _ _ _ _ _ kv]; rfl
        have y0 : wr.heap.size < V.heap.size := (Array.getElem?_eq_some_iff.1 kv).1
        have y1 : w.heap.size < V.heap.size := by omega
        have hbV := HBW.out.trans (hbv.mono HBW.out.size)
        have hfit : ∀ i, i < (l.take k).length → CFit (cget (l.take k) i) := fun i hi => by
          have hik : i < k := by simp at hi; omega
          rw [cget_take hik]
          exact (rightD_parts HOK.out (HALL.out i hik)).1
        have hR : ∀ d os, Gives Tryz.prog 49 #[.agg #[.slice da p.doms.length dc, .slice ra p.rules.length rc], .slice (some ⟨lb, lo, none⟩) k lc, .agg #[.int .i64 c.var, .int .i64 c.value, .int .i64 c.rule, .slice ya c.why.length yc]] (Go.Sort.grow (redrawn V d) os) (.bool (rightD p (l.take k) c)) := fun d os =>
          right_any p (l.take k) c _ _ _ _ _ (B := V.heap.size) ((HDV.out.below (below_grow hbV d os) hB).mono (by have := hbV.size; omega)) ((HRV.out.below (below_grow hbV d os) hB).mono (by have := hbV.size; omega)) (((HLV.out.take (by omega)).below (below_grow hbV d os) hB).mono (by have := hbV.size; omega)) (((HYV.out.below (hbv.trans ((below_regrown V d os).mono hbv.size)) (by omega))).mono (by have := hbV.size; omega)) (by omega) (below_regrown V d os).size HOK.out hfit (HT.out.below (below_grow hbV d os) (by omega))
        have hklc : ((k : Nat) : Int) ≤ ((lc : Nat) : Int) := by
          obtain ⟨_, ⟨_, a', c', hv, hcc, _, _⟩, _⟩ := HLV.out
          cases hv; omega
        have HR := Lib.hid hR; have HBV := Lib.hid hbv
        clear hR hbv hbV hfit kv kp
        cases hr : rightD p (l.take k) c <;> rw [hr] at HR
        case false =>
          have HF : Hid (verN p l = k ∧ verE p l = 7) := Lib.hid (by
            have hw := wrongD_some hlt HALL.out (by rw [← HC.out]; exact hr)
            unfold verN verE; rw [HOK.out, hw, if_pos rfl, if_pos (by omega), if_pos rfl, if_pos (by omega)]; exact ⟨rfl, rfl⟩)
          clear hr
          refine wp_region_qb (by kernel_rfl) (by kernel_rfl) ?_
          repeat go_big_quiet_step ((with_reducible exact Gives.quiet (HR.out _ _)))
          refine wpQuiet_nil ?_
          intro w4 hb4
          go_wp2
          go_ret2
          exact ⟨by rw [HF.out.1, HF.out.2]; rfl, HBW.out.trans ((HBV.out.trans (hb4.mono HBV.out.size)).mono HBW.out.size)⟩
        case true =>
          have HRT := Lib.hid hr
          clear hr
          refine wp_region_qb (by kernel_rfl) (by kernel_rfl) ?_
          repeat go_big_quiet_step ((with_reducible exact Gives.quiet (HR.out _ _)))
          refine wpQuiet_nil ?_
          intro w4 hb4
          have HB4 := Lib.hid (HBL.out.trans ((HBV.out.trans (hb4.mono HBV.out.size)).mono hsz))
          clear hb4
          go_wp2
          go_roundw
          case rel => exact ⟨k + 1, by omega, by go_num, fun i hi => if h : i = k then by subst h; rw [← HC.out]; exact HRT.out else HALL.out i (by omega), HB4.out⟩
          case measure => simp [intOf]; omega
      · have hkL : k = l.length := by omega
        subst hkL
        have HF : Hid (verN p l = 0 ∧ verE p l = 0) := Lib.hid (by
          have hw := wrongD_none HALL.out
          unfold verN verE; rw [HOK.out, hw]; exact ⟨rfl, rfl⟩)
        go_wp2
        go_ret2
        exact ⟨by rw [HF.out.1, HF.out.2]; rfl, HBW.out⟩
end Go.Proofs.YtdmmegmkdhinjaaGreatDoor
