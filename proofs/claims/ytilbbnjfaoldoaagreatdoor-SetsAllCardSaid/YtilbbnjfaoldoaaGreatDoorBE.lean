/- Package sets: the deferred closure of run. · Package sets: run of a propagator. · Package sets: Propagate. · The search, in plain Lean. · Memory of the search: sets of solutions in rows of the call's own. · Package sets: a node of the search. -/
import Derived.Test.YtilbbnjfaoldoaaGreatDoorBD
import Derived.Test.YtilbbnjfaoldoaaGreatDoorBC
import Derived.Deep.LoopGhost
import Derived.Deep.Cut
namespace Go.Proofs.YtilbbnjfaoldoaaGreatDoor
open Go Go.RowKit

set_option maxRecDepth 100000 in
theorem run1_panicking (b j : Nat) (x : Int) (w : World) (hc : w.cell? ⟨b, 0, none⟩ = some (.int .i64 x)) (hz : w.frozen? ⟨b, 0, none⟩ = false) (hb : b < w.heap.size) :
    CallsD Tryz.prog 81 #[.pointer (some ⟨b, 0, none⟩)] (.panicking [{ v := .iface 124 (.agg #[.int .i64 j]), recovered := false }]) w fun e u' w' =>
      e = .returned (.tuple #[]) ∧ u' = .panicking [{ v := .iface 124 (.agg #[.int .i64 j]), recovered := true }] ∧ w' = (w.alloc (.cells #[.int .i64 j] 124)).setCell ⟨b, 0, none⟩ (.int .i64 j) := by
  refine callsD_of_wpS Tryz.func81 rfl fun c₀ cs hu => ?_
  apply wpS_seq
  apply wpS_region
  simp [wpOpsS, go_sem, recoverD, hu, Tryz.ntmps81, Exit.thenS]
  have hta : ∀ w, (Instr.typeAssert (.iface 124 (.agg #[.int .i64 j])) 20 124 true).run Tryz.prog w = .ok (.tuple #[.agg #[.int .i64 j], .bool true]) w := fun w => by kernel_rfl
  apply wpS_seq
  apply wpS_region
  simp [wpOpsS, go_sem, Exit.thenS]
  refine wpS_cond (t := true) (by simp [Act.eval, Array.replicate]) ?_
  simp only [if_true]
  apply wpS_seq
  apply wpS_region
  simp [wpOpsS, go_sem, Exit.thenS, hta]
  apply wpS_seq
  apply wpS_seq
  apply wpS_region
  simp [wpOpsS, go_sem, Exit.thenS]
  refine wpS_cond (t := false) (by simp [Act.eval, Array.replicate]) ?_
  simp only [Bool.false_eq_true, if_false]
  refine wpS_of_wp (wp_skip ?_)
  simp only [Exit.thenS]
  apply wpS_region
  have hc' := (bcell (Below.new1 w (.cells #[.int .i64 j] 124))).1 b 0 hb
  have hz' := (bcell (Below.new1 w (.cells #[.int .i64 j] 124))).2 b 0 hb
  rw [hc] at hc'
  rw [hz] at hz'
  simp [wpOpsS, go_sem, hc', hz', bodyPostS, results, Tryz.results81]

theorem run1_idle (p : Addr) (w : World) :
    CallsD Tryz.prog 81 #[.pointer (some p)] .returning w fun e u' w' => e = .returned (.tuple #[]) ∧ u' = .returning ∧ w' = w := by
  refine callsD_of_wpS Tryz.func81 rfl fun c₀ cs hu => ?_
  apply wpS_seq
  apply wpS_region
  simp [wpOpsS, go_sem, recoverD, hu, Tryz.ntmps81, Exit.thenS]
  apply wpS_seq
  apply wpS_region
  simp [wpOpsS, go_sem, Exit.thenS]
  refine wpS_cond (t := false) (by simp [Act.eval, Array.replicate]) ?_
  simp only [Bool.false_eq_true, if_false]
  refine wpS_of_wp (wp_skip ?_)
  cases c₀
  simp_all [bodyPostS, results, Tryz.results81]
end Go.Proofs.YtilbbnjfaoldoaaGreatDoor

namespace Go.Proofs.YtilbbnjfaoldoaaGreatDoor
open Go Go.RowKit
attribute [local go_sem] cell_grow u64_sAnd u64_sOr u64_sDiff sDiff_all zeqI zneI sAnd_bit_zero sAnd_bit_zeroN sAnd_bit_nonzero rowOf_grow rowOk_grow rowOf_alloc rowOk_alloc

theorem prop_range {w : World} {x : Nat} {t : TypeId} {bv rv fv : Value} {now : List Bnd} {rs : Bool} (h8 : now.length = 8) (h : w.heap[x]? = some (.cells (propC bv rv now fv rs).toArray t (0, 0))) : w.rangeAt x 2 (bCells now) := fun j v hv => by
  have hj : j < now.length * 2 := by have := (List.getElem?_eq_some_iff.1 hv).1; rwa [bCells_length] at this
  rw [(propC_cells h8 h).2.2.1 j (by omega), ← bCells_get now j hj, hv]
theorem binfo {bs : List Bnd} (h8 : bs.length = 8) : (Tryz.prog.info? 85).map (·.size) = some (bCells bs).length := by rw [bCells_length, h8]; kernel_rfl
set_option maxRecDepth 100000 in
set_option maxHeartbeats 2000000 in
theorem run_any (p : Prob) (rs : Bool) (now : List Bnd) (bv rv : Value) (x : Nat) (w : World) {B : Nat} (hbv : Bnds w B bv p.bounds) (hrv : Rls w B rv p.rules) (hB0 : 0 < B) (hB : B ≤ x) (hx : w.heap[x]? = some (.cells (propC bv rv now (.slice none 0 0) rs).toArray 91 (0, 0)))
    (hg : Good p (now, [])) (hpo : probOk p = true) (hT : Tab w) :
    Calls Tryz.prog 51 #[.pointer (some ⟨x, 0, none⟩)] w fun e w' =>
      e = .returned (.int .i64 (runR p rs (now, [])).2) ∧ (∃ lv', w'.heap[x]? = some (.cells (propC bv rv (runR p rs (now, [])).1.1 lv' rs).toArray 91 (0, 0)) ∧ FOwn (hole x w') (w.heap.size + 1) lv' (runR p rs (now, [])).1.2) ∧ w.grownBy w' (some x) := by
  have HBV := Lib.hid hbv; have HRV := Lib.hid hrv; have HT := Lib.hid hT; have HX := Lib.hid hx; have HG := Lib.hid hg; have HPO := Lib.hid hpo
  have hxl : x < w.heap.size := (Array.getElem?_eq_some_iff.1 hx).1
  obtain ⟨ra, rc, rfl⟩ := hrv.slice
  have hmf : ∀ (fn : Fn) (first cap : Array Value) (w : World), (Instr.makeFunc fn first cap).run Tryz.prog w = .ok (.func fn first cap) w := fun _ _ _ _ => rfl
  obtain ⟨base, hbase⟩ : ∃ base, base = w.heap.size + 1 := ⟨_, rfl⟩
  have HBASE := Lib.hid hbase
  have hbas1 : w.heap.size < base := by omega
  have hbas2 : base ≤ w.heap.size + 1 := by omega
  have hBb : B ≤ base := by omega
  obtain ⟨st, hst⟩ : ∃ st : St, st = (now, []) := ⟨_, rfl⟩
  rw [← hst] at HG
  have hn1 : now = st.1 := by rw [hst]
  have HST := Lib.hid hst
  rw [hn1] at HX
  rw [← hst]
  clear hbase hst hn1
  clear hbv hrv hT hx hg hpo
  go_enter_defers Tryz.func51, Tryz.ntmps51
  go_wp2
  refine abs_wp (fun W => W.heap[w.heap.size]? = some (.cells #[.int .i64 0] 3 (0, 0)) ∧ Below w.heap.size w W ∧ w.heap.size + 1 = W.heap.size) ⟨heap_new0 _ _, Below.new1 _ _, by simp⟩ ?_
  rintro W ⟨k0, hb, hs⟩
  have hx2 := heap_later HX.out hb hxl
  have hf2 : FOwn (hole x W) base (.slice none 0 0) st.2 := by rw [HST.out]; exact FOwn.nil _ _
  have HX2 := Lib.hid hx2; have HF2 := Lib.hid hf2; have HK0 := Lib.hid k0; have HB' := Lib.hid hb
  clear hx2 hf2 k0 hb HX
  go_loopg [] (openN st.1 + 1) (fun g wr => ∃ st' lv, openN st'.1 < g ∧ Good p st' ∧ runSt p rs g st' = runR p rs st ∧ wr.heap[x]? = some (.cells (propC bv (.slice ra p.rules.length rc) st'.1 lv rs).toArray 91 (0, 0)) ∧
    FOwn (hole x wr) base lv st'.2 ∧ Kept (One x) base w wr ∧ wr.heap[w.heap.size]? = some (.cells #[.int .i64 0] 3 (0, 0)))
  case atStart => exact ⟨st, _, Nat.lt_succ_self _, HG.out, rfl, HX2.out, HF2.out, Kept.of_below HB'.out, HK0.out⟩
  case round =>
    obtain ⟨wo, rfl⟩ : ∃ wo : World, wo = wr := ⟨_, rfl⟩
    obtain ⟨st', lv', hgk, hg', hrun, hxr, hfr, hkp, hk0⟩ := hrel
    have hxs : x < wo.heap.size := (Array.getElem?_eq_some_iff.1 hxr).1
    have hws : w.heap.size < wo.heap.size := (Array.getElem?_eq_some_iff.1 hk0).1
    have RG := Lib.hid (prop_range hg'.len hxr); have RI := Lib.hid (binfo hg'.len)
    have HG' := Lib.hid hg'; have HRUN := Lib.hid hrun; have HXR := Lib.hid hxr; have HFR := Lib.hid hfr; have HKP := Lib.hid hkp; have HK0r := Lib.hid hk0
    have hn0 := heap_new0 wo (.cells (bCells zeroB).toArray 85)
    have HSF := Lib.hid (store_facts HG'.out.len hn0 (by rw [List.size_toArray, bCells_length]; rfl))
    clear hg' hrun hxr hfr hkp hk0 HX2 HF2 HK0 HB' hn0
    go_wp2_with (first | (refine wpList_load_mid rfl 85 _ rfl _ _ rfl _ _ RG.out Tryz.underlying85 rfl RI.out ?_) | (
               refine wpList_store_mid rfl 85 _ _ rfl _ _ _ rfl rfl HSF.out.1 HSF.out.2.1 (all_oneCell_toArray (bCells_one _)) ?_
               generalize hW2 : World.setCells _ _ _ _ = W2
               have k2 : W2.heap[wo.heap.size]? = some (.cells (bCells st'.1).toArray 85 (0, 0)) := by rw [← hW2]; exact HSF.out.2.2
               have hb2 : Below wo.heap.size wo W2 := by rw [← hW2]; exact below_setCells (Nat.le_refl _) _ _ _ (Below.new1 _ _)
               have hs2 : wo.heap.size + 1 ≤ W2.heap.size := by have := (Array.getElem?_eq_some_iff.1 k2).1; omega
               clear hW2
               have x1 : W2.cell? ⟨x, 1, none⟩ = some (.slice ra p.rules.length rc) := (propC_cells HG'.out.len (heap_later HXR.out hb2 hxs)).2.1))
    have hx2 := heap_later HXR.out hb2 hxs
    have hf2 := HFR.out.ck (CK.below hb2).hole
    have hkp2 := HKP.out.below hb2
    have hk02 := heap_later HK0r.out hb2 hws
    have HK2 := Lib.hid k2; have HX2 := Lib.hid hx2; have HF2 := Lib.hid hf2; have HKP2 := Lib.hid hkp2; have HK02 := Lib.hid hk02
    have hfr := probOk_fit HPO.out
    have HFIT := Lib.hid hfr.2.2.2.1
    have hr12 := hfr.2.2.1
    clear k2 hb2 x1 hx2 hf2 hkp2 hk02 hfr RG RI HXR HFR HKP HK0r HSF
    have hs2' := hs2
    go_loopw [16] (fun i wr => ∃ (j : Nat) (stj : St) (lj : Value), j ≤ p.rules.length ∧ i = .int .i64 j ∧ Good p stj ∧ rulesSt p rs (p.rules.length - j) j stj = rulesSt p rs p.rules.length 0 st' ∧
      wr.heap[x]? = some (.cells (propC bv (.slice ra p.rules.length rc) stj.1 lj rs).toArray 91 (0, 0)) ∧ FOwn (hole x wr) base lj stj.2 ∧ Kept (One x) base w wr ∧
      wr.heap[w.heap.size]? = some (.cells #[.int .i64 0] 3 (0, 0)) ∧ wr.heap[wo.heap.size]? = some (.cells (bCells st'.1).toArray 85 (0, 0))) (fun i _ => p.rules.length - (intOf i).toNat)
    case atStart => exact ⟨0, st', lv', Nat.zero_le _, rfl, HG'.out, rfl, HX2.out, HF2.out, HKP2.out, HK02.out, HK2.out⟩
    case round =>
      obtain ⟨j, stj, lj, hj, rfl, hgj, hrj, hxj, hfj, hkj, hk0j, hbj⟩ := hrel
      have hxs3 : x < wr.heap.size := (Array.getElem?_eq_some_iff.1 hxj).1
      have hlow : Below B w wr := hkj.toBelow hBb (by omega) (fun q hq h => by unfold One at h; omega)
      have hsz : w.heap.size < wr.heap.size := (Array.getElem?_eq_some_iff.1 hk0j).1
      have HGJ := Lib.hid hgj; have HRJ := Lib.hid hrj; have HXJ := Lib.hid hxj; have HFJ := Lib.hid hfj; have HKJ := Lib.hid hkj; have HK0J := Lib.hid hk0j; have HBJ := Lib.hid hbj; have HLOW := Lib.hid hlow
      clear hgj hrj hxj hfj hkj hk0j hbj hlow HX2 HF2 HKP2 HK02 HK2
      by_cases hlt : j < p.rules.length
      · go_wp2_with fail
        refine (rule_step p rs j stj bv _ lj x wr (HBV.out.below HLOW.out (Nat.le_refl _)) (HRV.out.below HLOW.out (Nat.le_refl _)) hB0 hB hBb HXJ.out HFJ.out (by omega) HGJ.out HPO.out hlt (HT.out.below HLOW.out hB0)).mono ?_
        rintro e w2 (⟨hpos, ⟨vv, rfl⟩, lv2, hx2, hf2, hk2⟩ | ⟨hpos, rfl, hb2⟩)
        · have hg2 := (HGJ.out.rule (rs := rs) (j := j) (HFIT.out j hlt)).1
          have hr2 : rulesSt p rs (p.rules.length - (j + 1)) (j + 1) (ruleSt p rs j stj) = rulesSt p rs p.rules.length 0 st' := by
            rw [← HRJ.out, show p.rules.length - j = (p.rules.length - (j + 1)) + 1 by omega]
            conv => rhs; unfold rulesSt
            rw [hpos]; rfl
          have HFIN := Lib.hid (show _ ∧ _ ∧ _ ∧ _ ∧ _ ∧ _ ∧ _ from ⟨hg2, hr2, hx2, hf2, HKJ.out.trans hk2, hk2.same _ _ HK0J.out (by show ¬ w.heap.size = x; omega) (.inr (nf (by decide))), hk2.same _ _ HBJ.out (by show ¬ wo.heap.size = x; omega) (.inr (nf (by decide)))⟩)
          clear hpos hx2 hf2 hk2 hg2 hr2 HGJ HRJ HXJ HFJ HKJ HK0J HBJ HLOW
          go_wp2
          go_roundw
          case rel => exact ⟨j + 1, _, lv2, by omega, by go_num, HFIN.out.1, HFIN.out.2.1, HFIN.out.2.2.1, HFIN.out.2.2.2.1, HFIN.out.2.2.2.2.1, HFIN.out.2.2.2.2.2.1, HFIN.out.2.2.2.2.2.2⟩
          case measure => simp [intOf]; omega
        · go_wp2
          have hm : p.rules.length - j = (p.rules.length - (j + 1)) + 1 := by omega
          have hrs : rulesSt p rs p.rules.length 0 st' = (stj, some j) := by
            rw [← HRJ.out, hm]
            unfold rulesSt
            rw [hpos]; rfl
          have hres : runR p rs st = (stj, (j : Int)) := by
            obtain ⟨g, rfl⟩ : ∃ g, gk = g + 1 := ⟨gk - 1, by omega⟩
            rw [← HRUN.out]
            unfold runSt
            rw [hrs]
          have kb := heap_later HK0J.out hb2 (by omega)
          have zb : w.heap.size < w2.heap.size := (Array.getElem?_eq_some_iff.1 kb).1
          have cb : w2.cell? ⟨w.heap.size, 0, none⟩ = some (.int .i64 0) := by rw [cell_of_row _ _ _ _ _ _ kb]; rfl
          refine leaves_cons (f := 81) (args := #[.pointer (some ⟨w.heap.size, 0, none⟩)]) (by simp) (by simp [go_sem]) ?_
          refine (run1_panicking w.heap.size j 0 w2 cb (by simp [World.frozen?, kb]) zb).mono ?_
          rintro e u' w3 ⟨rfl, rfl, rfl⟩
          have hb3 := Below.new1 w2 (.cells #[.int .i64 j] 124)
          have kb3 := heap_later kb hb3 zb
          have cb3 : ((w2.alloc (.cells #[.int .i64 j] 124)).setCell ⟨w.heap.size, 0, none⟩ (.int .i64 j)).cell? ⟨w.heap.size, 0, none⟩ = some (.int .i64 j) := by
            rw [cell_of_row _ _ _ #[.int .i64 j] 3 (0, 0) (by simp only [World.setCell, Array.getElem?_modify, if_true, kb3, Option.map_some]; rfl)]; rfl
          refine ⟨.int .i64 j, results_cell1 (p := 2) (ty := 3) rfl rfl (loadVar_one Tryz.underlying3 rfl cb3), ?_⟩
          rw [hres]
          have hx3 := heap_later (heap_later HXJ.out hb2 hxs3) hb3 (by have := hb2.size; omega)
          refine ⟨rfl, ⟨lj, (Below.heap_setCell _ _ _ _ (show x ≠ w.heap.size by omega)).trans hx3, ?_⟩, ?_⟩
          · rw [← HBASE.out]
            refine HFJ.out.low fun k c t f hk e => ?_
            obtain ⟨h1, h2⟩ := hole_cells e
            rw [hole_other h1, Below.heap_setCell _ _ _ _ (show k ≠ w.heap.size by omega)]
            exact heap_later (heap_later h2 hb2 (Array.getElem?_eq_some_iff.1 h2).1) hb3 (by have := (Array.getElem?_eq_some_iff.1 h2).1; have := hb2.size; omega)
          · exact (((HKJ.out.below hb2).below hb3).setNew (Nat.le_refl _) _).grownBy (by omega)
      · have hjL : j = p.rules.length := by omega
        subst hjL
        have hrs : rulesSt p rs p.rules.length 0 st' = (stj, none) := by
          rw [← HRJ.out, Nat.sub_self]; rfl
        have HRS := Lib.hid hrs
        have hgs := Good.rules (rs := rs) HFIT.out p.rules.length 0 HG'.out (by omega)
        rw [hrs] at hgs
        have HGS := Lib.hid hgs
        have HPR := Lib.hid (prop_row HGJ.out.len HXJ.out)
        have HBR := Lib.hid (bblock_row HG'.out.len HBJ.out)
        have zb : wo.heap.size < wr.heap.size := (Array.getElem?_eq_some_iff.1 HBJ.out).1
        have heq := run_eql_bounds stj.1 st'.1 HGJ.out.len HG'.out.len
        obtain ⟨g, rfl⟩ : ∃ g, gk = g + 1 := ⟨gk - 1, by omega⟩
        have hxz := hxs3
        have hrun := HRUN.out
        unfold runSt at hrun
        rw [hrs] at hrun
        dsimp only at hrun
        clear hrs hgs
        by_cases he : stj.1 = st'.1
        · rw [if_pos he] at hrun
          rw [he] at heq
          simp only [decide_true] at heq
          rw [← he] at heq HBR
          have HRES := Lib.hid hrun
          have HE := Lib.hid he
          clear hrun he
          go_wp2_with fail
          refine wp_region_qb (by kernel_rfl) (by kernel_rfl) ?_
          repeat (first | (go_big_quiet_want; refine quiet_loadB _ rfl rfl (rowQ HPR.out hxz) ?_; simp only [Act.put, List.setIfInBounds_toArray, List.set_cons_zero, List.set_cons_succ]; go_big_quiet_on) | (go_big_quiet_want; refine quiet_loadB _ rfl rfl (rowQ HBR.out zb) ?_; simp only [Act.put, List.setIfInBounds_toArray, List.set_cons_zero, List.set_cons_succ]; go_big_quiet_on) | go_big_quiet_step (fail))
          refine wpQuiet_nil ?_
          intro w4 hb4
          have kb := heap_later HK0J.out hb4 (by omega)
          have zb4 : w.heap.size < w4.heap.size := (Array.getElem?_eq_some_iff.1 kb).1
          have cb : w4.cell? ⟨w.heap.size, 0, none⟩ = some (.int .i64 0) := by rw [cell_of_row _ _ _ _ _ _ kb]; rfl
          have fb : w4.frozen? ⟨w.heap.size, 0, none⟩ = false := by simp [World.frozen?, kb]
          have KB := Lib.hid kb; have HB4 := Lib.hid hb4
          clear kb hb4 heq
          go_wp2_with fail
          refine leaves_cons (f := 81) (args := #[.pointer (some ⟨w.heap.size, 0, none⟩)]) (by simp) (by simp [go_sem]) ?_
          refine (run1_idle ⟨w.heap.size, 0, none⟩ _).mono ?_
          rintro e u' w5 ⟨rfl, rfl, rfl⟩
          have cb5 : (w4.setCell ⟨w.heap.size, 0, none⟩ (.int .i64 (-1))).cell? ⟨w.heap.size, 0, none⟩ = some (.int .i64 (-1)) := by
            rw [cell_of_row _ _ _ #[.int .i64 (-1)] 3 (0, 0) (by simp only [World.setCell, Array.getElem?_modify, if_true, KB.out, Option.map_some]; rfl)]; rfl
          refine ⟨.int .i64 (-1), results_cell1 (p := 2) (ty := 3) rfl rfl (loadVar_one Tryz.underlying3 rfl cb5), ?_⟩
          rw [← HRES.out]
          refine ⟨rfl, ⟨lj, (Below.heap_setCell _ _ _ _ (show x ≠ w.heap.size by omega)).trans (heap_later HXJ.out HB4.out hxs3), ?_⟩, ?_⟩
          · rw [← HBASE.out]
            refine HFJ.out.low fun k c t f hk e => ?_
            obtain ⟨h1, h2⟩ := hole_cells e
            rw [hole_other h1, Below.heap_setCell _ _ _ _ (show k ≠ w.heap.size by omega)]
            exact heap_later h2 HB4.out (Array.getElem?_eq_some_iff.1 h2).1
          · exact ((HKJ.out.below HB4.out).setNew (Nat.le_refl _) _).grownBy (by omega)
        · rw [if_neg he] at hrun
          simp only [he, decide_false] at heq
          have hlt2 : openN stj.1 < g := by
            rcases HGS.out.2.2 with h | h
            · exact absurd h he
            · have h' : openN stj.1 < openN st'.1 := h
              omega
          have HRES := Lib.hid hrun
          clear hrun he
          go_wp2_with fail
          refine wp_region_qb (by kernel_rfl) (by kernel_rfl) ?_
          repeat (first | (go_big_quiet_want; refine quiet_loadB _ rfl rfl (rowQ HPR.out hxz) ?_; simp only [Act.put, List.setIfInBounds_toArray, List.set_cons_zero, List.set_cons_succ]; go_big_quiet_on) | (go_big_quiet_want; refine quiet_loadB _ rfl rfl (rowQ HBR.out zb) ?_; simp only [Act.put, List.setIfInBounds_toArray, List.set_cons_zero, List.set_cons_succ]; go_big_quiet_on) | go_big_quiet_step (fail))
          refine wpQuiet_nil ?_
          intro w4 hb4
          have HFIN := Lib.hid (show _ ∧ _ ∧ _ ∧ _ from ⟨heap_later HXJ.out hb4 hxs3, HFJ.out.ck (CK.below hb4).hole, HKJ.out.below hb4, heap_later HK0J.out hb4 hsz⟩)
          clear heq hb4
          go_wp2
          go_roundg g
          case rel => exact ⟨stj, lj, hlt2, HGJ.out, HRES.out, HFIN.out.1, HFIN.out.2.1, HFIN.out.2.2.1, HFIN.out.2.2.2⟩
          case measure => omega
end Go.Proofs.YtilbbnjfaoldoaaGreatDoor

namespace Go.Proofs.YtilbbnjfaoldoaaGreatDoor
open Go Go.RowKit
attribute [local go_sem] cell_grow u64_sAnd u64_sOr u64_sDiff sDiff_all zeqI zneI sAnd_bit_zero sAnd_bit_zeroN sAnd_bit_nonzero rowOf_grow rowOk_grow rowOf_alloc rowOk_alloc

theorem wp_ran {P : Program} {o : Oper} {a : Act} {K : Act → World → Prop} {Q : Exit → Act → World → Prop} {w : World} (v : Value) (hr : (execOp a.eval o).run P w = .ok (.value v) w) (h : K (a.put o.dst v) w) : o.wp P a w K Q := by
  unfold Oper.wp
  rw [hr]
  exact h
/-- An operation that has been run by hand. -/
theorem wpList_ran {P : Program} {ops : Array Oper} {rest : List Oper} {o : Oper} {a : Act} {w : World} {Q : Exit → Act → World → Prop} (hgd : o.guard = none) (v : Value) (hr : (execOp a.eval o).run P w = .ok (.value v) w)
    (h : wpList P ops Q rest (a.put o.dst v) w) : wpList P ops Q (o :: rest) a w := wpList_plain hgd fun _ hK => wp_ran v hr (hK _ _ h)
theorem exec_build {P : Program} {o : Oper} {a : Act} {w : World} {v : Value} (t : TypeId) (parts : Array (Nat × Operand)) (ho : o.op = .build t parts) {ps : Array (Nat × Value)} (hm : (parts.map fun p => (p.1, a.eval p.2)) = ps) (hr : (Instr.build t ps).run P w = .ok v w) : (execOp a.eval o).run P w = .ok (.value v) w := by
  unfold execOp
  simp only [ho, hm, Sem.run_bind, hr, Result.andThen_ok, Sem.run_pure]
theorem list8 (b : List Bnd) (h : b.length = 8) : ∃ b0 b1 b2 b3 b4 b5 b6 b7, b = [b0, b1, b2, b3, b4, b5, b6, b7] := by
  match b, h with
  | [b0, b1, b2, b3, b4, b5, b6, b7], _ => exact ⟨_, _, _, _, _, _, _, _, rfl⟩
set_option maxRecDepth 100000 in
theorem build_prop (ba : Option Addr) (bn bc : Nat) (ra : Option Addr) (rn rc : Nat) (b : List Bnd) (h8 : b.length = 8) (w : World) :
    (Instr.build 91 #[(0, .agg #[.slice ba bn bc, .slice ra rn rc]), (1, .agg (bCells b).toArray), (3, .bool true)]).run Tryz.prog w = .ok (.agg (propC (.slice ba bn bc) (.slice ra rn rc) b (.slice none 0 0) true).toArray) w := by
  obtain ⟨b0, b1, b2, b3, b4, b5, b6, b7, rfl⟩ := list8 b h8
  exact run_build w _ _ _ (by kernel_rfl)
set_option maxRecDepth 100000 in
theorem build_prop0 (ba : Option Addr) (bn bc : Nat) (ra : Option Addr) (rn rc : Nat) (b : List Bnd) (h8 : b.length = 8) (w : World) :
    (Instr.build 91 #[(0, .agg #[.slice ba bn bc, .slice ra rn rc]), (1, .agg (bCells b).toArray)]).run Tryz.prog w = .ok (.agg (propC (.slice ba bn bc) (.slice ra rn rc) b (.slice none 0 0) false).toArray) w := by
  obtain ⟨b0, b1, b2, b3, b4, b5, b6, b7, rfl⟩ := list8 b h8
  exact run_build w _ _ _ (by kernel_rfl)
set_option maxRecDepth 100000 in
set_option maxHeartbeats 400000 in
theorem clone_bnds (xs : List Bnd) (b off n c : Nat) (w : World) {B : Nat} (h : Bnds w B (.slice (some ⟨b, off, none⟩) n c) xs) (hsm : xs.length ≤ 1000000) (h0 : 0 < n) :
    Calls Tryz.prog 52 #[.slice (some ⟨b, off, none⟩) n c] w fun e w' => ∃ v', e = .returned v' ∧ w'.ownsRow w.heap.size 47 2 v' n (bCells xs) ∧ Below w.heap.size w w' := by
  obtain ⟨_, a', c', hv, hnc, hcm, hr⟩ := h
  cases hv
  obtain ⟨b', off', hae, hbB, hcell⟩ := hr h0
  cases hae
  obtain ⟨i0, hi, hz0, hz1, hz2⟩ := info_parts Tryz.info67
  have q22 : ∀ (w : World) (a : Option Addr) (n c n' c' : Nat), (binOp .eql 22 (.slice a n c) (.slice none n' c')).run Tryz.prog w = .ok (.bool a.isNone) w := fun w a n c n' c' => Lib.run_eql_slice_nil w _ _ a n c n' c' Tryz.underlying22
  have HC := Lib.hid hcell
  clear hr hcell
  go_enter Tryz.func52, Tryz.ntmps52
  go_wp2_with (at_builtin; refine wpList_append_own _ rfl _ _ 22 rfl w.heap.size 47 i0 _ 2 16 Tryz.underlying22 hi hz0 hz1 hz2 rfl (by decide) _ _ _ rfl (World.ownsRow_made w #[] 0 (Nat.le_refl _) (Nat.zero_le _) rfl) ⟨b, off, none⟩ xs.length c (bCells xs) rfl (by rw [bCells_length]) ?qc2 ?qc3 ?qc4 ?qc5 (by simp) ?_)
  case qc2 =>
    intro j u hj
    have hjl : j < xs.length * 2 := by have := (List.getElem?_eq_some_iff.1 hj).1; rwa [bCells_length] at this
    rw [bCells_get xs j hjl] at hj
    cases hj
    rw [Addr.add_mid]
    exact ((Below.new1 w _).cell (p := ⟨b, off + j, none⟩) (World.block_lt_of_cell? w ⟨b, off + j, none⟩ (HC.out j hjl))).trans (HC.out j hjl)
  case qc3 => exact bCells_one xs
  case qc4 => unfold maxLen; omega
  case qc5 => omega
  intro v' w1 hown hgrow _
  have hb := (Below.new1 w (.cells #[] 47)).grown hgrow (by simp) (fun q hq => by simp [Value.ownBlock] at hq; omega)
  clear hgrow
  go_wp2
  go_ret
  exact ⟨_, rfl, hown, hb⟩
theorem bget_take {b : List Bnd} {n k : Nat} (h : k < n) : bget (b.take n) k = bget b k := by unfold bget; rw [List.getElem?_take, if_pos h]
theorem bcellAt_take {b : List Bnd} {n i : Nat} (h : i < n * 2) : bcellAt (b.take n) i = bcellAt b i := by unfold bcellAt; rw [bget_take (by omega)]
/-- What Propagate hands back of a problem as defined. -/
def propR (p : Prob) : St × Int := runR p true (padB p.bounds, [])
set_option maxRecDepth 100000 in
set_option maxHeartbeats 1000000 in
theorem propagate_no (p : Prob) (bv rv : Value) (w : World) {B : Nat} (hbv : Bnds w B bv p.bounds) (hrv : Rls w B rv p.rules) (hB : B ≤ w.heap.size) (hub : U64s p.bounds) (hno : probOk p = false) :
    Gives Tryz.prog 20 #[.agg #[bv, rv]] w (.tuple #[.slice none 0 0, .slice none 0 0, .int .i64 0, .int .i64 2]) := by
  have HBV := Lib.hid hbv; have HRV := Lib.hid hrv; have HUB := Lib.hid hub; have HNO := Lib.hid hno
  clear hbv hrv hub hno
  unfold Gives
  go_enter Tryz.func20, Tryz.ntmps20
  go_wp2_with fail
  refine (check_any p bv rv _ (HBV.out.below (Below.new1 _ _) hB) (HRV.out.below (Below.new1 _ _) hB) (by simp; omega) HUB.out).mono ?_
  rintro e w2 ⟨rfl, hb2⟩
  rw [HNO.out]
  have hfin := (Below.new1 w (.cells #[bv, rv] 25)).trans (hb2.mono (by simp))
  clear hb2
  go_wp2
  refine bodyPost_ret (v := .tuple #[.slice none 0 0, .slice none 0 0, .int .i64 0, .int .i64 2]) (by simp [results, Tryz.results20, go_sem]) rfl ⟨rfl, hfin⟩
set_option maxRecDepth 100000 in
set_option maxHeartbeats 1000000 in
theorem propagate_yes (p : Prob) (bv rv : Value) (w : World) {B : Nat} (hbv : Bnds w B bv p.bounds) (hrv : Rls w B rv p.rules) (hB0 : 0 < B) (hB : B ≤ w.heap.size) (hub : U64s p.bounds) (hT : Tab w) (hok : probOk p = true) :
    Calls Tryz.prog 20 #[.agg #[bv, rv]] w fun e w' => ∃ b' l', e = .returned (.tuple #[b', l', .int .i64 (propR p).2, .int .i64 0]) ∧ Bnds w' w'.heap.size b' ((propR p).1.1.take p.bounds.length) ∧
      Fcts w' w'.heap.size l' (propR p).1.2 ∧ Below w.heap.size w w' := by
  have HBV := Lib.hid hbv; have HRV := Lib.hid hrv; have HUB := Lib.hid hub; have HOK := Lib.hid hok; have HT := Lib.hid hT
  have HF := Lib.hid (probOk_fit hok)
  obtain ⟨ba, bc, rfl⟩ := hbv.slice
  obtain ⟨ra, rc, rfl⟩ := hrv.slice
  clear hbv hrv hub hok hT
  go_enter Tryz.func20, Tryz.ntmps20
  go_wp2_with fail
  refine (check_any p _ _ _ (HBV.out.below (Below.new1 _ _) hB) (HRV.out.below (Below.new1 _ _) hB) (by simp; omega) HUB.out).mono ?_
  rintro e w2 ⟨rfl, hb2⟩
  rw [HOK.out]
  have k0 := heap_later (heap_new0 w (.cells #[.slice ba p.bounds.length bc, .slice ra p.rules.length rc] 25)) hb2 (by simp)
  have z0 : w.heap.size < w2.heap.size := (Array.getElem?_eq_some_iff.1 k0).1
  have c0 : w2.cell? ⟨w.heap.size, 0, none⟩ = some (.slice ba p.bounds.length bc) := by rw [cell_of_row _ _ _ _ _ _ k0]; rfl
  have c1 : w2.cell? ⟨w.heap.size, 1, none⟩ = some (.slice ra p.rules.length rc) := by rw [cell_of_row _ _ _ _ _ _ k0]; rfl
  have hbw2 := (Below.new1 w (.cells #[.slice ba p.bounds.length bc, .slice ra p.rules.length rc] 25)).trans (hb2.mono (by simp))
  have K0 := Lib.hid k0; have HB2 := Lib.hid hbw2
  clear k0 hb2 hbw2
  have h1 : ∀ d os, Gives Tryz.prog 50 #[.agg #[.slice ba p.bounds.length bc, .slice ra p.rules.length rc]] (Go.Sort.grow (redrawn w2 d) os) (.agg (bCells (padB p.bounds)).toArray) := fun d os =>
    boundsOf_any p _ _ _ (HBV.out.below (below_grow HB2.out d os) hB) ⟨_, _, _, rfl⟩ (Nat.le_trans hB (below_grow HB2.out d os).size) HF.out.1 HF.out.2.1
  have H1 := Lib.hid h1
  have hbp := build_prop ba p.bounds.length bc ra p.rules.length rc (padB p.bounds) (padB_length HF.out.2.1)
  clear h1
  go_wp2_with fail
  refine wp_region_qbt 3 (by kernel_rfl) (by kernel_rfl) ?_
  simp only [List.take_succ_cons, List.take_zero, List.drop_succ_cons, List.drop_zero]
  repeat go_big_quiet_step ((with_reducible exact Gives.quiet (H1.out _ _)))
  refine wpQuiet_nil ?_
  intro w3 hb3
  refine wpList_ran rfl _ (exec_build 91 #[(0, .tmp 11), (1, .tmp 13), (3, .const (.bool true))] rfl (by simp [Act.eval]) (hbp w3)) ?_
  simp only [Act.put, List.setIfInBounds_toArray, List.set_cons_zero, List.set_cons_succ]
  clear hbp
  have k3 := heap_later K0.out hb3 z0
  have hb3w := HB2.out.trans (hb3.mono HB2.out.size)
  have K3 := Lib.hid k3; have HB3 := Lib.hid hb3w
  have z3 : w.heap.size < w3.heap.size := (Array.getElem?_eq_some_iff.1 k3).1
  clear k3 hb3 hb3w c0 c1
  go_wp2_with fail
  have hx4 := heap_new0 w3 (.cells (propC (.slice ba p.bounds.length bc) (.slice ra p.rules.length rc) (padB p.bounds) (.slice none 0 0) true).toArray 91)
  have hn4 := Below.new1 w3 (.cells (propC (.slice ba p.bounds.length bc) (.slice ra p.rules.length rc) (padB p.bounds) (.slice none 0 0) true).toArray 91)
  have hb4 := HB3.out.trans (hn4.mono (by omega))
  have k4 := heap_later K3.out hn4 z3
  refine (run_any p true (padB p.bounds) _ _ w3.heap.size _ (HBV.out.below hb4 hB) (HRV.out.below hb4 hB) hB0 (by omega) hx4 (Good.first HOK.out) HOK.out (HT.out.below hb4 (by omega))).mono ?_
  rintro e w5 ⟨rfl, ⟨lv, hx5, hf5⟩, hg5⟩
  have k5 := (hg5.block w.heap.size (by have := (Array.getElem?_eq_some_iff.1 k4).1; omega) (by simp; omega)).trans k4
  have hgood : Good p (runR p true (padB p.bounds, [])).1 ∧ _ := Good.run (rs := true) HF.out.2.2.2.1 (openN (padB p.bounds) + 1) (Good.first HOK.out)
  have hb5 : Below w.heap.size w w5 := ⟨hg5.os.trans hb4.os, hg5.tape.trans hb4.tape, hg5.output.trans hb4.output, by have := hg5.size; have := hb4.size; omega, fun q hq => (hg5.block q (by have := hb4.size; omega) (by simp; omega)).trans (hb4.block q hq)⟩
  have hl8 := hgood.1.len
  have c0 : w5.cell? ⟨w.heap.size, 0, none⟩ = some (.slice ba p.bounds.length bc) := by rw [cell_of_row _ _ _ _ _ _ k5]; rfl
  have x18 := (propC_cells hl8 hx5).2.2.2.1
  have hbn : Bnds w5 w5.heap.size (.slice (some ⟨w3.heap.size, 2, none⟩) p.bounds.length 8) ((runR p true (padB p.bounds, [])).1.1.take p.bounds.length) := by
    have hle : p.bounds.length ≤ 8 := HF.out.2.1
    have e : ((runR p true (padB p.bounds, [])).1.1.take p.bounds.length).length = p.bounds.length := by
      rw [List.length_take]; exact Nat.min_eq_left (by rw [hl8]; exact hle)
    unfold Bnds
    rw [e]
    refine ⟨by omega, _, _, rfl, hle, by unfold maxLen; omega, fun _ => ⟨w3.heap.size, 2, rfl, (Array.getElem?_eq_some_iff.1 hx5).1, fun i hi => ?_⟩⟩
    rw [(propC_cells hl8 hx5).2.2.1 i (by omega), bcellAt_take hi]
  have HX5 := Lib.hid hx5; have HF5 := Lib.hid hf5; have HB5 := Lib.hid hb5; have HBN := Lib.hid hbn; have HG := Lib.hid hgood.1
  clear k4 k5 hx4 hn4 hb4 hg5 hx5 hf5 hb5 hbn hgood hl8
  have hle8 : p.bounds.length ≤ 8 := HF.out.2.1
  have z5 : w.heap.size < w5.heap.size := by have := HB5.out.size; have := (Array.getElem?_eq_some_iff.1 HX5.out).1; omega
  have z53 : w3.heap.size < w5.heap.size := (Array.getElem?_eq_some_iff.1 HX5.out).1
  have hle8i : ((p.bounds.length : Nat) : Int) ≤ 8 := by omega
  have hge0i : (0 : Int) ≤ ((p.bounds.length : Nat) : Int) := by omega
  go_wp2_with fail
  go_region_held3 (fun V => V.cell? ⟨w.heap.size, 0, none⟩ = some (.slice ba p.bounds.length bc) ∧ V.cell? ⟨w3.heap.size, 18, none⟩ = some lv) (first | exact ⟨c0, x18⟩ | exact HKP.out | go_keep) (first | (
    go_at_call 52
    refine (clone_bnds _ w3.heap.size 2 _ _ _ (HBN.out.below (Below.drewn (Below.refl _ _)) (Nat.le_refl _)) (by have := HF.out.2.1; simp; omega) (by have := HF.out.1; omega)).mono ?_
    rintro e w6 ⟨cv, rfl, hown, hb6⟩
    have HKP := Lib.hid (show _ ∧ _ from ⟨((bcell hb6).1 _ _ (by simp; omega)).trans c0, ((bcell hb6).1 _ _ (by simp; omega)).trans x18⟩)
    have HOWN := Lib.hid hown; have HB6 := Lib.hid hb6
    clear hown hb6))
  have he : ((propR p).1.1.take p.bounds.length).length = p.bounds.length := by
    rw [List.length_take]; exact Nat.min_eq_left (by rw [show (propR p).1.1.length = 8 from HG.out.len]; exact hle8)
  have hbn6 : Bnds w6 w6.heap.size cv ((propR p).1.1.take p.bounds.length) := by
    have h := ownsRow_row HOWN.out (by omega) (c := bcellAt ((propR p).1.1.take p.bounds.length)) (fun i hi => bCells_get ((propR p).1.1.take p.bounds.length) i (by rw [he]; exact hi))
    unfold Bnds; rw [he]; exact h
  have hfc6 : Fcts w6 w6.heap.size lv (propR p).1.2 := by
    have hw6 : Below w5.heap.size w5 w6 := (Below.drewn (Below.refl _ _)).trans HB6.out
    exact (HF5.out.ck ((CK.fill _ _).trans (CK.below hw6))).fcts (by have := HG.out.few; show (runR p true (padB p.bounds, [])).1.2.length ≤ _; omega) (fun i hi => by have := HG.out.short i hi; show (fget (runR p true (padB p.bounds, [])).1.2 i).why.length ≤ _; omega)
  have hb6 : Below w.heap.size w w6 := HB5.out.trans (((Below.drewn (Below.refl w5.heap.size w5)).trans HB6.out).mono (by omega))
  have HFIN := Lib.hid (And.intro hbn6 (And.intro hfc6 hb6))
  clear hbn6 hfc6 hb6 he
  go_wp2
  exact bodyPost_ret (v := .tuple #[cv, lv, .int .i64 (propR p).2, .int .i64 0]) (by simp [results, Tryz.results20, go_sem, propR]) rfl ⟨_, _, rfl, HFIN.out.1, HFIN.out.2.1, HFIN.out.2.2⟩
end Go.Proofs.YtilbbnjfaoldoaaGreatDoor

namespace Go.Proofs.YtilbbnjfaoldoaaGreatDoor
open Go Go.RowKit

structure Fnd where
  sols : List (List Nat)
  nodes : Nat
  opn : Bool
deriving DecidableEq, Repr, Inhabited
def solOf (b : List Bnd) (n : Nat) : List Nat := (b.take n).map (·.inn)
def openAt (b : List Bnd) (i : Nat) : Bool := !decide ((bget b i).inn = (bget b i).can)
/-- The first variable whose set is open; -1 if there is none. -/
def openV (b : List Bnd) (n : Nat) : Int := idxOf (openAt b) n
def nodeR (p : Prob) (most : Int) : Nat → List Bnd → Fnd → Bool × Fnd
  | 0, _, s => (false, s)
  | k + 1, b, s =>
    if s.nodes = 200 then (false, { s with opn := true })
    else
      let s1 : Fnd := { s with nodes := s.nodes + 1 }
      let r := runR p false (b, [])
      if 0 ≤ r.2 then (true, s1)
      else
        let v := openV r.1.1 p.bounds.length
        if v < 0 then (decide (((s1.sols.length + 1 : Nat) : Int) < most), { s1 with sols := s1.sols ++ [solOf r.1.1 p.bounds.length] })
        else
          let e := ctzN (openE (bget r.1.1 v.toNat))
          let q := nodeR p most k (withB r.1.1 v.toNat e true) s1
          if q.1 then nodeR p most k (withB r.1.1 v.toNat e false) q.2 else (false, q.2)
def searchR (p : Prob) (most : Int) : Fnd := (nodeR p most (openN (padB p.bounds) + 1) (padB p.bounds) ⟨[], 0, false⟩).2
/-- Of a search's state. -/
def Few (n : Nat) (s : Fnd) : Prop := s.sols.length ≤ s.nodes ∧ s.nodes ≤ 200 ∧ ∀ l ∈ s.sols, l.length = n ∧ ∀ x ∈ l, x < 4096
theorem idxOf_cases (p : Nat → Bool) (n : Nat) : idxOf p n = -1 ∨ ∃ k : Nat, idxOf p n = k ∧ k < n ∧ p k = true := by
  unfold idxOf
  cases h : (List.range n).find? p with
  | none => exact .inl rfl
  | some k => exact .inr ⟨k, rfl, List.mem_range.1 (List.mem_of_find?_eq_some h), List.find?_some h⟩
theorem openE_ne {b : List Bnd} (hs : Sub b) {i : Nat} (h : openAt b i = true) : openE (bget b i) ≠ 0 := by
  intro h0
  unfold openAt at h
  have hne : ¬ (bget b i).inn = (bget b i).can := by simpa using h
  apply hne
  apply Nat.eq_of_testBit_eq
  intro j
  have h1 := openE_testBit (bget b i) j
  rw [h0, Nat.zero_testBit] at h1
  have h2 := hs i j
  cases hi : (bget b i).inn.testBit j <;> cases hc : (bget b i).can.testBit j
  · rfl
  · rw [hi, hc] at h1; cases h1
  · rw [h2 hi] at hc; cases hc
  · rfl
/-- The element at which a node parts. -/
theorem pick_elem {b : List Bnd} (h12 : S12 b) (hs : Sub b) {i : Nat} (h : openAt b i = true) : ctzN (openE (bget b i)) < 12 ∧ (openE (bget b i)).testBit (ctzN (openE (bget b i))) = true := by
  have hne := openE_ne hs h
  have hu : U64 (openE (bget b i)) := (h12.u64.get i).2.diff
  have ht := (and_pred_testBit _ hne hu 0).2.2
  exact open_elems (h12.get i).2 (elems_mem.2 ⟨ctzN_lt hne hu, ht⟩)
theorem solOf_few {b : List Bnd} (h12 : S12 b) {n : Nat} (hn : n ≤ b.length) : (solOf b n).length = n ∧ ∀ x ∈ solOf b n, x < 4096 := by
  refine ⟨by unfold solOf; simp; omega, fun x hx => ?_⟩
  unfold solOf at hx
  obtain ⟨y, hy, rfl⟩ := List.mem_map.1 hx
  exact (h12 y (List.mem_of_mem_take hy)).1
theorem nodeR_few (p : Prob) (hp : probOk p = true) (most : Int) : ∀ (k : Nat) (b : List Bnd) (s : Fnd), b.length = 8 → S12 b → Sub b → Few p.bounds.length s → Few p.bounds.length (nodeR p most k b s).2
  | 0, _, _, _, _, _, h => h
  | k + 1, b, s, h8, h12, hsub, h => by
    unfold nodeR
    split
    · exact h
    · rename_i h200
      have hg := (Good.run (rs := false) (probOk_fit hp).2.2.2.1 (openN b + 1) (Good.start (p := p) h8 h12 hsub)).1
      have hg' : Good p (runR p false (b, [])).1 := hg
      have hs1 : Few p.bounds.length { s with nodes := s.nodes + 1 } := ⟨Nat.le_trans h.1 (Nat.le_succ _), by show s.nodes + 1 ≤ 200; have := h.2.1; omega, h.2.2⟩
      dsimp only
      split
      · exact hs1
      · split
        · refine ⟨by show (s.sols ++ [_]).length ≤ s.nodes + 1; have := h.1; simp; omega, hs1.2.1, fun l hl => ?_⟩
          rcases List.mem_append.1 hl with h1 | h1
          · exact h.2.2 l h1
          · rw [List.mem_singleton.1 h1]
            exact solOf_few hg'.s12 (by rw [hg'.len]; exact (probOk_fit hp).2.1)
        · rename_i hv
          rcases idxOf_cases (openAt (runR p false (b, [])).1.1) p.bounds.length with h1 | ⟨i, h1, h2, h3⟩
          · exact absurd (show openV (runR p false (b, [])).1.1 p.bounds.length < 0 by unfold openV; rw [h1]; decide) hv
          · have hvi : (openV (runR p false (b, [])).1.1 p.bounds.length).toNat = i := by unfold openV; rw [h1]; simp
            rw [hvi]
            have hil : i < (runR p false (b, [])).1.1.length := by rw [hg'.len]; have := (probOk_fit hp).2.1; omega
            have he := pick_elem hg'.s12 hg'.sub h3
            have hq := nodeR_few p hp most k (withB (runR p false (b, [])).1.1 i (ctzN (openE (bget (runR p false (b, [])).1.1 i))) true) { s with nodes := s.nodes + 1 } (by rw [withB_length]; exact hg'.len) (hg'.s12.with he.1 true) (sub_withB true hil he.2 hg'.sub) hs1
            split
            · exact nodeR_few p hp most k _ _ (by rw [withB_length]; exact hg'.len) (hg'.s12.with he.1 false) (sub_withB false hil he.2 hg'.sub) hq
            · exact hq
end Go.Proofs.YtilbbnjfaoldoaaGreatDoor

namespace Go.Proofs.YtilbbnjfaoldoaaGreatDoor
open Go Go.RowKit
attribute [local go_sem] cell_grow u64_sAnd u64_sOr u64_sDiff sDiff_all zeqI zneI sAnd_bit_zero sAnd_bit_zeroN sAnd_bit_nonzero rowOf_grow rowOk_grow rowOf_alloc rowOk_alloc

/-- Not a block of type T. -/
def notT (T : TypeId) : Obj → Prop
  | .cells _ t _ => t ≠ T
  | _ => True
theorem nT {T : TypeId} {c : Array Value} {t : TypeId} {f : Nat × Nat} (h : t ≠ T) : notT T (.cells c t f) := h
/-- Only new blocks, those of E, and rows of type T from base on have turned. -/
structure KeptT (T : TypeId) (E : Nat → Prop) (base : Nat) (w w' : World) : Prop where
  os : w'.os = w.os
  tape : w'.tape = w.tape
  output : w'.output = w.output
  size : w.heap.size ≤ w'.heap.size
  same : ∀ (q : Nat) (o : Obj), w.heap[q]? = some o → ¬ E q → (q < base ∨ notT T o) → w'.heap[q]? = some o
namespace KeptT
variable {T : TypeId} {E : Nat → Prop} {base : Nat} {a b c : World}
theorem refl (w : World) : KeptT T E base w w := ⟨rfl, rfl, rfl, Nat.le_refl _, fun _ _ h _ _ => h⟩
theorem trans (h : KeptT T E base a b) (h' : KeptT T E base b c) : KeptT T E base a c :=
  ⟨h'.os.trans h.os, h'.tape.trans h.tape, h'.output.trans h.output, Nat.le_trans h.size h'.size, fun q o e hE hn => h'.same q o (h.same q o e hE hn) hE hn⟩
theorem of_below (h : Below a.heap.size a b) : KeptT T E base a b :=
  ⟨h.os, h.tape, h.output, h.size, fun q _ e _ _ => (h.block q (Array.getElem?_eq_some_iff.1 e).1).trans e⟩
theorem below (h : KeptT T E base a b) (hb : Below b.heap.size b c) : KeptT T E base a c := h.trans (of_below hb)
theorem toBelow {B : Nat} (h : KeptT T E base a b) (hB : B ≤ base) (hw : B ≤ a.heap.size) (hE : ∀ q, q < B → ¬ E q) : Below B a b :=
  ⟨h.os, h.tape, h.output, h.size, fun q hq => by
    have e : a.heap[q]? = some (a.heap[q]'(by omega)) := Array.getElem?_eq_getElem (by omega)
    rw [e]; exact h.same q _ e (hE q hq) (.inl (by omega))⟩
theorem setCell (h : KeptT T E base a b) {p : Addr} (hp : E p.block) (v : Value) : KeptT T E base a (b.setCell p v) :=
  ⟨h.os, h.tape, h.output, by simpa [World.setCell] using h.size, fun q o e hE hn => (Below.heap_setCell _ _ _ _ (fun hh => by subst hh; exact hE hp)).trans (h.same q o e hE hn)⟩
theorem setNew (h : KeptT T E base a b) {p : Addr} (hp : a.heap.size ≤ p.block) (v : Value) : KeptT T E base a (b.setCell p v) :=
  ⟨h.os, h.tape, h.output, by simpa [World.setCell] using h.size, fun q o e hE hn => (Below.heap_setCell _ _ _ _ (by have := (Array.getElem?_eq_some_iff.1 e).1; omega)).trans (h.same q o e hE hn)⟩
/-- An append to a row of type T. -/
theorem grown {sz : Nat} {v : Value} {n : Nat} {cs : List Value} (h : KeptT T E base a b) (hown : b.ownsRow base T sz v n cs) (hg : b.grownBy c v.ownBlock) : KeptT T E base a c :=
  h.trans ⟨hg.os, hg.tape, hg.output, hg.size, fun q o e _ hn => by
    refine (hg.block q (Array.getElem?_eq_some_iff.1 e).1 (fun hh => ?_)).trans e
    have hq := hh.symm
    rcases hown.2 with ⟨rfl, _⟩ | ⟨g, cap, cur, rfl, hb, hgg, _⟩
    · simp [Value.ownBlock] at hq
    · simp only [Value.ownBlock, Option.some.injEq] at hq
      subst hq
      rcases hn with hn | hn
      · omega
      · rw [hgg] at e
        cases e
        exact hn rfl⟩
/-- A part of E and of the rows is new. -/
theorem weaken {E' : Nat → Prop} {base' : Nat} (h : KeptT T E' base' a b) (hE : ∀ q, q < a.heap.size → E' q → E q) (hb : base ≤ base' ∨ a.heap.size ≤ base') : KeptT T E base a b :=
  ⟨h.os, h.tape, h.output, h.size, fun q o e hE2 hn => h.same q o e (fun hh => hE2 (hE q (Array.getElem?_eq_some_iff.1 e).1 hh)) (by
    have := (Array.getElem?_eq_some_iff.1 e).1
    rcases hn with hn | hn
    · rcases hb with hb | hb
      · exact .inl (by omega)
      · exact .inl (by omega)
    · exact .inr hn)⟩
end KeptT
/-- A set as a number. -/
def natV (x : Nat) : Value := .int .u64 (x : Nat)
def natsV (xs : List Nat) : List Value := xs.map natV
theorem natsV_length (xs : List Nat) : (natsV xs).length = xs.length := by simp [natsV]
theorem natsV_one (xs : List Nat) : ∀ u ∈ natsV xs, u.oneCell' = true := by intro u hu; obtain ⟨x, _, rfl⟩ := List.mem_map.1 hu; rfl
theorem natsV_append (xs ys : List Nat) : natsV xs ++ natsV ys = natsV (xs ++ ys) := by simp [natsV]
def sget (ss : List (List Nat)) (i : Nat) : List Nat := ss[i]?.getD []
/-- Sets of solutions, in rows of the call's own. -/
def SOwn (w : World) (base : Nat) (v : Value) (ss : List (List Nat)) : Prop := ∃ cs, w.ownsRow base 35 1 v ss.length cs ∧ ∀ i, i < ss.length →
  ∃ yv, cs[i]? = some yv ∧ w.ownsRow base 38 1 yv (sget ss i).length (natsV (sget ss i))
theorem SOwn.low {w w' : World} {base : Nat} {v : Value} {ss : List (List Nat)} (h : SOwn w base v ss) (hc : ∀ (k : Nat) (c : Array Value) (t : TypeId) (f : Nat × Nat), base ≤ k → w.heap[k]? = some (Obj.cells c t f) → w'.heap[k]? = some (Obj.cells c t f)) : SOwn w' base v ss := by
  obtain ⟨cs, h1, h2⟩ := h
  refine ⟨cs, own_low h1 hc, fun i hi => ?_⟩
  obtain ⟨yv, e5, e6⟩ := h2 i hi
  exact ⟨yv, e5, own_low e6 hc⟩
theorem SOwn.ck {w w' : World} {base : Nat} {v : Value} {ss : List (List Nat)} (h : SOwn w base v ss) (hc : CK w w') : SOwn w' base v ss := h.low fun _ _ _ _ _ e => hc.same _ _ _ _ e
/-- What turns in a block of another type does not show. -/
theorem own_type {w w' : World} {base : Nat} {e : TypeId} {sz : Nat} {v : Value} {n : Nat} {xs : List Value} (h : w.ownsRow base e sz v n xs) (hc : ∀ (k : Nat) (c : Array Value), w.heap[k]? = some (Obj.cells c e (0, 0)) → w'.heap[k]? = some (Obj.cells c e (0, 0))) : w'.ownsRow base e sz v n xs := by
  refine ⟨h.1, ?_⟩
  rcases h.2 with hn | ⟨g, cap, cur, rfl, hb, hgg, rest⟩
  · exact .inl hn
  · exact .inr ⟨g, cap, cur, rfl, hb, hc _ _ hgg, rest⟩
/-- A cell of a block of another type is laid anew. -/
theorem SOwn.setCell {w : World} {base b : Nat} {v x : Value} {ss : List (List Nat)} {c : Array Value} {t : TypeId} {o : Nat} (h : SOwn w base v ss) (hb : w.heap[b]? = some (.cells c t (0, 0))) (h1 : t ≠ 35) (h2 : t ≠ 38) : SOwn (w.setCell ⟨b, o, none⟩ x) base v ss := by
  obtain ⟨cs, hc, hr⟩ := h
  have key : ∀ (e : TypeId), t ≠ e → ∀ (k : Nat) (c : Array Value), w.heap[k]? = some (Obj.cells c e (0, 0)) → (w.setCell ⟨b, o, none⟩ x).heap[k]? = some (Obj.cells c e (0, 0)) := fun e he k c' hk => by
    refine (Below.heap_setCell _ _ _ _ (fun hh => ?_)).trans hk
    subst hh
    rw [hb] at hk
    cases hk
    exact he rfl
  refine ⟨cs, own_type hc (key _ h1), fun i hi => ?_⟩
  obtain ⟨yv, e5, e6⟩ := hr i hi
  exact ⟨yv, e5, own_type e6 (key _ h2)⟩
theorem SOwn.nil (w : World) (base : Nat) : SOwn w base (.slice none 0 0) [] := ⟨[], World.ownsRow_nil _ _ _ _, fun _ hi => absurd hi (Nat.not_lt_zero _)⟩
theorem sget_snoc (l : List (List Nat)) (f : List Nat) (i : Nat) : sget (l ++ [f]) i = if i < l.length then sget l i else if i = l.length then f else [] := by
  unfold sget
  by_cases h : i < l.length
  · rw [if_pos h, List.getElem?_append_left h]
  · rw [if_neg h]
    by_cases h2 : i = l.length
    · rw [if_pos h2, h2]; simp
    · rw [if_neg h2, List.getElem?_eq_none (by simp; omega)]; rfl
theorem SOwn.appended {w1 w2 : World} {base : Nat} {v v' : Value} {ss : List (List Nat)} {f : List Nat} {cs : List Value} {yv : Value} (hc : w1.ownsRow base 35 1 v ss.length cs) (hg : w1.grownBy w2 v.ownBlock)
    (hr : ∀ i, i < ss.length → ∃ yv, cs[i]? = some yv ∧ w1.ownsRow base 38 1 yv (sget ss i).length (natsV (sget ss i)))
    (hy : w1.ownsRow base 38 1 yv f.length (natsV f)) (h2 : w2.ownsRow base 35 1 v' (ss.length + 1) (cs ++ [yv])) : SOwn w2 base v' (ss ++ [f]) := by
  have hl : cs.length = ss.length := by have := hc.1; omega
  refine ⟨_, by rw [List.length_append]; exact h2, fun i hi => ?_⟩
  rw [sget_snoc]
  by_cases h : i < ss.length
  · simp only [if_pos h]
    obtain ⟨yv, e5, e6⟩ := hr i h
    rw [List.getElem?_append_left (by omega)]
    exact ⟨yv, e5, e6.kept hg (own_own e6 hc (by decide))⟩
  · have hi2 : i = ss.length := by simp at hi; omega
    subst hi2
    simp only [Nat.lt_irrefl, if_false, if_true]
    rw [List.getElem?_append_right (by omega), hl, Nat.sub_self]
    exact ⟨yv, rfl, hy.kept hg (own_own hy hc (by decide))⟩
/-- What a search has found, in its variable. -/
def OutAt (w : World) (o base : Nat) (s : Fnd) : Prop := ∃ sv, w.heap[o]? = some (.cells #[sv, .int .i64 (s.nodes : Nat), .bool s.opn] 70 (0, 0)) ∧ SOwn w base sv s.sols
theorem int_bne (a b : Nat) : (((a : Nat) : Int) != ((b : Nat) : Int)) = !decide (a = b) := by
  by_cases h : a = b
  · subst h; simp
  · have : ¬ ((a : Int) = (b : Int)) := by omega
    simp [h, this]
set_option maxRecDepth 100000 in
theorem open1_any (b : Bnd) (w : World) (_hu : U64 b.inn ∧ U64 b.can) : Gives Tryz.prog 59 #[.agg #[.int .u64 (b.inn : Nat), .int .u64 (b.can : Nat)]] w (.bool (!decide (b.inn = b.can))) := by
  unfold Gives
  have hb0 : Below w.heap.size w (w.alloc (.cells #[.int .u64 (b.inn : Nat), .int .u64 (b.can : Nat)] 47)) := (Below.refl _ _).alloc (Nat.le_refl _) _
  go_enter Tryz.func59, Tryz.ntmps59
  go_wp2
  go_ret
  exact ⟨congrArg Ending.returned (show Value.bool (((b.inn : Nat) : Int) != ((b.can : Nat) : Int)) = _ from congrArg Value.bool (int_bne _ _)), hb0⟩
end Go.Proofs.YtilbbnjfaoldoaaGreatDoor

namespace Go.Proofs.YtilbbnjfaoldoaaGreatDoor
open Go Go.RowKit
attribute [local go_sem] cell_grow u64_sAnd u64_sOr u64_sDiff sDiff_all zeqI zneI sAnd_bit_zero sAnd_bit_zeroN sAnd_bit_nonzero rowOf_grow rowOk_grow rowOf_alloc rowOk_alloc

theorem Tryz.info65 : (Tryz.prog.info? 38).map (fun i => (i.zero, i.size, i.bytes)) = some (some (.int .u64 0), 1, 8) := by kernel_rfl
theorem Tryz.info26 : (Tryz.prog.info? 35).map (fun i => (i.zero, i.size, i.bytes)) = some (some (.slice none 0 0), 1, 24) := by kernel_rfl
theorem solOf_snoc (b : List Bnd) (k : Nat) (h : k < b.length) : solOf b (k + 1) = solOf b k ++ [(bget b k).inn] := by
  unfold solOf
  rw [List.take_succ_eq_append_getElem h, List.map_append]
  simp [bget, h]
theorem solOf_length (b : List Bnd) (k : Nat) (h : k ≤ b.length) : (solOf b k).length = k := by unfold solOf; simp; omega
def nodeF (o pp mm nn : Nat) : Value := .func (.func 57) #[] #[.pointer (some ⟨o, 0, none⟩), .pointer (some ⟨pp, 0, none⟩), .pointer (some ⟨mm, 0, none⟩), .pointer (some ⟨nn, 0, none⟩)]
/-- What a node needs of memory. -/
structure NodeAt (p : Prob) (most : Int) (bv rv : Value) (o qp qm qn B base : Nat) (w : World) : Prop where
  bnds : Bnds w B bv p.bounds
  rls : Rls w B rv p.rules
  tab : Tab w
  pp : w.heap[qp]? = some (.cells #[bv, rv] 25 (0, 0))
  mm : w.heap[qm]? = some (.cells #[.int .i64 most] 3 (0, 0))
  nn : w.heap[qn]? = some (.cells #[nodeF o qp qm qn] 97 (0, 0))
  base : base ≤ w.heap.size
theorem NodeAt.kept {p : Prob} {most : Int} {bv rv : Value} {o pp mm nn B base : Nat} {w w' : World} {c : Array Value} (h : NodeAt p most bv rv o pp mm nn B base w) (ho : w.heap[o]? = some (.cells c 70 (0, 0))) (hB0 : 0 < B) (hB : B ≤ o) (hBb : B ≤ base) (hk : KeptT 35 (One o) base w w') : NodeAt p most bv rv o pp mm nn B base w' := by
  have hol : o < w.heap.size := (Array.getElem?_eq_some_iff.1 ho).1
  have hlow : Below B w w' := hk.toBelow hBb (by omega) (fun q hq h => by unfold One at h; omega)
  have key : ∀ (q : Nat) (c' : Array Value) (t : TypeId), w.heap[q]? = some (.cells c' t (0, 0)) → t ≠ 70 → t ≠ 35 → w'.heap[q]? = some (.cells c' t (0, 0)) := fun q c' t e h1 h2 =>
    hk.same q _ e (fun hh => by unfold One at hh; subst hh; rw [ho] at e; cases e; exact h1 rfl) (.inr (nT h2))
  exact ⟨h.bnds.below hlow (Nat.le_refl _), h.rls.below hlow (Nat.le_refl _), h.tab.below hlow hB0, key _ _ _ h.pp (by decide) (by decide), key _ _ _ h.mm (by decide) (by decide), key _ _ _ h.nn (by decide) (by decide), Nat.le_trans h.base hk.size⟩
/-- Where a node stands with what it has found so far; x: its propagator. -/
structure Here (p : Prob) (most : Int) (bv rv : Value) (o qp qm qn B base : Nat) (w : World) (x : Nat) (lv : Value) (now : List Bnd) (s : Fnd) (V : World) : Prop where
  nd : NodeAt p most bv rv o qp qm qn B base V
  out : OutAt V o base s
  kp : KeptT 35 (One o) base w V
  hx : V.heap[x]? = some (.cells (propC bv rv now lv false).toArray 91 (0, 0))
theorem Here.below {p : Prob} {most : Int} {bv rv : Value} {o qp qm qn B base : Nat} {w : World} {x : Nat} {lv : Value} {now : List Bnd} {s : Fnd} {V V' : World} (h : Here p most bv rv o qp qm qn B base w x lv now s V) (hB0 : 0 < B) (hB : B ≤ o) (hBb : B ≤ base) (hb : Below V.heap.size V V') : Here p most bv rv o qp qm qn B base w x lv now s V' := by
  obtain ⟨sv1, h1, h2⟩ := h.out
  exact ⟨h.nd.kept h1 hB0 hB hBb (KeptT.of_below hb), ⟨sv1, heap_later h1 hb (Array.getElem?_eq_some_iff.1 h1).1, h2.ck (CK.below hb)⟩, h.kp.below hb, heap_later h.hx hb (Array.getElem?_eq_some_iff.1 h.hx).1⟩
theorem Here.next {p : Prob} {most : Int} {bv rv : Value} {o qp qm qn B base : Nat} {w : World} {x : Nat} {lv : Value} {now : List Bnd} {s s' : Fnd} {V V' : World} (h : Here p most bv rv o qp qm qn B base w x lv now s V) (hB0 : 0 < B) (hB : B ≤ o) (hBb : B ≤ base) (hk : KeptT 35 (One o) base V V') (ho : OutAt V' o base s') : Here p most bv rv o qp qm qn B base w x lv now s' V' := by
  obtain ⟨sv1, h1, h2⟩ := h.out
  exact ⟨h.nd.kept h1 hB0 hB hBb hk, ho, h.kp.trans hk, hk.same _ _ h.hx (fun hh => by
    unfold One at hh; subst hh
    have := h.hx
    rw [h1] at this
    simp only [Option.some.injEq, Obj.cells.injEq] at this
    exact absurd this.2.1 (by decide)) (.inr (nT (by decide)))⟩
theorem Here.cells {p : Prob} {most : Int} {bv rv : Value} {o qp qm qn B base : Nat} {w : World} {x : Nat} {lv : Value} {now : List Bnd} {s : Fnd} {V : World} (h : Here p most bv rv o qp qm qn B base w x lv now s V) (h8 : now.length = 8) :
    V.cell? ⟨qn, 0, none⟩ = some (.func (.func 57) #[] #[.pointer (some ⟨o, 0, none⟩), .pointer (some ⟨qp, 0, none⟩), .pointer (some ⟨qm, 0, none⟩), .pointer (some ⟨qn, 0, none⟩)]) ∧ V.rangeAt x 2 (bCells now) :=
  ⟨by rw [cell_of_row _ _ _ _ _ _ h.nd.nn]; rfl, prop_range h8 h.hx⟩
set_option maxRecDepth 100000 in
set_option maxHeartbeats 4000000 in
theorem node_any (p : Prob) (hpo : probOk p = true) (most : Int) (bv rv : Value) (o pp mm nn B base : Nat) (hB0 : 0 < B) (hBo : B ≤ o) (hBb : B ≤ base) : ∀ (k : Nat) (b : List Bnd) (s : Fnd) (w : World), openN b < k → NodeAt p most bv rv o pp mm nn B base w → b.length = 8 → S12 b → Sub b → Few p.bounds.length s → OutAt w o base s →
    Calls Tryz.prog 57 #[.agg (bCells b).toArray, .pointer (some ⟨o, 0, none⟩), .pointer (some ⟨pp, 0, none⟩), .pointer (some ⟨mm, 0, none⟩), .pointer (some ⟨nn, 0, none⟩)] w fun e w' =>
      e = .returned (.bool (nodeR p most k b s).1) ∧ OutAt w' o base (nodeR p most k b s).2 ∧ KeptT 35 (One o) base w w' := by
  intro k
  induction k with
  | zero => intro b s w h; omega
  | succ k ih =>
  intro b s w hk hnode h8 h12 hsub hfew hout
  have HIH := Lib.hid ih
  clear ih
  obtain ⟨sv, hko, hso⟩ := hout
  have hol : o < w.heap.size := (Array.getElem?_eq_some_iff.1 hko).1
  have hppo : pp ≠ o := fun h => by subst h; have := hnode.pp; rw [hko] at this; cases this
  have hmmo : mm ≠ o := fun h => by subst h; have := hnode.mm; rw [hko] at this; cases this
  have hnno : nn ≠ o := fun h => by subst h; have := hnode.nn; rw [hko] at this; cases this
  have hn200 := hfew.2.1
  have HFIT := Lib.hid (probOk_fit hpo)
  have HNODE := Lib.hid hnode; have H12 := Lib.hid h12; have HSUB := Lib.hid hsub; have HFEW := Lib.hid hfew; have HSO := Lib.hid hso; have HPO := Lib.hid hpo
  have hbn := Below.new1 w (.cells (bCells b).toArray 85)
  have k1 := heap_later hko hbn hol
  have o1 : (w.alloc (.cells (bCells b).toArray 85)).cell? ⟨o, 1, none⟩ = some (.int .i64 (s.nodes : Nat)) := by rw [cell_of_row _ _ _ _ _ _ k1]; rfl
  have o2 : (w.alloc (.cells (bCells b).toArray 85)).cell? ⟨o, 2, none⟩ = some (.bool s.opn) := by rw [cell_of_row _ _ _ _ _ _ k1]; rfl
  have of1 : (w.alloc (.cells (bCells b).toArray 85)).frozen? ⟨o, 1, none⟩ = false := by simp [World.frozen?, k1]
  have of2 : (w.alloc (.cells (bCells b).toArray 85)).frozen? ⟨o, 2, none⟩ = false := by simp [World.frozen?, k1]
  have K1 := Lib.hid k1; have HBN := Lib.hid hbn; have HKO := Lib.hid hko
  clear hnode h12 hsub hfew hso hpo k1 hbn hko
  by_cases h200 : s.nodes = 200
  · have e1 : (((s.nodes : Nat) : Int) == 200) = true := by rw [h200]; rfl
    have hres : nodeR p most (k + 1) b s = (false, { s with opn := true }) := by unfold nodeR; rw [if_pos h200]
    have HRES := Lib.hid hres
    clear hres h200
    go_enter Tryz.func57, Tryz.ntmps57
    go_wp2
    go_ret
    rw [HRES.out]
    have hks : (w.setCell ⟨o, 2, none⟩ (.bool true)).heap[o]? = some (.cells #[sv, .int .i64 (s.nodes : Nat), .bool true] 70 (0, 0)) := by
      simp only [World.setCell, Array.getElem?_modify, if_true, HKO.out, Option.map_some]; rfl
    have hnb := Below.new1 (w.setCell ⟨o, 2, none⟩ (.bool true)) (.cells (bCells b).toArray 85)
    exact ⟨rfl, ⟨sv, heap_later hks hnb (Array.getElem?_eq_some_iff.1 hks).1, (HSO.out.setCell HKO.out (by decide) (by decide)).ck (CK.below hnb)⟩, ((KeptT.refl w).setCell (E := One o) (show One o o from rfl) _).below hnb⟩
  · have e1 : (((s.nodes : Nat) : Int) == 200) = false := by
      rw [Bool.eq_false_iff]; intro h; exact h200 (by have : ((s.nodes : Nat) : Int) = 200 := by simpa using h
                                                      omega)
    go_enter Tryz.func57, Tryz.ntmps57
    go_upto_region 5 with fail
    have hks : (w.setCell ⟨o, 1, none⟩ (.int .i64 ((s.nodes : Nat) + 1))).heap[o]? = some (.cells #[sv, .int .i64 ((s.nodes : Nat) + 1), .bool s.opn] 70 (0, 0)) := by
      simp only [World.setCell, Array.getElem?_modify, if_true, HKO.out, Option.map_some]; rfl
    have hnb := Below.new1 (w.setCell ⟨o, 1, none⟩ (.int .i64 ((s.nodes : Nat) + 1))) (.cells (bCells b).toArray 85)
    refine abs_wp (fun W => OutAt W o base { s with nodes := s.nodes + 1 } ∧ KeptT 35 (One o) base w W ∧ W.heap[w.heap.size]? = some (.cells (bCells b).toArray 85 (0, 0)))
      ⟨⟨sv, heap_later hks hnb (Array.getElem?_eq_some_iff.1 hks).1, (HSO.out.setCell HKO.out (by decide) (by decide)).ck (CK.below hnb)⟩, ((KeptT.refl w).setCell (E := One o) (show One o o from rfl) _).below hnb, heap_at (by simp [World.setCell])⟩ ?_
    clear hks hnb o1 o2 of1 of2 K1 HBN
    rintro W ⟨hout, hkp, hkb⟩
    have hnode := HNODE.out.kept HKO.out hB0 hBo hBb hkp
    have zb : w.heap.size < W.heap.size := (Array.getElem?_eq_some_iff.1 hkb).1
    have zp : pp < W.heap.size := (Array.getElem?_eq_some_iff.1 hnode.pp).1
    have p0 : W.cell? ⟨pp, 0, none⟩ = some bv := by rw [cell_of_row _ _ _ _ _ _ hnode.pp]; rfl
    have p1 : W.cell? ⟨pp, 1, none⟩ = some rv := by rw [cell_of_row _ _ _ _ _ _ hnode.pp]; rfl
    have RG := Lib.hid (bblock_range hkb); have RI := Lib.hid (binfo h8)
    obtain ⟨ba, bc, rfl⟩ := hnode.bnds.slice
    obtain ⟨ra, rc, rfl⟩ := hnode.rls.slice
    have hbp := build_prop0 ba p.bounds.length bc ra p.rules.length rc b h8
    have HBP := Lib.hid hbp
    have HOUT := Lib.hid hout; have HKP := Lib.hid hkp; have HND := Lib.hid hnode
    clear hbp hout hkp hkb hnode HKO HSO HNODE
    go_wp2_with (first | (refine wpList_load_mid rfl 85 _ rfl _ _ rfl _ _ RG.out Tryz.underlying85 rfl RI.out ?_) | (
      refine wpList_ran rfl _ (exec_build 91 #[(0, .tmp 22), (1, .tmp 23)] rfl (by simp [Act.eval, Act.put]) (HBP.out _)) ?_
      simp only [Act.put, List.setIfInBounds_toArray, List.set_cons_zero, List.set_cons_succ]))
    have hx4 := heap_new0 W (.cells (propC (.slice ba p.bounds.length bc) (.slice ra p.rules.length rc) b (.slice none 0 0) false).toArray 91)
    have hn4 := Below.new1 W (.cells (propC (.slice ba p.bounds.length bc) (.slice ra p.rules.length rc) b (.slice none 0 0) false).toArray 91)
    have hBW : B ≤ W.heap.size := by have := HKP.out.size; omega
    refine (run_any p false b _ _ W.heap.size _ (HND.out.bnds.below hn4 hBW) (HND.out.rls.below hn4 hBW) hB0 hBW hx4 (Good.start h8 H12.out HSUB.out) HPO.out (HND.out.tab.below hn4 (by omega))).mono ?_
    rintro e w5 ⟨rfl, ⟨lv, hx5, hf5⟩, hg5⟩
    have hgood := Good.run (rs := false) HFIT.out.2.2.2.1 (openN b + 1) (Good.start (p := p) h8 H12.out HSUB.out)
    obtain ⟨r, hr⟩ : ∃ r, r = runR p false (b, []) := ⟨_, rfl⟩
    have hgr : Good p r.1 ∧ openN r.1.1 ≤ openN b := by rw [hr]; exact hgood
    rw [← hr] at hx5
    rw [← hr]
    have hb5 : Below W.heap.size W w5 := ⟨hg5.os.trans hn4.os, hg5.tape.trans hn4.tape, hg5.output.trans hn4.output, by have := hg5.size; have := hn4.size; omega, fun q hq => (hg5.block q (by have := hn4.size; omega) (by simp; omega)).trans (hn4.block q hq)⟩
    have hres : nodeR p most (k + 1) b s = (if 0 ≤ r.2 then (true, { s with nodes := s.nodes + 1 }) else
        if openV r.1.1 p.bounds.length < 0 then (decide (((s.sols.length + 1 : Nat) : Int) < most), { s with nodes := s.nodes + 1, sols := s.sols ++ [solOf r.1.1 p.bounds.length] })
        else
          if (nodeR p most k (withB r.1.1 (openV r.1.1 p.bounds.length).toNat (ctzN (openE (bget r.1.1 (openV r.1.1 p.bounds.length).toNat))) true) { s with nodes := s.nodes + 1 }).1 then
            nodeR p most k (withB r.1.1 (openV r.1.1 p.bounds.length).toNat (ctzN (openE (bget r.1.1 (openV r.1.1 p.bounds.length).toNat))) false) (nodeR p most k (withB r.1.1 (openV r.1.1 p.bounds.length).toNat (ctzN (openE (bget r.1.1 (openV r.1.1 p.bounds.length).toNat))) true) { s with nodes := s.nodes + 1 }).2
          else (false, (nodeR p most k (withB r.1.1 (openV r.1.1 p.bounds.length).toNat (ctzN (openE (bget r.1.1 (openV r.1.1 p.bounds.length).toNat))) true) { s with nodes := s.nodes + 1 }).2)) := by
      conv => lhs; unfold nodeR
      rw [if_neg h200, hr]
    have hkp5 := HKP.out.below hb5
    obtain ⟨sv1, hko1, hso1⟩ := HOUT.out
    have hnd5 := HND.out.kept hko1 hB0 hBo hBb (KeptT.of_below hb5)
    have hout5 : OutAt w5 o base { s with nodes := s.nodes + 1 } := ⟨sv1, heap_later hko1 hb5 (Array.getElem?_eq_some_iff.1 hko1).1, hso1.ck (CK.below hb5)⟩
    have HND5 := Lib.hid hnd5; have HOUT5 := Lib.hid hout5
    have HRES := Lib.hid hres; have HX5 := Lib.hid hx5; have HB5 := Lib.hid hb5; have HKP5 := Lib.hid hkp5
    clear hx4 hn4 hx5 hf5 hg5 hb5 hres hgood hkp5 RG RI HBP p0 p1 hko1 hso1 hnd5 hout5 HOUT HND HKP
    have HR := Lib.hid hr
    clear hr
    by_cases hr2 : 0 ≤ r.2
    · go_wp2
      go_ret
      rw [HRES.out, if_pos hr2]
      exact ⟨rfl, HOUT5.out, HKP5.out⟩
    have HR2 := Lib.hid hr2
    have hr3 : r.2 < 0 := by omega
    clear hr2
    have hle8 : p.bounds.length ≤ 8 := HFIT.out.2.1
    have hle8i : ((p.bounds.length : Nat) : Int) ≤ 8 := by omega
    have hge0i : (0 : Int) ≤ ((p.bounds.length : Nat) : Int) := by omega
    have q0 : w5.cell? ⟨pp, 0, none⟩ = some (.slice ba p.bounds.length bc) := by rw [cell_of_row _ _ _ _ _ _ HND5.out.pp]; rfl
    have zp5 : pp < w5.heap.size := (Array.getElem?_eq_some_iff.1 HND5.out.pp).1
    go_wp2_with fail
    refine wp_region_qb (by kernel_rfl) (by kernel_rfl) ?_
    repeat go_big_quiet_step (fail)
    refine wpQuiet_nil ?_
    intro w6 hb6
    go_wp2_with fail
    have hx6 := heap_later HX5.out hb6 (Array.getElem?_eq_some_iff.1 HX5.out).1
    have hrl8 := hgr.1.len
    have hxc := (propC_cells hrl8 hx6).2.2.1
    have hrow : Row w6 w6.heap.size 2 (.slice (some ⟨W.heap.size, 2, none⟩) p.bounds.length 8) p.bounds.length (bcellAt r.1.1) :=
      ⟨by omega, _, _, rfl, hle8, by unfold maxLen; omega, fun _ => ⟨W.heap.size, 2, rfl, (Array.getElem?_eq_some_iff.1 hx6).1, fun i hi => hxc i (by omega)⟩⟩
    have hg104 : ∀ args w, (callFunc 59 args).run Tryz.prog w = .ok (.enter 59 args) w := enters_of Tryz.func59 (by kernel_rfl) rfl
    have hf104 : ∀ i, i < p.bounds.length → ∀ w', Below w6.heap.size w6 w' → Gives Tryz.prog 59 (#[.agg #[bcellAt r.1.1 (i * 2), bcellAt r.1.1 (i * 2 + 1)]] ++ #[]) w' (.bool (openAt r.1.1 i)) := fun i hi w' _ => by
      rw [bcellAt_inn, bcellAt_can]; exact open1_any _ _ (hgr.1.s12.u64.get i)
    have HROW := Lib.hid hrow; have HF104 := Lib.hid hf104
    have hi1 := idxB _ p.bounds.length (bcellAt r.1.1) 59 #[] (openAt r.1.1) w6 HROW.out (Nat.le_refl _) hg104 HF104.out
    have HI1 := Lib.hid hi1
    have hb6W := HB5.out.trans (hb6.mono HB5.out.size)
    have HX6 := Lib.hid hx6; have HB6 := Lib.hid hb6W; have HGR := Lib.hid hgr
    have hout6 : OutAt w6 o base { s with nodes := s.nodes + 1 } := by
      obtain ⟨sv1, h1, h2⟩ := HOUT5.out
      exact ⟨sv1, heap_later h1 hb6 (Array.getElem?_eq_some_iff.1 h1).1, h2.ck (CK.below hb6)⟩
    have hnd6 := HND5.out.kept (Classical.choose_spec HOUT5.out).1 hB0 hBo hBb (KeptT.of_below hb6)
    have HOUT6 := Lib.hid hout6; have HND6 := Lib.hid hnd6; have HKP6 := Lib.hid (HKP5.out.below hb6)
    have zW6 : W.heap.size < w6.heap.size := (Array.getElem?_eq_some_iff.1 hx6).1
    clear hx6 hxc hrow hg104 hf104 hi1 hb6 hb6W hgr hout6 hnd6 q0 HND5 HOUT5 HX5 HB5 HKP5
    refine (HI1.out).mono ?_
    rintro e w7 ⟨rfl, hb7⟩
    have hx7 := heap_later HX6.out hb7 zW6
    have hout7 : OutAt w7 o base { s with nodes := s.nodes + 1 } := by
      obtain ⟨sv1, h1, h2⟩ := HOUT6.out
      exact ⟨sv1, heap_later h1 hb7 (Array.getElem?_eq_some_iff.1 h1).1, h2.ck (CK.below hb7)⟩
    have hnd7 := HND6.out.kept (Classical.choose_spec HOUT6.out).1 hB0 hBo hBb (KeptT.of_below hb7)
    have HX7 := Lib.hid hx7; have HOUT7 := Lib.hid hout7; have HND7 := Lib.hid hnd7; have HKP7 := Lib.hid (HKP6.out.below hb7)
    have zW7 : W.heap.size < w7.heap.size := (Array.getElem?_eq_some_iff.1 hx7).1
    have hs67 := hb7.size
    have HND7b := Lib.hid (show base ≤ w7.heap.size from hnd7.base)
    clear hx7 hout7 hnd7 hb7 HX6 HOUT6 HND6 HKP6 HI1 HF104 HROW HB6
    rcases idxOf_cases (openAt r.1.1) p.bounds.length with hv | ⟨v, hv, hvl, hvo⟩
    · have hov : openV r.1.1 p.bounds.length < 0 := by unfold openV; rw [hv]; decide
      have HR' : Hid (nodeR p most (k + 1) b s = (decide (((s.sols.length + 1 : Nat) : Int) < most), { s with nodes := s.nodes + 1, sols := s.sols ++ [solOf r.1.1 p.bounds.length] })) := Lib.hid (HRES.out.trans (by rw [if_neg (by omega), if_pos hov]))
      rw [hv]
      clear hv hov HRES
      go_wp2_with fail
      go_loopw [10, 42] (fun yv i wr => ∃ j : Nat, j ≤ p.bounds.length ∧ i = .int .i64 j ∧ wr.ownsRow w7.heap.size 38 1 yv (solOf r.1.1 j).length (natsV (solOf r.1.1 j)) ∧ Below w7.heap.size w7 wr) (fun _ i _ => p.bounds.length - (intOf i).toNat)
      case atStart => exact ⟨0, Nat.zero_le _, rfl, World.ownsRow_nil _ _ _ _, Below.refl _ _⟩
      case round =>
        obtain ⟨j, hj, rfl, hown, hb⟩ := hrel
        obtain ⟨i0, hin, hz0, hz1, hz2⟩ := info_parts Tryz.info65
        have hxr := (propC_cells hrl8 (heap_later HX7.out hb zW7)).2.2.1
        have zWr : W.heap.size < wr.heap.size := by have := hb.size; omega
        by_cases hlt : j < p.bounds.length
        · have d0 : wr.cell? ⟨W.heap.size, 2 + j * 2, none⟩ = some (.int .u64 ((bget r.1.1 j).inn : Nat)) := by rw [hxr _ (by omega), bcellAt_inn]
          have d1 : wr.cell? ⟨W.heap.size, 2 + j * 2 + 1, none⟩ = some (.int .u64 ((bget r.1.1 j).can : Nat)) := by rw [← bcellAt_can]; exact hxr (j * 2 + 1) (by omega)
          have hsl := solOf_length r.1.1 j (by omega)
          have hss := solOf_snoc r.1.1 j (by omega)
          have hnb := Below.new2 wr (.cells #[.int .u64 ((bget r.1.1 j).inn : Nat), .int .u64 ((bget r.1.1 j).can : Nat)] 47) (.cells #[.int .u64 ((bget r.1.1 j).inn : Nat)] 38)
          have HOW := Lib.hid hown; have HB := Lib.hid hb; have HSL := Lib.hid hsl; have HSS := Lib.hid hss; have HNB := Lib.hid hnb
          clear hown hb hxr hsl hss hnb
          go_wp2_with (at_builtin; refine wpList_append_own _ rfl _ _ 35 rfl w7.heap.size 38 i0 (.int .u64 0) 1 8 Tryz.underlying35 hin hz0 hz1 hz2 rfl (by decide) _ _ _ rfl ((HOW.out.alloc _).alloc _) ⟨wr.heap.size + 1, 0, none⟩ 1 1 (natsV [(bget r.1.1 j).inn]) rfl rfl ?c1 ?c2 ?c3 ?c4 ?c5 ?_)
          case c1 =>
            intro q u hq
            match q, hq with
            | 0, hq => cases hq; rw [Addr.add_lit, Nat.zero_add, cell_of_row _ _ _ _ _ _ (heap_new2 wr _ _).2]; rfl
          case c2 => exact natsV_one _
          case c3 => have := HSL.out; unfold maxLen; omega
          case c4 => have := HSL.out; omega
          case c5 => have := HB.out.size; simp; omega
          intro v' w3 hown3 hgrow3 _
          have hb3 := (HB.out.trans (HNB.out.mono HB.out.size)).grown hgrow3 (by have := HB.out.size; simp; omega) (fun q hq => (HOW.out.lt q hq).1)
          rw [natsV_append, ← HSS.out] at hown3
          have hl2 : (solOf r.1.1 j).length + 1 = (solOf r.1.1 (j + 1)).length := by rw [HSS.out]; simp
          rw [hl2] at hown3
          have HO3 := Lib.hid hown3; have HB3 := Lib.hid hb3
          clear hown3 hgrow3 hb3 hl2 d0 d1
          go_wp2
          go_roundw
          case rel => exact ⟨j + 1, by omega, by go_num, HO3.out, HB3.out⟩
          case measure => simp [intOf]; omega
        · have hj2 : j = p.bounds.length := by omega
          subst hj2
          have hsl := solOf_length r.1.1 p.bounds.length (by omega)
          have hout8 : OutAt wr o base { s with nodes := s.nodes + 1 } := by
            obtain ⟨sv1, h1, h2⟩ := HOUT7.out
            exact ⟨sv1, heap_later h1 hb (Array.getElem?_eq_some_iff.1 h1).1, h2.ck (CK.below hb)⟩
          obtain ⟨sv2, ho2, hso2⟩ := hout8
          obtain ⟨cs, hcs, hcr⟩ := hso2
          have hnd8 := HND7.out.kept (Classical.choose_spec HOUT7.out).1 hB0 hBo hBb (KeptT.of_below hb)
          obtain ⟨ya, yn, yc, rfl⟩ : ∃ a n c, u10 = .slice a n c := by
            rcases hown.2 with ⟨h, _⟩ | ⟨g, cap, cur, h, _⟩
            · exact ⟨_, _, _, h⟩
            · exact ⟨_, _, _, h⟩
          obtain ⟨j0, jin, jz0, jz1, jz2⟩ := info_parts Tryz.info26
          have q0 : wr.cell? ⟨o, 0, none⟩ = some sv2 := by rw [cell_of_row _ _ _ _ _ _ ho2]; rfl
          have zo : o < wr.heap.size := (Array.getElem?_eq_some_iff.1 ho2).1
          have HKP8 := Lib.hid (HKP7.out.below hb)
          have hnb := Below.new1 wr (.cells #[.slice ya yn yc] 35)
          have hfl : s.sols.length ≤ 200 := Nat.le_trans HFEW.out.1 hn200
          have HOW := Lib.hid hown; have HB := Lib.hid hb; have HSL := Lib.hid hsl; have HCS := Lib.hid hcs; have HCR := Lib.hid hcr; have HND8 := Lib.hid hnd8; have HO2 := Lib.hid ho2; have HNB := Lib.hid hnb
          have hbas := hnd8.base
          clear hown hb hsl hcs hcr hnd8 ho2 hnb hxr HX7 HOUT7 HND7 HKP7
          go_wp2_with (at_builtin; refine wpList_append_own _ rfl _ _ 29 rfl base 35 j0 (.slice none 0 0) 1 24 Tryz.underlying29 jin jz0 jz1 jz2 rfl (by decide) _ _ _ rfl (HCS.out.alloc _) ⟨wr.heap.size, 0, none⟩ 1 1 [.slice ya yn yc] rfl rfl ?d1 ?d2 ?d3 ?d4 ?d5 ?_)
          case d2 => rfl
          case d3 => unfold maxLen; omega
          case d4 => omega
          case d5 => omega
          intro v' w9 hown9 hgrow9 _
          have hcs1 := HCS.out.alloc (.cells #[.slice ya yn yc] 35)
          have ho1 := heap_later HO2.out HNB.out zo
          have ho9 := (hgrow9.block o (by have := HNB.out.size; omega) (fun hh => own_apart hcs1 ho1 (by decide) _ hh.symm rfl)).trans ho1
          have hm1 := heap_later HND8.out.mm HNB.out (Array.getElem?_eq_some_iff.1 HND8.out.mm).1
          have hm9 := (hgrow9.block mm (Array.getElem?_eq_some_iff.1 hm1).1 (fun hh => own_apart hcs1 hm1 (by decide) _ hh.symm rfl)).trans hm1
          have hy1 := own_mono (own_ck HOW.out (CK.below HNB.out)) (show base ≤ w7.heap.size by have := HKP8.out.size; have := HND7b.out; omega)
          have hso9 : SOwn w9 base v' (s.sols ++ [solOf r.1.1 p.bounds.length]) := SOwn.appended hcs1 hgrow9 (fun i hi => by
            obtain ⟨yv, e5, e6⟩ := HCR.out i hi
            exact ⟨yv, e5, own_ck e6 (CK.below HNB.out)⟩) hy1 hown9
          have hkp9 := (HKP8.out.below HNB.out).grown hcs1 hgrow9
          obtain ⟨g5, cp, rfl⟩ := Slice.own_succ hown9
          have o0 : w9.cell? ⟨o, 0, none⟩ = some sv2 := by rw [cell_of_row _ _ _ _ _ _ ho9]; rfl
          have o0f : w9.frozen? ⟨o, 0, none⟩ = false := by simp [World.frozen?, ho9]
          have m0 : w9.cell? ⟨mm, 0, none⟩ = some (.int .i64 most) := by rw [cell_of_row _ _ _ _ _ _ hm9]; rfl
          have HO9 := Lib.hid ho9; have HSO9 := Lib.hid hso9; have HKP9 := Lib.hid hkp9
          clear hown9 hgrow9 hcs1 ho1 ho9 hm1 hm9 hy1 hso9 hkp9 q0
          go_wp2
          go_ret
          rw [HR'.out]
          refine ⟨?_, ⟨_, ?_, HSO9.out.setCell HO9.out (by decide) (by decide)⟩, HKP9.out.setCell (show One o o from rfl) _⟩
          · show Ending.returned (Value.bool (decide (((s.sols.length : Nat) : Int) + 1 < most))) = Ending.returned (Value.bool (decide (((s.sols.length + 1 : Nat) : Int) < most)))
            rw [show ((s.sols.length + 1 : Nat) : Int) = (s.sols.length : Int) + 1 by omega]
          · simp only [World.setCell, Array.getElem?_modify, if_true, HO9.out, Option.map_some]; rfl
    · have hvn : (openV r.1.1 p.bounds.length).toNat = v := by unfold openV; rw [hv]; simp
      have hov : ¬ openV r.1.1 p.bounds.length < 0 := by unfold openV; rw [hv]; omega
      have hres2 := HRES.out
      rw [if_neg (by omega), if_neg hov, hvn] at hres2
      have hv8 : v < 8 := by omega
      have hpe := pick_elem HGR.out.1.s12 HGR.out.1.sub hvo
      have hne := openE_ne HGR.out.1.sub hvo
      obtain ⟨e, he⟩ : ∃ e, e = ctzN (openE (bget r.1.1 v)) := ⟨_, rfl⟩
      have hu := HGR.out.1.s12.u64.get v
      have hu1 := hu.1; have hu2 := hu.2
      have HT : Hid (∀ (d : Nat) (os : Array Obj), Gives Tryz.prog 60 #[.int .u64 ((sDiff (bget r.1.1 v).can (bget r.1.1 v).inn : Nat) : Int)] (Go.Sort.grow (redrawn w7 d) os) (.int .i64 ((e : Nat) : Int))) := Lib.hid fun d os => by
        rw [he]; exact Gives.of_same (tz64_any (openE (bget r.1.1 v)) hu2.diff hne (Go.Sort.grow (redrawn w7 d) os) (HND7.out.tab.below (below_regrown w7 d os) (by omega)))
      rw [← he] at hres2 hpe
      have HRES2 := Lib.hid hres2; have HE := Lib.hid he; have HPE := Lib.hid hpe; have HVO := Lib.hid hvo
      have hc := (propC_cells hrl8 HX7.out).2.2.1
      have d0 : w7.cell? ⟨W.heap.size, 2 + v * 2, none⟩ = some (.int .u64 ((bget r.1.1 v).inn : Nat)) := by rw [hc _ (by omega), bcellAt_inn]
      have d1 : w7.cell? ⟨W.heap.size, 2 + v * 2 + 1, none⟩ = some (.int .u64 ((bget r.1.1 v).can : Nat)) := by rw [← bcellAt_can]; exact hc (v * 2 + 1) (by omega)
      rw [hv]
      clear hv hvn hov hres2 hpe hne he hu hc hvo HRES
      go_wp2_with fail
      refine wp_region_qb (by kernel_rfl) (by kernel_rfl) ?_
      repeat go_big_quiet_step ((with_reducible exact Gives.quiet (HT.out _ _)))
      refine wpQuiet_nil ?_
      intro w8 hb8
      have hh7 : Here p most (.slice ba p.bounds.length bc) (.slice ra p.rules.length rc) o pp mm nn B base w W.heap.size lv r.1.1 { s with nodes := s.nodes + 1 } w7 := ⟨HND7.out, HOUT7.out, HKP7.out, HX7.out⟩
      have hh8 := hh7.below hB0 hBo hBb hb8
      have hh8d := hh8.below hB0 hBo hBb (Below.drewn (Below.refl _ _))
      have H8 := Lib.hid hh8d
      obtain ⟨hs1, hs2⟩ := hh8.cells hrl8
      have he64 : e < 64 := by have := HPE.out.1; omega
      have HU := Lib.hid HGR.out.1.s12.u64
      have i94 := binfo hrl8
      have hn1 := openN_withB r.1.1 v e true (by omega) HPE.out.1 HPE.out.2
      have hn2 := openN_withB r.1.1 v e false (by omega) HPE.out.1 HPE.out.2
      have hgr2 := HGR.out.2
      have hfew1 : Few p.bounds.length { s with nodes := s.nodes + 1 } := ⟨Nat.le_trans HFEW.out.1 (Nat.le_succ _), by show s.nodes + 1 ≤ 200; omega, HFEW.out.2.2⟩
      have hfew2 := nodeR_few p HPO.out most k (withB r.1.1 v e true) _ (by rw [withB_length]; exact hrl8) (HGR.out.1.s12.with HPE.out.1 true) (sub_withB true (by omega) HPE.out.2 HGR.out.1.sub) hfew1
      have I1 := Lib.hid (fun V h1 h2 => HIH.out (withB r.1.1 v e true) { s with nodes := s.nodes + 1 } V (by omega) h1 (by rw [withB_length]; exact hrl8) (HGR.out.1.s12.with HPE.out.1 true) (sub_withB true (by omega) HPE.out.2 HGR.out.1.sub) hfew1 h2)
      obtain ⟨q1, hq1⟩ : ∃ q1, q1 = nodeR p most k (withB r.1.1 v e true) { s with nodes := s.nodes + 1 } := ⟨_, rfl⟩
      have hres3 := HRES2.out
      rw [← hq1] at hres3 hfew2 I1
      have I2 := Lib.hid (fun V h1 h2 => HIH.out (withB r.1.1 v e false) q1.2 V (by omega) h1 (by rw [withB_length]; exact hrl8) (HGR.out.1.s12.with HPE.out.1 false) (sub_withB false (by omega) HPE.out.2 HGR.out.1.sub) hfew2 h2)
      have HRES3 := Lib.hid hres3
      clear hh7 hh8 hh8d hn1 hn2 hfew1 hfew2 hq1 hres3 HRES2 HT HND7 HOUT7 HKP7 HX7 d0 d1 hu1 hu2 hb8
      cases hq : q1.1
      case true =>
        rw [hq] at I1
        have HQ := Lib.hid hq
        clear hq
        go_wp2_with fail
        refine wp_region_held_drew (S := fun V => V.cell? ⟨nn, 0, none⟩ = some (.func (.func 57) #[] #[.pointer (some ⟨o, 0, none⟩), .pointer (some ⟨pp, 0, none⟩), .pointer (some ⟨mm, 0, none⟩), .pointer (some ⟨nn, 0, none⟩)]) ∧ V.rangeAt W.heap.size 2 (bCells r.1.1)) (by kernel_rfl) (H8.out.cells hrl8) (fun hHeld => ?_)
        refine wpAnyH_take (i := 0) (oi := { dst := some 75, op := Op.load 97 (Operand.tmp 4), type := 97, pos := "search.go:43", after := #[], guard := none }) (v := ?_) rfl (by kernel_rfl) (by kernel_rfl) (by kernel_rfl) (fun _ _ _ h => h) (Or.inl ⟨by rfl, ?_⟩) (by assumption) ?_
        rotate_left
        · intro w hSw
          try dsimp only at hSw
          obtain ⟨hs0, hs1⟩ := hSw
          go_simp
          try with_reducible rfl
        try simp only [Act.put, List.setIfInBounds_toArray, List.set_cons_zero, List.set_cons_succ]
        refine wpAnyH_take (i := 1) (oi := { dst := some 76, op := Op.move (Operand.tmp 7), type := 88, pos := "search.go:43", after := #[], guard := none }) (v := ?_) rfl (by kernel_rfl) (by kernel_rfl) (by kernel_rfl) (fun _ _ _ h => h) (Or.inl ⟨by rfl, ?_⟩) (by assumption) ?_
        rotate_left
        · intro w hSw
          try dsimp only at hSw
          obtain ⟨hs0, hs1⟩ := hSw
          go_simp
          try with_reducible rfl
        try simp only [Act.put, List.setIfInBounds_toArray, List.set_cons_zero, List.set_cons_succ]
        refine wpAnyH_take (i := 2) (oi := { dst := some 77, op := Op.nilCheck (Operand.tmp 76), type := 0, pos := "search.go:43", after := #[{ on := 1, ground := Ground.data }], guard := none }) (v := ?_) rfl (by kernel_rfl) (by kernel_rfl) (by kernel_rfl) (fun _ _ _ h => h) (Or.inl ⟨by rfl, ?_⟩) (by assumption) ?_
        rotate_left
        · intro w hSw
          try dsimp only at hSw
          obtain ⟨hs0, hs1⟩ := hSw
          go_simp
          try with_reducible rfl
        try simp only [Act.put, List.setIfInBounds_toArray, List.set_cons_zero, List.set_cons_succ]
        refine wpAnyH_take (i := 3) (oi := { dst := some 78, op := Op.fieldAddr 91 (Operand.tmp 77) 1, type := 0, pos := "search.go:43", after := #[{ on := 2, ground := Ground.data }], guard := none }) (v := ?_) rfl (by kernel_rfl) (by kernel_rfl) (by kernel_rfl) (fun _ _ _ h => h) (Or.inl ⟨by rfl, ?_⟩) (by assumption) ?_
        rotate_left
        · intro w hSw
          try dsimp only at hSw
          obtain ⟨hs0, hs1⟩ := hSw
          go_simp
          try with_reducible rfl
        try simp only [Act.put, List.setIfInBounds_toArray, List.set_cons_zero, List.set_cons_succ]
        refine wpAnyH_take (i := 4) (oi := { dst := some 79, op := Op.load 85 (Operand.tmp 78), type := 85, pos := "search.go:43", after := #[{ on := 3, ground := Ground.data }], guard := none }) (v := .agg (bCells r.1.1).toArray) rfl (by kernel_rfl) (by kernel_rfl) (by kernel_rfl) (fun _ _ _ h => h) ?_ (by assumption) ?_
        · refine yieldsIf_load_mid ?_ 85 (.tmp 78) ?_ W.heap.size 2 ?_ (bCells r.1.1) _ ?_ Tryz.underlying85 rfl i94
          · rfl
          · rfl
          · rfl
          · intro w hSw
            exact hSw.2
        try simp only [Act.put, List.setIfInBounds_toArray, List.set_cons_zero, List.set_cons_succ]
        refine wpAnyH_take (i := 5) (oi := { dst := some 80, op := Op.move (Operand.tmp 9), type := 3, pos := "search.go:43", after := #[], guard := none }) (v := ?_) rfl (by kernel_rfl) (by kernel_rfl) (by kernel_rfl) (fun _ _ _ h => h) (Or.inl ⟨by rfl, ?_⟩) (by assumption) ?_
        rotate_left
        · intro w hSw
          try dsimp only at hSw
          obtain ⟨hs0, hs1⟩ := hSw
          go_simp
          try with_reducible rfl
        try simp only [Act.put, List.setIfInBounds_toArray, List.set_cons_zero, List.set_cons_succ]
        refine wpAnyH_take (i := 6) (oi := { dst := some 81, op := Op.move (Operand.tmp 13), type := 3, pos := "search.go:43", after := #[], guard := none }) (v := ?_) rfl (by kernel_rfl) (by kernel_rfl) (by kernel_rfl) (fun _ _ _ h => h) (Or.inl ⟨by rfl, ?_⟩) (by assumption) ?_
        rotate_left
        · intro w hSw
          try dsimp only at hSw
          obtain ⟨hs0, hs1⟩ := hSw
          go_simp
          try with_reducible rfl
        try simp only [Act.put, List.setIfInBounds_toArray, List.set_cons_zero, List.set_cons_succ]
        refine wpAnyH_ready (rs := [7]) (by kernel_rfl) (by simp) ?_
        refine AllReadyH.cons (o := { dst := some 82, op := Op.call { callee := Callee.value (Operand.func 61), args := #[Operand.tmp 79, Operand.tmp 80, Operand.tmp 81, Operand.const (Value.bool true)], argTypes := #[85, 3, 3, 4] }, type := 85, pos := "search.go:43", after := #[{ on := 4, ground := Ground.data }, { on := 5, ground := Ground.data }, { on := 6, ground := Ground.data }], guard := none }) rfl (fun K hK => ?_) AllReadyH.nil
        go_simp
        refine (with_any r.1.1 v e true _ hrl8 hv8 he64 HU.out).mono ?_
        rintro e1 wA ⟨rfl, hbA⟩
        go_wp2_with fail
        have HA := Lib.hid (H8.out.below hB0 hBo hBb hbA)
        have HS := Lib.hid (HA.out.cells hrl8)
        clear hbA H8
        refine hK.out _ _ HS.out (fun hHeld => ?_)
        clear hK K
        try simp only [Act.put, List.setIfInBounds_toArray, List.set_cons_zero, List.set_cons_succ]
        clear HS
        refine wpAnyH_ready (rs := [8]) (by kernel_rfl) (by simp) ?_
        refine AllReadyH.cons (o := { dst := some 83, op := Op.call { callee := Callee.value (Operand.tmp 75), args := #[Operand.tmp 82], argTypes := #[85] }, type := 4, pos := "search.go:43", after := #[{ on := 0, ground := Ground.data }, { on := 7, ground := Ground.data }, { on := 7, ground := Ground.chain }], guard := none }) rfl (fun K hK => ?_) AllReadyH.nil
        go_simp
        refine (I1.out _ HA.out.nd HA.out.out).mono ?_
        rintro e1 wB ⟨rfl, hoB, hkB⟩
        go_wp2_with fail
        have HB := Lib.hid (HA.out.next hB0 hBo hBb hkB hoB)
        have HS := Lib.hid (HB.out.cells hrl8)
        clear hoB hkB HA
        refine hK.out _ _ HS.out (fun hHeld => ?_)
        clear hK K
        try simp only [Act.put, List.setIfInBounds_toArray, List.set_cons_zero, List.set_cons_succ]
        clear HS
        refine wpAnyH_take (i := 9) (oi := { dst := some 84, op := Op.move (Operand.tmp 83), type := 4, pos := "search.go:43", after := #[{ on := 8, ground := Ground.data }, { on := 8, ground := Ground.chain }], guard := none }) (v := ?_) rfl (by kernel_rfl) (by kernel_rfl) (by kernel_rfl) (fun _ _ _ h => h) (Or.inl ⟨by rfl, ?_⟩) (by assumption) ?_
        rotate_left
        · intro w hSw
          try dsimp only at hSw
          obtain ⟨hs0, hs1⟩ := hSw
          go_simp
          try with_reducible rfl
        try simp only [Act.put, List.setIfInBounds_toArray, List.set_cons_zero, List.set_cons_succ]
        refine wpAnyH_take (i := 10) (oi := { dst := some 85, op := Op.load 97 (Operand.tmp 4), type := 97, pos := "search.go:43", after := #[{ on := 9, ground := Ground.guard }], guard := some (9, true) }) (v := ?_) rfl (by kernel_rfl) (by kernel_rfl) (by kernel_rfl) (fun _ _ _ h => h) (Or.inl ⟨by rfl, ?_⟩) (by assumption) ?_
        rotate_left
        · intro w hSw
          try dsimp only at hSw
          obtain ⟨hs0, hs1⟩ := hSw
          go_simp
          try with_reducible rfl
        try simp only [Act.put, List.setIfInBounds_toArray, List.set_cons_zero, List.set_cons_succ]
        refine wpAnyH_take (i := 11) (oi := { dst := some 86, op := Op.move (Operand.tmp 7), type := 88, pos := "search.go:43", after := #[{ on := 9, ground := Ground.guard }], guard := some (9, true) }) (v := ?_) rfl (by kernel_rfl) (by kernel_rfl) (by kernel_rfl) (fun _ _ _ h => h) (Or.inl ⟨by rfl, ?_⟩) (by assumption) ?_
        rotate_left
        · intro w hSw
          try dsimp only at hSw
          obtain ⟨hs0, hs1⟩ := hSw
          go_simp
          try with_reducible rfl
        try simp only [Act.put, List.setIfInBounds_toArray, List.set_cons_zero, List.set_cons_succ]
        refine wpAnyH_take (i := 12) (oi := { dst := some 87, op := Op.nilCheck (Operand.tmp 86), type := 0, pos := "search.go:43", after := #[{ on := 11, ground := Ground.data }, { on := 9, ground := Ground.guard }], guard := some (9, true) }) (v := ?_) rfl (by kernel_rfl) (by kernel_rfl) (by kernel_rfl) (fun _ _ _ h => h) (Or.inl ⟨by rfl, ?_⟩) (by assumption) ?_
        rotate_left
        · intro w hSw
          try dsimp only at hSw
          obtain ⟨hs0, hs1⟩ := hSw
          go_simp
          try with_reducible rfl
        try simp only [Act.put, List.setIfInBounds_toArray, List.set_cons_zero, List.set_cons_succ]
        refine wpAnyH_take (i := 13) (oi := { dst := some 88, op := Op.fieldAddr 91 (Operand.tmp 87) 1, type := 0, pos := "search.go:43", after := #[{ on := 12, ground := Ground.data }, { on := 9, ground := Ground.guard }], guard := some (9, true) }) (v := ?_) rfl (by kernel_rfl) (by kernel_rfl) (by kernel_rfl) (fun _ _ _ h => h) (Or.inl ⟨by rfl, ?_⟩) (by assumption) ?_
        rotate_left
        · intro w hSw
          try dsimp only at hSw
          obtain ⟨hs0, hs1⟩ := hSw
          go_simp
          try with_reducible rfl
        try simp only [Act.put, List.setIfInBounds_toArray, List.set_cons_zero, List.set_cons_succ]
        refine wpAnyH_take (i := 14) (oi := { dst := some 89, op := Op.load 85 (Operand.tmp 88), type := 85, pos := "search.go:43", after := #[{ on := 13, ground := Ground.data }, { on := 9, ground := Ground.guard }], guard := some (9, true) }) (v := .agg (bCells r.1.1).toArray) rfl (by kernel_rfl) (by kernel_rfl) (by kernel_rfl) (fun _ _ _ h => h) ?_ (by assumption) ?_
        · refine yieldsIf_load_mid ?_ 85 (.tmp 88) ?_ W.heap.size 2 ?_ (bCells r.1.1) _ ?_ Tryz.underlying85 rfl i94
          · rfl
          · rfl
          · rfl
          · intro w hSw
            exact hSw.2
        try simp only [Act.put, List.setIfInBounds_toArray, List.set_cons_zero, List.set_cons_succ]
        refine wpAnyH_take (i := 15) (oi := { dst := some 90, op := Op.move (Operand.tmp 9), type := 3, pos := "search.go:43", after := #[{ on := 9, ground := Ground.guard }], guard := some (9, true) }) (v := ?_) rfl (by kernel_rfl) (by kernel_rfl) (by kernel_rfl) (fun _ _ _ h => h) (Or.inl ⟨by rfl, ?_⟩) (by assumption) ?_
        rotate_left
        · intro w hSw
          try dsimp only at hSw
          obtain ⟨hs0, hs1⟩ := hSw
          go_simp
          try with_reducible rfl
        try simp only [Act.put, List.setIfInBounds_toArray, List.set_cons_zero, List.set_cons_succ]
        refine wpAnyH_take (i := 16) (oi := { dst := some 91, op := Op.move (Operand.tmp 13), type := 3, pos := "search.go:43", after := #[{ on := 9, ground := Ground.guard }], guard := some (9, true) }) (v := ?_) rfl (by kernel_rfl) (by kernel_rfl) (by kernel_rfl) (fun _ _ _ h => h) (Or.inl ⟨by rfl, ?_⟩) (by assumption) ?_
        rotate_left
        · intro w hSw
          try dsimp only at hSw
          obtain ⟨hs0, hs1⟩ := hSw
          go_simp
          try with_reducible rfl
        try simp only [Act.put, List.setIfInBounds_toArray, List.set_cons_zero, List.set_cons_succ]
        refine wpAnyH_ready (rs := [17]) (by kernel_rfl) (by simp) ?_
        refine AllReadyH.cons (o := { dst := some 92, op := Op.call { callee := Callee.value (Operand.func 61), args := #[Operand.tmp 89, Operand.tmp 90, Operand.tmp 91, Operand.const (Value.bool false)], argTypes := #[85, 3, 3, 4] }, type := 85, pos := "search.go:43", after := #[{ on := 14, ground := Ground.data }, { on := 15, ground := Ground.data }, { on := 16, ground := Ground.data }, { on := 9, ground := Ground.chain }, { on := 9, ground := Ground.guard }], guard := some (9, true) }) rfl (fun K hK => ?_) AllReadyH.nil
        go_simp
        refine (with_any r.1.1 v e false _ hrl8 hv8 he64 HU.out).mono ?_
        rintro e1 wC ⟨rfl, hbC⟩
        go_wp2_with fail
        have HC := Lib.hid (HB.out.below hB0 hBo hBb hbC)
        have HS := Lib.hid (HC.out.cells hrl8)
        clear hbC HB
        refine hK.out _ _ HS.out (fun hHeld => ?_)
        clear hK K
        try simp only [Act.put, List.setIfInBounds_toArray, List.set_cons_zero, List.set_cons_succ]
        clear HS
        refine wpAnyH_ready (rs := [18]) (by kernel_rfl) (by simp) ?_
        refine AllReadyH.cons (o := { dst := some 93, op := Op.call { callee := Callee.value (Operand.tmp 85), args := #[Operand.tmp 92], argTypes := #[85] }, type := 4, pos := "search.go:43", after := #[{ on := 10, ground := Ground.data }, { on := 17, ground := Ground.data }, { on := 17, ground := Ground.chain }, { on := 9, ground := Ground.guard }], guard := some (9, true) }) rfl (fun K hK => ?_) AllReadyH.nil
        go_simp
        refine (I2.out _ HC.out.nd HC.out.out).mono ?_
        rintro e1 wD ⟨rfl, hoD, hkD⟩
        go_wp2_with fail
        have HD := Lib.hid (HC.out.next hB0 hBo hBb hkD hoD)
        have HS := Lib.hid (HD.out.cells hrl8)
        clear hoD hkD HC
        refine hK.out _ _ HS.out (fun hHeld => ?_)
        clear hK K
        try simp only [Act.put, List.setIfInBounds_toArray, List.set_cons_zero, List.set_cons_succ]
        clear HS
        refine wpAnyH_take (i := 19) (oi := { dst := some 94, op := Op.pick (Operand.tmp 84) (Operand.tmp 93) (Operand.const (Value.bool false)), type := 4, pos := "search.go:43", after := #[{ on := 9, ground := Ground.data }, { on := 18, ground := Ground.data }], guard := none }) (v := ?_) rfl (by kernel_rfl) (by kernel_rfl) (by kernel_rfl) (fun _ _ _ h => h) (Or.inl ⟨by rfl, ?_⟩) (by assumption) ?_
        rotate_left
        · intro w hSw
          try dsimp only at hSw
          obtain ⟨hs0, hs1⟩ := hSw
          go_simp
          try with_reducible rfl
        try simp only [Act.put, List.setIfInBounds_toArray, List.set_cons_zero, List.set_cons_succ]
        refine wpAnyH_take (i := 20) (oi := { dst := some 6, op := Op.assign (Operand.tmp 94), type := 4, pos := "search.go:43", after := #[{ on := 19, ground := Ground.data }, { on := 18, ground := Ground.chain }, { on := 0, ground := Ground.phase }, { on := 1, ground := Ground.phase }, { on := 2, ground := Ground.phase }, { on := 3, ground := Ground.phase }, { on := 4, ground := Ground.phase }, { on := 5, ground := Ground.phase }, { on := 6, ground := Ground.phase }, { on := 7, ground := Ground.phase }, { on := 8, ground := Ground.phase }, { on := 9, ground := Ground.phase }, { on := 10, ground := Ground.phase }, { on := 11, ground := Ground.phase }, { on := 12, ground := Ground.phase }, { on := 13, ground := Ground.phase }, { on := 14, ground := Ground.phase }, { on := 15, ground := Ground.phase }, { on := 16, ground := Ground.phase }, { on := 17, ground := Ground.phase }, { on := 18, ground := Ground.phase }, { on := 19, ground := Ground.phase }], guard := none }) (v := ?_) rfl (by kernel_rfl) (by kernel_rfl) (by kernel_rfl) (fun _ _ _ h => h) (Or.inl ⟨by rfl, ?_⟩) (by assumption) ?_
        rotate_left
        · intro w hSw
          try dsimp only at hSw
          obtain ⟨hs0, hs1⟩ := hSw
          go_simp
          try with_reducible rfl
        try simp only [Act.put, List.setIfInBounds_toArray, List.set_cons_zero, List.set_cons_succ]
        refine wpAnyH_done (by kernel_rfl) ?_ _
        clear hHeld
        go_wp2
        go_ret
        rw [HRES3.out, if_pos HQ.out]
        exact ⟨rfl, HD.out.out, HD.out.kp⟩
      case false =>
        rw [hq] at I1
        have HQ := Lib.hid hq
        clear hq
        go_wp2_with fail
        refine wp_region_held_drew (S := fun V => V.cell? ⟨nn, 0, none⟩ = some (.func (.func 57) #[] #[.pointer (some ⟨o, 0, none⟩), .pointer (some ⟨pp, 0, none⟩), .pointer (some ⟨mm, 0, none⟩), .pointer (some ⟨nn, 0, none⟩)]) ∧ V.rangeAt W.heap.size 2 (bCells r.1.1)) (by kernel_rfl) (H8.out.cells hrl8) (fun hHeld => ?_)
        refine wpAnyH_take (i := 0) (oi := { dst := some 75, op := Op.load 97 (Operand.tmp 4), type := 97, pos := "search.go:43", after := #[], guard := none }) (v := ?_) rfl (by kernel_rfl) (by kernel_rfl) (by kernel_rfl) (fun _ _ _ h => h) (Or.inl ⟨by rfl, ?_⟩) (by assumption) ?_
        rotate_left
        · intro w hSw
          try dsimp only at hSw
          obtain ⟨hs0, hs1⟩ := hSw
          go_simp
          try with_reducible rfl
        try simp only [Act.put, List.setIfInBounds_toArray, List.set_cons_zero, List.set_cons_succ]
        refine wpAnyH_take (i := 1) (oi := { dst := some 76, op := Op.move (Operand.tmp 7), type := 88, pos := "search.go:43", after := #[], guard := none }) (v := ?_) rfl (by kernel_rfl) (by kernel_rfl) (by kernel_rfl) (fun _ _ _ h => h) (Or.inl ⟨by rfl, ?_⟩) (by assumption) ?_
        rotate_left
        · intro w hSw
          try dsimp only at hSw
          obtain ⟨hs0, hs1⟩ := hSw
          go_simp
          try with_reducible rfl
        try simp only [Act.put, List.setIfInBounds_toArray, List.set_cons_zero, List.set_cons_succ]
        refine wpAnyH_take (i := 2) (oi := { dst := some 77, op := Op.nilCheck (Operand.tmp 76), type := 0, pos := "search.go:43", after := #[{ on := 1, ground := Ground.data }], guard := none }) (v := ?_) rfl (by kernel_rfl) (by kernel_rfl) (by kernel_rfl) (fun _ _ _ h => h) (Or.inl ⟨by rfl, ?_⟩) (by assumption) ?_
        rotate_left
        · intro w hSw
          try dsimp only at hSw
          obtain ⟨hs0, hs1⟩ := hSw
          go_simp
          try with_reducible rfl
        try simp only [Act.put, List.setIfInBounds_toArray, List.set_cons_zero, List.set_cons_succ]
        refine wpAnyH_take (i := 3) (oi := { dst := some 78, op := Op.fieldAddr 91 (Operand.tmp 77) 1, type := 0, pos := "search.go:43", after := #[{ on := 2, ground := Ground.data }], guard := none }) (v := ?_) rfl (by kernel_rfl) (by kernel_rfl) (by kernel_rfl) (fun _ _ _ h => h) (Or.inl ⟨by rfl, ?_⟩) (by assumption) ?_
        rotate_left
        · intro w hSw
          try dsimp only at hSw
          obtain ⟨hs0, hs1⟩ := hSw
          go_simp
          try with_reducible rfl
        try simp only [Act.put, List.setIfInBounds_toArray, List.set_cons_zero, List.set_cons_succ]
        refine wpAnyH_take (i := 4) (oi := { dst := some 79, op := Op.load 85 (Operand.tmp 78), type := 85, pos := "search.go:43", after := #[{ on := 3, ground := Ground.data }], guard := none }) (v := .agg (bCells r.1.1).toArray) rfl (by kernel_rfl) (by kernel_rfl) (by kernel_rfl) (fun _ _ _ h => h) ?_ (by assumption) ?_
        · refine yieldsIf_load_mid ?_ 85 (.tmp 78) ?_ W.heap.size 2 ?_ (bCells r.1.1) _ ?_ Tryz.underlying85 rfl i94
          · rfl
          · rfl
          · rfl
          · intro w hSw
            exact hSw.2
        try simp only [Act.put, List.setIfInBounds_toArray, List.set_cons_zero, List.set_cons_succ]
        refine wpAnyH_take (i := 5) (oi := { dst := some 80, op := Op.move (Operand.tmp 9), type := 3, pos := "search.go:43", after := #[], guard := none }) (v := ?_) rfl (by kernel_rfl) (by kernel_rfl) (by kernel_rfl) (fun _ _ _ h => h) (Or.inl ⟨by rfl, ?_⟩) (by assumption) ?_
        rotate_left
        · intro w hSw
          try dsimp only at hSw
          obtain ⟨hs0, hs1⟩ := hSw
          go_simp
          try with_reducible rfl
        try simp only [Act.put, List.setIfInBounds_toArray, List.set_cons_zero, List.set_cons_succ]
        refine wpAnyH_take (i := 6) (oi := { dst := some 81, op := Op.move (Operand.tmp 13), type := 3, pos := "search.go:43", after := #[], guard := none }) (v := ?_) rfl (by kernel_rfl) (by kernel_rfl) (by kernel_rfl) (fun _ _ _ h => h) (Or.inl ⟨by rfl, ?_⟩) (by assumption) ?_
        rotate_left
        · intro w hSw
          try dsimp only at hSw
          obtain ⟨hs0, hs1⟩ := hSw
          go_simp
          try with_reducible rfl
        try simp only [Act.put, List.setIfInBounds_toArray, List.set_cons_zero, List.set_cons_succ]
        refine wpAnyH_ready (rs := [7]) (by kernel_rfl) (by simp) ?_
        refine AllReadyH.cons (o := { dst := some 82, op := Op.call { callee := Callee.value (Operand.func 61), args := #[Operand.tmp 79, Operand.tmp 80, Operand.tmp 81, Operand.const (Value.bool true)], argTypes := #[85, 3, 3, 4] }, type := 85, pos := "search.go:43", after := #[{ on := 4, ground := Ground.data }, { on := 5, ground := Ground.data }, { on := 6, ground := Ground.data }], guard := none }) rfl (fun K hK => ?_) AllReadyH.nil
        go_simp
        refine (with_any r.1.1 v e true _ hrl8 hv8 he64 HU.out).mono ?_
        rintro e1 wA ⟨rfl, hbA⟩
        go_wp2_with fail
        have HA := Lib.hid (H8.out.below hB0 hBo hBb hbA)
        have HS := Lib.hid (HA.out.cells hrl8)
        clear hbA H8
        refine hK.out _ _ HS.out (fun hHeld => ?_)
        clear hK K
        try simp only [Act.put, List.setIfInBounds_toArray, List.set_cons_zero, List.set_cons_succ]
        clear HS
        refine wpAnyH_ready (rs := [8]) (by kernel_rfl) (by simp) ?_
        refine AllReadyH.cons (o := { dst := some 83, op := Op.call { callee := Callee.value (Operand.tmp 75), args := #[Operand.tmp 82], argTypes := #[85] }, type := 4, pos := "search.go:43", after := #[{ on := 0, ground := Ground.data }, { on := 7, ground := Ground.data }, { on := 7, ground := Ground.chain }], guard := none }) rfl (fun K hK => ?_) AllReadyH.nil
        go_simp
        refine (I1.out _ HA.out.nd HA.out.out).mono ?_
        rintro e1 wB ⟨rfl, hoB, hkB⟩
        go_wp2_with fail
        have HB := Lib.hid (HA.out.next hB0 hBo hBb hkB hoB)
        have HS := Lib.hid (HB.out.cells hrl8)
        clear hoB hkB HA
        refine hK.out _ _ HS.out (fun hHeld => ?_)
        clear hK K
        try simp only [Act.put, List.setIfInBounds_toArray, List.set_cons_zero, List.set_cons_succ]
        clear HS
        refine wpAnyH_take (i := 9) (oi := { dst := some 84, op := Op.move (Operand.tmp 83), type := 4, pos := "search.go:43", after := #[{ on := 8, ground := Ground.data }, { on := 8, ground := Ground.chain }], guard := none }) (v := ?_) rfl (by kernel_rfl) (by kernel_rfl) (by kernel_rfl) (fun _ _ _ h => h) (Or.inl ⟨by rfl, ?_⟩) (by assumption) ?_
        rotate_left
        · intro w hSw
          try dsimp only at hSw
          obtain ⟨hs0, hs1⟩ := hSw
          go_simp
          try with_reducible rfl
        try simp only [Act.put, List.setIfInBounds_toArray, List.set_cons_zero, List.set_cons_succ]
        refine wpAnyH_take (i := 10) (oi := { dst := some 85, op := Op.load 97 (Operand.tmp 4), type := 97, pos := "search.go:43", after := #[{ on := 9, ground := Ground.guard }], guard := some (9, true) }) (v := undef) rfl (by kernel_rfl) (by kernel_rfl) (by kernel_rfl) (fun _ _ _ h => h) (Or.inr ⟨by rfl, rfl⟩) (by assumption) ?_
        try simp only [Act.put, List.setIfInBounds_toArray, List.set_cons_zero, List.set_cons_succ]
        refine wpAnyH_take (i := 11) (oi := { dst := some 86, op := Op.move (Operand.tmp 7), type := 88, pos := "search.go:43", after := #[{ on := 9, ground := Ground.guard }], guard := some (9, true) }) (v := undef) rfl (by kernel_rfl) (by kernel_rfl) (by kernel_rfl) (fun _ _ _ h => h) (Or.inr ⟨by rfl, rfl⟩) (by assumption) ?_
        try simp only [Act.put, List.setIfInBounds_toArray, List.set_cons_zero, List.set_cons_succ]
        refine wpAnyH_take (i := 12) (oi := { dst := some 87, op := Op.nilCheck (Operand.tmp 86), type := 0, pos := "search.go:43", after := #[{ on := 11, ground := Ground.data }, { on := 9, ground := Ground.guard }], guard := some (9, true) }) (v := undef) rfl (by kernel_rfl) (by kernel_rfl) (by kernel_rfl) (fun _ _ _ h => h) (Or.inr ⟨by rfl, rfl⟩) (by assumption) ?_
        try simp only [Act.put, List.setIfInBounds_toArray, List.set_cons_zero, List.set_cons_succ]
        refine wpAnyH_take (i := 13) (oi := { dst := some 88, op := Op.fieldAddr 91 (Operand.tmp 87) 1, type := 0, pos := "search.go:43", after := #[{ on := 12, ground := Ground.data }, { on := 9, ground := Ground.guard }], guard := some (9, true) }) (v := undef) rfl (by kernel_rfl) (by kernel_rfl) (by kernel_rfl) (fun _ _ _ h => h) (Or.inr ⟨by rfl, rfl⟩) (by assumption) ?_
        try simp only [Act.put, List.setIfInBounds_toArray, List.set_cons_zero, List.set_cons_succ]
        refine wpAnyH_take (i := 14) (oi := { dst := some 89, op := Op.load 85 (Operand.tmp 88), type := 85, pos := "search.go:43", after := #[{ on := 13, ground := Ground.data }, { on := 9, ground := Ground.guard }], guard := some (9, true) }) (v := undef) rfl (by kernel_rfl) (by kernel_rfl) (by kernel_rfl) (fun _ _ _ h => h) (Or.inr ⟨by rfl, rfl⟩) (by assumption) ?_
        try simp only [Act.put, List.setIfInBounds_toArray, List.set_cons_zero, List.set_cons_succ]
        refine wpAnyH_take (i := 15) (oi := { dst := some 90, op := Op.move (Operand.tmp 9), type := 3, pos := "search.go:43", after := #[{ on := 9, ground := Ground.guard }], guard := some (9, true) }) (v := undef) rfl (by kernel_rfl) (by kernel_rfl) (by kernel_rfl) (fun _ _ _ h => h) (Or.inr ⟨by rfl, rfl⟩) (by assumption) ?_
        try simp only [Act.put, List.setIfInBounds_toArray, List.set_cons_zero, List.set_cons_succ]
        refine wpAnyH_take (i := 16) (oi := { dst := some 91, op := Op.move (Operand.tmp 13), type := 3, pos := "search.go:43", after := #[{ on := 9, ground := Ground.guard }], guard := some (9, true) }) (v := undef) rfl (by kernel_rfl) (by kernel_rfl) (by kernel_rfl) (fun _ _ _ h => h) (Or.inr ⟨by rfl, rfl⟩) (by assumption) ?_
        try simp only [Act.put, List.setIfInBounds_toArray, List.set_cons_zero, List.set_cons_succ]
        refine wpAnyH_take (i := 17) (oi := { dst := some 92, op := Op.call { callee := Callee.value (Operand.func 61), args := #[Operand.tmp 89, Operand.tmp 90, Operand.tmp 91, Operand.const (Value.bool false)], argTypes := #[85, 3, 3, 4] }, type := 85, pos := "search.go:43", after := #[{ on := 14, ground := Ground.data }, { on := 15, ground := Ground.data }, { on := 16, ground := Ground.data }, { on := 9, ground := Ground.chain }, { on := 9, ground := Ground.guard }], guard := some (9, true) }) (v := undef) rfl (by kernel_rfl) (by kernel_rfl) (by kernel_rfl) (fun _ _ _ h => h) (Or.inr ⟨by rfl, rfl⟩) (by assumption) ?_
        try simp only [Act.put, List.setIfInBounds_toArray, List.set_cons_zero, List.set_cons_succ]
        refine wpAnyH_take (i := 18) (oi := { dst := some 93, op := Op.call { callee := Callee.value (Operand.tmp 85), args := #[Operand.tmp 92], argTypes := #[85] }, type := 4, pos := "search.go:43", after := #[{ on := 10, ground := Ground.data }, { on := 17, ground := Ground.data }, { on := 17, ground := Ground.chain }, { on := 9, ground := Ground.guard }], guard := some (9, true) }) (v := undef) rfl (by kernel_rfl) (by kernel_rfl) (by kernel_rfl) (fun _ _ _ h => h) (Or.inr ⟨by rfl, rfl⟩) (by assumption) ?_
        try simp only [Act.put, List.setIfInBounds_toArray, List.set_cons_zero, List.set_cons_succ]
        refine wpAnyH_take (i := 19) (oi := { dst := some 94, op := Op.pick (Operand.tmp 84) (Operand.tmp 93) (Operand.const (Value.bool false)), type := 4, pos := "search.go:43", after := #[{ on := 9, ground := Ground.data }, { on := 18, ground := Ground.data }], guard := none }) (v := ?_) rfl (by kernel_rfl) (by kernel_rfl) (by kernel_rfl) (fun _ _ _ h => h) (Or.inl ⟨by rfl, ?_⟩) (by assumption) ?_
        rotate_left
        · intro w hSw
          try dsimp only at hSw
          obtain ⟨hs0, hs1⟩ := hSw
          go_simp
          try with_reducible rfl
        try simp only [Act.put, List.setIfInBounds_toArray, List.set_cons_zero, List.set_cons_succ]
        refine wpAnyH_take (i := 20) (oi := { dst := some 6, op := Op.assign (Operand.tmp 94), type := 4, pos := "search.go:43", after := #[{ on := 19, ground := Ground.data }, { on := 18, ground := Ground.chain }, { on := 0, ground := Ground.phase }, { on := 1, ground := Ground.phase }, { on := 2, ground := Ground.phase }, { on := 3, ground := Ground.phase }, { on := 4, ground := Ground.phase }, { on := 5, ground := Ground.phase }, { on := 6, ground := Ground.phase }, { on := 7, ground := Ground.phase }, { on := 8, ground := Ground.phase }, { on := 9, ground := Ground.phase }, { on := 10, ground := Ground.phase }, { on := 11, ground := Ground.phase }, { on := 12, ground := Ground.phase }, { on := 13, ground := Ground.phase }, { on := 14, ground := Ground.phase }, { on := 15, ground := Ground.phase }, { on := 16, ground := Ground.phase }, { on := 17, ground := Ground.phase }, { on := 18, ground := Ground.phase }, { on := 19, ground := Ground.phase }], guard := none }) (v := ?_) rfl (by kernel_rfl) (by kernel_rfl) (by kernel_rfl) (fun _ _ _ h => h) (Or.inl ⟨by rfl, ?_⟩) (by assumption) ?_
        rotate_left
        · intro w hSw
          try dsimp only at hSw
          obtain ⟨hs0, hs1⟩ := hSw
          go_simp
          try with_reducible rfl
        try simp only [Act.put, List.setIfInBounds_toArray, List.set_cons_zero, List.set_cons_succ]
        refine wpAnyH_done (by kernel_rfl) ?_ _
        clear hHeld
        go_wp2
        go_ret
        rw [HRES3.out, if_neg (by rw [HQ.out]; decide)]
        exact ⟨rfl, HB.out.out, HB.out.kp⟩
end Go.Proofs.YtilbbnjfaoldoaaGreatDoor
