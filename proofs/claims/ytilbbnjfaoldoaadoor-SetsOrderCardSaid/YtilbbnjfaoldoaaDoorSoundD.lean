/- mended: sets that were changed to fit rules. -/
import Derived.Test.YtilbbnjfaoldoaaDoorSoundC
namespace Go.Proofs.YtilbbnjfaoldoaaDoor
open Go Go.RowKit
attribute [local go_sem] cell_grow u64_sAnd u64_sOr u64_sDiff sDiff_all zeqI zneI sAnd_bit_zero sAnd_bit_zeroN sAnd_bit_nonzero rowOf_grow rowOk_grow rowOf_alloc rowOk_alloc

set_option maxRecDepth 100000 in
set_option maxHeartbeats 4000000 in
theorem mended_any (p : Prob) (hpo : probOk p = true) (l : List Nat) (hll : l.length = p.bounds.length) (hl64 : All64 l) (bv rv lv : Value) (w : World) {B : Nat} (hrv : Rls w B rv p.rules) (hlv : Us w B lv l) (hB : B ≤ w.heap.size) :
    Calls Tryd.prog 45 #[.agg #[bv, rv], lv] w (DrawnP p.bounds.length w) := by
  have HRV := Lib.hid hrv; have HLV := Lib.hid hlv; have HPO := Lib.hid hpo; have HL64 := Lib.hid hl64
  have hfit := probOk_fit hpo
  have hn1 := hfit.1
  have hn8 := hfit.2.1
  have hr12 := hfit.2.2.1
  have HFIT := Lib.hid hfit.2.2.2.1
  obtain ⟨ra, rc, rfl⟩ := hrv.slice
  obtain ⟨la, lc, rfl⟩ := hlv.slice
  have HLL := Lib.hid hll
  have hln : 1 ≤ l.length ∧ l.length ≤ 8 := by omega
  clear hrv hlv hpo hl64 hfit hll
  have K0 := Lib.hid (heap_new0 w (.cells #[bv, .slice ra p.rules.length rc] 25)); have HB0 := Lib.hid (Below.new1 w (.cells #[bv, .slice ra p.rules.length rc] 25))
  have HCL := Lib.hid (clone_us l (.slice la l.length lc) _ (HLV.out.below HB0.out hB) (by omega) (by omega))
  go_enter Tryd.func45, Tryd.ntmps45
  go_wp2_with fail
  refine HCL.out.mono ?_
  rintro e w1 ⟨g, gc, rfl, how, hb1⟩
  have hgl := (how.lt g rfl).1
  have hgw : w.heap.size + 1 ≤ g := by simp at hgl; exact hgl
  have HOW := Lib.hid (own_mono how (show w.heap.size + 1 ≤ _ by simp)); have HB1 := Lib.hid (HB0.out.trans (hb1.mono (by simp))); have K1 := Lib.hid (heap_later K0.out hb1 (by simp))
  clear how hb1 K0 HB0 HCL hgl
  go_wp2_with fail
  go_loopw [9] (fun kv wr => ∃ (k : Nat) (xs : List Nat), k ≤ 3 ∧ kv = .int .i64 k ∧ xs.length = l.length ∧ All64 xs ∧ wr.ownsRow (w.heap.size + 1) 65 1 (.slice (some ⟨g, 0, none⟩) l.length gc) l.length (natsV xs) ∧ wr.heap[w.heap.size]? = some (.cells #[bv, .slice ra p.rules.length rc] 25 (0, 0)) ∧ Below w.heap.size w wr) (fun kv _ => 3 - (intOf kv).toNat)
  case atStart => exact ⟨0, l, by omega, rfl, rfl, HL64.out, HOW.out, K1.out, HB1.out⟩
  case round =>
    clear HOW K1 HB1
    obtain ⟨k, xs, hk, rfl, hxl, hxs, how, kp, hb⟩ := hrel
    have HXL := Lib.hid hxl; have HXS := Lib.hid hxs; have HOW := Lib.hid how; have KP := Lib.hid kp; have HB := Lib.hid hb
    by_cases hk3 : k < 3
    · have c1 : wr.cell? ⟨w.heap.size, 1, none⟩ = some (.slice ra p.rules.length rc) := by rw [cell_of_row _ _ _ _ _ _ kp]; rfl
      have zw : w.heap.size < wr.heap.size := (Array.getElem?_eq_some_iff.1 kp).1
      clear hxl hxs how kp hb
      go_wp2_with fail
      clear c1 zw
      go_loopw [14] (fun jv wr => ∃ (j : Nat) (xs : List Nat), j ≤ p.rules.length ∧ jv = .int .i64 j ∧ xs.length = l.length ∧ All64 xs ∧ wr.ownsRow (w.heap.size + 1) 65 1 (.slice (some ⟨g, 0, none⟩) l.length gc) l.length (natsV xs) ∧ wr.heap[w.heap.size]? = some (.cells #[bv, .slice ra p.rules.length rc] 25 (0, 0)) ∧ Below w.heap.size w wr) (fun jv _ => p.rules.length - (intOf jv).toNat)
      case atStart => exact ⟨0, xs, Nat.zero_le _, rfl, HXL.out, HXS.out, HOW.out, KP.out, HB.out⟩
      case round =>
        clear HXL HXS HOW KP HB
        obtain ⟨j, xs, hj, rfl, hxl, hxs, how, kp, hb⟩ := hrel
        have HXL := Lib.hid hxl; have HXS := Lib.hid hxs; have HB := Lib.hid hb
        by_cases hlt : j < p.rules.length
        · obtain ⟨rb, ro, vv, hra, hrb, hvv, q0, q1, q2, q3⟩ := (HRV.out.below hb hB).cells hlt
          subst hra
          have zr : rb < wr.heap.size := by have := hb.size; omega
          obtain ⟨va, vc, rfl⟩ := hvv.slice
          have HVV := Lib.hid (hvv.mono (show B ≤ wr.heap.size by have := hb.size; omega))
          obtain ⟨r, hr⟩ : ∃ r, r = rget p.rules j := ⟨_, rfl⟩
          have hrf := HFIT.out j hlt
          have hrg := probOk_range HPO.out j hlt
          rw [← hr] at q0 q1 q2 q3 HVV hrf hrg
          have HOW := Lib.hid how; have KP := Lib.hid kp
          clear hr hvv how kp hxs hb
          go_upto_region 7 with fail
          refine abs_wp (fun Z => Z.heap[wr.heap.size]? = some (.cells #[.int .i64 r.kind, .slice va r.vars.length vc, .int .i64 r.low, .int .i64 r.high] 63 (0, 0)) ∧ Below wr.heap.size wr Z) ⟨heap_new0 _ _, Below.new1 _ _⟩ ?_
          clear q0 q1 q2 q3
          rintro W ⟨kr, hbW⟩
          have HOW2 := Lib.hid (own_ck HOW.out (CK.below hbW))
          have HBW := Lib.hid (HB.out.trans (hbW.mono HB.out.size))
          have KP := Lib.hid (heap_later KP.out hbW (Array.getElem?_eq_some_iff.1 KP.out).1)
          have hvW := HVV.out.below hbW (Nat.le_refl _)
          have r0 : W.cell? ⟨wr.heap.size, 0, none⟩ = some (.int .i64 r.kind) := by rw [cell_of_row _ _ _ _ _ _ kr]; rfl
          have r1 : W.cell? ⟨wr.heap.size, 1, none⟩ = some (.slice va r.vars.length vc) := by rw [cell_of_row _ _ _ _ _ _ kr]; rfl
          have zk : wr.heap.size < W.heap.size := (Array.getElem?_eq_some_iff.1 kr).1
          clear kr hbW HOW
          have hcell : ∀ i : Nat, i < l.length → W.cell? ⟨g, i, none⟩ = some (.int .u64 ((nget xs i : Nat) : Int)) := fun i hi => by
            have := HOW2.out.cells (g := g) rfl _ _ (natsV_get xs i (by omega)); rwa [Addr.add_lit, Nat.zero_add] at this
          have zg : g < W.heap.size := (HOW2.out.lt g rfl).2
          rcases hrf.1 with ⟨hkd, hvl⟩ | hkk
          · rw [hkd] at r0
            have k6 := Lib.hid HOW2.out
            clear hcell hvW
            go_wp2
            go_roundw
            case rel => exact ⟨j + 1, xs, by omega, by go_num, HXL.out, HXS.out, HOW2.out, KP.out, HBW.out⟩
            case measure => simp [intOf]; omega
          · have hv2 : 2 ≤ r.vars.length := by rcases hkk with ⟨_, h⟩ | ⟨_, h⟩ <;> omega
            obtain ⟨_, a', c', hae, _, _, hrow⟩ := hvW
            cases hae
            obtain ⟨vb, vo, rfl, hvb, hvc⟩ := hrow (by omega)
            have hr0 := hrg 0 (by omega)
            have hr1 := hrg 1 (by omega)
            obtain ⟨v0, hv0⟩ : ∃ v : Nat, iget r.vars 0 = v := ⟨(iget r.vars 0).toNat, by omega⟩
            obtain ⟨v1, hv1⟩ : ∃ v : Nat, iget r.vars 1 = v := ⟨(iget r.vars 1).toNat, by omega⟩
            have p0 : W.cell? ⟨vb, vo, none⟩ = some (.int .i64 (v0 : Int)) := by have h := hvc 0 (by omega); dsimp only at h; rw [hv0] at h; exact h
            have p1 : W.cell? ⟨vb, vo + 1, none⟩ = some (.int .i64 (v1 : Int)) := by have h := hvc 1 (by omega); dsimp only at h; rw [hv1] at h; exact h
            have hl0 : v0 < l.length := by have := HLL.out; omega
            have hl1 : v1 < l.length := by have := HLL.out; omega
            have x0 := hcell v0 hl0
            have x1 := hcell v1 hl1
            have hu0 := HXS.out.get v0
            have hu1 := HXS.out.get v1
            have zvb : vb < W.heap.size := by omega
            rcases hkk with ⟨hk12, hvl⟩ | ⟨hk345, hvl⟩
            · clear hcell hvc hrow hr0 hr1 hv0 hv1 hrg hrf
              rcases hk12 with hkd | hkd
              · rw [hkd] at r0
                go_wp2_with fail
                refine wp_region_qbt 15 (by kernel_rfl) (by kernel_rfl) ?_
                simp only [List.take_succ_cons, List.take_zero, List.drop_succ_cons, List.drop_zero]
                repeat go_big_quiet_step (fail)
                refine wpQuiet_nil ?_
                intro w4 hb4
                have how4 := own_ck HOW2.out (CK.below hb4)
                have k4 := heap_later KP.out hb4 (Array.getElem?_eq_some_iff.1 KP.out).1
                obtain ⟨g', gc', curg, hae, hg', hgb, -, -, -⟩ := own_some how4 (by omega)
                cases hae
                have hx4 : (natsV xs)[v1]? = some (.int .u64 ((nget xs v1 : Nat) : Int)) := natsV_get xs v1 (by omega)
                have q4 : w4.cell? ⟨g, v1, none⟩ = some (.int .u64 ((nget xs v1 : Nat) : Int)) := by have := how4.cells (g := g) rfl _ _ hx4; rwa [Addr.add_lit, Nat.zero_add] at this
                have q4f : w4.frozen? ⟨g, v1, none⟩ = false := by simp [World.frozen?, hgb]
                have zg4 : g < w4.heap.size := (Array.getElem?_eq_some_iff.1 hgb).1
                have hst := (how4.stored v1 (.int .u64 ((sOr (nget xs v1) (nget xs v0) : Nat) : Int))).1
                rw [show (natsV xs).set v1 (.int .u64 ((sOr (nget xs v1) (nget xs v0) : Nat) : Int)) = natsV (xs.set v1 (sOr (nget xs v1) (nget xs v0))) by unfold natsV; rw [List.map_set]; rfl] at hst
                have HST := Lib.hid hst
                have HX4 : Hid (All64 (xs.set v1 (sOr (nget xs v1) (nget xs v0)))) := Lib.hid fun s hs => by
                  rcases List.mem_or_eq_of_mem_set hs with h | h
                  · exact HXS.out s h
                  · rw [h]; exact (hu1.or hu0)
                have hne4 : w.heap.size ≠ g := by omega
                have HB4 := Lib.hid ((HBW.out.trans (hb4.mono HBW.out.size)).setCell (p := ⟨g, v1, none⟩) (show w.heap.size ≤ g by omega) (.int .u64 ((sOr (nget xs v1) (nget xs v0) : Nat) : Int)))
                have K4 := Lib.hid ((Below.heap_setCell w4 ⟨g, v1, none⟩ (.int .u64 ((sOr (nget xs v1) (nget xs v0) : Nat) : Int)) _ hne4).trans k4)
                clear how4 hb4 k4 hgb hx4 hst hne4
                go_wp2
                go_roundw
                case rel => exact ⟨j + 1, xs.set v1 (sOr (nget xs v1) (nget xs v0)), by omega, by go_num, by rw [List.length_set]; exact HXL.out, HX4.out, HST.out, K4.out, HB4.out⟩
                case measure => simp [intOf]; omega
              · rw [hkd] at r0
                go_wp2_with fail
                refine wp_region_qbt 15 (by kernel_rfl) (by kernel_rfl) ?_
                simp only [List.take_succ_cons, List.take_zero, List.drop_succ_cons, List.drop_zero]
                repeat go_big_quiet_step (fail)
                refine wpQuiet_nil ?_
                intro w4 hb4
                have how4 := own_ck HOW2.out (CK.below hb4)
                have k4 := heap_later KP.out hb4 (Array.getElem?_eq_some_iff.1 KP.out).1
                obtain ⟨g', gc', curg, hae, hg', hgb, -, -, -⟩ := own_some how4 (by omega)
                cases hae
                have hx4 : (natsV xs)[v1]? = some (.int .u64 ((nget xs v1 : Nat) : Int)) := natsV_get xs v1 (by omega)
                have q4 : w4.cell? ⟨g, v1, none⟩ = some (.int .u64 ((nget xs v1 : Nat) : Int)) := by have := how4.cells (g := g) rfl _ _ hx4; rwa [Addr.add_lit, Nat.zero_add] at this
                have q4f : w4.frozen? ⟨g, v1, none⟩ = false := by simp [World.frozen?, hgb]
                have zg4 : g < w4.heap.size := (Array.getElem?_eq_some_iff.1 hgb).1
                have hst := (how4.stored v1 (.int .u64 ((sDiff (nget xs v1) (nget xs v0) : Nat) : Int))).1
                rw [show (natsV xs).set v1 (.int .u64 ((sDiff (nget xs v1) (nget xs v0) : Nat) : Int)) = natsV (xs.set v1 (sDiff (nget xs v1) (nget xs v0))) by unfold natsV; rw [List.map_set]; rfl] at hst
                have HST := Lib.hid hst
                have HX4 : Hid (All64 (xs.set v1 (sDiff (nget xs v1) (nget xs v0)))) := Lib.hid fun s hs => by
                  rcases List.mem_or_eq_of_mem_set hs with h | h
                  · exact HXS.out s h
                  · rw [h]; exact hu1.diff
                have hne4 : w.heap.size ≠ g := by omega
                have HB4 := Lib.hid ((HBW.out.trans (hb4.mono HBW.out.size)).setCell (p := ⟨g, v1, none⟩) (show w.heap.size ≤ g by omega) (.int .u64 ((sDiff (nget xs v1) (nget xs v0) : Nat) : Int)))
                have K4 := Lib.hid ((Below.heap_setCell w4 ⟨g, v1, none⟩ (.int .u64 ((sDiff (nget xs v1) (nget xs v0) : Nat) : Int)) _ hne4).trans k4)
                clear how4 hb4 k4 hgb hx4 hst hne4
                go_wp2
                go_roundw
                case rel => exact ⟨j + 1, xs.set v1 (sDiff (nget xs v1) (nget xs v0)), by omega, by go_num, by rw [List.length_set]; exact HXL.out, HX4.out, HST.out, K4.out, HB4.out⟩
                case measure => simp [intOf]; omega
            · have hr2 := hrg 2 (by omega)
              obtain ⟨v2, hv2'⟩ : ∃ v : Nat, iget r.vars 2 = v := ⟨(iget r.vars 2).toNat, by omega⟩
              have p2 : W.cell? ⟨vb, vo + 2, none⟩ = some (.int .i64 (v2 : Int)) := by have h := hvc 2 (by omega); dsimp only at h; rw [hv2'] at h; exact h
              have hl2 : v2 < l.length := by have := HLL.out; omega
              have x2 := hcell v2 hl2
              clear hcell hvc hrow hr0 hr1 hr2 hv0 hv1 hv2' hrg hrf
              rcases hk345 with hkd | hkd | hkd
              · rw [hkd] at r0
                go_wp2_with fail
                refine wp_region_qbt 20 (by kernel_rfl) (by kernel_rfl) ?_
                simp only [List.take_succ_cons, List.take_zero, List.drop_succ_cons, List.drop_zero]
                repeat go_big_quiet_step (fail)
                refine wpQuiet_nil ?_
                intro w4 hb4
                have how4 := own_ck HOW2.out (CK.below hb4)
                have k4 := heap_later KP.out hb4 (Array.getElem?_eq_some_iff.1 KP.out).1
                obtain ⟨g', gc', curg, hae, hg', hgb, -, -, -⟩ := own_some how4 (by omega)
                cases hae
                have hx4 : (natsV xs)[v2]? = some (.int .u64 ((nget xs v2 : Nat) : Int)) := natsV_get xs v2 (by omega)
                have q4 : w4.cell? ⟨g, v2, none⟩ = some (.int .u64 ((nget xs v2 : Nat) : Int)) := by have := how4.cells (g := g) rfl _ _ hx4; rwa [Addr.add_lit, Nat.zero_add] at this
                have q4f : w4.frozen? ⟨g, v2, none⟩ = false := by simp [World.frozen?, hgb]
                have zg4 : g < w4.heap.size := (Array.getElem?_eq_some_iff.1 hgb).1
                have hst := (how4.stored v2 (.int .u64 ((sOr (nget xs v0) (nget xs v1) : Nat) : Int))).1
                rw [show (natsV xs).set v2 (.int .u64 ((sOr (nget xs v0) (nget xs v1) : Nat) : Int)) = natsV (xs.set v2 (sOr (nget xs v0) (nget xs v1))) by unfold natsV; rw [List.map_set]; rfl] at hst
                have HST := Lib.hid hst
                have HX4 : Hid (All64 (xs.set v2 (sOr (nget xs v0) (nget xs v1)))) := Lib.hid fun s hs => by
                  rcases List.mem_or_eq_of_mem_set hs with h | h
                  · exact HXS.out s h
                  · rw [h]; exact (hu0.or hu1)
                have hne4 : w.heap.size ≠ g := by omega
                have HB4 := Lib.hid ((HBW.out.trans (hb4.mono HBW.out.size)).setCell (p := ⟨g, v2, none⟩) (show w.heap.size ≤ g by omega) (.int .u64 ((sOr (nget xs v0) (nget xs v1) : Nat) : Int)))
                have K4 := Lib.hid ((Below.heap_setCell w4 ⟨g, v2, none⟩ (.int .u64 ((sOr (nget xs v0) (nget xs v1) : Nat) : Int)) _ hne4).trans k4)
                clear how4 hb4 k4 hgb hx4 hst hne4
                go_wp2
                go_roundw
                case rel => exact ⟨j + 1, xs.set v2 (sOr (nget xs v0) (nget xs v1)), by omega, by go_num, by rw [List.length_set]; exact HXL.out, HX4.out, HST.out, K4.out, HB4.out⟩
                case measure => simp [intOf]; omega
              · rw [hkd] at r0
                go_wp2_with fail
                refine wp_region_qbt 20 (by kernel_rfl) (by kernel_rfl) ?_
                simp only [List.take_succ_cons, List.take_zero, List.drop_succ_cons, List.drop_zero]
                repeat go_big_quiet_step (fail)
                refine wpQuiet_nil ?_
                intro w4 hb4
                have how4 := own_ck HOW2.out (CK.below hb4)
                have k4 := heap_later KP.out hb4 (Array.getElem?_eq_some_iff.1 KP.out).1
                obtain ⟨g', gc', curg, hae, hg', hgb, -, -, -⟩ := own_some how4 (by omega)
                cases hae
                have hx4 : (natsV xs)[v2]? = some (.int .u64 ((nget xs v2 : Nat) : Int)) := natsV_get xs v2 (by omega)
                have q4 : w4.cell? ⟨g, v2, none⟩ = some (.int .u64 ((nget xs v2 : Nat) : Int)) := by have := how4.cells (g := g) rfl _ _ hx4; rwa [Addr.add_lit, Nat.zero_add] at this
                have q4f : w4.frozen? ⟨g, v2, none⟩ = false := by simp [World.frozen?, hgb]
                have zg4 : g < w4.heap.size := (Array.getElem?_eq_some_iff.1 hgb).1
                have hst := (how4.stored v2 (.int .u64 ((sAnd (nget xs v0) (nget xs v1) : Nat) : Int))).1
                rw [show (natsV xs).set v2 (.int .u64 ((sAnd (nget xs v0) (nget xs v1) : Nat) : Int)) = natsV (xs.set v2 (sAnd (nget xs v0) (nget xs v1))) by unfold natsV; rw [List.map_set]; rfl] at hst
                have HST := Lib.hid hst
                have HX4 : Hid (All64 (xs.set v2 (sAnd (nget xs v0) (nget xs v1)))) := Lib.hid fun s hs => by
                  rcases List.mem_or_eq_of_mem_set hs with h | h
                  · exact HXS.out s h
                  · rw [h]; exact (hu0.and hu1)
                have hne4 : w.heap.size ≠ g := by omega
                have HB4 := Lib.hid ((HBW.out.trans (hb4.mono HBW.out.size)).setCell (p := ⟨g, v2, none⟩) (show w.heap.size ≤ g by omega) (.int .u64 ((sAnd (nget xs v0) (nget xs v1) : Nat) : Int)))
                have K4 := Lib.hid ((Below.heap_setCell w4 ⟨g, v2, none⟩ (.int .u64 ((sAnd (nget xs v0) (nget xs v1) : Nat) : Int)) _ hne4).trans k4)
                clear how4 hb4 k4 hgb hx4 hst hne4
                go_wp2
                go_roundw
                case rel => exact ⟨j + 1, xs.set v2 (sAnd (nget xs v0) (nget xs v1)), by omega, by go_num, by rw [List.length_set]; exact HXL.out, HX4.out, HST.out, K4.out, HB4.out⟩
                case measure => simp [intOf]; omega
              · rw [hkd] at r0
                go_wp2_with fail
                refine wp_region_qbt 20 (by kernel_rfl) (by kernel_rfl) ?_
                simp only [List.take_succ_cons, List.take_zero, List.drop_succ_cons, List.drop_zero]
                repeat go_big_quiet_step (fail)
                refine wpQuiet_nil ?_
                intro w4 hb4
                have how4 := own_ck HOW2.out (CK.below hb4)
                have k4 := heap_later KP.out hb4 (Array.getElem?_eq_some_iff.1 KP.out).1
                obtain ⟨g', gc', curg, hae, hg', hgb, -, -, -⟩ := own_some how4 (by omega)
                cases hae
                have hx4 : (natsV xs)[v2]? = some (.int .u64 ((nget xs v2 : Nat) : Int)) := natsV_get xs v2 (by omega)
                have q4 : w4.cell? ⟨g, v2, none⟩ = some (.int .u64 ((nget xs v2 : Nat) : Int)) := by have := how4.cells (g := g) rfl _ _ hx4; rwa [Addr.add_lit, Nat.zero_add] at this
                have q4f : w4.frozen? ⟨g, v2, none⟩ = false := by simp [World.frozen?, hgb]
                have zg4 : g < w4.heap.size := (Array.getElem?_eq_some_iff.1 hgb).1
                have hst := (how4.stored v2 (.int .u64 ((sDiff (nget xs v0) (nget xs v1) : Nat) : Int))).1
                rw [show (natsV xs).set v2 (.int .u64 ((sDiff (nget xs v0) (nget xs v1) : Nat) : Int)) = natsV (xs.set v2 (sDiff (nget xs v0) (nget xs v1))) by unfold natsV; rw [List.map_set]; rfl] at hst
                have HST := Lib.hid hst
                have HX4 : Hid (All64 (xs.set v2 (sDiff (nget xs v0) (nget xs v1)))) := Lib.hid fun s hs => by
                  rcases List.mem_or_eq_of_mem_set hs with h | h
                  · exact HXS.out s h
                  · rw [h]; exact hu0.diff
                have hne4 : w.heap.size ≠ g := by omega
                have HB4 := Lib.hid ((HBW.out.trans (hb4.mono HBW.out.size)).setCell (p := ⟨g, v2, none⟩) (show w.heap.size ≤ g by omega) (.int .u64 ((sDiff (nget xs v0) (nget xs v1) : Nat) : Int)))
                have K4 := Lib.hid ((Below.heap_setCell w4 ⟨g, v2, none⟩ (.int .u64 ((sDiff (nget xs v0) (nget xs v1) : Nat) : Int)) _ hne4).trans k4)
                clear how4 hb4 k4 hgb hx4 hst hne4
                go_wp2
                go_roundw
                case rel => exact ⟨j + 1, xs.set v2 (sDiff (nget xs v0) (nget xs v1)), by omega, by go_num, by rw [List.length_set]; exact HXL.out, HX4.out, HST.out, K4.out, HB4.out⟩
                case measure => simp [intOf]; omega
        · have hj2 : j = p.rules.length := by omega
          subst hj2
          have HOW := Lib.hid how; have KP := Lib.hid kp
          clear hxs how kp hb
          go_wp2
          go_roundw
          case rel => exact ⟨k + 1, xs, by omega, by go_num, HXL.out, HXS.out, HOW.out, KP.out, HB.out⟩
          case measure => simp [intOf]; omega
    · have hk2 : k = 3 := by omega
      subst hk2
      clear hxs how kp hb
      go_wp2
      go_ret
      exact ⟨_, xs, rfl, by rw [HXL.out]; exact HLL.out, HXS.out, by rw [← HLL.out]; exact own_mono HOW.out (Nat.le_succ _), HB.out⟩
end Go.Proofs.YtilbbnjfaoldoaaDoor
