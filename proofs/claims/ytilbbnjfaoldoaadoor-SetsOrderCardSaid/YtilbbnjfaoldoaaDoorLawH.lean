/- The law SetsOrder, walked. -/
import Derived.Test.YtilbbnjfaoldoaaDoorPlainK
import Derived.Test.YtilbbnjfaoldoaaDoorInsert
import Derived.Test.YtilbbnjfaoldoaaDoorSoundC
namespace Go.Proofs.YtilbbnjfaoldoaaDoor
open Go Go.RowKit
attribute [local go_sem] cell_grow u64_sAnd u64_sOr u64_sDiff sDiff_all zeqI zneI sAnd_bit_zero sAnd_bit_zeroN sAnd_bit_nonzero rowOf_grow rowOk_grow rowOf_alloc rowOk_alloc

set_option maxRecDepth 100000 in
set_option maxHeartbeats 8000000 in
theorem setsOrder_any (p : Prob) (by_ : List Nat) (bv rv yv : Value) (w : World) {B : Nat} (hbv : Bnds w B bv p.bounds) (hrv : Rls w B rv p.rules) (hyv : Us w B yv by_) (hB0 : 0 < B) (hB : B ≤ w.heap.size) (hub : U64s p.bounds) (huy : All64 by_) (hT : Tab w) :
    Gives Tryd.prog 11 #[.agg #[bv, rv], yv] w (.bool true) := by
  unfold Gives
  have HBV := Lib.hid hbv; have HRV := Lib.hid hrv; have HYV := Lib.hid hyv; have HT := Lib.hid hT; have HUB := Lib.hid hub; have HUY := Lib.hid huy
  have hw0 : 0 < w.heap.size := by omega
  obtain ⟨ba, bc, rfl⟩ := hbv.slice
  obtain ⟨ra, rc, rfl⟩ := hrv.slice
  obtain ⟨ya, yc, rfl⟩ := hyv.slice
  clear hbv hrv hyv hT hub huy
  have K0 := Lib.hid (heap_new0 w (.cells #[.slice ba p.bounds.length bc, .slice ra p.rules.length rc] 25)); have HB0 := Lib.hid (Below.new1 w (.cells #[.slice ba p.bounds.length bc, .slice ra p.rules.length rc] 25))
  go_enter Tryd.func11, Tryd.ntmps11
  go_wp2_with fail
  refine (fine_any p _ _ _ (HBV.out.below HB0.out hB) (HRV.out.below HB0.out hB) (by simp; omega) HUB.out).mono ?_
  rintro e w1 ⟨rfl, hb1⟩
  have HB1 := Lib.hid (HB0.out.trans (hb1.mono (by simp))); have K1 := Lib.hid (heap_later K0.out hb1 (by simp))
  clear hb1 K0 HB0
  have z1 : w.heap.size < w1.heap.size := (Array.getElem?_eq_some_iff.1 K1.out).1
  cases hfi : smallOk p && probOk p
  case false =>
    clear hfi
    go_wp2_with fail
    refine (works_any _ (HT.out.below HB1.out hw0) (by have := HB1.out.size; omega)).mono ?_
    rintro e1 w9 ⟨rfl, hb9⟩
    have HF := Lib.hid (HB1.out.trans (hb9.mono HB1.out.size))
    clear hb9
    go_wp2
    go_ret
    exact ⟨rfl, HF.out⟩
  case true =>
    have hpo : probOk p = true := by rw [Bool.and_eq_true] at hfi; exact hfi.2
    have HPO := Lib.hid hpo
    have hn1 := (probOk_fit hpo).1
    have hn8 := (probOk_fit hpo).2.1
    have hr12 := (probOk_fit hpo).2.2.1
    clear hfi hpo
    have c0 : w1.cell? ⟨w.heap.size, 0, none⟩ = some (.slice ba p.bounds.length bc) := by rw [cell_of_row _ _ _ _ _ _ K1.out]; rfl
    have c1 : w1.cell? ⟨w.heap.size, 1, none⟩ = some (.slice ra p.rules.length rc) := by rw [cell_of_row _ _ _ _ _ _ K1.out]; rfl
    go_upto_region 4 with fail
    refine abs_wp (fun Z => Z.heap[w1.heap.size]? = some (.cells #[.slice ba p.bounds.length bc, .slice none 0 0] 25 (0, 0)) ∧ Below w1.heap.size w1 Z) ⟨heap_new0 _ _, Below.new1 _ _⟩ ?_
    clear c0 c1
    rintro W ⟨kq, hbq⟩
    have KQ := Lib.hid kq
    have HBW := Lib.hid (HB1.out.trans (hbq.mono HB1.out.size)); have KW := Lib.hid (heap_later K1.out hbq z1)
    have zq : w1.heap.size < W.heap.size := (Array.getElem?_eq_some_iff.1 kq).1
    clear kq hbq
    have c0 : W.cell? ⟨w.heap.size, 0, none⟩ = some (.slice ba p.bounds.length bc) := by rw [cell_of_row _ _ _ _ _ _ KW.out]; rfl
    have c1 : W.cell? ⟨w.heap.size, 1, none⟩ = some (.slice ra p.rules.length rc) := by rw [cell_of_row _ _ _ _ _ _ KW.out]; rfl
    obtain ⟨cR, hcRow, hcR⟩ := HRV.out
    have HCROW := Lib.hid hcRow; have HCR := Lib.hid hcR
    clear hcRow hcR
    go_wp2_with fail
    clear c0 c1
    go_loopw [31] (fun iv wr => ∃ (i : Nat) (ns : List Nat) (v : Value), i ≤ p.rules.length ∧ iv = .int .i64 i ∧ ns.length = i ∧ (∀ x, x ∈ ns ↔ x < i) ∧ wr.heap[w1.heap.size]? = some (.cells #[.slice ba p.bounds.length bc, v] 25 (0, 0)) ∧ wr.heap[w.heap.size]? = some (.cells #[.slice ba p.bounds.length bc, .slice ra p.rules.length rc] 25 (0, 0)) ∧ W.heap.size ≤ wr.heap.size ∧ wr.ownsRow W.heap.size 63 4 v i (rCells cR ns) ∧ Below w.heap.size w wr) (fun iv _ => p.rules.length - (intOf iv).toNat)
    case atStart => exact ⟨0, [], .slice none 0 0, Nat.zero_le _, rfl, rfl, fun x => by simp, KQ.out, KW.out, Nat.le_refl _, World.ownsRow_nil _ _ _ _, HBW.out⟩
    case round =>
      clear KQ KW HBW
      obtain ⟨i, ns, v, hi, rfl, hnl, hns, kq, kp, hsz, how, hb⟩ := hrel
      have HNL := Lib.hid hnl; have HNS := Lib.hid hns; have KQ := Lib.hid kq; have KP := Lib.hid kp; have HOW := Lib.hid how; have HB := Lib.hid hb
      by_cases hlt : i < p.rules.length
      · obtain ⟨_, a', c', hae, _, _, hrow⟩ := HCROW.out.below hb hB
        cases hae
        obtain ⟨rb, ro, rfl, hrb, hcell⟩ := hrow (by omega)
        obtain ⟨hc0, hcv, hc2, hc3⟩ := HCR.out i hlt
        obtain ⟨va, vc, hc1⟩ := hcv.slice
        have q0 : wr.cell? ⟨rb, ro + i * 4, none⟩ = some (.int .i64 (rget p.rules i).kind) := by rw [hcell _ (by omega), hc0]
        have q1 : wr.cell? ⟨rb, ro + i * 4 + 1, none⟩ = some (.slice va (rget p.rules i).vars.length vc) := by rw [← hc1]; exact hcell (i * 4 + 1) (by omega)
        have q2 : wr.cell? ⟨rb, ro + i * 4 + 2, none⟩ = some (.int .i64 (rget p.rules i).low) := by rw [← hc2]; exact hcell (i * 4 + 2) (by omega)
        have q3 : wr.cell? ⟨rb, ro + i * 4 + 3, none⟩ = some (.int .i64 (rget p.rules i).high) := by rw [← hc3]; exact hcell (i * 4 + 3) (by omega)
        have HC : Hid ([cR (i * 4), cR (i * 4 + 1), cR (i * 4 + 2), cR (i * 4 + 3)] = [.int .i64 (rget p.rules i).kind, .slice va (rget p.rules i).vars.length vc, .int .i64 (rget p.rules i).low, .int .i64 (rget p.rules i).high]) := Lib.hid (by rw [hc0, hc1, hc2, hc3])
        have zr : rb < wr.heap.size := by have := hb.size; omega
        obtain ⟨r, hr⟩ : ∃ r, r = rget p.rules i := ⟨_, rfl⟩
        rw [← hr] at q0 q1 q2 q3 HC
        obtain ⟨wo, rfl⟩ : ∃ wo : World, wo = wr := ⟨_, rfl⟩
        clear hnl hns kq kp how hb hcell hc0 hc1 hc2 hc3 hcv hrow hr
        go_upto_region 7 with fail
        refine abs_wp (fun Z => Z.heap[wo.heap.size]? = some (.cells #[.int .i64 r.kind, .slice va r.vars.length vc, .int .i64 r.low, .int .i64 r.high] 63 (0, 0)) ∧ Below wo.heap.size wo Z) ⟨heap_new0 _ _, Below.new1 _ _⟩ ?_
        clear q0 q1 q2 q3 zr
        rintro R ⟨kr, hbr⟩
        have KR := Lib.hid kr
        have zk : wo.heap.size < R.heap.size := (Array.getElem?_eq_some_iff.1 kr).1
        have HBR := Lib.hid (HB.out.trans (hbr.mono HB.out.size))
        have KQR := Lib.hid (heap_later KQ.out hbr (Array.getElem?_eq_some_iff.1 KQ.out).1)
        have KPR := Lib.hid (heap_later KP.out hbr (Array.getElem?_eq_some_iff.1 KP.out).1)
        have HOWR := Lib.hid (own_ck HOW.out (CK.below hbr))
        have hszR : W.heap.size ≤ R.heap.size := Nat.le_trans hsz hbr.size
        have r0 : R.cell? ⟨wo.heap.size, 0, none⟩ = some (.int .i64 r.kind) := by rw [cell_of_row _ _ _ _ _ _ kr]; rfl
        have r1 : R.cell? ⟨wo.heap.size, 1, none⟩ = some (.slice va r.vars.length vc) := by rw [cell_of_row _ _ _ _ _ _ kr]; rfl
        have r2 : R.cell? ⟨wo.heap.size, 2, none⟩ = some (.int .i64 r.low) := by rw [cell_of_row _ _ _ _ _ _ kr]; rfl
        have r3 : R.cell? ⟨wo.heap.size, 3, none⟩ = some (.int .i64 r.high) := by rw [cell_of_row _ _ _ _ _ _ kr]; rfl
        obtain ⟨fa, fc, rfl⟩ := own_form HOWR.out
        have t0 : R.cell? ⟨w1.heap.size, 1, none⟩ = some (.slice fa i fc) := by rw [cell_of_row _ _ _ _ _ _ KQR.out]; rfl
        clear kr hbr KQ KP HOW HB hsz
        have hOne : ∀ u ∈ rCells cR ns, u.oneCell' = true := fun u hu => by
          obtain ⟨x, hx, hu⟩ := List.mem_flatMap.1 hu
          obtain ⟨hc0, hcv, hc2, hc3⟩ := HCR.out x (by have := (HNS.out x).1 hx; omega)
          obtain ⟨a2, c2, hc1⟩ := hcv.slice
          simp only [List.mem_cons, List.not_mem_nil, or_false] at hu
          rcases hu with rfl | rfl | rfl | rfl
          · rw [hc0]; rfl
          · rw [hc1]; rfl
          · rw [hc2]; rfl
          · rw [hc3]; rfl
        by_cases hby : 0 < by_.length
        · obtain ⟨_, a', c', hae, _, _, hrow⟩ := HYV.out.below HBR.out hB
          cases hae
          obtain ⟨yb, yo, rfl, hyb, hyc⟩ := hrow hby
          have y0 : R.cell? ⟨yb, yo + i % by_.length, none⟩ = some (.int .u64 ((nget by_ (i % by_.length) : Nat) : Int)) := hyc _ (by have := Nat.mod_lt i hby; omega)
          have hy64 := HUY.out.get (i % by_.length)
          have zy : yb < R.heap.size := by have := HBR.out.size; omega
          have hbyi : (0 : Int) < ((by_.length : Nat) : Int) := by omega
          obtain ⟨k, hk⟩ : ∃ k : Nat, k = nget by_ (i % by_.length) % (i + 1) := ⟨_, rfl⟩
          have hki : k ≤ i := by have := Nat.mod_lt (nget by_ (i % by_.length)) (show 0 < i + 1 by omega); omega
          have hwr : wrap64 (((nget by_ (i % by_.length) : Nat) : Int) % ((i : Int) + 1)) = (k : Int) := by
            rw [show ((nget by_ (i % by_.length) : Nat) : Int) % ((i : Int) + 1) = (k : Int) by rw [hk, Int.natCast_emod, Int.natCast_add]; rfl]
            unfold wrap64; omega
          have hm0 : (0 : Int) ≤ (i : Int) % ((by_.length : Nat) : Int) := Int.emod_nonneg _ (by omega)
          have hm1 : (i : Int) % ((by_.length : Nat) : Int) < ((by_.length : Nat) : Int) := Int.emod_lt_of_pos _ hbyi
          clear hrow hyc hk
          go_wp2_with fail
          clear hm0 hm1 hwr y0 hy64 zy r0 r1 r2 r3
          have hown : (R.alloc (.cells #[.int .i64 r.kind, .slice va r.vars.length vc, .int .i64 r.low, .int .i64 r.high] 63)).ownsRow W.heap.size 63 4 (.slice fa i fc) i (rCells cR ns) := HOWR.out.alloc _
          have hv4 : (R.alloc (.cells #[.int .i64 r.kind, .slice va r.vars.length vc, .int .i64 r.low, .int .i64 r.high] 63)).heap[R.heap.size]? = some (.cells ([cR (i * 4), cR (i * 4 + 1), cR (i * 4 + 2), cR (i * 4 + 3)] : List Value).toArray 63 (0, 0)) := by rw [HC.out]; exact heap_new0 _ _
          refine (insert_rules (.slice fa i fc) i k R.heap.size W.heap.size (rCells cR ns) [cR (i * 4), cR (i * 4 + 1), cR (i * 4 + 2), cR (i * 4 + 3)] _ hown (by simp; omega) (by omega) (by omega) (fun q hq => by have := (HOWR.out.lt q hq).2; omega) hv4 rfl (by rw [HC.out]; intro u hu; simp only [List.mem_cons, List.not_mem_nil, or_false] at hu; rcases hu with rfl | rfl | rfl | rfl <;> rfl) hOne).mono ?_
          rintro e w5 ⟨v', rfl, ho5, hb5⟩
          rw [rCells_put] at ho5
          obtain ⟨ga, gc, rfl⟩ := own_form ho5
          have hbn := Below.new1 R (.cells #[.int .i64 r.kind, .slice va r.vars.length vc, .int .i64 r.low, .int .i64 r.high] 63)
          have HB5 := Lib.hid ((HBR.out.trans (hbn.mono HBR.out.size)).trans (hb5.mono (by omega)))
          have kq5 := heap_later (heap_later KQR.out hbn (by omega)) hb5 zq
          have kp5 := heap_later (heap_later KPR.out hbn (by omega)) hb5 (by omega)
          have hz5 : W.heap.size ≤ w5.heap.size := by have := hb5.size; simp at this; omega
          have t0 : w5.cell? ⟨w1.heap.size, 1, none⟩ = some (.slice fa i fc) := by rw [cell_of_row _ _ _ _ _ _ kq5]; rfl
          have t0f : w5.frozen? ⟨w1.heap.size, 1, none⟩ = false := by simp [World.frozen?, kq5]
          have hne1 : w.heap.size ≠ w1.heap.size := by omega
          have KQ6 := Lib.hid (heap_setCell_same w5 w1.heap.size 1 _ _ (.slice ga (i + 1) gc) kq5)
          have KP6 := Lib.hid ((Below.heap_setCell w5 ⟨w1.heap.size, 1, none⟩ (.slice ga (i + 1) gc) w.heap.size hne1).trans kp5)
          have HO6 := Lib.hid (own_low (w' := w5.setCell ⟨w1.heap.size, 1, none⟩ (.slice ga (i + 1) gc)) ho5 (fun k c t f hk e => (Below.heap_setCell _ _ _ _ (show k ≠ w1.heap.size by omega)).trans e))
          have HB6 := Lib.hid (HB5.out.setCell (p := ⟨w1.heap.size, 1, none⟩) (show w.heap.size ≤ w1.heap.size by omega) (.slice ga (i + 1) gc))
          have HNS6 : Hid (∀ x, x ∈ putAt ns k i ↔ x < i + 1) := Lib.hid fun x => by rw [mem_putAt, HNS.out]; omega
          clear hown hv4 ho5 hb5 hbn kq5 kp5
          go_wp2
          go_roundw
          case rel => exact ⟨i + 1, putAt ns k i, .slice ga (i + 1) gc, by omega, by go_num, by rw [putAt_length, HNL.out], HNS6.out, KQ6.out, KP6.out, (by show W.heap.size ≤ (w5.setCell _ _).heap.size; simpa [World.setCell] using hz5), HO6.out, HB6.out⟩
          case measure => simp [intOf]; omega
        · have hby0 : ¬ (0 : Int) < ((by_.length : Nat) : Int) := by omega
          go_wp2_with fail
          clear r0 r1 r2 r3
          have hown : (R.alloc (.cells #[.int .i64 r.kind, .slice va r.vars.length vc, .int .i64 r.low, .int .i64 r.high] 63)).ownsRow W.heap.size 63 4 (.slice fa i fc) i (rCells cR ns) := HOWR.out.alloc _
          have hv4 : (R.alloc (.cells #[.int .i64 r.kind, .slice va r.vars.length vc, .int .i64 r.low, .int .i64 r.high] 63)).heap[R.heap.size]? = some (.cells ([cR (i * 4), cR (i * 4 + 1), cR (i * 4 + 2), cR (i * 4 + 3)] : List Value).toArray 63 (0, 0)) := by rw [HC.out]; exact heap_new0 _ _
          refine (insert_rules (.slice fa i fc) i 0 R.heap.size W.heap.size (rCells cR ns) [cR (i * 4), cR (i * 4 + 1), cR (i * 4 + 2), cR (i * 4 + 3)] _ hown (by simp; omega) (by omega) (by omega) (fun q hq => by have := (HOWR.out.lt q hq).2; omega) hv4 rfl (by rw [HC.out]; intro u hu; simp only [List.mem_cons, List.not_mem_nil, or_false] at hu; rcases hu with rfl | rfl | rfl | rfl <;> rfl) hOne).mono ?_
          rintro e w5 ⟨v', rfl, ho5, hb5⟩
          rw [rCells_put] at ho5
          obtain ⟨ga, gc, rfl⟩ := own_form ho5
          have hbn := Below.new1 R (.cells #[.int .i64 r.kind, .slice va r.vars.length vc, .int .i64 r.low, .int .i64 r.high] 63)
          have HB5 := Lib.hid ((HBR.out.trans (hbn.mono HBR.out.size)).trans (hb5.mono (by omega)))
          have kq5 := heap_later (heap_later KQR.out hbn (by omega)) hb5 zq
          have kp5 := heap_later (heap_later KPR.out hbn (by omega)) hb5 (by omega)
          have hz5 : W.heap.size ≤ w5.heap.size := by have := hb5.size; simp at this; omega
          have t0 : w5.cell? ⟨w1.heap.size, 1, none⟩ = some (.slice fa i fc) := by rw [cell_of_row _ _ _ _ _ _ kq5]; rfl
          have t0f : w5.frozen? ⟨w1.heap.size, 1, none⟩ = false := by simp [World.frozen?, kq5]
          have hne1 : w.heap.size ≠ w1.heap.size := by omega
          have KQ6 := Lib.hid (heap_setCell_same w5 w1.heap.size 1 _ _ (.slice ga (i + 1) gc) kq5)
          have KP6 := Lib.hid ((Below.heap_setCell w5 ⟨w1.heap.size, 1, none⟩ (.slice ga (i + 1) gc) w.heap.size hne1).trans kp5)
          have HO6 := Lib.hid (own_low (w' := w5.setCell ⟨w1.heap.size, 1, none⟩ (.slice ga (i + 1) gc)) ho5 (fun k c t f hk e => (Below.heap_setCell _ _ _ _ (show k ≠ w1.heap.size by omega)).trans e))
          have HB6 := Lib.hid (HB5.out.setCell (p := ⟨w1.heap.size, 1, none⟩) (show w.heap.size ≤ w1.heap.size by omega) (.slice ga (i + 1) gc))
          have HNS6 : Hid (∀ x, x ∈ putAt ns 0 i ↔ x < i + 1) := Lib.hid fun x => by rw [mem_putAt, HNS.out]; omega
          clear hown hv4 ho5 hb5 hbn kq5 kp5
          go_wp2
          go_roundw
          case rel => exact ⟨i + 1, putAt ns 0 i, .slice ga (i + 1) gc, by omega, by go_num, by rw [putAt_length, HNL.out], HNS6.out, KQ6.out, KP6.out, (by show W.heap.size ≤ (w5.setCell _ _).heap.size; simpa [World.setCell] using hz5), HO6.out, HB6.out⟩
          case measure => simp [intOf]; omega
      · have hi2 : i = p.rules.length := by omega
        subst hi2
        have hperm : Perm p ns := ⟨hnl, fun x hx => (hns x).1 hx, fun x hx => (hns x).2 hx⟩
        have HPERM := Lib.hid hperm
        obtain ⟨q, hq⟩ : ∃ q, q = pick p ns := ⟨_, rfl⟩
        have hqo := perm_ok HPO.out hperm
        have hqb : q.bounds = p.bounds := by rw [hq]; rfl
        have hql : q.rules.length = p.rules.length := by rw [hq]; show (ns.map _).length = _; rw [List.length_map]; exact hnl
        have hro : ROwn wr B W.heap.size v q.rules := by
          refine ⟨rCells cR ns, by rw [hql]; exact how, fun i hi => ?_⟩
          have hin : i < ns.length := by omega
          obtain ⟨e0, e1, e2, e3⟩ := HCR.out ns[i] ((hns _).1 (List.getElem_mem hin))
          have eq : rget q.rules i = rget p.rules ns[i] := by rw [hq]; exact pick_get hin
          rw [eq]
          have g0 := rCells_get cR ns i hin 0 (by omega)
          have g1 := rCells_get cR ns i hin 1 (by omega)
          have g2 := rCells_get cR ns i hin 2 (by omega)
          have g3 := rCells_get cR ns i hin 3 (by omega)
          rw [Nat.add_zero, Nat.add_zero, e0] at g0
          rw [e2] at g2
          rw [e3] at g3
          exact ⟨g0, g2, g3, _, g1, e1.below hb hB⟩
        have hrls : Rls wr wr.heap.size v q.rules := hro.rls (by have := hb.size; omega) (by omega) rfl
        rw [← hq] at hqo
        have HQO := Lib.hid hqo; have HQB := Lib.hid hqb; have HQL := Lib.hid hql; have HRLS := Lib.hid hrls; have HQ := Lib.hid hq
        obtain ⟨va, vc, rfl⟩ := own_form how
        clear hperm hqo hqb hql hro hrls hnl hns kq kp how hb hq
        have zw := HB.out.size
        have c0 : wr.cell? ⟨w.heap.size, 0, none⟩ = some (.slice ba p.bounds.length bc) := by rw [cell_of_row _ _ _ _ _ _ KP.out]; rfl
        have c1 : wr.cell? ⟨w.heap.size, 1, none⟩ = some (.slice ra p.rules.length rc) := by rw [cell_of_row _ _ _ _ _ _ KP.out]; rfl
        have hpy := propagate_yes p _ _ wr (HBV.out.below HB.out hB) (HRV.out.below HB.out hB) hB0 (by omega) HUB.out (HT.out.below HB.out hw0) HPO.out
        obtain ⟨fin, hfin⟩ : ∃ fin, fin = (propR p).1.1.take p.bounds.length := ⟨_, rfl⟩
        obtain ⟨n, hn⟩ : ∃ n, n = (propR p).2 := ⟨_, rfl⟩
        obtain ⟨fs, hfs⟩ : ∃ fs, fs = (propR p).1.2 := ⟨_, rfl⟩
        rw [← hfs, ← hn, ← hfin] at hpy
        have HPY := Lib.hid hpy; have HFIN := Lib.hid hfin; have HN := Lib.hid hn
        clear hpy hfin hn hfs
        go_wp2_with fail
        refine HPY.out.mono ?_
        rintro e w4 ⟨a4, l4, rfl, hpb4, hpl4, hb4⟩
        have z4 := hb4.size
        have HB4 := Lib.hid (HB.out.trans (hb4.mono zw)); have HB14 := Lib.hid hb4
        have zqr : w1.heap.size < wr.heap.size := (Array.getElem?_eq_some_iff.1 KQ.out).1
        have KP4 := Lib.hid (heap_later KP.out hb4 (by omega)); have KQ4 := Lib.hid (heap_later KQ.out hb4 zqr)
        have hsa := (sound_at HPO.out).1
        rw [← HFIN.out] at hsa
        have HFL := Lib.hid hsa.len; have HUF := Lib.hid hsa.s12.u64
        obtain ⟨xa, xc, rfl⟩ : ∃ a c, a4 = .slice a p.bounds.length c := by rw [← hsa.len]; exact hpb4.slice
        obtain ⟨la, lc, rfl⟩ := hpl4.slice
        have HPB4 := Lib.hid hpb4
        clear hb4 c0 c1 hpb4 hpl4 HPY hsa
        have c0 : w4.cell? ⟨w1.heap.size, 0, none⟩ = some (.slice ba p.bounds.length bc) := by rw [cell_of_row _ _ _ _ _ _ KQ4.out]; rfl
        have c1 : w4.cell? ⟨w1.heap.size, 1, none⟩ = some (.slice va p.rules.length vc) := by rw [cell_of_row _ _ _ _ _ _ KQ4.out]; rfl
        have hpy := propagate_yes q (.slice ba p.bounds.length bc) (.slice va p.rules.length vc) w4 (B := w4.heap.size) (by rw [HQB.out]; exact (HBV.out.below HB4.out hB).mono (by omega)) ((HRLS.out.below HB14.out (Nat.le_refl _)).mono z4) (by omega) (Nat.le_refl _) (by rw [HQB.out]; exact HUB.out) (HT.out.below HB4.out hw0) HQO.out
        rw [HQB.out] at hpy
        obtain ⟨fiq, hfiq⟩ : ∃ fin, fin = (propR q).1.1.take p.bounds.length := ⟨_, rfl⟩
        obtain ⟨m, hm⟩ : ∃ n, n = (propR q).2 := ⟨_, rfl⟩
        obtain ⟨gs, hgs⟩ : ∃ fs, fs = (propR q).1.2 := ⟨_, rfl⟩
        rw [← hgs, ← hm, ← hfiq] at hpy
        have HPY := Lib.hid hpy
        have hpc := prop_cases HPO.out
        rw [← HN.out] at hpc
        have hcase : (n = -1 ∧ m = -1 ∧ fiq = fin) ∨ (0 ≤ n ∧ 0 ≤ m) := by
          by_cases h1 : n = -1
          · have h := order_eq HPO.out HPERM.out (by rw [← HN.out]; exact h1)
            rw [← HQ.out] at h
            exact .inl ⟨h1, by rw [hm]; exact h.1, by rw [hfiq, HFIN.out, h.2.1]⟩
          · have h := order_bad HPO.out HPERM.out (by rw [← HN.out]; exact h1)
            rw [← HQ.out] at h
            refine .inr ⟨by rcases hpc with h | ⟨j, h, _⟩ <;> omega, ?_⟩
            rcases prop_cases HQO.out with h2 | ⟨j, h2, _⟩
            · exact absurd h2 h
            · omega
        clear hpy hfiq hm hgs hpc
        go_wp2_with fail
        refine HPY.out.mono ?_
        rintro e w5 ⟨a5, l5, rfl, hpb5, hpl5, hb5⟩
        have HB5 := Lib.hid (HB4.out.trans (hb5.mono HB4.out.size)); have HB45 := Lib.hid hb5
        have z5 := hb5.size
        have KP5 := Lib.hid (heap_later KP4.out hb5 (by omega)); have KQ5 := Lib.hid (heap_later KQ4.out hb5 (by omega))
        clear c0 c1 HPY
        obtain ⟨ma, mc, rfl⟩ := hpl5.slice
        rcases hcase with ⟨h1, h2, rfl⟩ | ⟨h1, h2⟩
        · have h1' : ¬ (0 : Int) ≤ n := by omega
          have h2' : ¬ (0 : Int) ≤ m := by omega
          obtain ⟨ya', yc', rfl⟩ : ∃ a c, a5 = .slice a p.bounds.length c := by rw [← HFL.out]; exact hpb5.slice
          have HPB5 := Lib.hid hpb5; have HN1 := Lib.hid h1
          have HPB45 := Lib.hid ((HPB4.out.below HB45.out (Nat.le_refl _)).mono z5)
          clear hpb5 hpl5 hb5 h1 h2
          have hx : (!decide ((0 : Int) ≤ n) == decide ((0 : Int) ≤ m)) = false := by rw [decide_eq_false h1', decide_eq_false h2']; rfl
          have hsame : sameB fiq fiq = true := by unfold sameB; simp
          have HEQ := equalB_any fiq fiq (.slice xa p.bounds.length xc) (.slice ya' p.bounds.length yc') w5 HPB45.out HPB5.out (Nat.le_refl _)
          rw [hsame] at HEQ
          have HEQ := Lib.hid HEQ
          clear hsame
          have c0 : w5.cell? ⟨w.heap.size, 0, none⟩ = some (.slice ba p.bounds.length bc) := by rw [cell_of_row _ _ _ _ _ _ KP5.out]; rfl
          have c1 : w5.cell? ⟨w.heap.size, 1, none⟩ = some (.slice ra p.rules.length rc) := by rw [cell_of_row _ _ _ _ _ _ KP5.out]; rfl
          go_wp2_with fail
          refine HEQ.out.mono ?_
          rintro e w6 ⟨rfl, hb6⟩
          have HB6 := Lib.hid (HB5.out.trans (hb6.mono HB5.out.size)); have HB46 := Lib.hid (HB45.out.trans (hb6.mono z5))
          have KQ6 := Lib.hid (heap_later KQ5.out hb6 (by omega))
          clear c0 c1 hb6 HEQ hx
          have z6 := HB46.out.size
          have HPB46 := Lib.hid ((HPB4.out.below HB46.out (Nat.le_refl _)).mono z6)
          have HRL6 := Lib.hid ((HRLS.out.below (HB14.out.trans (HB46.out.mono z4)) (Nat.le_refl _)).mono (show wr.heap.size ≤ w6.heap.size by omega))
          have c0 : w6.cell? ⟨w1.heap.size, 0, none⟩ = some (.slice ba p.bounds.length bc) := by rw [cell_of_row _ _ _ _ _ _ KQ6.out]; rfl
          have c1 : w6.cell? ⟨w1.heap.size, 1, none⟩ = some (.slice va p.rules.length vc) := by rw [cell_of_row _ _ _ _ _ _ KQ6.out]; rfl
          have ho := order_eq HPO.out HPERM.out (by rw [← HN.out]; exact HN1.out)
          rw [← HQ.out, ← HFIN.out] at ho
          have hpy := propagate_yes ⟨fiq, q.rules⟩ (.slice xa p.bounds.length xc) (.slice va p.rules.length vc) w6 (B := w6.heap.size) HPB46.out HRL6.out (by omega) (Nat.le_refl _) HUF.out (HT.out.below HB6.out hw0) ho.2.2.1
          rw [ho.2.2.2] at hpy
          simp only [HFL.out] at hpy
          rw [← HFIN.out] at hpy
          have HPY := Lib.hid hpy
          clear hpy ho
          go_wp2_with fail
          refine HPY.out.mono ?_
          rintro e w7 ⟨a7, l7, rfl, hpb7, hpl7, hb7⟩
          obtain ⟨pa, pc, rfl⟩ : ∃ a c, a7 = .slice a p.bounds.length c := by rw [← HFL.out]; exact hpb7.slice
          obtain ⟨na, nc, rfl⟩ : ∃ a c, l7 = .slice a 0 c := hpl7.slice
          have hsame : sameB fiq fiq = true := by unfold sameB; simp
          have hz7 := hb7.size
          have HEQ := equalB_any fiq fiq (.slice xa p.bounds.length xc) (.slice pa p.bounds.length pc) w7 ((HPB46.out.below hb7 (Nat.le_refl _)).mono hz7) hpb7 (Nat.le_refl _)
          rw [hsame] at HEQ
          have HEQ := Lib.hid HEQ
          have HB7 := Lib.hid (HB6.out.trans (hb7.mono HB6.out.size))
          clear hsame hpb7 hpl7 hb7 c0 c1 HPY
          go_wp2_with fail
          refine HEQ.out.mono ?_
          rintro e w8 ⟨rfl, hb8⟩
          have HB8 := Lib.hid (HB7.out.trans (hb8.mono HB7.out.size))
          clear hb8 HEQ
          go_wp2_with fail
          refine (works_any _ (HT.out.below HB8.out hw0) (by have := HB8.out.size; omega)).mono ?_
          rintro e1 w9 ⟨rfl, hb9⟩
          have HF := Lib.hid (HB8.out.trans (hb9.mono HB8.out.size))
          clear hb9
          go_wp2
          go_ret
          exact ⟨rfl, HF.out⟩
        · obtain ⟨ya', yn', yc', rfl⟩ : ∃ a n c, a5 = .slice a n c := by obtain ⟨a, c, h⟩ := hpb5.slice; exact ⟨a, _, c, h⟩
          clear hpb5 hpl5 hb5
          have hx : (!decide ((0 : Int) ≤ n) == decide ((0 : Int) ≤ m)) = false := by rw [decide_eq_true h1, decide_eq_true h2]; rfl
          go_wp2_with fail
          refine (works_any _ (HT.out.below HB5.out hw0) (by have := HB5.out.size; omega)).mono ?_
          rintro e1 w9 ⟨rfl, hb9⟩
          have HF := Lib.hid (HB5.out.trans (hb9.mono HB5.out.size))
          clear hb9
          go_wp2
          go_ret
          exact ⟨rfl, HF.out⟩
end Go.Proofs.YtilbbnjfaoldoaaDoor
