/- The law DomainOrder, walked. -/
import Derived.Test.YtdmmegmkdhinjaaDoorPlainY
import Derived.Test.YtdmmegmkdhinjaaDoorDInsert
import Derived.Test.YtdmmegmkdhinjaaDoorFine
import Derived.Test.YtdmmegmkdhinjaaDoorSlEq
import Derived.Test.YtdmmegmkdhinjaaDoorBO
namespace Go.Proofs.YtdmmegmkdhinjaaDoor
open Go Go.RowKit
attribute [local go_sem] cell_grow u64_sAnd u64_sOr u64_sDiff sDiff_all zeqI zneI sAnd_bit_zero sAnd_bit_zeroN sAnd_bit_nonzero

/-- Bytes. -/
def U8s (w : World) (B : Nat) (v : Value) (xs : List Nat) : Prop := Row w B 1 v xs.length (fun i => .int .u8 (nget xs i : Nat)) ∧ ∀ i, nget xs i < 256
theorem U8s.below {w w' : World} {B : Nat} {v : Value} {xs : List Nat} (h : U8s w B v xs) {B' : Nat} (hb : Below B' w w') (hB : B ≤ B') : U8s w' B v xs := ⟨h.1.below hb hB, h.2⟩
theorem U8s.slice {w : World} {B : Nat} {v : Value} {xs : List Nat} (h : U8s w B v xs) : ∃ a c, v = .slice a xs.length c := by obtain ⟨⟨_, a, cap, rfl, _⟩, _⟩ := h; exact ⟨_, _, rfl⟩
theorem heap_setCell_same (w : World) (b o : Nat) (c : Array Value) (t : TypeId) (v : Value) (h : w.heap[b]? = some (.cells c t (0, 0))) : (w.setCell ⟨b, o, none⟩ v).heap[b]? = some (.cells (c.setIfInBounds o v) t (0, 0)) := set_row h
/-- Rules in a row of the call's own. -/
theorem rules_own {wr : World} {B base n : Nat} {v : Value} {cs : List Value} {rs : List Dr} (h : wr.ownsRow base 35 4 v n cs) (hn : n = rs.length) (hsm : n ≤ 1000) (hB : B ≤ wr.heap.size)
    (hc : ∀ i, i < rs.length → cs[i * 4]? = some (.int .i64 (drget rs i).kind) ∧ cs[i * 4 + 3]? = some (.int .i64 (drget rs i).n) ∧ ∃ vv nv, cs[i * 4 + 1]? = some vv ∧ cs[i * 4 + 2]? = some nv ∧ Ints wr B vv (drget rs i).vars ∧ Ints wr B nv (drget rs i).nums) : DRls wr wr.heap.size v rs := by
  subst hn
  refine ⟨fun i => cs[i]?.getD undef, ownsRow_row h (by omega) (fun i hi => ?_), fun i hi => ?_⟩
  · have : i < cs.length := by rw [h.1]; exact hi
    rw [List.getElem?_eq_getElem this]; rfl
  · obtain ⟨h0, h3, vv, nv, h1, h2, hv, hv2⟩ := hc i hi
    refine ⟨?_, ?_, ?_, ?_⟩
    · show (cs[i * 4]?.getD undef) = _; rw [h0]; rfl
    · show Ints wr wr.heap.size (cs[i * 4 + 1]?.getD undef) _; rw [h1]; exact hv.mono hB
    · show Ints wr wr.heap.size (cs[i * 4 + 2]?.getD undef) _; rw [h2]; exact hv2.mono hB
    · show (cs[i * 4 + 3]?.getD undef) = _; rw [h3]; rfl
set_option maxRecDepth 100000 in
set_option maxHeartbeats 8000000 in
theorem domainOrder_any (p : Dp) (by_ : List Nat) (dv rv yv : Value) (w : World) {B : Nat} (hdv : Us w B dv p.doms) (hrv : DRls w B rv p.rules) (hyv : U8s w B yv by_) (hB0 : 0 < B) (hB : B ≤ w.heap.size) (hu : U64l p.doms) (hT : Tab w) :
    Gives Tryd.prog 8 #[.agg #[dv, rv], yv] w (.bool true) := by
  unfold Gives
  have HDV := Lib.hid hdv; have HRV := Lib.hid hrv; have HYV := Lib.hid hyv; have HT := Lib.hid hT; have HU := Lib.hid hu
  have hw0 : 0 < w.heap.size := by omega
  obtain ⟨da, dc, rfl⟩ := hdv.slice
  obtain ⟨ra, rc, rfl⟩ := hrv.slice
  obtain ⟨ya, yc, rfl⟩ := hyv.slice
  clear hdv hrv hyv hT hu
  have K0 := Lib.hid (heap_new0 w (.cells #[.slice da p.doms.length dc, .slice ra p.rules.length rc] 25)); have HB0 := Lib.hid (Below.new1 w (.cells #[.slice da p.doms.length dc, .slice ra p.rules.length rc] 25))
  go_enter Tryd.func8, Tryd.ntmps8
  go_wp2_with fail
  refine (fine_any p _ _ _ (HDV.out.below HB0.out hB) (HRV.out.below HB0.out hB) (by simp; omega) HU.out).mono ?_
  rintro e w1 ⟨rfl, hb1⟩
  have HB1 := Lib.hid (HB0.out.trans (hb1.mono (by simp))); have K1 := Lib.hid (heap_later K0.out hb1 (by simp))
  clear hb1 K0 HB0
  have z1 : w.heap.size < w1.heap.size := (Array.getElem?_eq_some_iff.1 K1.out).1
  cases hfi : smallD p && probD p
  case false =>
    clear hfi
    go_wp2_with fail
    refine (works_any _ (HT.out.below HB1.out hw0) (by have := HB1.out.size; omega)).mono ?_
    rintro e1 w9 ⟨rfl, hb9⟩
    have HF := Lib.hid (HB1.out.trans (hb9.mono HB1.out.size))
    clear hb9
    go_wp2
    go_ret
    exact ⟨rfl, HF.out⟩
  case true =>
    have hpo : probD p = true := by rw [Bool.and_eq_true] at hfi; exact hfi.2
    have HPO := Lib.hid hpo
    have hn1 := (probD_parts hpo).1
    have hn8 := (probD_parts hpo).2.1
    have hr12 := (probD_parts hpo).2.2.1
    clear hfi hpo
    have c0 : w1.cell? ⟨w.heap.size, 0, none⟩ = some (.slice da p.doms.length dc) := by rw [cell_of_row _ _ _ _ _ _ K1.out]; rfl
    have c1 : w1.cell? ⟨w.heap.size, 1, none⟩ = some (.slice ra p.rules.length rc) := by rw [cell_of_row _ _ _ _ _ _ K1.out]; rfl
    go_upto_region 4 with fail
    refine abs_wp (fun Z => Z.heap[w1.heap.size]? = some (.cells #[.slice da p.doms.length dc, .slice none 0 0] 25 (0, 0)) ∧ Below w1.heap.size w1 Z) ⟨heap_new0 _ _, Below.new1 _ _⟩ ?_
    clear c0 c1
    rintro W ⟨kq, hbq⟩
    have KQ := Lib.hid kq
    have HBW := Lib.hid (HB1.out.trans (hbq.mono HB1.out.size)); have KW := Lib.hid (heap_later K1.out hbq z1)
    have zq : w1.heap.size < W.heap.size := (Array.getElem?_eq_some_iff.1 kq).1
    clear kq hbq
    have c0 : W.cell? ⟨w.heap.size, 0, none⟩ = some (.slice da p.doms.length dc) := by rw [cell_of_row _ _ _ _ _ _ KW.out]; rfl
    have c1 : W.cell? ⟨w.heap.size, 1, none⟩ = some (.slice ra p.rules.length rc) := by rw [cell_of_row _ _ _ _ _ _ KW.out]; rfl
    obtain ⟨cR, hcRow, hcR⟩ := HRV.out
    have HCROW := Lib.hid hcRow; have HCR := Lib.hid hcR
    clear hcRow hcR
    go_wp2_with fail
    clear c0 c1
    go_loopw [28] (fun iv wr => ∃ (i : Nat) (ns : List Nat) (v : Value), i ≤ p.rules.length ∧ iv = .int .i64 i ∧ ns.length = i ∧ (∀ x, x ∈ ns ↔ x < i) ∧ wr.heap[w1.heap.size]? = some (.cells #[.slice da p.doms.length dc, v] 25 (0, 0)) ∧ wr.heap[w.heap.size]? = some (.cells #[.slice da p.doms.length dc, .slice ra p.rules.length rc] 25 (0, 0)) ∧ W.heap.size ≤ wr.heap.size ∧ wr.ownsRow W.heap.size 35 4 v i (rCells cR ns) ∧ Below w.heap.size w wr) (fun iv _ => p.rules.length - (intOf iv).toNat)
    case atStart => exact ⟨0, [], .slice none 0 0, Nat.zero_le _, rfl, rfl, fun x => by simp, KQ.out, KW.out, Nat.le_refl _, World.ownsRow_nil _ _ _ _, HBW.out⟩
    case round =>
      clear KQ KW HBW
      obtain ⟨i, ns, v, hi, rfl, hnl, hns, kq, kp, hsz, how, hb⟩ := hrel
      have HNL := Lib.hid hnl; have HNS := Lib.hid hns; have KQ := Lib.hid kq; have KP := Lib.hid kp; have HOW := Lib.hid how; have HB := Lib.hid hb
      by_cases hlt : i < p.rules.length
      · obtain ⟨_, a', c', hae, _, _, hrow⟩ := HCROW.out.below hb hB
        cases hae
        obtain ⟨rb, ro, rfl, hrb, hcell⟩ := hrow (by omega)
        obtain ⟨hc0, hcv, hcn, hc3⟩ := HCR.out i hlt
        obtain ⟨va, vc, hc1⟩ := hcv.slice
        obtain ⟨na, nc, hc2⟩ := hcn.slice
        have q0 : wr.cell? ⟨rb, ro + i * 4, none⟩ = some (.int .i64 (drget p.rules i).kind) := by rw [hcell _ (by omega), hc0]
        have q1 : wr.cell? ⟨rb, ro + i * 4 + 1, none⟩ = some (.slice va (drget p.rules i).vars.length vc) := by rw [← hc1]; exact hcell (i * 4 + 1) (by omega)
        have q2 : wr.cell? ⟨rb, ro + i * 4 + 2, none⟩ = some (.slice na (drget p.rules i).nums.length nc) := by rw [← hc2]; exact hcell (i * 4 + 2) (by omega)
        have q3 : wr.cell? ⟨rb, ro + i * 4 + 3, none⟩ = some (.int .i64 (drget p.rules i).n) := by rw [← hc3]; exact hcell (i * 4 + 3) (by omega)
        have HC : Hid ([cR (i * 4), cR (i * 4 + 1), cR (i * 4 + 2), cR (i * 4 + 3)] = [.int .i64 (drget p.rules i).kind, .slice va (drget p.rules i).vars.length vc, .slice na (drget p.rules i).nums.length nc, .int .i64 (drget p.rules i).n]) := Lib.hid (by rw [hc0, hc1, hc2, hc3])
        have zr : rb < wr.heap.size := by have := hb.size; omega
        obtain ⟨r, hr⟩ : ∃ r, r = drget p.rules i := ⟨_, rfl⟩
        rw [← hr] at q0 q1 q2 q3 HC
        obtain ⟨wo, rfl⟩ : ∃ wo : World, wo = wr := ⟨_, rfl⟩
        clear hnl hns kq kp how hb hcell hc0 hc1 hc2 hc3 hcv hcn hrow hr
        go_upto_region 7 with fail
        refine abs_wp (fun Z => Z.heap[wo.heap.size]? = some (.cells #[.int .i64 r.kind, .slice va r.vars.length vc, .slice na r.nums.length nc, .int .i64 r.n] 35 (0, 0)) ∧ Below wo.heap.size wo Z) ⟨heap_new0 _ _, Below.new1 _ _⟩ ?_
        clear q0 q1 q2 q3 zr
        rintro R ⟨kr, hbr⟩
        have KR := Lib.hid kr
        have zk : wo.heap.size < R.heap.size := (Array.getElem?_eq_some_iff.1 kr).1
        have HBR := Lib.hid (HB.out.trans (hbr.mono HB.out.size))
        have KQR := Lib.hid (heap_later KQ.out hbr (Array.getElem?_eq_some_iff.1 KQ.out).1)
        have KPR := Lib.hid (heap_later KP.out hbr (Array.getElem?_eq_some_iff.1 KP.out).1)
        have HOWR := Lib.hid (own_ck HOW.out (CK.below hbr))
        have hszR : W.heap.size ≤ R.heap.size := Nat.le_trans hsz hbr.size
        have r0 : R.cell? ⟨wo.heap.size, 0, none⟩ = some (.int .i64 r.kind) := by rw [cell_of_row _ _ _ _ _ _ kr]; rfl
        have r1 : R.cell? ⟨wo.heap.size, 1, none⟩ = some (.slice va r.vars.length vc) := by rw [cell_of_row _ _ _ _ _ _ kr]; rfl
        have r2 : R.cell? ⟨wo.heap.size, 2, none⟩ = some (.slice na r.nums.length nc) := by rw [cell_of_row _ _ _ _ _ _ kr]; rfl
        have r3 : R.cell? ⟨wo.heap.size, 3, none⟩ = some (.int .i64 r.n) := by rw [cell_of_row _ _ _ _ _ _ kr]; rfl
        obtain ⟨fa, fc, rfl⟩ := own_form HOWR.out
        have t0 : R.cell? ⟨w1.heap.size, 1, none⟩ = some (.slice fa i fc) := by rw [cell_of_row _ _ _ _ _ _ KQR.out]; rfl
        clear kr hbr KQ KP HOW HB hsz
        have hOne : ∀ u ∈ rCells cR ns, u.oneCell' = true := fun u hu => by
          obtain ⟨x, hx, hu⟩ := List.mem_flatMap.1 hu
          obtain ⟨hc0, hcv, hcn, hc3⟩ := HCR.out x (by have := (HNS.out x).1 hx; omega)
          obtain ⟨a2, c2, hc1⟩ := hcv.slice
          obtain ⟨a3, c3, hc2⟩ := hcn.slice
          simp only [List.mem_cons, List.not_mem_nil, or_false] at hu
          rcases hu with rfl | rfl | rfl | rfl
          · rw [hc0]; rfl
          · rw [hc1]; rfl
          · rw [hc2]; rfl
          · rw [hc3]; rfl
        by_cases hby : 0 < by_.length
        · obtain ⟨_, a', c', hae, _, _, hrow⟩ := (HYV.out.below HBR.out hB).1
          cases hae
          obtain ⟨yb, yo, rfl, hyb, hyc⟩ := hrow hby
          have y0 : R.cell? ⟨yb, yo + i % by_.length, none⟩ = some (.int .u8 ((nget by_ (i % by_.length) : Nat) : Int)) := hyc _ (by have := Nat.mod_lt i hby; omega)
          have hy8 := HYV.out.2 (i % by_.length)
          have zy : yb < R.heap.size := by have := HBR.out.size; omega
          have hbyi : (0 : Int) < ((by_.length : Nat) : Int) := by omega
          obtain ⟨y, hy⟩ : ∃ y : Nat, y = nget by_ (i % by_.length) := ⟨_, rfl⟩
          rw [← hy] at y0 hy8
          obtain ⟨k, hk⟩ : ∃ k : Nat, k = y % (i + 1) := ⟨_, rfl⟩
          have hki : k ≤ i := by have := Nat.mod_lt y (show 0 < i + 1 by omega); omega
          have hcv : IntKind.i64.wrap ((y : Nat) : Int) = (y : Int) := IntWalk.i64_in _ (by omega)
          have hke : ((y : Nat) : Int) % ((i : Int) + 1) = (k : Int) := by rw [hk, Int.natCast_emod, Int.natCast_add]; rfl
          have hwr : wrap64 (((y : Nat) : Int) % ((i : Int) + 1)) = ((y : Nat) : Int) % ((i : Int) + 1) := by rw [hke]; unfold wrap64; omega
          have hm0 : (0 : Int) ≤ (i : Int) % ((by_.length : Nat) : Int) := Int.emod_nonneg _ (by omega)
          have hm1 : (i : Int) % ((by_.length : Nat) : Int) < ((by_.length : Nat) : Int) := Int.emod_lt_of_pos _ hbyi
          clear hrow hyc hk hy
          go_wp2_with fail
          rw [hke]
          clear hke hm0 hm1 hwr hcv y0 hy8 zy r0 r1 r2 r3
          have hown : (R.alloc (.cells #[.int .i64 r.kind, .slice va r.vars.length vc, .slice na r.nums.length nc, .int .i64 r.n] 35)).ownsRow W.heap.size 35 4 (.slice fa i fc) i (rCells cR ns) := HOWR.out.alloc _
          have hv4 : (R.alloc (.cells #[.int .i64 r.kind, .slice va r.vars.length vc, .slice na r.nums.length nc, .int .i64 r.n] 35)).heap[R.heap.size]? = some (.cells ([cR (i * 4), cR (i * 4 + 1), cR (i * 4 + 2), cR (i * 4 + 3)] : List Value).toArray 35 (0, 0)) := by rw [HC.out]; exact heap_new0 _ _
          refine (insert_rules (.slice fa i fc) i k R.heap.size W.heap.size (rCells cR ns) [cR (i * 4), cR (i * 4 + 1), cR (i * 4 + 2), cR (i * 4 + 3)] _ hown (by simp; omega) (by omega) (by omega) (fun q hq => by have := (HOWR.out.lt q hq).2; omega) hv4 rfl (by rw [HC.out]; intro u hu; simp only [List.mem_cons, List.not_mem_nil, or_false] at hu; rcases hu with rfl | rfl | rfl | rfl <;> rfl) hOne).mono ?_
          rintro e w5 ⟨v', rfl, ho5, hb5⟩
          rw [rCells_put] at ho5
          obtain ⟨ga, gc, rfl⟩ := own_form ho5
          have hbn := Below.new1 R (.cells #[.int .i64 r.kind, .slice va r.vars.length vc, .slice na r.nums.length nc, .int .i64 r.n] 35)
          have HB5 := Lib.hid ((HBR.out.trans (hbn.mono HBR.out.size)).trans (hb5.mono (by omega)))
          have kq5 := heap_later (heap_later KQR.out hbn (by omega)) hb5 zq
          have kp5 := heap_later (heap_later KPR.out hbn (by omega)) hb5 (by omega)
          have hz5 : W.heap.size ≤ w5.heap.size := by have := hb5.size; simp at this; omega
          have t0 : w5.cell? ⟨w1.heap.size, 1, none⟩ = some (.slice fa i fc) := by rw [cell_of_row _ _ _ _ _ _ kq5]; rfl
          have t0f : w5.frozen? ⟨w1.heap.size, 1, none⟩ = false := by simp [World.frozen?, kq5]
          have hne1 : w.heap.size ≠ w1.heap.size := by omega
          have KQ6 := Lib.hid (heap_setCell_same w5 w1.heap.size 1 _ _ (.slice ga (i + 1) gc) kq5)
          have KP6 := Lib.hid ((Below.heap_setCell w5 ⟨w1.heap.size, 1, none⟩ (.slice ga (i + 1) gc) w.heap.size hne1).trans kp5)
          have HO6 := Lib.hid (own_low (w' := w5.setCell ⟨w1.heap.size, 1, none⟩ (.slice ga (i + 1) gc)) ho5 (fun k c t f hk e => (Below.heap_setCell _ _ _ _ (show k ≠ w1.heap.size by omega)).trans e))
          have HB6 := Lib.hid (HB5.out.setCell (p := ⟨w1.heap.size, 1, none⟩) (show w.heap.size ≤ w1.heap.size by omega) (.slice ga (i + 1) gc))
          have HNS6 : Hid (∀ x, x ∈ putAt ns k i ↔ x < i + 1) := Lib.hid fun x => by rw [mem_putAt, HNS.out]; omega
          clear hown hv4 ho5 hb5 hbn kq5 kp5
          go_wp2
          go_roundw
          case rel => exact ⟨i + 1, putAt ns k i, .slice ga (i + 1) gc, by omega, by go_num, by rw [putAt_length, HNL.out], HNS6.out, KQ6.out, KP6.out, (by show W.heap.size ≤ (w5.setCell _ _).heap.size; simpa [World.setCell] using hz5), HO6.out, HB6.out⟩
          case measure => simp [intOf]; omega
        · have hby0 : ¬ (0 : Int) < ((by_.length : Nat) : Int) := by omega
          go_wp2_with fail
          clear r0 r1 r2 r3
          have hown : (R.alloc (.cells #[.int .i64 r.kind, .slice va r.vars.length vc, .slice na r.nums.length nc, .int .i64 r.n] 35)).ownsRow W.heap.size 35 4 (.slice fa i fc) i (rCells cR ns) := HOWR.out.alloc _
          have hv4 : (R.alloc (.cells #[.int .i64 r.kind, .slice va r.vars.length vc, .slice na r.nums.length nc, .int .i64 r.n] 35)).heap[R.heap.size]? = some (.cells ([cR (i * 4), cR (i * 4 + 1), cR (i * 4 + 2), cR (i * 4 + 3)] : List Value).toArray 35 (0, 0)) := by rw [HC.out]; exact heap_new0 _ _
          refine (insert_rules (.slice fa i fc) i 0 R.heap.size W.heap.size (rCells cR ns) [cR (i * 4), cR (i * 4 + 1), cR (i * 4 + 2), cR (i * 4 + 3)] _ hown (by simp; omega) (by omega) (by omega) (fun q hq => by have := (HOWR.out.lt q hq).2; omega) hv4 rfl (by rw [HC.out]; intro u hu; simp only [List.mem_cons, List.not_mem_nil, or_false] at hu; rcases hu with rfl | rfl | rfl | rfl <;> rfl) hOne).mono ?_
          rintro e w5 ⟨v', rfl, ho5, hb5⟩
          rw [rCells_put] at ho5
          obtain ⟨ga, gc, rfl⟩ := own_form ho5
          have hbn := Below.new1 R (.cells #[.int .i64 r.kind, .slice va r.vars.length vc, .slice na r.nums.length nc, .int .i64 r.n] 35)
          have HB5 := Lib.hid ((HBR.out.trans (hbn.mono HBR.out.size)).trans (hb5.mono (by omega)))
          have kq5 := heap_later (heap_later KQR.out hbn (by omega)) hb5 zq
          have kp5 := heap_later (heap_later KPR.out hbn (by omega)) hb5 (by omega)
          have hz5 : W.heap.size ≤ w5.heap.size := by have := hb5.size; simp at this; omega
          have t0 : w5.cell? ⟨w1.heap.size, 1, none⟩ = some (.slice fa i fc) := by rw [cell_of_row _ _ _ _ _ _ kq5]; rfl
          have t0f : w5.frozen? ⟨w1.heap.size, 1, none⟩ = false := by simp [World.frozen?, kq5]
          have hne1 : w.heap.size ≠ w1.heap.size := by omega
          have KQ6 := Lib.hid (heap_setCell_same w5 w1.heap.size 1 _ _ (.slice ga (i + 1) gc) kq5)
          have KP6 := Lib.hid ((Below.heap_setCell w5 ⟨w1.heap.size, 1, none⟩ (.slice ga (i + 1) gc) w.heap.size hne1).trans kp5)
          have HO6 := Lib.hid (own_low (w' := w5.setCell ⟨w1.heap.size, 1, none⟩ (.slice ga (i + 1) gc)) ho5 (fun k c t f hk e => (Below.heap_setCell _ _ _ _ (show k ≠ w1.heap.size by omega)).trans e))
          have HB6 := Lib.hid (HB5.out.setCell (p := ⟨w1.heap.size, 1, none⟩) (show w.heap.size ≤ w1.heap.size by omega) (.slice ga (i + 1) gc))
          have HNS6 : Hid (∀ x, x ∈ putAt ns 0 i ↔ x < i + 1) := Lib.hid fun x => by rw [mem_putAt, HNS.out]; omega
          clear hown hv4 ho5 hb5 hbn kq5 kp5
          go_wp2
          go_roundw
          case rel => exact ⟨i + 1, putAt ns 0 i, .slice ga (i + 1) gc, by omega, by go_num, by rw [putAt_length, HNL.out], HNS6.out, KQ6.out, KP6.out, (by show W.heap.size ≤ (w5.setCell _ _).heap.size; simpa [World.setCell] using hz5), HO6.out, HB6.out⟩
          case measure => simp [intOf]; omega
      · have hi2 : i = p.rules.length := by omega
        subst hi2
        have hperm : Perm p ns := ⟨hnl, fun x hx => (hns x).1 hx, fun x hx => (hns x).2 hx⟩
        obtain ⟨q, hq⟩ : ∃ q, q = pickD p ns := ⟨_, rfl⟩
        have hqo := perm_ok HPO.out hperm
        have hqd : q.doms = p.doms := by rw [hq]; rfl
        have hql : q.rules.length = p.rules.length := by rw [hq]; show (ns.map _).length = _; rw [List.length_map]; exact hnl
        have hrls : DRls wr wr.heap.size v q.rules := by
          refine rules_own (B := B) (base := W.heap.size) how hql.symm (by omega) (by have := hb.size; omega) fun i hi => ?_
          have hin : i < ns.length := by omega
          obtain ⟨e0, e1, e2, e3⟩ := HCR.out ns[i] ((hns _).1 (List.getElem_mem hin))
          have eq : drget q.rules i = drget p.rules ns[i] := by rw [hq]; exact pick_get hin
          rw [eq]
          have g0 := rCells_get cR ns i hin 0 (by omega)
          have g1 := rCells_get cR ns i hin 1 (by omega)
          have g2 := rCells_get cR ns i hin 2 (by omega)
          have g3 := rCells_get cR ns i hin 3 (by omega)
          rw [Nat.add_zero, Nat.add_zero, e0] at g0
          rw [e3] at g3
          exact ⟨g0, g3, _, _, g1, g2, e1.below hb hB, e2.below hb hB⟩
        obtain ⟨X, hX⟩ : ∃ X, X = (propD p).1.take p.doms.length := ⟨_, rfl⟩
        obtain ⟨Y, hY⟩ : ∃ Y, Y = (propD q).1.take q.doms.length := ⟨_, rfl⟩
        have hxl : X.length = p.doms.length := by rw [hX]; exact (prop_take HPO.out).1
        have hyl : Y.length = p.doms.length := by rw [hY, hq, (prop_take hqo).1]; rfl
        have hcase : (X.contains 0 = true ∧ Y.contains 0 = true) ∨ (X.contains 0 = false ∧ Y = X ∧ probD ⟨X, q.rules⟩ = true ∧ propD ⟨X, q.rules⟩ = ((propD p).1, [])) := by
          by_cases h1 : Void p (propD p).1
          · refine .inl ⟨by rw [hX]; exact (void_iff HPO.out).2 h1, ?_⟩
            rw [hY, hq]
            exact (void_iff hqo).2 (order_void HPO.out hperm h1)
          · obtain ⟨h2, h3, h4⟩ := order_same HPO.out hperm h1
            refine .inr ⟨?_, ?_, ?_, ?_⟩
            · rw [Bool.eq_false_iff, hX]; exact fun h => h1 ((void_iff HPO.out).1 h)
            · rw [hY, hX, hq, h2]; rfl
            · rw [hX, hq]; exact h3
            · rw [hX, hq]; exact h4
        have hxu : U64l X := by
          rw [hX]; intro s hs
          obtain ⟨j, hj, e⟩ := List.mem_iff_getElem.1 hs
          have hg : Good (propD p) := run_good HPO.out (padD_ok HPO.out)
          have := hg.f.lt j
          have e2 : nget ((propD p).1.take p.doms.length) j = s := by unfold nget; rw [List.getElem?_eq_getElem hj]; exact e
          rw [nget_take (by rw [List.length_take] at hj; omega)] at e2
          rw [e2] at this
          exact Nat.lt_of_lt_of_le this (by decide)
        rw [← hq] at hqo
        obtain ⟨va, vc, rfl⟩ := own_form how
        rw [← hql] at kq hrls
        have KQ := Lib.hid kq
        have HQO := Lib.hid hqo; have HQD := Lib.hid hqd; have HQL := Lib.hid hql; have HRLS := Lib.hid hrls; have HX := Lib.hid hX; have HY := Lib.hid hY; have HXL := Lib.hid hxl; have HYL := Lib.hid hyl; have HCASE := Lib.hid hcase; have HXU := Lib.hid hxu
        clear hperm hqo hqd hql hrls hnl hns kq kp how hb hq hX hY hxl hyl hcase hxu HNL HNS HOW hi hlt
        have zw := HB.out.size
        have c0 : wr.cell? ⟨w.heap.size, 0, none⟩ = some (.slice da p.doms.length dc) := by rw [cell_of_row _ _ _ _ _ _ KP.out]; rfl
        have c1 : wr.cell? ⟨w.heap.size, 1, none⟩ = some (.slice ra p.rules.length rc) := by rw [cell_of_row _ _ _ _ _ _ KP.out]; rfl
        have zqr : w1.heap.size < wr.heap.size := (Array.getElem?_eq_some_iff.1 KQ.out).1
        have zpr : w.heap.size < wr.heap.size := by omega
        go_wp2_with fail
        refine (propagate_any p _ _ _ (HDV.out.below HB.out hB) (HRV.out.below HB.out hB) hB0 (by omega) (HT.out.below HB.out hw0)).mono ?_
        rintro e w4 ⟨hb4, hp⟩
        obtain ⟨fv, cv, rfl, hfo, hco⟩ : ∃ fv cv, e = .returned (.tuple #[fv, cv, .int .i64 0]) ∧ w4.ownsRow wr.heap.size 53 1 fv p.doms.length (natsV X) ∧ ∃ a n c, cv = .slice a n c := by
          rcases hp with ⟨h, _⟩ | ⟨_, fv, cv, h1, h2, cs, h3, _⟩
          · rw [HPO.out] at h; cases h
          · obtain ⟨a, c, h⟩ := own_form h3
            exact ⟨fv, cv, h1, by rw [HX.out]; exact h2, a, _, c, h⟩
        obtain ⟨ca, cn, cc, rfl⟩ := hco
        have HFO := Lib.hid (owns_us hfo (by have := HXL.out; omega) HXL.out)
        obtain ⟨xa, xc, rfl⟩ := own_form hfo
        have HB4 := Lib.hid (HB.out.trans (hb4.mono zw)); have HB14 := Lib.hid hb4
        have KP4 := Lib.hid (heap_later KP.out hb4 zpr); have KQ4 := Lib.hid (heap_later KQ.out hb4 zqr)
        have z4 := hb4.size
        clear c0 c1 hb4 hfo hp
        have c0 : w4.cell? ⟨w1.heap.size, 0, none⟩ = some (.slice da p.doms.length dc) := by rw [cell_of_row _ _ _ _ _ _ KQ4.out]; rfl
        have c1 : w4.cell? ⟨w1.heap.size, 1, none⟩ = some (.slice va q.rules.length vc) := by rw [cell_of_row _ _ _ _ _ _ KQ4.out]; rfl
        have HPY := Lib.hid (propagate_any q (.slice da p.doms.length dc) (.slice va q.rules.length vc) w4 (B := w4.heap.size) (by rw [HQD.out]; exact (HDV.out.below HB4.out hB).mono (by omega)) ((HRLS.out.below HB14.out (Nat.le_refl _)).mono z4) (by omega) (Nat.le_refl _) (HT.out.below HB4.out hw0))
        go_wp2_with fail
        refine HPY.out.mono ?_
        rintro e w5 ⟨hb5, hp⟩
        obtain ⟨gv, dv, rfl, hgo, hco⟩ : ∃ fv cv, e = .returned (.tuple #[fv, cv, .int .i64 0]) ∧ w5.ownsRow w4.heap.size 53 1 fv p.doms.length (natsV Y) ∧ ∃ a n c, cv = .slice a n c := by
          rcases hp with ⟨h, _⟩ | ⟨_, fv, cv, h1, h2, cs, h3, _⟩
          · rw [HQO.out] at h; cases h
          · obtain ⟨a, c, h⟩ := own_form h3
            exact ⟨fv, cv, h1, by rw [HY.out, ← HQD.out]; exact h2, a, _, c, h⟩
        obtain ⟨ea, en, ec, rfl⟩ := hco
        have HGO := Lib.hid (owns_us hgo (by have := HXL.out; omega) HYL.out)
        obtain ⟨ya', yc', rfl⟩ := own_form hgo
        have HB5 := Lib.hid (HB4.out.trans (hb5.mono HB4.out.size)); have HB45 := Lib.hid hb5
        have KP5 := Lib.hid (heap_later KP4.out hb5 (by omega)); have KQ5 := Lib.hid (heap_later KQ4.out hb5 (by omega))
        have z5 := hb5.size
        have HFO5 := Lib.hid ((HFO.out.below hb5 (Nat.le_refl _)).mono z5)
        clear c0 c1 hb5 hgo hp HPY
        have c0 : w5.cell? ⟨w.heap.size, 0, none⟩ = some (.slice da p.doms.length dc) := by rw [cell_of_row _ _ _ _ _ _ KP5.out]; rfl
        have c1 : w5.cell? ⟨w.heap.size, 1, none⟩ = some (.slice ra p.rules.length rc) := by rw [cell_of_row _ _ _ _ _ _ KP5.out]; rfl
        rcases HCASE.out with ⟨hx, hy⟩ | ⟨hx, hyx, hok, hpr⟩
        · clear HCASE
          have HE1 := Lib.hid (lawEmpty_any X _ w5 HFO5.out)
          rw [hx] at HE1
          go_wp2_with fail
          refine HE1.out.mono ?_
          rintro e w6 ⟨rfl, hb6⟩
          have HB6 := Lib.hid (HB5.out.trans (hb6.mono HB5.out.size))
          have HE2 := Lib.hid (lawEmpty_any Y _ w6 (HGO.out.below hb6 (Nat.le_refl _)))
          have HE3 : ∀ u, Below w.heap.size w u → Below w5.heap.size w5 u → Gives Tryd.prog 21 #[.slice xa p.doms.length xc] u (.bool true) := fun u hu hv => by
            have := lawEmpty_any X _ u (HFO5.out.below hv (Nat.le_refl _))
            rwa [hx] at this
          have HE3 := Lib.hid HE3
          rw [hy] at HE2
          have HB56 := Lib.hid hb6
          clear hb6 hx hy HE1
          go_wp2_with fail
          refine HE2.out.mono ?_
          rintro e w7 ⟨rfl, hb7⟩
          have HB7 := Lib.hid (HB6.out.trans (hb7.mono HB6.out.size))
          have HE4 := Lib.hid (HE3.out w7 HB7.out (HB56.out.trans (hb7.mono HB56.out.size)))
          clear hb7 HE2 HE3
          go_wp2_with fail
          refine HE4.out.mono ?_
          rintro e w8 ⟨rfl, hb8⟩
          have HB8 := Lib.hid (HB7.out.trans (hb8.mono HB7.out.size))
          clear hb8 HE4
          go_wp2_with fail
          refine (works_any _ (HT.out.below HB8.out hw0) (by have := HB8.out.size; omega)).mono ?_
          rintro e1 w9 ⟨rfl, hb9⟩
          have HF := Lib.hid (HB8.out.trans (hb9.mono HB8.out.size))
          clear hb9
          go_wp2
          go_ret
          exact ⟨rfl, HF.out⟩
        · subst hyx
          have HOK := Lib.hid hok; have HPR := Lib.hid hpr
          clear HCASE
          have HE1 := Lib.hid (lawEmpty_any Y _ w5 HFO5.out)
          rw [hx] at HE1
          go_wp2_with fail
          refine HE1.out.mono ?_
          rintro e w6 ⟨rfl, hb6⟩
          have HB6 := Lib.hid (HB5.out.trans (hb6.mono HB5.out.size))
          have HE2 := Lib.hid (lawEmpty_any Y _ w6 (HGO.out.below hb6 (Nat.le_refl _)))
          have HE3 : ∀ u, Below w.heap.size w u → Below w5.heap.size w5 u → Gives Tryd.prog 21 #[.slice xa p.doms.length xc] u (.bool false) := fun u hu hv => by
            have := lawEmpty_any Y _ u (HFO5.out.below hv (Nat.le_refl _))
            rwa [hx] at this
          have HE3 := Lib.hid HE3
          rw [hx] at HE2
          have HB56 := Lib.hid hb6
          clear hb6 hx hok hpr HE1
          go_wp2_with fail
          refine HE2.out.mono ?_
          rintro e w7 ⟨rfl, hb7⟩
          have HB7 := Lib.hid (HB6.out.trans (hb7.mono HB6.out.size))
          have HB57 := Lib.hid (HB56.out.trans (hb7.mono HB56.out.size))
          have HE4 := Lib.hid (HE3.out w7 HB7.out HB57.out)
          clear hb7 HE2 HE3
          go_wp2_with fail
          refine HE4.out.mono ?_
          rintro e w8 ⟨rfl, hb8⟩
          have HB8 := Lib.hid (HB7.out.trans (hb8.mono HB7.out.size))
          have HB58 := Lib.hid (HB57.out.trans (hb8.mono HB57.out.size))
          have z58 := HB58.out.size
          have KQ8 := Lib.hid (heap_later KQ5.out HB58.out (by omega))
          have HB48 := Lib.hid (HB45.out.trans (HB58.out.mono z5))
          have c1 : w8.cell? ⟨w1.heap.size, 1, none⟩ = some (.slice va q.rules.length vc) := by rw [cell_of_row _ _ _ _ _ _ KQ8.out]; rfl
          have HPY := Lib.hid (propagate_any ⟨Y, q.rules⟩ (.slice xa p.doms.length xc) (.slice va q.rules.length vc) w8 (B := w8.heap.size) ((HFO5.out.below HB58.out (Nat.le_refl _)).mono z58) ((HRLS.out.below (HB14.out.trans (HB48.out.mono z4)) (Nat.le_refl _)).mono (show wr.heap.size ≤ w8.heap.size by omega)) (by omega) (Nat.le_refl _) (HT.out.below HB8.out hw0))
          clear hb8 HE4
          go_wp2_with fail
          refine HPY.out.mono ?_
          rintro e w9 ⟨hb9, hp⟩
          obtain ⟨hv, lv, rfl, hho, hlo⟩ : ∃ fv cv, e = .returned (.tuple #[fv, cv, .int .i64 0]) ∧ w9.ownsRow w8.heap.size 53 1 fv p.doms.length (natsV Y) ∧ ∃ a c, cv = .slice a 0 c := by
            rcases hp with ⟨h, _⟩ | ⟨_, fv, cv, h1, h2, cs, h3, _⟩
            · rw [HOK.out] at h; cases h
            · rw [HPR.out] at h2 h3
              obtain ⟨a, c, h⟩ := own_form h3
              refine ⟨fv, cv, h1, ?_, a, c, h⟩
              have e1 : (propD p).1.take (Dp.mk Y q.rules).doms.length = Y := by rw [show (Dp.mk Y q.rules).doms.length = p.doms.length from HYL.out, HX.out]
              rw [show (Dp.mk Y q.rules).doms.length = p.doms.length from HYL.out] at h2
              rw [show ((propD p).1, ([] : List Cut)).1 = (propD p).1 from rfl, ← HX.out] at h2
              exact h2
          obtain ⟨la, lc, rfl⟩ := hlo
          have HHO := Lib.hid (owns_us hho (by have := HXL.out; omega) HYL.out)
          obtain ⟨za, zc, rfl⟩ := own_form hho
          have HB9 := Lib.hid (HB8.out.trans (hb9.mono HB8.out.size))
          have HB89 := Lib.hid hb9
          clear hb9 hho hp c1 HPY
          have z9 := HB89.out.size
          have HFO9 := Lib.hid ((HFO5.out.below (HB58.out.trans (HB89.out.mono z58)) (Nat.le_refl _)).mono (show w5.heap.size ≤ w9.heap.size by omega))
          have HGO9 := Lib.hid ((HGO.out.below (HB58.out.trans (HB89.out.mono z58)) (Nat.le_refl _)).mono (show w5.heap.size ≤ w9.heap.size by omega))
          have HEQ := Lib.hid (equal_us Y Y _ _ w9 HFO9.out HGO9.out (Nat.le_refl _))
          rw [show sameN Y Y = true by unfold sameN; simp] at HEQ
          go_wp2_with fail
          refine HEQ.out.mono ?_
          rintro e w10 ⟨rfl, hb10⟩
          have HEQ2 := Lib.hid (equal_us Y Y _ _ w10 (HFO9.out.below hb10 (Nat.le_refl _)) (HHO.out.below hb10 (Nat.le_refl _)) hb10.size)
          rw [show sameN Y Y = true by unfold sameN; simp] at HEQ2
          have HB10 := Lib.hid (HB9.out.trans (hb10.mono HB9.out.size))
          clear hb10 HEQ
          go_wp2_with fail
          refine HEQ2.out.mono ?_
          rintro e w11 ⟨rfl, hb11⟩
          have HB11 := Lib.hid (HB10.out.trans (hb11.mono HB10.out.size))
          clear hb11 HEQ2
          go_wp2_with fail
          refine (works_any _ (HT.out.below HB11.out hw0) (by have := HB11.out.size; omega)).mono ?_
          rintro e1 w9 ⟨rfl, hb9⟩
          have HF := Lib.hid (HB11.out.trans (hb9.mono HB11.out.size))
          clear hb9
          go_wp2
          go_ret
          exact ⟨rfl, HF.out⟩
end Go.Proofs.YtdmmegmkdhinjaaDoor
