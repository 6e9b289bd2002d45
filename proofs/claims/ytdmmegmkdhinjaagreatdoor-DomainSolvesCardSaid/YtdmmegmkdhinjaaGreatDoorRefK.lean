/- The reference of Domain: Reason. -/
import Derived.Test.YtdmmegmkdhinjaaGreatDoorRefJ
namespace Go.Proofs.YtdmmegmkdhinjaaGreatDoor
open Go Go.RowKit
attribute [local go_sem] cell_grow u64_sAnd u64_sOr u64_sDiff sDiff_all zeqI zneI sAnd_bit_zero sAnd_bit_zeroN sAnd_bit_nonzero

set_option maxRecDepth 100000 in
set_option maxHeartbeats 2000000 in
theorem refReason_any (p : Dp) (hpo : probD p = true) (l : List Cut) (x j : Nat) (v : Int) (why : List Int) (hl : ∀ i, i < l.length → CFitN p.doms.length (cget l i)) (hw : ∀ i, i < why.length → ∃ k : Nat, iget why i = k ∧ k < l.length) (hx : (x : Int) ∈ (drget p.rules j).vars) (hj : j < p.rules.length)
    (ya : Option Addr) (yn yc : Nat) (dv rv lv wv : Value) (w : World) {B : Nat} (hdv : Us w B dv p.doms) (hrv : DRls w B rv p.rules) (hlv : Cts w B lv l) (hwv : Ints w B wv why) (hB : B ≤ w.heap.size) :
    Gives Tryz.prog 88 #[.agg #[dv, rv], lv, .agg #[.int .i64 x, .int .i64 v, .int .i64 j, .slice ya yn yc], wv] w (.bool (explD p l ⟨x, v, j, why⟩)) := by
  unfold Gives
  have HDV := Lib.hid hdv; have HRV := Lib.hid hrv; have HLV := Lib.hid hlv; have HWV := Lib.hid hwv; have HL := Lib.hid hl; have HW := Lib.hid hw; have HPP := Lib.hid (probD_parts hpo); have HX := Lib.hid hx
  have HEX := Lib.hid (explD_ref (v := v) (j := j) (x := x) HPP.out.2.1 hl hw)
  have hn8 : p.doms.length ≤ 8 := HPP.out.2.1
  have hn1 : 1 ≤ p.doms.length := HPP.out.1
  have hdl := hdv.1
  have hrl := hrv.len
  have hll := hlv.len
  have hwl := hwv.1
  obtain ⟨da, dc, rfl⟩ := hdv.slice
  obtain ⟨ra, rc, rfl⟩ := hrv.slice
  obtain ⟨la, lc, rfl⟩ := hlv.slice
  obtain ⟨wa, wc, rfl⟩ := hwv.slice
  obtain ⟨i0, hin, hz0, hz1, hz2⟩ := info_parts infoU
  clear hdv hrv hlv hwv hl hw hpo hx
  have hn2 := heap_new2 w (.cells #[.slice da p.doms.length dc, .slice ra p.rules.length rc] 25) (.cells #[.int .i64 x, .int .i64 v, .int .i64 j, .slice ya yn yc] 73)
  have K0 := Lib.hid hn2.1; have F0 := Lib.hid hn2.2
  have HB0 := Lib.hid (Below.new2 w (.cells #[.slice da p.doms.length dc, .slice ra p.rules.length rc] 25) (.cells #[.int .i64 x, .int .i64 v, .int .i64 j, .slice ya yn yc] 73))
  clear hn2
  go_enter Tryz.func88, Tryz.ntmps88
  go_upto_region 1 with fail
  refine abs_wp (fun W => W.heap[w.heap.size]? = some (.cells #[.slice da p.doms.length dc, .slice ra p.rules.length rc] 25 (0, 0)) ∧ W.heap[w.heap.size + 1]? = some (.cells #[.int .i64 x, .int .i64 v, .int .i64 j, .slice ya yn yc] 73 (0, 0)) ∧ Below w.heap.size w W ∧ w.heap.size + 2 ≤ W.heap.size) ⟨K0.out, F0.out, HB0.out, by simp⟩ ?_
  clear K0 F0 HB0
  rintro W ⟨k0, f0, hb0, hs0⟩
  have HUS := Lib.hid (HDV.out.below hb0 hB)
  have c0 : W.cell? ⟨w.heap.size, 0, none⟩ = some (.slice da p.doms.length dc) := by rw [cell_of_row _ _ _ _ _ _ k0]; rfl
  have K0 := Lib.hid k0; have F0 := Lib.hid f0; have HB0 := Lib.hid hb0
  clear k0 f0 hb0
  go_wp2_with (at_builtin; refine wpList_append_row rfl _ _ 22 rfl (w.heap.size + 2) 56 i0 (.int .u64 0) 1 8 Tryz.underlying22 hin hz0 hz1 hz2 rfl (by decide) (.slice none 0 0) 0 [] rfl (World.ownsRow_nil _ _ _ _) (.slice da p.doms.length dc) p.doms.length _ B rfl HUS.out (natsV p.doms) (by rw [natsV_length, Nat.mul_one]) ?c1 (natsV_one _) ?c3 ?c4 ?c5 ?_)
  case c1 => exact fun i hi => natsV_get _ _ (by omega)
  case c3 => unfold maxLen; omega
  case c4 => omega
  case c5 => exact hs0
  intro v1 w1 hown hgrow _
  try simp only [Nat.zero_add, List.nil_append] at hown
  have hb1 := HB0.out.grown hgrow (by omega) (fun q hq => by simp [Value.ownBlock] at hq)
  have k1 := (hgrow.block w.heap.size (by omega) (by simp [Value.ownBlock])).trans K0.out
  have f1 := (hgrow.block (w.heap.size + 1) (by omega) (by simp [Value.ownBlock])).trans F0.out
  obtain ⟨g, cap, cur, rfl, hgb, hg, hgc, hgm, hgv⟩ := own_some hown (by omega)
  have HOW := Lib.hid hown; have K1 := Lib.hid k1; have F1 := Lib.hid f1; have HB1 := Lib.hid hb1
  clear hown hgrow hb1 k1 f1 hg hgv K0 F0 HB0 c0 HUS hin hz0 hz1 hz2 i0
  go_wp2_with fail
  go_loopw [10] (fun iv wr => ∃ k : Nat, k ≤ why.length ∧ iv = .int .i64 k ∧ wr.ownsRow (w.heap.size + 2) 56 1 (.slice (some ⟨g, 0, none⟩) p.doms.length cap) p.doms.length (natsV ((why.take k).foldl (whyStep l x) p.doms)) ∧
    wr.heap[w.heap.size]? = some (.cells #[.slice da p.doms.length dc, .slice ra p.rules.length rc] 25 (0, 0)) ∧ wr.heap[w.heap.size + 1]? = some (.cells #[.int .i64 x, .int .i64 v, .int .i64 j, .slice ya yn yc] 73 (0, 0)) ∧ Below w.heap.size w wr) (fun iv _ => why.length - (intOf iv).toNat)
  case atStart => exact ⟨0, Nat.zero_le _, rfl, HOW.out, K1.out, F1.out, HB1.out⟩
  case round =>
    obtain ⟨k, hk, rfl, hown, k0, f0, hb⟩ := hrel
    have hfl : ((why.take k).foldl (whyStep l x) p.doms).length = p.doms.length := whyFold_len l x _ _
    have hflt := whyFold_lt (l := l) (x := x) (why.take k) HPP.out.2.2.2.1
    have HFL := Lib.hid hfl; have HFLT := Lib.hid hflt
    have HOK := Lib.hid hown; have KR := Lib.hid k0; have FR := Lib.hid f0; have HBR := Lib.hid hb
    have z1 : w.heap.size + 1 < wr.heap.size := (Array.getElem?_eq_some_iff.1 f0).1
    have d0 : wr.cell? ⟨w.heap.size + 1, 0, none⟩ = some (.int .i64 (x : Nat)) := by rw [cell_of_row _ _ _ _ _ _ f0]; rfl
    have zg : g < wr.heap.size := (hown.lt g rfl).2
    clear hown k0 f0 hb HOW K1 F1 HB1 hfl hflt
    by_cases hlt : k < why.length
    · obtain ⟨q, hqk, hql⟩ := HW.out k hlt
      obtain ⟨_, a', cap', hae, _, _, hrow⟩ := HWV.out.below HBR.out hB
      cases hae
      obtain ⟨yb, yo, rfl, hyb, hycell⟩ := hrow (by omega)
      have y0 : wr.cell? ⟨yb, yo + k, none⟩ = some (.int .i64 q) := by rw [hycell k (by omega)]; show some (Value.int .i64 (iget why k)) = _; rw [hqk]
      obtain ⟨lb, lo, ov, rfl, hlb, hov, l0, l1, l2, l3⟩ := (HLV.out.below HBR.out hB).cells hql
      obtain ⟨oa, oc, rfl⟩ := hov.slice
      obtain ⟨v2, e2, hv2, hv2n, he2, he216⟩ := HL.out q hql
      rw [hv2] at l0; rw [he2] at l1
      have hst : (why.take (k + 1)).foldl (whyStep l x) p.doms = if (v2 : Int) = x then (why.take k).foldl (whyStep l x) p.doms else ((why.take k).foldl (whyStep l x) p.doms).set v2 (sDiff (nget ((why.take k).foldl (whyStep l x) p.doms) v2) (bitN e2)) := by
        rw [why_snoc _ _ _ _ hlt]; unfold whyStep; rw [hqk, Int.toNat_natCast, hv2, he2]; rfl
      obtain ⟨f, hf⟩ : ∃ f, f = (why.take k).foldl (whyStep l x) p.doms := ⟨_, rfl⟩
      rw [← hf] at HOK HFL HFLT hst
      have HST := Lib.hid hst
      have HKR := Lib.hid (heap_new0 wr (.cells #[.int .i64 v2, .int .i64 e2, .int .i64 (cget l q).rule, .slice oa (cget l q).why.length oc] 73))
      have HNW := Lib.hid (Below.new1 wr (.cells #[.int .i64 v2, .int .i64 e2, .int .i64 (cget l q).rule, .slice oa (cget l q).why.length oc] 73))
      clear hst hycell hrow hv2 he2 hqk hf hov
      by_cases hxe : v2 = x
      · have HS2 : Hid ((why.take (k + 1)).foldl (whyStep l x) p.doms = f) := Lib.hid (by rw [HST.out, if_pos (by rw [hxe])])
        subst hxe
        have d0 := (HNW.out.cell (p := ⟨w.heap.size + 1, 0, none⟩) z1).trans d0
        go_wp2_with fail
        go_roundw
        case rel => exact ⟨k + 1, by omega, by go_num, by rw [HS2.out]; exact own_ck HOK.out (CK.below HNW.out), heap_later KR.out HNW.out (by omega), heap_later FR.out HNW.out z1, HBR.out.trans (HNW.out.mono HBR.out.size)⟩
        case measure => simp [intOf]; omega
      · have HS2 : Hid ((why.take (k + 1)).foldl (whyStep l x) p.doms = f.set v2 (sDiff (nget f v2) (bitN e2))) := Lib.hid (by rw [HST.out, if_neg (by omega)])
        have hne : (((v2 : Nat) : Int) != (x : Int)) = true := by rw [bne_iff_ne]; omega
        clear hxe
        have d0 := (HNW.out.cell (p := ⟨w.heap.size + 1, 0, none⟩) z1).trans d0
        go_upto_region 7 with fail
        refine abs_wp (fun W4 => W4.heap[wr.heap.size]? = some (.cells #[.int .i64 v2, .int .i64 e2, .int .i64 (cget l q).rule, .slice oa (cget l q).why.length oc] 73 (0, 0)) ∧ Below wr.heap.size wr W4) ⟨HKR.out, HNW.out⟩ ?_
        rintro W4 ⟨k4, hb4⟩
        have t0 : W4.cell? ⟨wr.heap.size, 0, none⟩ = some (.int .i64 v2) := by rw [cell_of_row _ _ _ _ _ _ k4]; rfl
        have t1 : W4.cell? ⟨wr.heap.size, 1, none⟩ = some (.int .i64 e2) := by rw [cell_of_row _ _ _ _ _ _ k4]; rfl
        have z4 : wr.heap.size < W4.heap.size := (Array.getElem?_eq_some_iff.1 k4).1
        have ho4 := own_ck HOK.out (CK.below hb4)
        have e0 : W4.cell? ⟨g, v2, none⟩ = some (.int .u64 (nget f v2 : Nat)) := by rw [ho4.cellAt v2 (by omega), natsV_get _ _ (by rw [HFL.out]; exact hv2n)]
        have hfu : U64 (nget f v2) := Nat.lt_trans (HFLT.out v2) (by decide)
        have he64 : e2 < 64 := by omega
        have hvI : ((v2 : Nat) : Int) < ((p.doms.length : Nat) : Int) := by omega
        have HO4 := Lib.hid ho4; have K4 := Lib.hid (heap_later KR.out hb4 (by omega)); have F4 := Lib.hid (heap_later FR.out hb4 z1); have HB4 := Lib.hid (HBR.out.trans (hb4.mono HBR.out.size))
        have zg4 : g < W4.heap.size := by omega
        clear k4 hb4 ho4 HOK KR FR HNW HKR HST y0 l0 l1 l2 l3 d0
        go_wp2_with fail
        refine wp_region_qbt 12 (by kernel_rfl) (by kernel_rfl) ?_
        simp only [List.take_succ_cons, List.take_zero, List.drop_succ_cons, List.drop_zero]
        repeat go_big_quiet_step ((exact Gives.quiet (Gives.of_same (without_any _ e2 _ hfu he64))))
        refine wpQuiet_nil ?_
        intro w5 hb5
        have ho5 := own_ck HO4.out (CK.below hb5)
        have fc : w5.cell? ⟨g, v2, none⟩ = some (.int .u64 (nget f v2 : Nat)) := by rw [ho5.cellAt v2 (by omega), natsV_get _ _ (by rw [HFL.out]; exact hv2n)]
        have ff : w5.frozen? ⟨g, v2, none⟩ = false := ho5.frozenAt v2
        have HO5 := Lib.hid ho5; have K5 := Lib.hid (heap_later K4.out hb5 (by omega)); have F5 := Lib.hid (heap_later F4.out hb5 (by omega)); have HB5 := Lib.hid (HB4.out.trans (hb5.mono HB4.out.size))
        have zg5 : g < w5.heap.size := by have := hb5.size; omega
        clear hb5 ho5 e0 t0 t1 HO4 K4 F4 HB4
        go_wp2
        go_roundw
        case rel => exact ⟨k + 1, by omega, by go_num, by rw [HS2.out]; exact own_put HO5.out, (Below.heap_setCell _ _ _ _ (by show w.heap.size ≠ g; omega)).trans K5.out, (Below.heap_setCell _ _ _ _ (by show w.heap.size + 1 ≠ g; omega)).trans F5.out, HB5.out.setCell (p := ⟨g, v2, none⟩) (by show w.heap.size ≤ g; omega) _⟩
        case measure => simp [intOf]; omega
    · have hk2 : k = why.length := by omega
      subst hk2
      rw [List.take_length] at HOK HFL HFLT
      obtain ⟨f, hf⟩ : ∃ f, f = why.foldl (whyStep l x) p.doms := ⟨_, rfl⟩
      rw [← hf] at HOK HFL HFLT HEX
      obtain ⟨rb, ro, vv, nv, rfl, hrb, hra, q0, q1, q2, q3⟩ := (HRV.out.below HBR.out hB).cells hj
      obtain ⟨va, vc, rfl⟩ := hra.vars.slice
      obtain ⟨na, nc, rfl⟩ := hra.nums.slice
      have c1 : wr.cell? ⟨w.heap.size, 1, none⟩ = some (.slice (some ⟨rb, ro, none⟩) p.rules.length rc) := by rw [cell_of_row _ _ _ _ _ _ KR.out]; rfl
      have d2 : wr.cell? ⟨w.heap.size + 1, 2, none⟩ = some (.int .i64 j) := by rw [cell_of_row _ _ _ _ _ _ FR.out]; rfl
      obtain ⟨r, hr⟩ : ∃ r, r = drget p.rules j := ⟨_, rfl⟩
      have hr0 := HPP.out.2.2.2.2 j hj
      rw [← hr] at hra q0 q1 q2 q3 hr0 HEX HX
      have hjI : ((j : Nat) : Int) < ((p.rules.length : Nat) : Int) := by omega
      have HKR := Lib.hid (heap_new0 wr (.cells #[.int .i64 r.kind, .slice va r.vars.length vc, .slice na r.nums.length nc, .int .i64 r.n] 69))
      have HNW := Lib.hid (Below.new1 wr (.cells #[.int .i64 r.kind, .slice va r.vars.length vc, .slice na r.nums.length nc, .int .i64 r.n] 69))
      have HRA := Lib.hid hra; have HR0 := Lib.hid hr0
      clear hra hr0 hr hf
      go_upto_region 9 with fail
      refine abs_wp (fun W6 => W6.heap[wr.heap.size]? = some (.cells #[.int .i64 r.kind, .slice va r.vars.length vc, .slice na r.nums.length nc, .int .i64 r.n] 69 (0, 0)) ∧ Below wr.heap.size wr W6) ⟨HKR.out, HNW.out⟩ ?_
      rintro W6 ⟨k6, hb6⟩
      have s0 : W6.cell? ⟨wr.heap.size, 0, none⟩ = some (.int .i64 r.kind) := by rw [cell_of_row _ _ _ _ _ _ k6]; rfl
      have s1 : W6.cell? ⟨wr.heap.size, 1, none⟩ = some (.slice va r.vars.length vc) := by rw [cell_of_row _ _ _ _ _ _ k6]; rfl
      have s2 : W6.cell? ⟨wr.heap.size, 2, none⟩ = some (.slice na r.nums.length nc) := by rw [cell_of_row _ _ _ _ _ _ k6]; rfl
      have s3 : W6.cell? ⟨wr.heap.size, 3, none⟩ = some (.int .i64 r.n) := by rw [cell_of_row _ _ _ _ _ _ k6]; rfl
      have f6 := heap_later FR.out hb6 z1
      have z6 : wr.heap.size < W6.heap.size := (Array.getElem?_eq_some_iff.1 k6).1
      have zf : w.heap.size + 1 < W6.heap.size := by omega
      have u0 : W6.cell? ⟨w.heap.size + 1, 0, none⟩ = some (.int .i64 x) := by rw [cell_of_row _ _ _ _ _ _ f6]; rfl
      have u1 : W6.cell? ⟨w.heap.size + 1, 1, none⟩ = some (.int .i64 v) := by rw [cell_of_row _ _ _ _ _ _ f6]; rfl
      have hbw := HBR.out.trans (hb6.mono HBR.out.size)
      have hus : Us W6 W6.heap.size _ f := owns_us (own_ck HOK.out (CK.below hb6)) (by omega) HFL.out
      have hrw : RuleAt W6 W6.heap.size r (.slice va r.vars.length vc) (.slice na r.nums.length nc) := (HRA.out.mono (show B ≤ wr.heap.size by have := HBR.out.size; omega)).below hb6 (Nat.le_refl _) |>.mono (by omega)
      have HPL := Lib.hid (fun (d : Nat) (os : Array Obj) => place_any r (x : Int) _ _ (Go.Sort.grow (redrawn W6 d) os) (hrw.below (below_regrown W6 d os) (Nat.le_refl _)) (below_regrown W6 d os).size)
      have HSU := Lib.hid (fun (d : Nat) (os : Array Obj) => refSupp_any r HR0.out f (by rw [HFL.out]) (by rw [HFL.out]; omega) HFLT.out (r.vars.idxOf (x : Int)) (List.idxOf_lt_length_of_mem HX.out) v _ _ _ (Go.Sort.grow (redrawn W6 d) os) (hrw.below (below_regrown W6 d os) (Nat.le_refl _)) (hus.below (below_regrown W6 d os) (Nat.le_refl _)) (below_regrown W6 d os).size)
      rw [place_mem HX.out] at HPL
      unfold ruleV at HPL HSU
      have HB6 := Lib.hid hbw
      clear k6 hb6 f6 hus hrw hbw q0 q1 q2 q3 c1 d2 d0 HOK KR FR HBR HNW HKR
      cases hs : suppD f r (r.vars.idxOf (x : Int)) v <;> rw [hs] at HSU HEX
      all_goals
        clear hs
        go_wp2_with fail
        refine wp_region_qb (by kernel_rfl) (by kernel_rfl) ?_
        repeat go_big_quiet_step ((first | (with_reducible exact Gives.quiet (HPL.out _ _)) | (with_reducible exact Gives.quiet (HSU.out _ _))))
        refine wpQuiet_nil ?_
        intro w7 hb7
        have HB7 := Lib.hid (HB6.out.trans (hb7.mono HB6.out.size))
        clear hb7
        go_wp2
        go_ret
        exact ⟨by rw [HEX.out]; rfl, HB7.out⟩
end Go.Proofs.YtdmmegmkdhinjaaGreatDoor
