/- The reference of Domain: right, Wrong. -/
import Derived.Test.YtdmmegmkdhinjaaGreatDoorRefK
namespace Go.Proofs.YtdmmegmkdhinjaaGreatDoor
open Go Go.RowKit
attribute [local go_sem] cell_grow u64_sAnd u64_sOr u64_sDiff sDiff_all zeqI zneI sAnd_bit_zero sAnd_bit_zeroN sAnd_bit_nonzero

theorem neg_nat (n : Nat) : decide (((n : Nat) : Int) < 0) = false := decide_eq_false (by omega)
attribute [local go_sem] neg_nat
theorem any_no {l : List Cut} {x v : Int} (h : ∀ i, i < l.length → ((cget l i).var == x && (cget l i).value == v) = false) : l.any (fun o => o.var == x && o.value == v) = false := by
  rw [List.any_eq_false]
  intro o ho
  obtain ⟨i, hi, rfl⟩ := List.mem_iff_getElem.1 ho
  have := h i hi
  rw [show cget l i = l[i] by simp [cget, hi]] at this
  rw [this]; decide
theorem any_yes {l : List Cut} {x v : Int} {i : Nat} (hi : i < l.length) (h : ((cget l i).var == x && (cget l i).value == v) = true) : l.any (fun o => o.var == x && o.value == v) = true := by
  rw [List.any_eq_true]
  exact ⟨l[i], List.getElem_mem hi, by rw [show cget l i = l[i] by simp [cget, hi]] at h; exact h⟩
theorem up_yes {l : List Int} (h : ∀ i, i + 1 < l.length → iget l i < iget l (i + 1)) : ((List.range (l.length - 1)).all fun i => decide (iget l i < iget l (i + 1))) = true := by
  rw [List.all_eq_true]
  intro i hi
  have := List.mem_range.1 hi
  exact decide_eq_true (h i (by omega))
theorem up_no {l : List Int} {i : Nat} (hi : i + 1 < l.length) (h : ¬ iget l i < iget l (i + 1)) : ((List.range (l.length - 1)).all fun i => decide (iget l i < iget l (i + 1))) = false := by
  rw [Bool.eq_false_iff]
  intro hc
  have := List.all_eq_true.1 hc i (List.mem_range.2 (by omega))
  exact h (of_decide_eq_true this)
set_option maxRecDepth 100000 in
set_option maxHeartbeats 4000000 in
theorem refRight_any (p : Dp) (hpo : probD p = true) (l : List Cut) (c : Cut) (dv rv lv yv : Value) (w : World) {B : Nat} (hdv : Us w B dv p.doms) (hrv : DRls w B rv p.rules) (hlv : Cts w B lv l) (hyv : Ints w B yv c.why) (hB : B ≤ w.heap.size) (hl : ∀ i, i < l.length → CFitN p.doms.length (cget l i)) :
    Gives Tryz.prog 54 #[.agg #[dv, rv], lv, .agg #[.int .i64 c.var, .int .i64 c.value, .int .i64 c.rule, yv]] w (.bool (rightD p l c)) := by
  unfold Gives
  have HDV := Lib.hid hdv; have HRV := Lib.hid hrv; have HLV := Lib.hid hlv; have HYV := Lib.hid hyv; have HL := Lib.hid hl; have HPO := Lib.hid hpo; have HPP := Lib.hid (probD_parts hpo)
  have hn8 : p.doms.length ≤ 8 := HPP.out.2.1
  have hdl := hdv.1
  have hrl := hrv.len
  have hll := hlv.len
  have hyl := hyv.1
  obtain ⟨da, dc, rfl⟩ := hdv.slice
  obtain ⟨ra, rc, rfl⟩ := hrv.slice
  obtain ⟨la, lc, rfl⟩ := hlv.slice
  obtain ⟨ya, yc, rfl⟩ := hyv.slice
  obtain ⟨cx, cv, cr, cw⟩ := c
  dsimp only at *
  have HR : Hid (rightD p l ⟨cx, cv, cr, cw⟩ = (inB cr 0 (p.rules.length - 1) && ihas (drget p.rules cr.toNat).vars cx && hasD (nget p.doms cx.toNat) cv && allB cw 0 (l.length - 1) &&
    !l.any (fun o => o.var == cx && o.value == cv) && (List.range (cw.length - 1)).all (fun i => decide (iget cw i < iget cw (i + 1))) && explD p l ⟨cx, cv, cr, cw⟩)) := Lib.hid rfl
  clear hdv hrv hlv hyv hl hpo
  have hn2 := heap_new2 w (.cells #[.slice da p.doms.length dc, .slice ra p.rules.length rc] 25) (.cells #[.int .i64 cx, .int .i64 cv, .int .i64 cr, .slice ya cw.length yc] 73)
  have K0 := Lib.hid hn2.1; have F0 := Lib.hid hn2.2
  have HB0 := Lib.hid (Below.new2 w (.cells #[.slice da p.doms.length dc, .slice ra p.rules.length rc] 25) (.cells #[.int .i64 cx, .int .i64 cv, .int .i64 cr, .slice ya cw.length yc] 73))
  clear hn2
  go_enter Tryz.func54, Tryz.ntmps54
  go_upto_region 1 with fail
  refine abs_wp (fun W => W.heap[w.heap.size]? = some (.cells #[.slice da p.doms.length dc, .slice ra p.rules.length rc] 25 (0, 0)) ∧ W.heap[w.heap.size + 1]? = some (.cells #[.int .i64 cx, .int .i64 cv, .int .i64 cr, .slice ya cw.length yc] 73 (0, 0)) ∧ Below w.heap.size w W) ⟨K0.out, F0.out, HB0.out⟩ ?_
  clear K0 F0 HB0
  rintro W ⟨k0, f0, hb0⟩
  have c0 : W.cell? ⟨w.heap.size, 0, none⟩ = some (.slice da p.doms.length dc) := by rw [cell_of_row _ _ _ _ _ _ k0]; rfl
  have c1 : W.cell? ⟨w.heap.size, 1, none⟩ = some (.slice ra p.rules.length rc) := by rw [cell_of_row _ _ _ _ _ _ k0]; rfl
  have d0 : W.cell? ⟨w.heap.size + 1, 0, none⟩ = some (.int .i64 cx) := by rw [cell_of_row _ _ _ _ _ _ f0]; rfl
  have d1 : W.cell? ⟨w.heap.size + 1, 1, none⟩ = some (.int .i64 cv) := by rw [cell_of_row _ _ _ _ _ _ f0]; rfl
  have d2 : W.cell? ⟨w.heap.size + 1, 2, none⟩ = some (.int .i64 cr) := by rw [cell_of_row _ _ _ _ _ _ f0]; rfl
  have d3 : W.cell? ⟨w.heap.size + 1, 3, none⟩ = some (.slice ya cw.length yc) := by rw [cell_of_row _ _ _ _ _ _ f0]; rfl
  have z1 : w.heap.size + 1 < W.heap.size := (Array.getElem?_eq_some_iff.1 f0).1
  have z0 : w.heap.size < W.heap.size := by omega
  have K0 := Lib.hid k0; have F0 := Lib.hid f0; have HB0 := Lib.hid hb0
  clear k0 f0 hb0
  have HIN := Lib.hid (fun (d : Nat) (os : Array Obj) => (Gives.of_same (in_any cr 0 ((p.rules.length : Int) - 1) (Go.Sort.grow (redrawn W d) os))))
  cases h1 : inB cr 0 ((p.rules.length : Int) - 1) <;> rw [h1] at HIN HR
  case false =>
    clear h1
    go_wp2_with fail
    refine wp_region_qb (by kernel_rfl) (by kernel_rfl) ?_
    repeat go_big_quiet_step ((with_reducible exact Gives.quiet (HIN.out _ _)))
    refine wpQuiet_nil ?_
    intro w2 hb2
    have HB2 := Lib.hid (HB0.out.trans (hb2.mono HB0.out.size))
    clear hb2
    go_wp2
    go_ret
    exact ⟨by rw [HR.out]; rfl, HB2.out⟩
  case true =>
    obtain ⟨j, rfl, hj⟩ := inB_nat h1
    clear h1
    obtain ⟨rb, ro, vv, nv, rfl, hrb, hra, q0, q1, q2, q3⟩ := (HRV.out.below HB0.out hB).cells hj
    obtain ⟨va, vc, rfl⟩ := hra.vars.slice
    obtain ⟨na, nc, rfl⟩ := hra.nums.slice
    obtain ⟨r, hr⟩ : ∃ r, r = drget p.rules j := ⟨_, rfl⟩
    have hr0 := HPP.out.2.2.2.2 j hj
    rw [Int.toNat_natCast] at HR
    have HRR := Lib.hid hr
    rw [← hr] at hra q0 q1 q2 q3 hr0 HR
    have hjI : ((j : Nat) : Int) < ((p.rules.length : Nat) : Int) := by omega
    have zrb : rb < W.heap.size := by have := HB0.out.size; omega
    have HRA := Lib.hid hra; have HR0 := Lib.hid hr0
    have HPL := Lib.hid (fun (d : Nat) (os : Array Obj) => place_any r cx _ _ (Go.Sort.grow (redrawn W d) os) (((HRA.out.mono (show B ≤ W.heap.size by have := HB0.out.size; omega)).below (below_regrown W d os) (Nat.le_refl _))) (below_regrown W d os).size)
    unfold ruleV at HPL
    clear hra hr0 hr
    cases h2 : ihas r.vars cx <;> rw [h2] at HR
    case false =>
      have hpl : placeD r.vars cx = -1 := by unfold placeD; rw [h2]; rfl
      rw [hpl] at HPL
      clear h2 hpl
      go_wp2_with fail
      refine wp_region_qb (by kernel_rfl) (by kernel_rfl) ?_
      repeat go_big_quiet_step ((first | (with_reducible exact Gives.quiet (HIN.out _ _)) | (with_reducible exact Gives.quiet (HPL.out _ _))))
      refine wpQuiet_nil ?_
      intro w2 hb2
      have HB2 := Lib.hid (HB0.out.trans (hb2.mono HB0.out.size))
      clear hb2
      go_wp2
      go_ret
      exact ⟨by rw [HR.out]; rfl, HB2.out⟩
    case true =>
      have hmem : cx ∈ r.vars := by unfold ihas at h2; rwa [List.contains_iff_mem] at h2
      rw [place_mem hmem] at HPL
      have HMEM := Lib.hid hmem
      have hcx : 0 ≤ cx ∧ cx < p.doms.length := by
        obtain ⟨i, hi, e⟩ := List.mem_iff_getElem.1 hmem
        have := (ruleD_parts HR0.out).2.2.1 i hi
        rw [show iget r.vars i = cx by simp [iget, hi, e]] at this
        omega
      obtain ⟨x, rfl⟩ : ∃ x : Nat, cx = x := ⟨cx.toNat, by omega⟩
      have hxn : x < p.doms.length := by omega
      have hxI : ((x : Nat) : Int) < ((p.doms.length : Nat) : Int) := by omega
      obtain ⟨_, a', c', hae, _, _, hdr⟩ := HDV.out.below HB0.out hB
      cases hae
      obtain ⟨db, doff, rfl, zdb, hdc⟩ := hdr (by omega)
      have e0 : W.cell? ⟨db, doff + x, none⟩ = some (.int .u64 (nget p.doms x : Nat)) := hdc x (by omega)
      have zdb2 : db < W.heap.size := by have := HB0.out.size; omega
      rw [Int.toNat_natCast] at HR
      have hdu : U64 (nget p.doms x) := Nat.lt_trans (HPP.out.2.2.2.1 x) (by decide)
      have HHAS := Lib.hid (fun (d : Nat) (os : Array Obj) => (Gives.of_same (refHas_any (nget p.doms x) cv (Go.Sort.grow (redrawn W d) os) hdu)))
      have HALL := Lib.hid (fun (d : Nat) (os : Array Obj) => (Gives.of_same (all_any cw 0 ((l.length : Int) - 1) _ (Go.Sort.grow (redrawn W d) os) ((HYV.out.below HB0.out hB).mono (show B ≤ W.heap.size by have := HB0.out.size; omega) |>.below (below_regrown W d os) (Nat.le_refl _)))))
      have hid : ¬ (((r.vars.idxOf (x : Int) : Nat) : Int) < 0) := by omega
      clear hdr hdc h2 hmem hcx hdu
      cases h3 : hasD (nget p.doms x) cv <;> rw [h3] at HHAS HR
      case false =>
        clear h3
        go_wp2_with fail
        refine wp_region_qb (by kernel_rfl) (by kernel_rfl) ?_
        repeat go_big_quiet_step ((first | (with_reducible exact Gives.quiet (HIN.out _ _)) | (with_reducible exact Gives.quiet (HPL.out _ _)) | (with_reducible exact Gives.quiet (HHAS.out _ _))))
        refine wpQuiet_nil ?_
        intro w2 hb2
        have HB2 := Lib.hid (HB0.out.trans (hb2.mono HB0.out.size))
        clear hb2
        go_wp2
        go_ret
        exact ⟨by rw [HR.out]; rfl, HB2.out⟩
      case true =>
        clear h3
        cases h4 : allB cw 0 ((l.length : Int) - 1) <;> rw [h4] at HALL HR
        case false =>
          clear h4
          go_wp2_with fail
          refine wp_region_qb (by kernel_rfl) (by kernel_rfl) ?_
          repeat go_big_quiet_step ((first | (with_reducible exact Gives.quiet (HIN.out _ _)) | (with_reducible exact Gives.quiet (HPL.out _ _)) | (with_reducible exact Gives.quiet (HHAS.out _ _)) | (with_reducible exact Gives.quiet (HALL.out _ _))))
          refine wpQuiet_nil ?_
          intro w2 hb2
          have HB2 := Lib.hid (HB0.out.trans (hb2.mono HB0.out.size))
          clear hb2
          go_wp2
          go_ret
          exact ⟨by rw [HR.out]; rfl, HB2.out⟩
        case true =>
          have HW := Lib.hid (fun i hi => allB_nat h4 i hi)
          clear h4
          go_wp2_with fail
          refine wp_region_qb (by kernel_rfl) (by kernel_rfl) ?_
          repeat go_big_quiet_step ((first | (with_reducible exact Gives.quiet (HIN.out _ _)) | (with_reducible exact Gives.quiet (HPL.out _ _)) | (with_reducible exact Gives.quiet (HHAS.out _ _)) | (with_reducible exact Gives.quiet (HALL.out _ _))))
          refine wpQuiet_nil ?_
          intro w2 hb2
          have HB2 := Lib.hid (HB0.out.trans (hb2.mono HB0.out.size)); have K2 := Lib.hid (heap_later K0.out hb2 z0); have F2 := Lib.hid (heap_later F0.out hb2 z1)
          clear hb2 HB0 K0 F0 HIN HPL HHAS HALL c0 c1 d0 d1 d2 d3 q0 q1 q2 q3 e0 z0 z1 zrb zdb2
          have hus2 := HLV.out.below HB2.out hB
          go_wp2_with fail
          clear hus2
          go_loopw [7] (fun iv wr => ∃ k : Nat, k ≤ l.length ∧ iv = .int .i64 k ∧ (∀ i, i < k → ((cget l i).var == (x : Int) && (cget l i).value == cv) = false) ∧ wr.heap[w.heap.size]? = some (.cells #[.slice (some ⟨db, doff, none⟩) p.doms.length dc, .slice (some ⟨rb, ro, none⟩) p.rules.length rc] 25 (0, 0)) ∧ wr.heap[w.heap.size + 1]? = some (.cells #[.int .i64 x, .int .i64 cv, .int .i64 j, .slice ya cw.length yc] 73 (0, 0)) ∧ Below w.heap.size w wr) (fun iv _ => l.length - (intOf iv).toNat)
          case atStart => exact ⟨0, Nat.zero_le _, rfl, fun j hj => absurd hj (Nat.not_lt_zero _), K2.out, F2.out, HB2.out⟩
          case round =>
            obtain ⟨k, hk, rfl, hall, kr, fr, hb⟩ := hrel
            have d0 : wr.cell? ⟨w.heap.size + 1, 0, none⟩ = some (.int .i64 (x : Nat)) := by rw [cell_of_row _ _ _ _ _ _ fr]; rfl
            have d1 : wr.cell? ⟨w.heap.size + 1, 1, none⟩ = some (.int .i64 cv) := by rw [cell_of_row _ _ _ _ _ _ fr]; rfl
            have z1 : w.heap.size + 1 < wr.heap.size := (Array.getElem?_eq_some_iff.1 fr).1
            have z0 : w.heap.size < wr.heap.size := by omega
            have HNO := Lib.hid hall; have KR := Lib.hid kr; have FR := Lib.hid fr; have HBR := Lib.hid hb
            clear hall kr fr hb K2 F2 HB2
            by_cases hlt : k < l.length
            · obtain ⟨lb, lo, ov, rfl, hlb, hov, l0, l1, l2, l3⟩ := (HLV.out.below HBR.out hB).cells hlt
              have zl : lb < wr.heap.size := by have := HBR.out.size; omega
              have hkI : ((k : Nat) : Int) < ((l.length : Nat) : Int) := by omega
              obtain ⟨cv2, hcv2⟩ : ∃ z, z = (cget l k).var := ⟨_, rfl⟩
              obtain ⟨ce2, hce2⟩ : ∃ z, z = (cget l k).value := ⟨_, rfl⟩
              rw [← hcv2] at l0
              rw [← hce2] at l1
              have HC1 := Lib.hid hcv2; have HC2 := Lib.hid hce2
              clear hcv2 hce2 hov l2 l3
              cases hv : (cv2 == (x : Int))
              case false =>
                have HN : Hid (((cget l k).var == (x : Int) && (cget l k).value == cv) = false) := Lib.hid (by rw [← HC1.out, hv]; rfl)
                go_wp2_with fail
                refine wp_region_qb (by kernel_rfl) (by kernel_rfl) ?_
                repeat go_big_quiet_step (fail)
                refine wpQuiet_nil ?_
                intro w4 hb4
                have HB4 := Lib.hid (HBR.out.trans (hb4.mono HBR.out.size)); have K4 := Lib.hid (heap_later KR.out hb4 z0); have F4 := Lib.hid (heap_later FR.out hb4 z1)
                clear hb4
                go_wp2
                go_roundw
                case rel => exact ⟨k + 1, by omega, by go_num, fun i hi => if h : i = k then (by subst h; exact HN.out) else HNO.out i (by omega), K4.out, F4.out, HB4.out⟩
                case measure => simp [intOf]; omega
              case true =>
                cases he : (ce2 == cv)
                case false =>
                  have HN : Hid (((cget l k).var == (x : Int) && (cget l k).value == cv) = false) := Lib.hid (by rw [← HC1.out, ← HC2.out, hv, he]; rfl)
                  go_wp2_with fail
                  refine wp_region_qb (by kernel_rfl) (by kernel_rfl) ?_
                  repeat go_big_quiet_step (fail)
                  refine wpQuiet_nil ?_
                  intro w4 hb4
                  have HB4 := Lib.hid (HBR.out.trans (hb4.mono HBR.out.size)); have K4 := Lib.hid (heap_later KR.out hb4 z0); have F4 := Lib.hid (heap_later FR.out hb4 z1)
                  clear hb4
                  go_wp2
                  go_roundw
                  case rel => exact ⟨k + 1, by omega, by go_num, fun i hi => if h : i = k then (by subst h; exact HN.out) else HNO.out i (by omega), K4.out, F4.out, HB4.out⟩
                  case measure => simp [intOf]; omega
                case true =>
                  have HN := Lib.hid (any_yes hlt (show ((cget l k).var == (x : Int) && (cget l k).value == cv) = true by rw [← HC1.out, ← HC2.out, hv, he]; rfl))
                  go_wp2_with fail
                  refine wp_region_qb (by kernel_rfl) (by kernel_rfl) ?_
                  repeat go_big_quiet_step (fail)
                  refine wpQuiet_nil ?_
                  intro w4 hb4
                  have HB4 := Lib.hid (HBR.out.trans (hb4.mono HBR.out.size))
                  clear hb4
                  go_wp2
                  go_ret
                  exact ⟨by rw [HR.out, HN.out]; rfl, HB4.out⟩
            · have hk2 : k = l.length := by omega
              subst hk2
              have hany := any_no HNO.out
              have HR2 : Hid (rightD p l ⟨(x : Int), cv, (j : Int), cw⟩ = ((List.range (cw.length - 1)).all (fun i => decide (iget cw i < iget cw (i + 1))) && explD p l ⟨(x : Int), cv, (j : Int), cw⟩)) := Lib.hid (by rw [HR.out, hany]; rfl)
              clear hany HR HNO d0 d1 z0 z1
              go_wp2_with fail
              go_loopw [8] (fun iv wr => ∃ m : Nat, (m = 0 ∨ m + 1 ≤ cw.length) ∧ iv = .int .i64 ((m : Nat) + 1 : Int) ∧ (∀ i, i < m → iget cw i < iget cw (i + 1)) ∧ wr.heap[w.heap.size]? = some (.cells #[.slice (some ⟨db, doff, none⟩) p.doms.length dc, .slice (some ⟨rb, ro, none⟩) p.rules.length rc] 25 (0, 0)) ∧ wr.heap[w.heap.size + 1]? = some (.cells #[.int .i64 x, .int .i64 cv, .int .i64 j, .slice ya cw.length yc] 73 (0, 0)) ∧ Below w.heap.size w wr) (fun iv _ => cw.length + 1 - (intOf iv).toNat)
              case atStart => exact ⟨0, .inl rfl, rfl, fun j hj => absurd hj (Nat.not_lt_zero _), KR.out, FR.out, HBR.out⟩
              case round =>
                obtain ⟨m, hm, rfl, hup, kr, fr, hb⟩ := hrel
                have d0 : wr.cell? ⟨w.heap.size + 1, 0, none⟩ = some (.int .i64 (x : Nat)) := by rw [cell_of_row _ _ _ _ _ _ fr]; rfl
                have d1 : wr.cell? ⟨w.heap.size + 1, 1, none⟩ = some (.int .i64 cv) := by rw [cell_of_row _ _ _ _ _ _ fr]; rfl
                have d2 : wr.cell? ⟨w.heap.size + 1, 2, none⟩ = some (.int .i64 j) := by rw [cell_of_row _ _ _ _ _ _ fr]; rfl
                have d3 : wr.cell? ⟨w.heap.size + 1, 3, none⟩ = some (.slice ya cw.length yc) := by rw [cell_of_row _ _ _ _ _ _ fr]; rfl
                have c0 : wr.cell? ⟨w.heap.size, 0, none⟩ = some (.slice (some ⟨db, doff, none⟩) p.doms.length dc) := by rw [cell_of_row _ _ _ _ _ _ kr]; rfl
                have c1 : wr.cell? ⟨w.heap.size, 1, none⟩ = some (.slice (some ⟨rb, ro, none⟩) p.rules.length rc) := by rw [cell_of_row _ _ _ _ _ _ kr]; rfl
                have z1 : w.heap.size + 1 < wr.heap.size := (Array.getElem?_eq_some_iff.1 fr).1
                have z0 : w.heap.size < wr.heap.size := by omega
                have HUP := Lib.hid hup; have KR2 := Lib.hid kr; have FR2 := Lib.hid fr; have HBR2 := Lib.hid hb; have HM := Lib.hid hm
                clear hup kr fr hb hm KR FR HBR
                by_cases hlt : m + 1 < cw.length
                · obtain ⟨_, a', cap', hae, _, _, hrow⟩ := HYV.out.below HBR2.out hB
                  cases hae
                  obtain ⟨yb, yo, rfl, hyb, hycell⟩ := hrow (by omega)
                  have y0 : wr.cell? ⟨yb, yo + m, none⟩ = some (.int .i64 (iget cw m)) := hycell m (by omega)
                  have y1 : wr.cell? ⟨yb, yo + (m + 1), none⟩ = some (.int .i64 (iget cw (m + 1))) := hycell (m + 1) (by omega)
                  have zy : yb < wr.heap.size := by have := HBR2.out.size; omega
                  obtain ⟨a, ha⟩ : ∃ z, z = iget cw m := ⟨_, rfl⟩
                  obtain ⟨b, hb⟩ : ∃ z, z = iget cw (m + 1) := ⟨_, rfl⟩
                  rw [← ha] at y0
                  rw [← hb] at y1
                  have hI : ((m : Nat) : Int) + 1 < ((cw.length : Nat) : Int) := by omega
                  have hm1 : ((m : Nat) : Int) + 1 - 1 = ((m : Nat) : Int) := by omega
                  have hmI : ((m : Nat) : Int) < ((cw.length : Nat) : Int) := by omega
                  have HA := Lib.hid ha; have HBB := Lib.hid hb
                  clear ha hb hrow hycell
                  by_cases hab : b ≤ a
                  case pos =>
                    have HN := Lib.hid (up_no (l := cw) (i := m) hlt (by rw [← HA.out, ← HBB.out]; omega))
                    go_wp2_with fail
                    refine wp_region_qb (by kernel_rfl) (by kernel_rfl) ?_
                    repeat go_big_quiet_step (fail)
                    refine wpQuiet_nil ?_
                    intro w4 hb4
                    have HB4 := Lib.hid (HBR2.out.trans (hb4.mono HBR2.out.size))
                    clear hb4
                    go_wp2
                    go_ret
                    exact ⟨by rw [HR2.out, HN.out]; rfl, HB4.out⟩
                  case neg =>
                    have HN : Hid (iget cw m < iget cw (m + 1)) := Lib.hid (by rw [← HA.out, ← HBB.out]; omega)
                    go_wp2_with fail
                    refine wp_region_qb (by kernel_rfl) (by kernel_rfl) ?_
                    repeat go_big_quiet_step (fail)
                    refine wpQuiet_nil ?_
                    intro w4 hb4
                    have HB4 := Lib.hid (HBR2.out.trans (hb4.mono HBR2.out.size)); have K4 := Lib.hid (heap_later KR2.out hb4 z0); have F4 := Lib.hid (heap_later FR2.out hb4 z1)
                    clear hb4
                    go_wp2
                    go_roundw
                    case rel => exact ⟨m + 1, .inr (by omega), by go_num, fun i hi => if h : i = m then (by subst h; exact HN.out) else HUP.out i (by omega), K4.out, F4.out, HB4.out⟩
                    case measure => simp [intOf]; omega
                · have hI : ¬ ((m : Nat) : Int) + 1 < ((cw.length : Nat) : Int) := by omega
                  have HY := Lib.hid (up_yes (l := cw) fun i hi => HUP.out i (by rcases HM.out with h | h <;> omega))
                  have HRS := Lib.hid (fun (V : World) (hV : Below w.heap.size w V) => refReason_any p HPO.out l x j cv cw HL.out HW.out (by rw [← HRR.out]; exact HMEM.out) hj ya cw.length yc _ _ _ _ V (B := B) (HDV.out.below hV hB) (HRV.out.below hV hB) (HLV.out.below hV hB) (HYV.out.below hV hB) (Nat.le_trans hB hV.size))
                  go_wp2_with fail
                  refine (HRS.out _ HBR2.out).mono ?_
                  rintro e w5 ⟨rfl, hb5⟩
                  have HB5 := Lib.hid (HBR2.out.trans (hb5.mono HBR2.out.size))
                  clear hb5
                  go_wp2
                  go_ret
                  exact ⟨by rw [HR2.out, HY.out]; rfl, HB5.out⟩
end Go.Proofs.YtdmmegmkdhinjaaGreatDoor
