/- The law DomainSolves, walked. -/
import Derived.Test.YtdmmegmkdhinjaaGreatDoorBO
import Derived.Test.YtdmmegmkdhinjaaGreatDoorRefU
namespace Go.Proofs.YtdmmegmkdhinjaaGreatDoor
open Go Go.RowKit
attribute [local go_sem] cell_grow u64_sAnd u64_sOr u64_sDiff sDiff_all zeqI zneI sAnd_bit_zero sAnd_bit_zeroN sAnd_bit_nonzero

theorem besL_le {p : Dp} (hpo : probD p = true) {v : Nat} (hv : v < p.doms.length) : (besL p (v : Nat)).length ≤ p.doms.length := by
  by_cases h0 : besE p (v : Nat) = 0
  · have he := besE_eq hpo hv
    cases ho : (searchD p (solveF 2001) []).opn
    · rw [besL_eq hpo hv ho]
      cases hb : bestOf v (searchD p (solveF 2001) []).got with
      | none => exact Nat.zero_le _
      | some o => exact Nat.le_of_eq (sol_lens hpo 2001 o (bestOf_mem v _ hb))
    · rw [ho] at he
      have he : besE p (v : Nat) = 8 := he
      omega
  · unfold besL; rw [if_neg h0]; exact Nat.zero_le _
set_option maxRecDepth 100000 in
set_option maxHeartbeats 4000000 in
theorem domainSolves_any (p : Dp) (most v : Int) (dv rv : Value) (w : World) {B : Nat} (hdv : Us w B dv p.doms) (hrv : DRls w B rv p.rules) (hB0 : 0 < B) (hB : B ≤ w.heap.size) (hu : U64l p.doms) (hT : Tab w) :
    Gives Tryz.prog 5 #[.agg #[dv, rv], .int .i64 most, .int .i64 v] w (.bool true) := by
  unfold Gives
  have hw0 : 0 < w.heap.size := by omega
  have HDV := Lib.hid hdv; have HRV := Lib.hid hrv; have HT := Lib.hid hT; have HU := Lib.hid hu
  have hrl := hrv.len
  have hdl := hdv.1
  obtain ⟨da, dc, rfl⟩ := hdv.slice
  obtain ⟨ra, rc, rfl⟩ := hrv.slice
  clear hdv hrv hT hu
  have K0 := Lib.hid (heap_new0 w (.cells #[.slice da p.doms.length dc, .slice ra p.rules.length rc] 25)); have HB0 := Lib.hid (Below.new1 w (.cells #[.slice da p.doms.length dc, .slice ra p.rules.length rc] 25))
  go_enter Tryz.func5, Tryz.ntmps5
  go_wp2_with fail
  refine (small_any p _ _ _ (HDV.out.below HB0.out hB) (HRV.out.below HB0.out hB) (by simp; omega)).mono ?_
  rintro e w1 ⟨rfl, hb1⟩
  have HB1 := Lib.hid (HB0.out.trans (hb1.mono (by simp))); have K1 := Lib.hid (heap_later K0.out hb1 (by simp))
  clear hb1 K0 HB0
  have z1 : w.heap.size < w1.heap.size := (Array.getElem?_eq_some_iff.1 K1.out).1
  cases hsm : smallD p
  case false =>
    clear hsm
    go_wp2_with fail
    refine (works_any _ (HT.out.below HB1.out hw0) (by have := HB1.out.size; omega)).mono ?_
    rintro e1 w9 ⟨rfl, hb9⟩
    have HF := Lib.hid (HB1.out.trans (hb9.mono HB1.out.size))
    clear hb9
    go_wp2
    go_ret
    exact ⟨rfl, HF.out⟩
  case true =>
    clear hsm
    have c0 : w1.cell? ⟨w.heap.size, 0, none⟩ = some (.slice da p.doms.length dc) := by rw [cell_of_row _ _ _ _ _ _ K1.out]; rfl
    have c1 : w1.cell? ⟨w.heap.size, 1, none⟩ = some (.slice ra p.rules.length rc) := by rw [cell_of_row _ _ _ _ _ _ K1.out]; rfl
    go_wp2_with fail
    refine (wide_any p _ _ _ (HDV.out.below HB1.out hB) (by omega) HU.out ra p.rules.length rc rfl).mono ?_
    rintro e w2 ⟨rfl, hb2⟩
    have HB2 := Lib.hid (HB1.out.trans (hb2.mono HB1.out.size)); have K2 := Lib.hid (heap_later K1.out hb2 z1)
    clear hb2 c0 c1
    have z2 : w.heap.size < w2.heap.size := (Array.getElem?_eq_some_iff.1 K2.out).1
    have c0 : w2.cell? ⟨w.heap.size, 0, none⟩ = some (.slice da p.doms.length dc) := by rw [cell_of_row _ _ _ _ _ _ K2.out]; rfl
    have c1 : w2.cell? ⟨w.heap.size, 1, none⟩ = some (.slice ra p.rules.length rc) := by rw [cell_of_row _ _ _ _ _ _ K2.out]; rfl
    cases hwd : wideD p
    case true =>
      clear hwd
      go_wp2_with fail
      refine (works_any _ (HT.out.below HB2.out hw0) (by have := HB2.out.size; omega)).mono ?_
      rintro e1 w9 ⟨rfl, hb9⟩
      have HF := Lib.hid (HB2.out.trans (hb9.mono HB2.out.size))
      clear hb9
      go_wp2
      go_ret
      exact ⟨rfl, HF.out⟩
    case false =>
      clear hwd
      go_wp2_with fail
      refine (solve_any p most _ _ _ (HDV.out.below HB2.out hB) (HRV.out.below HB2.out hB) hB0 (by omega) (HT.out.below HB2.out hw0)).mono ?_
      rintro e w3 ⟨sv, rfl, hso, hb3⟩
      obtain ⟨sa, sc, rfl⟩ := hso.form
      have HB3 := Lib.hid (HB2.out.trans (hb3.mono HB2.out.size)); have K3 := Lib.hid (heap_later K2.out hb3 z2); have HS3 := Lib.hid hso
      clear hb3 c0 c1 hso
      have z3 : w.heap.size < w3.heap.size := (Array.getElem?_eq_some_iff.1 K3.out).1
      have c0 : w3.cell? ⟨w.heap.size, 0, none⟩ = some (.slice da p.doms.length dc) := by rw [cell_of_row _ _ _ _ _ _ K3.out]; rfl
      have c1 : w3.cell? ⟨w.heap.size, 1, none⟩ = some (.slice ra p.rules.length rc) := by rw [cell_of_row _ _ _ _ _ _ K3.out]; rfl
      go_wp2_with fail
      refine (best_any p v _ _ _ (HDV.out.below HB3.out hB) (HRV.out.below HB3.out hB) hB0 (by omega) (HT.out.below HB3.out hw0)).mono ?_
      rintro e w4 ⟨bv, rfl, hbo, hb4⟩
      obtain ⟨ba, bc, rfl⟩ := own_form hbo
      have HB4 := Lib.hid (HB3.out.trans (hb4.mono HB3.out.size)); have K4 := Lib.hid (heap_later K3.out hb4 z3); have HS4 := Lib.hid (HS3.out.ck (CK.below hb4)); have HBO4 := Lib.hid hbo
      clear hb4 c0 c1 hbo HS3
      have z4 : w.heap.size < w4.heap.size := (Array.getElem?_eq_some_iff.1 K4.out).1
      have c0 : w4.cell? ⟨w.heap.size, 0, none⟩ = some (.slice da p.doms.length dc) := by rw [cell_of_row _ _ _ _ _ _ K4.out]; rfl
      have c1 : w4.cell? ⟨w.heap.size, 1, none⟩ = some (.slice ra p.rules.length rc) := by rw [cell_of_row _ _ _ _ _ _ K4.out]; rfl
      go_wp2_with fail
      refine (refProb_any p _ _ _ (HDV.out.below HB4.out hB) (HRV.out.below HB4.out hB) (by omega) HU.out).mono ?_
      rintro e w5 ⟨rfl, hb5⟩
      have HB5 := Lib.hid (HB4.out.trans (hb5.mono HB4.out.size)); have K5 := Lib.hid (heap_later K4.out hb5 z4); have HS5 := Lib.hid (HS4.out.ck (CK.below hb5)); have HBO5 := Lib.hid (own_ck HBO4.out (CK.below hb5))
      clear hb5 c0 c1 HS4 HBO4
      have z5 : w.heap.size < w5.heap.size := (Array.getElem?_eq_some_iff.1 K5.out).1
      have c0 : w5.cell? ⟨w.heap.size, 0, none⟩ = some (.slice da p.doms.length dc) := by rw [cell_of_row _ _ _ _ _ _ K5.out]; rfl
      have c1 : w5.cell? ⟨w.heap.size, 1, none⟩ = some (.slice ra p.rules.length rc) := by rw [cell_of_row _ _ _ _ _ _ K5.out]; rfl
      cases hpo : probD p
      case false =>
        have e1 : solE p most = 2 := by unfold solE; rw [hpo]; rfl
        have e2 : solN p most = 0 := by unfold solN; rw [if_neg (by omega)]
        have e3 : (solL p most).length = 0 := by unfold solL; rw [if_neg (by omega)]; rfl
        have e4 : besE p v = 2 := by unfold besE; rw [hpo]; rfl
        have e5 : (besL p v).length = 0 := by unfold besL; rw [if_neg (by omega)]; rfl
        rw [e1, e2, e3, e4, e5]
        clear hpo e1 e2 e3 e4 e5
        go_wp2_with fail
        refine (works_any _ (HT.out.below HB5.out hw0) (by have := HB5.out.size; omega)).mono ?_
        rintro e1 w9 ⟨rfl, hb9⟩
        have HF := Lib.hid (HB5.out.trans (hb9.mono HB5.out.size))
        clear hb9
        go_wp2
        go_ret
        exact ⟨rfl, HF.out⟩
      case true =>
        have HPO := Lib.hid hpo
        have hn8 := (probD_parts hpo).2.1
        by_cases hmo : 1 ≤ most ∧ most ≤ 200
        case neg =>
          have hib : inB most 1 200 = false := by unfold inB; rw [Bool.eq_false_iff]; intro h; simp at h; omega
          have e1 : solE p most = 2 := by unfold solE; rw [hib, Bool.and_false]; rfl
          have e2 : solN p most = 0 := by unfold solN; rw [if_neg (by omega)]
          have e3 : (solL p most).length = 0 := by unfold solL; rw [if_neg (by omega)]; rfl
          rw [e1, e2, e3]
          clear hpo e1 e2 e3 hib c0 c1
          have HRF := Lib.hid (Below.refl w5.heap.size w5)
          by_cases h1 : most < 1
          · clear hmo
            have K9 := Lib.hid (heap_later K5.out (HRF).out z5)
            have HW9 := Lib.hid (HB5.out.trans ((HRF).out.mono HB5.out.size))
            have z9 : w.heap.size < w5.heap.size := (Array.getElem?_eq_some_iff.1 K9.out).1
            have c0 : w5.cell? ⟨w.heap.size, 0, none⟩ = some (.slice da p.doms.length dc) := by rw [cell_of_row _ _ _ _ _ _ K9.out]; rfl
            have c1 : w5.cell? ⟨w.heap.size, 1, none⟩ = some (.slice ra p.rules.length rc) := by rw [cell_of_row _ _ _ _ _ _ K9.out]; rfl
            by_cases hin : 0 ≤ v ∧ v < (p.doms.length : Int)
            case neg =>
              have e3 : besE p v = 2 := by
                unfold besE
                rw [show inB v 0 ((p.doms.length : Int) - 1) = false by unfold inB; rw [Bool.eq_false_iff]; intro h; simp at h; omega]; simp
              have e4 : (besL p v).length = 0 := by unfold besL; rw [if_neg (by omega)]; rfl
              rw [e3, e4]
              clear e3 e4
              by_cases h0 : v < 0
              · clear hin
                go_wp2_with fail
                refine (works_any _ (HT.out.below HW9.out hw0) (by have := HW9.out.size; omega)).mono ?_
                rintro e1 w9 ⟨rfl, hb9⟩
                have HF := Lib.hid (HW9.out.trans (hb9.mono HW9.out.size))
                clear hb9
                go_wp2
                go_ret
                exact ⟨rfl, HF.out⟩
              · have h1 : (p.doms.length : Int) ≤ v := by omega
                clear hin
                go_wp2_with fail
                refine (works_any _ (HT.out.below HW9.out hw0) (by have := HW9.out.size; omega)).mono ?_
                rintro e1 w9 ⟨rfl, hb9⟩
                have HF := Lib.hid (HW9.out.trans (hb9.mono HW9.out.size))
                clear hb9
                go_wp2
                go_ret
                exact ⟨rfl, HF.out⟩
            case pos =>
              obtain ⟨vn, rfl⟩ : ∃ vn : Nat, v = vn := ⟨v.toNat, by omega⟩
              have hvn : vn < p.doms.length := by omega
              have hv1 : decide (((vn : Nat) : Int) < 0) = false := decide_eq_false (by omega)
              have hv2 : decide (((p.doms.length : Nat) : Int) ≤ ((vn : Nat) : Int)) = false := decide_eq_false (by omega)
              have hv3 : ((vn : Nat) : Int) < ((p.doms.length : Nat) : Int) := by omega
              have HRB := Lib.hid (refBest_any p HPO.out vn hvn _ _ w5 (HDV.out.below HW9.out hB) (HRV.out.below HW9.out hB) (by have := HW9.out.size; omega))
              have hbl : (besL p (vn : Nat)).length ≤ p.doms.length := besL_le HPO.out hvn
              obtain ⟨xs, hxs⟩ : ∃ xs, xs = besL p (vn : Nat) := ⟨_, rfl⟩
              obtain ⟨ee, hee⟩ : ∃ ee, ee = besE p (vn : Nat) := ⟨_, rfl⟩
              have HBO9 := Lib.hid (own_ck (HBO5).out (CK.below (HRF).out))
              rw [← hxs] at HBO9 hbl ⊢
              rw [← hee]
              have HXS := Lib.hid hxs; have HEE := Lib.hid hee
              clear hin hxs hee
              go_wp2_with fail
              refine HRB.out.mono ?_
              rintro e w10 ⟨lv, rfl, hlo, hb10⟩
              rw [← HXS.out] at hlo
              rw [← HEE.out]
              obtain ⟨la, lc, rfl⟩ := own_form hlo
              have HW10 := Lib.hid (HW9.out.trans (hb10.mono HW9.out.size))
              have HI1 := Lib.hid (ownsRow_ints (own_ck HBO9.out (CK.below hb10)) (by omega) rfl)
              have HI2 := Lib.hid (ownsRow_ints hlo (by omega) rfl)
              clear hlo hb10 c0 c1 HRB
              go_wp2_with fail
              refine (sameInts_any xs xs _ _ w10 HI1.out HI2.out (Nat.le_refl _)).mono ?_
              rintro e w11 ⟨rfl, hb11⟩
              have HW11 := Lib.hid (HW10.out.trans (hb11.mono HW10.out.size))
              clear hb11 HI1 HI2
              rw [show sameI xs xs = true by unfold sameI; simp]
              go_wp2_with fail
              refine (works_any _ (HT.out.below HW11.out hw0) (by have := HW11.out.size; omega)).mono ?_
              rintro e1 w9 ⟨rfl, hb9⟩
              have HF := Lib.hid (HW11.out.trans (hb9.mono HW11.out.size))
              clear hb9
              go_wp2
              go_ret
              exact ⟨rfl, HF.out⟩
          · have h2 : 200 < most := by omega
            clear hmo
            have K9 := Lib.hid (heap_later K5.out (HRF).out z5)
            have HW9 := Lib.hid (HB5.out.trans ((HRF).out.mono HB5.out.size))
            have z9 : w.heap.size < w5.heap.size := (Array.getElem?_eq_some_iff.1 K9.out).1
            have c0 : w5.cell? ⟨w.heap.size, 0, none⟩ = some (.slice da p.doms.length dc) := by rw [cell_of_row _ _ _ _ _ _ K9.out]; rfl
            have c1 : w5.cell? ⟨w.heap.size, 1, none⟩ = some (.slice ra p.rules.length rc) := by rw [cell_of_row _ _ _ _ _ _ K9.out]; rfl
            by_cases hin : 0 ≤ v ∧ v < (p.doms.length : Int)
            case neg =>
              have e3 : besE p v = 2 := by
                unfold besE
                rw [show inB v 0 ((p.doms.length : Int) - 1) = false by unfold inB; rw [Bool.eq_false_iff]; intro h; simp at h; omega]; simp
              have e4 : (besL p v).length = 0 := by unfold besL; rw [if_neg (by omega)]; rfl
              rw [e3, e4]
              clear e3 e4
              by_cases h0 : v < 0
              · clear hin
                go_wp2_with fail
                refine (works_any _ (HT.out.below HW9.out hw0) (by have := HW9.out.size; omega)).mono ?_
                rintro e1 w9 ⟨rfl, hb9⟩
                have HF := Lib.hid (HW9.out.trans (hb9.mono HW9.out.size))
                clear hb9
                go_wp2
                go_ret
                exact ⟨rfl, HF.out⟩
              · have h1 : (p.doms.length : Int) ≤ v := by omega
                clear hin
                go_wp2_with fail
                refine (works_any _ (HT.out.below HW9.out hw0) (by have := HW9.out.size; omega)).mono ?_
                rintro e1 w9 ⟨rfl, hb9⟩
                have HF := Lib.hid (HW9.out.trans (hb9.mono HW9.out.size))
                clear hb9
                go_wp2
                go_ret
                exact ⟨rfl, HF.out⟩
            case pos =>
              obtain ⟨vn, rfl⟩ : ∃ vn : Nat, v = vn := ⟨v.toNat, by omega⟩
              have hvn : vn < p.doms.length := by omega
              have hv1 : decide (((vn : Nat) : Int) < 0) = false := decide_eq_false (by omega)
              have hv2 : decide (((p.doms.length : Nat) : Int) ≤ ((vn : Nat) : Int)) = false := decide_eq_false (by omega)
              have hv3 : ((vn : Nat) : Int) < ((p.doms.length : Nat) : Int) := by omega
              have HRB := Lib.hid (refBest_any p HPO.out vn hvn _ _ w5 (HDV.out.below HW9.out hB) (HRV.out.below HW9.out hB) (by have := HW9.out.size; omega))
              have hbl : (besL p (vn : Nat)).length ≤ p.doms.length := besL_le HPO.out hvn
              obtain ⟨xs, hxs⟩ : ∃ xs, xs = besL p (vn : Nat) := ⟨_, rfl⟩
              obtain ⟨ee, hee⟩ : ∃ ee, ee = besE p (vn : Nat) := ⟨_, rfl⟩
              have HBO9 := Lib.hid (own_ck (HBO5).out (CK.below (HRF).out))
              rw [← hxs] at HBO9 hbl ⊢
              rw [← hee]
              have HXS := Lib.hid hxs; have HEE := Lib.hid hee
              clear hin hxs hee
              go_wp2_with fail
              refine HRB.out.mono ?_
              rintro e w10 ⟨lv, rfl, hlo, hb10⟩
              rw [← HXS.out] at hlo
              rw [← HEE.out]
              obtain ⟨la, lc, rfl⟩ := own_form hlo
              have HW10 := Lib.hid (HW9.out.trans (hb10.mono HW9.out.size))
              have HI1 := Lib.hid (ownsRow_ints (own_ck HBO9.out (CK.below hb10)) (by omega) rfl)
              have HI2 := Lib.hid (ownsRow_ints hlo (by omega) rfl)
              clear hlo hb10 c0 c1 HRB
              go_wp2_with fail
              refine (sameInts_any xs xs _ _ w10 HI1.out HI2.out (Nat.le_refl _)).mono ?_
              rintro e w11 ⟨rfl, hb11⟩
              have HW11 := Lib.hid (HW10.out.trans (hb11.mono HW10.out.size))
              clear hb11 HI1 HI2
              rw [show sameI xs xs = true by unfold sameI; simp]
              go_wp2_with fail
              refine (works_any _ (HT.out.below HW11.out hw0) (by have := HW11.out.size; omega)).mono ?_
              rintro e1 w9 ⟨rfl, hb9⟩
              have HF := Lib.hid (HW11.out.trans (hb9.mono HW11.out.size))
              clear hb9
              go_wp2
              go_ret
              exact ⟨rfl, HF.out⟩
        case pos =>
          have hm1 : decide (most < 1) = false := decide_eq_false (by omega)
          have hm2 : decide (200 < most) = false := decide_eq_false (by omega)
          have hib : inB most 1 200 = true := by unfold inB; simp; omega
          obtain ⟨S, hS⟩ : ∃ S, S = solS p most := ⟨_, rfl⟩
          have HE1 : Hid (solE p most = if S.opn then 8 else 0) := Lib.hid (by unfold solE; rw [hpo, hib, hS]; rfl)
          have hfw : S.got.length ≤ 2000 := by rw [hS]; exact sol_few p most
          have HLN : Hid (∀ i, i < S.got.length → (lget S.got i).length ≤ 1000) := Lib.hid fun i hi => by
            have := sol_lens HPO.out most (lget S.got i) (by
              rw [show (searchD p (solveF most) []).got = S.got by rw [hS]; rfl]
              unfold lget; rw [List.getElem?_eq_getElem hi]; exact List.getElem_mem hi)
            omega
          have HSV := Lib.hid (refSolve_any p HPO.out most (by omega) _ _ w5 (HDV.out.below HB5.out hB) (HRV.out.below HB5.out hB) (by omega))
          rw [← hS] at HSV
          have HS := Lib.hid hS
          clear hpo hib hS
          go_wp2_with fail
          refine HSV.out.mono ?_
          rintro e w6 ⟨tv, rfl, hto, hb6⟩
          obtain ⟨ta, tc, rfl⟩ := hto.form
          have hnw := Below.new1 w6 (.cells #[.slice ta S.got.length tc, .int .i64 (S.nodes : Nat), .bool S.opn] 51)
          have HB56 := Lib.hid (hb6.trans (hnw.mono hb6.size))
          have HT6 := Lib.hid (hto.ck (CK.below hnw)); have HS6 := Lib.hid (HS5.out.ck (CK.below (hb6.trans (hnw.mono hb6.size))))
          clear hto hb6 hnw c0 c1 HSV
          cases hop : S.opn
          case true =>
            have e1 : solE p most = 8 := by rw [HE1.out, hop]; rfl
            have e2 : solN p most = 0 := by unfold solN; rw [if_neg (by omega)]
            have e3 : (solL p most).length = 0 := by unfold solL; rw [if_neg (by omega)]; rfl
            rw [e1, e2, e3]
            rw [hop] at HB56 HT6 HS6
            clear e1 e2 e3 hop
            have K9 := Lib.hid (heap_later K5.out (HB56).out z5)
            have HW9 := Lib.hid (HB5.out.trans ((HB56).out.mono HB5.out.size))
            have z9 : w.heap.size < (w6.alloc (.cells #[.slice ta S.got.length tc, .int .i64 (S.nodes : Nat), .bool true] 51)).heap.size := (Array.getElem?_eq_some_iff.1 K9.out).1
            have c0 : (w6.alloc (.cells #[.slice ta S.got.length tc, .int .i64 (S.nodes : Nat), .bool true] 51)).cell? ⟨w.heap.size, 0, none⟩ = some (.slice da p.doms.length dc) := by rw [cell_of_row _ _ _ _ _ _ K9.out]; rfl
            have c1 : (w6.alloc (.cells #[.slice ta S.got.length tc, .int .i64 (S.nodes : Nat), .bool true] 51)).cell? ⟨w.heap.size, 1, none⟩ = some (.slice ra p.rules.length rc) := by rw [cell_of_row _ _ _ _ _ _ K9.out]; rfl
            by_cases hin : 0 ≤ v ∧ v < (p.doms.length : Int)
            case neg =>
              have e3 : besE p v = 2 := by
                unfold besE
                rw [show inB v 0 ((p.doms.length : Int) - 1) = false by unfold inB; rw [Bool.eq_false_iff]; intro h; simp at h; omega]; simp
              have e4 : (besL p v).length = 0 := by unfold besL; rw [if_neg (by omega)]; rfl
              rw [e3, e4]
              clear e3 e4
              by_cases h0 : v < 0
              · clear hin
                go_wp2_with fail
                refine (works_any _ (HT.out.below HW9.out hw0) (by have := HW9.out.size; omega)).mono ?_
                rintro e1 w9 ⟨rfl, hb9⟩
                have HF := Lib.hid (HW9.out.trans (hb9.mono HW9.out.size))
                clear hb9
                go_wp2
                go_ret
                exact ⟨rfl, HF.out⟩
              · have h1 : (p.doms.length : Int) ≤ v := by omega
                clear hin
                go_wp2_with fail
                refine (works_any _ (HT.out.below HW9.out hw0) (by have := HW9.out.size; omega)).mono ?_
                rintro e1 w9 ⟨rfl, hb9⟩
                have HF := Lib.hid (HW9.out.trans (hb9.mono HW9.out.size))
                clear hb9
                go_wp2
                go_ret
                exact ⟨rfl, HF.out⟩
            case pos =>
              obtain ⟨vn, rfl⟩ : ∃ vn : Nat, v = vn := ⟨v.toNat, by omega⟩
              have hvn : vn < p.doms.length := by omega
              have hv1 : decide (((vn : Nat) : Int) < 0) = false := decide_eq_false (by omega)
              have hv2 : decide (((p.doms.length : Nat) : Int) ≤ ((vn : Nat) : Int)) = false := decide_eq_false (by omega)
              have hv3 : ((vn : Nat) : Int) < ((p.doms.length : Nat) : Int) := by omega
              have HRB := Lib.hid (refBest_any p HPO.out vn hvn _ _ (w6.alloc (.cells #[.slice ta S.got.length tc, .int .i64 (S.nodes : Nat), .bool true] 51)) (HDV.out.below HW9.out hB) (HRV.out.below HW9.out hB) (by have := HW9.out.size; omega))
              have hbl : (besL p (vn : Nat)).length ≤ p.doms.length := besL_le HPO.out hvn
              obtain ⟨xs, hxs⟩ : ∃ xs, xs = besL p (vn : Nat) := ⟨_, rfl⟩
              obtain ⟨ee, hee⟩ : ∃ ee, ee = besE p (vn : Nat) := ⟨_, rfl⟩
              have HBO9 := Lib.hid (own_ck (HBO5).out (CK.below (HB56).out))
              rw [← hxs] at HBO9 hbl ⊢
              rw [← hee]
              have HXS := Lib.hid hxs; have HEE := Lib.hid hee
              clear hin hxs hee
              go_wp2_with fail
              refine HRB.out.mono ?_
              rintro e w10 ⟨lv, rfl, hlo, hb10⟩
              rw [← HXS.out] at hlo
              rw [← HEE.out]
              obtain ⟨la, lc, rfl⟩ := own_form hlo
              have HW10 := Lib.hid (HW9.out.trans (hb10.mono HW9.out.size))
              have HI1 := Lib.hid (ownsRow_ints (own_ck HBO9.out (CK.below hb10)) (by omega) rfl)
              have HI2 := Lib.hid (ownsRow_ints hlo (by omega) rfl)
              clear hlo hb10 c0 c1 HRB
              go_wp2_with fail
              refine (sameInts_any xs xs _ _ w10 HI1.out HI2.out (Nat.le_refl _)).mono ?_
              rintro e w11 ⟨rfl, hb11⟩
              have HW11 := Lib.hid (HW10.out.trans (hb11.mono HW10.out.size))
              clear hb11 HI1 HI2
              rw [show sameI xs xs = true by unfold sameI; simp]
              go_wp2_with fail
              refine (works_any _ (HT.out.below HW11.out hw0) (by have := HW11.out.size; omega)).mono ?_
              rintro e1 w9 ⟨rfl, hb9⟩
              have HF := Lib.hid (HW11.out.trans (hb9.mono HW11.out.size))
              clear hb9
              go_wp2
              go_ret
              exact ⟨rfl, HF.out⟩
          case false =>
            have e1 : solE p most = 0 := by rw [HE1.out, hop]; rfl
            have e2 : solN p most = S.nodes := by unfold solN; rw [if_pos e1, HS.out]
            have e3 : solL p most = S.got := by unfold solL; rw [if_pos e1, HS.out]
            rw [e3] at HS6
            rw [e1, e2, e3]
            rw [hop] at HB56 HT6 HS6
            have hll := HS6.out.lls (by omega) HLN.out
            have hlt := HT6.out.lls (by omega) HLN.out
            have HSL := Lib.hid (sameLists_any S.got S.got _ _ _ hll hlt (Nat.le_refl _))
            rw [show sameL S.got S.got = true by unfold sameL; simp] at HSL
            clear e1 e2 e3 hop hll hlt
            go_wp2_with fail
            refine HSL.out.mono ?_
            rintro e w7 ⟨rfl, hb7⟩
            have HB57 := Lib.hid (HB56.out.trans (hb7.mono HB56.out.size))
            have hk7 := heap_later (heap_new0 w6 (.cells #[.slice ta S.got.length tc, .int .i64 (S.nodes : Nat), .bool false] 51)) hb7 (by simp)
            have z7 : w6.heap.size < w7.heap.size := (Array.getElem?_eq_some_iff.1 hk7).1
            have t1 : w7.cell? ⟨w6.heap.size, 1, none⟩ = some (.int .i64 (S.nodes : Nat)) := by rw [cell_of_row _ _ _ _ _ _ hk7]; rfl
            clear hk7
            clear hb7 HSL HT6 HS6 HB56
            have K9 := Lib.hid (heap_later K5.out (HB57).out z5)
            have HW9 := Lib.hid (HB5.out.trans ((HB57).out.mono HB5.out.size))
            have z9 : w.heap.size < w7.heap.size := (Array.getElem?_eq_some_iff.1 K9.out).1
            have c0 : w7.cell? ⟨w.heap.size, 0, none⟩ = some (.slice da p.doms.length dc) := by rw [cell_of_row _ _ _ _ _ _ K9.out]; rfl
            have c1 : w7.cell? ⟨w.heap.size, 1, none⟩ = some (.slice ra p.rules.length rc) := by rw [cell_of_row _ _ _ _ _ _ K9.out]; rfl
            by_cases hin : 0 ≤ v ∧ v < (p.doms.length : Int)
            case neg =>
              have e3 : besE p v = 2 := by
                unfold besE
                rw [show inB v 0 ((p.doms.length : Int) - 1) = false by unfold inB; rw [Bool.eq_false_iff]; intro h; simp at h; omega]; simp
              have e4 : (besL p v).length = 0 := by unfold besL; rw [if_neg (by omega)]; rfl
              rw [e3, e4]
              clear e3 e4
              by_cases h0 : v < 0
              · clear hin
                go_wp2_with fail
                refine (works_any _ (HT.out.below HW9.out hw0) (by have := HW9.out.size; omega)).mono ?_
                rintro e1 w9 ⟨rfl, hb9⟩
                have HF := Lib.hid (HW9.out.trans (hb9.mono HW9.out.size))
                clear hb9
                go_wp2
                go_ret
                exact ⟨rfl, HF.out⟩
              · have h1 : (p.doms.length : Int) ≤ v := by omega
                clear hin
                go_wp2_with fail
                refine (works_any _ (HT.out.below HW9.out hw0) (by have := HW9.out.size; omega)).mono ?_
                rintro e1 w9 ⟨rfl, hb9⟩
                have HF := Lib.hid (HW9.out.trans (hb9.mono HW9.out.size))
                clear hb9
                go_wp2
                go_ret
                exact ⟨rfl, HF.out⟩
            case pos =>
              obtain ⟨vn, rfl⟩ : ∃ vn : Nat, v = vn := ⟨v.toNat, by omega⟩
              have hvn : vn < p.doms.length := by omega
              have hv1 : decide (((vn : Nat) : Int) < 0) = false := decide_eq_false (by omega)
              have hv2 : decide (((p.doms.length : Nat) : Int) ≤ ((vn : Nat) : Int)) = false := decide_eq_false (by omega)
              have hv3 : ((vn : Nat) : Int) < ((p.doms.length : Nat) : Int) := by omega
              have HRB := Lib.hid (refBest_any p HPO.out vn hvn _ _ w7 (HDV.out.below HW9.out hB) (HRV.out.below HW9.out hB) (by have := HW9.out.size; omega))
              have hbl : (besL p (vn : Nat)).length ≤ p.doms.length := besL_le HPO.out hvn
              obtain ⟨xs, hxs⟩ : ∃ xs, xs = besL p (vn : Nat) := ⟨_, rfl⟩
              obtain ⟨ee, hee⟩ : ∃ ee, ee = besE p (vn : Nat) := ⟨_, rfl⟩
              have HBO9 := Lib.hid (own_ck (HBO5).out (CK.below (HB57).out))
              rw [← hxs] at HBO9 hbl ⊢
              rw [← hee]
              have HXS := Lib.hid hxs; have HEE := Lib.hid hee
              clear hin hxs hee
              go_wp2_with fail
              refine HRB.out.mono ?_
              rintro e w10 ⟨lv, rfl, hlo, hb10⟩
              rw [← HXS.out] at hlo
              rw [← HEE.out]
              obtain ⟨la, lc, rfl⟩ := own_form hlo
              have HW10 := Lib.hid (HW9.out.trans (hb10.mono HW9.out.size))
              have HI1 := Lib.hid (ownsRow_ints (own_ck HBO9.out (CK.below hb10)) (by omega) rfl)
              have HI2 := Lib.hid (ownsRow_ints hlo (by omega) rfl)
              clear hlo hb10 c0 c1 HRB
              go_wp2_with fail
              refine (sameInts_any xs xs _ _ w10 HI1.out HI2.out (Nat.le_refl _)).mono ?_
              rintro e w11 ⟨rfl, hb11⟩
              have HW11 := Lib.hid (HW10.out.trans (hb11.mono HW10.out.size))
              clear hb11 HI1 HI2
              rw [show sameI xs xs = true by unfold sameI; simp]
              go_wp2_with fail
              refine (works_any _ (HT.out.below HW11.out hw0) (by have := HW11.out.size; omega)).mono ?_
              rintro e1 w9 ⟨rfl, hb9⟩
              have HF := Lib.hid (HW11.out.trans (hb9.mono HW11.out.size))
              clear hb9
              go_wp2
              go_ret
              exact ⟨rfl, HF.out⟩
end Go.Proofs.YtdmmegmkdhinjaaGreatDoor
