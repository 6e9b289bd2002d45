/- The law DomainVerifies, walked. -/
import Derived.Test.YtdmmegmkdhinjaaGreatDoorBO
import Derived.Test.YtdmmegmkdhinjaaGreatDoorRefN
namespace Go.Proofs.YtdmmegmkdhinjaaGreatDoor
open Go Go.RowKit
attribute [local go_sem] cell_grow u64_sAnd u64_sOr u64_sDiff sDiff_all zeqI zneI sAnd_bit_zero sAnd_bit_zeroN sAnd_bit_nonzero

theorem wrongD_cases (p : Dp) (l : List Cut) : wrongD p l = -1 ∨ ∃ k : Nat, wrongD p l = k := by
  unfold wrongD
  dsimp only
  split
  · exact .inr ⟨_, rfl⟩
  · exact .inl rfl
set_option maxRecDepth 100000 in
set_option maxHeartbeats 4000000 in
theorem domainVerifies_any (p : Dp) (l : List Cut) (n : Int) (dv rv lv : Value) (w : World) {B : Nat} (hdv : Us w B dv p.doms) (hrv : DRls w B rv p.rules) (hlv : Cts w B lv l) (hB0 : 0 < B) (hB : B ≤ w.heap.size) (hu : U64l p.doms) (hT : Tab w) :
    Gives Tryz.prog 4 #[.agg #[dv, rv], lv, .int .i64 n] w (.bool true) := by
  unfold Gives
  have hw0 : 0 < w.heap.size := by omega
  have HDV := Lib.hid hdv; have HRV := Lib.hid hrv; have HLV := Lib.hid hlv; have HT := Lib.hid hT; have HU := Lib.hid hu
  have hrl := hrv.len
  have hdl := hdv.1
  have hll := hlv.len
  obtain ⟨da, dc, rfl⟩ := hdv.slice
  obtain ⟨ra, rc, rfl⟩ := hrv.slice
  obtain ⟨la, lc, rfl⟩ := hlv.slice
  clear hdv hrv hlv hT hu
  have K0 := Lib.hid (heap_new0 w (.cells #[.slice da p.doms.length dc, .slice ra p.rules.length rc] 25)); have HB0 := Lib.hid (Below.new1 w (.cells #[.slice da p.doms.length dc, .slice ra p.rules.length rc] 25))
  go_enter Tryz.func4, Tryz.ntmps4
  go_wp2_with fail
  refine (small_any p _ _ _ (HDV.out.below HB0.out hB) (HRV.out.below HB0.out hB) (by simp; omega)).mono ?_
  rintro e w1 ⟨rfl, hb1⟩
  have HB1 := Lib.hid (HB0.out.trans (hb1.mono (by simp))); have K1 := Lib.hid (heap_later K0.out hb1 (by simp))
  clear hb1 K0 HB0
  have z1 : w.heap.size < w1.heap.size := (Array.getElem?_eq_some_iff.1 K1.out).1
  cases hsm : smallD p
  case false =>
    clear hsm
    go_wp2_with fail
    refine (works_any _ (HT.out.below HB1.out hw0) (by have := HB1.out.size; omega)).mono ?_
    rintro e1 w9 ⟨rfl, hb9⟩
    have HF := Lib.hid (HB1.out.trans (hb9.mono HB1.out.size))
    clear hb9
    go_wp2
    go_ret
    exact ⟨rfl, HF.out⟩
  case true =>
    clear hsm
    have c0 : w1.cell? ⟨w.heap.size, 0, none⟩ = some (.slice da p.doms.length dc) := by rw [cell_of_row _ _ _ _ _ _ K1.out]; rfl
    have c1 : w1.cell? ⟨w.heap.size, 1, none⟩ = some (.slice ra p.rules.length rc) := by rw [cell_of_row _ _ _ _ _ _ K1.out]; rfl
    go_wp2_with fail
    refine (smallLog_any l _ _ (HLV.out.below HB1.out hB) (by omega)).mono ?_
    rintro e w2 ⟨rfl, hb2⟩
    have HB2 := Lib.hid (HB1.out.trans (hb2.mono HB1.out.size)); have K2 := Lib.hid (heap_later K1.out hb2 z1)
    clear hb2 c0 c1
    have z2 : w.heap.size < w2.heap.size := (Array.getElem?_eq_some_iff.1 K2.out).1
    have c0 : w2.cell? ⟨w.heap.size, 0, none⟩ = some (.slice da p.doms.length dc) := by rw [cell_of_row _ _ _ _ _ _ K2.out]; rfl
    have c1 : w2.cell? ⟨w.heap.size, 1, none⟩ = some (.slice ra p.rules.length rc) := by rw [cell_of_row _ _ _ _ _ _ K2.out]; rfl
    cases hsp : smallL l
    case false =>
      clear hsp
      go_wp2_with fail
      refine (works_any _ (HT.out.below HB2.out hw0) (by have := HB2.out.size; omega)).mono ?_
      rintro e1 w9 ⟨rfl, hb9⟩
      have HF := Lib.hid (HB2.out.trans (hb9.mono HB2.out.size))
      clear hb9
      go_wp2
      go_ret
      exact ⟨rfl, HF.out⟩
    case true =>
      have h130 := (smallL_parts hsp).1
      clear hsp
      go_wp2_with fail
      refine (verify_any p l _ _ _ _ (HDV.out.below HB2.out hB) (HRV.out.below HB2.out hB) (HLV.out.below HB2.out hB) hB0 (by omega) (HT.out.below HB2.out hw0)).mono ?_
      rintro e w3 ⟨rfl, hb3⟩
      have HB3 := Lib.hid (HB2.out.trans (hb3.mono HB2.out.size)); have K3 := Lib.hid (heap_later K2.out hb3 z2)
      clear hb3 c0 c1
      have z3 : w.heap.size < w3.heap.size := (Array.getElem?_eq_some_iff.1 K3.out).1
      have c0 : w3.cell? ⟨w.heap.size, 0, none⟩ = some (.slice da p.doms.length dc) := by rw [cell_of_row _ _ _ _ _ _ K3.out]; rfl
      have c1 : w3.cell? ⟨w.heap.size, 1, none⟩ = some (.slice ra p.rules.length rc) := by rw [cell_of_row _ _ _ _ _ _ K3.out]; rfl
      go_wp2_with fail
      refine (core_any p l n (by omega) _ _ _ _ (HDV.out.below HB3.out hB) (HRV.out.below HB3.out hB) (HLV.out.below HB3.out hB) hB0 (by omega) (HT.out.below HB3.out hw0)).mono ?_
      rintro e w4 ⟨cv, rfl, hown, hb4⟩
      obtain ⟨ca, cc, rfl⟩ := own_form hown
      have HB4 := Lib.hid (HB3.out.trans (hb4.mono HB3.out.size)); have K4 := Lib.hid (heap_later K3.out hb4 z3); have HO4 := Lib.hid hown
      clear hb4 c0 c1 hown
      have z4 : w.heap.size < w4.heap.size := (Array.getElem?_eq_some_iff.1 K4.out).1
      have c0 : w4.cell? ⟨w.heap.size, 0, none⟩ = some (.slice da p.doms.length dc) := by rw [cell_of_row _ _ _ _ _ _ K4.out]; rfl
      have c1 : w4.cell? ⟨w.heap.size, 1, none⟩ = some (.slice ra p.rules.length rc) := by rw [cell_of_row _ _ _ _ _ _ K4.out]; rfl
      go_wp2_with fail
      refine (refProb_any p _ _ _ (HDV.out.below HB4.out hB) (HRV.out.below HB4.out hB) (by omega) HU.out).mono ?_
      rintro e w5 ⟨rfl, hb5⟩
      have HB5 := Lib.hid (HB4.out.trans (hb5.mono HB4.out.size)); have K5 := Lib.hid (heap_later K4.out hb5 z4); have HO5 := Lib.hid (own_ck HO4.out (CK.below hb5))
      clear hb5 c0 c1 HO4
      have z5 : w.heap.size < w5.heap.size := (Array.getElem?_eq_some_iff.1 K5.out).1
      have c0 : w5.cell? ⟨w.heap.size, 0, none⟩ = some (.slice da p.doms.length dc) := by rw [cell_of_row _ _ _ _ _ _ K5.out]; rfl
      have c1 : w5.cell? ⟨w.heap.size, 1, none⟩ = some (.slice ra p.rules.length rc) := by rw [cell_of_row _ _ _ _ _ _ K5.out]; rfl
      cases hpo : probD p
      case false =>
        have e1 : verN p l = 0 := by unfold verN; rw [hpo]; rfl
        have e2 : verE p l = 2 := by unfold verE; rw [hpo]; rfl
        have e3 : coreE p l n = 2 := by unfold coreE; rw [hpo]; rfl
        have e4 : (coreL p l n).length = 0 := by unfold coreL; rw [if_neg (by omega)]; rfl
        rw [e1, e2, e3, e4]
        clear hpo e1 e2 e3 e4
        go_wp2_with fail
        refine (works_any _ (HT.out.below HB5.out hw0) (by have := HB5.out.size; omega)).mono ?_
        rintro e1 w9 ⟨rfl, hb9⟩
        have HF := Lib.hid (HB5.out.trans (hb9.mono HB5.out.size))
        clear hb9
        go_wp2
        go_ret
        exact ⟨rfl, HF.out⟩
      case true =>
        have HPO := Lib.hid hpo
        go_wp2_with fail
        refine (refWrong_any p HPO.out l _ _ _ _ (HDV.out.below HB5.out hB) (HRV.out.below HB5.out hB) (HLV.out.below HB5.out hB) (by omega)).mono ?_
        rintro e w6 ⟨rfl, hb6⟩
        have HB6 := Lib.hid (HB5.out.trans (hb6.mono HB5.out.size)); have K6 := Lib.hid (heap_later K5.out hb6 z5); have HO6 := Lib.hid (own_ck HO5.out (CK.below hb6))
        clear hb6 c0 c1 HO5
        have z6 : w.heap.size < w6.heap.size := (Array.getElem?_eq_some_iff.1 K6.out).1
        have HCE : Hid (∀ m, coreE p l m = if inB m 0 ((l.length : Int) - 1) then (if 0 ≤ wrongD p l then 7 else 0) else 2) := Lib.hid fun m => by unfold coreE; rw [hpo]; rfl
        have HCL : Hid (∀ m, coreE p l m ≠ 0 → (coreL p l m).length = 0) := Lib.hid fun m h => by unfold coreL; rw [if_neg h]; rfl
        have hev : verE p l = if 0 ≤ wrongD p l then 7 else 0 := by unfold verE; rw [hpo]; rfl
        have hnv : verN p l = if 0 ≤ wrongD p l then wrongD p l else 0 := by unfold verN; rw [hpo]; rfl
        rw [hev, hnv]
        clear hev hnv hpo
        by_cases hin : 0 ≤ n ∧ n < (l.length : Int)
        case neg =>
          have hib : inB n 0 ((l.length : Int) - 1) = false := by unfold inB; rw [Bool.eq_false_iff]; intro h; simp at h; omega
          have e3 : coreE p l n = 2 := by rw [HCE.out, hib]; rfl
          have e4 : (coreL p l n).length = 0 := HCL.out n (by omega)
          rw [e3, e4]
          clear e3 e4 hib
          rcases wrongD_cases p l with hv | ⟨k, hv⟩
          · rw [hv]
            rw [if_neg (by decide), if_neg (by decide)]
            clear hv
            by_cases h0 : n < 0
            · clear hin
              go_wp2_with fail
              refine (works_any _ (HT.out.below HB6.out hw0) (by have := HB6.out.size; omega)).mono ?_
              rintro e1 w9 ⟨rfl, hb9⟩
              have HF := Lib.hid (HB6.out.trans (hb9.mono HB6.out.size))
              clear hb9
              go_wp2
              go_ret
              exact ⟨rfl, HF.out⟩
            · have h1 : (l.length : Int) ≤ n := by omega
              clear hin
              go_wp2_with fail
              refine (works_any _ (HT.out.below HB6.out hw0) (by have := HB6.out.size; omega)).mono ?_
              rintro e1 w9 ⟨rfl, hb9⟩
              have HF := Lib.hid (HB6.out.trans (hb9.mono HB6.out.size))
              clear hb9
              go_wp2
              go_ret
              exact ⟨rfl, HF.out⟩
          · rw [hv, if_pos (by omega), if_pos (by omega)]
            have hk0 : (0 : Int) ≤ (k : Int) := by omega
            have hk1 : ¬ ((k : Int) < 0) := by omega
            have e1 : ((k : Int) != (k : Int)) = false := by simp
            clear hv
            by_cases h0 : n < 0
            · clear hin
              go_wp2_with fail
              refine (works_any _ (HT.out.below HB6.out hw0) (by have := HB6.out.size; omega)).mono ?_
              rintro e1 w9 ⟨rfl, hb9⟩
              have HF := Lib.hid (HB6.out.trans (hb9.mono HB6.out.size))
              clear hb9
              go_wp2
              go_ret
              exact ⟨rfl, HF.out⟩
            · have h1 : (l.length : Int) ≤ n := by omega
              clear hin
              go_wp2_with fail
              refine (works_any _ (HT.out.below HB6.out hw0) (by have := HB6.out.size; omega)).mono ?_
              rintro e1 w9 ⟨rfl, hb9⟩
              have HF := Lib.hid (HB6.out.trans (hb9.mono HB6.out.size))
              clear hb9
              go_wp2
              go_ret
              exact ⟨rfl, HF.out⟩
        case pos =>
          obtain ⟨m, rfl⟩ : ∃ m : Nat, n = m := ⟨n.toNat, by omega⟩
          have hm : m < l.length := by omega
          have hmI : ((m : Nat) : Int) < ((l.length : Nat) : Int) := by omega
          have hm2 : ¬ (((m : Nat) : Int) < 0) := by omega
          have hm3 : ¬ ((l.length : Nat) : Int) ≤ ((m : Nat) : Int) := by omega
          have hib : inB ((m : Nat) : Int) 0 ((l.length : Int) - 1) = true := by unfold inB; simp; omega
          rcases wrongD_cases p l with hv | ⟨k, hv⟩
          · have e3 : coreE p l m = 0 := by rw [HCE.out, hib, hv]; rfl
            have e5 : coreL p l m = coreD p l m := by unfold coreL; rw [if_pos e3, Int.toNat_natCast]
            have HRL := Lib.hid (rlog_of HPO.out (l := l) (by rw [hv]; decide))
            obtain ⟨xs, hxs⟩ : ∃ xs, xs = coreD p l m := ⟨_, rfl⟩
            have hx12 : xs.length ≤ 12 := by rw [hxs]; exact Nat.le_trans core_len (probD_parts HPO.out).2.2.1
            rw [e3, e5, hv, if_neg (by decide), if_neg (by decide), ← hxs]
            rw [e5, ← hxs] at HO6
            have HCO := Lib.hid (fun (V : World) (hV : Below w.heap.size w V) => refCore_any p (by have := (probD_parts HPO.out).2.2.1; omega) l HRL.out m hm (by omega) _ _ _ V (HDV.out.below hV hB) (HRV.out.below hV hB) (HLV.out.below hV hB) (Nat.le_trans hB hV.size))
            rw [← hxs] at HCO
            clear e3 e5 hib hv hxs hin
            have c0 : w6.cell? ⟨w.heap.size, 0, none⟩ = some (.slice da p.doms.length dc) := by rw [cell_of_row _ _ _ _ _ _ K6.out]; rfl
            have c1 : w6.cell? ⟨w.heap.size, 1, none⟩ = some (.slice ra p.rules.length rc) := by rw [cell_of_row _ _ _ _ _ _ K6.out]; rfl
            go_wp2_with fail
            refine (HCO.out w6 HB6.out).mono ?_
            rintro e w7 ⟨yv, rfl, hyo, hb7⟩
            obtain ⟨ya, yc, rfl⟩ := own_form hyo
            have HB7 := Lib.hid (HB6.out.trans (hb7.mono HB6.out.size))
            have HI1 := Lib.hid (ownsRow_ints (own_ck HO6.out (CK.below hb7)) (by omega) rfl)
            have HI2 := Lib.hid (ownsRow_ints hyo (by omega) rfl)
            clear hyo hb7 c0 c1
            go_wp2_with fail
            refine (sameInts_any xs xs _ _ w7 HI1.out HI2.out (Nat.le_refl _)).mono ?_
            rintro e w8 ⟨rfl, hb8⟩
            have HB8 := Lib.hid (HB7.out.trans (hb8.mono HB7.out.size))
            clear hb8 HI1 HI2
            rw [show sameI xs xs = true by unfold sameI; simp]
            go_wp2_with fail
            refine (works_any _ (HT.out.below HB8.out hw0) (by have := HB8.out.size; omega)).mono ?_
            rintro e1 w9 ⟨rfl, hb9⟩
            have HF := Lib.hid (HB8.out.trans (hb9.mono HB8.out.size))
            clear hb9
            go_wp2
            go_ret
            exact ⟨rfl, HF.out⟩
          · have hk0 : (0 : Int) ≤ (k : Int) := by omega
            have e3 : coreE p l m = 7 := by rw [HCE.out, hib, hv, if_pos rfl, if_pos hk0]
            have e4 : (coreL p l m).length = 0 := HCL.out m (by omega)
            rw [e3, e4, hv, if_pos (by omega), if_pos (by omega)]
            have hk1 : ¬ ((k : Int) < 0) := by omega
            have e1 : ((k : Int) != (k : Int)) = false := by simp
            clear e3 e4 hv hib hin
            go_wp2_with fail
            refine (works_any _ (HT.out.below HB6.out hw0) (by have := HB6.out.size; omega)).mono ?_
            rintro e1 w9 ⟨rfl, hb9⟩
            have HF := Lib.hid (HB6.out.trans (hb9.mono HB6.out.size))
            clear hb9
            go_wp2
            go_ret
            exact ⟨rfl, HF.out⟩
end Go.Proofs.YtdmmegmkdhinjaaGreatDoor
