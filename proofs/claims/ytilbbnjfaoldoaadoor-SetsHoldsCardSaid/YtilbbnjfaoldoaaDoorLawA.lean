/- The law SetsHolds, walked. -/
import Derived.Test.YtilbbnjfaoldoaaDoorBH
namespace Go.Proofs.YtilbbnjfaoldoaaDoor
open Go Go.RowKit
attribute [local go_sem] cell_grow u64_sAnd u64_sOr u64_sDiff sDiff_all zeqI zneI sAnd_bit_zero sAnd_bit_zeroN sAnd_bit_nonzero rowOf_grow rowOk_grow rowOf_alloc rowOk_alloc

set_option maxRecDepth 100000 in
set_option maxHeartbeats 2000000 in
theorem setsHolds_any (p : Prob) (l : List Nat) (bv rv lv : Value) (w : World) {B : Nat} (hbv : Bnds w B bv p.bounds) (hrv : Rls w B rv p.rules) (hlv : Us w B lv l) (hB : B ≤ w.heap.size) (hub : U64s p.bounds) (hul : ∀ s ∈ l, U64 s) (hT : Tab w) (hw0 : 0 < w.heap.size) :
    Gives Tryd.prog 3 #[.agg #[bv, rv], lv] w (.bool true) := by
  unfold Gives
  have HBV := Lib.hid hbv; have HRV := Lib.hid hrv; have HLV := Lib.hid hlv; have HT := Lib.hid hT; have HUB := Lib.hid hub; have HUL := Lib.hid hul
  have hbl := hbv.1
  have hrl := hrv.len
  have hll := hlv.1
  obtain ⟨ba, bc, rfl⟩ := hbv.slice
  obtain ⟨ra, rc, rfl⟩ := hrv.slice
  obtain ⟨la, lc, rfl⟩ := hlv.slice
  clear hbv hrv hlv hT hub hul
  have K0 := Lib.hid (heap_new0 w (.cells #[.slice ba p.bounds.length bc, .slice ra p.rules.length rc] 25)); have HB0 := Lib.hid (Below.new1 w (.cells #[.slice ba p.bounds.length bc, .slice ra p.rules.length rc] 25))
  go_enter Tryd.func3, Tryd.ntmps3
  go_wp2_with fail
  refine (small_any p _ _ _ (HBV.out.below HB0.out hB) (HRV.out.below HB0.out hB) (by simp; omega)).mono ?_
  rintro e w1 ⟨rfl, hb1⟩
  have HB1 := Lib.hid (HB0.out.trans (hb1.mono (by simp))); have K1 := Lib.hid (heap_later K0.out hb1 (by simp))
  clear hb1 K0 HB0
  have z1 : w.heap.size < w1.heap.size := (Array.getElem?_eq_some_iff.1 K1.out).1
  cases hsm : smallOk p
  case false =>
    clear hsm
    go_wp2_with fail
    refine (works_any _ (HT.out.below HB1.out hw0) (by omega)).mono ?_
    rintro e w2 ⟨rfl, hb2⟩
    have HF := Lib.hid (HB1.out.trans (hb2.mono HB1.out.size))
    clear hb2
    go_wp2
    go_ret
    exact ⟨rfl, HF.out⟩
  case true =>
    clear hsm
    by_cases h12 : l.length ≤ 12
    case neg =>
      have h12i : (12 : Int) < ((l.length : Nat) : Int) := by omega
      clear h12
      go_wp2_with fail
      refine (works_any _ (HT.out.below HB1.out hw0) (by omega)).mono ?_
      rintro e w2 ⟨rfl, hb2⟩
      have HF := Lib.hid (HB1.out.trans (hb2.mono HB1.out.size))
      clear hb2
      go_wp2
      go_ret
      exact ⟨rfl, HF.out⟩
    case pos =>
      have h12i : ¬ (12 : Int) < ((l.length : Nat) : Int) := by omega
      have c0 : w1.cell? ⟨w.heap.size, 0, none⟩ = some (.slice ba p.bounds.length bc) := by rw [cell_of_row _ _ _ _ _ _ K1.out]; rfl
      have c1 : w1.cell? ⟨w.heap.size, 1, none⟩ = some (.slice ra p.rules.length rc) := by rw [cell_of_row _ _ _ _ _ _ K1.out]; rfl
      go_wp2_with fail
      refine (check_any p _ _ _ (HBV.out.below HB1.out hB) (HRV.out.below HB1.out hB) (by omega) HUB.out).mono ?_
      rintro e w2 ⟨rfl, hb2⟩
      have HB2 := Lib.hid (HB1.out.trans (hb2.mono HB1.out.size)); have K2 := Lib.hid (heap_later K1.out hb2 z1)
      clear hb2 c0 c1 h12i
      have z2 : w.heap.size < w2.heap.size := (Array.getElem?_eq_some_iff.1 K2.out).1
      have c0 : w2.cell? ⟨w.heap.size, 0, none⟩ = some (.slice ba p.bounds.length bc) := by rw [cell_of_row _ _ _ _ _ _ K2.out]; rfl
      have c1 : w2.cell? ⟨w.heap.size, 1, none⟩ = some (.slice ra p.rules.length rc) := by rw [cell_of_row _ _ _ _ _ _ K2.out]; rfl
      go_wp2_with fail
      refine (holds_any p l _ _ _ _ (HBV.out.below HB2.out hB) (HRV.out.below HB2.out hB) (HLV.out.below HB2.out hB) (by omega) HUB.out HUL.out (HT.out.below HB2.out hw0) (by omega)).mono ?_
      rintro e w3 ⟨rfl, hb3⟩
      have HB3 := Lib.hid (HB2.out.trans (hb3.mono HB2.out.size)); have K3 := Lib.hid (heap_later K2.out hb3 z2)
      clear hb3 c0 c1
      have z3 : w.heap.size < w3.heap.size := (Array.getElem?_eq_some_iff.1 K3.out).1
      have c0 : w3.cell? ⟨w.heap.size, 0, none⟩ = some (.slice ba p.bounds.length bc) := by rw [cell_of_row _ _ _ _ _ _ K3.out]; rfl
      have c1 : w3.cell? ⟨w.heap.size, 1, none⟩ = some (.slice ra p.rules.length rc) := by rw [cell_of_row _ _ _ _ _ _ K3.out]; rfl
      go_wp2_with fail
      refine (refProb_any p _ _ _ (HBV.out.below HB3.out hB) (HRV.out.below HB3.out hB) (by omega) HUB.out).mono ?_
      rintro e w4 ⟨rfl, hb4⟩
      have HB4 := Lib.hid (HB3.out.trans (hb4.mono HB3.out.size)); have K4 := Lib.hid (heap_later K3.out hb4 z3)
      clear hb4 c0 c1
      have z4 : w.heap.size < w4.heap.size := (Array.getElem?_eq_some_iff.1 K4.out).1
      have c0 : w4.cell? ⟨w.heap.size, 0, none⟩ = some (.slice ba p.bounds.length bc) := by rw [cell_of_row _ _ _ _ _ _ K4.out]; rfl
      have c1 : w4.cell? ⟨w.heap.size, 1, none⟩ = some (.slice ra p.rules.length rc) := by rw [cell_of_row _ _ _ _ _ _ K4.out]; rfl
      cases hpo : probOk p
      case false =>
        rw [show errOf false = 2 from rfl, show errOf (holdsOk p l) = 2 by rw [show holdsOk p l = false by unfold holdsOk; rw [hpo]; rfl]; rfl, show holdsR p l = 0 by unfold holdsR; rw [show holdsOk p l = false by unfold holdsOk; rw [hpo]; rfl]; rfl]
        clear hpo
        go_wp2_with fail
        refine (works_any _ (HT.out.below HB4.out hw0) (by omega)).mono ?_
        rintro e w5 ⟨rfl, hb5⟩
        have HF := Lib.hid (HB4.out.trans (hb5.mono HB4.out.size))
        clear hb5
        go_wp2
        go_ret
        exact ⟨rfl, HF.out⟩
      case true =>
        have HPO := Lib.hid hpo
        have HEQ := Lib.hid (allOk_iff p l hpo)
        have HRE := Lib.hid (rHolds_eq p l hpo)
        clear hpo
        rw [show errOf true = 0 from rfl]
        go_wp2_with fail
        refine (all_any p l HUL.out _ _ _ _ (HBV.out.below HB4.out hB) (HRV.out.below HB4.out hB) (HLV.out.below HB4.out hB) (by omega)).mono ?_
        rintro e w5 ⟨rfl, hb5⟩
        have HB5 := Lib.hid (HB4.out.trans (hb5.mono HB4.out.size)); have K5 := Lib.hid (heap_later K4.out hb5 z4)
        clear hb5 c0 c1
        have z5 : w.heap.size < w5.heap.size := (Array.getElem?_eq_some_iff.1 K5.out).1
        have c0 : w5.cell? ⟨w.heap.size, 0, none⟩ = some (.slice ba p.bounds.length bc) := by rw [cell_of_row _ _ _ _ _ _ K5.out]; rfl
        have c1 : w5.cell? ⟨w.heap.size, 1, none⟩ = some (.slice ra p.rules.length rc) := by rw [cell_of_row _ _ _ _ _ _ K5.out]; rfl
        cases hao : allOk p l
        case false =>
          rw [show errOf (holdsOk p l) = 2 by rw [← HEQ.out, hao]; rfl, show holdsR p l = 0 by unfold holdsR; rw [← HEQ.out, hao]; rfl]
          clear hao
          go_wp2_with fail
          refine (works_any _ (HT.out.below HB5.out hw0) (by omega)).mono ?_
          rintro e w6 ⟨rfl, hb6⟩
          have HF := Lib.hid (HB5.out.trans (hb6.mono HB5.out.size))
          clear hb6
          go_wp2
          go_ret
          exact ⟨rfl, HF.out⟩
        case true =>
          have hll2 : l.length = p.bounds.length := by unfold allOk at hao; simp at hao; exact hao.2
          have HLL := Lib.hid hll2
          rw [show errOf (holdsOk p l) = 0 by rw [← HEQ.out, hao]; rfl, ← HRE.out hao]
          clear hao hll2
          go_wp2_with fail
          refine (refHolds_any p l HPO.out HLL.out HUL.out _ _ _ _ (HBV.out.below HB5.out hB) (HRV.out.below HB5.out hB) (HLV.out.below HB5.out hB) (by omega)).mono ?_
          rintro e w6 ⟨rfl, hb6⟩
          have HB6 := Lib.hid (HB5.out.trans (hb6.mono HB5.out.size))
          clear hb6
          obtain ⟨rh, hrh⟩ : ∃ rh, rh = rHoldsN p l := ⟨_, rfl⟩
          rw [← hrh]
          clear hrh HRE
          have he : (rh == rh) = true := by simp
          go_wp2_with fail
          refine (works_any _ (HT.out.below HB6.out hw0) (by have := HB6.out.size; omega)).mono ?_
          rintro e w7 ⟨rfl, hb7⟩
          have HF := Lib.hid (HB6.out.trans (hb7.mono HB6.out.size))
          clear hb7
          go_wp2
          go_ret
          exact ⟨rfl, HF.out⟩
end Go.Proofs.YtilbbnjfaoldoaaDoor
