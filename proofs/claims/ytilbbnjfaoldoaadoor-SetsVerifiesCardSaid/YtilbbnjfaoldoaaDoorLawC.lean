/- The law SetsVerifies, walked. -/
import Derived.Test.YtilbbnjfaoldoaaDoorRefL
namespace Go.Proofs.YtilbbnjfaoldoaaDoor
open Go Go.RowKit
attribute [local go_sem] cell_grow u64_sAnd u64_sOr u64_sDiff sDiff_all zeqI zneI sAnd_bit_zero sAnd_bit_zeroN sAnd_bit_nonzero rowOf_grow rowOk_grow rowOf_alloc rowOk_alloc

theorem verI_cases (p : Prob) (l : List Fact) : verI p l = -1 ∨ ∃ k : Nat, verI p l = k := by
  rcases idxOf_cases (fun i => !rightB p (l.take i) (fget l i)) l.length with h | ⟨k, h, _⟩
  · exact .inl h
  · exact .inr ⟨k, h⟩
set_option maxRecDepth 100000 in
set_option maxHeartbeats 2000000 in
theorem setsVerifies_any (p : Prob) (l : List Fact) (bv rv lv : Value) (w : World) {B : Nat} (hbv : Bnds w B bv p.bounds) (hrv : Rls w B rv p.rules) (hlv : Fcts w B lv l) (hB : B ≤ w.heap.size) (hub : U64s p.bounds) (hT : Tab w) (hw0 : 0 < w.heap.size) :
    Gives Tryd.prog 8 #[.agg #[bv, rv], lv] w (.bool true) := by
  unfold Gives
  have HBV := Lib.hid hbv; have HRV := Lib.hid hrv; have HLV := Lib.hid hlv; have HT := Lib.hid hT; have HUB := Lib.hid hub
  have hbl := hbv.1
  have hrl := hrv.len
  have hll := hlv.len
  obtain ⟨ba, bc, rfl⟩ := hbv.slice
  obtain ⟨ra, rc, rfl⟩ := hrv.slice
  obtain ⟨la, lc, rfl⟩ := hlv.slice
  clear hbv hrv hlv hT hub
  have K0 := Lib.hid (heap_new0 w (.cells #[.slice ba p.bounds.length bc, .slice ra p.rules.length rc] 25)); have HB0 := Lib.hid (Below.new1 w (.cells #[.slice ba p.bounds.length bc, .slice ra p.rules.length rc] 25))
  go_enter Tryd.func8, Tryd.ntmps8
  go_wp2_with fail
  refine (small_any p _ _ _ (HBV.out.below HB0.out hB) (HRV.out.below HB0.out hB) (by simp; omega)).mono ?_
  rintro e w1 ⟨rfl, hb1⟩
  have HB1 := Lib.hid (HB0.out.trans (hb1.mono (by simp))); have K1 := Lib.hid (heap_later K0.out hb1 (by simp))
  clear hb1 K0 HB0
  have z1 : w.heap.size < w1.heap.size := (Array.getElem?_eq_some_iff.1 K1.out).1
  cases hsm : smallOk p
  case false =>
    clear hsm
    go_wp2_with fail
    refine (works_any _ (HT.out.below HB1.out hw0) (by have := HB1.out.size; omega)).mono ?_
    rintro e1 w9 ⟨rfl, hb9⟩
    have HF := Lib.hid (HB1.out.trans (hb9.mono HB1.out.size))
    clear hb9
    go_wp2
    go_ret
    exact ⟨rfl, HF.out⟩
  case true =>
    clear hsm
    have c0 : w1.cell? ⟨w.heap.size, 0, none⟩ = some (.slice ba p.bounds.length bc) := by rw [cell_of_row _ _ _ _ _ _ K1.out]; rfl
    have c1 : w1.cell? ⟨w.heap.size, 1, none⟩ = some (.slice ra p.rules.length rc) := by rw [cell_of_row _ _ _ _ _ _ K1.out]; rfl
    go_wp2_with fail
    refine (smallProof_any l _ _ (HLV.out.below HB1.out hB)).mono ?_
    rintro e w2 ⟨rfl, hb2⟩
    have HB2 := Lib.hid (HB1.out.trans (hb2.mono HB1.out.size)); have K2 := Lib.hid (heap_later K1.out hb2 z1)
    clear hb2 c0 c1
    have z2 : w.heap.size < w2.heap.size := (Array.getElem?_eq_some_iff.1 K2.out).1
    have c0 : w2.cell? ⟨w.heap.size, 0, none⟩ = some (.slice ba p.bounds.length bc) := by rw [cell_of_row _ _ _ _ _ _ K2.out]; rfl
    have c1 : w2.cell? ⟨w.heap.size, 1, none⟩ = some (.slice ra p.rules.length rc) := by rw [cell_of_row _ _ _ _ _ _ K2.out]; rfl
    cases hsp : smallProofOk l
    case false =>
      clear hsp
      go_wp2_with fail
      refine (works_any _ (HT.out.below HB2.out hw0) (by have := HB2.out.size; omega)).mono ?_
      rintro e1 w9 ⟨rfl, hb9⟩
      have HF := Lib.hid (HB2.out.trans (hb9.mono HB2.out.size))
      clear hb9
      go_wp2
      go_ret
      exact ⟨rfl, HF.out⟩
    case true =>
      clear hsp
      go_wp2_with fail
      refine (verify_any p l _ _ _ _ (HBV.out.below HB2.out hB) (HRV.out.below HB2.out hB) (HLV.out.below HB2.out hB) (by omega) HUB.out (HT.out.below HB2.out hw0) (by omega)).mono ?_
      rintro e w3 ⟨rfl, hb3⟩
      have HB3 := Lib.hid (HB2.out.trans (hb3.mono HB2.out.size)); have K3 := Lib.hid (heap_later K2.out hb3 z2)
      clear hb3 c0 c1
      have z3 : w.heap.size < w3.heap.size := (Array.getElem?_eq_some_iff.1 K3.out).1
      have c0 : w3.cell? ⟨w.heap.size, 0, none⟩ = some (.slice ba p.bounds.length bc) := by rw [cell_of_row _ _ _ _ _ _ K3.out]; rfl
      have c1 : w3.cell? ⟨w.heap.size, 1, none⟩ = some (.slice ra p.rules.length rc) := by rw [cell_of_row _ _ _ _ _ _ K3.out]; rfl
      go_wp2_with fail
      refine (refProb_any p _ _ _ (HBV.out.below HB3.out hB) (HRV.out.below HB3.out hB) (by omega) HUB.out).mono ?_
      rintro e w4 ⟨rfl, hb4⟩
      have HB4 := Lib.hid (HB3.out.trans (hb4.mono HB3.out.size)); have K4 := Lib.hid (heap_later K3.out hb4 z3)
      clear hb4 c0 c1
      have z4 : w.heap.size < w4.heap.size := (Array.getElem?_eq_some_iff.1 K4.out).1
      have c0 : w4.cell? ⟨w.heap.size, 0, none⟩ = some (.slice ba p.bounds.length bc) := by rw [cell_of_row _ _ _ _ _ _ K4.out]; rfl
      have c1 : w4.cell? ⟨w.heap.size, 1, none⟩ = some (.slice ra p.rules.length rc) := by rw [cell_of_row _ _ _ _ _ _ K4.out]; rfl
      cases hpo : probOk p
      case false =>
        rw [show verN p l = 0 by unfold verN; rw [hpo]; rfl, show verE p l = 2 by unfold verE; rw [hpo]; rfl]
        clear hpo
        go_wp2_with fail
        refine (works_any _ (HT.out.below HB4.out hw0) (by have := HB4.out.size; omega)).mono ?_
        rintro e1 w9 ⟨rfl, hb9⟩
        have HF := Lib.hid (HB4.out.trans (hb9.mono HB4.out.size))
        clear hb9
        go_wp2
        go_ret
        exact ⟨rfl, HF.out⟩
      case true =>
        have HPO := Lib.hid hpo
        go_wp2_with fail
        refine (refWrong_any p HPO.out l _ _ _ _ (HBV.out.below HB4.out hB) (HRV.out.below HB4.out hB) (HLV.out.below HB4.out hB) (by omega)).mono ?_
        rintro e w5 ⟨rfl, hb5⟩
        have HB5 := Lib.hid (HB4.out.trans (hb5.mono HB4.out.size))
        clear hb5 c0 c1
        rcases verI_cases p l with hv | ⟨k, hv⟩
        · rw [show verN p l = 0 by unfold verN; rw [hpo, hv]; rfl, show verE p l = 0 by unfold verE; rw [hpo, hv]; rfl, hv]
          clear hpo hv
          go_wp2_with fail
          refine (works_any _ (HT.out.below HB5.out hw0) (by have := HB5.out.size; omega)).mono ?_
          rintro e1 w9 ⟨rfl, hb9⟩
          have HF := Lib.hid (HB5.out.trans (hb9.mono HB5.out.size))
          clear hb9
          go_wp2
          go_ret
          exact ⟨rfl, HF.out⟩
        · rw [show verN p l = k by unfold verN; rw [hpo, hv, decide_eq_true (show (0 : Int) ≤ (k : Int) by omega)]; rfl, show verE p l = 7 by unfold verE; rw [hpo, hv, if_pos rfl, if_pos (by omega)], hv]
          clear hpo hv
          have h0 : ¬ ((k : Int) < 0) := by omega
          have e1 : ((k : Int) == (k : Int)) = true := by simp
          go_wp2_with fail
          refine (works_any _ (HT.out.below HB5.out hw0) (by have := HB5.out.size; omega)).mono ?_
          rintro e1 w9 ⟨rfl, hb9⟩
          have HF := Lib.hid (HB5.out.trans (hb9.mono HB5.out.size))
          clear hb9
          go_wp2
          go_ret
          exact ⟨rfl, HF.out⟩
end Go.Proofs.YtilbbnjfaoldoaaDoor
