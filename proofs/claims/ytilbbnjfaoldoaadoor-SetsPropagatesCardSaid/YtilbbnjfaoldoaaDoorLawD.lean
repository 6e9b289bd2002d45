/- The law SetsPropagates, walked. -/
import Derived.Test.YtilbbnjfaoldoaaDoorRefO
import Derived.Test.YtilbbnjfaoldoaaDoorSameD
import Derived.Test.YtilbbnjfaoldoaaDoorLawB
namespace Go.Proofs.YtilbbnjfaoldoaaDoor
open Go Go.RowKit
attribute [local go_sem] cell_grow u64_sAnd u64_sOr u64_sDiff sDiff_all zeqI zneI sAnd_bit_zero sAnd_bit_zeroN sAnd_bit_nonzero rowOf_grow rowOk_grow rowOf_alloc rowOk_alloc

set_option maxRecDepth 100000 in
set_option maxHeartbeats 2000000 in
theorem setsPropagates_any (p : Prob) (bv rv : Value) (w : World) {B : Nat} (hbv : Bnds w B bv p.bounds) (hrv : Rls w B rv p.rules) (hB0 : 0 < B) (hB : B ≤ w.heap.size) (hub : U64s p.bounds) (hT : Tab w) :
    Gives Tryd.prog 4 #[.agg #[bv, rv]] w (.bool true) := by
  unfold Gives
  have HBV := Lib.hid hbv; have HRV := Lib.hid hrv; have HT := Lib.hid hT; have HUB := Lib.hid hub
  have hbl := hbv.1
  have hrl := hrv.len
  have hw0 : 0 < w.heap.size := by omega
  obtain ⟨ba, bc, rfl⟩ := hbv.slice
  obtain ⟨ra, rc, rfl⟩ := hrv.slice
  clear hbv hrv hT hub
  have K0 := Lib.hid (heap_new0 w (.cells #[.slice ba p.bounds.length bc, .slice ra p.rules.length rc] 25)); have HB0 := Lib.hid (Below.new1 w (.cells #[.slice ba p.bounds.length bc, .slice ra p.rules.length rc] 25))
  go_enter Tryd.func4, Tryd.ntmps4
  go_wp2_with fail
  refine (small_any p _ _ _ (HBV.out.below HB0.out hB) (HRV.out.below HB0.out hB) (by simp; omega)).mono ?_
  rintro e w1 ⟨rfl, hb1⟩
  have HB1 := Lib.hid (HB0.out.trans (hb1.mono (by simp))); have K1 := Lib.hid (heap_later K0.out hb1 (by simp))
  clear hb1 K0 HB0
  have z1 : w.heap.size < w1.heap.size := (Array.getElem?_eq_some_iff.1 K1.out).1
  cases hsm : smallOk p
  case false =>
    clear hsm
    go_wp2_with fail
    refine (works_any _ (HT.out.below HB1.out hw0) (by have := HB1.out.size; omega)).mono ?_
    rintro e1 w9 ⟨rfl, hb9⟩
    have HF := Lib.hid (HB1.out.trans (hb9.mono HB1.out.size))
    clear hb9
    go_wp2
    go_ret
    exact ⟨rfl, HF.out⟩
  case true =>
    clear hsm
    have c0 : w1.cell? ⟨w.heap.size, 0, none⟩ = some (.slice ba p.bounds.length bc) := by rw [cell_of_row _ _ _ _ _ _ K1.out]; rfl
    have c1 : w1.cell? ⟨w.heap.size, 1, none⟩ = some (.slice ra p.rules.length rc) := by rw [cell_of_row _ _ _ _ _ _ K1.out]; rfl
    cases hpo : probOk p
    case false =>
      have HPO := Lib.hid hpo
      clear hpo
      go_wp2_with fail
      refine (propagate_no p _ _ _ (HBV.out.below HB1.out hB) (HRV.out.below HB1.out hB) (by omega) HUB.out HPO.out).mono ?_
      rintro e w2 ⟨rfl, hb2⟩
      have HB2 := Lib.hid (HB1.out.trans (hb2.mono HB1.out.size)); have K2 := Lib.hid (heap_later K1.out hb2 z1)
      clear hb2 c0 c1
      have z2 : w.heap.size < w2.heap.size := (Array.getElem?_eq_some_iff.1 K2.out).1
      have c0 : w2.cell? ⟨w.heap.size, 0, none⟩ = some (.slice ba p.bounds.length bc) := by rw [cell_of_row _ _ _ _ _ _ K2.out]; rfl
      have c1 : w2.cell? ⟨w.heap.size, 1, none⟩ = some (.slice ra p.rules.length rc) := by rw [cell_of_row _ _ _ _ _ _ K2.out]; rfl
      go_wp2_with fail
      refine (refProb_any p _ _ _ (HBV.out.below HB2.out hB) (HRV.out.below HB2.out hB) (by omega) HUB.out).mono ?_
      rintro e w4 ⟨rfl, hb4⟩
      have HB4 := Lib.hid (HB2.out.trans (hb4.mono HB2.out.size)); have K4 := Lib.hid (heap_later K2.out hb4 z2)
      clear hb4 c0 c1
      rw [HPO.out]
      go_wp2_with fail
      refine (works_any _ (HT.out.below HB4.out hw0) (by have := HB4.out.size; omega)).mono ?_
      rintro e1 w9 ⟨rfl, hb9⟩
      have HF := Lib.hid (HB4.out.trans (hb9.mono HB4.out.size))
      clear hb9
      go_wp2
      go_ret
      exact ⟨rfl, HF.out⟩
    case true =>
      have HPO := Lib.hid hpo
      clear hpo
      go_wp2_with fail
      refine (propagate_yes p _ _ _ (HBV.out.below HB1.out hB) (HRV.out.below HB1.out hB) hB0 (by omega) HUB.out (HT.out.below HB1.out hw0) HPO.out).mono ?_
      rintro e w2 ⟨b', l', rfl, hpb, hpl, hb2⟩
      obtain ⟨bs, hbs⟩ : ∃ bs, bs = (propR p).1.1.take p.bounds.length := ⟨_, rfl⟩
      obtain ⟨fs, hfs⟩ : ∃ fs, fs = (propR p).1.2 := ⟨_, rfl⟩
      obtain ⟨n, hn⟩ : ∃ n, n = (propR p).2 := ⟨_, rfl⟩
      rw [← hbs] at hpb
      rw [← hfs] at hpl
      rw [← hn]
      have HBS := Lib.hid hbs; have HFS := Lib.hid hfs; have HN := Lib.hid hn
      clear hbs hfs hn
      have HB2 := Lib.hid (HB1.out.trans (hb2.mono HB1.out.size)); have K2 := Lib.hid (heap_later K1.out hb2 z1)
      have HPB := Lib.hid hpb; have HPL := Lib.hid hpl
      obtain ⟨xa, xc, rfl⟩ := hpb.slice
      obtain ⟨ya, yc, rfl⟩ := hpl.slice
      clear hb2 c0 c1 hpb hpl
      have z2 : w.heap.size < w2.heap.size := (Array.getElem?_eq_some_iff.1 K2.out).1
      have c0 : w2.cell? ⟨w.heap.size, 0, none⟩ = some (.slice ba p.bounds.length bc) := by rw [cell_of_row _ _ _ _ _ _ K2.out]; rfl
      have c1 : w2.cell? ⟨w.heap.size, 1, none⟩ = some (.slice ra p.rules.length rc) := by rw [cell_of_row _ _ _ _ _ _ K2.out]; rfl
      go_wp2_with fail
      refine (refProb_any p _ _ _ (HBV.out.below HB2.out hB) (HRV.out.below HB2.out hB) (by omega) HUB.out).mono ?_
      rintro e w3 ⟨rfl, hb3⟩
      have HB3 := Lib.hid (HB2.out.trans (hb3.mono HB2.out.size)); have K3 := Lib.hid (heap_later K2.out hb3 z2)
      have HPB3 := Lib.hid (HPB.out.below hb3 (Nat.le_refl _)); have HPL3 := Lib.hid (HPL.out.below hb3 (Nat.le_refl _))
      have hs23 := hb3.size
      clear hb3 c0 c1 HPB HPL
      rw [HPO.out]
      have z3 : w.heap.size < w3.heap.size := (Array.getElem?_eq_some_iff.1 K3.out).1
      have c0 : w3.cell? ⟨w.heap.size, 0, none⟩ = some (.slice ba p.bounds.length bc) := by rw [cell_of_row _ _ _ _ _ _ K3.out]; rfl
      have c1 : w3.cell? ⟨w.heap.size, 1, none⟩ = some (.slice ra p.rules.length rc) := by rw [cell_of_row _ _ _ _ _ _ K3.out]; rfl
      go_wp2_with fail
      refine (refPropagate_any p HPO.out _ _ _ (HBV.out.below HB3.out hB) (HRV.out.below HB3.out hB) (by omega)).mono ?_
      rintro e w4 ⟨av, lv, all, gs, rfl, h1, h2, h3, h4, h5, hb4⟩
      have hall : all = bs := by rw [HBS.out, show (propR p).1.1 = padB all from h1, ← h2, padB_take]
      have hgs : gs = fs := by rw [HFS.out]; exact h3 rfl
      subst hall hgs
      rw [show (refRes p true).2 = n from HN.out.symm]
      have HB4 := Lib.hid (HB3.out.trans (hb4.mono HB3.out.size))
      have hs34 := hb4.size
      have HSB := Lib.hid (sameBounds_any all all _ _ w4 ((HPB3.out.below hb4 (by omega)).mono (by omega)) h4 (Nat.le_refl _))
      have HPL4 := Lib.hid ((HPL3.out.below hb4 (by omega)).mono (show w2.heap.size ≤ w4.heap.size by omega))
      have HQL4 := Lib.hid h5
      rw [show sameB all all = true by unfold sameB; simp] at HSB
      obtain ⟨pa, pc, rfl⟩ := h4.slice
      obtain ⟨qa, qc, rfl⟩ := h5.slice
      clear h1 h2 h3 h4 h5 hb4 c0 c1 HPB3 HPL3 HBS HFS HN
      go_wp2_with fail
      refine HSB.out.mono ?_
      rintro e w5 ⟨rfl, hb5⟩
      have HSF := Lib.hid (sameFacts_any gs gs _ _ w5 (HPL4.out.below hb5 (Nat.le_refl _)) (HQL4.out.below hb5 (Nat.le_refl _)) hb5.size)
      rw [show sameFs gs gs = true by unfold sameFs; simp] at HSF
      have HB5 := Lib.hid (HB4.out.trans (hb5.mono HB4.out.size))
      clear hb5 HSB HPL4 HQL4
      go_wp2_with fail
      refine HSF.out.mono ?_
      rintro e w6 ⟨rfl, hb6⟩
      have HB6 := Lib.hid (HB5.out.trans (hb6.mono HB5.out.size))
      clear hb6 HSF
      go_wp2_with fail
      refine (works_any _ (HT.out.below HB6.out hw0) (by have := HB6.out.size; omega)).mono ?_
      rintro e1 w9 ⟨rfl, hb9⟩
      have HF := Lib.hid (HB6.out.trans (hb9.mono HB6.out.size))
      clear hb9
      go_wp2
      go_ret
      exact ⟨rfl, HF.out⟩
end Go.Proofs.YtilbbnjfaoldoaaDoor
