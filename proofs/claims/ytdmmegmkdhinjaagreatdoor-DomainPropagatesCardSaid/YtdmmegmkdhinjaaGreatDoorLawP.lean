/- The law DomainPropagates, walked. -/
import Derived.Test.YtdmmegmkdhinjaaGreatDoorBO
import Derived.Test.YtdmmegmkdhinjaaGreatDoorRefP
import Derived.Test.YtdmmegmkdhinjaaGreatDoorSameC
namespace Go.Proofs.YtdmmegmkdhinjaaGreatDoor
open Go Go.RowKit
attribute [local go_sem] cell_grow u64_sAnd u64_sOr u64_sDiff sDiff_all zeqI zneI sAnd_bit_zero sAnd_bit_zeroN sAnd_bit_nonzero

set_option maxRecDepth 100000 in
set_option maxHeartbeats 4000000 in
theorem domainPropagates_any (p : Dp) (dv rv : Value) (w : World) {B : Nat} (hdv : Us w B dv p.doms) (hrv : DRls w B rv p.rules) (hB0 : 0 < B) (hB : B ≤ w.heap.size) (hu : U64l p.doms) (hT : Tab w) :
    Gives Tryz.prog 3 #[.agg #[dv, rv]] w (.bool true) := by
  unfold Gives
  have hw0 : 0 < w.heap.size := by omega
  have HDV := Lib.hid hdv; have HRV := Lib.hid hrv; have HT := Lib.hid hT; have HU := Lib.hid hu
  have hrl := hrv.len
  have hdl := hdv.1
  obtain ⟨da, dc, rfl⟩ := hdv.slice
  obtain ⟨ra, rc, rfl⟩ := hrv.slice
  clear hdv hrv hT hu
  have K0 := Lib.hid (heap_new0 w (.cells #[.slice da p.doms.length dc, .slice ra p.rules.length rc] 25)); have HB0 := Lib.hid (Below.new1 w (.cells #[.slice da p.doms.length dc, .slice ra p.rules.length rc] 25))
  go_enter Tryz.func3, Tryz.ntmps3
  go_wp2_with fail
  refine (small_any p _ _ _ (HDV.out.below HB0.out hB) (HRV.out.below HB0.out hB) (by simp; omega)).mono ?_
  rintro e w1 ⟨rfl, hb1⟩
  have HB1 := Lib.hid (HB0.out.trans (hb1.mono (by simp))); have K1 := Lib.hid (heap_later K0.out hb1 (by simp))
  clear hb1 K0 HB0
  have z1 : w.heap.size < w1.heap.size := (Array.getElem?_eq_some_iff.1 K1.out).1
  cases hsm : smallD p
  case false =>
    clear hsm
    go_wp2_with fail
    refine (works_any _ (HT.out.below HB1.out hw0) (by have := HB1.out.size; omega)).mono ?_
    rintro e1 w9 ⟨rfl, hb9⟩
    have HF := Lib.hid (HB1.out.trans (hb9.mono HB1.out.size))
    clear hb9
    go_wp2
    go_ret
    exact ⟨rfl, HF.out⟩
  case true =>
    clear hsm
    have c0 : w1.cell? ⟨w.heap.size, 0, none⟩ = some (.slice da p.doms.length dc) := by rw [cell_of_row _ _ _ _ _ _ K1.out]; rfl
    have c1 : w1.cell? ⟨w.heap.size, 1, none⟩ = some (.slice ra p.rules.length rc) := by rw [cell_of_row _ _ _ _ _ _ K1.out]; rfl
    go_wp2_with fail
    refine (propagate_any p _ _ _ (HDV.out.below HB1.out hB) (HRV.out.below HB1.out hB) hB0 (by omega) (HT.out.below HB1.out hw0)).mono ?_
    rintro e w2 ⟨hb2, hp⟩
    have HB2 := Lib.hid (HB1.out.trans (hb2.mono HB1.out.size)); have K2 := Lib.hid (heap_later K1.out hb2 z1)
    clear hb2 c0 c1
    have z2 : w.heap.size < w2.heap.size := (Array.getElem?_eq_some_iff.1 K2.out).1
    have c0 : w2.cell? ⟨w.heap.size, 0, none⟩ = some (.slice da p.doms.length dc) := by rw [cell_of_row _ _ _ _ _ _ K2.out]; rfl
    have c1 : w2.cell? ⟨w.heap.size, 1, none⟩ = some (.slice ra p.rules.length rc) := by rw [cell_of_row _ _ _ _ _ _ K2.out]; rfl
    rcases hp with ⟨hpo, rfl⟩ | ⟨hpo, fv, cv, rfl, hfo, hco⟩
    · have HPO := Lib.hid hpo
      clear hpo
      go_wp2_with fail
      refine (refProb_any p _ _ _ (HDV.out.below HB2.out hB) (HRV.out.below HB2.out hB) (by omega) HU.out).mono ?_
      rintro e w3 ⟨rfl, hb3⟩
      have HB3 := Lib.hid (HB2.out.trans (hb3.mono HB2.out.size))
      clear hb3 c0 c1
      rw [HPO.out]
      go_wp2_with fail
      refine (works_any _ (HT.out.below HB3.out hw0) (by have := HB3.out.size; omega)).mono ?_
      rintro e1 w9 ⟨rfl, hb9⟩
      have HF := Lib.hid (HB3.out.trans (hb9.mono HB3.out.size))
      clear hb9
      go_wp2
      go_ret
      exact ⟨rfl, HF.out⟩
    · have HPO := Lib.hid hpo
      have HPP := Lib.hid (probD_parts hpo)
      have hn8 := HPP.out.2.1
      obtain ⟨bs, hbs⟩ : ∃ bs, bs = (propD p).1.take p.doms.length := ⟨_, rfl⟩
      obtain ⟨fs, hfs⟩ : ∃ fs, fs = (propD p).2 := ⟨_, rfl⟩
      have hgood : Good (propD p) := run_good hpo (padD_ok hpo)
      have hbl : bs.length = p.doms.length := by rw [hbs, List.length_take, hgood.f.len]; omega
      rw [← hbs] at hfo
      rw [← hfs] at hco
      have hfew := hgood.few
      rw [← hfs] at hfew
      have hfwy := hgood.why
      rw [← hfs] at hfwy
      obtain ⟨xa, xc, rfl⟩ := own_form hfo
      obtain ⟨ya, yc, rfl⟩ : ∃ a c, cv = .slice a fs.length c := by obtain ⟨cs, h, _⟩ := hco; exact own_form h
      have HFO := Lib.hid (owns_us hfo (by omega) hbl)
      have HBL := Lib.hid hbl
      have HCO := Lib.hid (hco.cts (by omega) (fun i hi => by have := hfwy i hi; omega))
      have HBS := Lib.hid hbs; have HFS := Lib.hid hfs
      clear hpo hbs hfs hgood hfo hco hfwy hbl
      go_wp2_with fail
      refine (refProb_any p _ _ _ (HDV.out.below HB2.out hB) (HRV.out.below HB2.out hB) (by omega) HU.out).mono ?_
      rintro e w3 ⟨rfl, hb3⟩
      have HB3 := Lib.hid (HB2.out.trans (hb3.mono HB2.out.size)); have K3 := Lib.hid (heap_later K2.out hb3 z2)
      have HFO3 := Lib.hid (HFO.out.below hb3 (Nat.le_refl _)); have HCO3 := Lib.hid (HCO.out.below hb3 (Nat.le_refl _))
      have hs23 := hb3.size
      clear hb3 c0 c1 HFO HCO
      rw [HPO.out]
      have z3 : w.heap.size < w3.heap.size := (Array.getElem?_eq_some_iff.1 K3.out).1
      have c0 : w3.cell? ⟨w.heap.size, 0, none⟩ = some (.slice da p.doms.length dc) := by rw [cell_of_row _ _ _ _ _ _ K3.out]; rfl
      have c1 : w3.cell? ⟨w.heap.size, 1, none⟩ = some (.slice ra p.rules.length rc) := by rw [cell_of_row _ _ _ _ _ _ K3.out]; rfl
      go_wp2_with fail
      refine (refPropagate_any p HPO.out _ _ _ (HDV.out.below HB3.out hB) (HRV.out.below HB3.out hB) (by omega)).mono ?_
      rintro e w4 ⟨av, lv, all, gs, rfl, h1, h2, h3, h4, h5, hb4⟩
      have hall : all = bs := by rw [HBS.out, show (propD p).1 = padD all from h1, ← h2, pad_take]
      have hgs : gs = fs := by rw [HFS.out]; exact h3 rfl
      subst hall hgs
      have HB4 := Lib.hid (HB3.out.trans (hb4.mono HB3.out.size))
      have hs34 := hb4.size
      have HFO4 := Lib.hid ((HFO3.out.below hb4 (by omega)).mono (show w2.heap.size ≤ w4.heap.size by omega))
      have HCO4 := Lib.hid ((HCO3.out.below hb4 (by omega)).mono (show w2.heap.size ≤ w4.heap.size by omega))
      have HGO4 := Lib.hid (owns_us h4 (by have := HBL.out; omega) rfl)
      have HGC4 := Lib.hid (h5.cts (by omega) (fun i hi => by have := (run_good (rs := true) HPO.out (padD_ok HPO.out)).why i (by rw [show (runD p true (padD p.doms)).2 = gs from HFS.out.symm]; exact hi); rw [show (runD p true (padD p.doms)).2 = gs from HFS.out.symm] at this; omega))
      obtain ⟨pa, pc, rfl⟩ := own_form h4
      obtain ⟨qa, qc, rfl⟩ : ∃ a c, lv = .slice a gs.length c := by obtain ⟨cs, h, _⟩ := h5; exact own_form h
      clear h1 h2 h3 h4 h5 hb4 c0 c1 HFO3 HCO3 HBS HFS
      go_wp2_with fail
      refine (sameDoms_any all all _ _ w4 HFO4.out HGO4.out (Nat.le_refl _)).mono ?_
      rintro e w5 ⟨rfl, hb5⟩
      rw [show sameN all all = true by unfold sameN; simp]
      have HSF := Lib.hid (sameCuts_any gs gs _ _ w5 (HCO4.out.below hb5 (Nat.le_refl _)) (HGC4.out.below hb5 (Nat.le_refl _)) hb5.size)
      rw [show sameCs gs gs = true by unfold sameCs; simp] at HSF
      have HB5 := Lib.hid (HB4.out.trans (hb5.mono HB4.out.size))
      clear hb5 HFO4 HGO4 HCO4 HGC4
      go_wp2_with fail
      refine HSF.out.mono ?_
      rintro e w6 ⟨rfl, hb6⟩
      have HB6 := Lib.hid (HB5.out.trans (hb6.mono HB5.out.size))
      clear hb6 HSF
      go_wp2_with fail
      refine (works_any _ (HT.out.below HB6.out hw0) (by have := HB6.out.size; omega)).mono ?_
      rintro e1 w9 ⟨rfl, hb9⟩
      have HF := Lib.hid (HB6.out.trans (hb9.mono HB6.out.size))
      clear hb9
      go_wp2
      go_ret
      exact ⟨rfl, HF.out⟩
end Go.Proofs.YtdmmegmkdhinjaaGreatDoor
