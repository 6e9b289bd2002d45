/- Which problems the outright laws speak of; whether a domain is empty. -/
import Derived.Test.YtdmmegmkdhinjaaGreatDoorBK
namespace Go.Proofs.YtdmmegmkdhinjaaGreatDoor
open Go Go.RowKit
attribute [local go_sem] cell_grow u64_sAnd u64_sOr u64_sDiff sDiff_all zeqI zneI sAnd_bit_zero sAnd_bit_zeroN sAnd_bit_nonzero

set_option maxRecDepth 100000 in
set_option maxHeartbeats 1000000 in
theorem fine_any (p : Dp) (dv rv : Value) (w : World) {B : Nat} (hdv : Us w B dv p.doms) (hrv : DRls w B rv p.rules) (hB : B ≤ w.heap.size) (hu : U64l p.doms) :
    Gives Tryz.prog 26 #[.agg #[dv, rv]] w (.bool (smallD p && probD p)) := by
  unfold Gives
  have HDV := Lib.hid hdv; have HRV := Lib.hid hrv; have HU := Lib.hid hu
  obtain ⟨da, dc, rfl⟩ := hdv.slice
  obtain ⟨ra, rc, rfl⟩ := hrv.slice
  clear hdv hrv hu
  have K0 := Lib.hid (heap_new0 w (.cells #[.slice da p.doms.length dc, .slice ra p.rules.length rc] 25)); have HB0 := Lib.hid (Below.new1 w (.cells #[.slice da p.doms.length dc, .slice ra p.rules.length rc] 25))
  go_enter Tryz.func26, Tryz.ntmps26
  go_wp2_with fail
  refine (small_any p _ _ _ (HDV.out.below HB0.out hB) (HRV.out.below HB0.out hB) (by simp; omega)).mono ?_
  rintro e w1 ⟨rfl, hb1⟩
  have HB1 := Lib.hid (HB0.out.trans (hb1.mono (by simp))); have K1 := Lib.hid (heap_later K0.out hb1 (by simp))
  clear hb1 K0 HB0
  have z1 : w.heap.size < w1.heap.size := (Array.getElem?_eq_some_iff.1 K1.out).1
  cases hsm : smallD p
  case false =>
    have HSM := Lib.hid hsm
    clear hsm
    go_wp2
    go_ret
    exact ⟨by rw [HSM.out]; rfl, HB1.out⟩
  case true =>
    have HSM := Lib.hid hsm
    clear hsm
    have c0 : w1.cell? ⟨w.heap.size, 0, none⟩ = some (.slice da p.doms.length dc) := by rw [cell_of_row _ _ _ _ _ _ K1.out]; rfl
    have c1 : w1.cell? ⟨w.heap.size, 1, none⟩ = some (.slice ra p.rules.length rc) := by rw [cell_of_row _ _ _ _ _ _ K1.out]; rfl
    go_wp2_with fail
    refine (refProb_any p _ _ _ (HDV.out.below HB1.out hB) (HRV.out.below HB1.out hB) (by omega) HU.out).mono ?_
    rintro e w2 ⟨rfl, hb2⟩
    have HB2 := Lib.hid (HB1.out.trans (hb2.mono HB1.out.size))
    clear hb2 c0 c1
    go_wp2
    go_ret
    exact ⟨by rw [HSM.out]; rfl, HB2.out⟩
set_option maxRecDepth 100000 in
set_option maxHeartbeats 1000000 in
theorem lawEmpty_any (l : List Nat) (lv : Value) (w : World) {B : Nat} (hl : Us w B lv l) : Gives Tryz.prog 27 #[lv] w (.bool (l.contains 0)) := by
  unfold Gives
  have HC := Lib.hid (contains_us lv l 0 w hl)
  obtain ⟨la, lc, rfl⟩ := hl.slice
  clear hl
  go_enter Tryz.func27, Tryz.ntmps27
  go_wp2_with fail
  refine HC.out.mono ?_
  rintro e w1 ⟨rfl, hww⟩
  rw [hww]
  clear hww HC
  go_wp2
  go_ret
  exact ⟨by simp, Below.refl _ _⟩
end Go.Proofs.YtdmmegmkdhinjaaGreatDoor
