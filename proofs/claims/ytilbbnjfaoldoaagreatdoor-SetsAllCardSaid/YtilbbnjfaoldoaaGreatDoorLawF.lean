/- The law SetsReasons, walked. -/
import Derived.Test.YtilbbnjfaoldoaaGreatDoorPlainI
import Derived.Test.YtilbbnjfaoldoaaGreatDoorLawB
namespace Go.Proofs.YtilbbnjfaoldoaaGreatDoor
open Go Go.RowKit
attribute [local go_sem] cell_grow u64_sAnd u64_sOr u64_sDiff sDiff_all zeqI zneI sAnd_bit_zero sAnd_bit_zeroN sAnd_bit_nonzero rowOf_grow rowOk_grow rowOf_alloc rowOk_alloc

set_option maxRecDepth 100000 in
set_option maxHeartbeats 1000000 in
theorem fine_any (p : Prob) (bv rv : Value) (w : World) {B : Nat} (hbv : Bnds w B bv p.bounds) (hrv : Rls w B rv p.rules) (hB : B ≤ w.heap.size) (hub : U64s p.bounds) :
    Gives Tryz.prog 4 #[.agg #[bv, rv]] w (.bool (smallOk p && probOk p)) := by
  unfold Gives
  have HBV := Lib.hid hbv; have HRV := Lib.hid hrv; have HUB := Lib.hid hub
  obtain ⟨ba, bc, rfl⟩ := hbv.slice
  obtain ⟨ra, rc, rfl⟩ := hrv.slice
  clear hbv hrv hub
  have K0 := Lib.hid (heap_new0 w (.cells #[.slice ba p.bounds.length bc, .slice ra p.rules.length rc] 25)); have HB0 := Lib.hid (Below.new1 w (.cells #[.slice ba p.bounds.length bc, .slice ra p.rules.length rc] 25))
  go_enter Tryz.func4, Tryz.ntmps4
  go_wp2_with fail
  refine (small_any p _ _ _ (HBV.out.below HB0.out hB) (HRV.out.below HB0.out hB) (by simp; omega)).mono ?_
  rintro e w1 ⟨rfl, hb1⟩
  have HB1 := Lib.hid (HB0.out.trans (hb1.mono (by simp))); have K1 := Lib.hid (heap_later K0.out hb1 (by simp))
  clear hb1 K0 HB0
  have z1 : w.heap.size < w1.heap.size := (Array.getElem?_eq_some_iff.1 K1.out).1
  cases hsm : smallOk p
  case false =>
    have HSM := Lib.hid hsm
    clear hsm
    go_wp2
    go_ret
    exact ⟨by rw [HSM.out]; rfl, HB1.out⟩
  case true =>
    have HSM := Lib.hid hsm
    clear hsm
    have c0 : w1.cell? ⟨w.heap.size, 0, none⟩ = some (.slice ba p.bounds.length bc) := by rw [cell_of_row _ _ _ _ _ _ K1.out]; rfl
    have c1 : w1.cell? ⟨w.heap.size, 1, none⟩ = some (.slice ra p.rules.length rc) := by rw [cell_of_row _ _ _ _ _ _ K1.out]; rfl
    go_wp2_with fail
    refine (refProb_any p _ _ _ (HBV.out.below HB1.out hB) (HRV.out.below HB1.out hB) (by omega) HUB.out).mono ?_
    rintro e w2 ⟨rfl, hb2⟩
    have HB2 := Lib.hid (HB1.out.trans (hb2.mono HB1.out.size))
    clear hb2 c0 c1
    go_wp2
    go_ret
    exact ⟨by rw [HSM.out]; rfl, HB2.out⟩
/-- The cells of a problem's block. -/
def HeldP (b : Nat) (bv rv : Value) (Z : World) : Prop := Z.cell? ⟨b, 0, none⟩ = some bv ∧ Z.cell? ⟨b, 1, none⟩ = some rv
theorem HeldP.low {b N : Nat} {bv rv : Value} {V Z : World} (h : HeldP b bv rv V) (hb : Below N V Z) (hN : b < N) : HeldP b bv rv Z := ⟨(hb.cell (p := ⟨b, _, none⟩) hN).trans h.1, (hb.cell (p := ⟨b, _, none⟩) hN).trans h.2⟩
end Go.Proofs.YtilbbnjfaoldoaaGreatDoor
