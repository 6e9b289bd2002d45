/- The reference: Propagate. -/
import Derived.Test.YtilbbnjfaoldoaaDoorRefN
namespace Go.Proofs.YtilbbnjfaoldoaaDoor
open Go Go.RowKit
attribute [local go_sem] cell_grow u64_sAnd u64_sOr u64_sDiff sDiff_all zeqI zneI sAnd_bit_zero sAnd_bit_zeroN sAnd_bit_nonzero rowOf_grow rowOk_grow rowOf_alloc rowOk_alloc

set_option maxRecDepth 100000 in
set_option maxHeartbeats 1000000 in
theorem refPropagate_any (p : Prob) (hpo : probOk p = true) (bv rv : Value) (w : World) {B : Nat} (hbv : Bnds w B bv p.bounds) (hrv : Rls w B rv p.rules) (hB : B ≤ w.heap.size) :
    Calls Tryd.prog 20 #[.agg #[bv, rv]] w (RunPost p true w) := by
  have HBV := Lib.hid hbv; have HRV := Lib.hid hrv; have HPO := Lib.hid hpo
  obtain ⟨ba, bc, rfl⟩ := hbv.slice
  obtain ⟨ra, rc, rfl⟩ := hrv.slice
  clear hbv hrv hpo
  have HB0 := Lib.hid (Below.new1 w (.cells #[.slice ba p.bounds.length bc, .slice ra p.rules.length rc] 25))
  go_enter Tryd.func20, Tryd.ntmps20
  go_wp2_with fail
  refine (refRun_any p HPO.out true _ _ _ (HBV.out.below HB0.out hB) (HRV.out.below HB0.out hB) (by simp; omega)).mono ?_
  rintro e w2 ⟨av, lv, all, fs, rfl, h1, h2, h3, h4, h5, h6⟩
  have HP : Hid (RunPost p true w (.returned (.tuple #[av, lv, .int .i64 (refRes p true).2])) w2) := Lib.hid ⟨av, lv, all, fs, rfl, h1, h2, h3, h4, h5, HB0.out.trans (h6.mono (by simp))⟩
  clear h1 h2 h3 h4 h5 h6
  go_wp2
  go_ret3
  exact HP.out
end Go.Proofs.YtilbbnjfaoldoaaDoor
