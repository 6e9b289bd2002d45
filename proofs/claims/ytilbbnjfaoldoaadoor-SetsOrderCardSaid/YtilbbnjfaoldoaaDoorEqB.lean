/- slices.Equal at lists of bounds. -/
import Derived.Test.YtilbbnjfaoldoaaDoorBG
namespace Go.Proofs.YtilbbnjfaoldoaaDoor
open Go Go.RowKit
attribute [local go_sem] cell_grow u64_sAnd u64_sOr u64_sDiff sDiff_all zeqI zneI sAnd_bit_zero sAnd_bit_zeroN sAnd_bit_nonzero rowOf_grow rowOk_grow rowOf_alloc rowOk_alloc

set_option maxRecDepth 100000 in
set_option maxHeartbeats 400000 in
theorem equalB_any (a b : List Bnd) (av bv : Value) (w : World) {B : Nat} (ha : Bnds w B av a) (hb : Bnds w B bv b) (hB : B ≤ w.heap.size) : Gives Tryd.prog 35 #[av, bv] w (.bool (sameB a b)) := by
  unfold Gives
  obtain ⟨hna, aa, ac, rfl, _, _, hra⟩ := ha.mono hB
  obtain ⟨hnb, ba, bc, rfl, _, _, hrb⟩ := hb.mono hB
  clear ha hb
  by_cases hl : a.length = b.length
  · rw [← hl] at hrb hnb ⊢
    have HL := Lib.hid hl
    clear hl
    have HRA := Lib.hid hra; have HRB := Lib.hid hrb
    clear hra hrb
    go_enter Tryd.func35, Tryd.ntmps35
    go_wp2_with fail
    go_loopw [13] (fun i wr => ∃ k : Nat, k ≤ a.length ∧ i = .int .i64 k ∧ (∀ j, j < k → bget a j = bget b j) ∧ Below w.heap.size w wr) (fun i _ => a.length - (intOf i).toNat)
    case atStart => exact ⟨0, Nat.zero_le _, rfl, fun j hj => absurd hj (Nat.not_lt_zero _), Below.refl _ _⟩
    case round =>
      obtain ⟨k, hk, rfl, hall, hb⟩ := hrel
      by_cases hlt : k < a.length
      · obtain ⟨p, po, rfl, hp, hpc⟩ := HRA.out (by omega)
        obtain ⟨q, qo, rfl, hq, hqc⟩ := HRB.out (by omega)
        have c0 : wr.cell? ⟨p, po + k * 2, none⟩ = some (.int .u64 ((bget a k).inn : Nat)) := by rw [hb.cell (p := ⟨p, po + k * 2, none⟩) hp, hpc (k * 2) (by omega), bcellAt_inn]
        have c1 : wr.cell? ⟨q, qo + k * 2, none⟩ = some (.int .u64 ((bget b k).inn : Nat)) := by rw [hb.cell (p := ⟨q, qo + k * 2, none⟩) hq, hqc (k * 2) (by omega), bcellAt_inn]
        have c2 : wr.cell? ⟨p, po + k * 2 + 1, none⟩ = some (.int .u64 ((bget a k).can : Nat)) := by rw [hb.cell (p := ⟨p, po + k * 2 + 1, none⟩) hp, ← bcellAt_can]; exact hpc (k * 2 + 1) (by omega)
        have c3 : wr.cell? ⟨q, qo + k * 2 + 1, none⟩ = some (.int .u64 ((bget b k).can : Nat)) := by rw [hb.cell (p := ⟨q, qo + k * 2 + 1, none⟩) hq, ← bcellAt_can]; exact hqc (k * 2 + 1) (by omega)
        have zp : p < wr.heap.size := by have := hb.size; omega
        have zq : q < wr.heap.size := by have := hb.size; omega
        have HALL := Lib.hid hall; have HB := Lib.hid hb
        have hneq := run_neq_bnd (bget a k) (bget b k)
        clear hpc hqc hall hb
        by_cases he : bget a k = bget b k
        · have HE := Lib.hid he
          rw [show decide (bget a k = bget b k) = true from decide_eq_true he] at hneq
          clear he
          go_wp2_with fail
          refine wp_region_qb (by kernel_rfl) (by kernel_rfl) ?_
          repeat go_big_quiet_step (fail)
          refine wpQuiet_nil ?_
          intro w2 hb2
          have HB2 := Lib.hid (HB.out.trans (hb2.mono HB.out.size))
          clear hb2 hneq
          go_wp2
          go_roundw
          case rel => exact ⟨k + 1, by omega, by go_num, fun j hj => if h : j = k then h ▸ HE.out else HALL.out j (by omega), HB2.out⟩
          case measure => simp [intOf]; omega
        · have HE := Lib.hid he
          rw [show decide (bget a k = bget b k) = false from decide_eq_false he] at hneq
          clear he
          go_wp2_with fail
          refine wp_region_qb (by kernel_rfl) (by kernel_rfl) ?_
          repeat go_big_quiet_step (fail)
          refine wpQuiet_nil ?_
          intro w2 hb2
          have HB2 := Lib.hid (HB.out.trans (hb2.mono HB.out.size))
          clear hb2 hneq
          go_wp2
          go_ret
          exact ⟨by rw [sameB_no HE.out]; rfl, HB2.out⟩
      · have hk2 : k = a.length := by omega
        subst hk2
        have HS := Lib.hid (sameB_yes HL.out hall); have HB := Lib.hid hb
        clear hall hb
        go_wp2
        go_ret
        exact ⟨by rw [HS.out]; rfl, HB.out⟩
  · have HS := Lib.hid (sameB_len hl)
    have hl2 : ¬ ((a.length : Int) = (b.length : Int)) := by omega
    clear hra hrb
    go_enter Tryd.func35, Tryd.ntmps35
    go_wp2
    go_ret
    exact ⟨by rw [HS.out]; rfl, Below.refl _ _⟩
end Go.Proofs.YtilbbnjfaoldoaaDoor
