/- slices.Equal. -/
import Derived.Test.YtdmmegmkdhinjaaGreatDoorBK
namespace Go.Proofs.YtdmmegmkdhinjaaGreatDoor
open Go Go.RowKit
attribute [local go_sem] cell_grow u64_sAnd u64_sOr u64_sDiff sDiff_all zeqI zneI sAnd_bit_zero sAnd_bit_zeroN sAnd_bit_nonzero

set_option maxRecDepth 100000 in
set_option maxHeartbeats 1000000 in
theorem equal_ints (a b : List Int) (av bv : Value) (w : World) {B : Nat} (ha : Ints w B av a) (hb : Ints w B bv b) (hB : B ≤ w.heap.size) : Gives Tryz.prog 38 #[av, bv] w (.bool (sameI a b)) := by
  unfold Gives
  obtain ⟨hna, aa, ac, rfl, _, _, hra⟩ := ha.mono hB
  obtain ⟨hnb, ba, bc, rfl, _, _, hrb⟩ := hb.mono hB
  clear ha hb
  by_cases hl : a.length = b.length
  · rw [← hl] at hrb hnb ⊢
    have HL := Lib.hid hl
    clear hl
    have HRA := Lib.hid hra; have HRB := Lib.hid hrb
    clear hra hrb
    go_enter Tryz.func38, Tryz.ntmps38
    go_wp2_with fail
    go_loopw [13] (fun i wr => ∃ k : Nat, k ≤ a.length ∧ i = .int .i64 k ∧ (∀ j, j < k → iget a j = iget b j) ∧ Below w.heap.size w wr) (fun i _ => a.length - (intOf i).toNat)
    case atStart => exact ⟨0, Nat.zero_le _, rfl, fun j hj => absurd hj (Nat.not_lt_zero _), Below.refl _ _⟩
    case round =>
      obtain ⟨k, hk, rfl, hall, hb⟩ := hrel
      by_cases hlt : k < a.length
      · obtain ⟨p, po, rfl, hp, hpc⟩ := HRA.out (by omega)
        obtain ⟨q, qo, rfl, hq, hqc⟩ := HRB.out (by omega)
        have c0 : wr.cell? ⟨p, po + k, none⟩ = some (.int .i64 ((iget a k : Int) : Int)) := (hb.cell (p := ⟨p, po + k, none⟩) hp).trans (hpc k (by omega))
        have c1 : wr.cell? ⟨q, qo + k, none⟩ = some (.int .i64 ((iget b k : Int) : Int)) := (hb.cell (p := ⟨q, qo + k, none⟩) hq).trans (hqc k (by omega))
        have zp : p < wr.heap.size := by have := hb.size; omega
        have zq : q < wr.heap.size := by have := hb.size; omega
        have hkI : ((k : Nat) : Int) < ((a.length : Nat) : Int) := by omega
        have HALL := Lib.hid hall; have HB := Lib.hid hb
        clear hpc hqc hall hb
        by_cases he : iget a k = iget b k
        · have HE := Lib.hid he
          have e1 : (((iget a k : Int) : Int) != ((iget b k : Int) : Int)) = false := by rw [he]; simp
          clear he
          go_wp2_with fail
          refine wp_region_qb (by kernel_rfl) (by kernel_rfl) ?_
          repeat go_big_quiet_step (fail)
          refine wpQuiet_nil ?_
          intro w2 hb2
          have HB2 := Lib.hid (HB.out.trans (hb2.mono HB.out.size))
          clear hb2
          go_wp2
          go_roundw
          case rel => exact ⟨k + 1, by omega, by go_num, fun j hj => if h : j = k then h ▸ HE.out else HALL.out j (by omega), HB2.out⟩
          case measure => simp [intOf]; omega
        · have HE := Lib.hid he
          have e1 : (((iget a k : Int) : Int) != ((iget b k : Int) : Int)) = true := by rw [bne_iff_ne]; omega
          clear he
          go_wp2_with fail
          refine wp_region_qb (by kernel_rfl) (by kernel_rfl) ?_
          repeat go_big_quiet_step (fail)
          refine wpQuiet_nil ?_
          intro w2 hb2
          have HB2 := Lib.hid (HB.out.trans (hb2.mono HB.out.size))
          clear hb2
          go_wp2
          go_ret
          exact ⟨by rw [sameI_no HE.out]; rfl, HB2.out⟩
      · have hk2 : k = a.length := by omega
        subst hk2
        have HS := Lib.hid (sameI_yes HL.out hall); have HB := Lib.hid hb
        clear hall hb
        go_wp2
        go_ret
        exact ⟨by rw [HS.out]; rfl, HB.out⟩
  · have HS := Lib.hid (sameI_len hl)
    have e1 : (((a.length : Nat) : Int) != ((b.length : Nat) : Int)) = true := by rw [bne_iff_ne]; omega
    have hl2 : ¬ ((a.length : Int) = (b.length : Int)) := by omega
    go_enter Tryz.func38, Tryz.ntmps38
    go_wp2
    go_ret
    exact ⟨by rw [HS.out]; rfl, Below.refl _ _⟩
end Go.Proofs.YtdmmegmkdhinjaaGreatDoor
