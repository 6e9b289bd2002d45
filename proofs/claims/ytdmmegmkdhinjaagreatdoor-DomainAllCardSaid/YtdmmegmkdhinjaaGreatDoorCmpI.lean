/- slices.Compare at rows. -/
import Derived.Test.YtdmmegmkdhinjaaGreatDoorSortP
import Derived.Test.YtdmmegmkdhinjaaGreatDoorBJ
namespace Go.Proofs.YtdmmegmkdhinjaaGreatDoor
open Go Go.RowKit
attribute [local go_sem] cell_grow u64_sAnd u64_sOr u64_sDiff sDiff_all zeqI zneI sAnd_bit_zero sAnd_bit_zeroN sAnd_bit_nonzero

def cmpI (a b : Int) : Int := if a < b then -1 else if b < a then 1 else 0
theorem cmpZ_iget {a b : List Int} {k : Nat} (ha : k < a.length) (hb : k < b.length) : cmpZ (a.drop k) (b.drop k) = if cmpI (iget a k) (iget b k) = 0 then cmpZ (a.drop (k + 1)) (b.drop (k + 1)) else cmpI (iget a k) (iget b k) := by
  have e1 : iget a k = a[k] := by unfold iget; rw [List.getElem?_eq_getElem ha]; rfl
  have e2 : iget b k = b[k] := by unfold iget; rw [List.getElem?_eq_getElem hb]; rfl
  rw [List.drop_eq_getElem_cons ha, List.drop_eq_getElem_cons hb, e1, e2]
  conv => lhs; unfold cmpZ
  unfold cmpI
  by_cases h1 : a[k] < b[k]
  · simp [h1]
  · by_cases h2 : b[k] < a[k]
    · simp [h1, h2]
    · simp [h1, h2]
set_option maxRecDepth 100000 in
theorem isnan_no (a : Int) (w : World) : Calls Tryz.prog 105 #[.int .i64 a] w fun e w' => e = .returned (.bool false) ∧ w' = w := by
  have h0 : (a != a) = false := by simp
  go_enter Tryz.func105, Tryz.ntmps105
  go_wp2
  go_ret
  exact ⟨rfl, rfl⟩
set_option maxRecDepth 100000 in
theorem compare_i64 (a b : Int) (w : World) : Calls Tryz.prog 67 #[.int .i64 a, .int .i64 b] w fun e w' => e = .returned (.int .i64 (cmpI a b)) ∧ w' = w := by
  have HA := Lib.hid (isnan_no a w); have HB := Lib.hid (isnan_no b w)
  unfold cmpI
  by_cases h1 : a < b
  · rw [if_pos h1]
    have h1' : a < b := by omega
    clear h1
    go_enter Tryz.func67, Tryz.ntmps67
    go_wp2_with fail
    refine HA.out.mono ?_
    rintro e w' ⟨rfl, rfl⟩
    go_wp2_with fail
    refine HB.out.mono ?_
    rintro e w' ⟨rfl, rfl⟩
    go_wp2
    go_ret
    exact ⟨rfl, rfl⟩
  · rw [if_neg h1]
    have h1' : ¬ a < b := by omega
    clear h1
    by_cases h2 : b < a
    · rw [if_pos h2]
      have h2' : b < a := by omega
      clear h2
      go_enter Tryz.func67, Tryz.ntmps67
      go_wp2_with fail
      refine HA.out.mono ?_
      rintro e w' ⟨rfl, rfl⟩
      go_wp2_with fail
      refine HB.out.mono ?_
      rintro e w' ⟨rfl, rfl⟩
      go_wp2
      go_ret
      exact ⟨rfl, rfl⟩
    · rw [if_neg h2]
      have h2' : ¬ b < a := by omega
      clear h2
      go_enter Tryz.func67, Tryz.ntmps67
      go_wp2_with fail
      refine HA.out.mono ?_
      rintro e w' ⟨rfl, rfl⟩
      go_wp2_with fail
      refine HB.out.mono ?_
      rintro e w' ⟨rfl, rfl⟩
      go_wp2
      go_ret
      exact ⟨rfl, rfl⟩
set_option maxRecDepth 100000 in
set_option maxHeartbeats 1000000 in
theorem compare_any (av bv : Value) (a b : List Int) (w : World) (ha : Ints w w.heap.size av a) (hb : Ints w w.heap.size bv b) :
    Calls Tryz.prog 35 #[av, bv] w fun e w' => e = .returned (.int .i64 (cmpZ a b)) ∧ w' = w := by
  obtain ⟨ha1, aa, ac, rfl, ha2, ha3, ha4⟩ := ha
  obtain ⟨hb1, ba, bc, rfl, hb2, hb3, hb4⟩ := hb
  have HA := Lib.hid ha4; have HB := Lib.hid hb4
  clear ha4 hb4
  go_enter Tryz.func35, Tryz.ntmps35
  go_wp2
  go_loopw [11] (fun i wr => ∃ k : Nat, k ≤ a.length ∧ k ≤ b.length ∧ i = .int .i64 k ∧ cmpZ a b = cmpZ (a.drop k) (b.drop k) ∧ wr = w) (fun i _ => a.length - (intOf i).toNat)
  case atStart => exact ⟨0, Nat.zero_le _, Nat.zero_le _, rfl, by simp, rfl⟩
  case round =>
    obtain ⟨k, hk, hkb, rfl, hc, rfl⟩ := hrel
    by_cases hlt : k < a.length
    · obtain ⟨gb, go, rfl, _, hcell⟩ := HA.out (by omega)
      have q0 := hcell k (by omega)
      by_cases hlb : k < b.length
      · obtain ⟨gb2, go2, rfl, _, hcell2⟩ := HB.out (by omega)
        have q1 := hcell2 k (by omega)
        have HC := Lib.hid (hc.trans (cmpZ_iget hlt hlb))
        have HCMP := Lib.hid (compare_i64 (iget a k) (iget b k) wr)
        clear hcell hcell2 hc
        go_wp2_with fail
        refine HCMP.out.mono ?_
        rintro e w' ⟨rfl, rfl⟩
        by_cases h0 : cmpI (iget a k) (iget b k) = 0
        · have e1 := HC.out
          rw [if_pos h0] at e1
          have HE := Lib.hid e1
          rw [h0]
          clear e1 h0 HC
          go_wp2
          go_roundw
          case rel => exact ⟨k + 1, by omega, by omega, by go_num, HE.out, by first | rfl | trivial⟩
          case measure => simp [intOf]; omega
        · have e1 := HC.out
          rw [if_neg h0] at e1
          have HE := Lib.hid e1
          have h0' : (cmpI (iget a k) (iget b k) != 0) = true := by simpa using h0
          clear e1 h0 HC
          go_wp2
          go_ret
          exact ⟨congrArg (fun z => Ending.returned (Value.int .i64 z)) HE.out.symm, rfl⟩
      · have hkb2 : k = b.length := by omega
        have e1 : cmpZ a b = 1 := by
          rw [hc, List.drop_eq_getElem_cons hlt, List.drop_eq_nil_of_le (show b.length ≤ k by omega)]; rfl
        have HE := Lib.hid e1
        subst hkb2
        clear hcell hc e1
        go_wp2
        go_ret
        exact ⟨congrArg (fun z => Ending.returned (Value.int .i64 z)) HE.out.symm, rfl⟩
    · have hka : k = a.length := by omega
      by_cases hlb : a.length < b.length
      · have e1 : cmpZ a b = -1 := by
          rw [hc, List.drop_eq_nil_of_le (show a.length ≤ k by omega), List.drop_eq_getElem_cons (show k < b.length by omega)]; rfl
        have HE := Lib.hid e1
        clear hc e1
        go_wp2
        go_ret
        exact ⟨congrArg (fun z => Ending.returned (Value.int .i64 z)) HE.out.symm, rfl⟩
      · have e1 : cmpZ a b = 0 := by
          rw [hc, List.drop_eq_nil_of_le (show a.length ≤ k by omega), List.drop_eq_nil_of_le (show b.length ≤ k by omega)]; rfl
        have HE := Lib.hid e1
        clear hc e1
        go_wp2
        go_ret
        exact ⟨congrArg (fun z => Ending.returned (Value.int .i64 z)) HE.out.symm, rfl⟩
end Go.Proofs.YtdmmegmkdhinjaaGreatDoor
