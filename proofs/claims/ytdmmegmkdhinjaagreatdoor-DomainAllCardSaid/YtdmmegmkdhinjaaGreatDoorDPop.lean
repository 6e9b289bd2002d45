/- math/bits.OnesCount64 at small numbers. -/
import Derived.Test.YtdmmegmkdhinjaaGreatDoorDPopA
namespace Go.Proofs.YtdmmegmkdhinjaaGreatDoor
open Go Go.RowKit
theorem map16 (f : Nat → Nat) : ((List.range 16).map f).sum = f 0 + f 1 + f 2 + f 3 + f 4 + f 5 + f 6 + f 7 + f 8 + f 9 + f 10 + f 11 + f 12 + f 13 + f 14 + f 15 := by
  show f 0 + (f 1 + (f 2 + (f 3 + (f 4 + (f 5 + (f 6 + (f 7 + (f 8 + (f 9 + (f 10 + (f 11 + (f 12 + (f 13 + (f 14 + (f 15 + 0))))))))))))))) = _
  simp only [Nat.add_assoc, Nat.add_zero]
theorem bit_div (x i : Nat) : (if x.testBit i then 1 else 0) = x / 2 ^ i % 2 := by
  rw [Nat.testBit_eq_decide_div_mod_eq]
  have := Nat.mod_two_eq_zero_or_one (x / 2 ^ i)
  rcases this with h | h <;> simp [h]
theorem size_16 (x : Nat) (h : x < 65536) : sizeD x = bit16s x := by
  unfold sizeD
  rw [elems_16 h, ← List.countP_eq_length_filter]
  have key : ∀ l : List Nat, l.countP x.testBit = (l.map fun i => x / 2 ^ i % 2).sum := fun l => by
    induction l with
    | nil => rfl
    | cons i l ih => rw [List.countP_cons, ih, List.map_cons, List.sum_cons, ← bit_div]; omega
  rw [key]
  rw [map16]
  unfold bit16s
  simp only [Nat.reducePow, Nat.div_one]
theorem popAll_at (x : Nat) (h : x < 65536) : popAll x &&& 127 = sizeD x := by
  have := popAll_at2 (x / 256) (by omega) (x % 256) (by omega)
  rw [size_16 x h]
  rwa [show x / 256 * 256 + x % 256 = x by omega] at this
set_option maxRecDepth 100000 in
set_option maxHeartbeats 1000000 in
theorem ones_any (x : Nat) (hx : x < 65536) (w : World) :
    Calls Tryz.prog 28 #[.int .u64 x] w fun e w' => e = .returned (.int .i64 (sizeD x : Nat)) ∧ w' = w := by
  obtain ⟨a1, b1⟩ := pop1_eq x hx
  obtain ⟨a2, b2⟩ := pop2_eq _ b1
  obtain ⟨a3, b3⟩ := pop3_eq _ b2
  obtain ⟨a4, b4⟩ := pop4_eq _ b3
  obtain ⟨a5, b5⟩ := pop5_eq _ b4
  obtain ⟨a6, b6⟩ := pop6_eq _ b5
  have a7 := pop7_eq _ b6
  have e := popAll_at x hx
  unfold popAll at e
  rw [e] at a7
  clear e b1 b2 b3 b4 b5
  go_enter Tryz.func28, Tryz.ntmps28
  go_wp2
  go_ret
  exact ⟨rfl, rfl⟩
end Go.Proofs.YtdmmegmkdhinjaaGreatDoor
