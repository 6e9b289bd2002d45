/- math/bits.OnesCount64 at small numbers: the sums. -/
import Derived.Test.YtdmmegmkdhinjaaGreatDoorPlainU
namespace Go.Proofs.YtdmmegmkdhinjaaGreatDoor
open Go Go.RowKit
def pop1 (x : Nat) : Nat := (x / 2 &&& 6148914691236517205) + (x &&& 6148914691236517205)
def pop2 (x : Nat) : Nat := (x / 4 &&& 3689348814741910323) + (x &&& 3689348814741910323)
def pop3 (x : Nat) : Nat := (x / 16 + x) &&& 1085102592571150095
def pop4 (x : Nat) : Nat := x + x / 256
def pop5 (x : Nat) : Nat := x + x / 65536
def pop6 (x : Nat) : Nat := x + x / 4294967296
theorem and_le_l (a b : Nat) : a &&& b ≤ a := Nat.and_le_left
theorem pop1_eq (x : Nat) (h : x < 65536) : IntKind.u64.wrap (bits BinOp.and IntKind.u64 ((x : Int) / 2) 6148914691236517205 + bits BinOp.and IntKind.u64 (x : Int) 6148914691236517205) = ((pop1 x : Nat) : Int) ∧ pop1 x < 131072 := by
  have e1 := u64_and_nat (x / 2) 6148914691236517205 (by omega) (by omega)
  have e2 := u64_and_nat x 6148914691236517205 (by omega) (by omega)
  have h1 := and_le_l (x / 2) 6148914691236517205
  have h2 := and_le_l x 6148914691236517205
  have e0 : ((x / 2 : Nat) : Int) = (x : Int) / 2 := by omega
  rw [e0] at e1
  have l1 : ((6148914691236517205 : Nat) : Int) = 6148914691236517205 := rfl
  rw [l1] at e1 e2
  rw [e1, e2, IntKind.wrap_u64]
  unfold pop1
  omega
theorem pop2_eq (x : Nat) (h : x < 131072) : IntKind.u64.wrap (bits BinOp.and IntKind.u64 ((x : Int) / 4) 3689348814741910323 + bits BinOp.and IntKind.u64 (x : Int) 3689348814741910323) = ((pop2 x : Nat) : Int) ∧ pop2 x < 262144 := by
  have e1 := u64_and_nat (x / 4) 3689348814741910323 (by omega) (by omega)
  have e2 := u64_and_nat x 3689348814741910323 (by omega) (by omega)
  have h1 := and_le_l (x / 4) 3689348814741910323
  have h2 := and_le_l x 3689348814741910323
  have e0 : ((x / 4 : Nat) : Int) = (x : Int) / 4 := by omega
  rw [e0] at e1
  have l1 : ((3689348814741910323 : Nat) : Int) = 3689348814741910323 := rfl
  rw [l1] at e1 e2
  rw [e1, e2, IntKind.wrap_u64]
  unfold pop2
  omega
theorem pop3_eq (x : Nat) (h : x < 262144) : bits BinOp.and IntKind.u64 (IntKind.u64.wrap ((x : Int) / 16 + (x : Int))) 1085102592571150095 = ((pop3 x : Nat) : Int) ∧ pop3 x < 524288 := by
  have e0 : IntKind.u64.wrap ((x : Int) / 16 + (x : Int)) = ((x / 16 + x : Nat) : Int) := by rw [IntKind.wrap_u64]; omega
  have e1 := u64_and_nat (x / 16 + x) 1085102592571150095 (by omega) (by omega)
  have h1 := and_le_l (x / 16 + x) 1085102592571150095
  have l1 : ((1085102592571150095 : Nat) : Int) = 1085102592571150095 := rfl
  rw [l1] at e1
  rw [e0, e1]
  unfold pop3
  exact ⟨rfl, by omega⟩
theorem pop4_eq (x : Nat) (h : x < 524288) : IntKind.u64.wrap ((x : Int) + (x : Int) / 256) = ((pop4 x : Nat) : Int) ∧ pop4 x < 1048576 := by unfold pop4; rw [IntKind.wrap_u64]; omega
theorem pop5_eq (x : Nat) (h : x < 1048576) : IntKind.u64.wrap ((x : Int) + (x : Int) / 65536) = ((pop5 x : Nat) : Int) ∧ pop5 x < 2097152 := by unfold pop5; rw [IntKind.wrap_u64]; omega
theorem pop6_eq (x : Nat) (h : x < 2097152) : IntKind.u64.wrap ((x : Int) + (x : Int) / 4294967296) = ((pop6 x : Nat) : Int) ∧ pop6 x < 4194304 := by unfold pop6; rw [IntKind.wrap_u64]; omega
def popAll (x : Nat) : Nat := pop6 (pop5 (pop4 (pop3 (pop2 (pop1 x)))))
theorem pop7_eq (x : Nat) (h : x < 4194304) : bits BinOp.and IntKind.i64 (x : Int) 127 = ((x &&& 127 : Nat) : Int) := by
  exact i64_and (by omega) (by decide)
/-- The bits of a number below 65536, added. -/
def bit16s (x : Nat) : Nat := x % 2 + x / 2 % 2 + x / 4 % 2 + x / 8 % 2 + x / 16 % 2 + x / 32 % 2 + x / 64 % 2 + x / 128 % 2 + x / 256 % 2 + x / 512 % 2 + x / 1024 % 2 + x / 2048 % 2 + x / 4096 % 2 + x / 8192 % 2 + x / 16384 % 2 + x / 32768 % 2
theorem popAll_at2 : ∀ a, a < 256 → ∀ b, b < 256 → popAll (a * 256 + b) &&& 127 = bit16s (a * 256 + b) := by decide +kernel
end Go.Proofs.YtdmmegmkdhinjaaGreatDoor
