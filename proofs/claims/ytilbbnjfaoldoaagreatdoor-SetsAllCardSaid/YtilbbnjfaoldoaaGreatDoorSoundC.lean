/- drawn: sets by numbers. -/
import Derived.Test.YtilbbnjfaoldoaaGreatDoorSoundB
namespace Go.Proofs.YtilbbnjfaoldoaaGreatDoor
open Go Go.RowKit
attribute [local go_sem] cell_grow u64_sAnd u64_sOr u64_sDiff sDiff_all zeqI zneI sAnd_bit_zero sAnd_bit_zeroN sAnd_bit_nonzero rowOf_grow rowOk_grow rowOf_alloc rowOk_alloc

def All64 (l : List Nat) : Prop := ∀ s ∈ l, U64 s
theorem All64.get {l : List Nat} (h : All64 l) (k : Nat) : U64 (nget l k) := by
  unfold nget
  by_cases hk : k < l.length
  · rw [List.getElem?_eq_getElem hk]; exact h _ (List.getElem_mem hk)
  · rw [List.getElem?_eq_none (by omega)]; show (0 : Nat) < _; decide
/-- Sets of the call's own. -/
def DrawnP (n : Nat) (w : World) (e : Ending) (w' : World) : Prop := ∃ v xs, e = .returned v ∧ xs.length = n ∧ All64 xs ∧ w'.ownsRow w.heap.size 38 1 v n (natsV xs) ∧ Below w.heap.size w w'
end Go.Proofs.YtilbbnjfaoldoaaGreatDoor
