/- The reference: Solve. -/
import Derived.Test.YtilbbnjfaoldoaaGreatDoorRefP
namespace Go.Proofs.YtilbbnjfaoldoaaGreatDoor
open Go Go.RowKit
attribute [local go_sem] cell_grow u64_sAnd u64_sOr u64_sDiff sDiff_all zeqI zneI sAnd_bit_zero sAnd_bit_zeroN sAnd_bit_nonzero rowOf_grow rowOk_grow rowOf_alloc rowOk_alloc

def SolP (s : Fnd) (w : World) (e : Ending) (w' : World) : Prop := ∃ sv, e = .returned (.agg #[sv, .int .i64 (s.nodes : Nat), .bool s.opn]) ∧ SOwn w' w.heap.size sv s.sols ∧ Below w.heap.size w w'
end Go.Proofs.YtilbbnjfaoldoaaGreatDoor
