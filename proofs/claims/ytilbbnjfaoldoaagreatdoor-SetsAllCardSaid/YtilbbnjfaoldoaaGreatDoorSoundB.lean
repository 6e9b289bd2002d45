/- solves, said, the closure of SetsSound. -/
import Derived.Test.YtilbbnjfaoldoaaGreatDoorSoundA
namespace Go.Proofs.YtilbbnjfaoldoaaGreatDoor
open Go Go.RowKit
attribute [local go_sem] cell_grow u64_sAnd u64_sOr u64_sDiff sDiff_all zeqI zneI sAnd_bit_zero sAnd_bit_zeroN sAnd_bit_nonzero rowOf_grow rowOk_grow rowOf_alloc rowOk_alloc

def solvesB (p : Prob) (l : List Nat) : Bool := holdsOk p l && (holdsR p l == (p.rules.length : Int)) && betwB p.bounds l
/-- Some fact does not hold for the sets. -/
def notSaid (fs : List Fact) (l : List Nat) (k : Nat) : Bool := !(bitB (nget l (fget fs k).var.toNat) (fget fs k).elem.toNat == (fget fs k).inn)
end Go.Proofs.YtilbbnjfaoldoaaGreatDoor
