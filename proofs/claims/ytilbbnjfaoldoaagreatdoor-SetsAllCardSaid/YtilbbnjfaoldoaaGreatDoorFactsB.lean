/- slices.Grow, slices.Concat of two, at facts. -/
import Derived.Test.YtilbbnjfaoldoaaGreatDoorFacts
namespace Go.Proofs.YtilbbnjfaoldoaaGreatDoor
open Go Go.RowKit
attribute [local go_sem] cell_grow Oper.semAt_some

def sumL (a b k : Nat) : Nat := if k = 0 then 0 else if k = 1 then a else a + b
def catL {α : Type} (a b : List α) (k : Nat) : List α := if k = 0 then [] else if k = 1 then a else a ++ b
end Go.Proofs.YtilbbnjfaoldoaaGreatDoor
