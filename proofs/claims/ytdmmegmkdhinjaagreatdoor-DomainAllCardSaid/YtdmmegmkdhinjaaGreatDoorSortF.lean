/- slices.SortFunc at rows of numbers, in this program. -/
import Derived.Test.YtdmmegmkdhinjaaGreatDoorShelfQ
import Derived.Test.YtdmmegmkdhinjaaGreatDoorSortI
import Derived.Test.YtdmmegmkdhinjaaGreatDoorCmpI
namespace Go.Proofs.YtdmmegmkdhinjaaGreatDoor
open Go Go.RowKit

/-- slices.SortFunc(l, slices.Compare) at rows of numbers. -/
theorem sortFunc_any (ss : List (List Int)) (w : World) (base base2 : Nat) (v : Value) (h : LOwn w base v ss) (hb2 : ∀ k, v.ownBlock = some k → base2 ≤ k) (hn : ss.Nodup) (h200 : ss.length ≤ 200) (hrow : ∀ i, i < ss.length → (lget ss i).length ≤ 1000) :
    Calls Tryz.prog 34 #[v, .func (.func 35) #[] #[]] w fun e w' => e = .returned (.tuple #[]) ∧ LOwn w' base v (sortZ ss) ∧ KeptT 39 (fun _ => False) base2 w w' :=
  sort_rows Tryz.sortL 35 (enters_of Tryz.func35 (by kernel_rfl) rfl) (fun W a b x y ha hb => compare_any a b x y W ha hb) ss w base base2 v h hb2 hn h200 hrow
end Go.Proofs.YtdmmegmkdhinjaaGreatDoor
