/- The reference: node of the search. -/
import Derived.Test.YtilbbnjfaoldoaaGreatDoorRefN
import Derived.Test.YtilbbnjfaoldoaaGreatDoorPlainH
namespace Go.Proofs.YtilbbnjfaoldoaaGreatDoor
open Go Go.RowKit
attribute [local go_sem] cell_grow u64_sAnd u64_sOr u64_sDiff sDiff_all zeqI zneI sAnd_bit_zero sAnd_bit_zeroN sAnd_bit_nonzero rowOf_grow rowOk_grow rowOf_alloc rowOk_alloc

def noneE' : Nat → Prop := fun _ => False
def NodeP (s : Fnd) (base : Nat) (w : World) (e : Ending) (w' : World) : Prop := ∃ sv, e = .returned (.agg #[sv, .int .i64 (s.nodes : Nat), .bool s.opn]) ∧ SOwn w' base sv s.sols ∧ KeptT 35 noneE' base w w'
/-- A row stays where a cell of a block of another type is laid anew. -/
theorem own_setT {w : World} {base b : Nat} {e : TypeId} {sz : Nat} {v x : Value} {n : Nat} {xs : List Value} {c : Array Value} {t : TypeId} {o : Nat} (h : w.ownsRow base e sz v n xs) (hb : w.heap[b]? = some (.cells c t (0, 0))) (ht : t ≠ e) : (w.setCell ⟨b, o, none⟩ x).ownsRow base e sz v n xs :=
  own_type h fun k c' hk => (Below.heap_setCell _ _ _ _ (fun hh => by
    have hh' : k = b := hh
    subst hh'
    rw [hb] at hk
    cases hk
    exact ht rfl)).trans hk
/-- What holds in the regions that call the next nodes. -/
structure HeldN (bv rv av : Value) (al : List Bnd) (base base2 n : Nat) (w Z : World) : Prop where
  prob : Z.heap[w.heap.size + 1]? = some (.cells #[bv, rv] 25 (0, 0))
  kept : KeptT 35 noneE' base w Z
  row : Z.ownsRow base2 47 2 av n (bCells al)
theorem HeldN.kpt {bv rv av : Value} {al : List Bnd} {base base2 n : Nat} {w Z Z' : World} (h : HeldN bv rv av al base base2 n w Z) (hk : KeptT 35 noneE' base Z Z') : HeldN bv rv av al base base2 n w Z' :=
  ⟨hk.same _ _ h.prob (fun hh => hh) (.inr (nT (by decide))), h.kept.trans hk, own_type h.row fun k c hk' => hk.same _ _ hk' (fun hh => hh) (.inr (nT (by decide)))⟩
theorem HeldN.cells {bv rv av : Value} {al : List Bnd} {base base2 n : Nat} {w Z : World} (h : HeldN bv rv av al base base2 n w Z) : Z.cell? ⟨w.heap.size + 1, 0, none⟩ = some bv ∧ Z.cell? ⟨w.heap.size + 1, 1, none⟩ = some rv :=
  ⟨by rw [cell_of_row _ _ _ _ _ _ h.prob]; rfl, by rw [cell_of_row _ _ _ _ _ _ h.prob]; rfl⟩
end Go.Proofs.YtilbbnjfaoldoaaGreatDoor
