/- The reference: reason. -/
import Derived.Test.YtilbbnjfaoldoaaGreatDoorRefL
namespace Go.Proofs.YtilbbnjfaoldoaaGreatDoor
open Go Go.RowKit
attribute [local go_sem] cell_grow u64_sAnd u64_sOr u64_sDiff sDiff_all zeqI zneI sAnd_bit_zero sAnd_bit_zeroN sAnd_bit_nonzero rowOf_grow rowOk_grow rowOf_alloc rowOk_alloc

theorem why0_succ_yes {p : Prob} {l : List Fact} {j k : Nat} (h : ihas (rget p.rules j).vars (fget l k).var = true) : why0 p l j (k + 1) = why0 p l j k ++ [(k : Int)] := by rw [why0, h]; rfl
theorem why0_succ_no {p : Prob} {l : List Fact} {j k : Nat} (h : ihas (rget p.rules j).vars (fget l k).var = false) : why0 p l j (k + 1) = why0 p l j k := by rw [why0, h]; rfl
/-- A part of a slice of ints. -/
theorem ints_drop {w : World} {B : Nat} {g off n c k : Nat} {xs : List Int} (h : Ints w B (.slice (some ⟨g, off, none⟩) n c) xs) (hk : k ≤ n) (hc : c ≠ k) : Row w B 1 (.slice (some ⟨g, off + k, none⟩) (n - k) (c - k)) (n - k) (fun i => .int .i64 (iget (xs.drop k) i)) := by
  obtain ⟨hn, a, cap, hv, h1, h2, h3⟩ := h
  cases hv
  refine ⟨by omega, _, _, rfl, by omega, by unfold maxLen at h2 ⊢; omega, fun h0 => ?_⟩
  obtain ⟨b, o, ha, hb, hcell⟩ := h3 (by omega)
  cases ha
  refine ⟨_, _, rfl, hb, fun i hi => ?_⟩
  rw [Nat.add_assoc, hcell (k + i) (by omega)]
  simp [iget, List.getElem?_drop]
theorem ints_row {w : World} {B : Nat} {v : Value} {xs : List Int} (h : Ints w B v xs) : Row w B 1 v xs.length (fun i => .int .i64 (iget xs i)) := h
theorem intsV_row (xs : List Int) : ∀ j, j < xs.length * 1 → (intsV xs)[j]? = some (.int .i64 (iget xs j)) := fun j hj => ints_get xs j (by omega)
structure TwoLow (w wr Z : World) : Prop where
  low : Below w.heap.size w Z
  low1 : Below wr.heap.size wr Z
theorem TwoLow.grown {w wr Z Z' : World} {r : Option Nat} (h : TwoLow w wr Z) (hs : w.heap.size ≤ wr.heap.size) (hg : Z.grownBy Z' r) (hr : ∀ q, r = some q → wr.heap.size ≤ q) : TwoLow w wr Z' :=
  ⟨h.low.grown hg h.low.size (fun q hq => Nat.le_trans hs (hr q hq)), h.low1.grown hg h.low1.size hr⟩
theorem whyOf_eq (p : Prob) (l : List Fact) (f : Fact) : whyOf p l f = whyRed p l f (why0 p l f.rule.toNat l.length).length (why0 p l f.rule.toNat l.length) := rfl
def fewerOps : Array Oper := #[
  { dst := some 40, op := Op.move (Operand.tmp 7), type := 40, pos := "ref.go:224", after := #[], guard := none },
  { dst := some 41, op := Op.move (Operand.tmp 9), type := 3, pos := "ref.go:224", after := #[], guard := none },
  { dst := some 42, op := Op.slice 40 (Operand.tmp 40) none (some (Operand.tmp 41)) none, type := 40, pos := "ref.go:224", after := #[{ on := 0, ground := Ground.data }, { on := 1, ground := Ground.data }], guard := none },
  { dst := some 43, op := Op.call { callee := Callee.builtin Builtin.append, args := #[Operand.const (Value.slice none 0 0), Operand.tmp 42], argTypes := #[40, 40] }, type := 40, pos := "ref.go:224", after := #[{ on := 2, ground := Ground.data }], guard := none },
  { dst := some 44, op := Op.move (Operand.tmp 7), type := 40, pos := "ref.go:224", after := #[], guard := none },
  { dst := some 45, op := Op.move (Operand.tmp 9), type := 3, pos := "ref.go:224", after := #[], guard := none },
  { dst := some 46, op := Op.binOp BinOp.add 3 (Operand.tmp 45) (Operand.const (Value.int IntKind.i64 1)) 3, type := 3, pos := "ref.go:224", after := #[{ on := 5, ground := Ground.data }], guard := none },
  { dst := some 47, op := Op.slice 40 (Operand.tmp 44) (some (Operand.tmp 46)) none none, type := 40, pos := "ref.go:224", after := #[{ on := 4, ground := Ground.data }, { on := 6, ground := Ground.data }], guard := none },
  { dst := some 48, op := Op.call { callee := Callee.builtin Builtin.append, args := #[Operand.tmp 43, Operand.tmp 47], argTypes := #[40, 40] }, type := 40, pos := "ref.go:224", after := #[{ on := 3, ground := Ground.data }, { on := 7, ground := Ground.data }, { on := 3, ground := Ground.chain }], guard := none },
  { dst := some 10, op := Op.assign (Operand.tmp 48), type := 40, pos := "ref.go:224", after := #[{ on := 8, ground := Ground.data }, { on := 8, ground := Ground.chain }, { on := 0, ground := Ground.phase }, { on := 1, ground := Ground.phase }, { on := 2, ground := Ground.phase }, { on := 3, ground := Ground.phase }, { on := 4, ground := Ground.phase }, { on := 5, ground := Ground.phase }, { on := 6, ground := Ground.phase }, { on := 7, ground := Ground.phase }, { on := 8, ground := Ground.phase }], guard := none }]
end Go.Proofs.YtilbbnjfaoldoaaGreatDoor
