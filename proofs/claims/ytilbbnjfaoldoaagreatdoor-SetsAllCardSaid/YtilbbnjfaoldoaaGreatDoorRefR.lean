/- The reference: Core. -/
import Derived.Test.YtilbbnjfaoldoaaGreatDoorRefQ
namespace Go.Proofs.YtilbbnjfaoldoaaGreatDoor
open Go Go.RowKit
attribute [local go_sem] cell_grow u64_sAnd u64_sOr u64_sDiff sDiff_all zeqI zneI sAnd_bit_zero sAnd_bit_zeroN sAnd_bit_nonzero rowOf_grow rowOk_grow rowOf_alloc rowOk_alloc

theorem pick_all (p : Prob) : pick p (allN p) = p := by
  obtain ⟨b, rs⟩ := p
  unfold pick allN
  congr 1
  apply List.ext_getElem (by simp)
  intro i h1 h2
  simp [rget, h2]
theorem noneR_all (p : Prob) : noneR p (allN p) = searchR p 1 := by unfold noneR; rw [pick_all]
/-- The cells that the region which takes a rule over reads. -/
def HeldC (pb : Nat) (rsl : Value) (xb xk n rb ro : Nat) (r : Rl) (vs : Value) (Z : World) : Prop :=
  Z.cell? ⟨pb, 1, none⟩ = some rsl ∧ Z.cell? ⟨xb, xk, none⟩ = some (.int .i64 (n : Int)) ∧ Z.cell? ⟨rb, ro + n * 4, none⟩ = some (.int .i64 r.kind) ∧ Z.cell? ⟨rb, ro + n * 4 + 1, none⟩ = some vs ∧ Z.cell? ⟨rb, ro + n * 4 + 2, none⟩ = some (.int .i64 r.low) ∧ Z.cell? ⟨rb, ro + n * 4 + 3, none⟩ = some (.int .i64 r.high)
theorem HeldC.low {pb : Nat} {rsl : Value} {xb xk n rb ro : Nat} {r : Rl} {vs : Value} {V Z : World} {N : Nat} (h : HeldC pb rsl xb xk n rb ro r vs V) (hb : Below N V Z) (h1 : pb < N) (h2 : xb < N) (h3 : rb < N) : HeldC pb rsl xb xk n rb ro r vs Z :=
  ⟨(hb.cell (p := ⟨pb, _, none⟩) h1).trans h.1, (hb.cell (p := ⟨xb, _, none⟩) h2).trans h.2.1, (hb.cell (p := ⟨rb, _, none⟩) h3).trans h.2.2.1, (hb.cell (p := ⟨rb, _, none⟩) h3).trans h.2.2.2.1, (hb.cell (p := ⟨rb, _, none⟩) h3).trans h.2.2.2.2.1, (hb.cell (p := ⟨rb, _, none⟩) h3).trans h.2.2.2.2.2⟩
theorem HeldC.set {pb : Nat} {rsl : Value} {xb xk n rb ro : Nat} {r : Rl} {vs : Value} {Z : World} (h : HeldC pb rsl xb xk n rb ro r vs Z) {q o : Nat} {x : Value} (h1 : pb ≠ q) (h2 : xb ≠ q) (h3 : rb ≠ q) : HeldC pb rsl xb xk n rb ro r vs (Z.setCell ⟨q, o, none⟩ x) := by
  have key : ∀ b o', b ≠ q → (Z.setCell ⟨q, o, none⟩ x).cell? ⟨b, o', none⟩ = Z.cell? ⟨b, o', none⟩ := fun b o' hb => World.cell?_of_block (Below.heap_setCell _ _ _ _ (by exact hb))
  unfold HeldC
  rw [key _ _ h1, key _ _ h2, key _ _ h3, key _ _ h3, key _ _ h3, key _ _ h3]
  exact h
def CoreP (p : Prob) (w : World) (e : Ending) (w' : World) : Prop := ∃ cv, e = .returned (.tuple #[cv, .int .i64 (coreR p).2]) ∧ Ints w' w'.heap.size cv ((coreR p).1.map natI) ∧ Below w.heap.size w w'


def coreAOps : Array Oper := #[
  { dst := some 38, op := Op.move (Operand.tmp 5), type := 40, pos := "ref.go:358", after := #[], guard := none },
  { dst := some 39, op := Op.move (Operand.tmp 7), type := 3, pos := "ref.go:358", after := #[], guard := none },
  { dst := some 40, op := Op.slice 40 (Operand.tmp 38) none (some (Operand.tmp 39)) none, type := 40, pos := "ref.go:358", after := #[{ on := 0, ground := Ground.data }, { on := 1, ground := Ground.data }], guard := none },
  { dst := some 41, op := Op.call { callee := Callee.builtin Builtin.append, args := #[Operand.const (Value.slice none 0 0), Operand.tmp 40], argTypes := #[40, 40] }, type := 40, pos := "ref.go:358", after := #[{ on := 2, ground := Ground.data }], guard := none },
  { dst := some 42, op := Op.move (Operand.tmp 5), type := 40, pos := "ref.go:358", after := #[], guard := none },
  { dst := some 43, op := Op.move (Operand.tmp 7), type := 3, pos := "ref.go:358", after := #[], guard := none },
  { dst := some 44, op := Op.binOp BinOp.add 3 (Operand.tmp 43) (Operand.const (Value.int IntKind.i64 1)) 3, type := 3, pos := "ref.go:358", after := #[{ on := 5, ground := Ground.data }], guard := none },
  { dst := some 45, op := Op.slice 40 (Operand.tmp 42) (some (Operand.tmp 44)) none none, type := 40, pos := "ref.go:358", after := #[{ on := 4, ground := Ground.data }, { on := 6, ground := Ground.data }], guard := none },
  { dst := some 46, op := Op.call { callee := Callee.builtin Builtin.append, args := #[Operand.tmp 41, Operand.tmp 45], argTypes := #[40, 40] }, type := 40, pos := "ref.go:358", after := #[{ on := 3, ground := Ground.data }, { on := 7, ground := Ground.data }, { on := 3, ground := Ground.chain }], guard := none },
  { dst := some 8, op := Op.assign (Operand.tmp 46), type := 40, pos := "ref.go:358", after := #[{ on := 8, ground := Ground.data }, { on := 8, ground := Ground.chain }, { on := 0, ground := Ground.phase }, { on := 1, ground := Ground.phase }, { on := 2, ground := Ground.phase }, { on := 3, ground := Ground.phase }, { on := 4, ground := Ground.phase }, { on := 5, ground := Ground.phase }, { on := 6, ground := Ground.phase }, { on := 7, ground := Ground.phase }, { on := 8, ground := Ground.phase }], guard := none }]
def coreBOps : Array Oper := #[
  { dst := some 56, op := Op.fieldAddr 25 (Operand.tmp 9) 1, type := 0, pos := "ref.go:361", after := #[], guard := none },
  { dst := some 57, op := Op.load 23 (Operand.tmp 56), type := 23, pos := "ref.go:361", after := #[{ on := 0, ground := Ground.data }], guard := none },
  { dst := some 58, op := Op.fieldAddr 25 (Operand.tmp 1) 1, type := 0, pos := "ref.go:361", after := #[], guard := none },
  { dst := some 59, op := Op.load 23 (Operand.tmp 58), type := 23, pos := "ref.go:361", after := #[{ on := 2, ground := Ground.data }], guard := none },
  { dst := some 60, op := Op.move (Operand.tmp 8), type := 40, pos := "ref.go:361", after := #[], guard := none },
  { dst := some 61, op := Op.move (Operand.tmp 10), type := 3, pos := "ref.go:361", after := #[], guard := none },
  { dst := some 62, op := Op.indexAddr 40 (Operand.tmp 60) (Operand.tmp 61), type := 0, pos := "ref.go:361", after := #[{ on := 4, ground := Ground.data }, { on := 5, ground := Ground.data }], guard := none },
  { dst := some 63, op := Op.load 3 (Operand.tmp 62), type := 3, pos := "ref.go:361", after := #[{ on := 6, ground := Ground.data }], guard := none },
  { dst := some 64, op := Op.indexAddr 23 (Operand.tmp 59) (Operand.tmp 63), type := 0, pos := "ref.go:361", after := #[{ on := 3, ground := Ground.data }, { on := 7, ground := Ground.data }], guard := none },
  { dst := some 65, op := Op.load 62 (Operand.tmp 64), type := 62, pos := "ref.go:361", after := #[{ on := 8, ground := Ground.data }], guard := none },
  { dst := some 66, op := Op.buildSlice 23 1 #[(0, Operand.tmp 65)], type := 23, pos := "ref.go:361", after := #[{ on := 9, ground := Ground.data }], guard := none },
  { dst := some 67, op := Op.call { callee := Callee.builtin Builtin.append, args := #[Operand.tmp 57, Operand.tmp 66], argTypes := #[23, 23] }, type := 23, pos := "ref.go:361", after := #[{ on := 1, ground := Ground.data }, { on := 10, ground := Ground.data }], guard := none },
  { dst := some 68, op := Op.fieldAddr 25 (Operand.tmp 9) 1, type := 0, pos := "ref.go:361", after := #[{ on := 0, ground := Ground.phase }, { on := 1, ground := Ground.phase }, { on := 2, ground := Ground.phase }, { on := 3, ground := Ground.phase }, { on := 4, ground := Ground.phase }, { on := 5, ground := Ground.phase }, { on := 6, ground := Ground.phase }, { on := 7, ground := Ground.phase }, { on := 8, ground := Ground.phase }, { on := 9, ground := Ground.phase }, { on := 10, ground := Ground.phase }, { on := 11, ground := Ground.phase }], guard := none },
  { dst := none, op := Op.store 23 (Operand.tmp 68) (Operand.tmp 67), type := 0, pos := "ref.go:361", after := #[{ on := 12, ground := Ground.data }, { on := 11, ground := Ground.data }, { on := 11, ground := Ground.chain }, { on := 0, ground := Ground.phase }, { on := 1, ground := Ground.phase }, { on := 2, ground := Ground.phase }, { on := 3, ground := Ground.phase }, { on := 4, ground := Ground.phase }, { on := 5, ground := Ground.phase }, { on := 6, ground := Ground.phase }, { on := 7, ground := Ground.phase }, { on := 8, ground := Ground.phase }, { on := 9, ground := Ground.phase }, { on := 10, ground := Ground.phase }, { on := 11, ground := Ground.phase }], guard := none }]
end Go.Proofs.YtilbbnjfaoldoaaGreatDoor
