/- The reference's comparison of two lists of facts. -/
import Derived.Test.YtilbbnjfaoldoaaGreatDoorBG
import Derived.Test.YtilbbnjfaoldoaaGreatDoorRefM
namespace Go.Proofs.YtilbbnjfaoldoaaGreatDoor
open Go Go.RowKit
attribute [local go_sem] cell_grow u64_sAnd u64_sOr u64_sDiff sDiff_all zeqI zneI sAnd_bit_zero sAnd_bit_zeroN sAnd_bit_nonzero rowOf_grow rowOk_grow rowOf_alloc rowOk_alloc

def sameFs (a b : List Fact) : Bool := decide (a = b)
theorem sameFs_len {a b : List Fact} (h : a.length ≠ b.length) : sameFs a b = false := by unfold sameFs; exact decide_eq_false fun e => h (by rw [e])
theorem sameFs_no {a b : List Fact} {k : Nat} (h : fget a k ≠ fget b k) : sameFs a b = false := by unfold sameFs; exact decide_eq_false fun e => h (by rw [e])
theorem sameFs_yes {a b : List Fact} (hl : a.length = b.length) (h : ∀ i, i < a.length → fget a i = fget b i) : sameFs a b = true := by
  unfold sameFs
  apply decide_eq_true
  apply List.ext_getElem hl
  intro i h1 h2
  have := h i h1
  simpa [fget, h1, h2] using this
theorem fact_ext {x y : Fact} (h1 : x.var = y.var) (h2 : x.elem = y.elem) (h3 : x.inn = y.inn) (h4 : x.rule = y.rule) (h5 : sameI x.why y.why = true) : x = y := by
  obtain ⟨a, b, c, d, e⟩ := x
  obtain ⟨a', b', c', d', e'⟩ := y
  have h6 : e = e' := of_decide_eq_true h5
  simp only at h1 h2 h3 h4
  rw [h1, h2, h3, h4, h6]
theorem bne_no {α : Type} [BEq α] [LawfulBEq α] {x y : α} (h : x = y) : (x != y) = false := by rw [h]; simp
theorem bne_yes {α : Type} [BEq α] [LawfulBEq α] {x y : α} (h : x ≠ y) : (x != y) = true := by simp [h]
end Go.Proofs.YtilbbnjfaoldoaaGreatDoor
