/- The reference: right, Wrong, SmallProof. -/
import Derived.Test.YtilbbnjfaoldoaaGreatDoorRefK
import Derived.Test.YtilbbnjfaoldoaaGreatDoorLawB
namespace Go.Proofs.YtilbbnjfaoldoaaGreatDoor
open Go Go.RowKit
attribute [local go_sem] cell_grow u64_sAnd u64_sOr u64_sDiff sDiff_all zeqI zneI sAnd_bit_zero sAnd_bit_zeroN sAnd_bit_nonzero rowOf_grow rowOk_grow rowOf_alloc rowOk_alloc

theorem about_nat2 {p : Prob} {fv fe fr : Int} {fi : Bool} {fw : List Int} (hp : probOk p = true) (h : aboutB p ⟨fv, fe, fi, fr, fw⟩ = true) : ∃ j v e : Nat, fr = j ∧ j < p.rules.length ∧ fv = v ∧ v < p.bounds.length ∧ fe = e ∧ e < 12 := by
  have h2 : askedN p fv fe fr 0 = true := by
    unfold aboutB at h
    unfold askedN
    rw [h]; rfl
  obtain ⟨j, v, e, h1, h2, h3, h4, h5, h6, _⟩ := askedN_nat hp h2
  exact ⟨j, v, e, h1, h2, h3, h4, h5, h6⟩
theorem dupF_yes {l : List Fact} {f : Fact} {k : Nat} (hk : k < l.length) (h : sameF (fget l k) f = true) : dupF l f = true := by
  unfold dupF; rw [List.any_eq_true]; exact ⟨k, List.mem_range.2 hk, h⟩
theorem dupF_no {l : List Fact} {f : Fact} (h : ∀ j, j < l.length → sameF (fget l j) f = false) : dupF l f = false := by
  unfold dupF; rw [Bool.eq_false_iff]; intro hc
  obtain ⟨x, hx, hs⟩ := List.any_eq_true.1 hc
  rw [h x (List.mem_range.1 hx)] at hs; cases hs
theorem right_fit {p : Prob} {l : List Fact} {f : Fact} (hp : probOk p = true) (h : rightB p l f = true) : FitN p.bounds.length f := by
  obtain ⟨fv, fe, fi, fr, fw⟩ := f
  unfold rightB at h
  simp only [Bool.and_eq_true] at h
  obtain ⟨j, v, e, _, _, hv, hvl, he, he12⟩ := about_nat2 hp h.1.1.1
  exact ⟨v, e, hv, hvl, he, he12⟩
def smallProofOk (l : List Fact) : Bool := decide (l.length ≤ 110) && (List.range l.length).all fun i => decide ((fget l i).why.length ≤ 110)
end Go.Proofs.YtilbbnjfaoldoaaGreatDoor
