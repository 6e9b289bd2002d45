/- The law SetsFollows, walked. -/
import Derived.Test.YtilbbnjfaoldoaaGreatDoorBI
namespace Go.Proofs.YtilbbnjfaoldoaaGreatDoor
open Go Go.RowKit
attribute [local go_sem] cell_grow u64_sAnd u64_sOr u64_sDiff sDiff_all zeqI zneI sAnd_bit_zero sAnd_bit_zeroN sAnd_bit_nonzero rowOf_grow rowOk_grow rowOf_alloc rowOk_alloc

def askedN (p : Prob) (fv fe fr : Int) (yn : Nat) : Bool := inB fr 0 (p.rules.length - 1) && ihas (rget p.rules fr.toNat).vars fv && inB fe 0 11 && !decide (0 < yn)
theorem inB_no1 {n l h : Int} (hn : n < l) : inB n l h = false := by unfold inB; rw [decide_eq_false (by omega)]; rfl
theorem inB_no2 {n l h : Int} (hn : h < n) : inB n l h = false := by unfold inB; rw [decide_eq_false (p := n ≤ h) (by omega), Bool.and_false]
theorem inB_yes {n l h : Int} (h1 : l ≤ n) (h2 : n ≤ h) : inB n l h = true := by unfold inB; rw [decide_eq_true h1, decide_eq_true h2]; rfl
theorem possB_pad {b : List Bnd} {v : Nat} (e : Nat) (i : Bool) (r : Rl) (hv : v < b.length) : possB (withB (padB b) v e i) r = possB (withB b v e i) r := by
  unfold possB
  congr 1
  unfold ofB
  apply List.map_congr_left
  intro x _
  have hp : v < (padB b).length := by unfold padB; simp; omega
  rw [bget_withB _ _ _ _ hp, bget_withB _ _ _ _ hv, bget_pad, bget_pad]
theorem askedOk_eq (p : Prob) (f : Fact) : askedOk p f = (probOk p && askedN p f.var f.elem f.rule f.why.length) := by
  unfold askedOk aboutB askedN
  simp only [Bool.and_assoc]
theorem askedN_nat {p : Prob} {fv fe fr : Int} {yn : Nat} (hp : probOk p = true) (h : askedN p fv fe fr yn = true) : ∃ j v e : Nat, fr = j ∧ j < p.rules.length ∧ fv = v ∧ v < p.bounds.length ∧ fe = e ∧ e < 12 ∧ yn = 0 := by
  simp only [askedN, Bool.and_eq_true] at h
  obtain ⟨⟨⟨h1, h2⟩, h3⟩, h4⟩ := h
  obtain ⟨j, hj, hj2⟩ := inB_nat h1
  obtain ⟨e, he, he2⟩ := inB_nat h3
  obtain ⟨i, hi, hi2⟩ := ihas_get h2
  have hjl : j < p.rules.length := by omega
  rw [hj] at hi hi2
  have hr := probOk_range hp j hjl i (by simpa using hi)
  simp only [Int.toNat_natCast] at hi2
  rw [hi2] at hr
  simp only [Bool.not_eq_true', decide_eq_false_iff_not] at h4
  exact ⟨j, fv.toNat, e, hj, hjl, by omega, by omega, he, by omega, by omega⟩
end Go.Proofs.YtilbbnjfaoldoaaGreatDoor
