/- The reference: Reason. -/
import Derived.Test.YtilbbnjfaoldoaaGreatDoorBI
namespace Go.Proofs.YtilbbnjfaoldoaaGreatDoor
open Go Go.RowKit
attribute [local go_sem] cell_grow u64_sAnd u64_sOr u64_sDiff sDiff_all zeqI zneI sAnd_bit_zero sAnd_bit_zeroN sAnd_bit_nonzero rowOf_grow rowOk_grow rowOf_alloc rowOk_alloc

/-- Bounds that are the same, variable by variable. -/
def BEq2 (a b : List Bnd) : Prop := ∀ i, bget a i = bget b i
theorem BEq2.clash {a b : List Bnd} (h : BEq2 a b) : clashB a = clashB b := by
  have key : ∀ x y : List Bnd, BEq2 x y → clashB x = true → clashB y = true := by
    intro x y h hx
    unfold clashB at hx
    obtain ⟨z, hz, hc⟩ := List.any_eq_true.1 hx
    obtain ⟨i, hi, rfl⟩ := List.mem_iff_getElem.1 hz
    have e1 : bget x i = x[i] := by simp [bget, hi]
    have hc2 : (sDiff (bget y i).inn (bget y i).can == 0) = false := by
      rw [← h i, e1]; unfold clashAt at hc; simpa using hc
    by_cases hy : i < y.length
    · exact clashB_yes hy hc2
    · have e2 : bget y i = default := by unfold bget; rw [List.getElem?_eq_none (by omega)]; rfl
      rw [e2] at hc2
      exact absurd hc2 (by decide)
  cases ha : clashB a <;> cases hb : clashB b
  · rfl
  · rw [key b a (fun i => (h i).symm) hb] at ha; cases ha
  · rw [key a b h ha] at hb; cases hb
  · rfl
theorem BEq2.poss {a b : List Bnd} (h : BEq2 a b) (r : Rl) : possB a r = possB b r := by
  unfold possB
  congr 1
  unfold ofB
  exact List.map_congr_left fun x _ => h x.toNat
theorem BEq2.with {a b : List Bnd} (h : BEq2 a b) {v : Nat} (e : Nat) (i : Bool) (ha : v < a.length) (hb : v < b.length) : BEq2 (withB a v e i) (withB b v e i) := fun k => by
  rw [bget_withB _ _ _ _ ha, bget_withB _ _ _ _ hb, h v, h k]
theorem BEq2.pad (b : List Bnd) : BEq2 (padB b) b := fun i => bget_pad b i
/-- A fact about one of n variables and an element. -/
def FitN (n : Nat) (f : Fact) : Prop := ∃ v e : Nat, f.var = v ∧ v < n ∧ f.elem = e ∧ e < 12
theorem FitN.fit {n : Nat} {f : Fact} (h : FitN n f) (hn : n ≤ 8) : FFit f := by obtain ⟨v, e, h1, h2, h3, h4⟩ := h; exact ⟨v, e, h1, by omega, h3, h4⟩
theorem whyB_congr {l : List Fact} {n : Nat} (hl : ∀ i, i < l.length → FitN n (fget l i)) : ∀ (why : List Int) (a b : List Bnd), (∀ i, i < why.length → ∃ k : Nat, iget why i = k ∧ k < l.length) → n ≤ a.length → n ≤ b.length → BEq2 a b → BEq2 (whyB l a why) (whyB l b why)
  | [], _, _, _, _, _, h => h
  | k :: why, a, b, hw, ha, hb, h => by
    obtain ⟨j, hj, hjl⟩ := hw 0 (by simp)
    have hj' : k = j := hj
    obtain ⟨v, e, hv, hvn, he, he12⟩ := hl j hjl
    have e1 : ∀ x : List Bnd, stepB l x k = withB x v e (fget l j).inn := fun x => by unfold stepB; rw [hj', Int.toNat_natCast, hv, he, Int.toNat_natCast, Int.toNat_natCast]
    refine whyB_congr hl why (stepB l a k) (stepB l b k) (fun i hi => hw (i + 1) (by simpa using hi)) ?_ ?_ ?_
    · rw [e1, withB_length]; exact ha
    · rw [e1, withB_length]; exact hb
    · rw [e1, e1]; exact h.with _ _ (by omega) (by omega)
theorem whyB_len (l : List Fact) : ∀ (why : List Int) (b : List Bnd), (whyB l b why).length = b.length
  | [], _ => rfl
  | k :: why, b => by
    show (whyB l (stepB l b k) why).length = _
    rw [whyB_len l why]; unfold stepB; rw [withB_length]
theorem whyB_s12 {l : List Fact} {n : Nat} (hl : ∀ i, i < l.length → FitN n (fget l i)) : ∀ (why : List Int) (b : List Bnd), (∀ i, i < why.length → ∃ k : Nat, iget why i = k ∧ k < l.length) → S12 b → S12 (whyB l b why)
  | [], _, _, hS => hS
  | k :: why, b, hw, hS => by
    obtain ⟨j, hj, hjl⟩ := hw 0 (by simp)
    have hj' : k = j := hj
    obtain ⟨v, e, hv, hvn, he, he12⟩ := hl j hjl
    refine whyB_s12 hl why (stepB l b k) (fun i hi => hw (i + 1) (by simpa using hi)) ?_
    unfold stepB
    exact hS.with (by rw [hj', Int.toNat_natCast, he]; simpa using he12) _
def explN (p : Prob) (l : List Fact) (v e j : Nat) (inn : Bool) (why : List Int) : Bool := clashB (whyB l p.bounds why) || !possB (withB (whyB l p.bounds why) v e (!inn)) (rget p.rules j)
theorem expl_eq {p : Prob} {l : List Fact} {v e j : Nat} {inn : Bool} {why : List Int} (hp : p.bounds.length ≤ 8) (hl : ∀ i, i < l.length → FitN p.bounds.length (fget l i)) (hw : ∀ i, i < why.length → ∃ k : Nat, iget why i = k ∧ k < l.length) (hv : v < p.bounds.length) :
    explN p l v e j inn why = explB p l ⟨v, e, inn, j, why⟩ := by
  have h := whyB_congr hl why (padB p.bounds) p.bounds hw (by rw [padB_length hp]; exact hp) (Nat.le_refl _) (BEq2.pad _)
  unfold explN explB followsB
  simp only [Int.toNat_natCast]
  rw [h.clash, (h.with e (!inn) (by rw [whyB_len, padB_length hp]; omega) (by rw [whyB_len]; exact hv)).poss]
end Go.Proofs.YtilbbnjfaoldoaaGreatDoor
