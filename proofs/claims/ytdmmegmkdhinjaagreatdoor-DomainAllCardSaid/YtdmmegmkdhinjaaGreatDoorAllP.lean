/- What the law DomainAll asks of the search, in plain Lean. -/
import Derived.Test.YtdmmegmkdhinjaaGreatDoorSortP
import Derived.Test.YtdmmegmkdhinjaaGreatDoorDBest
namespace Go.Proofs.YtdmmegmkdhinjaaGreatDoor
open Go Go.RowKit

theorem sol_whole {σ : Type} {p : Dp} (hp : probD p = true) (fnd : σ → List Int → Bool × σ) (s0 : σ) (hs : sizeP p ≤ 2000) :
    (searchD p fnd s0).opn = false ∧ (searchD p fnd s0).got = (tellD fnd (leafP p) s0).2 ∧ (searchD p fnd s0).nodes ≤ sizeP p ∧ ((tellD fnd (leafP p) s0).1 = true → (searchD p fnd s0).nodes = sizeP p) := by
  have h := node_whole hp fnd (totalD (padD p.doms) + 1) (padD p.doms) ⟨0, false, s0⟩ (padD_ok hp) (Nat.lt_succ_self _) (by show 0 + sizeP p ≤ 2000; omega)
  refine ⟨h.opn, h.got, ?_, fun e => ?_⟩
  · have := h.le
    rw [Nat.zero_add] at this
    exact this
  · have := h.all (by rw [h.on]; exact e)
    rw [Nat.zero_add] at this
    exact this
theorem sol_open {σ : Type} {p : Dp} (hp : probD p = true) (fnd : σ → List Int → Bool × σ) (s0 : σ) (hs : 2000 < sizeP p) (ht : (tellD fnd (leafP p) s0).1 = true) : (searchD p fnd s0).opn = true :=
  (node_open hp fnd (totalD (padD p.doms) + 1) (padD p.doms) ⟨0, false, s0⟩ (padD_ok hp) (Nat.lt_succ_self _) (Nat.zero_le _) (by show 2000 < 0 + sizeP p; omega) ht).2
theorem solve_all {p : Dp} (hp : probD p = true) (hw : (leafP p).length ≤ 199) (hs : sizeP p ≤ 2000) : solE p 200 = 0 ∧ solL p 200 = leafP p ∧ solN p 200 = sizeP p := by
  obtain ⟨h1, h2, _, h4⟩ := sol_whole hp (solveF 200) [] hs
  have ht := tell_solve 200 (leafP p) [] (by simp)
  have ht1 : (tellD (solveF 200) (leafP p) []).1 = true := by
    have := ht.2
    rw [List.nil_append] at this
    exact this.trans (decide_eq_true (by omega))
  have ht2 : (tellD (solveF 200) (leafP p) []).2 = leafP p := by
    have := ht.1
    rw [List.nil_append, List.take_of_length_le (by omega)] at this
    exact this
  have he : solE p 200 = 0 := by
    unfold solE solS
    rw [hp, h1]
    rfl
  refine ⟨he, ?_, ?_⟩
  · unfold solL solS; rw [if_pos he, h2, ht2]
  · unfold solN solS; rw [if_pos he, h4 ht1]
theorem solve_open {p : Dp} (hp : probD p = true) (hw : (leafP p).length ≤ 199) (hs : 2000 < sizeP p) : solE p 200 = 8 := by
  have ht := (tell_solve 200 (leafP p) [] (by simp)).2
  rw [List.nil_append] at ht
  have h1 := sol_open hp (solveF 200) [] hs (ht.trans (decide_eq_true (by omega)))
  unfold solE solS
  rw [hp, h1]
  rfl
theorem solve_few {p : Dp} (hp : probD p = true) {k : Nat} (h1 : 1 ≤ k) (hk : k ≤ 200) (hs : sizeP p ≤ 2000) : solE p k = 0 ∧ solL p k = (leafP p).take k ∧ solN p k ≤ sizeP p := by
  obtain ⟨h1', h2, h3, _⟩ := sol_whole hp (solveF k) [] hs
  have ht := (tell_solve k (leafP p) [] (by show 0 < k; omega)).1
  rw [List.nil_append] at ht
  have he : solE p k = 0 := by
    unfold solE solS
    rw [hp, h1']
    have : inB (k : Int) 1 200 = true := by unfold inB; simp; omega
    rw [this]; rfl
  refine ⟨he, ?_, ?_⟩
  · unfold solL solS; rw [if_pos he, h2, ht]
  · unfold solN solS; rw [if_pos he]; exact h3
/-- The best one. -/
def firstD (v : Nat) : List (List Int) → List Int
  | [] => []
  | l :: ls => minF v l ls
theorem best_all {p : Dp} (hp : probD p = true) {v : Nat} (hv : v < p.doms.length) (hs : sizeP p ≤ 2000) : besE p v = (if leafP p = [] then 5 else 0) ∧ besL p v = firstD v (leafP p) := by
  obtain ⟨h1, h2, _, _⟩ := sol_whole hp (bestF v) none hs
  rw [tell_best0] at h2
  have hin : inB (v : Int) 0 ((p.doms.length : Int) - 1) = true := by unfold inB; simp; omega
  have he : besE p v = (if leafP p = [] then 5 else 0) := by
    unfold besE besS
    rw [hp, hin, Int.toNat_natCast, h1, h2]
    cases leafP p <;> rfl
  refine ⟨he, ?_⟩
  unfold besL besS
  rw [he, Int.toNat_natCast, h2]
  cases leafP p <;> rfl
theorem leafP_val {p : Dp} (hp : probD p = true) {l : List Int} (h : l ∈ leafP p) (i : Nat) : 0 ≤ iget l i ∧ iget l i ≤ 15 := by
  obtain ⟨vs, h1, h2, _⟩ := leaf_sound hp _ _ (padD_ok hp) (Nat.lt_succ_self _) l h
  have hd : InD p.doms vs := ⟨h2.1, fun i hi => by have := h2.2 i hi; rwa [padD_get] at this⟩
  rw [h1, iget_nat]
  have := nget_lt16 (inD_lt hd (probD_parts hp).2.2.2.1) i
  omega
theorem minF_row {v n : Nat} : ∀ (ls : List (List Int)) (m : List Int), m.length = n → (∀ l ∈ ls, l.length = n) → (minF v m ls).length = n
  | [], _, h, _ => h
  | l :: ls, m, h, hl => by
    unfold minF
    refine minF_row ls _ ?_ fun x hx => hl x (by simp [hx])
    split
    · exact hl l (by simp)
    · exact h
end Go.Proofs.YtdmmegmkdhinjaaGreatDoor
