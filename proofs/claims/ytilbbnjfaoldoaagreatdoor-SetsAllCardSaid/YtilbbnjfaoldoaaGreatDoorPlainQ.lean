/- What the law SetsAll asks, in plain Lean. -/
import Derived.Test.YtilbbnjfaoldoaaGreatDoorPlainP
import Derived.Test.YtilbbnjfaoldoaaGreatDoorLawE
namespace Go.Proofs.YtilbbnjfaoldoaaGreatDoor
open Go Go.RowKit

theorem openB_cnt (b : Bnd) : openB b = cntN (sDiff b.can b.inn) 12 := rfl
theorem opnC_open (b : List Bnd) : ∀ k, k ≤ b.length → opnC b k = ((b.take k).map openB).sum
  | 0, _ => by unfold opnC; simp
  | k + 1, h => by
    unfold opnC
    rw [opnC_open b k (by omega), List.take_succ_eq_append_getElem (by omega), List.map_append, List.sum_append, List.map_singleton, List.sum_singleton, openB_cnt]
    have e : bget b k = b[k] := by unfold bget; rw [List.getElem?_eq_getElem (by omega)]; rfl
    rw [e]
theorem openN_pad (b : List Bnd) : openN (padB b) = opnC b b.length := by
  rw [opnC_open b b.length (Nat.le_refl _), List.take_length]
  unfold openN padB
  rw [List.map_append, List.sum_append, List.map_replicate]
  have h0 : openB ⟨0, 0⟩ = 0 := by decide
  rw [h0]
  simp
/-- A core as the law wants it. -/
structure CoreOk (p : Prob) (c : List Nat) : Prop where
  few : c.length ≤ p.rules.length
  low : ∀ n ∈ c, n < p.rules.length
  up : ∀ i (h : i < c.length) (h0 : 0 < i), c[i - 1]'(by omega) < c[i]
  ok : probOk (pick p c) = true
  none : foundR (pick p c) 1 = []
  okI : ∀ i, probOk (pick p (c.eraseIdx i)) = true
  some : ∀ i, i < c.length → foundR (pick p (c.eraseIdx i)) 1 ≠ []
theorem coreOk {p : Prob} (hp : probOk p = true) {c : List Nat} (h1 : List.Sublist c (allN p)) (h2 : solsP (pick p c) = []) (h3 : ∀ j, j < c.length → solsP (pick p (c.eraseIdx j)) ≠ []) : CoreOk p c := by
  have hlow : ∀ n ∈ c, n < p.rules.length := fun n hn => by
    have := h1.subset hn
    unfold allN at this
    exact List.mem_range.1 this
  have hfew : c.length ≤ p.rules.length := by
    have := h1.length_le
    unfold allN at this
    rwa [List.length_range] at this
  have hr12 := (probOk_fit hp).2.2.1
  have hok := pick_ok hp (by omega) hlow
  have hokI : ∀ i, probOk (pick p (c.eraseIdx i)) = true := fun i => pick_ok hp (by have := (List.eraseIdx_sublist c i).length_le; omega) (fun n hn => hlow n ((List.eraseIdx_sublist c i).subset hn))
  have hpw : c.Pairwise (· < ·) := by
    have h4 : (allN p).Pairwise (· < ·) := by unfold allN; exact List.pairwise_lt_range
    exact h4.sublist h1
  refine ⟨hfew, hlow, fun i h h0 => ?_, hok, (found_one hok).2 h2, hokI, fun i hi => ?_⟩
  · exact List.pairwise_iff_getElem.1 hpw _ _ _ _ (by omega)
  · intro h
    exact h3 i hi ((found_one (hokI i)).1 h)
/-- The search asked for all, and for fewer. -/
theorem all_sols {p : Prob} (hp : probOk p = true) (hw : (foundR p 100).length < 100) (ho : (searchR p 100).opn = false) : (searchR p 100).sols = solsP p ∧ foundR p 100 = sortL (solsP p) ∧ (solsP p).length < 100 ∧ (solsP p).Nodup := by
  have h1 := found_all hp hw
  have h2 := search_sols hp (m := 100) (by decide) ho
  refine ⟨?_, h1.1, h1.2, solsP_nodup hp⟩
  have h3 : ((100 : Nat) : Int) = 100 := rfl
  rw [h3] at h2
  rw [h2, List.take_of_length_le (by have := h1.2; omega)]
theorem few_sols {p : Prob} (hp : probOk p = true) (ho : (searchR p 100).opn = false) {k : Nat} (h0 : 0 < k) (hk : k ≤ 100) : (searchR p k).opn = false ∧ (searchR p k).nodes ≤ (searchR p 100).nodes ∧ (searchR p k).sols = (solsP p).take k := by
  have h1 := search_fewer hp (m1 := k) (m2 := 100) hk h0 ho
  exact ⟨h1.1, h1.2, search_sols hp h0 h1.1⟩
theorem open_whole {p : Prob} (hp : probOk p = true) (ho : (searchR p 100).opn = true) : 6 < opnC p.bounds p.bounds.length := by
  rw [← openN_pad]
  apply Decidable.byContradiction
  intro h
  rw [search_whole hp 100 (by omega)] at ho
  cases ho
end Go.Proofs.YtilbbnjfaoldoaaGreatDoor
