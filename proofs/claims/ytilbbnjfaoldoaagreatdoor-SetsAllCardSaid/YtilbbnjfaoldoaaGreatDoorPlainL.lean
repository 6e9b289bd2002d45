/- The search finds all solutions, each once. In plain Lean. -/
import Derived.Test.YtilbbnjfaoldoaaGreatDoorPlainJ
namespace Go.Proofs.YtilbbnjfaoldoaaGreatDoor
open Go Go.RowKit

/-- Bounds at a node of the search. -/
structure NodeB (p : Prob) (b : List Bnd) : Prop where
  len : b.length = 8
  s12 : S12 b
  sub : Sub b
  tight : Tight b (padB p.bounds)
/-- Sets between bounds for which all rules hold. -/
structure Sol (p : Prob) (b : List Bnd) (l : List Nat) : Prop where
  len : l.length = p.bounds.length
  rules : ∀ i, i < p.rules.length → possB (setsB l) (rget p.rules i) = true
  tight : Tight (setsB l) b
theorem NodeB.first {p : Prob} (hp : probOk p = true) : NodeB p (padB p.bounds) := ⟨(Good.first hp).len, (Good.first hp).s12, (Good.first hp).sub, Tight.refl _⟩
theorem NodeB.start {p : Prob} {b : List Bnd} (h : NodeB p b) : Good p (b, []) := Good.start h.len h.s12 h.sub
theorem NodeB.run {p : Prob} (hp : probOk p = true) {b : List Bnd} (h : NodeB p b) : NodeB p (runR p false (b, [])).1.1 ∧ openN (runR p false (b, [])).1.1 ≤ openN b := by
  have hg := Good.run (rs := false) (probOk_fit hp).2.2.2.1 (openN b + 1) h.start
  have hg' : Good p (runR p false (b, [])).1 ∧ openN (runR p false (b, [])).1.1 ≤ openN b := hg
  exact ⟨⟨hg'.1.len, hg'.1.s12, hg'.1.sub, (run_tight hp h.start).trans h.tight⟩, hg'.2⟩
theorem NodeB.with {p : Prob} {b : List Bnd} (h : NodeB p b) {v e : Nat} (hv : v < 8) (he : e < 12) (ho : (openE (bget b v)).testBit e = true) (inn : Bool) : NodeB p (withB b v e inn) ∧ openN (withB b v e inn) + 1 = openN b := by
  have hvl : v < b.length := by rw [h.len]; exact hv
  exact ⟨⟨by rw [withB_length]; exact h.len, h.s12.with he inn, sub_withB inn hvl ho h.sub, (Tight.with b v e inn hvl).trans h.tight⟩, openN_withB b v e inn hvl he ho⟩
/-- All solutions of a node, in the search's order. -/
def solsR (p : Prob) : Nat → List Bnd → List (List Nat)
  | 0, _ => []
  | k + 1, b =>
    let r := runR p false (b, [])
    if 0 ≤ r.2 then []
    else
      let v := openV r.1.1 p.bounds.length
      if v < 0 then [solOf r.1.1 p.bounds.length]
      else solsR p k (withB r.1.1 v.toNat (ctzN (openE (bget r.1.1 v.toNat))) true) ++ solsR p k (withB r.1.1 v.toNat (ctzN (openE (bget r.1.1 v.toNat))) false)
/-- How many nodes lie at and below a node. -/
def nodesR (p : Prob) : Nat → List Bnd → Nat
  | 0, _ => 0
  | k + 1, b =>
    let r := runR p false (b, [])
    if 0 ≤ r.2 then 1
    else
      let v := openV r.1.1 p.bounds.length
      if v < 0 then 1
      else 1 + nodesR p k (withB r.1.1 v.toNat (ctzN (openE (bget r.1.1 v.toNat))) true) + nodesR p k (withB r.1.1 v.toNat (ctzN (openE (bget r.1.1 v.toNat))) false)
theorem idxOf_neg {p : Nat → Bool} {n : Nat} (h : idxOf p n = -1) : ∀ i, i < n → p i = false := fun i hi => by
  cases hc : p i
  · rfl
  · have : decide (0 ≤ idxOf p n) = true := by rw [idxOf_any, List.any_eq_true]; exact ⟨i, List.mem_range.2 hi, hc⟩
    rw [h] at this
    exact absurd this (by decide)
/-- The three ends of a node's run. -/
theorem node_cases {p : Prob} (hp : probOk p = true) {b : List Bnd} (h : NodeB p b) (k : Nat) :
    (0 ≤ (runR p false (b, [])).2 ∧ solsR p (k + 1) b = [] ∧ nodesR p (k + 1) b = 1 ∧ ∀ most s, s.nodes ≠ 200 → nodeR p most (k + 1) b s = (true, { s with nodes := s.nodes + 1 })) ∨
    ((runR p false (b, [])).2 = -1 ∧ (∀ i, i < p.bounds.length → openAt (runR p false (b, [])).1.1 i = false) ∧ solsR p (k + 1) b = [solOf (runR p false (b, [])).1.1 p.bounds.length] ∧ nodesR p (k + 1) b = 1 ∧ ∀ most s, s.nodes ≠ 200 → nodeR p most (k + 1) b s = (decide (((s.sols.length + 1 : Nat) : Int) < most), { s with nodes := s.nodes + 1, sols := s.sols ++ [solOf (runR p false (b, [])).1.1 p.bounds.length] })) ∨
    ((runR p false (b, [])).2 = -1 ∧ ∃ i e, i < p.bounds.length ∧ e < 12 ∧ (openE (bget (runR p false (b, [])).1.1 i)).testBit e = true ∧
      solsR p (k + 1) b = solsR p k (withB (runR p false (b, [])).1.1 i e true) ++ solsR p k (withB (runR p false (b, [])).1.1 i e false) ∧
      nodesR p (k + 1) b = 1 + nodesR p k (withB (runR p false (b, [])).1.1 i e true) + nodesR p k (withB (runR p false (b, [])).1.1 i e false) ∧
      ∀ most s, s.nodes ≠ 200 → nodeR p most (k + 1) b s = (if (nodeR p most k (withB (runR p false (b, [])).1.1 i e true) { s with nodes := s.nodes + 1 }).1
        then nodeR p most k (withB (runR p false (b, [])).1.1 i e false) (nodeR p most k (withB (runR p false (b, [])).1.1 i e true) { s with nodes := s.nodes + 1 }).2
        else (false, (nodeR p most k (withB (runR p false (b, [])).1.1 i e true) { s with nodes := s.nodes + 1 }).2))) := by
  have hn8 := (probOk_fit hp).2.1
  have hr := h.run hp
  rcases (runR_ind (rs := false) (I := fun _ => True) hp (fun _ _ _ _ _ _ _ => trivial) h.start trivial).2 with hc | ⟨j, hc, hjl, _⟩
  · have hc0 : ¬ 0 ≤ (runR p false (b, [])).2 := by omega
    rcases idxOf_cases (openAt (runR p false (b, [])).1.1) p.bounds.length with h1 | ⟨i, h1, h2, h3⟩
    · have hv : openV (runR p false (b, [])).1.1 p.bounds.length < 0 := by unfold openV; rw [h1]; decide
      refine .inr (.inl ⟨hc, fun i hi => idxOf_neg h1 i hi, ?_, ?_, fun most s hs => ?_⟩)
      · unfold solsR; dsimp only; rw [if_neg hc0, if_pos hv]
      · unfold nodesR; dsimp only; rw [if_neg hc0, if_pos hv]
      · unfold nodeR; rw [if_neg hs]; dsimp only; rw [if_neg hc0, if_pos hv]
    · have hv : openV (runR p false (b, [])).1.1 p.bounds.length = i := h1
      have he := pick_elem hr.1.s12 hr.1.sub h3
      refine .inr (.inr ⟨hc, i, _, h2, he.1, he.2, ?_, ?_, fun most s hs => ?_⟩)
      · conv => lhs; unfold solsR
        dsimp only; rw [if_neg hc0, hv, if_neg (by omega), Int.toNat_natCast]
      · conv => lhs; unfold nodesR
        dsimp only; rw [if_neg hc0, hv, if_neg (by omega), Int.toNat_natCast]
      · exact nodeR_succ p most k b s hs hc0 hv
  · have hc0 : 0 ≤ (runR p false (b, [])).2 := by omega
    refine .inl ⟨hc0, ?_, ?_, fun most s hs => ?_⟩
    · unfold solsR; dsimp only; rw [if_pos hc0]
    · unfold nodesR; dsimp only; rw [if_pos hc0]
    · unfold nodeR; rw [if_neg hs]; dsimp only; rw [if_pos hc0]
theorem nodeR_200 {p : Prob} {most : Int} {k : Nat} {b : List Bnd} {s : Fnd} (h : s.nodes = 200) : nodeR p most (k + 1) b s = (false, { s with opn := true }) := by unfold nodeR; rw [if_pos h]
/-- What a search finds below a node. -/
theorem nodeR_sols {p : Prob} (hp : probOk p = true) (m : Nat) : ∀ (k : Nat) (b : List Bnd) (s : Fnd), openN b < k → NodeB p b → s.opn = false → s.sols.length < m →
    (nodeR p m k b s).2.opn = false → (nodeR p m k b s).2.sols = (s.sols ++ solsR p k b).take m
  | 0, _, _, h, _, _, _, _ => absurd h (Nat.not_lt_zero _)
  | k + 1, b, s, hk, hb, ho, hm, hf => by
    by_cases h200 : s.nodes = 200
    · rw [nodeR_200 h200] at hf; cases hf
    · have hr := hb.run hp
      rcases node_cases hp hb k with ⟨_, h1, _, h2⟩ | ⟨_, _, h1, _, h2⟩ | ⟨_, i, e, hi, he, hoe, h1, _, h2⟩
      · rw [h2 m s h200, h1, List.append_nil, List.take_of_length_le (by omega)]
      · rw [h2 m s h200, h1, List.take_of_length_le (by simp; omega)]
      · have hi8 : i < 8 := by have := (probOk_fit hp).2.1; omega
        have ht := hr.1.with hi8 he hoe true
        have hff := hr.1.with hi8 he hoe false
        have h3 := h2 m s h200
        have hfl := nodeR_flag hp (m : Int) k (withB (runR p false (b, [])).1.1 i e true) { s with nodes := s.nodes + 1 } (by omega) ht.1.len ht.1.s12 ht.1.sub ho (by show (s.sols.length : Int) < _; omega)
        rw [h3] at hf ⊢
        rw [h1]
        cases hq : (nodeR p m k (withB (runR p false (b, [])).1.1 i e true) { s with nodes := s.nodes + 1 }).1
        · simp only [hq, Bool.false_eq_true, if_false] at hf ⊢
          have ih := nodeR_sols hp m k _ { s with nodes := s.nodes + 1 } (by omega) ht.1 ho hm hf
          rw [hq, hf] at hfl
          have hl : ¬ (((nodeR p m k (withB (runR p false (b, [])).1.1 i e true) { s with nodes := s.nodes + 1 }).2.sols.length : Int) < m) := by simpa using hfl
          have hl2 : m ≤ (s.sols ++ solsR p k (withB (runR p false (b, [])).1.1 i e true)).length := by
            rw [ih] at hl
            rw [List.length_take] at hl
            have : ({ s with nodes := s.nodes + 1 } : Fnd).sols = s.sols := rfl
            rw [this] at hl
            omega
          rw [ih, ← List.append_assoc, List.take_append_of_le_length hl2]
        · simp only [hq, if_true] at hf ⊢
          rw [hq] at hfl
          have hfl' := hfl.symm
          rw [Bool.and_eq_true, Bool.not_eq_true', decide_eq_true_eq] at hfl'
          have ih := nodeR_sols hp m k _ { s with nodes := s.nodes + 1 } (by omega) ht.1 ho hm hfl'.1
          have hs : ({ s with nodes := s.nodes + 1 } : Fnd).sols = s.sols := rfl
          rw [hs] at ih
          have hlt : (s.sols ++ solsR p k (withB (runR p false (b, [])).1.1 i e true)).length < m := by
            have h5 := hfl'.2
            rw [ih, List.length_take] at h5
            omega
          rw [List.take_of_length_le (by omega)] at ih
          have ih2 := nodeR_sols hp m k _ _ (by omega) hff.1 hfl'.1 (by rw [ih]; omega) hf
          rw [ih2, ih, List.append_assoc]
theorem nodeR_more {p : Prob} (hp : probOk p = true) (most : Int) : ∀ (k : Nat) (b : List Bnd) (s : Fnd), NodeB p b → s.nodes ≤ (nodeR p most k b s).2.nodes
  | 0, _, _, _ => Nat.le_refl _
  | k + 1, b, s, hb => by
    by_cases h200 : s.nodes = 200
    · rw [nodeR_200 h200]; exact Nat.le_refl _
    · have hr := hb.run hp
      rcases node_cases hp hb k with ⟨_, h1, _, h2⟩ | ⟨_, _, h1, _, h2⟩ | ⟨_, i, e, hi, he, hoe, h1, _, h2⟩
      · rw [h2 most s h200]; exact Nat.le_succ _
      · rw [h2 most s h200]; exact Nat.le_succ _
      · have hi8 : i < 8 := by have := (probOk_fit hp).2.1; omega
        have ht := hr.1.with hi8 he hoe true
        have hff := hr.1.with hi8 he hoe false
        have g1 := nodeR_more hp most k (withB (runR p false (b, [])).1.1 i e true) { s with nodes := s.nodes + 1 } ht.1
        have g1' : s.nodes + 1 ≤ (nodeR p most k (withB (runR p false (b, [])).1.1 i e true) { s with nodes := s.nodes + 1 }).2.nodes := g1
        rw [h2 most s h200]
        split
        · have g2 := nodeR_more hp most k (withB (runR p false (b, [])).1.1 i e false) (nodeR p most k (withB (runR p false (b, [])).1.1 i e true) { s with nodes := s.nodes + 1 }).2 hff.1
          omega
        · show s.nodes ≤ (nodeR p most k (withB (runR p false (b, [])).1.1 i e true) { s with nodes := s.nodes + 1 }).2.nodes
          omega
/-- A search that asks for fewer goes through no more nodes. -/
theorem nodeR_fewer {p : Prob} (hp : probOk p = true) {m1 m2 : Nat} (h12 : m1 ≤ m2) : ∀ (k : Nat) (b : List Bnd) (s : Fnd), openN b < k → NodeB p b → s.opn = false → s.sols.length < m1 → (nodeR p m2 k b s).2.opn = false →
    (nodeR p m1 k b s).2.opn = false ∧ (nodeR p m1 k b s).2.nodes ≤ (nodeR p m2 k b s).2.nodes ∧ ((nodeR p m1 k b s).1 = true → nodeR p m1 k b s = nodeR p m2 k b s)
  | 0, _, _, h, _, _, _, _ => absurd h (Nat.not_lt_zero _)
  | k + 1, b, s, hk, hb, ho, hm, hf => by
    by_cases h200 : s.nodes = 200
    · rw [nodeR_200 h200] at hf; cases hf
    · have hr := hb.run hp
      rcases node_cases hp hb k with ⟨_, h1, _, h2⟩ | ⟨_, _, h1, _, h2⟩ | ⟨_, i, e, hi, he, hoe, h1, _, h2⟩
      · rw [h2 m1 s h200, h2 m2 s h200]; exact ⟨ho, Nat.le_refl _, fun _ => rfl⟩
      · rw [h2 m1 s h200, h2 m2 s h200]
        refine ⟨ho, Nat.le_refl _, fun h => ?_⟩
        have h' := of_decide_eq_true h
        rw [decide_eq_true h', decide_eq_true (show ((s.sols.length + 1 : Nat) : Int) < m2 by omega)]
      · have hi8 : i < 8 := by have := (probOk_fit hp).2.1; omega
        have ht := hr.1.with hi8 he hoe true
        have hff := hr.1.with hi8 he hoe false
        have e1 := h2 m1 s h200
        have e2 := h2 m2 s h200
        have hfl1 := nodeR_flag hp (m1 : Int) k (withB (runR p false (b, [])).1.1 i e true) { s with nodes := s.nodes + 1 } (by omega) ht.1.len ht.1.s12 ht.1.sub ho (by show (s.sols.length : Int) < _; omega)
        have hfl2 := nodeR_flag hp (m2 : Int) k (withB (runR p false (b, [])).1.1 i e true) { s with nodes := s.nodes + 1 } (by omega) ht.1.len ht.1.s12 ht.1.sub ho (by show (s.sols.length : Int) < _; omega)
        rw [e2] at hf
        have ih := nodeR_fewer hp h12 k (withB (runR p false (b, [])).1.1 i e true) { s with nodes := s.nodes + 1 } (by omega) ht.1 ho hm
        cases hq2 : (nodeR p m2 k (withB (runR p false (b, [])).1.1 i e true) { s with nodes := s.nodes + 1 }).1
        · simp only [hq2, Bool.false_eq_true, if_false] at hf
          have ih' := ih hf
          have hq1 : (nodeR p m1 k (withB (runR p false (b, [])).1.1 i e true) { s with nodes := s.nodes + 1 }).1 = false := by
            cases hc : (nodeR p m1 k (withB (runR p false (b, [])).1.1 i e true) { s with nodes := s.nodes + 1 }).1
            · rfl
            · have := ih'.2.2 hc
              rw [this, hq2] at hc; cases hc
          rw [e1, e2]
          simp only [hq1, hq2, Bool.false_eq_true, if_false]
          exact ⟨ih'.1, ih'.2.1, fun h => by cases h⟩
        · simp only [hq2, if_true] at hf
          rw [hq2] at hfl2
          have hfl2' := hfl2.symm
          rw [Bool.and_eq_true, Bool.not_eq_true', decide_eq_true_eq] at hfl2'
          have ih' := ih hfl2'.1
          cases hq1 : (nodeR p m1 k (withB (runR p false (b, [])).1.1 i e true) { s with nodes := s.nodes + 1 }).1
          · rw [e1, e2]
            simp only [hq1, hq2, Bool.false_eq_true, if_false, if_true]
            exact ⟨ih'.1, Nat.le_trans ih'.2.1 (nodeR_more hp _ _ _ _ hff.1), fun h => by cases h⟩
          · have heq := ih'.2.2 hq1
            rw [hq1] at hfl1
            have hfl1' := hfl1.symm
            rw [Bool.and_eq_true, Bool.not_eq_true', decide_eq_true_eq] at hfl1'
            rw [e1, e2]
            simp only [hq1, hq2, if_true]
            rw [heq] at hfl1' ⊢
            exact nodeR_fewer hp h12 k _ _ (by omega) hff.1 hfl2'.1 (by have := hfl1'.2; omega) hf
/-- With few nodes a search is whole. -/
theorem nodeR_whole {p : Prob} (hp : probOk p = true) (most : Int) : ∀ (k : Nat) (b : List Bnd) (s : Fnd), openN b < k → NodeB p b → s.opn = false → s.nodes + nodesR p k b ≤ 200 →
    (nodeR p most k b s).2.opn = false ∧ (nodeR p most k b s).2.nodes ≤ s.nodes + nodesR p k b
  | 0, _, _, h, _, _, _ => absurd h (Nat.not_lt_zero _)
  | k + 1, b, s, hk, hb, ho, hn => by
    have hr := hb.run hp
    rcases node_cases hp hb k with ⟨_, _, h1, h2⟩ | ⟨_, _, _, h1, h2⟩ | ⟨_, i, e, hi, he, hoe, _, h1, h2⟩
    · rw [h2 most s (by omega), h1]; exact ⟨ho, Nat.le_refl _⟩
    · rw [h2 most s (by omega), h1]; exact ⟨ho, Nat.le_refl _⟩
    · have hi8 : i < 8 := by have := (probOk_fit hp).2.1; omega
      have ht := hr.1.with hi8 he hoe true
      have hff := hr.1.with hi8 he hoe false
      have g1 := nodeR_whole hp most k (withB (runR p false (b, [])).1.1 i e true) { s with nodes := s.nodes + 1 } (by omega) ht.1 ho (by show s.nodes + 1 + _ ≤ 200; omega)
      have g1n : (nodeR p most k (withB (runR p false (b, [])).1.1 i e true) { s with nodes := s.nodes + 1 }).2.nodes ≤ s.nodes + 1 + nodesR p k (withB (runR p false (b, [])).1.1 i e true) := g1.2
      rw [h2 most s (by omega), h1]
      split
      · have g2 := nodeR_whole hp most k (withB (runR p false (b, [])).1.1 i e false) (nodeR p most k (withB (runR p false (b, [])).1.1 i e true) { s with nodes := s.nodes + 1 }).2 (by omega) hff.1 g1.1 (by omega)
        exact ⟨g2.1, by omega⟩
      · exact ⟨g1.1, by show (nodeR p most k (withB (runR p false (b, [])).1.1 i e true) { s with nodes := s.nodes + 1 }).2.nodes ≤ _; omega⟩
theorem nodesR_le {p : Prob} (hp : probOk p = true) : ∀ (k : Nat) (b : List Bnd), openN b < k → NodeB p b → nodesR p k b + 1 ≤ 2 ^ (openN b + 1)
  | 0, _, h, _ => absurd h (Nat.not_lt_zero _)
  | k + 1, b, hk, hb => by
    have hr := hb.run hp
    have h2 : 2 ≤ 2 ^ (openN b + 1) := by have := Nat.pow_le_pow_right (show 0 < 2 by decide) (show 1 ≤ openN b + 1 by omega); simpa using this
    rcases node_cases hp hb k with ⟨_, _, h1, _⟩ | ⟨_, _, _, h1, _⟩ | ⟨_, i, e, hi, he, hoe, _, h1, _⟩
    · rw [h1]; exact h2
    · rw [h1]; exact h2
    · have hi8 : i < 8 := by have := (probOk_fit hp).2.1; omega
      have ht := hr.1.with hi8 he hoe true
      have hff := hr.1.with hi8 he hoe false
      have g1 := nodesR_le hp k _ (by omega) ht.1
      have g2 := nodesR_le hp k _ (by omega) hff.1
      rw [ht.2] at g1
      rw [hff.2] at g2
      have g3 := Nat.pow_le_pow_right (show 0 < 2 by decide) hr.2
      rw [h1, Nat.pow_succ]
      omega
end Go.Proofs.YtilbbnjfaoldoaaGreatDoor
