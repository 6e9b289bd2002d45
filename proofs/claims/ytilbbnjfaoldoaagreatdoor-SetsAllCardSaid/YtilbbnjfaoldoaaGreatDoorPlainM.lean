/- The search's solutions are all solutions, each once. In plain Lean. -/
import Derived.Test.YtilbbnjfaoldoaaGreatDoorPlainL
namespace Go.Proofs.YtilbbnjfaoldoaaGreatDoor
open Go Go.RowKit

theorem setsB_len8 {l : List Nat} (h : l.length ≤ 8) : (setsB l).length = 8 := by unfold setsB; exact padB_length (by rw [List.length_map]; exact h)
theorem lt4096 {x : Nat} (h : ∀ e, x.testBit e = true → e < 12) : x < 4096 := by
  show x < 2 ^ 12
  apply Nat.lt_pow_two_of_testBit
  intro i hi
  cases hc : x.testBit i
  · rfl
  · exact absurd (h i hc) (by omega)
theorem Sol.low {p : Prob} {b : List Bnd} {l : List Nat} (h : Sol p b l) (hs : S12 b) (v : Nat) : nget l v < 4096 := lt4096 fun e he => by
  have h1 := (h.tight v e).2
  rw [bget_sets] at h1
  exact s12_bit (hs.get v).2 (h1 he)
theorem Sol.s12 {p : Prob} (hp : probOk p = true) {b : List Bnd} {l : List Nat} (h : Sol p b l) (hs : S12 b) : S12 (setsB l) := fun x hx => by
  have h8 := setsB_len8 (l := l) (by rw [h.len]; exact (probOk_fit hp).2.1)
  obtain ⟨i, hi, rfl⟩ := List.mem_iff_getElem.1 hx
  have e1 : bget (setsB l) i = (setsB l)[i] := by simp [bget, hi]
  rw [← e1, bget_sets]
  exact ⟨h.low hs i, h.low hs i⟩
theorem Sol.fix {p : Prob} {b : List Bnd} {l : List Nat} (h : Sol p b l) : Fix p (setsB l) := fun j hj => ⟨h.rules j hj, fun v _ e he => by
  rw [bget_sets, openE_testBit] at he
  simp at he⟩
/-- The propagation at a node keeps all solutions. -/
theorem Sol.run {p : Prob} (hp : probOk p = true) {b : List Bnd} (hb : NodeB p b) {l : List Nat} (h : Sol p b l) : (runR p false (b, [])).2 = -1 ∧ Sol p (runR p false (b, [])).1.1 l := by
  have h8 := setsB_len8 (l := l) (by rw [h.len]; exact (probOk_fit hp).2.1)
  have hi := run_inside (rs := false) hp hp (fun i hi => ⟨i, hi, rfl⟩) h.fix (h.s12 hp hb.s12) (sets_sub l) h8 hb.start h.tight
  exact ⟨hi.2, h.len, h.rules, hi.1⟩
theorem Sol.of {p : Prob} {a b : List Bnd} (h : Tight a b) {l : List Nat} (hs : Sol p a l) : Sol p b l := ⟨hs.len, hs.rules, hs.tight.trans h⟩
theorem Sol.side {p : Prob} (hp : probOk p = true) {b : List Bnd} (hb : NodeB p b) {i e : Nat} (hi : i < 8) (hoe : (openE (bget b i)).testBit e = true) {l : List Nat} (h : Sol p b l) : Sol p (withB b i e ((nget l i).testBit e)) l := by
  refine ⟨h.len, h.rules, fun v k => ?_⟩
  have hw := withB_bits b i e ((nget l i).testBit e) (by rw [hb.len]; exact hi) v k
  have ht := h.tight v k
  rw [bget_sets] at ht ⊢
  rw [hw.1, hw.2]
  refine ⟨fun x => ?_, fun x => ?_⟩
  · rw [Bool.or_eq_true] at x
    rcases x with x | x
    · exact ht.1 x
    · rw [Bool.and_eq_true, Bool.and_eq_true, decide_eq_true_eq, decide_eq_true_eq] at x
      obtain ⟨⟨hx, rfl⟩, rfl⟩ := x
      exact hx
  · have x' : (nget l v).testBit k = true := x
    rw [Bool.and_eq_true]
    refine ⟨ht.2 x, ?_⟩
    cases hq : (nget l i).testBit e
    · simp only [Bool.not_false, Bool.true_and, Bool.not_eq_true']
      cases hd : (decide (v = i) && decide (k = e))
      · rfl
      · rw [Bool.and_eq_true, decide_eq_true_eq, decide_eq_true_eq] at hd
        obtain ⟨rfl, rfl⟩ := hd
        rw [hq] at x'; cases x'
    · simp
theorem Sol.bit {p : Prob} {b : List Bnd} {i e : Nat} (hi : i < b.length) {inn : Bool} {l : List Nat} (h : Sol p (withB b i e inn) l) (hoe : (openE (bget b i)).testBit e = true) : (nget l i).testBit e = inn := by
  have hw := withB_bits b i e inn hi i e
  have ht := h.tight i e
  rw [bget_sets] at ht
  rw [hw.1, hw.2] at ht
  cases inn
  · cases hc : (nget l i).testBit e
    · rfl
    · have := ht.2 hc
      simp at this
  · exact ht.1 (by simp)
theorem solOf_get {b : List Bnd} {n v : Nat} : nget (solOf b n) v = if v < n then (bget b v).inn else 0 := by
  unfold nget solOf bget
  rw [List.getElem?_map, List.getElem?_take]
  by_cases h : v < n
  · rw [if_pos h, if_pos h]
    cases hb : b[v]? <;> rfl
  · rw [if_neg h, if_neg h]; rfl
/-- A leaf. -/
theorem leaf_sol {p : Prob} (hp : probOk p = true) {b : List Bnd} (hb : NodeB p b) (hf : Fix p b) (ho : ∀ i, i < p.bounds.length → openAt b i = false) (l : List Nat) : l = solOf b p.bounds.length ↔ Sol p b l := by
  have hn8 := (probOk_fit hp).2.1
  have heq : ∀ i, i < p.bounds.length → (bget b i).inn = (bget b i).can := fun i hi => by
    have := ho i hi
    unfold openAt at this
    simpa using this
  have hpad : ∀ v, ¬ v < p.bounds.length → ∀ e, (bget b v).can.testBit e = false := fun v hv e => by
    cases hc : (bget b v).can.testBit e
    · rfl
    · have := (hb.tight v e).2 hc
      rw [bget_pad] at this
      have hd : bget p.bounds v = default := by unfold bget; rw [List.getElem?_eq_none (by omega)]; rfl
      rw [hd] at this
      have h0 : (default : Bnd).can = 0 := rfl
      rw [h0, Nat.zero_testBit] at this; cases this
  have hlen : (solOf b p.bounds.length).length = p.bounds.length := by unfold solOf; simp; have := hb.len; omega
  constructor
  · rintro rfl
    refine ⟨hlen, fun j hj => ?_, fun v e => ?_⟩
    · have hfit := (probOk_range hp j hj)
      rw [← (hf j hj).1]
      refine poss_congr fun i hi => ?_
      have hr := hfit i hi
      have hv : (iget (rget p.rules j).vars i).toNat < p.bounds.length := by omega
      rw [bget_sets, solOf_get, if_pos hv]
      have := heq _ hv
      cases hbb : bget b (iget (rget p.rules j).vars i).toNat with
      | mk x y => rw [hbb] at this; dsimp only at this; subst this; rfl
    · rw [bget_sets, solOf_get]
      by_cases hv : v < p.bounds.length
      · rw [if_pos hv]
        exact ⟨id, fun x => by rw [← heq v hv]; exact x⟩
      · rw [if_neg hv]
        refine ⟨fun x => ?_, fun x => ?_⟩
        · have := hb.sub v e x
          rw [hpad v hv e] at this; cases this
        · have x' : (0 : Nat).testBit e = true := x
          rw [Nat.zero_testBit] at x'; cases x'
  · intro h
    apply List.ext_getElem?
    intro v
    by_cases hv : v < p.bounds.length
    · have h1 : l[v]? = some (nget l v) := by unfold nget; rw [List.getElem?_eq_getElem (by rw [h.len]; exact hv)]; rfl
      have h2 : (solOf b p.bounds.length)[v]? = some (nget (solOf b p.bounds.length) v) := by unfold nget; rw [List.getElem?_eq_getElem (by rw [hlen]; exact hv)]; rfl
      rw [h1, h2, solOf_get, if_pos hv]
      congr 1
      apply Nat.eq_of_testBit_eq
      intro e
      have ht := h.tight v e
      rw [bget_sets] at ht
      have e1 := heq v hv
      cases hc : (nget l v).testBit e <;> cases hd : (bget b v).inn.testBit e
      · rfl
      · have := ht.1 hd; rw [hc] at this; cases this
      · have := ht.2 hc; rw [← e1, hd] at this; cases this
      · rfl
    · rw [List.getElem?_eq_none (by rw [h.len]; omega), List.getElem?_eq_none (by rw [hlen]; omega)]
theorem solsR_mem {p : Prob} (hp : probOk p = true) : ∀ (k : Nat) (b : List Bnd), openN b < k → NodeB p b → ∀ l, l ∈ solsR p k b ↔ Sol p b l
  | 0, _, h, _ => absurd h (Nat.not_lt_zero _)
  | k + 1, b, hk, hb => fun l => by
    have hr := hb.run hp
    rcases node_cases hp hb k with ⟨h0, h1, _, _⟩ | ⟨h0, ho, h1, _, _⟩ | ⟨h0, i, e, hi, he, hoe, h1, _, _⟩
    · rw [h1]
      refine ⟨(fun h => by cases h), fun h => ?_⟩
      have := (h.run hp hb).1
      omega
    · rw [h1, List.mem_singleton]
      have hfix : Fix p (runR p false (b, [])).1.1 := runR_fix hp hb.start h0
      rw [leaf_sol hp hr.1 hfix ho]
      exact ⟨fun h => h.of (run_tight hp hb.start), fun h => (h.run hp hb).2⟩
    · have hi8 : i < 8 := by have := (probOk_fit hp).2.1; omega
      have ht := hr.1.with hi8 he hoe true
      have hff := hr.1.with hi8 he hoe false
      rw [h1, List.mem_append, solsR_mem hp k _ (by omega) ht.1, solsR_mem hp k _ (by omega) hff.1]
      have hil : i < (runR p false (b, [])).1.1.length := by rw [hr.1.len]; exact hi8
      constructor
      · rintro (h | h)
        · exact (h.of (Tight.with _ _ _ _ hil)).of (run_tight hp hb.start)
        · exact (h.of (Tight.with _ _ _ _ hil)).of (run_tight hp hb.start)
      · intro h
        have h2 := Sol.side hp hr.1 hi8 hoe (h.run hp hb).2
        cases hc : (nget l i).testBit e
        · rw [hc] at h2; exact .inr h2
        · rw [hc] at h2; exact .inl h2
theorem solsR_nodup {p : Prob} (hp : probOk p = true) : ∀ (k : Nat) (b : List Bnd), openN b < k → NodeB p b → (solsR p k b).Nodup
  | 0, _, h, _ => absurd h (Nat.not_lt_zero _)
  | k + 1, b, hk, hb => by
    have hr := hb.run hp
    rcases node_cases hp hb k with ⟨h0, h1, _, _⟩ | ⟨h0, ho, h1, _, _⟩ | ⟨h0, i, e, hi, he, hoe, h1, _, _⟩
    · rw [h1]; exact List.nodup_nil
    · rw [h1]; simp
    · have hi8 : i < 8 := by have := (probOk_fit hp).2.1; omega
      have ht := hr.1.with hi8 he hoe true
      have hff := hr.1.with hi8 he hoe false
      have hil : i < (runR p false (b, [])).1.1.length := by rw [hr.1.len]; exact hi8
      rw [h1, List.nodup_append]
      refine ⟨solsR_nodup hp k _ (by omega) ht.1, solsR_nodup hp k _ (by omega) hff.1, fun x hx y hy hxy => ?_⟩
      subst hxy
      have b1 := ((solsR_mem hp k _ (by omega) ht.1 x).1 hx).bit hil hoe
      have b2 := ((solsR_mem hp k _ (by omega) hff.1 x).1 hy).bit hil hoe
      rw [b1] at b2; cases b2
/-- All solutions of a problem. -/
def solsP (p : Prob) : List (List Nat) := solsR p (openN (padB p.bounds) + 1) (padB p.bounds)
theorem solsP_mem {p : Prob} (hp : probOk p = true) (l : List Nat) : l ∈ solsP p ↔ Sol p (padB p.bounds) l := solsR_mem hp _ _ (Nat.lt_succ_self _) (NodeB.first hp) l
theorem solsP_nodup {p : Prob} (hp : probOk p = true) : (solsP p).Nodup := solsR_nodup hp _ _ (Nat.lt_succ_self _) (NodeB.first hp)
theorem search_sols {p : Prob} (hp : probOk p = true) {m : Nat} (hm : 0 < m) (h : (searchR p m).opn = false) : (searchR p m).sols = (solsP p).take m := by
  have := nodeR_sols hp m (openN (padB p.bounds) + 1) (padB p.bounds) ⟨[], 0, false⟩ (Nat.lt_succ_self _) (NodeB.first hp) rfl hm h
  rw [List.nil_append] at this
  exact this
theorem search_fewer {p : Prob} (hp : probOk p = true) {m1 m2 : Nat} (h12 : m1 ≤ m2) (hm : 0 < m1) (h : (searchR p m2).opn = false) : (searchR p m1).opn = false ∧ (searchR p m1).nodes ≤ (searchR p m2).nodes := by
  have := nodeR_fewer hp h12 (openN (padB p.bounds) + 1) (padB p.bounds) ⟨[], 0, false⟩ (Nat.lt_succ_self _) (NodeB.first hp) rfl hm h
  exact ⟨this.1, this.2.1⟩
theorem search_whole {p : Prob} (hp : probOk p = true) (most : Int) (h : openN (padB p.bounds) ≤ 6) : (searchR p most).opn = false := by
  have h1 := nodesR_le hp (openN (padB p.bounds) + 1) (padB p.bounds) (Nat.lt_succ_self _) (NodeB.first hp)
  have h2 := Nat.pow_le_pow_right (show 0 < 2 by decide) (show openN (padB p.bounds) + 1 ≤ 7 by omega)
  have h3 : (2 : Nat) ^ 7 = 128 := by decide
  exact (nodeR_whole hp most (openN (padB p.bounds) + 1) (padB p.bounds) ⟨[], 0, false⟩ (Nat.lt_succ_self _) (NodeB.first hp) rfl (by show 0 + _ ≤ 200; omega)).1
theorem search_nodes {p : Prob} (hp : probOk p = true) (most : Int) : 1 ≤ (searchR p most).nodes ∧ (searchR p most).nodes ≤ 200 := by
  have hfew := nodeR_few p hp most (openN (padB p.bounds) + 1) (padB p.bounds) ⟨[], 0, false⟩ (NodeB.first hp).len (NodeB.first hp).s12 (NodeB.first hp).sub ⟨Nat.le_refl _, by decide, fun l hl => by cases hl⟩
  refine ⟨?_, hfew.2.1⟩
  have hb := NodeB.first hp
  unfold searchR
  have hne : (⟨[], 0, false⟩ : Fnd).nodes ≠ 200 := by decide
  rcases node_cases hp hb (openN (padB p.bounds)) with ⟨_, _, _, h2⟩ | ⟨_, _, _, _, h2⟩ | ⟨_, i, e, hi, he, hoe, _, _, h2⟩
  · rw [h2 most _ hne]; exact Nat.le_refl _
  · rw [h2 most _ hne]; exact Nat.le_refl _
  · have hr := hb.run hp
    have hi8 : i < 8 := by have := (probOk_fit hp).2.1; omega
    have ht := hr.1.with hi8 he hoe true
    have hff := hr.1.with hi8 he hoe false
    have g1 := nodeR_more hp most (openN (padB p.bounds)) (withB (runR p false (padB p.bounds, [])).1.1 i e true) ⟨[], 0 + 1, false⟩ ht.1
    have g1' : 1 ≤ (nodeR p most (openN (padB p.bounds)) (withB (runR p false (padB p.bounds, [])).1.1 i e true) ⟨[], 0 + 1, false⟩).2.nodes := g1
    rw [h2 most _ hne]
    split
    · exact Nat.le_trans g1' (nodeR_more hp most _ _ _ hff.1)
    · exact g1'
end Go.Proofs.YtilbbnjfaoldoaaGreatDoor
