/- The reference's search is the program's, in plain Lean. -/
import Derived.Test.YtilbbnjfaoldoaaGreatDoorPlainF
namespace Go.Proofs.YtilbbnjfaoldoaaGreatDoor
open Go Go.RowKit

section
variable {p q : Prob} (h : p.rules = q.rules)
include h
theorem stepE_rules (j v : Nat) (st : St) (e : Nat) : stepE p false j v st e = stepE q false j v st e := by unfold stepE; rw [h]; rfl
theorem stV_rules (j : Nat) : ∀ (vs : List Int) (st : St), stV p false j st vs = stV q false j st vs
  | [], _ => rfl
  | v :: vs, st => by
    have h1 : stepV p false j st v = stepV q false j st v := by
      unfold stepV stE
      rw [show stepE p false j v.toNat = stepE q false j v.toNat from funext fun st => funext fun e => stepE_rules h j _ st e]
    show stV p false j (stepV p false j st v) vs = stV q false j (stepV q false j st v) vs
    rw [h1]; exact stV_rules j vs _
theorem rulesSt_rules : ∀ (m j : Nat) (st : St), rulesSt p false m j st = rulesSt q false m j st
  | 0, _, _ => rfl
  | m + 1, j, st => by
    unfold rulesSt ruleSt
    rw [h, stV_rules h, rulesSt_rules m]
theorem runSt_rules : ∀ (k : Nat) (st : St), runSt p false k st = runSt q false k st
  | 0, _ => rfl
  | k + 1, st => by
    have e : ∀ st, runSt p false k st = runSt q false k st := runSt_rules k
    unfold runSt
    rw [rulesSt_rules h, h]
    simp only [e]
theorem runR_rules (st : St) : runR p false st = runR q false st := runSt_rules h _ _
end
/-- A problem with other bounds. -/
theorem probOk_with {p : Prob} (hp : probOk p = true) {b : List Bnd} (hl : b.length = p.bounds.length) (h12 : S12 b) (hs : Sub b) : probOk ⟨b, p.rules⟩ = true := by
  simp only [probOk, Bool.and_eq_true] at hp ⊢
  obtain ⟨⟨⟨h1, h2⟩, _⟩, h4⟩ := hp
  refine ⟨⟨⟨by show inB (b.length : Int) 1 8 = true; rw [hl]; exact h1, h2⟩, ?_⟩, by show (p.rules.all fun r => ruleOk r (b.length : Int)) = true; rw [hl]; exact h4⟩
  show b.all bndOk = true
  rw [List.all_eq_true]
  intro x hx
  obtain ⟨i, hi, rfl⟩ := List.mem_iff_getElem.1 hx
  have e1 : bget b i = b[i] := by simp [bget, hi]
  unfold bndOk
  rw [Bool.and_eq_true]
  refine ⟨sDiff_zero.2 fun e he => ?_, sDiff_zero.2 fun e he => ?_⟩
  · have := s12_bit (h12 _ hx).2 he
    have key : ∀ i, i < 12 → Nat.testBit 4095 i = true := by decide
    exact key e this
  · rw [← e1] at he ⊢; exact hs i e he
theorem Sub.of_pad {b : List Bnd} (h : Sub (padB b)) : Sub b := fun v i hi => by have := h v i; rw [bget_pad] at this; exact this hi
theorem Sub.pad {b : List Bnd} (h : Sub b) : Sub (padB b) := fun v i hi => by rw [bget_pad] at hi ⊢; exact h v i hi
theorem openAt_pad (b : List Bnd) (i : Nat) : openAt (padB b) i = openAt b i := by unfold openAt; rw [bget_pad]
theorem openV_pad (b : List Bnd) (n : Nat) : openV (padB b) n = openV b n := by unfold openV; rw [show openAt (padB b) = openAt b from funext (openAt_pad b)]
/-- What a run of the search's node gives, in the reference's bounds. -/
theorem run_pad {p : Prob} (hp : probOk p = true) {b : List Bnd} (hl : b.length = p.bounds.length) (h12 : S12 b) (hs : Sub b) : Good p (runR p false (padB b, [])).1 ∧ openN (runR p false (padB b, [])).1.1 ≤ openN (padB b) := by
  have := Good.run (rs := false) (probOk_fit hp).2.2.2.1 (openN (padB b) + 1) (Good.start (p := p) (padB_length (by rw [hl]; exact (probOk_fit hp).2.1)) h12.pad hs.pad)
  exact this
/-- The step of a node behind its run. -/
theorem nodeR_succ (p : Prob) (most : Int) (k : Nat) (b : List Bnd) (s : Fnd) (h : s.nodes ≠ 200) (hb : 0 ≤ (runR p false (b, [])).2 → False) {i : Nat} (hv : openV (runR p false (b, [])).1.1 p.bounds.length = i) :
    nodeR p most (k + 1) b s = (if (nodeR p most k (withB (runR p false (b, [])).1.1 i (ctzN (openE (bget (runR p false (b, [])).1.1 i))) true) { s with nodes := s.nodes + 1 }).1
      then nodeR p most k (withB (runR p false (b, [])).1.1 i (ctzN (openE (bget (runR p false (b, [])).1.1 i))) false) (nodeR p most k (withB (runR p false (b, [])).1.1 i (ctzN (openE (bget (runR p false (b, [])).1.1 i))) true) { s with nodes := s.nodes + 1 }).2
      else (false, (nodeR p most k (withB (runR p false (b, [])).1.1 i (ctzN (openE (bget (runR p false (b, [])).1.1 i))) true) { s with nodes := s.nodes + 1 }).2)) := by
  conv => lhs; unfold nodeR
  rw [if_neg h]
  dsimp only
  rw [if_neg hb, hv, if_neg (by omega), Int.toNat_natCast]
/-- Whether a search goes on. -/
theorem nodeR_flag {p : Prob} (hp : probOk p = true) (most : Int) : ∀ (k : Nat) (b : List Bnd) (s : Fnd), openN b < k → b.length = 8 → S12 b → Sub b → s.opn = false → (s.sols.length : Int) < most →
    (nodeR p most k b s).1 = (!(nodeR p most k b s).2.opn && decide (((nodeR p most k b s).2.sols.length : Int) < most))
  | 0, _, _, h, _, _, _, _, _ => absurd h (Nat.not_lt_zero _)
  | k + 1, b, s, hk, h8, h12, hs, ho, hm => by
    by_cases h200 : s.nodes = 200
    · unfold nodeR
      rw [if_pos h200]; rfl
    · have hg := Good.run (rs := false) (probOk_fit hp).2.2.2.1 (openN b + 1) (Good.start (p := p) h8 h12 hs)
      have hg' : Good p (runR p false (b, [])).1 ∧ openN (runR p false (b, [])).1.1 ≤ openN b := hg
      by_cases hr : 0 ≤ (runR p false (b, [])).2
      · unfold nodeR
        rw [if_neg h200]
        dsimp only
        rw [if_pos hr]
        dsimp only
        rw [ho, decide_eq_true hm]; rfl
      · rcases idxOf_cases (openAt (runR p false (b, [])).1.1) p.bounds.length with h1 | ⟨i, h1, h2, h3⟩
        · have hv : openV (runR p false (b, [])).1.1 p.bounds.length < 0 := by unfold openV; rw [h1]; decide
          unfold nodeR
          rw [if_neg h200]
          dsimp only
          rw [if_neg hr, if_pos hv]
          dsimp only
          rw [ho]
          simp
        · have hv : openV (runR p false (b, [])).1.1 p.bounds.length = i := h1
          rw [nodeR_succ p most k b s h200 hr hv]
          have hil : i < (runR p false (b, [])).1.1.length := by rw [hg'.1.len]; have := (probOk_fit hp).2.1; omega
          have he := pick_elem hg'.1.s12 hg'.1.sub h3
          have hn1 := openN_withB _ i _ true hil he.1 he.2
          have hn2 := openN_withB _ i _ false hil he.1 he.2
          have hq := nodeR_flag hp most k (withB (runR p false (b, [])).1.1 i (ctzN (openE (bget (runR p false (b, [])).1.1 i))) true) { s with nodes := s.nodes + 1 } (by omega) (by rw [withB_length]; exact hg'.1.len) (hg'.1.s12.with he.1 true) (sub_withB true hil he.2 hg'.1.sub) ho hm
          cases hf : (nodeR p most k (withB (runR p false (b, [])).1.1 i (ctzN (openE (bget (runR p false (b, [])).1.1 i))) true) { s with nodes := s.nodes + 1 }).1
          · simp only [Bool.false_eq_true, if_false]
            rw [hf] at hq; exact hq
          · simp only [if_true]
            rw [hf] at hq
            have hq' := hq.symm
            rw [Bool.and_eq_true, Bool.not_eq_true', decide_eq_true_eq] at hq'
            exact nodeR_flag hp most k _ _ (by omega) (by rw [withB_length]; exact hg'.1.len) (hg'.1.s12.with he.1 false) (sub_withB false hil he.2 hg'.1.sub) hq'.1 hq'.2
end Go.Proofs.YtilbbnjfaoldoaaGreatDoor
