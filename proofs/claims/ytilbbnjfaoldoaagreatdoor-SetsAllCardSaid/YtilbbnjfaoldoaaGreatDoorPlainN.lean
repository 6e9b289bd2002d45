/- Cores. In plain Lean. -/
import Derived.Test.YtilbbnjfaoldoaaGreatDoorPlainM
import Derived.Test.YtilbbnjfaoldoaaGreatDoorPlainK
namespace Go.Proofs.YtilbbnjfaoldoaaGreatDoor
open Go Go.RowKit

theorem pick_all (p : Prob) : pick p (allN p) = p := by
  have h : (List.range p.rules.length).map (rget p.rules) = p.rules := by
    apply List.ext_getElem
    · simp
    · intro i h1 h2
      simp [rget, h2]
  cases p with
  | mk b r => unfold pick allN; rw [h]
theorem sol_pick {p : Prob} {ns : List Nat} {b : List Bnd} {l : List Nat} : Sol (pick p ns) b l ↔ l.length = p.bounds.length ∧ (∀ n ∈ ns, possB (setsB l) (rget p.rules n) = true) ∧ Tight (setsB l) b := by
  constructor
  · intro h
    refine ⟨h.len, fun n hn => ?_, h.tight⟩
    obtain ⟨i, hi, rfl⟩ := List.mem_iff_getElem.1 hn
    have := h.rules i (by simpa [pick] using hi)
    rwa [pick_get hi] at this
  · rintro ⟨h1, h2, h3⟩
    refine ⟨h1, fun i hi => ?_, h3⟩
    have hi' : i < ns.length := by simpa [pick] using hi
    rw [pick_get hi']
    exact h2 _ (List.getElem_mem hi')
theorem none_iff {p : Prob} (hp : probOk p = true) : solsP p = [] ↔ ∀ l, ¬ Sol p (padB p.bounds) l := by
  constructor
  · intro h l hl
    have := (solsP_mem hp l).2 hl
    rw [h] at this; cases this
  · intro h
    apply List.eq_nil_iff_forall_not_mem.2
    intro l hl
    exact h l ((solsP_mem hp l).1 hl)
/-- With fewer rules there are no fewer solutions. -/
theorem none_fewer {p : Prob} {ms ns : List Nat} (hm : probOk (pick p ms) = true) (hn : probOk (pick p ns) = true) (h : ∀ x ∈ ms, x ∈ ns) (h0 : solsP (pick p ms) = []) : solsP (pick p ns) = [] := by
  rw [none_iff hm] at h0
  rw [none_iff hn]
  intro l hl
  have h1 := sol_pick.1 hl
  exact h0 l (sol_pick.2 ⟨h1.1, fun x hx => h1.2.1 x (h x hx), h1.2.2⟩)
theorem search_one {p : Prob} (hp : probOk p = true) (h : (searchR p 1).opn = false) : ((searchR p 1).sols.length == 0) = (solsP p).isEmpty := by
  have := search_sols hp (m := 1) (by decide) h
  have h1 : ((1 : Nat) : Int) = 1 := rfl
  rw [h1] at this
  rw [this, List.length_take]
  cases solsP p with
  | nil => rfl
  | cons a l => simp
theorem noneB_iff {p : Prob} {ns : List Nat} (hp : probOk (pick p ns) = true) (h : (noneR p ns).opn = false) : noneB p ns = (solsP (pick p ns)).isEmpty := by
  unfold noneB
  rw [h]
  simp only [Bool.false_eq_true, if_false]
  exact search_one hp h
theorem erase_eraseN {α : Type} : ∀ (ws : List α) {i k : Nat}, i ≤ k → (ws.eraseIdx i).eraseIdx k = (ws.eraseIdx (k + 1)).eraseIdx i
  | [], i, k, _ => by simp
  | w :: ws, 0, k, _ => by simp
  | w :: ws, i + 1, 0, h => absurd h (by omega)
  | w :: ws, i + 1, k + 1, h => by simp [erase_eraseN ws (show i ≤ k by omega)]
theorem mem_eraseIdx {α : Type} {ws : List α} {i : Nat} {x : α} (h : x ∈ ws.eraseIdx i) : x ∈ ws := (List.eraseIdx_sublist ws i).subset h
/-- What is left of some rules when a core is looked for. -/
structure CoreIn (p : Prob) (ns : List Nat) : Prop where
  few : ns.length ≤ 12
  low : ∀ n ∈ ns, n < p.rules.length
theorem CoreIn.ok {p : Prob} (hp : probOk p = true) {ns : List Nat} (h : CoreIn p ns) : probOk (pick p ns) = true := pick_ok hp h.few h.low
theorem CoreIn.erase {p : Prob} {ns : List Nat} (h : CoreIn p ns) (i : Nat) : CoreIn p (ns.eraseIdx i) := ⟨Nat.le_trans (List.eraseIdx_sublist ns i).length_le h.few, fun n hn => h.low n (mem_eraseIdx hn)⟩
theorem CoreIn.all {p : Prob} (hp : probOk p = true) : CoreIn p (allN p) := ⟨by unfold allN; rw [List.length_range]; exact (probOk_fit hp).2.2.1, fun n hn => by unfold allN at hn; exact List.mem_range.1 hn⟩
theorem coreRed_some {p : Prob} (hp : probOk p = true) : ∀ (i : Nat) (ns c : List Nat), CoreIn p ns → i ≤ ns.length → solsP (pick p ns) = [] → (∀ j, i ≤ j → j < ns.length → solsP (pick p (ns.eraseIdx j)) ≠ []) → coreRed p i ns = some c →
    List.Sublist c ns ∧ solsP (pick p c) = [] ∧ ∀ j, j < c.length → solsP (pick p (c.eraseIdx j)) ≠ []
  | 0, ns, c, _, _, h0, hj, h => by
    unfold coreRed at h
    cases h
    exact ⟨List.Sublist.refl _, h0, fun j hjl => hj j (Nat.zero_le _) hjl⟩
  | i + 1, ns, c, hc, hi, h0, hj, h => by
    rw [coreRed_succ] at h
    cases ho : (noneR p (ns.eraseIdx i)).opn
    · rw [ho] at h
      simp only [Bool.false_eq_true, if_false] at h
      have hok := (hc.erase i).ok hp
      have hb := noneB_iff hok ho
      cases hn : noneB p (ns.eraseIdx i)
      · rw [hn] at h
        simp only [Bool.false_eq_true, if_false] at h
        refine coreRed_some hp i ns c hc (by omega) h0 (fun j h1 h2 => ?_) h
        by_cases hij : j = i
        · subst hij
          intro he
          rw [he, hn] at hb; cases hb
        · exact hj j (by omega) h2
      · rw [hn] at h
        simp only [if_true] at h
        have he : solsP (pick p (ns.eraseIdx i)) = [] := by
          rw [hn] at hb
          exact List.isEmpty_iff.1 hb.symm
        have hlen : (ns.eraseIdx i).length = ns.length - 1 := List.length_eraseIdx_of_lt (by omega)
        have ih := coreRed_some hp i (ns.eraseIdx i) c (hc.erase i) (by omega) he (fun j h1 h2 => by
          rw [erase_eraseN ns h1]
          intro hx
          exact hj (j + 1) (by omega) (by omega) (none_fewer ((hc.erase (j + 1)).erase i |>.ok hp) ((hc.erase (j + 1)).ok hp) (fun x hx => mem_eraseIdx hx) hx)) h
        exact ⟨ih.1.trans (List.eraseIdx_sublist ns i), ih.2⟩
    · rw [ho] at h
      simp only [if_true] at h
      cases h
theorem coreRed_whole {p : Prob} (hp : probOk p = true) (h6 : openN (padB p.bounds) ≤ 6) : ∀ (i : Nat) (ns : List Nat), CoreIn p ns → coreRed p i ns ≠ none
  | 0, _, _ => fun h => by unfold coreRed at h; cases h
  | i + 1, ns, hc => by
    rw [coreRed_succ]
    have ho : (noneR p (ns.eraseIdx i)).opn = false := search_whole ((hc.erase i).ok hp) 1 h6
    rw [ho]
    simp only [Bool.false_eq_true, if_false]
    split
    · exact coreRed_whole hp h6 i _ (hc.erase i)
    · exact coreRed_whole hp h6 i _ hc
/-- The core of a problem whose search is whole. -/
theorem core_cases {p : Prob} (hp : probOk p = true) (h : (searchR p 100).opn = false) :
    (solsP p ≠ [] → coreR p = ([], 5)) ∧
    (solsP p = [] → (coreR p = ([], 8) ∧ 6 < openN (padB p.bounds)) ∨ ∃ c, coreR p = (c, 0) ∧ List.Sublist c (allN p) ∧ solsP (pick p c) = [] ∧ ∀ j, j < c.length → solsP (pick p (c.eraseIdx j)) ≠ []) := by
  have h1 := (search_fewer hp (m1 := 1) (m2 := 100) (by decide) (by decide) h).1
  have ho : (noneR p (allN p)).opn = false := by unfold noneR; rw [pick_all]; exact h1
  have hb := noneB_iff (p := p) (ns := allN p) (by rw [pick_all]; exact hp) ho
  rw [pick_all] at hb
  unfold coreR
  rw [hp, ho, hb]
  simp only [if_true, Bool.false_eq_true, if_false]
  constructor
  · intro hne
    cases hs : solsP p with
    | nil => exact absurd hs hne
    | cons a l => rfl
  · intro he
    rw [he]
    simp only [List.isEmpty_nil, if_true]
    cases hr : coreRed p p.rules.length (allN p) with
    | none =>
      refine .inl ⟨rfl, ?_⟩
      by_cases h6 : openN (padB p.bounds) ≤ 6
      · exact absurd hr (coreRed_whole hp h6 _ _ (CoreIn.all hp))
      · omega
    | some c =>
      refine .inr ⟨c, rfl, ?_⟩
      exact coreRed_some hp p.rules.length (allN p) c (CoreIn.all hp) (by unfold allN; rw [List.length_range]; exact Nat.le_refl _) (by rw [pick_all]; exact he) (fun j h1 h2 => by unfold allN at h2; rw [List.length_range] at h2; omega) hr
end Go.Proofs.YtilbbnjfaoldoaaGreatDoor
