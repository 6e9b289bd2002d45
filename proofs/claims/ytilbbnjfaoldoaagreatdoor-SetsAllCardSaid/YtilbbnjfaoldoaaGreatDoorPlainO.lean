/- All sets between bounds, in order. In plain Lean. -/
import Derived.Test.YtilbbnjfaoldoaaGreatDoorPlainN
namespace Go.Proofs.YtilbbnjfaoldoaaGreatDoor
open Go Go.RowKit

theorem and_step : ∀ (m s x : Nat), s &&& m = s → x &&& m = x → x < s → x ≤ (s - 1) &&& m
  | 0, s, x, hs, _, h => by rw [Nat.and_zero] at hs; omega
  | m + 1, s, x, hs, hx, h => by
    have hm2 : (m + 1) / 2 < m + 1 := by omega
    have ds : s / 2 &&& (m + 1) / 2 = s / 2 := by rw [← Nat.and_div_two, hs]
    have dx : x / 2 &&& (m + 1) / 2 = x / 2 := by rw [← Nat.and_div_two, hx]
    have e1 : ((s - 1) &&& (m + 1)) / 2 = (s - 1) / 2 &&& (m + 1) / 2 := Nat.and_div_two
    have bx : x % 2 ≤ (m + 1) % 2 := by
      have h1 : (x &&& (m + 1)).testBit 0 = x.testBit 0 := by rw [hx]
      rw [Nat.testBit_and, Nat.testBit_zero, Nat.testBit_zero] at h1
      rcases Nat.mod_two_eq_zero_or_one x with h2 | h2
      · omega
      · rcases Nat.mod_two_eq_zero_or_one (m + 1) with h3 | h3
        · rw [h2, h3] at h1; simp at h1
        · omega
    by_cases hc : s % 2 = 1
    · have h2 : (s - 1) / 2 = s / 2 := by omega
      rw [h2, ds] at e1
      omega
    · have h2 : (s - 1) / 2 = s / 2 - 1 := by omega
      rw [h2] at e1
      have b1 : ((s - 1) &&& (m + 1)) % 2 = (m + 1) % 2 := by
        have h1 : ((s - 1) &&& (m + 1)).testBit 0 = ((s - 1).testBit 0 && (m + 1).testBit 0) := Nat.testBit_and _ _ _
        rw [Nat.testBit_zero, Nat.testBit_zero, Nat.testBit_zero] at h1
        have h3 : (s - 1) % 2 = 1 := by omega
        rw [h3] at h1
        simp only [decide_true, Bool.true_and, decide_eq_decide] at h1
        have h4 := Nat.mod_two_eq_zero_or_one ((s - 1) &&& (m + 1))
        have h5 := Nat.mod_two_eq_zero_or_one (m + 1)
        omega
      have hlt : x / 2 < s / 2 ∨ x / 2 = s / 2 := by omega
      rcases hlt with hlt | heq
      · have ih := and_step ((m + 1) / 2) (s / 2) (x / 2) ds dx hlt
        omega
      · omega
/-- The sets in a set, from one of them down. -/
def subsD : Nat → Nat → Nat → List Nat
  | 0, _, _ => []
  | k + 1, m, s => s :: (if s = 0 then [] else subsD k m (sAnd (s - 1) m))
def subsL (m : Nat) : List Nat := subsD (m + 1) m m
theorem sAnd_pred {m s : Nat} (h : s ≠ 0) : sAnd (s - 1) m < s := by
  unfold sAnd
  have := Nat.and_le_left (n := s - 1) (m := m)
  omega
theorem sAnd_self2 (a m : Nat) : sAnd (sAnd a m) m = sAnd a m := by
  apply Nat.eq_of_testBit_eq
  intro i
  rw [sAnd_testBit, sAnd_testBit]
  cases a.testBit i <;> cases m.testBit i <;> rfl
theorem subsD_mem : ∀ (k m s : Nat), s < k → sAnd s m = s → ∀ x, x ∈ subsD k m s ↔ sAnd x m = x ∧ x ≤ s
  | 0, _, _, h, _ => absurd h (Nat.not_lt_zero _)
  | k + 1, m, s, h, hs => fun x => by
    unfold subsD
    rw [List.mem_cons]
    by_cases h0 : s = 0
    · rw [if_pos h0]
      constructor
      · rintro (rfl | h)
        · exact ⟨hs, Nat.le_refl _⟩
        · cases h
      · rintro ⟨_, h2⟩
        exact .inl (by omega)
    · rw [if_neg h0, subsD_mem k m (sAnd (s - 1) m) (by have := sAnd_pred (m := m) h0; omega) (sAnd_self2 _ _)]
      constructor
      · rintro (rfl | ⟨h1, h2⟩)
        · exact ⟨hs, Nat.le_refl _⟩
        · exact ⟨h1, by have := sAnd_pred (m := m) h0; omega⟩
      · rintro ⟨h1, h2⟩
        by_cases hx : x = s
        · exact .inl hx
        · exact .inr ⟨h1, and_step m s x hs h1 (by omega)⟩
theorem subsD_nodup : ∀ (k m s : Nat), s < k → sAnd s m = s → (subsD k m s).Nodup
  | 0, _, _, h, _ => absurd h (Nat.not_lt_zero _)
  | k + 1, m, s, h, hs => by
    unfold subsD
    rw [List.nodup_cons]
    by_cases h0 : s = 0
    · rw [if_pos h0]; exact ⟨(fun h => by cases h), List.nodup_nil⟩
    · rw [if_neg h0]
      have hlt := sAnd_pred (m := m) h0
      refine ⟨fun hm => ?_, subsD_nodup k m _ (by omega) (sAnd_self2 _ _)⟩
      have := ((subsD_mem k m _ (by omega) (sAnd_self2 _ _) s).1 hm).2
      omega
theorem sAnd_idem (m : Nat) : sAnd m m = m := by
  apply Nat.eq_of_testBit_eq
  intro i
  rw [sAnd_testBit, Bool.and_self]
theorem and_le (x m : Nat) (h : sAnd x m = x) : x ≤ m := by
  rw [← h]; exact Nat.and_le_right
/-- All sets between bounds, in the order of the enumeration. -/
def waysE : List Bnd → List (List Nat)
  | [] => [[]]
  | b :: bs => (subsL (sDiff b.can b.inn)).flatMap fun s => (waysE bs).map fun x => sOr b.inn s :: x
/-- One set between the bounds of one variable. -/
def Betw (b : Bnd) (x : Nat) : Prop := ∀ e, (b.inn.testBit e = true → x.testBit e = true) ∧ (x.testBit e = true → b.can.testBit e = true)
theorem sub_betw {b : Bnd} (hs : ∀ e, b.inn.testBit e = true → b.can.testBit e = true) {s : Nat} (h : sAnd s (sDiff b.can b.inn) = s) : Betw b (sOr b.inn s) := fun e => by
  rw [sOr_testBit]
  have he : s.testBit e = (s.testBit e && (b.can.testBit e && !b.inn.testBit e)) := by
    conv => lhs; rw [← h]
    rw [sAnd_testBit, sDiff_testBit]
  refine ⟨fun h1 => by rw [h1]; rfl, fun h1 => ?_⟩
  rw [Bool.or_eq_true] at h1
  rcases h1 with h1 | h1
  · exact hs e h1
  · rw [h1, Bool.true_and] at he
    have := he.symm
    rw [Bool.and_eq_true] at this
    exact this.1
theorem betw_sub {b : Bnd} {x : Nat} (h : Betw b x) : ∃ s, sAnd s (sDiff b.can b.inn) = s ∧ sOr b.inn s = x := by
  refine ⟨sDiff x b.inn, ?_, ?_⟩
  · apply Nat.eq_of_testBit_eq
    intro e
    rw [sAnd_testBit, sDiff_testBit, sDiff_testBit]
    have := (h e).2
    cases hx : x.testBit e
    · rfl
    · rw [this hx]; cases b.inn.testBit e <;> rfl
  · apply Nat.eq_of_testBit_eq
    intro e
    rw [sOr_testBit, sDiff_testBit]
    have := (h e).1
    cases hb : b.inn.testBit e
    · cases x.testBit e <;> rfl
    · rw [this hb]; rfl
theorem waysE_mem : ∀ (bs : List Bnd), (∀ b ∈ bs, ∀ e, b.inn.testBit e = true → b.can.testBit e = true) → ∀ l, l ∈ waysE bs ↔ l.length = bs.length ∧ ∀ i (h : i < bs.length), Betw bs[i] (nget l i)
  | [], _ => fun l => by
    unfold waysE
    rw [List.mem_singleton]
    constructor
    · rintro rfl; exact ⟨rfl, fun i h => absurd h (Nat.not_lt_zero _)⟩
    · rintro ⟨h, _⟩; exact List.length_eq_zero_iff.1 h
  | b :: bs, hs => fun l => by
    have ih := waysE_mem bs (fun b' hb' => hs b' (by simp [hb']))
    have hb := hs b (by simp)
    unfold waysE
    rw [List.mem_flatMap]
    constructor
    · rintro ⟨s, h1, h2⟩
      obtain ⟨x, hx, rfl⟩ := List.mem_map.1 h2
      obtain ⟨e1, e2⟩ := (ih x).1 hx
      have hsub := ((subsD_mem _ _ _ (Nat.lt_succ_self _) (sAnd_idem _) s).1 h1).1
      refine ⟨by simp [e1], fun i hi => ?_⟩
      cases i with
      | zero => exact sub_betw hb hsub
      | succ i => exact e2 i (by simpa using hi)
    · rintro ⟨h1, h2⟩
      cases l with
      | nil => simp at h1
      | cons a x =>
        obtain ⟨s, e1, e2⟩ := betw_sub (h2 0 (by simp))
        refine ⟨s, (subsD_mem _ _ _ (Nat.lt_succ_self _) (sAnd_idem _) s).2 ⟨e1, and_le _ _ e1⟩, List.mem_map.2 ⟨x, (ih x).2 ⟨by simpa using h1, fun i hi => h2 (i + 1) (by simpa using hi)⟩, ?_⟩⟩
        show sOr b.inn s :: x = a :: x
        have e3 : sOr b.inn s = a := e2
        rw [e3]
theorem sOr_inj {a s t m : Nat} (hs : sAnd s (sDiff m a) = s) (ht : sAnd t (sDiff m a) = t) (h : sOr a s = sOr a t) : s = t := by
  apply Nat.eq_of_testBit_eq
  intro e
  have h1 : (sOr a s).testBit e = (sOr a t).testBit e := by rw [h]
  rw [sOr_testBit, sOr_testBit] at h1
  have es : s.testBit e = (s.testBit e && (m.testBit e && !a.testBit e)) := by
    conv => lhs; rw [← hs]
    rw [sAnd_testBit, sDiff_testBit]
  have et : t.testBit e = (t.testBit e && (m.testBit e && !a.testBit e)) := by
    conv => lhs; rw [← ht]
    rw [sAnd_testBit, sDiff_testBit]
  cases ha : a.testBit e
  · rw [ha] at h1; simpa using h1
  · rw [ha] at es et
    rw [es, et]; simp
theorem waysE_nodup : ∀ (bs : List Bnd), (waysE bs).Nodup
  | [] => by unfold waysE; simp
  | b :: bs => by
    unfold waysE
    have ih := waysE_nodup bs
    have hn := subsD_nodup (sDiff b.can b.inn + 1) (sDiff b.can b.inn) (sDiff b.can b.inn) (Nat.lt_succ_self _) (sAnd_idem _)
    have hm := subsD_mem (sDiff b.can b.inn + 1) (sDiff b.can b.inn) (sDiff b.can b.inn) (Nat.lt_succ_self _) (sAnd_idem _)
    show List.Pairwise _ _
    rw [List.pairwise_flatMap]
    refine ⟨fun s _ => ?_, ?_⟩
    · rw [List.pairwise_map]
      exact List.Pairwise.imp (fun h h' => h (List.cons.inj h').2) ih
    · refine List.Pairwise.imp_of_mem (fun {s t} hs ht hne => ?_) hn
      intro x hx y hy hxy
      obtain ⟨x', _, rfl⟩ := List.mem_map.1 hx
      obtain ⟨y', _, rfl⟩ := List.mem_map.1 hy
      exact hne (sOr_inj ((hm s).1 hs).1 ((hm t).1 ht).1 (List.cons.inj hxy).1)
end Go.Proofs.YtilbbnjfaoldoaaGreatDoor
