/- The rules in another order. In plain Lean. -/
import Derived.Test.YtilbbnjfaoldoaaGreatDoorPlainJ
namespace Go.Proofs.YtilbbnjfaoldoaaGreatDoor
open Go Go.RowKit

theorem pick_get {p : Prob} {ns : List Nat} {i : Nat} (h : i < ns.length) : rget (pick p ns).rules i = rget p.rules ns[i] := by
  unfold pick rget
  simp [h]
theorem pick_rules {p : Prob} {ns : List Nat} (hn : ∀ n ∈ ns, n < p.rules.length) : ∀ i, i < (pick p ns).rules.length → ∃ j, j < p.rules.length ∧ rget (pick p ns).rules i = rget p.rules j := fun i hi => by
  have hi' : i < ns.length := by simpa [pick] using hi
  exact ⟨ns[i], hn _ (List.getElem_mem hi'), pick_get hi'⟩
theorem rules_pick {p : Prob} {ns : List Nat} (hn : ∀ i, i < p.rules.length → i ∈ ns) : ∀ i, i < p.rules.length → ∃ j, j < (pick p ns).rules.length ∧ rget p.rules i = rget (pick p ns).rules j := fun i hi => by
  obtain ⟨j, hj, rfl⟩ := List.mem_iff_getElem.1 (hn i hi)
  exact ⟨j, by simpa [pick] using hj, (pick_get hj).symm⟩
theorem fix_rules {p q : Prob} (h : ∀ i, i < q.rules.length → ∃ j, j < p.rules.length ∧ rget q.rules i = rget p.rules j) {b : List Bnd} (hf : Fix p b) : Fix q b := fun i hi => by
  obtain ⟨j, hj, he⟩ := h i hi
  rw [he]
  exact hf j hj
/-- The same rules, in another order. -/
structure Perm (p : Prob) (ns : List Nat) : Prop where
  few : ns.length = p.rules.length
  low : ∀ n ∈ ns, n < p.rules.length
  all : ∀ i, i < p.rules.length → i ∈ ns
theorem perm_ok {p : Prob} {ns : List Nat} (hp : probOk p = true) (h : Perm p ns) : probOk (pick p ns) = true := pick_ok hp (by rw [h.few]; exact (probOk_fit hp).2.2.1) h.low
theorem order_one {p q : Prob} (hp : probOk p = true) (hq : probOk q = true) (hb : q.bounds = p.bounds) (hr : ∀ i, i < q.rules.length → ∃ j, j < p.rules.length ∧ rget q.rules i = rget p.rules j) (h : (propR p).2 = -1) :
    Tight (propR p).1.1 (propR q).1.1 ∧ (propR q).2 = -1 := by
  have hg : Good p (propR p).1 := run_good hp true
  have hfix : Fix p (propR p).1.1 := runR_fix hp (Good.first hp) h
  have ht : Tight (propR p).1.1 (padB q.bounds) := by rw [hb]; exact run_tight hp (Good.first hp)
  exact run_inside hp hq hr hfix hg.s12 hg.sub hg.len (Good.first hq) ht
theorem order_eq {p : Prob} {ns : List Nat} (hp : probOk p = true) (h : Perm p ns) (hn : (propR p).2 = -1) : (propR (pick p ns)).2 = -1 ∧ (propR (pick p ns)).1.1 = (propR p).1.1 ∧
    probOk ⟨(propR p).1.1.take p.bounds.length, (pick p ns).rules⟩ = true ∧ propR ⟨(propR p).1.1.take p.bounds.length, (pick p ns).rules⟩ = (((propR p).1.1, []), -1) := by
  have hq := perm_ok hp h
  have h1 := order_one hp hq rfl (pick_rules h.low) hn
  have h2 := order_one hq hp rfl (rules_pick h.all) h1.2
  have hgp : Good p (propR p).1 := run_good hp true
  have hgq : Good (pick p ns) (propR (pick p ns)).1 := run_good hq true
  obtain ⟨hsa, hpad⟩ := sound_at hp
  have hfix : Fix p (propR p).1.1 := runR_fix hp (Good.first hp) hn
  refine ⟨h1.2, (h1.1.antisymm h2.1 (by rw [hgp.len, hgq.len])).symm, probOk_with hq hsa.len hsa.s12 hsa.sub, ?_⟩
  show runR _ true (padB ((propR p).1.1.take p.bounds.length), []) = _
  rw [hpad]
  exact runR_none (p := ⟨(propR p).1.1.take p.bounds.length, (pick p ns).rules⟩) (fix_rules (p := p) (pick_rules h.low) hfix)
theorem order_bad {p : Prob} {ns : List Nat} (hp : probOk p = true) (h : Perm p ns) (hn : (propR p).2 ≠ -1) : (propR (pick p ns)).2 ≠ -1 := fun h1 => hn (order_one (perm_ok hp h) hp rfl (rules_pick h.all) h1).2
/-- One rule put in among the first ones. -/
def putAt (ns : List Nat) (k i : Nat) : List Nat := ns.take k ++ i :: ns.drop k
theorem mem_putAt {ns : List Nat} {k i x : Nat} : x ∈ putAt ns k i ↔ x = i ∨ x ∈ ns := by
  unfold putAt
  rw [List.mem_append, List.mem_cons]
  constructor
  · rintro (h | h | h)
    · exact .inr (List.mem_of_mem_take h)
    · exact .inl h
    · exact .inr (List.mem_of_mem_drop h)
  · rintro (h | h)
    · exact .inr (.inl h)
    · rw [← List.take_append_drop k ns, List.mem_append] at h
      rcases h with h | h
      · exact .inl h
      · exact .inr (.inr h)
theorem putAt_length (ns : List Nat) (k i : Nat) : (putAt ns k i).length = ns.length + 1 := by
  unfold putAt
  rw [List.length_append, List.length_cons, List.length_take, List.length_drop]; omega
/-- The cells of some rules. -/
def rCells (c : Nat → Value) (ns : List Nat) : List Value := ns.flatMap fun n => [c (n * 4), c (n * 4 + 1), c (n * 4 + 2), c (n * 4 + 3)]
theorem rCells_cons (c : Nat → Value) (n : Nat) (ns : List Nat) : rCells c (n :: ns) = [c (n * 4), c (n * 4 + 1), c (n * 4 + 2), c (n * 4 + 3)] ++ rCells c ns := rfl
theorem rCells_take (c : Nat → Value) : ∀ (k : Nat) (ns : List Nat), (rCells c ns).take (k * 4) = rCells c (ns.take k)
  | 0, _ => rfl
  | _ + 1, [] => by simp [rCells]
  | k + 1, n :: ns => by
    rw [List.take_succ_cons, rCells_cons, rCells_cons, ← rCells_take c k ns, show (k + 1) * 4 = 4 + k * 4 by omega]
    exact List.take_length_add_append (l₁ := [c (n * 4), c (n * 4 + 1), c (n * 4 + 2), c (n * 4 + 3)]) _
theorem rCells_drop (c : Nat → Value) : ∀ (k : Nat) (ns : List Nat), (rCells c ns).drop (k * 4) = rCells c (ns.drop k)
  | 0, _ => rfl
  | _ + 1, [] => by simp [rCells]
  | k + 1, n :: ns => by
    rw [List.drop_succ_cons, rCells_cons, ← rCells_drop c k ns, show (k + 1) * 4 = 4 + k * 4 by omega]
    exact List.drop_length_add_append (l₁ := [c (n * 4), c (n * 4 + 1), c (n * 4 + 2), c (n * 4 + 3)]) _
theorem rCells_put (c : Nat → Value) (ns : List Nat) (k i : Nat) : (rCells c ns).take (k * 4) ++ [c (i * 4), c (i * 4 + 1), c (i * 4 + 2), c (i * 4 + 3)] ++ (rCells c ns).drop (k * 4) = rCells c (putAt ns k i) := by
  unfold putAt
  rw [rCells_take, rCells_drop, List.append_assoc]
  unfold rCells
  rw [List.flatMap_append, List.flatMap_cons]
theorem rCells_get (c : Nat → Value) : ∀ (ns : List Nat) (i : Nat) (h : i < ns.length) (j : Nat), j < 4 → (rCells c ns)[i * 4 + j]? = some (c (ns[i] * 4 + j))
  | n :: ns, 0, _, j, hj => by
    rw [rCells_cons]
    have : j = 0 ∨ j = 1 ∨ j = 2 ∨ j = 3 := by omega
    rcases this with rfl | rfl | rfl | rfl <;> rfl
  | n :: ns, i + 1, h, j, hj => by
    rw [rCells_cons, List.getElem?_append_right (by simp; omega)]
    have := rCells_get c ns i (by simpa using h) j hj
    rw [show (i + 1) * 4 + j - [c (n * 4), c (n * 4 + 1), c (n * 4 + 2), c (n * 4 + 3)].length = i * 4 + j by simp; omega]
    exact this
theorem rCells_length (c : Nat → Value) (ns : List Nat) : (rCells c ns).length = ns.length * 4 := by
  induction ns with
  | nil => rfl
  | cons n ns ih => rw [rCells_cons, List.length_append, ih]; simp; omega
end Go.Proofs.YtilbbnjfaoldoaaGreatDoor
