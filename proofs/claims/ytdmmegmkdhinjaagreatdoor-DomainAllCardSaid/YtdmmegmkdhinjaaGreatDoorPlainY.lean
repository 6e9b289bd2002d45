/- The rules in another order. In plain Lean. -/
import Derived.Test.YtdmmegmkdhinjaaGreatDoorPlainU
namespace Go.Proofs.YtdmmegmkdhinjaaGreatDoor
open Go Go.RowKit

def pickD (p : Dp) (ns : List Nat) : Dp := ⟨p.doms, ns.map (drget p.rules)⟩
theorem pick_get {p : Dp} {ns : List Nat} {i : Nat} (h : i < ns.length) : drget (pickD p ns).rules i = drget p.rules ns[i] := by
  unfold pickD drget
  simp [h]
/-- The same rules, in another order. -/
structure Perm (p : Dp) (ns : List Nat) : Prop where
  few : ns.length = p.rules.length
  low : ∀ n ∈ ns, n < p.rules.length
  all : ∀ i, i < p.rules.length → i ∈ ns
theorem perm_mem {p : Dp} {ns : List Nat} (h : Perm p ns) (r : Dr) : r ∈ p.rules ↔ r ∈ (pickD p ns).rules := by
  constructor
  · intro hr
    obtain ⟨i, hi, rfl⟩ := List.mem_iff_getElem.1 hr
    exact List.mem_map.2 ⟨i, h.all i hi, by simp [drget, hi]⟩
  · intro hr
    obtain ⟨i, hi, rfl⟩ := List.mem_map.1 hr
    exact drget_mem (h.low i hi)
theorem perm_ok {p : Dp} {ns : List Nat} (hp : probD p = true) (h : Perm p ns) : probD (pickD p ns) = true := by
  have hpp := probD_parts hp
  have hl : (pickD p ns).rules.length = p.rules.length := by show (ns.map _).length = _; rw [List.length_map, h.few]
  refine probD_yes (by show inB (p.doms.length : Nat) 1 8 = true; unfold inB; simp; omega) (by rw [hl]; have := hpp.2.2.1; omega) (fun j _ => hpp.2.2.2.1 j) (fun j hj => ?_)
  have hj' : j < ns.length := by rw [h.few, ← hl]; exact hj
  rw [pick_get hj']
  exact hpp.2.2.2.2 _ (h.low _ (List.getElem_mem hj'))
theorem prop_take {p : Dp} (hp : probD p = true) : ((propD p).1.take p.doms.length).length = p.doms.length ∧ padD ((propD p).1.take p.doms.length) = (propD p).1 := by
  have hg : Good (propD p) := run_good hp (padD_ok hp)
  have hn8 := (probD_parts hp).2.1
  have hl : ((propD p).1.take p.doms.length).length = p.doms.length := by rw [List.length_take, hg.f.len]; omega
  refine ⟨hl, nat_ext (by rw [padD_length (by rw [hl]; exact hn8), hg.f.len]) fun i _ => ?_⟩
  rw [padD_get]
  by_cases hi : i < p.doms.length
  · exact nget_take hi
  · rw [nget_len (by rw [hl]; omega)]
    have := run_sub (p := p) (rs := true) (padD p.doms) i
    rw [padD_get, nget_len (f := p.doms) (by omega)] at this
    have h0 : nget (propD p).1 i = 0 := by
      by_cases hz : nget (propD p).1 i = 0
      · exact hz
      · exact absurd rfl (Sub.nz this (hg.f.lt i) hz)
    exact h0.symm
theorem void_iff {p : Dp} (hp : probD p = true) : ((propD p).1.take p.doms.length).contains 0 = true ↔ Void p (propD p).1 := by
  have ht := prop_take hp
  constructor
  · intro h
    rw [List.contains_iff_mem] at h
    obtain ⟨i, hi, e⟩ := List.mem_iff_getElem.1 h
    rw [ht.1] at hi
    exact ⟨i, hi, by rw [← nget_take hi]; unfold nget; rw [List.getElem?_eq_getElem (by rw [ht.1]; exact hi)]; exact e⟩
  · rintro ⟨y, hy, e⟩
    rw [List.contains_iff_mem, ← e, ← nget_take hy]
    unfold nget
    rw [List.getElem?_eq_getElem (by rw [ht.1]; exact hy)]
    exact List.getElem_mem _
/-- With the rules in another order the same is left, and nothing more goes. -/
theorem order_same {p : Dp} {ns : List Nat} (hp : probD p = true) (h : Perm p ns) (hv : ¬ Void p (propD p).1) : (propD (pickD p ns)).1 = (propD p).1 ∧
    probD ⟨(propD p).1.take p.doms.length, (pickD p ns).rules⟩ = true ∧ propD ⟨(propD p).1.take p.doms.length, (pickD p ns).rules⟩ = ((propD p).1, []) := by
  have hq := perm_ok hp h
  have hg : Good (propD p) := run_good hp (padD_ok hp)
  have ht := prop_take hp
  have hc : Closed p.rules (propD p).1 := (run_fix hp (padD_ok hp)).resolve_left hv
  have hok : probD ⟨(propD p).1.take p.doms.length, (pickD p ns).rules⟩ = true := probD_doms hq ht.1 fun i => by rw [← padD_get, ht.2]; exact hg.f.lt i
  refine ⟨run_order hp hq rfl (perm_mem h) (show Fok (padD (pickD p ns).doms) from padD_ok (p := p) hp) hv, hok, ?_⟩
  show runD _ true (padD ((propD p).1.take p.doms.length)) = _
  rw [ht.2]
  exact run_keep hok (by show ((propD p).1.take p.doms.length).length ≤ _; rw [List.length_take]; exact Nat.min_le_right _ _) (fun r hr => hc r ((perm_mem h r).2 hr)) (by show NzD ((propD p).1.take p.doms.length).length _; rw [ht.1]; exact Void.not hv)
theorem order_void {p : Dp} {ns : List Nat} (hp : probD p = true) (h : Perm p ns) (hv : Void p (propD p).1) : Void (pickD p ns) (propD (pickD p ns)).1 := by
  refine Classical.byContradiction fun hn => ?_
  have := run_order (p := pickD p ns) (q := p) (rs := true) (rs' := true) (perm_ok hp h) hp rfl (fun r => (perm_mem h r).symm) (show Fok (padD p.doms) from padD_ok (p := p) hp) hn
  exact hn (by show Void (pickD p ns) (runD (pickD p ns) true (padD p.doms)).1; rw [← this]; exact hv)
/-- One rule put in among the first ones. -/
def putAt (ns : List Nat) (k i : Nat) : List Nat := ns.take k ++ i :: ns.drop k
theorem mem_putAt {ns : List Nat} {k i x : Nat} : x ∈ putAt ns k i ↔ x = i ∨ x ∈ ns := by
  unfold putAt
  rw [List.mem_append, List.mem_cons]
  constructor
  · rintro (h | h | h)
    · exact .inr (List.mem_of_mem_take h)
    · exact .inl h
    · exact .inr (List.mem_of_mem_drop h)
  · rintro (h | h)
    · exact .inr (.inl h)
    · rw [← List.take_append_drop k ns, List.mem_append] at h
      rcases h with h | h
      · exact .inl h
      · exact .inr (.inr h)
theorem putAt_length (ns : List Nat) (k i : Nat) : (putAt ns k i).length = ns.length + 1 := by
  unfold putAt
  rw [List.length_append, List.length_cons, List.length_take, List.length_drop]; omega
/-- The cells of some rules. -/
def rCells (c : Nat → Value) (ns : List Nat) : List Value := ns.flatMap fun n => [c (n * 4), c (n * 4 + 1), c (n * 4 + 2), c (n * 4 + 3)]
theorem rCells_cons (c : Nat → Value) (n : Nat) (ns : List Nat) : rCells c (n :: ns) = [c (n * 4), c (n * 4 + 1), c (n * 4 + 2), c (n * 4 + 3)] ++ rCells c ns := rfl
theorem rCells_take (c : Nat → Value) : ∀ (k : Nat) (ns : List Nat), (rCells c ns).take (k * 4) = rCells c (ns.take k)
  | 0, _ => rfl
  | _ + 1, [] => by simp [rCells]
  | k + 1, n :: ns => by
    rw [List.take_succ_cons, rCells_cons, rCells_cons, ← rCells_take c k ns, show (k + 1) * 4 = 4 + k * 4 by omega]
    exact List.take_length_add_append (l₁ := [c (n * 4), c (n * 4 + 1), c (n * 4 + 2), c (n * 4 + 3)]) _
theorem rCells_drop (c : Nat → Value) : ∀ (k : Nat) (ns : List Nat), (rCells c ns).drop (k * 4) = rCells c (ns.drop k)
  | 0, _ => rfl
  | _ + 1, [] => by simp [rCells]
  | k + 1, n :: ns => by
    rw [List.drop_succ_cons, rCells_cons, ← rCells_drop c k ns, show (k + 1) * 4 = 4 + k * 4 by omega]
    exact List.drop_length_add_append (l₁ := [c (n * 4), c (n * 4 + 1), c (n * 4 + 2), c (n * 4 + 3)]) _
theorem rCells_put (c : Nat → Value) (ns : List Nat) (k i : Nat) : (rCells c ns).take (k * 4) ++ [c (i * 4), c (i * 4 + 1), c (i * 4 + 2), c (i * 4 + 3)] ++ (rCells c ns).drop (k * 4) = rCells c (putAt ns k i) := by
  unfold putAt
  rw [rCells_take, rCells_drop, List.append_assoc]
  unfold rCells
  rw [List.flatMap_append, List.flatMap_cons]
theorem rCells_get (c : Nat → Value) : ∀ (ns : List Nat) (i : Nat) (h : i < ns.length) (j : Nat), j < 4 → (rCells c ns)[i * 4 + j]? = some (c (ns[i] * 4 + j))
  | n :: ns, 0, _, j, hj => by
    rw [rCells_cons]
    have : j = 0 ∨ j = 1 ∨ j = 2 ∨ j = 3 := by omega
    rcases this with rfl | rfl | rfl | rfl <;> rfl
  | n :: ns, i + 1, h, j, hj => by
    rw [rCells_cons, List.getElem?_append_right (by simp; omega)]
    have := rCells_get c ns i (by simpa using h) j hj
    rw [show (i + 1) * 4 + j - [c (n * 4), c (n * 4 + 1), c (n * 4 + 2), c (n * 4 + 3)].length = i * 4 + j by simp; omega]
    exact this
theorem rCells_length (c : Nat → Value) (ns : List Nat) : (rCells c ns).length = ns.length * 4 := by
  induction ns with
  | nil => rfl
  | cons n ns ih => rw [rCells_cons, List.length_append, ih]; simp; omega
end Go.Proofs.YtdmmegmkdhinjaaGreatDoor
