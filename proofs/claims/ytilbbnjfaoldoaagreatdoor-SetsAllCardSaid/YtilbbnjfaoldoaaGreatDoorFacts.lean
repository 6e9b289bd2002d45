/- Rows of facts of the call's own: slices.Clone, slices.Concat of two. -/
import Derived.Test.YtilbbnjfaoldoaaGreatDoorSameD
import Derived.Test.YtilbbnjfaoldoaaGreatDoorBG
import Derived.Lib.AppendZeros
namespace Go.Proofs.YtilbbnjfaoldoaaGreatDoor
open Go Go.RowKit
attribute [local go_sem] cell_grow Oper.semAt_some

/-- A list of cells is a list of facts. -/
def FCells (cs : List Value) (w : World) (B : Nat) (fs : List Fact) : Prop := cs.length = fs.length * 5 ∧ ∀ i, i < fs.length →
  cs[i * 5]? = some (.int .i64 (fget fs i).var) ∧ cs[i * 5 + 1]? = some (.int .i64 (fget fs i).elem) ∧ cs[i * 5 + 2]? = some (.bool (fget fs i).inn) ∧ cs[i * 5 + 3]? = some (.int .i64 (fget fs i).rule) ∧ ∃ yv, cs[i * 5 + 4]? = some yv ∧ Ints w B yv (fget fs i).why
theorem FCells.below {cs : List Value} {w w' : World} {B B' : Nat} {fs : List Fact} (h : FCells cs w B fs) (hb : Below B' w w') (hB : B ≤ B') : FCells cs w' B fs :=
  ⟨h.1, fun i hi => by obtain ⟨a, b, c, d, y, e, f⟩ := h.2 i hi; exact ⟨a, b, c, d, y, e, f.below hb hB⟩⟩
theorem FCells.mono {cs : List Value} {w : World} {B B' : Nat} {fs : List Fact} (h : FCells cs w B fs) (hB : B ≤ B') : FCells cs w B' fs :=
  ⟨h.1, fun i hi => by obtain ⟨a, b, c, d, y, e, f⟩ := h.2 i hi; exact ⟨a, b, c, d, y, e, f.mono hB⟩⟩
theorem FCells.nil (w : World) (B : Nat) : FCells [] w B [] := ⟨rfl, fun _ h => absurd h (Nat.not_lt_zero _)⟩
theorem fget_append (fs gs : List Fact) (i : Nat) : fget (fs ++ gs) i = if i < fs.length then fget fs i else fget gs (i - fs.length) := by
  unfold fget
  by_cases h : i < fs.length
  · rw [if_pos h, List.getElem?_append_left h]
  · rw [if_neg h, List.getElem?_append_right (by omega)]
theorem FCells.append {cs ds : List Value} {w : World} {B : Nat} {fs gs : List Fact} (h : FCells cs w B fs) (h' : FCells ds w B gs) : FCells (cs ++ ds) w B (fs ++ gs) := by
  have hl := h.1
  refine ⟨by rw [List.length_append, List.length_append, h.1, h'.1]; omega, fun i hi => ?_⟩
  rw [fget_append]
  by_cases hlt : i < fs.length
  · rw [if_pos hlt, List.getElem?_append_left (by omega), List.getElem?_append_left (by omega), List.getElem?_append_left (by omega), List.getElem?_append_left (by omega), List.getElem?_append_left (by omega)]
    exact h.2 i hlt
  · rw [if_neg hlt, List.getElem?_append_right (by omega), List.getElem?_append_right (by omega), List.getElem?_append_right (by omega), List.getElem?_append_right (by omega), List.getElem?_append_right (by omega), hl]
    have := h'.2 (i - fs.length) (by rw [List.length_append] at hi; omega)
    rw [show (i - fs.length) * 5 = i * 5 - fs.length * 5 by omega] at this
    rw [show i * 5 + 1 - fs.length * 5 = i * 5 - fs.length * 5 + 1 by omega, show i * 5 + 2 - fs.length * 5 = i * 5 - fs.length * 5 + 2 by omega, show i * 5 + 3 - fs.length * 5 = i * 5 - fs.length * 5 + 3 by omega, show i * 5 + 4 - fs.length * 5 = i * 5 - fs.length * 5 + 4 by omega]
    exact this
theorem FCells.one {cs : List Value} {w : World} {B : Nat} {fs : List Fact} (h : FCells cs w B fs) : ∀ u ∈ cs, u.oneCell' = true := by
  intro u hu
  obtain ⟨j, hj, rfl⟩ := List.mem_iff_getElem.1 hu
  obtain ⟨a, b, c, d, y, e, f⟩ := h.2 (j / 5) (by have := h.1; omega)
  have hj? : cs[j]? = some cs[j] := List.getElem?_eq_getElem hj
  have : j % 5 = 0 ∨ j % 5 = 1 ∨ j % 5 = 2 ∨ j % 5 = 3 ∨ j % 5 = 4 := by omega
  rcases this with hm | hm | hm | hm | hm
  · rw [show j / 5 * 5 = j by omega, hj?, Option.some.injEq] at a; rw [a]; rfl
  · rw [show j / 5 * 5 + 1 = j by omega, hj?, Option.some.injEq] at b; rw [b]; rfl
  · rw [show j / 5 * 5 + 2 = j by omega, hj?, Option.some.injEq] at c; rw [c]; rfl
  · rw [show j / 5 * 5 + 3 = j by omega, hj?, Option.some.injEq] at d; rw [d]; rfl
  · rw [show j / 5 * 5 + 4 = j by omega, hj?, Option.some.injEq] at e
    obtain ⟨ya, yc, rfl⟩ := f.slice
    rw [e]; rfl
/-- A slice of facts, its cells as a list. -/
theorem Fcts.list {w : World} {B : Nat} {v : Value} {fs : List Fact} (h : Fcts w B v fs) : ∃ c, Row w B 5 v fs.length c ∧ FCells ((List.range (fs.length * 5)).map c) w B fs ∧ ∀ j, j < fs.length * 5 → ((List.range (fs.length * 5)).map c)[j]? = some (c j) := by
  obtain ⟨c, hr, hc⟩ := h
  have key : ∀ j, j < fs.length * 5 → ((List.range (fs.length * 5)).map c)[j]? = some (c j) := fun j hj => by simp [hj]
  refine ⟨c, hr, ⟨by simp, fun i hi => ?_⟩, key⟩
  obtain ⟨h1, h2, h3, h4, h5⟩ := hc i hi
  rw [key _ (by omega), key _ (by omega), key _ (by omega), key _ (by omega), key _ (by omega)]
  exact ⟨by rw [h1], by rw [h2], by rw [h3], by rw [h4], _, rfl, h5⟩
/-- A row of facts of the call's own. -/
theorem FCells.fcts {cs : List Value} {w : World} {B base : Nat} {v : Value} {fs : List Fact} (h : FCells cs w B fs) (ho : w.ownsRow base 56 5 v fs.length cs) (hB : B ≤ w.heap.size) (hn : fs.length ≤ 140737488355328) : Fcts w w.heap.size v fs := by
  refine ⟨fun i => cs[i]?.getD undef, ownsRow_row ho hn (fun i hi => ?_), fun i hi => ?_⟩
  · have : i < cs.length := by rw [h.1]; exact hi
    rw [List.getElem?_eq_getElem this]; rfl
  · obtain ⟨e1, e2, e3, e4, yv, e5, e6⟩ := h.2 i hi
    simp only [e1, e2, e3, e4, e5, Option.getD_some]
    exact ⟨trivial, trivial, trivial, trivial, e6.mono hB⟩
/-- A row stays where a cell of a block of another type is laid anew. -/
theorem own_setF {w : World} {base b : Nat} {e : TypeId} {sz : Nat} {v x : Value} {n : Nat} {xs : List Value} {c : Array Value} {t : TypeId} {o : Nat} (h : w.ownsRow base e sz v n xs) (hb : w.heap[b]? = some (.cells c t (0, 0))) (ht : t ≠ e) : (w.setCell ⟨b, o, none⟩ x).ownsRow base e sz v n xs :=
  own_type h fun k c' hk => (Below.heap_setCell _ _ _ _ (fun hh => by
    have hh' : k = b := hh
    subst hh'
    rw [hb] at hk
    cases hk
    exact ht rfl)).trans hk
end Go.Proofs.YtilbbnjfaoldoaaGreatDoor
